/- What lies in memory, said of lists: byte slices, slices of structs; growth of a world. Of no program. -/
import Derived.WalkKit
import Derived.WalkSpells
import Derived.WalkLawsBesides
import Derived.Lib.Hide
namespace Sc
open Go Go.RowKit

/-- The blocks of G are as they were. -/
def Same (G : Nat → Prop) (w w' : World) : Prop := ∀ k, G k → w'.heap[k]? = w.heap[k]?

theorem Same.refl (G : Nat → Prop) (w : World) : Same G w w := fun _ _ => rfl
theorem Same.trans {G : Nat → Prop} {a b c : World} (h : Same G a b) (k : Same G b c) : Same G a c := fun i hi => (k i hi).trans (h i hi)
theorem Same.mono {G G' : Nat → Prop} {w w' : World} (h : Same G w w') (hg : ∀ k, G' k → G k) : Same G' w w' := fun i hi => h i (hg i hi)
theorem Same.cell {G : Nat → Prop} {w w' : World} (h : Same G w w') {b : Nat} (hb : G b) (o : Nat) : w'.cell? ⟨b, o, none⟩ = w.cell? ⟨b, o, none⟩ := World.cell?_of_block (h b hb)

/-- Of the blocks that were there only those of S may have turned. -/
structure Chg (S : Nat → Prop) (w w' : World) : Prop where
  os : w'.os = w.os
  tape : w'.tape = w.tape
  output : w'.output = w.output
  size : w.heap.size ≤ w'.heap.size
  block : ∀ k, k < w.heap.size → ¬ S k → w'.heap[k]? = w.heap[k]?

theorem Chg.refl (S : Nat → Prop) (w : World) : Chg S w w := ⟨rfl, rfl, rfl, Nat.le_refl _, fun _ _ _ => rfl⟩
theorem Chg.trans {S : Nat → Prop} {a b c : World} (h : Chg S a b) (k : Chg S b c) : Chg S a c :=
  ⟨k.os.trans h.os, k.tape.trans h.tape, k.output.trans h.output, Nat.le_trans h.size k.size, fun i hi hs => (k.block i (Nat.lt_of_lt_of_le hi h.size) hs).trans (h.block i hi hs)⟩
/-- Two steps, the second of which may turn what is new, too. -/
theorem Chg.trans' {S T : Nat → Prop} {a b c : World} (h : Chg S a b) (k : Chg T b c) (ht : ∀ i, i < a.heap.size → T i → S i) : Chg S a c :=
  ⟨k.os.trans h.os, k.tape.trans h.tape, k.output.trans h.output, Nat.le_trans h.size k.size, fun i hi hs => (k.block i (Nat.lt_of_lt_of_le hi h.size) (fun h' => hs (ht i hi h'))).trans (h.block i hi hs)⟩
theorem Chg.mono {S T : Nat → Prop} {w w' : World} (h : Chg S w w') (ht : ∀ i, i < w.heap.size → S i → T i) : Chg T w w' :=
  ⟨h.os, h.tape, h.output, h.size, fun i hi hs => h.block i hi (fun h' => hs (ht i hi h'))⟩
theorem Chg.of_below {w w' : World} {B : Nat} (h : Below B w w') {S : Nat → Prop} (hs : ∀ k, k < w.heap.size → B ≤ k → S k) : Chg S w w' :=
  ⟨h.os, h.tape, h.output, h.size, fun k hk hn => h.block k (Nat.lt_of_not_le fun h' => hn (hs k hk h'))⟩
theorem Chg.below {S : Nat → Prop} {w w' : World} (h : Chg S w w') {B : Nat} (hB : B ≤ w.heap.size) (hs : ∀ k, k < B → ¬ S k) : Below B w w' :=
  ⟨h.os, h.tape, h.output, h.size, fun k hk => h.block k (Nat.lt_of_lt_of_le hk hB) (hs k hk)⟩
theorem Chg.same {S G : Nat → Prop} {w w' : World} (h : Chg S w w') (hG : ∀ k, G k → k < w.heap.size ∧ ¬ S k) : Same G w w' := fun k hk => h.block k (hG k hk).1 (hG k hk).2
theorem Chg.cell {S : Nat → Prop} {w w' : World} (h : Chg S w w') {b o : Nat} {v : Value} (hb : ¬ S b) (hc : w.cell? ⟨b, o, none⟩ = some v) : w'.cell? ⟨b, o, none⟩ = some v := by
  rw [World.cell?_of_block (w := w) (h.block b (World.block_lt_of_cell? w _ hc) hb)]; exact hc

theorem same_of_below {w w' : World} {B : Nat} (h : Below B w w') {G : Nat → Prop} (hG : ∀ k, G k → k < B) : Same G w w' := fun k hk => h.block k (hG k hk)

/-- A number that an int holds. -/
def I64 (n : Int) : Prop := -9223372036854775808 ≤ n ∧ n ≤ 9223372036854775807

/-- What an element of a slice is, at a block and a place in it. -/
abbrev Elem (α : Type) := World → Nat → Nat → α → Prop
def Stable {α : Type} (G : Nat → Prop) (E : Elem α) : Prop := ∀ w w' b o x, Same G w w' → G b → E w b o x → E w' b o x

/-- A slice value reads as a list: each element k cells. -/
def SlAt {α : Type} (G : Nat → Prop) (k : Nat) (E : Elem α) (w : World) (v : Value) (l : List α) : Prop :=
  ∃ p c, v = .slice p l.length c ∧ l.length ≤ c ∧ c ≤ 9223372036854775807 ∧ (p = none → c = 0) ∧
    (∀ i (h : i < l.length), ∃ b o, p = some ⟨b, o, none⟩ ∧ G b ∧ E w b (o + i * k) l[i])

theorem SlAt.nil {α : Type} {G : Nat → Prop} {k : Nat} {E : Elem α} {w : World} : SlAt G k E w (.slice none 0 0) [] :=
  ⟨none, 0, rfl, Nat.le_refl _, by omega, fun _ => rfl, fun i h => absurd h (by simp)⟩
theorem SlAt.same {α : Type} {G : Nat → Prop} {k : Nat} {E : Elem α} {w w' : World} {v : Value} {l : List α} (h : SlAt G k E w v l) (hs : Same G w w') (hE : Stable G E) : SlAt G k E w' v l := by
  obtain ⟨p, c, rfl, h1, h2, h3, h4⟩ := h
  refine ⟨p, c, rfl, h1, h2, h3, fun i hi => ?_⟩
  obtain ⟨b, o, hp, hb, he⟩ := h4 i hi
  exact ⟨b, o, hp, hb, hE _ _ _ _ _ hs hb he⟩
theorem SlAt.mono {α : Type} {G G' : Nat → Prop} {k : Nat} {E E' : Elem α} {w : World} {v : Value} {l : List α} (h : SlAt G k E w v l) (hg : ∀ b, G b → G' b) (hE : ∀ b o x, E w b o x → E' w b o x) : SlAt G' k E' w v l := by
  obtain ⟨p, c, rfl, h1, h2, h3, h4⟩ := h
  refine ⟨p, c, rfl, h1, h2, h3, fun i hi => ?_⟩
  obtain ⟨b, o, hp, hb, he⟩ := h4 i hi
  exact ⟨b, o, hp, hg _ hb, hE _ _ _ he⟩
/-- The base, once, where there is an element. -/
theorem SlAt.base {α : Type} {G : Nat → Prop} {k : Nat} {E : Elem α} {w : World} {v : Value} {l : List α} (h : SlAt G k E w v l) :
    (l = [] ∧ ∃ p c, v = .slice p 0 c ∧ c ≤ 9223372036854775807 ∧ (p = none → c = 0)) ∨
    ∃ b o c, v = .slice (some ⟨b, o, none⟩) l.length c ∧ 0 < l.length ∧ l.length ≤ c ∧ c ≤ 9223372036854775807 ∧ G b ∧ ∀ i (h : i < l.length), E w b (o + i * k) l[i] := by
  obtain ⟨p, c, rfl, h1, h2, h3, h4⟩ := h
  by_cases hl : l.length = 0
  · have : l = [] := List.length_eq_zero_iff.1 hl
    subst this
    exact .inl ⟨rfl, p, c, rfl, h2, h3⟩
  · obtain ⟨b, o, rfl, hb, _⟩ := h4 0 (by omega)
    refine .inr ⟨b, o, c, rfl, by omega, h1, h2, hb, fun i hi => ?_⟩
    obtain ⟨b', o', hp, _, he⟩ := h4 i hi
    cases hp
    exact he

def byteE : Elem UInt8 := fun w b o x => w.cell? ⟨b, o, none⟩ = some (.int .u8 (x.toNat : Int))
def intE : Elem Int := fun w b o x => w.cell? ⟨b, o, none⟩ = some (.int .i64 x) ∧ I64 x
theorem byteE_stable (G : Nat → Prop) : Stable G byteE := fun w w' b o x hs hb h => by unfold byteE at *; rw [hs.cell hb]; exact h
theorem intE_stable (G : Nat → Prop) : Stable G intE := fun w w' b o x hs hb h => by unfold intE at *; rw [hs.cell hb]; exact h

abbrev Bytes := List UInt8
def BytesAt (G : Nat → Prop) : World → Value → Bytes → Prop := SlAt G 1 byteE
def IntsAt (G : Nat → Prop) : World → Value → List Int → Prop := SlAt G 1 intE
theorem BytesAt.same {G : Nat → Prop} {w w' : World} {v : Value} {l : Bytes} (h : BytesAt G w v l) (hs : Same G w w') : BytesAt G w' v l := SlAt.same h hs (byteE_stable G)
theorem BytesAt.mono {G G' : Nat → Prop} {w : World} {v : Value} {l : Bytes} (h : BytesAt G w v l) (hg : ∀ b, G b → G' b) : BytesAt G' w v l := SlAt.mono h hg (fun _ _ _ h => h)
theorem IntsAt.same {G : Nat → Prop} {w w' : World} {v : Value} {l : List Int} (h : IntsAt G w v l) (hs : Same G w w') : IntsAt G w' v l := SlAt.same h hs (intE_stable G)

/-- Bytes that may be written. -/
def byteW : Elem UInt8 := fun w b o x => w.cell? ⟨b, o, none⟩ = some (.int .u8 (x.toNat : Int)) ∧ w.frozen? ⟨b, o, none⟩ = false
theorem byteW_stable (G : Nat → Prop) : Stable G byteW := fun w w' b o x hs hb h => ⟨by rw [hs.cell hb]; exact h.1, by rw [World.frozen?_of_block (w := w) (hs b hb)]; exact h.2⟩
def BytesW (G : Nat → Prop) : World → Value → Bytes → Prop := SlAt G 1 byteW
theorem BytesW.bytes {G : Nat → Prop} {w : World} {v : Value} {l : Bytes} (h : BytesW G w v l) : BytesAt G w v l := SlAt.mono h (fun _ h => h) (fun _ _ _ h => h.1)
theorem BytesW.same {G : Nat → Prop} {w w' : World} {v : Value} {l : Bytes} (h : BytesW G w v l) (hs : Same G w w') : BytesW G w' v l := SlAt.same h hs (byteW_stable G)
theorem BytesW.mono {G G' : Nat → Prop} {w : World} {v : Value} {l : Bytes} (h : BytesW G w v l) (hg : ∀ b, G b → G' b) : BytesW G' w v l := SlAt.mono h hg (fun _ _ _ h => h)
structure Put where
  lba : Int
  data : Bytes
structure Tx where
  time : Int
  puts : List Put
structure Read where
  lba : Int
  data : Bytes
  own : Bool
structure Hist where
  state : Int
  begun : Int
  time : Int
  since : Int
  upto : Int
  reads : List Read
  puts : List Put

def putE (G : Nat → Prop) : Elem Put := fun w b o x => w.cell? ⟨b, o, none⟩ = some (.int .i64 x.lba) ∧ I64 x.lba ∧ ∃ v, w.cell? ⟨b, o + 1, none⟩ = some v ∧ BytesAt G w v x.data
theorem putE_stable (G : Nat → Prop) : Stable G (putE G) := fun w w' b o x hs hb ⟨h1, h2, v, h3, h4⟩ =>
  ⟨by rw [hs.cell hb]; exact h1, h2, v, by rw [hs.cell hb]; exact h3, h4.same hs⟩
def PutsAt (G : Nat → Prop) : World → Value → List Put → Prop := SlAt G 2 (putE G)
theorem PutsAt.same {G : Nat → Prop} {w w' : World} {v : Value} {l : List Put} (h : PutsAt G w v l) (hs : Same G w w') : PutsAt G w' v l := SlAt.same h hs (putE_stable G)
theorem putE.mono {G G' : Nat → Prop} {w : World} {b o : Nat} {x : Put} (hg : ∀ b, G b → G' b) (h : putE G w b o x) : putE G' w b o x :=
  ⟨h.1, h.2.1, let ⟨v, h3, h4⟩ := h.2.2; ⟨v, h3, h4.mono hg⟩⟩
theorem PutsAt.mono {G G' : Nat → Prop} {w : World} {v : Value} {l : List Put} (h : PutsAt G w v l) (hg : ∀ b, G b → G' b) : PutsAt G' w v l := SlAt.mono h hg (fun _ _ _ h => h.mono hg)

def txE (G : Nat → Prop) : Elem Tx := fun w b o x => w.cell? ⟨b, o, none⟩ = some (.int .i64 x.time) ∧ I64 x.time ∧ ∃ v, w.cell? ⟨b, o + 1, none⟩ = some v ∧ PutsAt G w v x.puts
theorem txE_stable (G : Nat → Prop) : Stable G (txE G) := fun w w' b o x hs hb ⟨h1, h2, v, h3, h4⟩ =>
  ⟨by rw [hs.cell hb]; exact h1, h2, v, by rw [hs.cell hb]; exact h3, h4.same hs⟩
def TxsAt (G : Nat → Prop) : World → Value → List Tx → Prop := SlAt G 2 (txE G)
theorem TxsAt.same {G : Nat → Prop} {w w' : World} {v : Value} {l : List Tx} (h : TxsAt G w v l) (hs : Same G w w') : TxsAt G w' v l := SlAt.same h hs (txE_stable G)
/-- A transaction, as a value. -/
def TxAt (G : Nat → Prop) (w : World) (v : Value) (t : Tx) : Prop := ∃ pv, v = .agg #[.int .i64 t.time, pv] ∧ I64 t.time ∧ PutsAt G w pv t.puts
theorem TxAt.mono {G G' : Nat → Prop} {w : World} {v : Value} {t : Tx} (h : TxAt G w v t) (hg : ∀ b, G b → G' b) : TxAt G' w v t := let ⟨pv, h1, h2, h3⟩ := h; ⟨pv, h1, h2, h3.mono hg⟩
theorem TxAt.same {G : Nat → Prop} {w w' : World} {v : Value} {t : Tx} (h : TxAt G w v t) (hs : Same G w w') : TxAt G w' v t := let ⟨pv, h1, h2, h3⟩ := h; ⟨pv, h1, h2, h3.same hs⟩

def readE (G : Nat → Prop) : Elem Read := fun w b o x => w.cell? ⟨b, o, none⟩ = some (.int .i64 x.lba) ∧ I64 x.lba ∧ (∃ v, w.cell? ⟨b, o + 1, none⟩ = some v ∧ BytesAt G w v x.data) ∧ w.cell? ⟨b, o + 2, none⟩ = some (.bool x.own)
theorem readE_stable (G : Nat → Prop) : Stable G (readE G) := fun w w' b o x hs hb ⟨h1, h2, ⟨v, h3, h4⟩, h5⟩ =>
  ⟨by rw [hs.cell hb]; exact h1, h2, ⟨v, by rw [hs.cell hb]; exact h3, h4.same hs⟩, by rw [hs.cell hb]; exact h5⟩
def ReadsAt (G : Nat → Prop) : World → Value → List Read → Prop := SlAt G 3 (readE G)
theorem ReadsAt.same {G : Nat → Prop} {w w' : World} {v : Value} {l : List Read} (h : ReadsAt G w v l) (hs : Same G w w') : ReadsAt G w' v l := SlAt.same h hs (readE_stable G)
def histE (G : Nat → Prop) : Elem Hist := fun w b o x => w.cell? ⟨b, o, none⟩ = some (.int .i64 x.state) ∧ w.cell? ⟨b, o + 1, none⟩ = some (.int .i64 x.begun) ∧ w.cell? ⟨b, o + 2, none⟩ = some (.int .i64 x.time) ∧
  w.cell? ⟨b, o + 3, none⟩ = some (.int .i64 x.since) ∧ w.cell? ⟨b, o + 4, none⟩ = some (.int .i64 x.upto) ∧ (I64 x.state ∧ I64 x.begun ∧ I64 x.time ∧ I64 x.since ∧ I64 x.upto) ∧
  (∃ v, w.cell? ⟨b, o + 5, none⟩ = some v ∧ ReadsAt G w v x.reads) ∧ ∃ v, w.cell? ⟨b, o + 6, none⟩ = some v ∧ PutsAt G w v x.puts
theorem histE_stable (G : Nat → Prop) : Stable G (histE G) := fun w w' b o x hs hb ⟨h1, h2, h3, h4, h5, h6, ⟨v, h7, h8⟩, u, h9, h10⟩ =>
  ⟨by rw [hs.cell hb]; exact h1, by rw [hs.cell hb]; exact h2, by rw [hs.cell hb]; exact h3, by rw [hs.cell hb]; exact h4, by rw [hs.cell hb]; exact h5, h6, ⟨v, by rw [hs.cell hb]; exact h7, h8.same hs⟩, u, by rw [hs.cell hb]; exact h9, h10.same hs⟩
def HistsAt (G : Nat → Prop) : World → Value → List Hist → Prop := SlAt G 7 (histE G)
theorem HistsAt.same {G : Nat → Prop} {w w' : World} {v : Value} {l : List Hist} (h : HistsAt G w v l) (hs : Same G w w') : HistsAt G w' v l := SlAt.same h hs (histE_stable G)
structure Ext where
  first : Int
  len : Int
def extE : Elem Ext := fun w b o x => w.cell? ⟨b, o, none⟩ = some (.int .i64 x.first) ∧ w.cell? ⟨b, o + 1, none⟩ = some (.int .i64 x.len) ∧ I64 x.first ∧ I64 x.len
theorem extE_stable (G : Nat → Prop) : Stable G extE := fun w w' b o x hs hb ⟨h1, h2, h3⟩ => ⟨by rw [hs.cell hb]; exact h1, by rw [hs.cell hb]; exact h2, h3⟩
def ExtsAt (G : Nat → Prop) : World → Value → List Ext → Prop := SlAt G 2 extE
theorem ExtsAt.same {G : Nat → Prop} {w w' : World} {v : Value} {l : List Ext} (h : ExtsAt G w v l) (hs : Same G w w') : ExtsAt G w' v l := SlAt.same h hs (extE_stable G)
/-- Rows of something. -/
def rowE {α : Type} (R : World → Value → α → Prop) : Elem α := fun w b o x => ∃ v, w.cell? ⟨b, o, none⟩ = some v ∧ R w v x
def boolE : Elem Bool := fun w b o x => w.cell? ⟨b, o, none⟩ = some (.bool x)
theorem below_drewN {B : Nat} {a w : World} (h : Below B a w) (n : Nat) : Below B a (w.drewN n) := ⟨h.os, h.tape, h.output, h.size, h.block⟩
theorem heap_new {w : World} {o : Obj} {b : Nat} (h : b = w.heap.size) : (w.alloc o).heap[b]? = some o := by subst h; exact heap_alloc_new w o
theorem heap_old {w : World} {o : Obj} {b : Nat} (h : b < w.heap.size) : (w.alloc o).heap[b]? = w.heap[b]? := Below.heap_alloc w o b h
/-- All blocks of G are there. -/
def Dom (G : Nat → Prop) (w : World) : Prop := ∀ k, G k → k < w.heap.size
theorem Dom.same {G : Nat → Prop} {w w' : World} (h : Dom G w) (hb : Below w.heap.size w w') : Same G w w' := fun k hk => hb.block k (h k hk)
theorem Dom.of_size {G : Nat → Prop} {w w' : World} (h : Dom G w) (hs : w.heap.size ≤ w'.heap.size) : Dom G w' := fun k hk => Nat.lt_of_lt_of_le (h k hk) hs
theorem Dom.below {G : Nat → Prop} {w w' : World} {B : Nat} (h : Dom G w) (hb : Below B w w') : Dom G w' := h.of_size hb.size

/-- What is read stays, while memory grows. -/
theorem SlAt.up {α : Type} {G : Nat → Prop} {k : Nat} {E : Elem α} {w w' : World} {v : Value} {l : List α} (h : SlAt G k E w v l) (hE : ∀ b o x, E w b o x → E w' b o x) : SlAt G k E w' v l := by
  obtain ⟨p, c, rfl, h1, h2, h3, h4⟩ := h
  refine ⟨p, c, rfl, h1, h2, h3, fun i hi => ?_⟩
  obtain ⟨b, o, hp, hb, he⟩ := h4 i hi
  exact ⟨b, o, hp, hb, hE _ _ _ he⟩
theorem cell_up {w w' : World} (hb : Below w.heap.size w w') {b o : Nat} {v : Value} (h : w.cell? ⟨b, o, none⟩ = some v) : w'.cell? ⟨b, o, none⟩ = some v :=
  (hb.cell (p := ⟨b, o, none⟩) (World.block_lt_of_cell? w _ h)).trans h
theorem BytesAt.up {G : Nat → Prop} {w w' : World} {v : Value} {l : Bytes} (h : BytesAt G w v l) (hb : Below w.heap.size w w') : BytesAt G w' v l :=
  SlAt.up h (fun _ _ _ h => cell_up hb h)
theorem BytesW.up {G : Nat → Prop} {w w' : World} {v : Value} {l : Bytes} (h : BytesW G w v l) (hb : Below w.heap.size w w') : BytesW G w' v l :=
  SlAt.up h (fun b o _ h => ⟨cell_up hb h.1, (hb.frozen (p := ⟨b, o, none⟩) (World.block_lt_of_cell? w _ h.1)).trans h.2⟩)
theorem IntsAt.up {G : Nat → Prop} {w w' : World} {v : Value} {l : List Int} (h : IntsAt G w v l) (hb : Below w.heap.size w w') : IntsAt G w' v l :=
  SlAt.up h (fun _ _ _ h => ⟨cell_up hb h.1, h.2⟩)
theorem PutsAt.up {G : Nat → Prop} {w w' : World} {v : Value} {l : List Put} (h : PutsAt G w v l) (hb : Below w.heap.size w w') : PutsAt G w' v l :=
  SlAt.up h (fun _ _ _ ⟨h1, h2, v, h3, h4⟩ => ⟨cell_up hb h1, h2, v, cell_up hb h3, h4.up hb⟩)
theorem TxsAt.up {G : Nat → Prop} {w w' : World} {v : Value} {l : List Tx} (h : TxsAt G w v l) (hb : Below w.heap.size w w') : TxsAt G w' v l :=
  SlAt.up h (fun _ _ _ ⟨h1, h2, v, h3, h4⟩ => ⟨cell_up hb h1, h2, v, cell_up hb h3, h4.up hb⟩)
theorem ExtsAt.up {G : Nat → Prop} {w w' : World} {v : Value} {l : List Ext} (h : ExtsAt G w v l) (hb : Below w.heap.size w w') : ExtsAt G w' v l :=
  SlAt.up h (fun _ _ _ h => ⟨cell_up hb h.1, cell_up hb h.2.1, h.2.2⟩)
theorem ReadsAt.up {G : Nat → Prop} {w w' : World} {v : Value} {l : List Read} (h : ReadsAt G w v l) (hb : Below w.heap.size w w') : ReadsAt G w' v l :=
  SlAt.up h (fun _ _ _ ⟨h1, h2, ⟨v, h3, h4⟩, h5⟩ => ⟨cell_up hb h1, h2, ⟨v, cell_up hb h3, h4.up hb⟩, cell_up hb h5⟩)
theorem HistsAt.up {G : Nat → Prop} {w w' : World} {v : Value} {l : List Hist} (h : HistsAt G w v l) (hb : Below w.heap.size w w') : HistsAt G w' v l :=
  SlAt.up h (fun _ _ _ ⟨h1, h2, h3, h4, h5, h6, ⟨v, h7, h8⟩, u, h9, h10⟩ => ⟨cell_up hb h1, cell_up hb h2, cell_up hb h3, cell_up hb h4, cell_up hb h5, h6, ⟨v, cell_up hb h7, h8.up hb⟩, u, cell_up hb h9, h10.up hb⟩)
theorem below_alloc (w : World) (o : Obj) : Below w.heap.size w (w.alloc o) := (Below.refl _ _).alloc (Nat.le_refl _) _
/-- An element of a slice of transactions, loaded. -/
theorem txE_txAt {G : Nat → Prop} {w : World} {b o : Nat} {t : Tx} (h : txE G w b o t) : ∃ pv, w.cell? ⟨b, o, none⟩ = some (.int .i64 t.time) ∧ w.cell? ⟨b, o + 1, none⟩ = some pv ∧ TxAt G w (.agg #[.int .i64 t.time, pv]) t ∧ pv.oneCell' = true := by
  obtain ⟨h1, h2, pv, h3, h4⟩ := h
  exact ⟨pv, h1, h3, ⟨pv, rfl, h2, h4⟩, by obtain ⟨_, _, rfl, _⟩ := h4; rfl⟩

theorem drop_cons {α : Type} (l : List α) (k : Nat) (h : k < l.length) : l.drop k = l[k] :: l.drop (k + 1) := List.drop_eq_getElem_cons h
theorem take_snoc {α : Type} (l : List α) (k : Nat) (h : k < l.length) : l.take (k + 1) = l.take k ++ [l[k]] := by
  rw [List.take_succ_eq_append_getElem h]

theorem Chg.then_up {S : Nat → Prop} {a b c : World} (h : Chg S a b) (k : Below b.heap.size b c) : Chg S a c :=
  h.trans (Chg.of_below k (fun i h1 h2 => by omega))
theorem Chg.after_up {S : Nat → Prop} {a b c : World} (k : Below a.heap.size a b) (h : Chg S b c) : Chg S a c :=
  (Chg.of_below (S := S) k (fun i h1 h2 => by omega)).trans h
/-- Is there a block? -/
def blk (n lba : Int) : Bool := decide (0 ≤ lba) && decide (lba < n)
/-- Forty noughts. -/
def zeroB : Bytes := List.replicate 40 0
/-- A law's call: it returns true. -/
def Tru (w : World) (e : Ending) (w' : World) : Prop := e = .returned (.bool true) ∧ Below w.heap.size w w'
/-- What is there. -/
def Old (w : World) (b : Nat) : Prop := b < w.heap.size
/-- New memory of a call. -/
def New (w w' : World) (b : Nat) : Prop := w.heap.size ≤ b ∧ b < w'.heap.size
theorem cell_row {w : World} {b : Nat} {c : Array Value} {t : TypeId} {fz : Nat × Nat} (h : w.heap[b]? = some (.cells c t fz)) (o : Nat) : w.cell? ⟨b, o, none⟩ = c[o]? := by simp [World.cell?, h]
theorem fz_row {w : World} {b : Nat} {c : Array Value} {t : TypeId} (h : w.heap[b]? = some (.cells c t (0, 0))) (o : Nat) : w.frozen? ⟨b, o, none⟩ = false := by simp [World.frozen?, h]
theorem heap_set_same {w : World} {b i : Nat} {cs : Array Value} {t : TypeId} {fz : Nat × Nat} (h : w.heap[b]? = some (.cells cs t fz)) (v : Value) : (w.setCell ⟨b, i, none⟩ v).heap[b]? = some (.cells (cs.setIfInBounds i v) t fz) := by
  have hb : b < w.heap.size := by
    rcases Nat.lt_or_ge b w.heap.size with hh | hh
    · exact hh
    · rw [Array.getElem?_eq_none hh] at h; cases h
  simp only [World.setCell, Array.getElem?_modify, h, if_true, Option.map_some]
  rfl
theorem chg_set (w : World) (b i : Nat) (v : Value) {S : Nat → Prop} (hS : S b) : Chg S w (w.setCell ⟨b, i, none⟩ v) :=
  ⟨by simp [World.setCell], by simp [World.setCell], by simp [World.setCell], by simp [World.setCell], fun k _ hk => Below.heap_setCell _ _ _ k (fun e => hk (by rw [e]; exact hS))⟩
theorem Below.up {a b c : World} (h : Below a.heap.size a b) (k : Below b.heap.size b c) : Below a.heap.size a c := h.trans (k.mono h.size)
/-- A slice of one Put that a call has just made. -/
theorem putsAt_one {w1 w2 : World} {n : Int} {dv : Value} {d : Bytes} (hn : I64 n) (hd : BytesAt (New w1 w2) w2 dv d) (hs : w1.heap.size ≤ w2.heap.size) (T : TypeId) :
    PutsAt (New w1 (w2.alloc (.cells #[.int .i64 n, dv] T))) (w2.alloc (.cells #[.int .i64 n, dv] T)) (.slice (some ⟨w2.heap.size, 0, none⟩) 1 1) [⟨n, d⟩] := by
  refine ⟨_, 1, rfl, Nat.le_refl _, by omega, (by intro h; cases h), fun i hi => ?_⟩
  simp only [List.length_cons, List.length_nil] at hi
  obtain rfl : i = 0 := by omega
  refine ⟨w2.heap.size, 0, rfl, ⟨hs, by simp⟩, ?_, hn, dv, ?_, (hd.up (below_alloc _ _)).mono fun b hb => ⟨hb.1, by have := hb.2; simp; omega⟩⟩
  · rw [cell_row (heap_alloc_new w2 _)]; rfl
  · rw [cell_row (heap_alloc_new w2 _)]; rfl

theorem i64_zero : I64 0 := by unfold I64; omega
end Sc
