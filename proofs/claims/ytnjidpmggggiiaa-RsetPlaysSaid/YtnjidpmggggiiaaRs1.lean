/- Texts of this claim, one behind the other: Base, Alike, Block, Clone, Find, Maps, Range, Sep, Out, Ext, Ext1, Ext2. -/
import Derived.WalkKit
import Derived.WalkSpells
import Derived.WalkLawsBesides
import Derived.Lib.Hide
import Derived.Test.YtnjidpmggggiiaaChecked
import Derived.Deep.QuietTactic
import Derived.BigQuiet
import Derived.Lib.SliceRun
import Derived.Shelf.Abstract
import Derived.Deep.LoopGhost
import Derived.ChangeMaps4
import Derived.Maps.RangeRun
import Derived.Laws.IdiomRangeMap
import Derived.Deep.AppendLies
import Derived.Deep.RegionHeld3

/- What lies in memory, said of lists: byte slices, slices of structs; growth of a world. Of no program. -/
namespace Sc
open Go Go.RowKit

/-- The blocks of G are as they were. -/
def Same (G : Nat → Prop) (w w' : World) : Prop := ∀ k, G k → w'.heap[k]? = w.heap[k]?

theorem Same.refl (G : Nat → Prop) (w : World) : Same G w w := fun _ _ => rfl
theorem Same.trans {G : Nat → Prop} {a b c : World} (h : Same G a b) (k : Same G b c) : Same G a c := fun i hi => (k i hi).trans (h i hi)
theorem Same.mono {G G' : Nat → Prop} {w w' : World} (h : Same G w w') (hg : ∀ k, G' k → G k) : Same G' w w' := fun i hi => h i (hg i hi)
theorem Same.cell {G : Nat → Prop} {w w' : World} (h : Same G w w') {b : Nat} (hb : G b) (o : Nat) : w'.cell? ⟨b, o, none⟩ = w.cell? ⟨b, o, none⟩ := World.cell?_of_block (h b hb)

/-- Of the blocks that were there only those of S may have turned. -/
structure Chg (S : Nat → Prop) (w w' : World) : Prop where
  os : w'.os = w.os
  tape : w'.tape = w.tape
  output : w'.output = w.output
  size : w.heap.size ≤ w'.heap.size
  block : ∀ k, k < w.heap.size → ¬ S k → w'.heap[k]? = w.heap[k]?

theorem Chg.refl (S : Nat → Prop) (w : World) : Chg S w w := ⟨rfl, rfl, rfl, Nat.le_refl _, fun _ _ _ => rfl⟩
theorem Chg.trans {S : Nat → Prop} {a b c : World} (h : Chg S a b) (k : Chg S b c) : Chg S a c :=
  ⟨k.os.trans h.os, k.tape.trans h.tape, k.output.trans h.output, Nat.le_trans h.size k.size, fun i hi hs => (k.block i (Nat.lt_of_lt_of_le hi h.size) hs).trans (h.block i hi hs)⟩
/-- Two steps, the second of which may turn what is new, too. -/
theorem Chg.trans' {S T : Nat → Prop} {a b c : World} (h : Chg S a b) (k : Chg T b c) (ht : ∀ i, i < a.heap.size → T i → S i) : Chg S a c :=
  ⟨k.os.trans h.os, k.tape.trans h.tape, k.output.trans h.output, Nat.le_trans h.size k.size, fun i hi hs => (k.block i (Nat.lt_of_lt_of_le hi h.size) (fun h' => hs (ht i hi h'))).trans (h.block i hi hs)⟩
theorem Chg.mono {S T : Nat → Prop} {w w' : World} (h : Chg S w w') (ht : ∀ i, i < w.heap.size → S i → T i) : Chg T w w' :=
  ⟨h.os, h.tape, h.output, h.size, fun i hi hs => h.block i hi (fun h' => hs (ht i hi h'))⟩
theorem Chg.of_below {w w' : World} {B : Nat} (h : Below B w w') {S : Nat → Prop} (hs : ∀ k, k < w.heap.size → B ≤ k → S k) : Chg S w w' :=
  ⟨h.os, h.tape, h.output, h.size, fun k hk hn => h.block k (Nat.lt_of_not_le fun h' => hn (hs k hk h'))⟩
theorem Chg.below {S : Nat → Prop} {w w' : World} (h : Chg S w w') {B : Nat} (hB : B ≤ w.heap.size) (hs : ∀ k, k < B → ¬ S k) : Below B w w' :=
  ⟨h.os, h.tape, h.output, h.size, fun k hk => h.block k (Nat.lt_of_lt_of_le hk hB) (hs k hk)⟩
theorem Chg.same {S G : Nat → Prop} {w w' : World} (h : Chg S w w') (hG : ∀ k, G k → k < w.heap.size ∧ ¬ S k) : Same G w w' := fun k hk => h.block k (hG k hk).1 (hG k hk).2
theorem Chg.cell {S : Nat → Prop} {w w' : World} (h : Chg S w w') {b o : Nat} {v : Value} (hb : ¬ S b) (hc : w.cell? ⟨b, o, none⟩ = some v) : w'.cell? ⟨b, o, none⟩ = some v := by
  rw [World.cell?_of_block (w := w) (h.block b (World.block_lt_of_cell? w _ hc) hb)]; exact hc

theorem same_of_below {w w' : World} {B : Nat} (h : Below B w w') {G : Nat → Prop} (hG : ∀ k, G k → k < B) : Same G w w' := fun k hk => h.block k (hG k hk)

/-- A number that an int holds. -/
def I64 (n : Int) : Prop := -9223372036854775808 ≤ n ∧ n ≤ 9223372036854775807

/-- What an element of a slice is, at a block and a place in it. -/
abbrev Elem (α : Type) := World → Nat → Nat → α → Prop
def Stable {α : Type} (G : Nat → Prop) (E : Elem α) : Prop := ∀ w w' b o x, Same G w w' → G b → E w b o x → E w' b o x

/-- A slice value reads as a list: each element k cells. -/
def SlAt {α : Type} (G : Nat → Prop) (k : Nat) (E : Elem α) (w : World) (v : Value) (l : List α) : Prop :=
  ∃ p c, v = .slice p l.length c ∧ l.length ≤ c ∧ c ≤ 9223372036854775807 ∧ (p = none → c = 0) ∧
    (∀ i (h : i < l.length), ∃ b o, p = some ⟨b, o, none⟩ ∧ G b ∧ E w b (o + i * k) l[i])

theorem SlAt.nil {α : Type} {G : Nat → Prop} {k : Nat} {E : Elem α} {w : World} : SlAt G k E w (.slice none 0 0) [] :=
  ⟨none, 0, rfl, Nat.le_refl _, by omega, fun _ => rfl, fun i h => absurd h (by simp)⟩
theorem SlAt.same {α : Type} {G : Nat → Prop} {k : Nat} {E : Elem α} {w w' : World} {v : Value} {l : List α} (h : SlAt G k E w v l) (hs : Same G w w') (hE : Stable G E) : SlAt G k E w' v l := by
  obtain ⟨p, c, rfl, h1, h2, h3, h4⟩ := h
  refine ⟨p, c, rfl, h1, h2, h3, fun i hi => ?_⟩
  obtain ⟨b, o, hp, hb, he⟩ := h4 i hi
  exact ⟨b, o, hp, hb, hE _ _ _ _ _ hs hb he⟩
theorem SlAt.mono {α : Type} {G G' : Nat → Prop} {k : Nat} {E E' : Elem α} {w : World} {v : Value} {l : List α} (h : SlAt G k E w v l) (hg : ∀ b, G b → G' b) (hE : ∀ b o x, E w b o x → E' w b o x) : SlAt G' k E' w v l := by
  obtain ⟨p, c, rfl, h1, h2, h3, h4⟩ := h
  refine ⟨p, c, rfl, h1, h2, h3, fun i hi => ?_⟩
  obtain ⟨b, o, hp, hb, he⟩ := h4 i hi
  exact ⟨b, o, hp, hg _ hb, hE _ _ _ he⟩
/-- The base, once, where there is an element. -/
theorem SlAt.base {α : Type} {G : Nat → Prop} {k : Nat} {E : Elem α} {w : World} {v : Value} {l : List α} (h : SlAt G k E w v l) :
    (l = [] ∧ ∃ p c, v = .slice p 0 c ∧ c ≤ 9223372036854775807 ∧ (p = none → c = 0)) ∨
    ∃ b o c, v = .slice (some ⟨b, o, none⟩) l.length c ∧ 0 < l.length ∧ l.length ≤ c ∧ c ≤ 9223372036854775807 ∧ G b ∧ ∀ i (h : i < l.length), E w b (o + i * k) l[i] := by
  obtain ⟨p, c, rfl, h1, h2, h3, h4⟩ := h
  by_cases hl : l.length = 0
  · have : l = [] := List.length_eq_zero_iff.1 hl
    subst this
    exact .inl ⟨rfl, p, c, rfl, h2, h3⟩
  · obtain ⟨b, o, rfl, hb, _⟩ := h4 0 (by omega)
    refine .inr ⟨b, o, c, rfl, by omega, h1, h2, hb, fun i hi => ?_⟩
    obtain ⟨b', o', hp, _, he⟩ := h4 i hi
    cases hp
    exact he

def byteE : Elem UInt8 := fun w b o x => w.cell? ⟨b, o, none⟩ = some (.int .u8 (x.toNat : Int))
def intE : Elem Int := fun w b o x => w.cell? ⟨b, o, none⟩ = some (.int .i64 x) ∧ I64 x
theorem byteE_stable (G : Nat → Prop) : Stable G byteE := fun w w' b o x hs hb h => by unfold byteE at *; rw [hs.cell hb]; exact h
theorem intE_stable (G : Nat → Prop) : Stable G intE := fun w w' b o x hs hb h => by unfold intE at *; rw [hs.cell hb]; exact h

abbrev Bytes := List UInt8
def BytesAt (G : Nat → Prop) : World → Value → Bytes → Prop := SlAt G 1 byteE
def IntsAt (G : Nat → Prop) : World → Value → List Int → Prop := SlAt G 1 intE
theorem BytesAt.same {G : Nat → Prop} {w w' : World} {v : Value} {l : Bytes} (h : BytesAt G w v l) (hs : Same G w w') : BytesAt G w' v l := SlAt.same h hs (byteE_stable G)
theorem BytesAt.mono {G G' : Nat → Prop} {w : World} {v : Value} {l : Bytes} (h : BytesAt G w v l) (hg : ∀ b, G b → G' b) : BytesAt G' w v l := SlAt.mono h hg (fun _ _ _ h => h)
theorem IntsAt.same {G : Nat → Prop} {w w' : World} {v : Value} {l : List Int} (h : IntsAt G w v l) (hs : Same G w w') : IntsAt G w' v l := SlAt.same h hs (intE_stable G)

/-- Bytes that may be written. -/
def byteW : Elem UInt8 := fun w b o x => w.cell? ⟨b, o, none⟩ = some (.int .u8 (x.toNat : Int)) ∧ w.frozen? ⟨b, o, none⟩ = false
theorem byteW_stable (G : Nat → Prop) : Stable G byteW := fun w w' b o x hs hb h => ⟨by rw [hs.cell hb]; exact h.1, by rw [World.frozen?_of_block (w := w) (hs b hb)]; exact h.2⟩
def BytesW (G : Nat → Prop) : World → Value → Bytes → Prop := SlAt G 1 byteW
theorem BytesW.bytes {G : Nat → Prop} {w : World} {v : Value} {l : Bytes} (h : BytesW G w v l) : BytesAt G w v l := SlAt.mono h (fun _ h => h) (fun _ _ _ h => h.1)
theorem BytesW.same {G : Nat → Prop} {w w' : World} {v : Value} {l : Bytes} (h : BytesW G w v l) (hs : Same G w w') : BytesW G w' v l := SlAt.same h hs (byteW_stable G)
theorem BytesW.mono {G G' : Nat → Prop} {w : World} {v : Value} {l : Bytes} (h : BytesW G w v l) (hg : ∀ b, G b → G' b) : BytesW G' w v l := SlAt.mono h hg (fun _ _ _ h => h)
structure Put where
  lba : Int
  data : Bytes
structure Tx where
  time : Int
  puts : List Put
structure Read where
  lba : Int
  data : Bytes
  own : Bool
structure Hist where
  state : Int
  begun : Int
  time : Int
  since : Int
  upto : Int
  reads : List Read
  puts : List Put

def putE (G : Nat → Prop) : Elem Put := fun w b o x => w.cell? ⟨b, o, none⟩ = some (.int .i64 x.lba) ∧ I64 x.lba ∧ ∃ v, w.cell? ⟨b, o + 1, none⟩ = some v ∧ BytesAt G w v x.data
theorem putE_stable (G : Nat → Prop) : Stable G (putE G) := fun w w' b o x hs hb ⟨h1, h2, v, h3, h4⟩ =>
  ⟨by rw [hs.cell hb]; exact h1, h2, v, by rw [hs.cell hb]; exact h3, h4.same hs⟩
def PutsAt (G : Nat → Prop) : World → Value → List Put → Prop := SlAt G 2 (putE G)
theorem PutsAt.same {G : Nat → Prop} {w w' : World} {v : Value} {l : List Put} (h : PutsAt G w v l) (hs : Same G w w') : PutsAt G w' v l := SlAt.same h hs (putE_stable G)
theorem putE.mono {G G' : Nat → Prop} {w : World} {b o : Nat} {x : Put} (hg : ∀ b, G b → G' b) (h : putE G w b o x) : putE G' w b o x :=
  ⟨h.1, h.2.1, let ⟨v, h3, h4⟩ := h.2.2; ⟨v, h3, h4.mono hg⟩⟩
theorem PutsAt.mono {G G' : Nat → Prop} {w : World} {v : Value} {l : List Put} (h : PutsAt G w v l) (hg : ∀ b, G b → G' b) : PutsAt G' w v l := SlAt.mono h hg (fun _ _ _ h => h.mono hg)

def txE (G : Nat → Prop) : Elem Tx := fun w b o x => w.cell? ⟨b, o, none⟩ = some (.int .i64 x.time) ∧ I64 x.time ∧ ∃ v, w.cell? ⟨b, o + 1, none⟩ = some v ∧ PutsAt G w v x.puts
theorem txE_stable (G : Nat → Prop) : Stable G (txE G) := fun w w' b o x hs hb ⟨h1, h2, v, h3, h4⟩ =>
  ⟨by rw [hs.cell hb]; exact h1, h2, v, by rw [hs.cell hb]; exact h3, h4.same hs⟩
def TxsAt (G : Nat → Prop) : World → Value → List Tx → Prop := SlAt G 2 (txE G)
theorem TxsAt.same {G : Nat → Prop} {w w' : World} {v : Value} {l : List Tx} (h : TxsAt G w v l) (hs : Same G w w') : TxsAt G w' v l := SlAt.same h hs (txE_stable G)
/-- A transaction, as a value. -/
def TxAt (G : Nat → Prop) (w : World) (v : Value) (t : Tx) : Prop := ∃ pv, v = .agg #[.int .i64 t.time, pv] ∧ I64 t.time ∧ PutsAt G w pv t.puts
theorem TxAt.mono {G G' : Nat → Prop} {w : World} {v : Value} {t : Tx} (h : TxAt G w v t) (hg : ∀ b, G b → G' b) : TxAt G' w v t := let ⟨pv, h1, h2, h3⟩ := h; ⟨pv, h1, h2, h3.mono hg⟩
theorem TxAt.same {G : Nat → Prop} {w w' : World} {v : Value} {t : Tx} (h : TxAt G w v t) (hs : Same G w w') : TxAt G w' v t := let ⟨pv, h1, h2, h3⟩ := h; ⟨pv, h1, h2, h3.same hs⟩

def readE (G : Nat → Prop) : Elem Read := fun w b o x => w.cell? ⟨b, o, none⟩ = some (.int .i64 x.lba) ∧ I64 x.lba ∧ (∃ v, w.cell? ⟨b, o + 1, none⟩ = some v ∧ BytesAt G w v x.data) ∧ w.cell? ⟨b, o + 2, none⟩ = some (.bool x.own)
theorem readE_stable (G : Nat → Prop) : Stable G (readE G) := fun w w' b o x hs hb ⟨h1, h2, ⟨v, h3, h4⟩, h5⟩ =>
  ⟨by rw [hs.cell hb]; exact h1, h2, ⟨v, by rw [hs.cell hb]; exact h3, h4.same hs⟩, by rw [hs.cell hb]; exact h5⟩
def ReadsAt (G : Nat → Prop) : World → Value → List Read → Prop := SlAt G 3 (readE G)
theorem ReadsAt.same {G : Nat → Prop} {w w' : World} {v : Value} {l : List Read} (h : ReadsAt G w v l) (hs : Same G w w') : ReadsAt G w' v l := SlAt.same h hs (readE_stable G)
def histE (G : Nat → Prop) : Elem Hist := fun w b o x => w.cell? ⟨b, o, none⟩ = some (.int .i64 x.state) ∧ w.cell? ⟨b, o + 1, none⟩ = some (.int .i64 x.begun) ∧ w.cell? ⟨b, o + 2, none⟩ = some (.int .i64 x.time) ∧
  w.cell? ⟨b, o + 3, none⟩ = some (.int .i64 x.since) ∧ w.cell? ⟨b, o + 4, none⟩ = some (.int .i64 x.upto) ∧ (I64 x.state ∧ I64 x.begun ∧ I64 x.time ∧ I64 x.since ∧ I64 x.upto) ∧
  (∃ v, w.cell? ⟨b, o + 5, none⟩ = some v ∧ ReadsAt G w v x.reads) ∧ ∃ v, w.cell? ⟨b, o + 6, none⟩ = some v ∧ PutsAt G w v x.puts
theorem histE_stable (G : Nat → Prop) : Stable G (histE G) := fun w w' b o x hs hb ⟨h1, h2, h3, h4, h5, h6, ⟨v, h7, h8⟩, u, h9, h10⟩ =>
  ⟨by rw [hs.cell hb]; exact h1, by rw [hs.cell hb]; exact h2, by rw [hs.cell hb]; exact h3, by rw [hs.cell hb]; exact h4, by rw [hs.cell hb]; exact h5, h6, ⟨v, by rw [hs.cell hb]; exact h7, h8.same hs⟩, u, by rw [hs.cell hb]; exact h9, h10.same hs⟩
def HistsAt (G : Nat → Prop) : World → Value → List Hist → Prop := SlAt G 7 (histE G)
theorem HistsAt.same {G : Nat → Prop} {w w' : World} {v : Value} {l : List Hist} (h : HistsAt G w v l) (hs : Same G w w') : HistsAt G w' v l := SlAt.same h hs (histE_stable G)
structure Ext where
  first : Int
  len : Int
def extE : Elem Ext := fun w b o x => w.cell? ⟨b, o, none⟩ = some (.int .i64 x.first) ∧ w.cell? ⟨b, o + 1, none⟩ = some (.int .i64 x.len) ∧ I64 x.first ∧ I64 x.len
theorem extE_stable (G : Nat → Prop) : Stable G extE := fun w w' b o x hs hb ⟨h1, h2, h3⟩ => ⟨by rw [hs.cell hb]; exact h1, by rw [hs.cell hb]; exact h2, h3⟩
def ExtsAt (G : Nat → Prop) : World → Value → List Ext → Prop := SlAt G 2 extE
theorem ExtsAt.same {G : Nat → Prop} {w w' : World} {v : Value} {l : List Ext} (h : ExtsAt G w v l) (hs : Same G w w') : ExtsAt G w' v l := SlAt.same h hs (extE_stable G)
/-- Rows of something. -/
def rowE {α : Type} (R : World → Value → α → Prop) : Elem α := fun w b o x => ∃ v, w.cell? ⟨b, o, none⟩ = some v ∧ R w v x
def boolE : Elem Bool := fun w b o x => w.cell? ⟨b, o, none⟩ = some (.bool x)
theorem below_drewN {B : Nat} {a w : World} (h : Below B a w) (n : Nat) : Below B a (w.drewN n) := ⟨h.os, h.tape, h.output, h.size, h.block⟩
theorem heap_new {w : World} {o : Obj} {b : Nat} (h : b = w.heap.size) : (w.alloc o).heap[b]? = some o := by subst h; exact heap_alloc_new w o
theorem heap_old {w : World} {o : Obj} {b : Nat} (h : b < w.heap.size) : (w.alloc o).heap[b]? = w.heap[b]? := Below.heap_alloc w o b h
/-- All blocks of G are there. -/
def Dom (G : Nat → Prop) (w : World) : Prop := ∀ k, G k → k < w.heap.size
theorem Dom.same {G : Nat → Prop} {w w' : World} (h : Dom G w) (hb : Below w.heap.size w w') : Same G w w' := fun k hk => hb.block k (h k hk)
theorem Dom.of_size {G : Nat → Prop} {w w' : World} (h : Dom G w) (hs : w.heap.size ≤ w'.heap.size) : Dom G w' := fun k hk => Nat.lt_of_lt_of_le (h k hk) hs
theorem Dom.below {G : Nat → Prop} {w w' : World} {B : Nat} (h : Dom G w) (hb : Below B w w') : Dom G w' := h.of_size hb.size

/-- What is read stays, while memory grows. -/
theorem SlAt.up {α : Type} {G : Nat → Prop} {k : Nat} {E : Elem α} {w w' : World} {v : Value} {l : List α} (h : SlAt G k E w v l) (hE : ∀ b o x, E w b o x → E w' b o x) : SlAt G k E w' v l := by
  obtain ⟨p, c, rfl, h1, h2, h3, h4⟩ := h
  refine ⟨p, c, rfl, h1, h2, h3, fun i hi => ?_⟩
  obtain ⟨b, o, hp, hb, he⟩ := h4 i hi
  exact ⟨b, o, hp, hb, hE _ _ _ he⟩
theorem cell_up {w w' : World} (hb : Below w.heap.size w w') {b o : Nat} {v : Value} (h : w.cell? ⟨b, o, none⟩ = some v) : w'.cell? ⟨b, o, none⟩ = some v :=
  (hb.cell (p := ⟨b, o, none⟩) (World.block_lt_of_cell? w _ h)).trans h
theorem BytesAt.up {G : Nat → Prop} {w w' : World} {v : Value} {l : Bytes} (h : BytesAt G w v l) (hb : Below w.heap.size w w') : BytesAt G w' v l :=
  SlAt.up h (fun _ _ _ h => cell_up hb h)
theorem BytesW.up {G : Nat → Prop} {w w' : World} {v : Value} {l : Bytes} (h : BytesW G w v l) (hb : Below w.heap.size w w') : BytesW G w' v l :=
  SlAt.up h (fun b o _ h => ⟨cell_up hb h.1, (hb.frozen (p := ⟨b, o, none⟩) (World.block_lt_of_cell? w _ h.1)).trans h.2⟩)
theorem IntsAt.up {G : Nat → Prop} {w w' : World} {v : Value} {l : List Int} (h : IntsAt G w v l) (hb : Below w.heap.size w w') : IntsAt G w' v l :=
  SlAt.up h (fun _ _ _ h => ⟨cell_up hb h.1, h.2⟩)
theorem PutsAt.up {G : Nat → Prop} {w w' : World} {v : Value} {l : List Put} (h : PutsAt G w v l) (hb : Below w.heap.size w w') : PutsAt G w' v l :=
  SlAt.up h (fun _ _ _ ⟨h1, h2, v, h3, h4⟩ => ⟨cell_up hb h1, h2, v, cell_up hb h3, h4.up hb⟩)
theorem TxsAt.up {G : Nat → Prop} {w w' : World} {v : Value} {l : List Tx} (h : TxsAt G w v l) (hb : Below w.heap.size w w') : TxsAt G w' v l :=
  SlAt.up h (fun _ _ _ ⟨h1, h2, v, h3, h4⟩ => ⟨cell_up hb h1, h2, v, cell_up hb h3, h4.up hb⟩)
theorem ExtsAt.up {G : Nat → Prop} {w w' : World} {v : Value} {l : List Ext} (h : ExtsAt G w v l) (hb : Below w.heap.size w w') : ExtsAt G w' v l :=
  SlAt.up h (fun _ _ _ h => ⟨cell_up hb h.1, cell_up hb h.2.1, h.2.2⟩)
theorem ReadsAt.up {G : Nat → Prop} {w w' : World} {v : Value} {l : List Read} (h : ReadsAt G w v l) (hb : Below w.heap.size w w') : ReadsAt G w' v l :=
  SlAt.up h (fun _ _ _ ⟨h1, h2, ⟨v, h3, h4⟩, h5⟩ => ⟨cell_up hb h1, h2, ⟨v, cell_up hb h3, h4.up hb⟩, cell_up hb h5⟩)
theorem HistsAt.up {G : Nat → Prop} {w w' : World} {v : Value} {l : List Hist} (h : HistsAt G w v l) (hb : Below w.heap.size w w') : HistsAt G w' v l :=
  SlAt.up h (fun _ _ _ ⟨h1, h2, h3, h4, h5, h6, ⟨v, h7, h8⟩, u, h9, h10⟩ => ⟨cell_up hb h1, cell_up hb h2, cell_up hb h3, cell_up hb h4, cell_up hb h5, h6, ⟨v, cell_up hb h7, h8.up hb⟩, u, cell_up hb h9, h10.up hb⟩)
theorem below_alloc (w : World) (o : Obj) : Below w.heap.size w (w.alloc o) := (Below.refl _ _).alloc (Nat.le_refl _) _
/-- An element of a slice of transactions, loaded. -/
theorem txE_txAt {G : Nat → Prop} {w : World} {b o : Nat} {t : Tx} (h : txE G w b o t) : ∃ pv, w.cell? ⟨b, o, none⟩ = some (.int .i64 t.time) ∧ w.cell? ⟨b, o + 1, none⟩ = some pv ∧ TxAt G w (.agg #[.int .i64 t.time, pv]) t ∧ pv.oneCell' = true := by
  obtain ⟨h1, h2, pv, h3, h4⟩ := h
  exact ⟨pv, h1, h3, ⟨pv, rfl, h2, h4⟩, by obtain ⟨_, _, rfl, _⟩ := h4; rfl⟩

theorem drop_cons {α : Type} (l : List α) (k : Nat) (h : k < l.length) : l.drop k = l[k] :: l.drop (k + 1) := List.drop_eq_getElem_cons h
theorem take_snoc {α : Type} (l : List α) (k : Nat) (h : k < l.length) : l.take (k + 1) = l.take k ++ [l[k]] := by
  rw [List.take_succ_eq_append_getElem h]

theorem Chg.then_up {S : Nat → Prop} {a b c : World} (h : Chg S a b) (k : Below b.heap.size b c) : Chg S a c :=
  h.trans (Chg.of_below k (fun i h1 h2 => by omega))
theorem Chg.after_up {S : Nat → Prop} {a b c : World} (k : Below a.heap.size a b) (h : Chg S b c) : Chg S a c :=
  (Chg.of_below (S := S) k (fun i h1 h2 => by omega)).trans h
/-- Is there a block? -/
def blk (n lba : Int) : Bool := decide (0 ≤ lba) && decide (lba < n)
/-- Forty noughts. -/
def zeroB : Bytes := List.replicate 40 0
/-- A law's call: it returns true. -/
def Tru (w : World) (e : Ending) (w' : World) : Prop := e = .returned (.bool true) ∧ Below w.heap.size w w'
/-- What is there. -/
def Old (w : World) (b : Nat) : Prop := b < w.heap.size
/-- New memory of a call. -/
def New (w w' : World) (b : Nat) : Prop := w.heap.size ≤ b ∧ b < w'.heap.size
theorem cell_row {w : World} {b : Nat} {c : Array Value} {t : TypeId} {fz : Nat × Nat} (h : w.heap[b]? = some (.cells c t fz)) (o : Nat) : w.cell? ⟨b, o, none⟩ = c[o]? := by simp [World.cell?, h]
theorem fz_row {w : World} {b : Nat} {c : Array Value} {t : TypeId} (h : w.heap[b]? = some (.cells c t (0, 0))) (o : Nat) : w.frozen? ⟨b, o, none⟩ = false := by simp [World.frozen?, h]
theorem heap_set_same {w : World} {b i : Nat} {cs : Array Value} {t : TypeId} {fz : Nat × Nat} (h : w.heap[b]? = some (.cells cs t fz)) (v : Value) : (w.setCell ⟨b, i, none⟩ v).heap[b]? = some (.cells (cs.setIfInBounds i v) t fz) := by
  have hb : b < w.heap.size := by
    rcases Nat.lt_or_ge b w.heap.size with hh | hh
    · exact hh
    · rw [Array.getElem?_eq_none hh] at h; cases h
  simp only [World.setCell, Array.getElem?_modify, h, if_true, Option.map_some]
  rfl
theorem chg_set (w : World) (b i : Nat) (v : Value) {S : Nat → Prop} (hS : S b) : Chg S w (w.setCell ⟨b, i, none⟩ v) :=
  ⟨by simp [World.setCell], by simp [World.setCell], by simp [World.setCell], by simp [World.setCell], fun k _ hk => Below.heap_setCell _ _ _ k (fun e => hk (by rw [e]; exact hS))⟩
theorem Below.up {a b c : World} (h : Below a.heap.size a b) (k : Below b.heap.size b c) : Below a.heap.size a c := h.trans (k.mono h.size)
/-- A slice of one Put that a call has just made. -/
theorem putsAt_one {w1 w2 : World} {n : Int} {dv : Value} {d : Bytes} (hn : I64 n) (hd : BytesAt (New w1 w2) w2 dv d) (hs : w1.heap.size ≤ w2.heap.size) (T : TypeId) :
    PutsAt (New w1 (w2.alloc (.cells #[.int .i64 n, dv] T))) (w2.alloc (.cells #[.int .i64 n, dv] T)) (.slice (some ⟨w2.heap.size, 0, none⟩) 1 1) [⟨n, d⟩] := by
  refine ⟨_, 1, rfl, Nat.le_refl _, by omega, (by intro h; cases h), fun i hi => ?_⟩
  simp only [List.length_cons, List.length_nil] at hi
  obtain rfl : i = 0 := by omega
  refine ⟨w2.heap.size, 0, rfl, ⟨hs, by simp⟩, ?_, hn, dv, ?_, (hd.up (below_alloc _ _)).mono fun b hb => ⟨hb.1, by have := hb.2; simp; omega⟩⟩
  · rw [cell_row (heap_alloc_new w2 _)]; rfl
  · rw [cell_row (heap_alloc_new w2 _)]; rfl

theorem i64_zero : I64 0 := by unfold I64; omega
end Sc

/- What the functions of package scarpalike give: sums that are held at a limit, bytes that are alike, a number's remainder, bytes that hang on a number. -/
namespace Go.Proofs
open Go.RowKit Sc

/-- A sum that is held at 2^40. -/
def sat (n x : Int) : Int := if 1099511627776 - n < x then 1099511627776 else n + x
def sumTo (n : Int) : List Int → Int
  | [] => n
  | x :: r => if 1099511627776 < n ∨ 1099511627776 - n < x then 1099511627776 else sumTo (n + x) r
theorem sumTo_stop (n x : Int) (r : List Int) (h : 1099511627776 < n ∨ 1099511627776 - n < x) : sumTo n (x :: r) = 1099511627776 := by rw [sumTo, if_pos h]
theorem sumTo_go (n x : Int) (r : List Int) (h1 : n ≤ 1099511627776) (h2 : x ≤ 1099511627776 - n) : sumTo n (x :: r) = sumTo (n + x) r := by
  rw [sumTo, if_neg]; omega

set_option maxHeartbeats 400000 in
theorem sum_any (n : Int) (l : List Int) (b o c : Nat) (w : World) (hn : 0 ≤ n) (hn2 : n ≤ 1099511627776) (hl : ∀ i, i < l.length → 0 ≤ l.getD i 0 ∧ l.getD i 0 ≤ 9223372036854775807) (hm : l.length ≤ 9223372036854775807)
   (hc : ∀ i, i < l.length → w.cell? ⟨b, o + i, none⟩ = some (.int .i64 (l.getD i 0))) :
    Calls Try.prog 47 #[.int .i64 n, .slice (some ⟨b, o, none⟩) l.length c] w fun e w' => e = .returned (.int .i64 (sumTo n l)) ∧ w = w' := by
  go_enter Try.func47, Try.ntmps47
  go_wp2
  go_loop [0, 5] (fun s i => ∃ k : Nat, ∃ q : Int, k ≤ l.length ∧ 0 ≤ q ∧ q ≤ 1099511627776 ∧ i = .int .i64 k ∧ s = .int .i64 q ∧ sumTo q (l.drop k) = sumTo n l) (fun _ i => l.length - (intOf i).toNat)
  case atStart => exact ⟨0, n, by omega, hn, hn2, rfl, rfl, rfl⟩
  case round =>
    obtain ⟨k, q, hk, hq, hq2, rfl, rfl, hs⟩ := hrel
    by_cases hlt : k < l.length
    · have hd : l.drop k = l.getD k 0 :: l.drop (k + 1) := by
        rw [List.drop_eq_getElem_cons hlt]; simp [List.getD, hlt]
      have hck := hc k hlt
      obtain ⟨hx0, hx1⟩ := hl k hlt
      rw [hd] at hs
      generalize l.getD k 0 = x at hs hck hx0 hx1
      have HS := Lib.hid hs
      clear hs hd hc hl
      go_wp2
      · have hst : 1099511627776 < q ∨ 1099511627776 - q < x := by assumption
        go_ret
        rw [← HS.out, sumTo_stop _ _ _ hst]
        exact ⟨rfl, rfl⟩
      · have hgo : q ≤ 1099511627776 ∧ x ≤ 1099511627776 - q := by assumption
        refine ⟨⟨k + 1, q + x, by omega, by omega, by omega, by go_num, rfl, ?_⟩, by simp [intOf]; omega⟩
        rw [← HS.out, sumTo_go _ _ _ (by omega) (by omega)]
    · have HS := Lib.hid hs
      have hk2 : k = l.length := by omega
      clear hs hc hl
      go_wp2
      go_ret
      rw [← HS.out, hk2]
      simp [sumTo]

/-- Of one more number. -/
theorem sum_one (n x : Int) (b c : Nat) (w : World) (hn : 0 ≤ n) (hn2 : n ≤ 1099511627776) (hx : 0 ≤ x) (hx2 : x ≤ 9223372036854775807) (hc : w.cell? ⟨b, 0, none⟩ = some (.int .i64 x)) :
    Calls Try.prog 47 #[.int .i64 n, .slice (some ⟨b, 0, none⟩) 1 c] w fun e w' => e = .returned (.int .i64 (sat n x)) ∧ w = w' := by
  refine (sum_any n [x] b 0 c w hn hn2 (fun i hi => ?_) (by simp) (fun i hi => ?_)).mono ?_
  · simp only [List.length_cons, List.length_nil] at hi; obtain rfl : i = 0 := by omega
    exact ⟨hx, hx2⟩
  · simp only [List.length_cons, List.length_nil] at hi; obtain rfl : i = 0 := by omega
    exact hc
  · rintro e w' ⟨rfl, rfl⟩
    refine ⟨?_, rfl⟩
    simp only [sumTo, sat]
    by_cases h : 1099511627776 - n < x
    · rw [if_pos (.inr h), if_pos h]
    · rw [if_neg (by omega), if_neg h]

theorem sat_bd {n x : Int} (hn : 0 ≤ n) (hn2 : n ≤ 1099511627776) (hx : 0 ≤ x) : 0 ≤ sat n x ∧ sat n x ≤ 1099511627776 ∧ n ≤ sat n x := by
  unfold sat; split <;> omega
theorem sat_min {m : Nat} {n x : Int} (hx : 0 ≤ x) (hn : n = min 1099511627776 (m : Int)) : sat n x = min 1099511627776 (((m + x.toNat : Nat)) : Int) := by
  unfold sat; split <;> omega

def roundN (k n : Int) : Int := if k.tmod n < 0 then k.tmod n + n else k.tmod n
theorem tmod_bd (k : Int) {n : Int} (hn : 0 < n) : -n < k.tmod n ∧ k.tmod n < n := by
  have h1 := Int.tmod_lt_of_pos k hn
  have h2 := Int.lt_tmod_of_pos k hn
  exact ⟨h2, h1⟩
theorem roundN_bd (k : Int) {n : Int} (hn : 0 < n) : 0 ≤ roundN k n ∧ roundN k n < n := by
  have := tmod_bd k hn
  unfold roundN; split <;> omega

set_option maxHeartbeats 400000 in
theorem round_any (k n : Int) (w : World) (hn : 0 < n) (hn2 : n ≤ 1099511627776) :
    Calls Try.prog 16 #[.int .i64 k, .int .i64 n] w fun e w' => e = .returned (.int .i64 (roundN k n)) ∧ w = w' := by
  have hb := tmod_bd k hn
  have hz : (n == 0) = false := by rw [beq_eq_false_iff_ne]; omega
  have hdef : roundN k n = if k.tmod n < 0 then k.tmod n + n else k.tmod n := rfl
  have HD := Lib.hid hdef
  clear hdef
  go_enter Try.func16, Try.ntmps16
  go_wp2
  · have hlt : k.tmod n < 0 := by assumption
    go_ret
    rw [HD.out, if_pos hlt]; exact ⟨rfl, rfl⟩
  · have hge : 0 ≤ k.tmod n := by assumption
    go_ret
    rw [HD.out, if_neg (by omega)]; exact ⟨rfl, rfl⟩

theorem u8_ne {x y : UInt8} : ((x.toNat : Int) != (y.toNat : Int)) = (x != y) := by
  rw [Bool.eq_iff_iff]; simp only [bne_iff_ne, ne_eq]; rw [Int.ofNat_inj, UInt8.toNat_inj]

def boolRet (b : Bool) : Ending := .returned (.bool b)
set_option maxHeartbeats 400000 in
theorem bytes_any (G : Nat → Prop) (va vb : Value) (a b : Bytes) (w : World) (ha : BytesAt G w va a) (hb : BytesAt G w vb b) :
    Calls Try.prog 18 #[va, vb] w fun e w' => e = .returned (.bool (a == b)) ∧ Below w.heap.size w w' := by
  by_cases hlen : a.length = b.length
  case neg =>
    obtain ⟨pa, ca, rfl, ha1, ha2, _⟩ := ha
    obtain ⟨pb, cb, rfl, hb1, hb2, _⟩ := hb
    have hne : (((a.length : Nat) : Int) != ((b.length : Nat) : Int)) = true := by rw [bne_iff_ne]; omega
    have hne2 : (a == b) = false := by rw [beq_eq_false_iff_ne]; intro h; exact hlen (by rw [h])
    have H2 := Lib.hid hne2
    clear hne2
    go_enter Try.func18, Try.ntmps18
    go_wp2
    go_ret
    rw [H2.out]
    exact ⟨rfl, Below.refl _ _⟩
  case pos =>
    rcases ha.base with ⟨rfl, pa, ca, rfl, ha2, _⟩ | ⟨ba, oa, ca, rfl, ha0, ha1, ha2, _, ha4⟩
    · have hb0 : b = [] := List.length_eq_zero_iff.1 (by simpa using hlen.symm)
      subst hb0
      obtain ⟨pb, cb, rfl, _⟩ := hb
      go_enter Try.func18, Try.ntmps18
      go_wp2
      go_loop [5] (fun i => i = .int .i64 0) (fun _ => 0)
      case atStart => rfl
      case round =>
        subst hrel
        go_wp2
        go_ret
        exact ⟨rfl, Below.refl _ _⟩
    rcases hb.base with ⟨rfl, pb, cb, rfl, hb2, _⟩ | ⟨bb, ob, cb, rfl, hb0, hb1, hb2, _, hb4⟩
    · simp at hlen; subst hlen; simp at ha0
    have hcells : ∀ i, i < a.length → w.cell? ⟨ba, oa + i, none⟩ = some (.int .u8 ((a.getD i 0).toNat : Int)) ∧ w.cell? ⟨bb, ob + i, none⟩ = some (.int .u8 ((b.getD i 0).toNat : Int)) := by
      intro i hi
      have h1 := ha4 i hi
      have h2 := hb4 i (by omega)
      unfold byteE at h1 h2
      rw [Nat.mul_one] at h1 h2
      simp only [List.getD, List.getElem?_eq_getElem hi, List.getElem?_eq_getElem (show i < b.length by omega), Option.getD_some]
      exact ⟨h1, h2⟩
    clear ha4 hb4 ha hb
    have HL := Lib.hid hlen
    have heq : (((a.length : Nat) : Int) != ((b.length : Nat) : Int)) = false := by rw [bne_eq_false_iff_eq]; omega
    clear hlen
    go_enter Try.func18, Try.ntmps18
    go_wp2
    go_loopw [5] (fun i wr => ∃ k : Nat, k ≤ a.length ∧ i = .int .i64 k ∧ a.take k = b.take k ∧ Below w.heap.size w wr) (fun i _ => a.length - (intOf i).toNat)
    case atStart => exact ⟨0, by omega, rfl, rfl, Below.refl _ _⟩
    case round =>
      obtain ⟨k, hk, rfl, ht, hbw⟩ := hrel
      have HT := Lib.hid ht
      clear ht
      by_cases hlt : k < a.length
      · obtain ⟨h1, h2⟩ := hcells k hlt
        have h1' := (hbw.cell (p := ⟨ba, oa + k, none⟩) (World.block_lt_of_cell? w _ h1)).trans h1
        have h2' := (hbw.cell (p := ⟨bb, ob + k, none⟩) (World.block_lt_of_cell? w _ h2)).trans h2
        have hltb : k < b.length := by rw [← HL.out]; exact hlt
        have hta := take_snoc a k hlt
        have htb := take_snoc b k hltb
        have ga : a.getD k 0 = a[k] := by simp [List.getD, hlt]
        have gb : b.getD k 0 = b[k] := by simp [List.getD, hltb]
        rw [ga] at h1'
        rw [gb] at h2'
        have HA := Lib.hid hta
        have HB := Lib.hid htb
        generalize a[k] = x at h1' HA
        generalize b[k] = y at h2' HB
        have HC := Lib.hid hcells
        clear hta htb ga gb h1 h2 hcells
        by_cases hxy : x = y
        · subst hxy
          have hd : ((x.toNat : Int) != (x.toNat : Int)) = false := by simp
          go_wp2
          go_quiet (fail)
          go_wp2
          go_roundw
          case rel => exact ⟨k + 1, by omega, by go_num, by rw [HA.out, HB.out, HT.out], by exact below_drewN hbw _⟩
          case measure => simp [intOf]; omega
        · have hd : ((x.toNat : Int) != (y.toNat : Int)) = true := by rw [u8_ne, bne_iff_ne]; exact hxy
          have HX := Lib.hid hxy
          clear hxy
          go_wp2
          go_quiet (fail)
          go_wp2
          go_ret
          refine ⟨?_, ?_⟩
          · have : (a == b) = false := by
              rw [beq_eq_false_iff_ne]; intro h
              have h1 := HA.out; rw [h, HB.out] at h1
              have h2 := (List.append_inj' h1 rfl).2
              exact HX.out (by simpa using h2.symm)
            exact congrArg boolRet this.symm
          · exact below_drewN hbw _
      · have HK := Lib.hid (show k = a.length by omega)
        clear hcells
        go_wp2
        go_ret
        refine ⟨?_, hbw⟩
        have : (a == b) = true := by
          have h := HT.out
          rw [HK.out, List.take_length, HL.out, List.take_length] at h
          rw [h]; simp
        exact congrArg boolRet this.symm

/-- How many things there are: the elements, and the bytes in them. -/
def psz (l : List Put) : Nat := l.length + (l.map fun p => p.data.length).sum
def tsz (l : List Tx) : Nat := l.length + (l.map fun t => psz t.puts).sum
theorem sum_take_succ {α : Type} (f : α → Nat) (l : List α) (k : Nat) (h : k < l.length) : ((l.take (k + 1)).map f).sum = ((l.take k).map f).sum + f l[k] := by
  rw [take_snoc l k h, List.map_append, List.sum_append]; simp

def SizeSaid (top : Int) (s : Nat) (w : World) (e : Ending) (w' : World) : Prop := ∃ n : Int, e = .returned (.int .i64 n) ∧ 0 ≤ n ∧ n ≤ 1099511627776 ∧ (n ≤ top → n = s) ∧ Below w.heap.size w w'

theorem cell_alloc_old {w : World} {o : Obj} {a : Addr} {v : Value} (h : w.cell? a = some v) : (w.alloc o).cell? a = some v := by
  rw [World.cell?_of_block (w := w) (Below.heap_alloc w o a.block (World.block_lt_of_cell? w _ h))]; exact h

set_option maxHeartbeats 400000 in
theorem puts_any (G : Nat → Prop) (v : Value) (l : List Put) (top : Int) (w : World) (hv : PutsAt G w v l) (ht : 0 ≤ top) (ht2 : top < 1099511627776) :
    Calls Try.prog 48 #[v, .int .i64 top] w (SizeSaid top (psz l) w) := by
  have hsat : sat 0 (l.length : Int) = min 1099511627776 (l.length : Int) := by unfold sat; split <;> omega
  obtain ⟨p, c, rfl, h1, h2, h3, h4⟩ := hv
  have H4 := Lib.hid h4
  clear h4
  have HS := Lib.hid hsat
  clear hsat h3
  go_enter Try.func48, Try.ntmps48
  go_wp2_with (go_at_call 47; refine (sum_one 0 (l.length : Int) _ _ _ (by omega) (by omega) (by omega) (by omega) (by go_simp)).mono ?_; rintro e w' ⟨rfl, rfl⟩)
  rw [HS.out]
  go_loopw [5, 6] (fun s i wr => ∃ k : Nat, k ≤ l.length ∧ i = .int .i64 k ∧ s = .int .i64 (min 1099511627776 ((l.length + ((l.take k).map fun p => p.data.length).sum : Nat) : Int)) ∧ Below w.heap.size w wr) (fun _ i _ => l.length - (intOf i).toNat)
  case atStart => exact ⟨0, by omega, rfl, by simp, (Below.refl _ _).alloc (Nat.le_refl _) _⟩
  case round =>
    obtain ⟨k, hk, rfl, rfl, hbw⟩ := hrel
    generalize hm : l.length + ((l.take k).map fun p => p.data.length).sum = m
    have HM := Lib.hid hm
    clear hm HS
    by_cases hlt : k < l.length
    · obtain ⟨b, o, rfl, _, hc1, hi, pv, hc2, hd⟩ := H4.out k hlt
      obtain ⟨pp, pc, hpv, hd1, hd2, hd3, hd4⟩ := hd
      have hs := sum_take_succ (fun p : Put => p.data.length) l k hlt
      have hc2' := (hbw.cell (p := ⟨b, o + k * 2 + 1, none⟩) (World.block_lt_of_cell? w _ hc2)).trans hc2
      subst hpv
      generalize l[k].data.length = dl at hd1 hc2' hs
      have hdl : dl ≤ 9223372036854775807 := by omega
      have HSS := Lib.hid hs
      have hsat : sat (min 1099511627776 (m : Int)) dl = min 1099511627776 ((m + dl : Nat) : Int) := by unfold sat; split <;> omega
      have HSAT := Lib.hid hsat
      clear hs hc1 hi hc2 hd2 hd3 hd4 hsat
      by_cases hle : min 1099511627776 (m : Int) ≤ top
      · generalize hq : min 1099511627776 (m : Int) = q at *
        have HQ := Lib.hid hq
        have hq1 : 0 ≤ q := by omega
        have hq2 : q ≤ 1099511627776 := by omega
        clear hq
        go_wp2_with (go_at_call 47; refine (sum_one q (dl : Int) _ _ _ (by omega) (by omega) (by omega) (by omega) (by go_simp)).mono ?_; rintro e w' ⟨rfl, rfl⟩)
        go_roundw
        case rel => exact ⟨k + 1, by omega, by go_num, by rw [HSAT.out, HSS.out, ← HM.out]; simp [Nat.add_assoc], hbw.alloc hbw.size _⟩
        case measure => simp [intOf]; omega
      · generalize hq : min 1099511627776 (m : Int) = q at *
        have HQ := Lib.hid hq
        have hq1 : 0 ≤ q := by omega
        have hq2 : q ≤ 1099511627776 := by omega
        clear hq
        go_wp2
        go_ret
        exact ⟨q, rfl, hq1, hq2, fun h => by omega, hbw⟩
    · have hkl : k = l.length := by omega
      have HK := Lib.hid hkl
      clear hkl
      go_wp2
      go_ret
      refine ⟨_, rfl, by omega, by omega, fun h => ?_, hbw⟩
      have := HM.out
      rw [HK.out, List.take_length] at this
      unfold psz; rw [this]; omega

set_option maxHeartbeats 400000 in
theorem txs_any (G : Nat → Prop) (v : Value) (l : List Tx) (top : Int) (w : World) (hG : Dom G w) (hv : TxsAt G w v l) (ht : 0 ≤ top) (ht2 : top < 1099511627776) :
    Calls Try.prog 64 #[v, .int .i64 top] w (SizeSaid top (tsz l) w) := by
  have hsat : sat 0 (l.length : Int) = min 1099511627776 (l.length : Int) := by unfold sat; split <;> omega
  obtain ⟨p, c, rfl, h1, h2, h3, h4⟩ := hv
  have H4 := Lib.hid h4
  clear h4
  have HS := Lib.hid hsat
  clear hsat h3
  go_enter Try.func64, Try.ntmps64
  go_wp2_with (go_at_call 47; refine (sum_one 0 (l.length : Int) _ _ _ (by omega) (by omega) (by omega) (by omega) (by go_simp)).mono ?_; rintro e w' ⟨rfl, rfl⟩)
  rw [HS.out]
  go_loopw [5, 6] (fun s i wr => ∃ k : Nat, ∃ q : Int, k ≤ l.length ∧ i = .int .i64 k ∧ s = .int .i64 q ∧ 0 ≤ q ∧ q ≤ 1099511627776 ∧ (q ≤ top → q = ((l.length + ((l.take k).map fun t => psz t.puts).sum : Nat) : Int)) ∧ Below w.heap.size w wr) (fun _ i _ => l.length - (intOf i).toNat)
  case atStart => exact ⟨0, _, by omega, rfl, rfl, by omega, by omega, by simp; omega, (Below.refl _ _).alloc (Nat.le_refl _) _⟩
  case round =>
    obtain ⟨k, q, hk, rfl, rfl, hq1, hq2, hq3, hbw⟩ := hrel
    generalize hm : l.length + ((l.take k).map fun t => psz t.puts).sum = m at hq3
    have HM := Lib.hid hm
    have HQ := Lib.hid hq3
    clear hm HS hq3
    by_cases hlt : k < l.length
    · obtain ⟨b, o, rfl, _, hc1, hi, pv, hc2, hd⟩ := H4.out k hlt
      have hs := sum_take_succ (fun t : Tx => psz t.puts) l k hlt
      have hc2' := (hbw.cell (p := ⟨b, o + k * 2 + 1, none⟩) (World.block_lt_of_cell? w _ hc2)).trans hc2
      generalize l[k].puts = pl at hd hs
      have HSS := Lib.hid hs
      clear hs hc1 hi hc2
      by_cases hle : q ≤ top
      · have hd' := hd.same (hG.same hbw)
        go_wp2_with fail
        refine (puts_any G pv pl top _ hd' ht ht2).mono ?_
        rintro e w1 ⟨n1, rfl, hn1, hn2, hn3, hb1⟩
        have HN := Lib.hid hn3
        clear hn3
        have hz := hb1.size
        go_wp2_with (go_at_call 47; refine (sum_one q n1 _ _ _ (by omega) (by omega) (by omega) (by omega) (by go_simp)).mono ?_; rintro e w' ⟨rfl, rfl⟩)
        have hsb := sat_bd hq1 hq2 hn1
        go_roundw
        case rel =>
          refine ⟨k + 1, _, by omega, by go_num, rfl, hsb.1, hsb.2.1, fun h => ?_, (hbw.trans (hb1.mono hbw.size)).alloc (by have := hbw.size; omega) _⟩
          have h1 := HQ.out (by omega)
          have h2 := HN.out (by unfold sat at h; split at h <;> omega)
          rw [HSS.out, ← Nat.add_assoc, HM.out]
          unfold sat at h ⊢; split at h <;> split <;> omega
        case measure => simp [intOf]; omega
      · go_wp2
        go_ret
        exact ⟨q, rfl, hq1, hq2, fun h => by omega, hbw⟩
    · have hkl : k = l.length := by omega
      have HK := Lib.hid hkl
      clear hkl
      by_cases hle : q ≤ top
      all_goals
        go_wp2
        go_ret
        refine ⟨_, rfl, by omega, by omega, fun h => ?_, hbw⟩
        have := HM.out
        rw [HK.out, List.take_length] at this
        have := HQ.out h
        unfold tsz; omega
end Go.Proofs

/- Bytes that hang on a number: what scarpalike's Block and Data give. -/
namespace Go.Proofs
open Go.RowKit Sc

theorem infoU8 : (Try.prog.info? 5).map (fun i => (i.zero, i.size, i.bytes)) = some (some (.int .u8 0), 1, 1) := by kernel_rfl
def blockV (k : Int) (m j : Nat) : Value := .int .u8 (if j < m then roundN (wrap64 (wrap64 (wrap64 ((j : Int) * j) + wrap64 (k * 7)) + 1)) 251 else 0)
set_option maxHeartbeats 400000 in
theorem block_any (n : Nat) (k : Int) (w : World) (hn : n ≤ 4096) :
    Calls Try.prog 55 #[.int .i64 n, .int .i64 k] w fun e w' => e = .returned (.slice (some ⟨w.heap.size, 0, none⟩) n n) ∧
      w'.ownsRow w.heap.size 5 1 (.slice (some ⟨w.heap.size, 0, none⟩) n n) n ((List.range n).map (blockV k n)) ∧ Below w.heap.size w w' := by
  obtain ⟨i0, hi, hz0, hz1, hz2⟩ := info_parts infoU8
  have hmax : max (n : Int) 0 = n := by omega
  go_enter Try.func55, Try.ntmps55
  go_wp2_with (at_make; refine wpList_make_full _ rfl _ _ 26 rfl w.heap.size 5 i0 (.int .u8 0) 1 Try.underlying26 hi hz0 hz1 _ _ _ _ n rfl rfl (by omega) (by omega) (by rw [hz2]; omega) (by unfold maxLen; omega) (Nat.le_refl _) ?_; intro w0 hown0 hgrow0)
  have hmade : (madeCells (Value.int .u8 0).cells (n * 1)).toList = (List.range n).map (blockV k 0) := by
    apply List.ext_getElem
    · simp [madeCells]
    · intro j h1 h2
      simp [madeCells, blockV, Value.cells, Nat.mod_one]
  rw [hmade] at hown0
  clear hmade hi hz0 hz1 hz2 hmax
  go_loopw [6] (fun i wr => ∃ m : Nat, m ≤ n ∧ i = .int .i64 m ∧ wr.ownsRow w.heap.size 5 1 (.slice (some ⟨w.heap.size, 0, none⟩) n n) n ((List.range n).map (blockV k m)) ∧ Below w.heap.size w wr) (fun i _ => n - (intOf i).toNat)
  case atStart => exact ⟨0, by omega, rfl, hown0, (Below.refl _ _).grown hgrow0 (Nat.le_refl _) (fun j hj => by cases hj)⟩
  case round =>
    obtain ⟨m, hm, rfl, hown, hbw⟩ := hrel
    by_cases hlt : m < n
    · have hcell : wr.cell? ⟨w.heap.size, m, none⟩ = some (blockV k m m) := by
        rw [hown.cellAt m (by omega)]; simp [hlt]
      have hfz := hown.frozenAt m
      have hst := hown.stored m
      have HST := Lib.hid hst
      have hz := hbw.size
      have hone : (blockV k m m).oneCell' = true := rfl
      generalize blockV k m m = bv at hcell hone
      clear hst hown
      go_wp2_with fail
      refine (round_any _ 251 _ (by omega) (by omega)).mono ?_
      rintro e w1 ⟨rfl, rfl⟩
      have hr := roundN_bd (wrap64 (wrap64 (wrap64 ((m : Int) * m) + wrap64 (k * 7)) + 1)) (show (0 : Int) < 251 by omega)
      generalize hq : roundN (wrap64 (wrap64 (wrap64 ((m : Int) * m) + wrap64 (k * 7)) + 1)) 251 = r at *
      have HQ := Lib.hid hq
      clear hq
      have hmod : r % 256 = r := Int.emod_eq_of_lt (by omega) (by omega)
      go_wp2_with fail
      go_roundw
      case rel =>
        refine ⟨m + 1, by omega, by go_num, ?_, hbw.setCell (Nat.le_refl _) _⟩
        have h := (HST.out (.int .u8 r)).1
        have hl : ((List.range n).map (blockV k m)).set m (.int .u8 r) = (List.range n).map (blockV k (m + 1)) := by
          apply List.ext_getElem
          · simp
          · intro j h1 h2
            simp only [List.getElem_set, List.getElem_map, List.getElem_range]
            by_cases hj : m = j
            · subst hj; simp [blockV, HQ.out]
            · have : (j < m + 1) ↔ j < m := by omega
              simp only [blockV, if_neg hj, this]
        rw [hl] at h
        exact h
      case measure => simp [intOf]; omega
    · have hmn : m = n := by omega
      subst hmn
      go_wp2_with fail
      go_ret
      exact ⟨rfl, hown, hbw⟩

/-- The bytes themselves. -/
def blockB (k : Int) (n : Nat) : Bytes := (List.range n).map fun (j : Nat) => UInt8.ofNat (roundN (wrap64 (wrap64 (wrap64 ((j : Int) * j) + wrap64 (k * 7)) + 1)) 251).toNat
def dataB (k : Int) : Bytes := blockB k 40
theorem blockB_length (k : Int) (n : Nat) : (blockB k n).length = n := by simp [blockB]
theorem dataB_length (k : Int) : (dataB k).length = 40 := blockB_length k 40

/-- A row that the call owns, as bytes. -/
theorem bytesW_row {w : World} {B g n : Nat} {c : Nat} {l : Bytes} (G : Nat → Prop) (hG : G g) (hl : l.length = n) (hc : n ≤ c) (hc2 : c ≤ 9223372036854775807) (h : w.ownsRow B 5 1 (.slice (some ⟨g, 0, none⟩) n c) n (l.map fun x => .int .u8 (x.toNat : Int))) :
    BytesW G w (.slice (some ⟨g, 0, none⟩) n c) l := by
  subst hl
  refine ⟨_, c, rfl, hc, hc2, (by intro hh; cases hh), fun i hi => ⟨g, 0, rfl, hG, ?_⟩⟩
  unfold byteW
  rw [show 0 + i * 1 = i by omega, h.cellAt i (by omega)]
  exact ⟨by simp [hi], h.frozenAt i⟩
theorem bytesAt_row {w : World} {B g n : Nat} {c : Nat} {l : Bytes} (G : Nat → Prop) (hG : G g) (hl : l.length = n) (hc : n ≤ c) (hc2 : c ≤ 9223372036854775807) (h : w.ownsRow B 5 1 (.slice (some ⟨g, 0, none⟩) n c) n (l.map fun x => .int .u8 (x.toNat : Int))) :
    BytesAt G w (.slice (some ⟨g, 0, none⟩) n c) l := (bytesW_row G hG hl hc hc2 h).bytes

/-- A new slice of bytes: it lies in new memory. -/
def NewBytesW (l : Bytes) (w : World) (e : Ending) (w' : World) : Prop := ∃ v, e = .returned v ∧ BytesW (fun b => w.heap.size ≤ b ∧ b < w'.heap.size) w' v l ∧ Below w.heap.size w w'
def NewBytes (l : Bytes) (w : World) (e : Ending) (w' : World) : Prop := ∃ v, e = .returned v ∧ BytesAt (fun b => w.heap.size ≤ b ∧ b < w'.heap.size) w' v l ∧ Below w.heap.size w w'

theorem newBytes {l : Bytes} {w w' : World} {e : Ending} : NewBytesW l w e w' → NewBytes l w e w' := fun ⟨v, h1, h2, h3⟩ => ⟨v, h1, h2.bytes, h3⟩
theorem block_w (n : Nat) (k : Int) (w : World) (hn : n ≤ 4096) :
    Calls Try.prog 55 #[.int .i64 n, .int .i64 k] w (NewBytesW (blockB k n) w) := by
  refine (block_any n k w hn).mono ?_
  rintro e w' ⟨rfl, hown, hb⟩
  have hlt := hown.lt w.heap.size rfl
  refine ⟨_, rfl, bytesW_row (B := w.heap.size) _ ⟨Nat.le_refl _, hlt.2⟩ (blockB_length k n) (Nat.le_refl _) (by omega) ?_, hb⟩
  have : (blockB k n).map (fun x => Value.int .u8 (x.toNat : Int)) = (List.range n).map (blockV k n) := by
    unfold blockB
    rw [List.map_map]
    refine List.map_congr_left fun j hj => ?_
    have hj' := List.mem_range.1 hj
    have hr := roundN_bd (wrap64 (wrap64 (wrap64 ((j : Int) * j) + wrap64 (k * 7)) + 1)) (show (0 : Int) < 251 by omega)
    simp only [Function.comp, blockV, if_pos hj']
    congr 1
    rw [UInt8.toNat_ofNat']
    omega
  rw [this]; exact hown

set_option maxHeartbeats 400000 in
theorem data_w (k : Int) (w : World) :
    Calls Try.prog 24 #[.int .i64 k] w (NewBytesW (dataB k) w) := by
  go_enter Try.func24, Try.ntmps24
  go_wp2_with fail
  refine (block_w 40 k _ (by omega)).mono ?_
  rintro e w1 ⟨v, rfl, h1, h2⟩
  go_wp2_with fail
  go_ret
  exact ⟨v, rfl, h1, h2⟩
theorem block_new (n : Nat) (k : Int) (w : World) (hn : n ≤ 4096) : Calls Try.prog 55 #[.int .i64 n, .int .i64 k] w (NewBytes (blockB k n) w) := (block_w n k w hn).mono fun _ _ => newBytes
theorem data_any (k : Int) (w : World) : Calls Try.prog 24 #[.int .i64 k] w (NewBytes (dataB k) w) := (data_w k w).mono fun _ _ => newBytes
end Go.Proofs

/- slices.Clone of bytes: the same bytes in new memory. -/
namespace Go.Proofs
open Go.RowKit Sc

theorem shape_of {G : Nat → Prop} {w : World} {v : Value} {l : Bytes} {n : Nat} (h : BytesAt G w v l) (hn : l.length = n) : ∃ p c, v = .slice p n c := by
  obtain ⟨p, c, rfl, _⟩ := h
  subst hn
  exact ⟨p, c, rfl⟩
theorem made_one {z : Value} (hz : z.cells = #[z]) (n : Nat) : (madeCells z.cells (n * 1)).toList = List.replicate n z := by
  rw [hz]
  apply List.ext_getElem
  · simp [madeCells]
  · intro j h1 h2
    simp [madeCells, Nat.mod_one]
theorem made_u8 (n : Nat) : (madeCells (Value.int .u8 0).cells (n * 1)).toList = (List.replicate n (0 : UInt8)).map fun x => Value.int .u8 (x.toNat : Int) := by
  apply List.ext_getElem
  · simp [madeCells]
  · intro j h1 h2
    simp [madeCells, Value.cells, Nat.mod_one]
/-- What an own row holds, read at its own block. -/
theorem bytesW_own {w : World} {B : Nat} {v : Value} {n : Nat} {l : Bytes} (G : Nat → Prop) (hl : l.length = n) (hG : ∀ k, B ≤ k → k < w.heap.size → G k)
    (h : w.ownsRow B 5 1 v n (l.map fun x => .int .u8 (x.toNat : Int))) : BytesW G w v l := by
  have hlt := h.lt
  obtain ⟨hx, hc | ⟨g, cap, cur, rfl, hb, hg, hnc, hcm, hcs, htake⟩⟩ := h
  · obtain ⟨rfl, rfl⟩ := hc
    obtain rfl : l = [] := List.length_eq_zero_iff.1 hl
    exact SlAt.nil
  · have hgl := hlt g rfl
    refine bytesW_row (B := B) G (hG g hgl.1 hgl.2) hl hnc (by unfold maxLen at hcm; omega) ⟨hx, .inr ⟨g, cap, cur, rfl, hb, hg, hnc, hcm, hcs, htake⟩⟩

set_option maxHeartbeats 400000 in
theorem clone_w (G : Nat → Prop) (v : Value) (l : Bytes) (w : World) (hv : BytesAt G w v l) (hl : l.length ≤ 1000000) :
    Calls Try.prog 46 #[v] w (NewBytesW l w) := by
  obtain ⟨i0, hi, hz0, hz1, hz2⟩ := info_parts infoU8
  obtain ⟨p, c, rfl, h1, h2, h3, h4⟩ := hv
  have H4 := Lib.hid h4
  clear h4
  cases p with
  | none =>
    obtain rfl : c = 0 := h3 rfl
    have hl0 : l = [] := List.length_eq_zero_iff.1 (by omega)
    subst hl0
    clear h3 hi hz0 hz1 hz2 hl h1 h2 H4
    have heq := fun (W : World) => Lib.run_eql_slice_nil (P := Try.prog) W 26 5 none 0 0 0 0 Try.underlying26
    go_enter Try.func46, Try.ntmps46
    go_wp2
    go_ret
    exact ⟨_, rfl, SlAt.nil, Below.refl _ _⟩
  | some a =>
    clear h3
    have hnews : ∀ j u, (l.map fun x => Value.int .u8 (x.toNat : Int))[j]? = some u → w.cell? (a.add j) = some u := by
      intro j u hj
      simp only [List.getElem?_map, Option.map_eq_some_iff] at hj
      obtain ⟨x, hx, rfl⟩ := hj
      obtain ⟨hjl, rfl⟩ := List.getElem?_eq_some_iff.1 hx
      obtain ⟨b, o, hp, _, he⟩ := H4.out j hjl
      cases hp
      unfold byteE at he
      rw [Nat.mul_one] at he
      have hadd : (⟨b, o, none⟩ : Addr).add j = ⟨b, o + j, none⟩ := by unfold Addr.add; split <;> simp_all
      rw [hadd]; exact he
    have HN := Lib.hid hnews
    have hlen : (l.map fun x => Value.int .u8 (x.toNat : Int)).length = l.length * 1 := by simp
    have hone : ∀ u ∈ (l.map fun x => Value.int .u8 (x.toNat : Int)), u.oneCell' = true := by
      intro u hu; obtain ⟨x, _, rfl⟩ := List.mem_map.1 hu; rfl
    have HL := Lib.hid hlen
    have HO := Lib.hid hone
    generalize hn : (l.map fun x => Value.int .u8 (x.toNat : Int)) = news at *
    have HNW := Lib.hid hn
    clear hn hnews hlen hone
    have HB := Lib.hid hl
    clear hl h1 h2
    have heq := fun (W : World) => Lib.run_eql_slice_nil (P := Try.prog) W 26 5 (some a) l.length c 0 0 Try.underlying26
    go_enter Try.func46, Try.ntmps46
    go_wp2_with (at_builtin; refine wpList_append_own _ rfl _ _ 26 rfl w.heap.size 5 i0 (.int .u8 0) 1 1 Try.underlying26 hi hz0 hz1 hz2 rfl (by decide) _ 0 [] rfl (World.ownsRow_made w _ 0 (Nat.le_refl _) (by decide) rfl) a l.length c news rfl HL.out (fun j u hj => cell_alloc_old (HN.out j u hj)) HO.out (by have := HB.out; unfold maxLen; omega) (by have := HB.out; omega) (by simp) ?_; intro v' w1 hown hgrow hnil)
    go_ret
    refine ⟨v', rfl, ?_, ?_⟩
    · refine bytesW_own (B := w.heap.size) _ (Nat.zero_add l.length).symm (fun k h1 h2 => ⟨h1, h2⟩) ?_
      rw [HNW.out]
      simpa using hown
    · refine ((Below.refl _ _).alloc (Nat.le_refl _) _).grown hgrow (by simp) (fun k hk => ?_)
      cases hk; exact Nat.le_refl _
theorem bytesAt_own {w : World} {B : Nat} {v : Value} {n : Nat} {l : Bytes} (G : Nat → Prop) (hl : l.length = n) (hG : ∀ k, B ≤ k → k < w.heap.size → G k)
    (h : w.ownsRow B 5 1 v n (l.map fun x => .int .u8 (x.toNat : Int))) : BytesAt G w v l := (bytesW_own G hl hG h).bytes
theorem clone_any (G : Nat → Prop) (v : Value) (l : Bytes) (w : World) (hv : BytesAt G w v l) (hl : l.length ≤ 1000000) :
    Calls Try.prog 46 #[v] w (NewBytes l w) := (clone_w G v l w hv hl).mono fun _ _ => newBytes
end Go.Proofs

/- slices.IndexFunc and slices.ContainsFunc at what the program asks them of: the first element of which a function says yes. -/
namespace Go.Proofs
open Go.RowKit Sc

/-- The first place where p holds, or -1. -/
def idxOf {α : Type} (p : α → Bool) (l : List α) : Int := match l.findIdx? p with
  | some i => i
  | none => -1
theorem idxOf_hit {α : Type} {p : α → Bool} {l : List α} {i : Nat} (hi : i < l.length) (hp : p l[i] = true) (hn : ∀ j (h : j < i), p (l[j]'(by omega)) = false) : idxOf p l = i := by
  have : l.findIdx? p = some i := by
    rw [List.findIdx?_eq_some_iff_getElem]
    exact ⟨hi, hp, fun j hj => by simp [hn j hj]⟩
  simp [idxOf, this]
theorem idxOf_miss {α : Type} {p : α → Bool} {l : List α} (hn : ∀ j (h : j < l.length), p l[j] = false) : idxOf p l = -1 := by
  have : l.findIdx? p = none := by
    rw [List.findIdx?_eq_none_iff]
    intro x hx
    obtain ⟨j, hj, rfl⟩ := List.getElem_of_mem hx
    simp [hn j hj]
  simp [idxOf, this]
theorem idxOf_nonneg {α : Type} (p : α → Bool) (l : List α) : decide (0 ≤ idxOf p l) = l.any p := by
  unfold idxOf
  cases h : l.findIdx? p with
  | none =>
    rw [List.findIdx?_eq_none_iff] at h
    have : l.any p = false := by rw [List.any_eq_false]; intro x hx; simp [h x hx]
    rw [this]; rfl
  | some i =>
    rw [List.findIdx?_eq_some_iff_getElem] at h
    obtain ⟨hi, hp, _⟩ := h
    have : l.any p = true := by rw [List.any_eq_true]; exact ⟨l[i], List.getElem_mem hi, hp⟩
    rw [this]; simp

/-- An element as it is handed on. -/
def putV (G : Nat → Prop) (w : World) (v : Value) (x : Put) : Prop := ∃ dv, v = .agg #[.int .i64 x.lba, dv] ∧ I64 x.lba ∧ BytesAt G w dv x.data
theorem putV.same {G : Nat → Prop} {w w' : World} {v : Value} {x : Put} (h : putV G w v x) (hs : Same G w w') : putV G w' v x := let ⟨dv, h1, h2, h3⟩ := h; ⟨dv, h1, h2, h3.same hs⟩

set_option maxHeartbeats 1000000 in
theorem idxPut_any (G : Nat → Prop) (v : Value) (l : List Put) (p : Put → Bool) (g : Nat) (cb : Array Value) (eg : ∀ args w, (callFunc g args).run Try.prog w = .ok (.enter g args) w) (w : World)
    (hG : Dom G w) (hv : PutsAt G w v l)
    (hf : ∀ i (h : i < l.length) W ev, Below w.heap.size w W → putV G W ev l[i] → Calls Try.prog g (#[ev] ++ cb) W fun e w' => e = .returned (.bool (p l[i])) ∧ Below W.heap.size W w') :
    Calls Try.prog 73 #[v, .func (.func g) #[] cb] w fun e w' => e = .returned (.int .i64 (idxOf p l)) ∧ Below w.heap.size w w' := by
  obtain ⟨ptr, c, rfl, h1, h2, h3, h4⟩ := hv
  have H4 := Lib.hid h4
  have HF := Lib.hid hf
  clear h4 hf h3
  go_enter Try.func73, Try.ntmps73
  go_wp2
  go_loopg [5, 8] l.length (fun gg _ s8 wr => ∃ k : Nat, k ≤ l.length ∧ l.length - k ≤ gg ∧ s8 = .int .i64 k ∧ Hid (Below w.heap.size w wr) ∧ Hid (∀ j (h : j < k) (h' : j < l.length), p l[j] = false))
  case atStart => exact ⟨0, Nat.zero_le _, by omega, rfl, Below.refl _ w, fun j hj => absurd hj (Nat.not_lt_zero _)⟩
  case round =>
    obtain ⟨k, hk, hg, rfl, BW, A⟩ := hrel
    by_cases hlt : k < l.length
    · obtain ⟨b, o, rfl, hb, hc1, hi, dv, hc2, hd⟩ := H4.out k hlt
      have hbl := World.block_lt_of_cell? w _ hc1
      have hc1' := (BW.out.cell (p := ⟨b, o + k * 2, none⟩) hbl).trans hc1
      have hc2' := (BW.out.cell (p := ⟨b, o + k * 2 + 1, none⟩) hbl).trans hc2
      have hcall := HF.out k hlt wr (.agg #[.int .i64 l[k].lba, dv]) BW.out ⟨dv, rfl, hi, hd.same (hG.same BW.out)⟩
      have hone : dv.oneCell' = true := by obtain ⟨_, _, rfl, _⟩ := hd; rfl
      generalize hy : l[k] = y at hc1' hcall
      have B := Lib.hid hy
      clear hy hc1 hc2 hd hi hb
      cases hq : p y with
      | true =>
        rw [hq] at hcall
        have HQ := Lib.hid hq
        have HC := Lib.hid hcall
        clear hq hcall
        go_wp2_with (go_at_fn g; refine (HC.out).mono ?_; rintro e w' ⟨rfl, hb'⟩)
        go_ret
        refine ⟨?_, BW.out.trans (hb'.mono BW.out.size)⟩
        rw [idxOf_hit hlt (by rw [B.out]; exact HQ.out) (fun j hj => A.out j hj (by omega))]
        rfl
      | false =>
        rw [hq] at hcall
        have HQ := Lib.hid hq
        have HC := Lib.hid hcall
        clear hq hcall
        go_wp2_with (go_at_fn g; refine (HC.out).mono ?_; rintro e w' ⟨rfl, hb'⟩)
        go_roundg (l.length - (k + 1))
        case measure => omega
        case rel =>
          refine ⟨k + 1, by omega, by omega, by go_num, BW.out.trans (hb'.mono BW.out.size), fun j hj hj' => ?_⟩
          by_cases e : j = k
          · subst e; rw [B.out]; exact HQ.out
          · exact A.out j (by omega) hj'
    · have hkl : k = l.length := by omega
      have HK := Lib.hid hkl
      clear hkl
      go_wp2
      go_ret
      refine ⟨?_, BW.out⟩
      rw [idxOf_miss (fun j hj => A.out j (by have := HK.out; omega) hj)]
      rfl

set_option maxHeartbeats 400000 in
theorem anyPut_any (G : Nat → Prop) (v : Value) (l : List Put) (p : Put → Bool) (g : Nat) (cb : Array Value) (eg : ∀ args w, (callFunc g args).run Try.prog w = .ok (.enter g args) w) (w : World)
    (hG : Dom G w) (hv : PutsAt G w v l)
    (hf : ∀ i (h : i < l.length) W ev, Below w.heap.size w W → putV G W ev l[i] → Calls Try.prog g (#[ev] ++ cb) W fun e w' => e = .returned (.bool (p l[i])) ∧ Below W.heap.size W w') :
    Calls Try.prog 52 #[v, .func (.func g) #[] cb] w fun e w' => e = .returned (.bool (l.any p)) ∧ Below w.heap.size w w' := by
  rw [← idxOf_nonneg]
  go_enter Try.func52, Try.ntmps52
  go_wp2_with (go_at_call 73; refine (idxPut_any G v l p g cb eg _ hG hv hf).mono ?_; rintro e w' ⟨rfl, hb'⟩)
  go_ret
  exact ⟨rfl, hb'⟩

end Go.Proofs

/- Maps whose keys are ints, said of a list of keys and values in the order of their birth; of whatever program. -/
namespace Sc
open Go Go.RowKit Go.ChangeMaps Go.ChangeShapes Go.WideShapes Go.MapKept

def aset {α : Type} : List (Int × α) → Int → α → List (Int × α)
  | [], k, v => [(k, v)]
  | (a, x) :: t, k, v => if a = k then (k, v) :: t else (a, x) :: aset t k v
def alook {α : Type} : List (Int × α) → Int → Option α
  | [], _ => none
  | (a, x) :: t, k => if a = k then some x else alook t k
def adel {α : Type} : List (Int × α) → Int → List (Int × α)
  | [], _ => []
  | (a, x) :: t, k => if a = k then t else (a, x) :: adel t k

/-- Two lists, element by element. -/
def All2 {α β : Type} (R : α → β → Prop) : List α → List β → Prop
  | [], [] => True
  | a :: l, b :: m => R a b ∧ All2 R l m
  | _, _ => False
theorem All2.imp {α β : Type} {R S : α → β → Prop} (h : ∀ a b, R a b → S a b) : ∀ {l : List α} {m : List β}, All2 R l m → All2 S l m
  | [], [], _ => trivial
  | _ :: _, _ :: _, ⟨h1, h2⟩ => ⟨h _ _ h1, All2.imp h h2⟩
  | [], _ :: _, h' => h'.elim
  | _ :: _, [], h' => h'.elim
theorem All2.length {α β : Type} {R : α → β → Prop} : ∀ {l : List α} {m : List β}, All2 R l m → l.length = m.length
  | [], [], _ => rfl
  | _ :: _, _ :: _, ⟨_, h2⟩ => by simp [All2.length h2]
  | [], _ :: _, h' => h'.elim
  | _ :: _, [], h' => h'.elim
theorem All2.get {α β : Type} {R : α → β → Prop} : ∀ {l : List α} {m : List β}, All2 R l m → ∀ i (h : i < l.length) (h' : i < m.length), R l[i] m[i]
  | [], [], _, i, h, _ => absurd h (by simp)
  | _ :: _, _ :: _, ⟨h1, _⟩, 0, _, _ => h1
  | _ :: _, _ :: _, ⟨_, h2⟩, i + 1, h, h' => All2.get h2 i (by simpa using h) (by simpa using h')
  | [], _ :: _, h', _, _, _ => h'.elim
  | _ :: _, [], h', _, _, _ => h'.elim
theorem All2.of_get {α β : Type} {R : α → β → Prop} : ∀ {l : List α} {m : List β}, l.length = m.length → (∀ i (h : i < l.length) (h' : i < m.length), R l[i] m[i]) → All2 R l m
  | [], [], _, _ => trivial
  | a :: l, b :: m, hl, h => ⟨h 0 (by simp) (by simp), All2.of_get (by simpa using hl) (fun i h1 h2 => h (i + 1) (by simpa using h1) (by simpa using h2))⟩
  | [], _ :: _, hl, _ => by simp at hl
  | _ :: _, [], hl, _ => by simp at hl

/-- Keys alike, and values that are so. -/
def AL {α β : Type} (R : α → β → Prop) (m : List (Int × α)) (s : List (Int × β)) : Prop := All2 (fun a b => a.1 = b.1 ∧ R a.2 b.2) m s
theorem AL.imp {α β : Type} {R S : α → β → Prop} {m : List (Int × α)} {s : List (Int × β)} (h : AL R m s) (hi : ∀ a b, R a b → S a b) : AL S m s := All2.imp (fun _ _ ⟨h1, h2⟩ => ⟨h1, hi _ _ h2⟩) h
theorem AL.keys {α β : Type} {R : α → β → Prop} : ∀ {m : List (Int × α)} {s : List (Int × β)}, AL R m s → m.map (·.1) = s.map (·.1)
  | [], [], _ => rfl
  | _ :: _, _ :: _, ⟨⟨h1, _⟩, h2⟩ => by simp [h1, AL.keys h2]
  | [], _ :: _, h' => h'.elim
  | _ :: _, [], h' => h'.elim
theorem AL.look {α β : Type} {R : α → β → Prop} (k : Int) : ∀ {m : List (Int × α)} {s : List (Int × β)}, AL R m s →
    (alook m k = none ∧ alook s k = none) ∨ ∃ v d, alook m k = some v ∧ alook s k = some d ∧ R v d
  | [], [], _ => .inl ⟨rfl, rfl⟩
  | (a1, a2) :: m, (b1, b2) :: s, ⟨⟨h1, h2⟩, h3⟩ => by
    simp only at h1 h2
    subst h1
    by_cases hk : a1 = k
    · exact .inr ⟨a2, b2, by simp [alook, hk], by simp [alook, hk], h2⟩
    · simpa [alook, hk] using AL.look k h3
  | [], _ :: _, h' => h'.elim
  | _ :: _, [], h' => h'.elim
theorem AL.set {α β : Type} {R : α → β → Prop} (k : Int) {v : α} {d : β} (hv : R v d) : ∀ {m : List (Int × α)} {s : List (Int × β)}, AL R m s → AL R (aset m k v) (aset s k d)
  | [], [], _ => ⟨⟨rfl, hv⟩, trivial⟩
  | (a1, a2) :: m, (b1, b2) :: s, ⟨⟨h1, h2⟩, h3⟩ => by
    simp only at h1 h2
    subst h1
    by_cases hk : a1 = k
    · simp only [aset, if_pos hk]; exact ⟨⟨rfl, hv⟩, h3⟩
    · simp only [aset, if_neg hk]; exact ⟨⟨rfl, h2⟩, AL.set k hv h3⟩
  | [], _ :: _, h' => h'.elim
  | _ :: _, [], h' => h'.elim
theorem AL.del {α β : Type} {R : α → β → Prop} (k : Int) : ∀ {m : List (Int × α)} {s : List (Int × β)}, AL R m s → AL R (adel m k) (adel s k)
  | [], [], _ => trivial
  | (a1, a2) :: m, (b1, b2) :: s, ⟨⟨h1, h2⟩, h3⟩ => by
    simp only at h1 h2
    subst h1
    by_cases hk : a1 = k
    · simp only [adel, if_pos hk]; exact h3
    · simp only [adel, if_neg hk]; exact ⟨⟨rfl, h2⟩, AL.del k h3⟩
  | [], _ :: _, h' => h'.elim
  | _ :: _, [], h' => h'.elim

def ent (x : MapEntry) : Value × Value := (x.key, x.val)
def pr (x : Int × Value) : Value × Value := (.int .i64 x.1, x.2)

/-- The map object at r holds just these keys and values. -/
def MapIs (w : World) (r : Nat) (m : List (Int × Value)) : Prop :=
  ∃ es clock, w.heap[r]? = some (.map es clock) ∧ es.toList.map ent = m.map pr ∧ (m.map (·.1)).Nodup ∧ (∀ x ∈ es.toList, x.born < clock) ∧ (es.toList.map (·.born)).Nodup

theorem MapIs.same {G : Nat → Prop} {w w' : World} {r : Nat} {m : List (Int × Value)} (h : MapIs w r m) (hs : Same G w w') (hr : G r) : MapIs w' r m :=
  let ⟨es, c, h1, h2⟩ := h; ⟨es, c, by rw [hs r hr]; exact h1, h2⟩
theorem MapIs.lt {w : World} {r : Nat} {m : List (Int × Value)} (h : MapIs w r m) : r < w.heap.size := by
  obtain ⟨es, c, h1, _⟩ := h
  exact (Array.getElem?_eq_some_iff.1 h1).1

theorem MapIs.alloc {w : World} {r : Nat} {m : List (Int × Value)} (h : MapIs w r m) (o : Obj) : MapIs (w.alloc o) r m :=
  h.same (G := (· < w.heap.size)) (fun _ hk => Below.heap_alloc w o _ hk) h.lt
theorem MapIs.up {w w' : World} {r : Nat} {m : List (Int × Value)} (h : MapIs w r m) (hb : Below w.heap.size w w') : MapIs w' r m :=
  h.same (G := (· < w.heap.size)) (fun _ hk => hb.block _ hk) h.lt
/-- Only the map at r has turned. -/
structure Turned (r : Nat) (w w' : World) : Prop where
  os : w'.os = w.os
  tape : w'.tape = w.tape
  output : w'.output = w.output
  size : w'.heap.size = w.heap.size
  block : ∀ k, k ≠ r → w'.heap[k]? = w.heap[k]?
  was : ∃ es c, w.heap[r]? = some (.map es c)
  is : ∃ es c, w'.heap[r]? = some (.map es c)

theorem Turned.cell {r : Nat} {w w' : World} (h : Turned r w w') (a : Addr) : w'.cell? a = w.cell? a := by
  by_cases ha : a.block = r
  · obtain ⟨es, c, h1⟩ := h.was
    obtain ⟨es', c', h2⟩ := h.is
    simp [World.cell?, ha, h1, h2]
  · exact World.cell?_of_block (h.block _ ha)
theorem Turned.frozen {r : Nat} {w w' : World} (h : Turned r w w') (a : Addr) : w'.frozen? a = w.frozen? a := by
  by_cases ha : a.block = r
  · obtain ⟨es, c, h1⟩ := h.was
    obtain ⟨es', c', h2⟩ := h.is
    simp [World.frozen?, ha, h1, h2]
  · exact World.frozen?_of_block (h.block _ ha)
theorem Turned.chg {r : Nat} {w w' : World} (h : Turned r w w') {S : Nat → Prop} (hr : S r) : Chg S w w' :=
  ⟨h.os, h.tape, h.output, by rw [h.size]; exact Nat.le_refl _, fun k _ hk => h.block k (fun e => hk (e ▸ hr))⟩
theorem Turned.below {r B : Nat} {w w' : World} (h : Turned r w w') (hr : B ≤ r) : Below B w w' :=
  ⟨h.os, h.tape, h.output, by rw [h.size]; exact Nat.le_refl _, fun k hk => h.block k (by omega)⟩
theorem BytesAt.cells {G : Nat → Prop} {w w' : World} {v : Value} {l : Bytes} (h : BytesAt G w v l) (hc : ∀ a, w'.cell? a = w.cell? a) : BytesAt G w' v l :=
  SlAt.up h (fun _ _ _ h => (hc _).trans h)
theorem turned_set {r : Nat} {w : World} {es es' : Array MapEntry} {c c' : Nat} (h : w.heap[r]? = some (.map es c)) : Turned r w (setBlock w r (.map es' c')) :=
  ⟨rfl, rfl, rfl, by simp [setBlock], fun k hk => heap_setBlock_other h _ hk, ⟨es, c, h⟩, ⟨es', c', heap_setBlock_same h _⟩⟩

theorem MapIs.made (w : World) : MapIs (w.alloc (.map #[] 0)) w.heap.size [] :=
  ⟨#[], 0, heap_alloc_new w _, rfl, List.nodup_nil, fun x hx => by simp at hx, by simp⟩

theorem keys_of {es : List MapEntry} {m : List (Int × Value)} (h : es.map ent = m.map pr) : ∀ x ∈ es, ∃ n v, (n, v) ∈ m ∧ x.key = .int .i64 n ∧ x.val = v := by
  intro x hx
  have : ent x ∈ m.map pr := by rw [← h]; exact List.mem_map.2 ⟨x, hx, rfl⟩
  obtain ⟨⟨n, v⟩, hm, he⟩ := List.mem_map.1 this
  simp only [ent, pr, Prod.mk.injEq] at he
  exact ⟨n, v, hm, he.1.symm, he.2.symm⟩

theorem alook_of {α : Type} {m : List (Int × α)} (hn : (m.map (·.1)).Nodup) {j : Nat} {n : Int} {v : α} (h : m[j]? = some (n, v)) : alook m n = some v := by
  induction m generalizing j with
  | nil => simp at h
  | cons a t ih =>
    obtain ⟨a, x⟩ := a
    cases j with
    | zero => simp at h; obtain ⟨rfl, rfl⟩ := h; simp [alook]
    | succ j =>
      simp only [List.getElem?_cons_succ] at h
      simp only [List.map_cons, List.nodup_cons] at hn
      have : a ≠ n := by
        intro e; subst e
        exact hn.1 (List.mem_map.2 ⟨(a, v), List.mem_of_getElem? h, rfl⟩)
      simp only [alook, if_neg this]
      exact ih hn.2 h
theorem alook_none {α : Type} {m : List (Int × α)} {n : Int} : alook m n = none ↔ ∀ x ∈ m, x.1 ≠ n := by
  induction m with
  | nil => simp [alook]
  | cons a t ih =>
    obtain ⟨a, x⟩ := a
    by_cases h : a = n
    · simp [alook, h]
    · simp [alook, h, ih]
theorem aset_new {α : Type} {m : List (Int × α)} {n : Int} {v : α} (h : ∀ x ∈ m, x.1 ≠ n) : aset m n v = m ++ [(n, v)] := by
  induction m with
  | nil => rfl
  | cons a t ih =>
    obtain ⟨a, x⟩ := a
    have := h (a, x) (by simp)
    simp only [aset, if_neg this, List.cons_append]
    rw [ih (fun y hy => h y (by simp [hy]))]
theorem aset_at {α : Type} {m : List (Int × α)} (hn : (m.map (·.1)).Nodup) {j : Nat} {n : Int} {u v : α} (h : m[j]? = some (n, u)) : aset m n v = m.set j (n, v) := by
  induction m generalizing j with
  | nil => simp at h
  | cons a t ih =>
    obtain ⟨a, x⟩ := a
    cases j with
    | zero => simp at h; obtain ⟨rfl, rfl⟩ := h; simp [aset]
    | succ j =>
      simp only [List.getElem?_cons_succ] at h
      simp only [List.map_cons, List.nodup_cons] at hn
      have : a ≠ n := by
        intro e; subst e
        exact hn.1 (List.mem_map.2 ⟨(a, u), List.mem_of_getElem? h, rfl⟩)
      simp only [aset, if_neg this, List.set_cons_succ]
      rw [ih hn.2 h]
theorem adel_none {α : Type} {m : List (Int × α)} {n : Int} (h : ∀ x ∈ m, x.1 ≠ n) : adel m n = m := by
  induction m with
  | nil => rfl
  | cons a t ih =>
    obtain ⟨a, x⟩ := a
    have := h (a, x) (by simp)
    simp only [adel, if_neg this]
    rw [ih (fun y hy => h y (by simp [hy]))]
theorem adel_at {α : Type} {m : List (Int × α)} (hn : (m.map (·.1)).Nodup) {j : Nat} {n : Int} {u : α} (h : m[j]? = some (n, u)) : adel m n = m.eraseIdx j := by
  induction m generalizing j with
  | nil => simp at h
  | cons a t ih =>
    obtain ⟨a, x⟩ := a
    cases j with
    | zero => simp at h; obtain ⟨rfl, rfl⟩ := h; simp [adel]
    | succ j =>
      simp only [List.getElem?_cons_succ] at h
      simp only [List.map_cons, List.nodup_cons] at hn
      have : a ≠ n := by
        intro e; subst e
        exact hn.1 (List.mem_map.2 ⟨(a, u), List.mem_of_getElem? h, rfl⟩)
      simp only [adel, if_neg this, List.eraseIdx_cons_succ]
      rw [ih hn.2 h]
theorem keys_aset {α : Type} (m : List (Int × α)) (n : Int) (v : α) : (aset m n v).map (·.1) = if n ∈ m.map (·.1) then m.map (·.1) else m.map (·.1) ++ [n] := by
  induction m with
  | nil => rfl
  | cons a t ih =>
    obtain ⟨a, x⟩ := a
    by_cases h : a = n
    · simp [aset, h]
    · have h' : ¬ n = a := fun e => h e.symm
      simp only [aset, if_neg h, List.map_cons, List.mem_cons, h', false_or, ih]
      split <;> simp
theorem nodup_aset {α : Type} {m : List (Int × α)} (hn : (m.map (·.1)).Nodup) (n : Int) (v : α) : ((aset m n v).map (·.1)).Nodup := by
  rw [keys_aset]
  split
  · exact hn
  · rename_i h
    rw [List.nodup_append]
    exact ⟨hn, by simp, fun a ha b hb => by simp at hb; subst hb; intro e; subst e; exact h ha⟩
theorem adel_sublist {α : Type} (m : List (Int × α)) (n : Int) : (adel m n).Sublist m := by
  induction m with
  | nil => exact List.Sublist.refl _
  | cons a t ih =>
    obtain ⟨a, x⟩ := a
    by_cases h : a = n
    · simp [adel, h]
    · simp [adel, h, ih]
theorem nodup_adel {α : Type} {m : List (Int × α)} (hn : (m.map (·.1)).Nodup) (n : Int) : ((adel m n).map (·.1)).Nodup := hn.sublist ((adel_sublist m n).map _)
theorem alook_aset {α : Type} (m : List (Int × α)) (n k : Int) (v : α) : alook (aset m n v) k = if k = n then some v else alook m k := by
  induction m with
  | nil =>
    by_cases h : n = k
    · subst h; simp [aset, alook]
    · have h' : ¬ k = n := fun e => h e.symm
      simp [aset, alook, h, h']
  | cons a t ih =>
    obtain ⟨a, x⟩ := a
    by_cases h : a = n
    · subst h
      by_cases hk : k = a
      · subst hk; simp [aset, alook]
      · have : ¬ a = k := fun e => hk e.symm
        simp [aset, alook, hk, this]
    · simp only [aset, if_neg h, alook, ih]
      by_cases hk : a = k
      · subst hk; simp [h]
      · simp [hk]
theorem alook_adel {α : Type} {m : List (Int × α)} (hn : (m.map (·.1)).Nodup) (n k : Int) : alook (adel m n) k = if k = n then none else alook m k := by
  induction m with
  | nil => simp [adel, alook]
  | cons a t ih =>
    obtain ⟨a, x⟩ := a
    simp only [List.map_cons, List.nodup_cons] at hn
    by_cases h : a = n
    · subst h
      simp only [adel, if_true, alook]
      by_cases hk : k = a
      · subst hk
        simp only [if_true]
        exact alook_none.2 (fun y hy e => hn.1 (List.mem_map.2 ⟨y, hy, e⟩))
      · have : ¬ a = k := fun e => hk e.symm
        simp [hk, this]
    · simp only [adel, if_neg h, alook, ih hn.2]
      by_cases hk : a = k
      · subst hk; simp [h]
      · simp [hk]

section
variable {P : Program} {w : World} {t k e : TypeId} {r : Nat} {m : List (Int × Value)}

theorem MapIs.find (h : MapIs w r m) (n : Int) :
    ∃ es clock, w.heap[r]? = some (.map es clock) ∧ es.toList.map ent = m.map pr ∧ (m.map (·.1)).Nodup ∧ (∀ x ∈ es.toList, x.born < clock) ∧ (es.toList.map (·.born)).Nodup ∧
     ((Instr.findNow (.int .i64) (.int .i64 n) es.toList 0 = some none ∧ (∀ x ∈ m, x.1 ≠ n)) ∨
      ∃ j x v, Instr.findNow (.int .i64) (.int .i64 n) es.toList 0 = some (some (j, v)) ∧ es.toList[j]? = some x ∧ x.key = .int .i64 n ∧ x.val = v ∧ m[j]? = some (n, v)) := by
  obtain ⟨es, clock, hb, hm, hn, hbo, hbn⟩ := h
  refine ⟨es, clock, hb, hm, hn, hbo, hbn, ?_⟩
  have hks : ∀ x ∈ es.toList, IsKey (.int .i64) x.key := by
    intro x hx
    obtain ⟨a, v, _, he, _⟩ := keys_of hm x hx
    rw [he]; exact rfl
  rcases findNow_spec (d := .int .i64) (k := .int .i64 n) rfl es.toList 0 hks with ⟨h1, h2⟩ | ⟨j, e0, h1, h2, h3⟩
  · refine .inl ⟨h1, fun x hx e => ?_⟩
    have : pr x ∈ es.toList.map ent := by rw [hm]; exact List.mem_map.2 ⟨x, hx, rfl⟩
    obtain ⟨y, hy, he⟩ := List.mem_map.1 this
    simp only [ent, pr, Prod.mk.injEq] at he
    exact h2 y hy (by rw [he.1, e])
  · refine .inr ⟨j, e0, e0.val, by simpa using h1, h2, h3, rfl, ?_⟩
    have : (es.toList.map ent)[j]? = some (ent e0) := by simp only [List.getElem?_map, h2, Option.map_some]
    rw [hm] at this
    simp only [List.getElem?_map, Option.map_eq_some_iff] at this
    obtain ⟨⟨a, v⟩, ha, he⟩ := this
    simp only [ent, pr, Prod.mk.injEq, h3] at he
    obtain ⟨he1, he2⟩ := he
    cases he1; subst he2
    exact ha

/-- 'm[k]', 'v, ok := m[k]'. -/
theorem MapIs.lookup (h : MapIs w r m) (ht : P.underlying t = some (.map k e)) (hk : P.underlying k = some (.int .i64)) {z : Value} (hz : (zeroValue e).run P w = .ok z w) (n : Int) (c : Bool) :
    (Instr.lookup t (.map (some r)) (.int .i64 n) c).run P w = .ok (if c then .tuple #[(alook m n).getD z, .bool (alook m n).isSome] else (alook m n).getD z) w := by
  obtain ⟨es, clock, hb, hm, hn, hbo, hbn, hf⟩ := h.find n
  have hkey : IsKey (.int .i64) (.int .i64 n) := rfl
  rcases hf with ⟨h1, h2⟩ | ⟨j, x, v, h1, h2, h3, h4, h5⟩
  · rw [alook_none.2 h2]
    cases c <;> simp [Instr.lookup, run_underlying ht, MapKept.run_getObj_map hb, run_checkKey hk hkey, run_findKey hk h1, hz, Result.andThen]
  · rw [alook_of hn h5]
    cases c <;> simp [Instr.lookup, run_underlying ht, MapKept.run_getObj_map hb, run_checkKey hk hkey, run_findKey hk h1, Result.andThen]

/-- 'm[k] = v'. -/
theorem MapIs.update (h : MapIs w r m) (ht : P.underlying t = some (.map k e)) (hk : P.underlying k = some (.int .i64)) (n : Int) (v : Value) :
    ∃ w', (Instr.mapUpdate t (.map (some r)) (.int .i64 n) v).run P w = .ok () w' ∧ MapIs w' r (aset m n v) ∧ Turned r w w' := by
  obtain ⟨es, clock, hb, hm, hn, hbo, hbn, hf⟩ := h.find n
  have hkey : IsKey (.int .i64) (.int .i64 n) := rfl
  rcases hf with ⟨h1, h2⟩ | ⟨j, x, u, h1, h2, h3, h4, h5⟩
  · refine ⟨setBlock w r (.map (es.push ⟨.int .i64 n, v, clock⟩) (clock + 1)), ?_, ⟨_, _, heap_setBlock_same hb _, ?_, nodup_aset hn n v, ?_, ?_⟩, turned_set hb⟩
    · simp [Instr.mapUpdate, run_underlying ht, MapKept.run_getObj_map hb, run_checkKey hk hkey, run_findKey hk h1, MapKept.run_setObj_map _ hb, Result.andThen, setBlock]
    · rw [aset_new h2, Array.toList_push, List.map_append, hm, List.map_append]; rfl
    · intro x hx
      rw [Array.toList_push, List.mem_append, List.mem_singleton] at hx
      rcases hx with hx | rfl
      · have := hbo x hx; omega
      · show clock < clock + 1; omega
    · rw [Array.toList_push, List.map_append, List.nodup_append]
      refine ⟨hbn, by simp, fun a ha b hb' => ?_⟩
      simp at hb'; subst hb'
      obtain ⟨x, hx, rfl⟩ := List.mem_map.1 ha
      have := hbo x hx; omega
  · have hj : es[j]? = some x := by simpa using h2
    have hjl : j < es.toList.length := (List.getElem?_eq_some_iff.1 h2).1
    have hx : es.toList[j] = x := by rw [List.getElem?_eq_getElem hjl] at h2; exact Option.some.inj h2
    have hmod : (es.modify j (fun e' => { e' with key := .int .i64 n, val := v })).toList = es.toList.set j { x with key := .int .i64 n, val := v } := by
      rw [Array.toList_modify, modify_eq_set _ _ _ _ h2]
    refine ⟨setBlock w r (.map (es.modify j (fun e' => { e' with key := .int .i64 n, val := v })) clock), ?_, ⟨_, _, heap_setBlock_same hb _, ?_, nodup_aset hn n v, ?_, ?_⟩, turned_set hb⟩
    · simp [Instr.mapUpdate, run_underlying ht, MapKept.run_getObj_map hb, run_checkKey hk hkey, run_findKey hk h1, hj, h3, run_keyThatStays hkey, MapKept.run_setObj_map _ hb, Result.andThen, setBlock]
    · rw [hmod, aset_at hn h5, List.map_set, hm, List.map_set]; rfl
    · intro y hy
      rw [hmod] at hy
      rcases List.mem_or_eq_of_mem_set hy with hy | rfl
      · exact hbo y hy
      · exact hbo x (List.mem_of_getElem? h2)
    · rw [hmod, List.map_set]
      have : (es.toList.map (·.born)).set j x.born = es.toList.map (·.born) := by
        apply List.ext_getElem
        · simp
        · intro i h1 h2
          simp only [List.getElem_set]
          split
          · rename_i hij; subst hij; simp [← hx]
          · rfl
      show ((es.toList.map (·.born)).set j x.born).Nodup
      rw [this]; exact hbn

/-- 'delete(m, k)'. -/
theorem MapIs.delete {ty : TypeId} (h : MapIs w r m) (ht : P.underlying t = some (.map k e)) (hk : P.underlying k = some (.int .i64)) (n : Int) :
    ∃ w', (Builtin.delete_ #[t, k] ty #[.map (some r), .int .i64 n]).run P w = .ok (.tuple #[]) w' ∧ MapIs w' r (adel m n) ∧ Turned r w w' := by
  obtain ⟨es, clock, hb, hm, hn, hbo, hbn, hf⟩ := h.find n
  have hkey : IsKey (.int .i64) (.int .i64 n) := rfl
  rcases hf with ⟨h1, h2⟩ | ⟨j, x, u, h1, h2, h3, h4, h5⟩
  · refine ⟨setBlock w r (.map es clock), ?_, ⟨_, _, heap_setBlock_same hb _, ?_, nodup_adel hn n, hbo, hbn⟩, turned_set hb⟩
    · simp [Builtin.delete_, run_underlying ht, MapKept.run_getObj_map hb, run_checkKey hk hkey, run_findKey hk h1, MapKept.run_setObj_map _ hb, Result.andThen, setBlock]
    · rw [adel_none h2]; exact hm
  · have hjl : j < es.toList.length := (List.getElem?_eq_some_iff.1 h2).1
    have hsub : (es.eraseIdxIfInBounds j).toList = es.toList.eraseIdx j := by
      unfold Array.eraseIdxIfInBounds
      rw [dif_pos (by simpa using hjl)]
      simp
    refine ⟨setBlock w r (.map (es.eraseIdxIfInBounds j) clock), ?_, ⟨_, _, heap_setBlock_same hb _, ?_, nodup_adel hn n, ?_, ?_⟩, turned_set hb⟩
    · simp [Builtin.delete_, run_underlying ht, MapKept.run_getObj_map hb, run_checkKey hk hkey, run_findKey hk h1, MapKept.run_setObj_map _ hb, Result.andThen, setBlock]
    · rw [hsub, adel_at hn h5, map_eraseIdx, hm, map_eraseIdx]
    · intro y hy
      rw [hsub] at hy
      exact hbo y ((List.eraseIdx_sublist _ _).subset hy)
    · rw [hsub]
      exact hbn.sublist ((List.eraseIdx_sublist _ _).map _)

theorem MapIs.len (h : MapIs w r m) (ht : P.underlying t = some (.map k e)) (ty : TypeId) : (Builtin.len_ #[t] ty #[.map (some r)]).run P w = .ok (.int .i64 m.length) w := by
  obtain ⟨es, clock, hb, hm, _⟩ := h
  have : es.size = m.length := by
    have h1 := congrArg List.length hm
    simpa using h1
  simp [Builtin.len_, run_underlying ht, MapKept.run_getObj_map hb, Result.andThen, this, goInt]
end
theorem adel_aset {α : Type} (m : List (Int × α)) (n : Int) (v : α) : adel (aset m n v) n = adel m n := by
  induction m with
  | nil => simp [aset, adel]
  | cons a t ih =>
    obtain ⟨a, x⟩ := a
    by_cases h : a = n
    · simp [aset, adel, h]
    · simp [aset, adel, h, ih]
theorem ownsRow_lower {w : World} {B B' T k n : Nat} {v : Value} {xs : List Value} (h : w.ownsRow B T k v n xs) (hB : B' ≤ B) : w.ownsRow B' T k v n xs := by
  obtain ⟨h1, hc | ⟨g, cap, cur, h2, h3, h4⟩⟩ := h
  · exact ⟨h1, .inl hc⟩
  · exact ⟨h1, .inr ⟨g, cap, cur, h2, by omega, h4⟩⟩
theorem alook_mem {α : Type} {m : List (Int × α)} (hn : (m.map (·.1)).Nodup) {n : Int} {v : α} (h : (n, v) ∈ m) : alook m n = some v := by
  obtain ⟨j, hj, he⟩ := List.getElem_of_mem h
  exact alook_of hn (j := j) (by rw [List.getElem?_eq_getElem hj, he])

theorem alook_in {α : Type} {m : List (Int × α)} {n : Int} {v : α} (h : alook m n = some v) : (n, v) ∈ m := by
  induction m with
  | nil => simp [alook] at h
  | cons a t ih =>
    obtain ⟨a, x⟩ := a
    by_cases hk : a = n
    · simp [alook, hk] at h; subst hk; subst h; simp
    · simp only [alook, if_neg hk] at h; exact List.mem_cons_of_mem _ (ih h)
theorem aset_mem {α : Type} {m : List (Int × α)} {n : Int} {v : α} {x : Int × α} (h : x ∈ aset m n v) : x = (n, v) ∨ x ∈ m := by
  induction m with
  | nil => simp [aset] at h; exact .inl h
  | cons a t ih =>
    obtain ⟨a, y⟩ := a
    by_cases hk : a = n
    · rw [aset, if_pos hk] at h
      rcases List.mem_cons.1 h with h | h
      · exact .inl h
      · exact .inr (List.mem_cons_of_mem _ h)
    · rw [aset, if_neg hk] at h
      rcases List.mem_cons.1 h with h | h
      · exact .inr (by rw [h]; exact List.mem_cons_self ..)
      · exact (ih h).imp id (List.mem_cons_of_mem _)
theorem aset_length {α : Type} (m : List (Int × α)) (n : Int) (v : α) : (aset m n v).length ≤ m.length + 1 := by
  induction m with
  | nil => simp [aset]
  | cons a t ih =>
    obtain ⟨a, y⟩ := a
    by_cases hk : a = n
    · simp [aset, hk]
    · simp only [aset, if_neg hk, List.length_cons]; omega
theorem adel_length {α : Type} {m : List (Int × α)} {n : Int} : (adel m n).length = if (alook m n).isSome then m.length - 1 else m.length := by
  induction m with
  | nil => rfl
  | cons a t ih =>
    obtain ⟨a, x⟩ := a
    by_cases h : a = n
    · simp [adel, alook, h]
    · simp only [adel, if_neg h, alook, List.length_cons, ih]
      split
      · rename_i hs
        cases t with
        | nil => simp [alook] at hs
        | cons b u => simp
      · rfl
end Sc

/- A range over a map whose keys are ints: what is left to come; of whatever program. -/
namespace Sc
open Go Go.RowKit Go.ChangeMaps Go.ChangeShapes Go.WideShapes Go.MapKept

def unp (x : MapEntry) : Int × Value := (Go.RowKit.intOf x.key, x.val)

/-- An iterator has stepped, or the like: no cell has turned. -/
structure Stepped (it : Nat) (w w' : World) : Prop where
  os : w'.os = w.os
  tape : w'.tape = w.tape
  output : w'.output = w.output
  size : w'.heap.size = w.heap.size
  block : ∀ k, k ≠ it → w'.heap[k]? = w.heap[k]?
  cell : ∀ a, w'.cell? a = w.cell? a
  frozen : ∀ a, w'.frozen? a = w.frozen? a
theorem Stepped.chg {r : Nat} {w w' : World} (h : Stepped r w w') {S : Nat → Prop} (hr : S r) : Chg S w w' :=
  ⟨h.os, h.tape, h.output, by rw [h.size]; exact Nat.le_refl _, fun k _ hk => h.block k (fun e => hk (e ▸ hr))⟩
theorem Stepped.below {r B : Nat} {w w' : World} (h : Stepped r w w') (hr : B ≤ r) : Below B w w' :=
  ⟨h.os, h.tape, h.output, by rw [h.size]; exact Nat.le_refl _, fun k hk => h.block k (by omega)⟩

def Ranges (w : World) (it r : Nat) (m left : List (Int × Value)) : Prop :=
  ∃ es clock seen, w.heap[r]? = some (.map es clock) ∧ es.toList.map ent = m.map pr ∧ (m.map (·.1)).Nodup ∧ (∀ x ∈ es.toList, x.born < clock) ∧ (es.toList.map (·.born)).Nodup ∧
    w.heap[it]? = some (.mapIter (some r) clock seen clock) ∧ left = (leftOf es seen).toList.map unp
theorem Ranges.mapIs {w : World} {it r : Nat} {m left : List (Int × Value)} (h : Ranges w it r m left) : MapIs w r m :=
  let ⟨es, c, _, h1, h2, h3, h4, h5, _⟩ := h; ⟨es, c, h1, h2, h3, h4, h5⟩
theorem Ranges.same {w w' : World} {it r : Nat} {m left : List (Int × Value)} (h : Ranges w it r m left) (h1 : w'.heap[r]? = w.heap[r]?) (h2 : w'.heap[it]? = w.heap[it]?) : Ranges w' it r m left :=
  let ⟨es, c, sn, a1, a2, a3, a4, a5, a6, a7⟩ := h; ⟨es, c, sn, h1.trans a1, a2, a3, a4, a5, h2.trans a6, a7⟩
theorem Ranges.lt {w : World} {it r : Nat} {m left : List (Int × Value)} (h : Ranges w it r m left) : it < w.heap.size := by
  obtain ⟨es, c, sn, a1, a2, a3, a4, a5, a6, a7⟩ := h
  exact (Array.getElem?_eq_some_iff.1 a6).1
theorem Ranges.up {w w' : World} {it r : Nat} {m left : List (Int × Value)} (h : Ranges w it r m left) (hb : Below w.heap.size w w') : Ranges w' it r m left :=
  h.same (hb.block r h.mapIs.lt) (hb.block it h.lt)

theorem ent_unp {es : List MapEntry} {m : List (Int × Value)} (h : es.map ent = m.map pr) : es.map unp = m := by
  induction es generalizing m with
  | nil => cases m with
    | nil => rfl
    | cons a t => simp at h
  | cons x t ih => cases m with
    | nil => simp at h
    | cons a l =>
      simp only [List.map_cons, List.cons.injEq] at h
      rw [List.map_cons, ih h.2]
      congr 1
      have h1 := h.1
      simp only [ent, pr, Prod.mk.injEq] at h1
      obtain ⟨a1, a2⟩ := a
      simp only [unp, h1.1, h1.2, Go.RowKit.intOf]
theorem ent_of_unp {es : List MapEntry} {m : List (Int × Value)} (h : es.map ent = m.map pr) {x : MapEntry} (hx : x ∈ es) : x.key = .int .i64 (unp x).1 ∧ x.val = (unp x).2 ∧ unp x ∈ m := by
  obtain ⟨n, v, hm, hk, hv⟩ := keys_of h x hx
  refine ⟨by simp [unp, hk, Go.RowKit.intOf], rfl, ?_⟩
  have : unp x = (n, v) := by simp [unp, hk, hv, Go.RowKit.intOf]
  rw [this]; exact hm

theorem filter_perm {l : List MapEntry} (hn : (l.map (·.born)).Nodup) {e : MapEntry} (he : e ∈ l) : l.Perm (e :: l.filter (fun x => !(x.born == e.born))) := by
  induction l with
  | nil => cases he
  | cons a t ih =>
    simp only [List.map_cons, List.nodup_cons] at hn
    by_cases hae : a = e
    · subst hae
      have hf : t.filter (fun x => !(x.born == a.born)) = t := by
        rw [List.filter_eq_self]
        intro x hx
        have : x.born ≠ a.born := fun e => hn.1 (List.mem_map.2 ⟨x, hx, e⟩)
        simpa using this
      simp [hf]
    · have ht : e ∈ t := by
        rcases List.mem_cons.1 he with h | h
        · exact absurd h.symm hae
        · exact h
      have hb : a.born ≠ e.born := fun h => hn.1 (List.mem_map.2 ⟨e, ht, h.symm⟩)
      have hb' : (!(a.born == e.born)) = true := by simpa using hb
      rw [List.filter_cons, if_pos hb']
      exact ((ih hn.2 ht).cons a).trans (List.Perm.swap e a _)

theorem sb_same {w : World} {b : Nat} {o : Obj} (h : b < w.heap.size) : (setBlock w b o).heap[b]? = some o := by simp [setBlock, h]
theorem sb_other {w : World} {b q : Nat} {o : Obj} (h : q ≠ b) : (setBlock w b o).heap[q]? = w.heap[q]? := by
  have h' : ¬ b = q := fun e => h e.symm
  simp [setBlock, h']
section
variable {P : Program} {w : World} {t k e : TypeId} {it r : Nat} {m left : List (Int × Value)}

/-- 'for .. range m': the iterator. -/
theorem MapIs.range (h : MapIs w r m) (ht : P.underlying t = some (.map k e)) :
    ∃ o, (Instr.range t (.map (some r))).run P w = .ok (.pointer (some ⟨w.heap.size, 0, none⟩)) (w.alloc o) ∧ Ranges (w.alloc o) w.heap.size r m m := by
  obtain ⟨es, clock, hb, hm, hn, hbo, hbn⟩ := h
  have hrl := (Array.getElem?_eq_some_iff.1 hb).1
  refine ⟨_, run_range_map w t k e r es clock ht hb, es, clock, #[], by rw [heap_old hrl]; exact hb, hm, hn, hbo, hbn, heap_new rfl, ?_⟩
  have : leftOf es #[] = es := by unfold leftOf; simp
  rw [this, ent_unp hm]

theorem Ranges.next (h : Ranges w it r m left) (ty : TypeId) :
    (left = [] ∧ (Instr.next (.pointer (some ⟨it, 0, none⟩)) false ty).run P w = .ok (.tuple #[.bool false]) w) ∨
    ∃ n v left' w', left.Perm ((n, v) :: left') ∧ (n, v) ∈ m ∧ (Instr.next (.pointer (some ⟨it, 0, none⟩)) false ty).run P w = .ok (.tuple #[.bool true, .int .i64 n, v]) w' ∧
      (Instr.entry (.pointer (some ⟨it, 0, none⟩))).run P w' = .ok (.tuple #[.int .i64 n, v]) w' ∧ Ranges w' it r m left' ∧ Stepped it w w' := by
  obtain ⟨es, clock, seen, hb, hm, hn, hbo, hbn, hit, rfl⟩ := h
  rcases run_next_at (P := P) w ty it r clock clock seen es clock hit hb hbo (Nat.le_refl _) with ⟨h0, hrun⟩ | ⟨x, hx, w1, hw1, hrun⟩
  · left
    have : leftOf es seen = #[] := Array.eq_empty_of_size_eq_zero h0
    rw [this]
    exact ⟨rfl, hrun⟩
  · right
    have hxe : x ∈ es.toList := by unfold leftOf at hx; simp at hx ⊢; exact hx.1
    obtain ⟨hk, hv, hmem⟩ := ent_of_unp hm hxe
    have hne : it ≠ r := by intro e; rw [e, hb] at hit; cases hit
    have h1 : w1.heap = w.heap := by rcases hw1 with rfl | rfl <;> rfl
    have hit1 : w1.heap[it]? = some (.mapIter (some r) clock seen clock) := by rw [h1]; exact hit
    have hb2 : (setBlock w1 it (.mapIter (some r) clock (seen.push x.born) clock)).heap[r]? = some (.map es clock) := by
      rw [sb_other (fun e => hne e.symm), h1]; exact hb
    have hi2 : (setBlock w1 it (.mapIter (some r) clock (seen.push x.born) clock)).heap[it]? = some (.mapIter (some r) clock (seen.push x.born) clock) := sb_same (Array.getElem?_eq_some_iff.1 hit1).1
    rw [hk, hv] at hrun
    have hen := run_entry_at (P := P) _ it r clock seen es clock x hi2 hb2 hxe hbn
    rw [hk, hv] at hen
    have hoth : ∀ q, q ≠ it → (setBlock w1 it (.mapIter (some r) clock (seen.push x.born) clock)).heap[q]? = w.heap[q]? := fun q hq => by rw [sb_other hq, h1]
    refine ⟨(unp x).1, (unp x).2, (leftOf es (seen.push x.born)).toList.map unp, _, ?_, hmem, hrun, hen, ⟨es, clock, seen.push x.born, hb2, hm, hn, hbo, hbn, hi2, rfl⟩, ?_⟩
    · have hnd : ((leftOf es seen).toList.map (·.born)).Nodup := by
        unfold leftOf
        rw [Array.toList_filter]
        exact hbn.sublist (List.filter_sublist.map _)
      have hp := (filter_perm hnd hx).map unp
      have hf : (leftOf es seen).toList.filter (fun y => !(y.born == x.born)) = (leftOf es (seen.push x.born)).toList := by
        unfold leftOf
        rw [Array.toList_filter, Array.toList_filter, List.filter_filter]
        refine List.filter_congr fun y _ => ?_
        rw [Bool.eq_iff_iff]
        simp [Array.mem_push, and_comm]
      rw [hf] at hp
      exact hp
    · refine ⟨by rcases hw1 with rfl | rfl <;> rfl, by rcases hw1 with rfl | rfl <;> rfl, by rcases hw1 with rfl | rfl <;> rfl, by simp [setBlock, h1], hoth, fun a => ?_, fun a => ?_⟩
      · by_cases ha : a.block = it
        · simp [World.cell?, ha, hi2, hit]
        · exact World.cell?_of_block (hoth _ ha)
      · by_cases ha : a.block = it
        · simp [World.frozen?, ha, hi2, hit]
        · exact World.frozen?_of_block (hoth _ ha)
end
end Sc

/- Objects side by side, each with blocks of its own, and the memory that was there ahead of a call. Of no program. -/
namespace Sc
open Go Go.RowKit

abbrev Foot := Nat → Prop
/-- What is said of the blocks of an object, and of no others. -/
structure Asn where
  P : Foot → World → Prop
  loc : ∀ F w w', Same F w w' → w.heap.size ≤ w'.heap.size → P F w → P F w'

/-- Nothing but memory has grown or turned. -/
structure Grow (w w' : World) : Prop where
  os : w'.os = w.os
  tape : w'.tape = w.tape
  output : w'.output = w.output
  size : w.heap.size ≤ w'.heap.size
theorem Grow.refl (w : World) : Grow w w := ⟨rfl, rfl, rfl, Nat.le_refl _⟩
theorem Grow.trans {a b c : World} (h : Grow a b) (k : Grow b c) : Grow a c := ⟨k.os.trans h.os, k.tape.trans h.tape, k.output.trans h.output, Nat.le_trans h.size k.size⟩
theorem Chg.grow {S : Nat → Prop} {w w' : World} (h : Chg S w w') : Grow w w' := ⟨h.os, h.tape, h.output, h.size⟩
theorem below_grow {B : Nat} {w w' : World} (h : Below B w w') : Grow w w' := ⟨h.os, h.tape, h.output, h.size⟩

/-- W: the world at the start; L: what there is by now, each thing apart from the others. -/
def Sep (W : World) (L : List Asn) (w : World) : Prop :=
  Grow W w ∧ ∃ Fs : Nat → Foot, (∀ i k, Fs i k → k < w.heap.size) ∧ (∀ i j k, i ≠ j → Fs i k → ¬ Fs j k) ∧ ∀ i (A : Asn), L[i]? = some A → A.P (Fs i) w

/-- What was there at the start is as it was. -/
def OldA (W : World) : Asn := ⟨fun F w => (∀ k, k < W.heap.size → F k) ∧ Same (· < W.heap.size) W w, fun _ _ _ hs _ h => ⟨h.1, h.2.trans (hs.mono h.1)⟩⟩
/-- A block of its own, known whole. -/
def BoxA (b : Nat) (cs : Array Value) (T : TypeId) : Asn := ⟨fun F w => F b ∧ w.heap[b]? = some (.cells cs T (0, 0)), fun _ _ _ hs _ h => ⟨h.1, (hs b h.1).trans h.2⟩⟩
def TrueA : Asn := ⟨fun _ _ => True, fun _ _ _ _ _ h => h⟩

/-- What all the others hold, in blocks of G. -/
def Rest (L : List Asn) (i : Nat) (G : Foot) (w : World) : Prop := ∀ j (A : Asn), j ≠ i → L[j]? = some A → ∃ F : Foot, (∀ k, F k → G k) ∧ A.P F w

theorem Sep.start (w : World) : Sep w [OldA w] w :=
  ⟨Grow.refl w, fun i k => i = 0 ∧ k < w.heap.size, fun _ _ h => h.2, fun i j k hij h1 h2 => hij (h1.1.trans h2.1.symm), fun i A h => by
    cases i with
    | zero => cases h; exact ⟨fun k hk => ⟨rfl, hk⟩, Same.refl _ _⟩
    | succ i => simp at h⟩

theorem Sep.up {W : World} {L : List Asn} {w w' : World} (h : Sep W L w) (hb : Below w.heap.size w w') : Sep W L w' := by
  obtain ⟨hg, Fs, h1, h2, h3⟩ := h
  exact ⟨hg.trans (below_grow hb), Fs, fun i k hk => Nat.lt_of_lt_of_le (h1 i k hk) hb.size, h2, fun i A hi => A.loc _ _ _ (fun k hk => hb.block k (h1 i k hk)) hb.size (h3 i A hi)⟩

theorem Sep.get {W : World} {L : List Asn} {w : World} (h : Sep W L w) (i : Nat) {A : Asn} (hi : L[i]? = some A) : ∃ F, A.P F w ∧ Dom F w := by
  obtain ⟨hg, Fs, h1, h2, h3⟩ := h
  exact ⟨Fs i, h3 i A hi, fun k hk => h1 i k hk⟩

theorem Sep.grow {W : World} {L : List Asn} {w : World} (h : Sep W L w) : Grow W w := h.1
theorem Sep.old {W : World} {L : List Asn} {w : World} (h : Sep W (OldA W :: L) w) : Below W.heap.size W w := by
  obtain ⟨F, hF, _⟩ := h.get 0 (A := OldA W) rfl
  have hg := h.1
  exact ⟨hg.os, hg.tape, hg.output, hg.size, fun k hk => hF.2 k hk⟩

theorem Sep.at {W : World} {L : List Asn} {w : World} (h : Sep W L w) (i : Nat) {A : Asn} (hi : L[i]? = some A) :
    ∃ F G : Foot, A.P F w ∧ Rest L i G w ∧ (∀ k, F k → ¬ G k) ∧ Dom F w ∧ Dom G w ∧
      ∀ w' F' (A' : Asn), Chg F w w' → (∀ k, F' k → F k ∨ New w w' k) → A'.P F' w' → Sep W (L.set i A') w' := by
  obtain ⟨hg, Fs, h1, h2, h3⟩ := h
  have hil : i < L.length := (List.getElem?_eq_some_iff.1 hi).1
  refine ⟨Fs i, fun k => ∃ j, j ≠ i ∧ Fs j k, h3 i A hi, fun j A' hj hA' => ⟨Fs j, fun k hk => ⟨j, hj, hk⟩, h3 j A' hA'⟩, fun k hk ⟨j, hj, hk'⟩ => h2 i j k (fun e => hj e.symm) hk hk', fun k hk => h1 i k hk, fun k ⟨j, _, hk⟩ => h1 j k hk, ?_⟩
  intro w' F' A' hc hF' hA'
  refine ⟨hg.trans hc.grow, fun j k => if j = i then F' k else Fs j k, ?_, ?_, ?_⟩
  · intro j k hk
    by_cases hj : j = i
    · simp only [hj, if_true] at hk
      rcases hF' k hk with h | h
      · exact Nat.lt_of_lt_of_le (h1 i k h) hc.size
      · exact h.2
    · simp only [hj, if_false] at hk; exact Nat.lt_of_lt_of_le (h1 j k hk) hc.size
  · intro j j' k hjj hk hk'
    by_cases hj : j = i
    · have hj' : ¬ j' = i := fun e => hjj (hj.trans e.symm)
      simp only [hj, if_true, hj', if_false] at hk hk'
      rcases hF' k hk with h | h
      · exact h2 i j' k (fun e => hj' e.symm) h hk'
      · have := h1 j' k hk'; have := h.1; omega
    · by_cases hj' : j' = i
      · simp only [hj', if_true, hj, if_false] at hk hk'
        rcases hF' k hk' with h | h
        · exact h2 i j k (fun e => hj e.symm) h hk
        · have := h1 j k hk; have := h.1; omega
      · simp only [hj, hj', if_false] at hk hk'
        exact h2 j j' k hjj hk hk'
  · intro j A2 hA2
    by_cases hj : j = i
    · subst hj
      rw [List.getElem?_set_self hil] at hA2
      cases hA2
      simp only [if_true]; exact hA'
    · rw [List.getElem?_set_ne (fun e => hj e.symm)] at hA2
      simp only [hj, if_false]
      exact A2.loc _ _ _ (fun k hk => hc.block k (h1 j k hk) (fun hF => h2 j i k hj hk hF)) hc.size (h3 j A2 hA2)

/-- A new thing, in new memory. -/
theorem Sep.new {W : World} {L : List Asn} {w w' : World} (h : Sep W L w) (hb : Below w.heap.size w w') (A : Asn) {F : Foot} (hF : ∀ k, F k → New w w' k) (hA : A.P F w') : Sep W (L ++ [A]) w' := by
  obtain ⟨hg, Fs, h1, h2, h3⟩ := h
  refine ⟨hg.trans (below_grow hb), fun j k => if j < L.length then Fs j k else if j = L.length then F k else False, ?_, ?_, ?_⟩
  · intro j k hk
    by_cases hj : j < L.length
    · simp only [hj, if_true] at hk; exact Nat.lt_of_lt_of_le (h1 j k hk) hb.size
    · by_cases hj' : j = L.length
      · simp only [hj', Nat.lt_irrefl, if_false, if_true] at hk; exact (hF k hk).2
      · simp only [hj, hj', if_false] at hk
  · intro i j k hij hk hk'
    by_cases hi : i < L.length <;> by_cases hj : j < L.length
    · simp only [hi, hj, if_true] at hk hk'; exact h2 i j k hij hk hk'
    · by_cases hj' : j = L.length
      · simp only [hi, if_true, hj', Nat.lt_irrefl, if_false] at hk hk'
        have := h1 i k hk; have := (hF k hk').1; omega
      · simp only [hj, hj', if_false] at hk'
    · by_cases hi' : i = L.length
      · simp only [hj, if_true, hi', Nat.lt_irrefl, if_false] at hk hk'
        have := h1 j k hk'; have := (hF k hk).1; omega
      · simp only [hi, hi', if_false] at hk
    · by_cases hi' : i = L.length
      · by_cases hj' : j = L.length
        · exact hij (hi'.trans hj'.symm)
        · simp only [hj, hj', if_false] at hk'
      · simp only [hi, hi', if_false] at hk
  · intro i A2 hA2
    by_cases hi : i < L.length
    · rw [List.getElem?_append_left hi] at hA2
      simp only [hi, if_true]
      exact A2.loc _ _ _ (fun k hk => hb.block k (h1 i k hk)) hb.size (h3 i A2 hA2)
    · rw [List.getElem?_append_right (by omega)] at hA2
      have hi0 : i - L.length = 0 := by
        have := (List.getElem?_eq_some_iff.1 hA2).1
        simp at this; omega
      rw [hi0] at hA2
      cases hA2
      have : i = L.length := by omega
      subst this
      simp only [Nat.lt_irrefl, if_false, if_true]
      exact hA
/-- Something weaker of one of them. -/
theorem Sep.imp {W : World} {L : List Asn} {w : World} (h : Sep W L w) (i : Nat) {A A' : Asn} (hi : L[i]? = some A) (hA : ∀ F, Dom F w → A.P F w → A'.P F w) : Sep W (L.set i A') w := by
  obtain ⟨F, G, h1, h2, h3, h4, h5, K⟩ := h.at i hi
  exact K w F A' (Chg.refl _ _) (fun k hk => .inl hk) (hA F h4 h1)
/-- The last ones forgotten. -/
theorem Sep.take {W : World} {L : List Asn} {w : World} (h : Sep W L w) (n : Nat) : Sep W (L.take n) w := by
  obtain ⟨hg, Fs, h1, h2, h3⟩ := h
  refine ⟨hg, Fs, h1, h2, fun i A hi => ?_⟩
  rw [List.getElem?_take] at hi
  split at hi
  · exact h3 i A hi
  · cases hi
/-- Of two of them: what they hold, apart. -/
theorem Sep.two {W : World} {L : List Asn} {w : World} (h : Sep W L w) (i j : Nat) (hij : i ≠ j) {A B : Asn} (hi : L[i]? = some A) (hj : L[j]? = some B) :
    ∃ F G : Foot, A.P F w ∧ B.P G w ∧ (∀ k, F k → ¬ G k) ∧ Dom F w ∧ Dom G w := by
  obtain ⟨hg, Fs, h1, h2, h3⟩ := h
  exact ⟨Fs i, Fs j, h3 i A hi, h3 j B hj, fun k hk hk' => h2 i j k hij hk hk', fun k hk => h1 i k hk, fun k hk => h1 j k hk⟩
/-- Two of them turned at once, into one: the second is forgotten. -/
theorem Sep.both {W : World} {L : List Asn} {w : World} (h : Sep W L w) (i j : Nat) (hij : i ≠ j) {A B : Asn} (hi : L[i]? = some A) (hj : L[j]? = some B) :
    ∃ F F2 G : Foot, A.P F w ∧ B.P F2 w ∧ (∀ k, F k → ¬ F2 k) ∧ Rest (L.set j TrueA) i G w ∧ (∀ k, (F k ∨ F2 k) → ¬ G k) ∧ Dom F w ∧ Dom F2 w ∧ Dom G w ∧
      ∀ w' F' (A' : Asn), Chg (fun k => F k ∨ F2 k) w w' → (∀ k, F' k → (F k ∨ F2 k) ∨ New w w' k) → A'.P F' w' → Sep W ((L.set j TrueA).set i A') w' := by
  obtain ⟨hg, Fs, h1, h2, h3⟩ := h
  have hjl : j < L.length := (List.getElem?_eq_some_iff.1 hj).1
  have hs : Sep W ((L.set j TrueA).set i ⟨fun F w => ∃ Fa Fb : Foot, (∀ k, F k ↔ Fa k ∨ Fb k) ∧ (∀ k, Fa k → ¬ Fb k) ∧ A.P Fa w ∧ B.P Fb w, fun F w w' hsm hz ⟨Fa, Fb, e, e2, a, b⟩ => ⟨Fa, Fb, e, e2, A.loc _ _ _ (hsm.mono fun k hk => (e k).2 (.inl hk)) hz a, B.loc _ _ _ (hsm.mono fun k hk => (e k).2 (.inr hk)) hz b⟩⟩) w := by
    have hil : i < (L.set j TrueA).length := by rw [List.length_set]; exact (List.getElem?_eq_some_iff.1 hi).1
    refine ⟨hg, fun m k => if m = i then Fs i k ∨ Fs j k else if m = j then False else Fs m k, ?_, ?_, ?_⟩
    · intro m k hk
      by_cases hm : m = i
      · simp only [hm, if_true] at hk; exact hk.elim (h1 i k) (h1 j k)
      · by_cases hm' : m = j
        · subst hm'; simp only [hm, if_false, if_true] at hk
        · simp only [hm, hm', if_false] at hk; exact h1 m k hk
    · intro m m' k hmm hk hk'
      by_cases hm : m = i
      · have hm' : ¬ m' = i := fun e => hmm (hm.trans e.symm)
        by_cases hmj : m' = j
        · subst hmj; simp only [hm', if_true, if_false] at hk'
        · simp only [hm, if_true, hm', hmj, if_false] at hk hk'
          rcases hk with hk | hk
          · exact h2 i m' k (fun e => hm' e.symm) hk hk'
          · exact h2 j m' k (fun e => hmj e.symm) hk hk'
      · by_cases hmj : m = j
        · subst hmj; simp only [hm, if_true, if_false] at hk
        · simp only [hm, hmj, if_false] at hk
          by_cases hm' : m' = i
          · simp only [hm', if_true] at hk'
            rcases hk' with hk' | hk'
            · exact h2 m i k hm hk hk'
            · exact h2 m j k hmj hk hk'
          · by_cases hmj' : m' = j
            · subst hmj'; simp only [hm', if_true, if_false] at hk'
            · simp only [hm', hmj', if_false] at hk'; exact h2 m m' k hmm hk hk'
    · intro m A2 hA2
      by_cases hm : m = i
      · subst hm
        rw [List.getElem?_set_self hil] at hA2
        cases hA2
        exact ⟨Fs m, Fs j, fun k => by simp, fun k hk hk' => h2 m j k hij hk hk', h3 m A hi, h3 j B hj⟩
      · rw [List.getElem?_set_ne (fun e => hm e.symm)] at hA2
        by_cases hm' : m = j
        · subst hm'
          rw [List.getElem?_set_self hjl] at hA2
          cases hA2; trivial
        · rw [List.getElem?_set_ne (fun e => hm' e.symm)] at hA2
          simp only [hm, hm', if_false]
          exact h3 m A2 hA2
  have hil : i < (L.set j TrueA).length := by rw [List.length_set]; exact (List.getElem?_eq_some_iff.1 hi).1
  obtain ⟨F, G, ⟨Fa, Fb, e, e2, a, b⟩, hr, hd, hdF, hdG, K⟩ := hs.at i (List.getElem?_set_self hil)
  refine ⟨Fa, Fb, G, a, b, e2, fun m A2 hm hA2 => hr m A2 hm (by rw [List.getElem?_set_ne (fun e => hm e.symm)]; exact hA2), fun k hk => hd k ((e k).2 hk), fun k hk => hdF k ((e k).2 (.inl hk)), fun k hk => hdF k ((e k).2 (.inr hk)), hdG, ?_⟩
  intro w' F' A' hc hF' hA'
  have := K w' F' A' (hc.mono fun k _ hk => (e k).2 hk) (fun k hk => (hF' k hk).imp (e k).2 id) hA'
  rwa [List.set_set] at this

theorem chg_grown {w w' : World} {row : Option Nat} (h : w.grownBy w' row) {S : Nat → Prop} (hS : ∀ k, row = some k → S k) : Chg S w w' :=
  ⟨h.os, h.tape, h.output, h.size, fun k hk hn => h.block k hk (fun e => hn (hS k e.symm))⟩
theorem row_same {w w' : World} {F : Foot} {T k n : Nat} {v : Value} {xs : List Value} {B : Nat} (hs : Same F w w') (h : w.ownsRow B T k v n xs) (hg : ∀ g, v.ownBlock = some g → F g) : w'.ownsRow B T k v n xs :=
  ⟨h.1, h.2.imp id fun ⟨g, cap, cur, e1, e0, e2, rest⟩ => ⟨g, cap, cur, e1, e0, by rw [hs g (hg g (by rw [e1]; rfl))]; exact e2, rest⟩⟩
theorem ownsRow_lower' {w : World} {B B' T k n : Nat} {v : Value} {xs : List Value} (h : w.ownsRow B T k v n xs) (hB : B' ≤ B) : w.ownsRow B' T k v n xs :=
  ⟨h.1, h.2.imp id fun ⟨g, cap, cur, e1, e0, e2⟩ => ⟨g, cap, cur, e1, Nat.le_trans hB e0, e2⟩⟩
/-- A slice that is owned, cell by cell. -/
def RowA (T k : Nat) (v : Value) (n : Nat) (xs : List Value) : Asn := ⟨fun F w => w.ownsRow 0 T k v n xs ∧ ∀ g, v.ownBlock = some g → F g, fun _ _ _ hs _ h => ⟨row_same hs h.1 h.2, h.2⟩⟩
theorem Sep.row_set {W : World} {L : List Asn} {w : World} (h : Sep W L w) (i : Nat) {T k n c g : Nat} {xs : List Value} (hi : L[i]? = some (RowA T k (.slice (some ⟨g, 0, none⟩) n c) n xs)) (j : Nat) (u : Value) :
    Sep W (L.set i (RowA T k (.slice (some ⟨g, 0, none⟩) n c) n (xs.set j u))) (w.setCell ⟨g, j, none⟩ u) := by
  obtain ⟨F, G, h1, _, _, _, _, K⟩ := h.at i hi
  obtain ⟨s1, s2⟩ := h1.1.stored j u
  exact K _ F (RowA T k (.slice (some ⟨g, 0, none⟩) n c) n (xs.set j u)) (chg_grown s2 fun q hq => by cases hq; exact h1.2 g rfl) (fun k hk => .inl hk) ⟨s1, h1.2⟩
theorem Sep.row_cell {W : World} {L : List Asn} {w : World} (h : Sep W L w) (i : Nat) {T k n c g : Nat} {xs : List Value} (hi : L[i]? = some (RowA T k (.slice (some ⟨g, 0, none⟩) n c) n xs)) (j : Nat) (hj : j < n * k) :
    w.cell? ⟨g, j, none⟩ = xs[j]? ∧ w.frozen? ⟨g, j, none⟩ = false := by
  obtain ⟨F, h1, _⟩ := h.get i hi
  exact ⟨h1.1.cellAt j hj, h1.1.frozenAt j⟩
/-- Something of it is overwritten: nothing more is known of it. -/
theorem Sep.poke {W : World} {L : List Asn} {w : World} (h : Sep W L w) (i : Nat) {A : Asn} (hi : L[i]? = some A) (b o : Nat) (hb : ∀ F, A.P F w → F b) (u : Value) : Sep W (L.set i TrueA) (w.setCell ⟨b, o, none⟩ u) := by
  obtain ⟨F, G, h1, _, _, _, _, K⟩ := h.at i hi
  exact K _ F TrueA (chg_set w b o u (hb F h1)) (fun k hk => .inl hk) trivial
/-- A row that was appended to. -/
theorem Sep.row_app {W w w2 w' : World} {L : List Asn} (h : Sep W L w) (i : Nat) {T k n n' c g H : Nat} {v : Value} {xs ys : List Value} (hi : L[i]? = some (RowA T k v n xs)) (hb : Below w.heap.size w w2)
    (hown : w'.ownsRow 0 T k (.slice (some ⟨g, 0, none⟩) n' c) n' ys) (hg : w2.grownBy w' v.ownBlock) (hat : v.ownBlock = some g ∨ g = H) (hH : w2.heap.size = H) (hlt : g < w'.heap.size) :
    Sep W (L.set i (RowA T k (.slice (some ⟨g, 0, none⟩) n' c) n' ys)) w' := by
  obtain ⟨F, G, h1, _, _, hdF, _, K⟩ := h.at i hi
  have hz := hb.size
  refine K w' (fun q => F q ∨ New w w' q) (RowA T k (.slice (some ⟨g, 0, none⟩) n' c) n' ys) (Chg.after_up hb (chg_grown hg fun q hq => h1.2 q hq)) (fun q hq => hq) ⟨hown, fun q hq => ?_⟩
  obtain rfl : g = q := by simpa [Value.ownBlock] using hq
  rcases hat with h | h
  · exact .inl (h1.2 g h)
  · exact .inr ⟨by omega, hlt⟩
/-- A new row. -/
theorem Sep.row_new {W w w' : World} {L : List Asn} (h : Sep W L w) (hb : Below w.heap.size w w') {T k n : Nat} {v : Value} {xs : List Value} (hown : w'.ownsRow w.heap.size T k v n xs) : Sep W (L ++ [RowA T k v n xs]) w' :=
  h.new hb (RowA T k v n xs) (F := New w w') (fun _ h => h) ⟨ownsRow_lower' hown (Nat.zero_le _), fun g hg => hown.lt g hg⟩
/-- A row in the place of another. -/
theorem Sep.row_put {W w w' : World} {L : List Asn} (h : Sep W L w) (i : Nat) {A : Asn} (hi : L[i]? = some A) (hb : Below w.heap.size w w') {T k n : Nat} {v : Value} {xs : List Value} (hown : w'.ownsRow w.heap.size T k v n xs) : Sep W (L.set i (RowA T k v n xs)) w' := by
  obtain ⟨F, G, h1, _, _, hdF, _, K⟩ := h.at i hi
  exact K w' (fun q => F q ∨ New w w' q) (RowA T k v n xs) (Chg.of_below hb (fun q h1 h2 => by omega)) (fun q hq => hq) ⟨ownsRow_lower' hown (Nat.zero_le _), fun g hg => .inr (hown.lt g hg)⟩
/-- Bytes of one's own. -/
def BytesWA (v : Value) (l : Bytes) : Asn := ⟨fun F w => BytesW F w v l, fun _ _ _ hs _ h => h.same hs⟩
theorem BytesW.at {F : Foot} {w : World} {b o n c : Nat} {l : Bytes} (h : BytesW F w (.slice (some ⟨b, o, none⟩) n c) l) (j : Nat) (hj : j < l.length) : (∃ x : UInt8, w.cell? ⟨b, o + j, none⟩ = some (.int .u8 (x.toNat : Int))) ∧ w.frozen? ⟨b, o + j, none⟩ = false ∧ F b := by
  obtain ⟨p, c', hv, _, _, _, h4⟩ := h
  obtain ⟨b', o', hp, hF, hc⟩ := h4 j hj
  cases hv
  cases hp
  rw [Nat.mul_one] at hc
  exact ⟨⟨l[j], hc.1⟩, hc.2, hF⟩
theorem BytesW.base {F : Foot} {w : World} {v : Value} {l : Bytes} (h : BytesW F w v l) (h0 : 0 < l.length) : ∃ b o c, v = .slice (some ⟨b, o, none⟩) l.length c ∧ l.length ≤ c ∧ c ≤ 9223372036854775807 := by
  obtain ⟨p, c, rfl, h1, h2, h3, h4⟩ := h
  obtain ⟨b, o, rfl, _⟩ := h4 0 h0
  exact ⟨b, o, c, rfl, h1, h2⟩
theorem ownsRow_base {w : World} {B B' T k n c g : Nat} {xs : List Value} (h : w.ownsRow B T k (.slice (some ⟨g, 0, none⟩) n c) n xs) (hB : B' ≤ g) : w.ownsRow B' T k (.slice (some ⟨g, 0, none⟩) n c) n xs := by
  refine ⟨h.1, h.2.imp (fun e => by cases e.1) fun ⟨g', cap, cur, e1, _, e2⟩ => ⟨g', cap, cur, e1, ?_, e2⟩⟩
  cases e1; exact hB
theorem cell_set_other {w : World} {g r b o : Nat} {v : Value} (h : b ≠ g) : (w.setCell ⟨g, r, none⟩ v).cell? ⟨b, o, none⟩ = w.cell? ⟨b, o, none⟩ := World.cell?_of_block (Below.heap_setCell _ _ _ b h)
end Sc

/- Lists of structs that a call builds by append, each with data of its own; of whatever program. -/
namespace Sc
open Go Go.RowKit

/-- v is a slice that the call from B on owns: its elements' cells, k each, are css; R says what an element's cells hold; what they lead to lies in D, apart from the slice's own block. -/
def OutS {α : Type} (T : TypeId) (k : Nat) (R : (Nat → Prop) → World → List Value → α → Prop) (B : Nat) (w : World) (v : Value) (l : List α) (D : Nat → Prop) : Prop :=
  ∃ css : List (List Value), css.length = l.length ∧ (∀ cs ∈ css, cs.length = k) ∧ w.ownsRow B T k v l.length css.flatten ∧
    (∀ i (h : i < css.length) (h' : i < l.length), R D w css[i] l[i]) ∧ ∀ b, D b → B ≤ b ∧ b < w.heap.size ∧ v.ownBlock ≠ some b

def RStable {α : Type} (R : (Nat → Prop) → World → List Value → α → Prop) : Prop := ∀ D D' w w' cs x, (∀ b, D b → D' b) → Same D w w' → R D w cs x → R D' w' cs x

theorem OutS.nil {α : Type} {T k : Nat} {R : (Nat → Prop) → World → List Value → α → Prop} {B : Nat} {w : World} : OutS T k R B w (.slice none 0 0) [] (fun _ => False) :=
  ⟨[], rfl, by simp, World.ownsRow_nil _ _ _ _, fun i h => absurd h (by simp), fun b h => h.elim⟩

theorem OutS.own {α : Type} {T k : Nat} {R : (Nat → Prop) → World → List Value → α → Prop} {B : Nat} {w : World} {v : Value} {l : List α} {D : Nat → Prop} (h : OutS T k R B w v l D) : ∃ xs, w.ownsRow B T k v l.length xs :=
  let ⟨_, _, _, h3, _⟩ := h; ⟨_, h3⟩

/-- While memory grows it stays. -/
theorem OutS.up {α : Type} {T k : Nat} {R : (Nat → Prop) → World → List Value → α → Prop} (hR : RStable R) {B : Nat} {w w' : World} {v : Value} {l : List α} {D : Nat → Prop} (h : OutS T k R B w v l D) (hb : Below w.heap.size w w') : OutS T k R B w' v l D := by
  obtain ⟨css, h1, h2, h3, h4, h5⟩ := h
  refine ⟨css, h1, h2, h3.kept (row := none) ⟨hb.os, hb.tape, hb.output, hb.size, fun q hq _ => hb.block q hq⟩ ?_, fun i a b => hR D D w w' _ _ (fun _ h => h) (fun q hq => hb.block q (h5 q hq).2.1) (h4 i a b), fun b hd => ⟨(h5 b hd).1, Nat.lt_of_lt_of_le (h5 b hd).2.1 hb.size, (h5 b hd).2.2⟩⟩
  cases v.ownBlock <;> simp

/-- One element more, behind an append. -/
theorem OutS.snoc {α : Type} {T k : Nat} {R : (Nat → Prop) → World → List Value → α → Prop} (hR : RStable R) {B : Nat} {w w' : World} {v : Value} {l : List α} {D D3 : Nat → Prop} {css : List (List Value)} {cs : List Value} {x : α} {g cap : Nat}
    (h1 : css.length = l.length) (h2 : ∀ cs ∈ css, cs.length = k) (h4 : ∀ i (h : i < css.length) (h' : i < l.length), R D w css[i] l[i]) (h5 : ∀ b, D b → B ≤ b ∧ b < w.heap.size ∧ v.ownBlock ≠ some b)
    (hcs : cs.length = k) (hx : R D3 w cs x) (h3 : ∀ b, D3 b → B ≤ b ∧ b < w.heap.size ∧ v.ownBlock ≠ some b)
    (hown : w'.ownsRow B T k (.slice (some ⟨g, 0, none⟩) (l.length + 1) cap) (l.length + 1) (css.flatten ++ cs)) (hg : w.grownBy w' v.ownBlock) (hat : v.ownBlock = some g ∨ g = w.heap.size) :
    OutS T k R B w' (.slice (some ⟨g, 0, none⟩) (l.length + 1) cap) (l ++ [x]) (fun b => D b ∨ D3 b) := by
  have hs : ∀ {E : Nat → Prop}, (∀ b, E b → B ≤ b ∧ b < w.heap.size ∧ v.ownBlock ≠ some b) → Same E w w' := fun hE q hq => hg.block q (hE q hq).2.1 (fun e => (hE q hq).2.2 e.symm)
  refine ⟨css ++ [cs], by simp [h1], fun c hc => ?_, by simpa using hown, fun i hi hi' => ?_, fun b hb => ?_⟩
  · rcases List.mem_append.1 hc with hc | hc
    · exact h2 c hc
    · rw [List.mem_singleton] at hc; subst hc; exact hcs
  · by_cases hlt : i < l.length
    · rw [List.getElem_append_left (by omega), List.getElem_append_left hlt]
      exact hR _ _ _ _ _ _ (fun _ h => .inl h) (hs h5) (h4 i (by omega) hlt)
    · have hi0 : i = l.length := by simp at hi'; omega
      subst hi0
      rw [List.getElem_append_right (by omega), List.getElem_append_right (Nat.le_refl _)]
      simp only [h1, Nat.sub_self, List.getElem_cons_zero]
      exact hR _ _ _ _ _ _ (fun _ h => .inr h) (hs h3) hx
  · have hB := hb.elim (h5 b) (h3 b)
    refine ⟨hB.1, Nat.lt_of_lt_of_le hB.2.1 hg.size, fun e => ?_⟩
    have e' : g = b := by simpa [Value.ownBlock] using e
    subst e'
    rcases hat with hat | hat
    · exact hB.2.2 hat
    · have := hB.2.1; omega

theorem flat_get {k : Nat} : ∀ {css : List (List Value)} (_ : ∀ cs ∈ css, cs.length = k) (i : Nat) (hi : i < css.length) (j : Nat) (_hj : j < k), css.flatten[i * k + j]? = css[i][j]?
  | [], _, i, hi, _, _ => absurd hi (by simp)
  | c :: t, h, 0, _, j, hj => by
    have hc := h c (by simp)
    simp only [List.flatten_cons, Nat.zero_mul, Nat.zero_add, List.getElem_cons_zero]
    rw [List.getElem?_append_left (by omega)]
  | c :: t, h, i + 1, hi, j, hj => by
    have hc := h c (by simp)
    have ih := flat_get (css := t) (fun x hx => h x (by simp [hx])) i (by simpa using hi) j hj
    simp only [List.flatten_cons, List.getElem_cons_succ]
    rw [List.getElem?_append_right (by rw [hc, Nat.succ_mul]; omega), hc, show (i + 1) * k + j - k = i * k + j by rw [Nat.succ_mul]; omega]
    exact ih

/-- Read as any other slice. -/
theorem OutS.slAt {α : Type} {T k : Nat} {R : (Nat → Prop) → World → List Value → α → Prop} {B : Nat} {w : World} {v : Value} {l : List α} {D : Nat → Prop} {E : Elem α} {G : Nat → Prop} (h : OutS T k R B w v l D)
    (hG : ∀ b, B ≤ b → b < w.heap.size → G b) (hE : ∀ b o cs x, cs.length = k → (∀ j, j < k → w.cell? ⟨b, o + j, none⟩ = cs[j]?) → (∀ j, w.frozen? ⟨b, o + j, none⟩ = false) → R D w cs x → E w b o x) : SlAt G k E w v l := by
  obtain ⟨css, h1, h2, h3, h4, h5⟩ := h
  have hlt := h3.lt
  obtain ⟨hx, hc | ⟨g, cap, cur, rfl, hb, hg, hnc, hcm, hcs, htake⟩⟩ := h3
  · obtain ⟨rfl, hl0⟩ := hc
    obtain rfl : l = [] := List.length_eq_zero_iff.1 hl0
    exact SlAt.nil
  · have hgl := hlt g rfl
    have hrow : w.ownsRow B T k (.slice (some ⟨g, 0, none⟩) l.length cap) l.length css.flatten := ⟨hx, .inr ⟨g, cap, cur, rfl, hb, hg, hnc, hcm, hcs, htake⟩⟩
    refine ⟨_, cap, rfl, hnc, by unfold maxLen at hcm; omega, (by intro hh; cases hh), fun i hi => ⟨g, 0, rfl, hG g hgl.1 hgl.2, ?_⟩⟩
    have hi' : i < css.length := by omega
    have hck := h2 _ (List.getElem_mem hi')
    refine hE g (0 + i * k) css[i] l[i] hck (fun j hj => ?_) (fun j => hrow.frozenAt _) (h4 i hi' hi)
    rw [Nat.zero_add, hrow.cellAt (i * k + j) ?_]
    · exact flat_get h2 i hi' j hj
    · have h1 : (i + 1) * k ≤ l.length * k := Nat.mul_le_mul_right k (by omega)
      rw [Nat.succ_mul] at h1; omega

/-- What a Put's cells hold. -/
def putR (D : Nat → Prop) (w : World) (cs : List Value) (x : Put) : Prop := ∃ dv, cs = [.int .i64 x.lba, dv] ∧ I64 x.lba ∧ BytesAt D w dv x.data
theorem putR_stable : RStable putR := fun _D _D' _w _w' _cs _x hd hs ⟨dv, h1, h2, h3⟩ => ⟨dv, h1, h2, (h3.same hs).mono hd⟩
theorem OutS.puts {T : Nat} {B : Nat} {w : World} {v : Value} {l : List Put} {D : Nat → Prop} {G : Nat → Prop} (h : OutS T 2 putR B w v l D) (hG : ∀ b, B ≤ b → b < w.heap.size → G b) : PutsAt G w v l := by
  have hD : ∀ b, D b → G b := by obtain ⟨_, _, _, _, _, h5⟩ := h; exact fun b hb => hG b (h5 b hb).1 (h5 b hb).2.1
  refine h.slAt hG fun b o cs x hl hc _ ⟨dv, he, hi, hd⟩ => ?_
  subst he
  exact ⟨by first | (simp; done) | (have := hc 0 (by omega); simpa using this), hi, dv, by first | (simp; done) | (have := hc 1 (by omega); simpa using this), hd.mono hD⟩
/-- Puts that may be written. -/
def putW (G : Nat → Prop) : Elem Put := fun w b o x => w.cell? ⟨b, o, none⟩ = some (.int .i64 x.lba) ∧ I64 x.lba ∧ w.frozen? ⟨b, o, none⟩ = false ∧ ∃ v, w.cell? ⟨b, o + 1, none⟩ = some v ∧ BytesW G w v x.data
def PutsW (G : Nat → Prop) : World → Value → List Put → Prop := SlAt G 2 (putW G)
theorem PutsW.puts {G : Nat → Prop} {w : World} {v : Value} {l : List Put} (h : PutsW G w v l) : PutsAt G w v l := SlAt.mono h (fun _ h => h) (fun _ _ _ ⟨h1, h2, _, v, h3, h4⟩ => ⟨h1, h2, v, h3, h4.bytes⟩)
def putRW (D : Nat → Prop) (w : World) (cs : List Value) (x : Put) : Prop := ∃ dv, cs = [.int .i64 x.lba, dv] ∧ I64 x.lba ∧ BytesW D w dv x.data
theorem putRW_stable : RStable putRW := fun _D _D' _w _w' _cs _x hd hs ⟨dv, h1, h2, h3⟩ => ⟨dv, h1, h2, (h3.same hs).mono hd⟩
theorem OutS.putsW {T : Nat} {B : Nat} {w : World} {v : Value} {l : List Put} {D : Nat → Prop} {G : Nat → Prop} (h : OutS T 2 putRW B w v l D) (hG : ∀ b, B ≤ b → b < w.heap.size → G b) : PutsW G w v l := by
  have hD : ∀ b, D b → G b := by obtain ⟨_, _, _, _, _, h5⟩ := h; exact fun b hb => hG b (h5 b hb).1 (h5 b hb).2.1
  refine h.slAt hG fun b o cs x hl hc hf ⟨dv, he, hi, hd⟩ => ?_
  subst he
  exact ⟨by first | (simp; done) | (have := hc 0 (by omega); simpa using this), hi, hf 0, dv, by first | (simp; done) | (have := hc 1 (by omega); simpa using this), hd.mono hD⟩
theorem OutS.same {α : Type} {T k : Nat} {R : (Nat → Prop) → World → List Value → α → Prop} (hR : RStable R) {B : Nat} {w w' : World} {v : Value} {l : List α} {D F : Nat → Prop} (h : OutS T k R B w v l D) (hs : Same F w w') (hz : w.heap.size ≤ w'.heap.size)
    (ho : ∀ g, v.ownBlock = some g → F g) (hD : ∀ b, D b → F b) : OutS T k R B w' v l D := by
  obtain ⟨css, h1, h2, h3, h4, h5⟩ := h
  exact ⟨css, h1, h2, row_same hs h3 ho, fun i a b => hR D D w w' _ _ (fun _ h => h) (hs.mono hD) (h4 i a b), fun b hd => ⟨(h5 b hd).1, Nat.lt_of_lt_of_le (h5 b hd).2.1 hz, (h5 b hd).2.2⟩⟩
theorem OutS.more {α : Type} {T k : Nat} {R : (Nat → Prop) → World → List Value → α → Prop} (hR : RStable R) {B : Nat} {w : World} {v : Value} {l : List α} {D D' : Nat → Prop} (h : OutS T k R B w v l D) (hD : ∀ b, D b → D' b) (hD' : ∀ b, D' b → B ≤ b ∧ b < w.heap.size ∧ v.ownBlock ≠ some b) : OutS T k R B w v l D' := by
  obtain ⟨css, h1, h2, h3, h4, h5⟩ := h
  exact ⟨css, h1, h2, h3, fun i a b => hR D D' w w _ _ hD (Same.refl _ _) (h4 i a b), hD'⟩

end Sc

/- Package extmap: what a Map holds in memory. -/
namespace Go.Proofs
open Go.RowKit Sc

/-- Versions of a block are kept as Puts, whose LBA is the time. -/
abbrev Vers := List (Int × List Put)

/-- A Map, in the blocks F. -/
structure ExtIs (F : Nat → Prop) (w : World) (v : Value) (blocks last : Int) (vs : Vers) : Prop where
  out : ∃ b r ml D, v = .pointer (some ⟨b, 0, none⟩) ∧ F b ∧ F r ∧ w.heap[b]? = some (.cells #[.int .i64 blocks, .map (some r), .int .i64 last] 108 (0, 0)) ∧ MapIs w r ml ∧
    AL (fun u l => OutS 115 2 putR 0 w u l D ∧ ∀ g, u.ownBlock = some g → F g ∧ g ≠ b ∧ g ≠ r) ml vs ∧
    (∀ x ∈ ml, ∀ y ∈ ml, x.1 ≠ y.1 → ∀ g, x.2.ownBlock = some g → y.2.ownBlock ≠ some g) ∧ (∀ k, D k → F k ∧ k ≠ b ∧ k ≠ r)
  dom : Dom F w
theorem ExtIs.same {F : Nat → Prop} {w w' : World} {v : Value} {blocks last : Int} {vs : Vers} (h : ExtIs F w v blocks last vs) (hs : Same F w w') (hz : w.heap.size ≤ w'.heap.size) : ExtIs F w' v blocks last vs := by
  obtain ⟨⟨b, r, ml, D, h1, h2, h3, h4, h5, h6, h7, h8⟩, hd⟩ := h
  exact ⟨⟨b, r, ml, D, h1, h2, h3, by rw [hs b h2]; exact h4, h5.same hs h3, h6.imp fun _ _ ⟨a, c⟩ => ⟨a.same putR_stable hs hz (fun g hg => (c g hg).1) (fun k hk => (h8 k hk).1), c⟩, h7, h8⟩, hd.of_size hz⟩
theorem ExtIs.up {F : Nat → Prop} {w w' : World} {v : Value} {blocks last : Int} {vs : Vers} (h : ExtIs F w v blocks last vs) (hb : Below w.heap.size w w') : ExtIs F w' v blocks last vs := h.same (h.dom.same hb) hb.size
def ExtA (v : Value) (blocks last : Int) (vs : Vers) : Asn := ⟨fun F w => ExtIs F w v blocks last vs, fun _ _ _ hs hz h => h.same hs hz⟩
theorem ExtIs.nodup {F : Nat → Prop} {w : World} {v : Value} {blocks last : Int} {vs : Vers} (h : ExtIs F w v blocks last vs) : (vs.map (·.1)).Nodup := by
  obtain ⟨⟨b, r, ml, D, h1, h2, h3, h4, h5, h6, h7, h8⟩, hd⟩ := h
  obtain ⟨_, _, _, _, hn, _⟩ := h5
  rw [← AL.keys h6]; exact hn

/-- How many of the versions, the eldest, there are up to the last one that is not above a time. -/
def atN : List Put → Int → Nat
  | [], _ => 0
  | p :: l, t => if 0 < atN l t then atN l t + 1 else if p.lba ≤ t then 1 else 0
theorem atN_le : ∀ (l : List Put) (t : Int), atN l t ≤ l.length
  | [], _ => Nat.le_refl _
  | p :: l, t => by
    have := atN_le l t
    simp only [atN, List.length_cons]
    split
    · omega
    · split <;> omega
theorem atN_above : ∀ (l : List Put) (t : Int) (j : Nat) (h : j < l.length), atN l t ≤ j → t < l[j].lba
  | [], _, _, h, _ => absurd h (by simp)
  | p :: l, t, 0, h, hj => by
    simp only [atN] at hj
    split at hj
    · omega
    · split at hj
      · omega
      · simp only [List.getElem_cons_zero]; omega
  | p :: l, t, j + 1, h, hj => by
    simp only [List.getElem_cons_succ]
    refine atN_above l t j (by simpa using h) ?_
    simp only [atN] at hj
    split at hj
    · omega
    · omega
theorem atN_at : ∀ (l : List Put) (t : Int), 0 < atN l t → ∃ h : atN l t - 1 < l.length, l[atN l t - 1].lba ≤ t
  | [], _, h => absurd h (by simp [atN])
  | p :: l, t, h => by
    simp only [atN] at h ⊢
    by_cases h0 : 0 < atN l t
    · obtain ⟨h1, h2⟩ := atN_at l t h0
      simp only [if_pos h0]
      refine ⟨by simp only [List.length_cons]; omega, ?_⟩
      have e : atN l t + 1 - 1 = (atN l t - 1) + 1 := by omega
      simp only [e, List.getElem_cons_succ]
      exact h2
    · simp only [if_neg h0] at h ⊢
      by_cases h1 : p.lba ≤ t
      · simp only [if_pos h1]
        exact ⟨by simp, by simpa using h1⟩
      · simp only [if_neg h1] at h; omega
theorem atN_is {l : List Put} {t : Int} {m : Nat} (hm : m ≤ l.length) (ha : ∀ j (h : j < l.length), m ≤ j → t < l[j].lba) (hb : m = 0 ∨ ∃ h : m - 1 < l.length, l[m - 1].lba ≤ t) : atN l t = m := by
  have h1 := atN_le l t
  rcases Nat.lt_trichotomy (atN l t) m with h | h | h
  · rcases hb with rfl | ⟨h2, hb⟩
    · omega
    · have := atN_above l t (m - 1) h2 (by omega); omega
  · exact h
  · obtain ⟨h2, h3⟩ := atN_at l t (by omega)
    have := ha _ h2 (by omega); omega
end Go.Proofs

/- Package extmap: New, gone, Blocks, block, Last, rise, at, Get. -/
namespace Go.Proofs
open Go.RowKit Sc

/-- What the walks read of a Map. -/
theorem ExtIs.cells {F : Nat → Prop} {w : World} {v : Value} {blocks last : Int} {vs : Vers} (h : ExtIs F w v blocks last vs) :
    ∃ b r ml, v = .pointer (some ⟨b, 0, none⟩) ∧ b < w.heap.size ∧ w.cell? ⟨b, 0, none⟩ = some (.int .i64 blocks) ∧ w.cell? ⟨b, 1, none⟩ = some (.map (some r)) ∧ w.cell? ⟨b, 2, none⟩ = some (.int .i64 last) ∧ MapIs w r ml ∧
      AL (fun u l => PutsAt (Old w) w u l) ml vs := by
  obtain ⟨⟨b, r, ml, D, h1, h2, h3, h4, h5, h6, h7, h8⟩, hd⟩ := h
  exact ⟨b, r, ml, h1, hd b h2, by rw [cell_row h4]; rfl, by rw [cell_row h4]; rfl, by rw [cell_row h4]; rfl, h5, h6.imp fun _ _ ⟨a, _⟩ => a.puts fun _ _ h => h⟩

def ExtNew (n : Int) (w : World) (e : Ending) (w' : World) : Prop := ∃ v, e = .returned (.tuple #[v, .int .i64 0]) ∧ ExtIs (New w w') w' v n 0 [] ∧ Below w.heap.size w w'
set_option maxHeartbeats 400000 in
theorem extNew_any (n : Int) (w : World) (h1 : 1 ≤ n) (h2 : n ≤ 1048576) : Calls Try.prog 33 #[.int .i64 n] w (ExtNew n w) := by
  have hmm := @run_makeMap Try.prog
  go_enter Try.func33, Try.ntmps33
  go_wp2
  go_ret2
  have hm := MapIs.made w
  refine ⟨_, rfl, ⟨⟨w.heap.size + 1, w.heap.size, [], fun _ => False, by simp, by simp [New], by simp [New]; omega, heap_new (by simp), hm.same (G := (· < w.heap.size + 1)) (fun k hk => heap_old (by simpa using hk)) (by simp), trivial, by simp, fun _ h => h.elim⟩, fun k hk => hk.2⟩, ?_⟩
  exact ((Below.refl _ _).alloc (Nat.le_refl _) _).alloc (by simp) _

theorem extGone_any (F : Nat → Prop) (v : Value) (blocks last : Int) (vs : Vers) (w : World) (h : ExtIs F w v blocks last vs) (h1 : 1 ≤ blocks) : Calls Try.prog 49 #[v] w fun e w' => e = .returned (.bool false) ∧ w = w' := by
  obtain ⟨b, r, ml, rfl, hb, hc0, _, _, _, _⟩ := h.cells
  have h0 : (blocks == 0) = false := by rw [beq_eq_false_iff_ne]; omega
  go_enter Try.func49, Try.ntmps49
  go_wp2
  go_ret
  exact ⟨rfl, rfl⟩
theorem extBlocks_any (F : Nat → Prop) (v : Value) (blocks last : Int) (vs : Vers) (w : World) (h : ExtIs F w v blocks last vs) : Calls Try.prog 72 #[v] w fun e w' => e = .returned (.int .i64 blocks) ∧ w = w' := by
  obtain ⟨b, r, ml, rfl, hb, hc0, _, _, _, _⟩ := h.cells
  go_enter Try.func72, Try.ntmps72
  go_wp2
  go_ret
  exact ⟨rfl, rfl⟩
theorem extLast_any (F : Nat → Prop) (v : Value) (blocks last : Int) (vs : Vers) (w : World) (h : ExtIs F w v blocks last vs) : Calls Try.prog 36 #[v] w fun e w' => e = .returned (.int .i64 last) ∧ w = w' := by
  obtain ⟨b, r, ml, rfl, hb, _, _, hc2, _, _⟩ := h.cells
  go_enter Try.func36, Try.ntmps36
  go_wp2
  go_ret
  exact ⟨rfl, rfl⟩
theorem extBlock_any (F : Nat → Prop) (v : Value) (blocks last : Int) (vs : Vers) (lba : Int) (w : World) (h : ExtIs F w v blocks last vs) : Calls Try.prog 51 #[v, .int .i64 lba] w fun e w' => e = .returned (.bool (blk blocks lba)) ∧ w = w' := by
  have H := Lib.hid h
  obtain ⟨b, r, ml, rfl, _⟩ := h.cells
  clear h
  by_cases h1 : 0 ≤ lba
  · by_cases h2 : lba < blocks
    · have hb : blk blocks lba = true := by unfold blk; rw [decide_eq_true h1, decide_eq_true h2]; rfl
      have HB := Lib.hid hb
      clear hb
      go_enter Try.func51, Try.ntmps51
      go_wp2_with fail
      refine (extBlocks_any F _ _ _ _ _ H.out).mono ?_
      rintro e w1 ⟨rfl, rfl⟩
      go_wp2
      go_ret
      exact ⟨congrArg boolRet HB.out.symm, rfl⟩
    · have hb : blk blocks lba = false := by unfold blk; rw [decide_eq_false h2, Bool.and_false]
      have HB := Lib.hid hb
      clear hb
      go_enter Try.func51, Try.ntmps51
      go_wp2_with fail
      refine (extBlocks_any F _ _ _ _ _ H.out).mono ?_
      rintro e w1 ⟨rfl, rfl⟩
      go_wp2
      go_ret
      exact ⟨congrArg boolRet (by rw [HB.out]; simp; omega), rfl⟩
  · have hb : blk blocks lba = false := by unfold blk; rw [decide_eq_false h1, Bool.false_and]
    have h1' : lba < 0 := by omega
    have HB := Lib.hid hb
    clear hb
    clear h1
    go_enter Try.func51, Try.ntmps51
    go_wp2
    go_ret
    exact ⟨congrArg boolRet HB.out.symm, rfl⟩

/-- Do the LBAs rise? -/
def riseB (l : List Put) : Bool := decide (0 < l.length) && (List.range (l.length - 1)).all fun i => decide ((l.map (·.lba)).getD i 0 < (l.map (·.lba)).getD (i + 1) 0)
set_option maxHeartbeats 400000 in
theorem rise_any (G : Nat → Prop) (v : Value) (l : List Put) (w : World) (hG : Dom G w) (hv : PutsAt G w v l) : Calls Try.prog 50 #[v] w fun e w' => e = .returned (.bool (riseB l)) ∧ Below w.heap.size w w' := by
  obtain ⟨p, c, rfl, h1, h2, h3, h4⟩ := hv
  have hgd : ∀ i (h : i < l.length), (l.map (·.lba)).getD i 0 = l[i].lba := fun i h => by simp [List.getD, h]
  have hno : ∀ i, i + 1 < l.length → (l.map (·.lba)).getD (i + 1) 0 ≤ (l.map (·.lba)).getD i 0 → riseB l = false := by
    intro i hi hle
    unfold riseB
    rw [Bool.and_eq_false_iff]; right
    rw [List.all_eq_false]
    exact ⟨i, List.mem_range.2 (by omega), by simp; simpa using hle⟩
  have hyes : (∀ i, i + 1 < l.length → (l.map (·.lba)).getD i 0 < (l.map (·.lba)).getD (i + 1) 0) → riseB l = decide (0 < l.length) := by
    intro h
    unfold riseB
    have : ((List.range (l.length - 1)).all fun i => decide ((l.map (·.lba)).getD i 0 < (l.map (·.lba)).getD (i + 1) 0)) = true := by
      rw [List.all_eq_true]
      intro i hi
      exact decide_eq_true (h i (by have := List.mem_range.1 hi; omega))
    rw [this, Bool.and_true]
  have H4 := Lib.hid h4
  have HGD := Lib.hid hgd
  have HNO := Lib.hid hno
  have HYES := Lib.hid hyes
  clear h4 hgd hno hyes
  clear h3
  go_enter Try.func50, Try.ntmps50
  go_wp2
  go_loopw [3] (fun i wr => ∃ k : Nat, 1 ≤ k ∧ (k ≤ l.length ∨ k = 1) ∧ i = .int .i64 k ∧ Below w.heap.size w wr ∧ Hid (∀ i, i + 1 < k → i + 1 < l.length → (l.map (·.lba)).getD i 0 < (l.map (·.lba)).getD (i + 1) 0)) (fun i _ => l.length - (intOf i).toNat)
  case atStart => exact ⟨1, by omega, .inr rfl, rfl, Below.refl _ _, fun i hi => by omega⟩
  case round =>
    obtain ⟨k, hk1, hk2, rfl, hbw, HA⟩ := hrel
    by_cases hlt : k < l.length
    · obtain ⟨j, rfl⟩ : ∃ j, k = j + 1 := ⟨k - 1, by omega⟩
      obtain ⟨b, o, rfl, hb, hc1, _⟩ := H4.out (j + 1) hlt
      obtain ⟨_, _, hp, hb', hc0, _⟩ := H4.out j (by omega)
      cases hp
      have hc1' := (hbw.cell (p := ⟨b, o + (j + 1) * 2, none⟩) (hG b hb)).trans hc1
      have hc0' := (hbw.cell (p := ⟨b, o + j * 2, none⟩) (hG b hb)).trans hc0
      rw [← HGD.out (j + 1) hlt] at hc1'
      rw [← HGD.out j (by omega)] at hc0'
      have hno := HNO.out j hlt
      have ha := HA.out
      have hst : (l.map (·.lba)).getD j 0 < (l.map (·.lba)).getD (j + 1) 0 → ∀ i, i + 1 < j + 1 + 1 → i + 1 < l.length → (l.map (·.lba)).getD i 0 < (l.map (·.lba)).getD (i + 1) 0 := by
        intro h i hi hi'
        by_cases e : i = j
        · subst e; exact h
        · exact ha i (by omega) hi'
      generalize (l.map (·.lba)).getD j 0 = x at hc0' hno hst
      generalize (l.map (·.lba)).getD (j + 1) 0 = y at hc1' hno hst
      have hej : (((j + 1 : Nat) : Int) - 1) = (j : Int) := by omega
      have hw1 : IntKind.i64.wrap (((j + 1 : Nat) : Int) - 1) = (j : Int) := by rw [hej]; exact IntWalk.i64_in _ (by omega)
      have HNO := Lib.hid hno
      have HST := Lib.hid hst
      clear hno hst
      clear hc1 hc0 ha
      by_cases hle : y ≤ x
      · go_wp2
        go_quiet (fail)
        go_wp2
        go_ret
        exact ⟨congrArg boolRet (HNO.out hle).symm, below_drewN hbw _⟩
      · have hle2 : x < y := by omega
        clear hle
        go_wp2
        go_quiet (fail)
        go_wp2
        go_roundw
        case rel => exact ⟨j + 1 + 1, by omega, by omega, by go_num, below_drewN hbw _, HST.out hle2⟩
        case measure => simp [intOf]; omega
    · have hy := HYES.out (fun i hi => HA.out i (by omega) hi)
      have HY := Lib.hid hy
      clear hy
      go_wp2
      go_ret
      exact ⟨congrArg boolRet (by rw [HY.out]), hbw⟩

set_option maxRecDepth 100000 in
set_option maxHeartbeats 400000 in
theorem extAt_any (F : Nat → Prop) (v : Value) (blocks last : Int) (vs : Vers) (lba t : Int) (w : World) (h : ExtIs F w v blocks last vs) :
    Calls Try.prog 78 #[v, .int .i64 lba, .int .i64 t] w fun e w' => e = .returned (.int .i64 ((atN ((alook vs lba).getD []) t : Int) - 1)) ∧ w = w' := by
  obtain ⟨b, r, ml, rfl, hb, hc0, hc1, hc2, hm, ha⟩ := h.cells
  have hl := hm.lookup (P := Try.prog) Try.underlying106 Try.underlying3 (Try.zeroValue113 _) lba false
  have hval : ∃ u l, (alook ml lba).getD (.slice none 0 0) = u ∧ (alook vs lba).getD [] = l ∧ PutsAt (Old w) w u l := by
    rcases ha.look lba with ⟨h1, h2⟩ | ⟨u, l, h1, h2, h3⟩
    · exact ⟨_, _, by rw [h1]; rfl, by rw [h2]; rfl, SlAt.nil⟩
    · exact ⟨u, l, by rw [h1]; rfl, by rw [h2]; rfl, h3⟩
  obtain ⟨u, l, hu, hvl, hp⟩ := hval
  simp only [hu, Bool.false_eq_true, if_false] at hl
  rw [hvl]
  obtain ⟨p, c, rfl, h1, h2, h3, h4⟩ := hp
  have H4 := Lib.hid h4
  clear h4
  clear hm ha h3 hu hvl h
  go_enter Try.func78, Try.ntmps78
  go_wp2
  go_step3
  go_wp2
  go_step3
  go_wp2
  go_loopg [8] l.length (fun gg i wr => wr = w ∧ ∃ m : Nat, m ≤ l.length ∧ m ≤ gg ∧ i = .int .i64 ((m : Int) - 1) ∧ Hid (∀ j (h : j < l.length), m ≤ j → t < l[j].lba))
  case atStart => exact ⟨rfl, l.length, Nat.le_refl _, Nat.le_refl _, rfl, fun j hj hj' => by omega⟩
  case round =>
    obtain ⟨rfl, m, hm, hg, rfl, HA⟩ := hrel
    cases m with
    | zero =>
      have hat := atN_is (l := l) (t := t) (m := 0) (by omega) HA.out (.inl rfl)
      have HAT := Lib.hid hat
      clear hat
      go_wp2
      rw [Exit.noGoto_ret]
      go_ret
      rw [HAT.out]
      exact ⟨rfl, rfl⟩
    | succ j =>
      have hj : j < l.length := by omega
      obtain ⟨g, o, rfl, hg, hcg, _⟩ := H4.out j hj
      have hej : (((j + 1 : Nat) : Int) - 1) = (j : Int) := by omega
      have hat : l[j].lba ≤ t → atN l t = j + 1 := fun h => atN_is (l := l) (t := t) (m := j + 1) (by omega) HA.out (.inr ⟨by omega, h⟩)
      have ha := HA.out
      have hst : t < l[j].lba → ∀ i (h : i < l.length), j ≤ i → t < l[i].lba := by
        intro h i hi hji
        by_cases e : i = j
        · subst e; exact h
        · exact ha i hi (by omega)
      generalize l[j].lba = x at hcg hat hst
      have HAT := Lib.hid hat
      have HST := Lib.hid hst
      clear hat hst
      rw [hej]
      clear ha hej
      by_cases hle : x ≤ t
      · go_wp2
        rw [Exit.noGoto_ret]
        go_ret
        rw [HAT.out hle]
        exact ⟨by simp, rfl⟩
      · have hle2 : t < x := by omega
        clear hle
        go_wp2
        go_roundg j
        case measure => omega
        case rel => exact ⟨rfl, j, by omega, Nat.le_refl _, rfl, HST.out hle2⟩
end Go.Proofs

/- Package extmap: Get, within, Range. -/
namespace Go.Proofs
open Go.RowKit Sc

/-- What a block was at a time, and since when. -/
def getV (vs : Vers) (lba t : Int) : Bytes × Int :=
  let l := (alook vs lba).getD []
  match l[atN l t - 1]? with
  | some p => if atN l t = 0 then (zeroB, 0) else (p.data, p.lba)
  | none => (zeroB, 0)
def ExtGetSaid (blocks : Int) (vs : Vers) (lba t : Int) (w : World) (e : Ending) (w' : World) : Prop :=
  (blk blocks lba = false ∧ e = .returned (.tuple #[.slice none 0 0, .int .i64 0]) ∧ Below w.heap.size w w') ∨
  (blk blocks lba = true ∧ ∃ v, e = .returned (.tuple #[v, .int .i64 (getV vs lba t).2]) ∧ BytesW (New w w') w' v (getV vs lba t).1 ∧ Below w.heap.size w w')

set_option maxRecDepth 100000 in
set_option maxHeartbeats 1000000 in
theorem extGet_any (F : Nat → Prop) (v : Value) (blocks last : Int) (vs : Vers) (lba t : Int) (w : World) (h : ExtIs F w v blocks last vs) (hs : ∀ k l, alook vs k = some l → ∀ p ∈ l, p.data.length ≤ 1000000) :
    Calls Try.prog 68 #[v, .int .i64 lba, .int .i64 t] w (ExtGetSaid blocks vs lba t w) := by
  have H := Lib.hid h
  obtain ⟨b, r, ml, rfl, hb, hc0, hc1, hc2, hm, ha⟩ := h.cells
  clear h
  cases hq : blk blocks lba with
  | false =>
    have HQ := Lib.hid hq
    clear hm ha hq
    go_enter Try.func68, Try.ntmps68
    go_wp2_with fail
    refine (extBlock_any F _ _ _ _ _ _ H.out).mono ?_
    rintro e w1 ⟨rfl, rfl⟩
    rw [HQ.out]
    go_wp2
    go_ret2
    exact .inl ⟨HQ.out, rfl, Below.refl _ _⟩
  | true =>
    have HQ := Lib.hid hq
    have hl := hm.lookup (P := Try.prog) Try.underlying106 Try.underlying3 (Try.zeroValue113 _) lba false
    have hval : ∃ u l, (alook ml lba).getD (.slice none 0 0) = u ∧ (alook vs lba).getD [] = l ∧ PutsAt (Old w) w u l ∧ ∀ p ∈ l, p.data.length ≤ 1000000 := by
      rcases ha.look lba with ⟨h1, h2⟩ | ⟨u, l, h1, h2, h3⟩
      · exact ⟨_, _, by rw [h1]; rfl, by rw [h2]; rfl, SlAt.nil, by simp⟩
      · exact ⟨u, l, by rw [h1]; rfl, by rw [h2]; rfl, h3, hs _ _ h2⟩
    obtain ⟨u, l, hu, hvl, hp, hs40⟩ := hval
    simp only [hu, Bool.false_eq_true, if_false] at hl
    have hat := extAt_any F _ _ _ _ lba t _ H.out
    rw [hvl] at hat
    have hgv : getV vs lba t = match l[atN l t - 1]? with
      | some p => if atN l t = 0 then (zeroB, 0) else (p.data, p.lba)
      | none => (zeroB, 0) := by unfold getV; rw [hvl]
    have hle := atN_le l t
    obtain ⟨p, c, rfl, h1, h2, h3, h4⟩ := hp
    have H4 := Lib.hid h4
    have HGV := Lib.hid hgv
    have HAT := Lib.hid hat
    clear h4 hgv hat
    clear hm ha hq h3 hu hvl hs
    cases hn : atN l t with
    | zero =>
      have hg2 : getV vs lba t = (zeroB, 0) := by
        rw [HGV.out, hn]
        split <;> rfl
      rw [hn] at HAT
      obtain ⟨i0, hi, hz0, hz1, hz2⟩ := info_parts infoU8
      have HG2 := Lib.hid hg2
      clear hg2
      clear hn hle
      go_enter Try.func68, Try.ntmps68
      go_wp2_with fail
      refine (extBlock_any F _ _ _ _ _ _ H.out).mono ?_
      rintro e w1 ⟨rfl, rfl⟩
      rw [HQ.out]
      go_wp2_with fail
      refine (HAT.out).mono ?_
      rintro e w1 ⟨rfl, rfl⟩
      go_wp2_with (at_make; refine wpList_make_full _ rfl _ _ 26 rfl w.heap.size 5 i0 (.int .u8 0) 1 Try.underlying26 hi hz0 hz1 _ _ _ _ 40 rfl rfl rfl rfl (by rw [hz2]; omega) (by unfold maxLen; omega) (Nat.le_refl _) ?_; intro w0 hown0 hgrow0)
      go_ret2
      have hlt := hown0.lt w.heap.size rfl
      refine .inr ⟨HQ.out, _, by rw [HG2.out]; rfl, ?_, (Below.refl _ _).grown hgrow0 (Nat.le_refl _) (fun j hj => by cases hj)⟩
      rw [HG2.out]
      exact bytesW_row (B := w.heap.size) (l := zeroB) _ ⟨Nat.le_refl _, hlt.2⟩ (by decide) (Nat.le_refl _) (by omega) (by rw [made_u8] at hown0; exact hown0)
    | succ j =>
      have hj : j < l.length := by omega
      have hg2 : getV vs lba t = (l[j].data, l[j].lba) := by
        rw [HGV.out, hn]
        simp [hj]
      rw [hn] at HAT
      have hej : (((j + 1 : Nat) : Int) - 1) = (j : Int) := by omega
      rw [hej] at HAT
      obtain ⟨g, o, rfl, hg, hct, hti, dv, hcd, hd⟩ := H4.out j hj
      have hd40 := hs40 _ (List.getElem_mem hj)
      generalize l[j] = x at hct hti hcd hd hd40 hg2
      have hd' := BytesAt.up hd (below_alloc w (.cells #[.int .i64 x.lba, dv] 115))
      obtain ⟨dp, dc, rfl⟩ := shape_of hd rfl
      have hjl : (j : Int) < (l.length : Int) := by omega
      have HG2 := Lib.hid hg2
      have HD' := Lib.hid hd'
      have HD40 := Lib.hid hd40
      clear hg2 hd' hd40
      clear hn hle hej hd hs40
      go_enter Try.func68, Try.ntmps68
      go_wp2_with fail
      refine (extBlock_any F _ _ _ _ _ _ H.out).mono ?_
      rintro e w1 ⟨rfl, rfl⟩
      rw [HQ.out]
      go_wp2_with fail
      refine (HAT.out).mono ?_
      rintro e w1 ⟨rfl, rfl⟩
      go_wp2_with fail
      go_region_held3 (fun W => W.cell? ⟨w.heap.size, 0, none⟩ = some (.int .i64 x.lba) ∧ W.cell? ⟨w.heap.size, 1, none⟩ = some (.slice dp x.data.length dc))
        (first
          | go_keep
          | (go_split_ands
             exact ⟨cell_up hb3 (by assumption), cell_up hb3 (by assumption)⟩))
        ((first
          | (go_at_call 46; refine (clone_w (Old w) _ x.data _ (by exact BytesAt.up HD'.out (below_drewN (Below.refl _ _) 1)) HD40.out).mono ?_; rintro e w3 ⟨v3, rfl, hnv, hb3⟩)))
      have hz := hb3.size
      simp at hz
      go_wp2
      go_ret2
      refine .inr ⟨HQ.out, _, by rw [HG2.out]; rfl, ?_, Below.up (below_drewN (below_alloc w _) 1) hb3⟩
      rw [HG2.out]
      exact BytesW.mono hnv fun q hq => ⟨by have := hq.1; simp at this; omega, hq.2⟩
end Go.Proofs
