/- Lists of structs that a call builds by append, each with data of its own; of whatever program. -/
import Derived.Test.YtjomlcemnbfnfaaSep
import Derived.Deep.AppendLies
namespace Sc
open Go Go.RowKit

/-- v is a slice that the call from B on owns: its elements' cells, k each, are css; R says what an element's cells hold; what they lead to lies in D, apart from the slice's own block. -/
def OutS {α : Type} (T : TypeId) (k : Nat) (R : (Nat → Prop) → World → List Value → α → Prop) (B : Nat) (w : World) (v : Value) (l : List α) (D : Nat → Prop) : Prop :=
  ∃ css : List (List Value), css.length = l.length ∧ (∀ cs ∈ css, cs.length = k) ∧ w.ownsRow B T k v l.length css.flatten ∧
    (∀ i (h : i < css.length) (h' : i < l.length), R D w css[i] l[i]) ∧ ∀ b, D b → B ≤ b ∧ b < w.heap.size ∧ v.ownBlock ≠ some b

def RStable {α : Type} (R : (Nat → Prop) → World → List Value → α → Prop) : Prop := ∀ D D' w w' cs x, (∀ b, D b → D' b) → Same D w w' → R D w cs x → R D' w' cs x

theorem OutS.nil {α : Type} {T k : Nat} {R : (Nat → Prop) → World → List Value → α → Prop} {B : Nat} {w : World} : OutS T k R B w (.slice none 0 0) [] (fun _ => False) :=
  ⟨[], rfl, by simp, World.ownsRow_nil _ _ _ _, fun i h => absurd h (by simp), fun b h => h.elim⟩

theorem OutS.own {α : Type} {T k : Nat} {R : (Nat → Prop) → World → List Value → α → Prop} {B : Nat} {w : World} {v : Value} {l : List α} {D : Nat → Prop} (h : OutS T k R B w v l D) : ∃ xs, w.ownsRow B T k v l.length xs :=
  let ⟨_, _, _, h3, _⟩ := h; ⟨_, h3⟩

/-- While memory grows it stays. -/
theorem OutS.up {α : Type} {T k : Nat} {R : (Nat → Prop) → World → List Value → α → Prop} (hR : RStable R) {B : Nat} {w w' : World} {v : Value} {l : List α} {D : Nat → Prop} (h : OutS T k R B w v l D) (hb : Below w.heap.size w w') : OutS T k R B w' v l D := by
  obtain ⟨css, h1, h2, h3, h4, h5⟩ := h
  refine ⟨css, h1, h2, h3.kept (row := none) ⟨hb.os, hb.tape, hb.output, hb.size, fun q hq _ => hb.block q hq⟩ ?_, fun i a b => hR D D w w' _ _ (fun _ h => h) (fun q hq => hb.block q (h5 q hq).2.1) (h4 i a b), fun b hd => ⟨(h5 b hd).1, Nat.lt_of_lt_of_le (h5 b hd).2.1 hb.size, (h5 b hd).2.2⟩⟩
  cases v.ownBlock <;> simp

/-- One element more, behind an append. -/
theorem OutS.snoc {α : Type} {T k : Nat} {R : (Nat → Prop) → World → List Value → α → Prop} (hR : RStable R) {B : Nat} {w w' : World} {v : Value} {l : List α} {D D3 : Nat → Prop} {css : List (List Value)} {cs : List Value} {x : α} {g cap : Nat}
    (h1 : css.length = l.length) (h2 : ∀ cs ∈ css, cs.length = k) (h4 : ∀ i (h : i < css.length) (h' : i < l.length), R D w css[i] l[i]) (h5 : ∀ b, D b → B ≤ b ∧ b < w.heap.size ∧ v.ownBlock ≠ some b)
    (hcs : cs.length = k) (hx : R D3 w cs x) (h3 : ∀ b, D3 b → B ≤ b ∧ b < w.heap.size ∧ v.ownBlock ≠ some b)
    (hown : w'.ownsRow B T k (.slice (some ⟨g, 0, none⟩) (l.length + 1) cap) (l.length + 1) (css.flatten ++ cs)) (hg : w.grownBy w' v.ownBlock) (hat : v.ownBlock = some g ∨ g = w.heap.size) :
    OutS T k R B w' (.slice (some ⟨g, 0, none⟩) (l.length + 1) cap) (l ++ [x]) (fun b => D b ∨ D3 b) := by
  have hs : ∀ {E : Nat → Prop}, (∀ b, E b → B ≤ b ∧ b < w.heap.size ∧ v.ownBlock ≠ some b) → Same E w w' := fun hE q hq => hg.block q (hE q hq).2.1 (fun e => (hE q hq).2.2 e.symm)
  refine ⟨css ++ [cs], by simp [h1], fun c hc => ?_, by simpa using hown, fun i hi hi' => ?_, fun b hb => ?_⟩
  · rcases List.mem_append.1 hc with hc | hc
    · exact h2 c hc
    · rw [List.mem_singleton] at hc; subst hc; exact hcs
  · by_cases hlt : i < l.length
    · rw [List.getElem_append_left (by omega), List.getElem_append_left hlt]
      exact hR _ _ _ _ _ _ (fun _ h => .inl h) (hs h5) (h4 i (by omega) hlt)
    · have hi0 : i = l.length := by simp at hi'; omega
      subst hi0
      rw [List.getElem_append_right (by omega), List.getElem_append_right (Nat.le_refl _)]
      simp only [h1, Nat.sub_self, List.getElem_cons_zero]
      exact hR _ _ _ _ _ _ (fun _ h => .inr h) (hs h3) hx
  · have hB := hb.elim (h5 b) (h3 b)
    refine ⟨hB.1, Nat.lt_of_lt_of_le hB.2.1 hg.size, fun e => ?_⟩
    have e' : g = b := by simpa [Value.ownBlock] using e
    subst e'
    rcases hat with hat | hat
    · exact hB.2.2 hat
    · have := hB.2.1; omega

theorem flat_get {k : Nat} : ∀ {css : List (List Value)} (_ : ∀ cs ∈ css, cs.length = k) (i : Nat) (hi : i < css.length) (j : Nat) (hj : j < k), css.flatten[i * k + j]? = css[i][j]?
  | [], _, i, hi, _, _ => absurd hi (by simp)
  | c :: t, h, 0, _, j, hj => by
    have hc := h c (by simp)
    simp only [List.flatten_cons, Nat.zero_mul, Nat.zero_add, List.getElem_cons_zero]
    rw [List.getElem?_append_left (by omega)]
  | c :: t, h, i + 1, hi, j, hj => by
    have hc := h c (by simp)
    have ih := flat_get (css := t) (fun x hx => h x (by simp [hx])) i (by simpa using hi) j hj
    simp only [List.flatten_cons, List.getElem_cons_succ]
    rw [List.getElem?_append_right (by rw [hc, Nat.succ_mul]; omega), hc, show (i + 1) * k + j - k = i * k + j by rw [Nat.succ_mul]; omega]
    exact ih

/-- Read as any other slice. -/
theorem OutS.slAt {α : Type} {T k : Nat} {R : (Nat → Prop) → World → List Value → α → Prop} {B : Nat} {w : World} {v : Value} {l : List α} {D : Nat → Prop} {E : Elem α} {G : Nat → Prop} (h : OutS T k R B w v l D)
    (hG : ∀ b, B ≤ b → b < w.heap.size → G b) (hE : ∀ b o cs x, cs.length = k → (∀ j, j < k → w.cell? ⟨b, o + j, none⟩ = cs[j]?) → (∀ j, w.frozen? ⟨b, o + j, none⟩ = false) → R D w cs x → E w b o x) : SlAt G k E w v l := by
  obtain ⟨css, h1, h2, h3, h4, h5⟩ := h
  have hlt := h3.lt
  obtain ⟨hx, hc | ⟨g, cap, cur, rfl, hb, hg, hnc, hcm, hcs, htake⟩⟩ := h3
  · obtain ⟨rfl, hl0⟩ := hc
    obtain rfl : l = [] := List.length_eq_zero_iff.1 hl0
    exact SlAt.nil
  · have hgl := hlt g rfl
    have hrow : w.ownsRow B T k (.slice (some ⟨g, 0, none⟩) l.length cap) l.length css.flatten := ⟨hx, .inr ⟨g, cap, cur, rfl, hb, hg, hnc, hcm, hcs, htake⟩⟩
    refine ⟨_, cap, rfl, hnc, by unfold maxLen at hcm; omega, (by intro hh; cases hh), fun i hi => ⟨g, 0, rfl, hG g hgl.1 hgl.2, ?_⟩⟩
    have hi' : i < css.length := by omega
    have hck := h2 _ (List.getElem_mem hi')
    refine hE g (0 + i * k) css[i] l[i] hck (fun j hj => ?_) (fun j => hrow.frozenAt _) (h4 i hi' hi)
    rw [Nat.zero_add, hrow.cellAt (i * k + j) ?_]
    · exact flat_get h2 i hi' j hj
    · have h1 : (i + 1) * k ≤ l.length * k := Nat.mul_le_mul_right k (by omega)
      rw [Nat.succ_mul] at h1; omega

/-- What a Put's cells hold. -/
def putR (D : Nat → Prop) (w : World) (cs : List Value) (x : Put) : Prop := ∃ dv, cs = [.int .i64 x.lba, dv] ∧ I64 x.lba ∧ BytesAt D w dv x.data
theorem putR_stable : RStable putR := fun D D' w w' cs x hd hs ⟨dv, h1, h2, h3⟩ => ⟨dv, h1, h2, (h3.same hs).mono hd⟩
theorem OutS.puts {T : Nat} {B : Nat} {w : World} {v : Value} {l : List Put} {D : Nat → Prop} {G : Nat → Prop} (h : OutS T 2 putR B w v l D) (hG : ∀ b, B ≤ b → b < w.heap.size → G b) : PutsAt G w v l := by
  have hD : ∀ b, D b → G b := by obtain ⟨_, _, _, _, _, h5⟩ := h; exact fun b hb => hG b (h5 b hb).1 (h5 b hb).2.1
  refine h.slAt hG fun b o cs x hl hc _ ⟨dv, he, hi, hd⟩ => ?_
  subst he
  exact ⟨by have := hc 0 (by omega); simpa using this, hi, dv, by have := hc 1 (by omega); simpa using this, hd.mono hD⟩
/-- Puts that may be written. -/
def putW (G : Nat → Prop) : Elem Put := fun w b o x => w.cell? ⟨b, o, none⟩ = some (.int .i64 x.lba) ∧ I64 x.lba ∧ w.frozen? ⟨b, o, none⟩ = false ∧ ∃ v, w.cell? ⟨b, o + 1, none⟩ = some v ∧ BytesW G w v x.data
def PutsW (G : Nat → Prop) : World → Value → List Put → Prop := SlAt G 2 (putW G)
theorem PutsW.puts {G : Nat → Prop} {w : World} {v : Value} {l : List Put} (h : PutsW G w v l) : PutsAt G w v l := SlAt.mono h (fun _ h => h) (fun _ _ _ ⟨h1, h2, _, v, h3, h4⟩ => ⟨h1, h2, v, h3, h4.bytes⟩)
def putRW (D : Nat → Prop) (w : World) (cs : List Value) (x : Put) : Prop := ∃ dv, cs = [.int .i64 x.lba, dv] ∧ I64 x.lba ∧ BytesW D w dv x.data
theorem putRW_stable : RStable putRW := fun D D' w w' cs x hd hs ⟨dv, h1, h2, h3⟩ => ⟨dv, h1, h2, (h3.same hs).mono hd⟩
theorem OutS.putsW {T : Nat} {B : Nat} {w : World} {v : Value} {l : List Put} {D : Nat → Prop} {G : Nat → Prop} (h : OutS T 2 putRW B w v l D) (hG : ∀ b, B ≤ b → b < w.heap.size → G b) : PutsW G w v l := by
  have hD : ∀ b, D b → G b := by obtain ⟨_, _, _, _, _, h5⟩ := h; exact fun b hb => hG b (h5 b hb).1 (h5 b hb).2.1
  refine h.slAt hG fun b o cs x hl hc hf ⟨dv, he, hi, hd⟩ => ?_
  subst he
  exact ⟨by have := hc 0 (by omega); simpa using this, hi, hf 0, dv, by have := hc 1 (by omega); simpa using this, hd.mono hD⟩
theorem OutS.same {α : Type} {T k : Nat} {R : (Nat → Prop) → World → List Value → α → Prop} (hR : RStable R) {B : Nat} {w w' : World} {v : Value} {l : List α} {D F : Nat → Prop} (h : OutS T k R B w v l D) (hs : Same F w w') (hz : w.heap.size ≤ w'.heap.size)
    (ho : ∀ g, v.ownBlock = some g → F g) (hD : ∀ b, D b → F b) : OutS T k R B w' v l D := by
  obtain ⟨css, h1, h2, h3, h4, h5⟩ := h
  exact ⟨css, h1, h2, row_same hs h3 ho, fun i a b => hR D D w w' _ _ (fun _ h => h) (hs.mono hD) (h4 i a b), fun b hd => ⟨(h5 b hd).1, Nat.lt_of_lt_of_le (h5 b hd).2.1 hz, (h5 b hd).2.2⟩⟩
theorem OutS.more {α : Type} {T k : Nat} {R : (Nat → Prop) → World → List Value → α → Prop} (hR : RStable R) {B : Nat} {w : World} {v : Value} {l : List α} {D D' : Nat → Prop} (h : OutS T k R B w v l D) (hD : ∀ b, D b → D' b) (hD' : ∀ b, D' b → B ≤ b ∧ b < w.heap.size ∧ v.ownBlock ≠ some b) : OutS T k R B w v l D' := by
  obtain ⟨css, h1, h2, h3, h4, h5⟩ := h
  exact ⟨css, h1, h2, h3, fun i a b => hR D D' w w _ _ hD (Same.refl _ _) (h4 i a b), hD'⟩

end Sc
