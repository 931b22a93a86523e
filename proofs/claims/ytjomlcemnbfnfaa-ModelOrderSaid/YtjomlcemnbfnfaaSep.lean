/- Objects side by side, each with blocks of its own, and the memory that was there ahead of a call. Of no program. -/
import Derived.Test.YtjomlcemnbfnfaaBase
import Derived.Deep.AppendLies
namespace Sc
open Go Go.RowKit

abbrev Foot := Nat → Prop
/-- What is said of the blocks of an object, and of no others. -/
structure Asn where
  P : Foot → World → Prop
  loc : ∀ F w w', Same F w w' → w.heap.size ≤ w'.heap.size → P F w → P F w'

/-- Nothing but memory has grown or turned. -/
structure Grow (w w' : World) : Prop where
  os : w'.os = w.os
  tape : w'.tape = w.tape
  output : w'.output = w.output
  size : w.heap.size ≤ w'.heap.size
theorem Grow.refl (w : World) : Grow w w := ⟨rfl, rfl, rfl, Nat.le_refl _⟩
theorem Grow.trans {a b c : World} (h : Grow a b) (k : Grow b c) : Grow a c := ⟨k.os.trans h.os, k.tape.trans h.tape, k.output.trans h.output, Nat.le_trans h.size k.size⟩
theorem Chg.grow {S : Nat → Prop} {w w' : World} (h : Chg S w w') : Grow w w' := ⟨h.os, h.tape, h.output, h.size⟩
theorem below_grow {B : Nat} {w w' : World} (h : Below B w w') : Grow w w' := ⟨h.os, h.tape, h.output, h.size⟩

/-- W: the world at the start; L: what there is by now, each thing apart from the others. -/
def Sep (W : World) (L : List Asn) (w : World) : Prop :=
  Grow W w ∧ ∃ Fs : Nat → Foot, (∀ i k, Fs i k → k < w.heap.size) ∧ (∀ i j k, i ≠ j → Fs i k → ¬ Fs j k) ∧ ∀ i (A : Asn), L[i]? = some A → A.P (Fs i) w

/-- What was there at the start is as it was. -/
def OldA (W : World) : Asn := ⟨fun F w => (∀ k, k < W.heap.size → F k) ∧ Same (· < W.heap.size) W w, fun _ _ _ hs _ h => ⟨h.1, h.2.trans (hs.mono h.1)⟩⟩
/-- A block of its own, known whole. -/
def BoxA (b : Nat) (cs : Array Value) (T : TypeId) : Asn := ⟨fun F w => F b ∧ w.heap[b]? = some (.cells cs T (0, 0)), fun _ _ _ hs _ h => ⟨h.1, (hs b h.1).trans h.2⟩⟩
def TrueA : Asn := ⟨fun _ _ => True, fun _ _ _ _ _ h => h⟩

/-- What all the others hold, in blocks of G. -/
def Rest (L : List Asn) (i : Nat) (G : Foot) (w : World) : Prop := ∀ j (A : Asn), j ≠ i → L[j]? = some A → ∃ F : Foot, (∀ k, F k → G k) ∧ A.P F w

theorem Sep.start (w : World) : Sep w [OldA w] w :=
  ⟨Grow.refl w, fun i k => i = 0 ∧ k < w.heap.size, fun _ _ h => h.2, fun i j k hij h1 h2 => hij (h1.1.trans h2.1.symm), fun i A h => by
    cases i with
    | zero => cases h; exact ⟨fun k hk => ⟨rfl, hk⟩, Same.refl _ _⟩
    | succ i => simp at h⟩

theorem Sep.up {W : World} {L : List Asn} {w w' : World} (h : Sep W L w) (hb : Below w.heap.size w w') : Sep W L w' := by
  obtain ⟨hg, Fs, h1, h2, h3⟩ := h
  exact ⟨hg.trans (below_grow hb), Fs, fun i k hk => Nat.lt_of_lt_of_le (h1 i k hk) hb.size, h2, fun i A hi => A.loc _ _ _ (fun k hk => hb.block k (h1 i k hk)) hb.size (h3 i A hi)⟩

theorem Sep.get {W : World} {L : List Asn} {w : World} (h : Sep W L w) (i : Nat) {A : Asn} (hi : L[i]? = some A) : ∃ F, A.P F w ∧ Dom F w := by
  obtain ⟨hg, Fs, h1, h2, h3⟩ := h
  exact ⟨Fs i, h3 i A hi, fun k hk => h1 i k hk⟩

theorem Sep.grow {W : World} {L : List Asn} {w : World} (h : Sep W L w) : Grow W w := h.1
theorem Sep.old {W : World} {L : List Asn} {w : World} (h : Sep W (OldA W :: L) w) : Below W.heap.size W w := by
  obtain ⟨F, hF, _⟩ := h.get 0 (A := OldA W) rfl
  have hg := h.1
  exact ⟨hg.os, hg.tape, hg.output, hg.size, fun k hk => hF.2 k hk⟩

theorem Sep.at {W : World} {L : List Asn} {w : World} (h : Sep W L w) (i : Nat) {A : Asn} (hi : L[i]? = some A) :
    ∃ F G : Foot, A.P F w ∧ Rest L i G w ∧ (∀ k, F k → ¬ G k) ∧ Dom F w ∧ Dom G w ∧
      ∀ w' F' (A' : Asn), Chg F w w' → (∀ k, F' k → F k ∨ New w w' k) → A'.P F' w' → Sep W (L.set i A') w' := by
  obtain ⟨hg, Fs, h1, h2, h3⟩ := h
  have hil : i < L.length := (List.getElem?_eq_some_iff.1 hi).1
  refine ⟨Fs i, fun k => ∃ j, j ≠ i ∧ Fs j k, h3 i A hi, fun j A' hj hA' => ⟨Fs j, fun k hk => ⟨j, hj, hk⟩, h3 j A' hA'⟩, fun k hk ⟨j, hj, hk'⟩ => h2 i j k (fun e => hj e.symm) hk hk', fun k hk => h1 i k hk, fun k ⟨j, _, hk⟩ => h1 j k hk, ?_⟩
  intro w' F' A' hc hF' hA'
  refine ⟨hg.trans hc.grow, fun j k => if j = i then F' k else Fs j k, ?_, ?_, ?_⟩
  · intro j k hk
    by_cases hj : j = i
    · simp only [hj, if_true] at hk
      rcases hF' k hk with h | h
      · exact Nat.lt_of_lt_of_le (h1 i k h) hc.size
      · exact h.2
    · simp only [hj, if_false] at hk; exact Nat.lt_of_lt_of_le (h1 j k hk) hc.size
  · intro j j' k hjj hk hk'
    by_cases hj : j = i
    · have hj' : ¬ j' = i := fun e => hjj (hj.trans e.symm)
      simp only [hj, if_true, hj', if_false] at hk hk'
      rcases hF' k hk with h | h
      · exact h2 i j' k (fun e => hj' e.symm) h hk'
      · have := h1 j' k hk'; have := h.1; omega
    · by_cases hj' : j' = i
      · simp only [hj', if_true, hj, if_false] at hk hk'
        rcases hF' k hk' with h | h
        · exact h2 i j k (fun e => hj e.symm) h hk
        · have := h1 j k hk; have := h.1; omega
      · simp only [hj, hj', if_false] at hk hk'
        exact h2 j j' k hjj hk hk'
  · intro j A2 hA2
    by_cases hj : j = i
    · subst hj
      rw [List.getElem?_set_self hil] at hA2
      cases hA2
      simp only [if_true]; exact hA'
    · rw [List.getElem?_set_ne (fun e => hj e.symm)] at hA2
      simp only [hj, if_false]
      exact A2.loc _ _ _ (fun k hk => hc.block k (h1 j k hk) (fun hF => h2 j i k hj hk hF)) hc.size (h3 j A2 hA2)

/-- A new thing, in new memory. -/
theorem Sep.new {W : World} {L : List Asn} {w w' : World} (h : Sep W L w) (hb : Below w.heap.size w w') (A : Asn) {F : Foot} (hF : ∀ k, F k → New w w' k) (hA : A.P F w') : Sep W (L ++ [A]) w' := by
  obtain ⟨hg, Fs, h1, h2, h3⟩ := h
  refine ⟨hg.trans (below_grow hb), fun j k => if j < L.length then Fs j k else if j = L.length then F k else False, ?_, ?_, ?_⟩
  · intro j k hk
    by_cases hj : j < L.length
    · simp only [hj, if_true] at hk; exact Nat.lt_of_lt_of_le (h1 j k hk) hb.size
    · by_cases hj' : j = L.length
      · simp only [hj', Nat.lt_irrefl, if_false, if_true] at hk; exact (hF k hk).2
      · simp only [hj, hj', if_false] at hk
  · intro i j k hij hk hk'
    by_cases hi : i < L.length <;> by_cases hj : j < L.length
    · simp only [hi, hj, if_true] at hk hk'; exact h2 i j k hij hk hk'
    · by_cases hj' : j = L.length
      · simp only [hi, if_true, hj', Nat.lt_irrefl, if_false] at hk hk'
        have := h1 i k hk; have := (hF k hk').1; omega
      · simp only [hj, hj', if_false] at hk'
    · by_cases hi' : i = L.length
      · simp only [hj, if_true, hi', Nat.lt_irrefl, if_false] at hk hk'
        have := h1 j k hk'; have := (hF k hk).1; omega
      · simp only [hi, hi', if_false] at hk
    · by_cases hi' : i = L.length
      · by_cases hj' : j = L.length
        · exact hij (hi'.trans hj'.symm)
        · simp only [hj, hj', if_false] at hk'
      · simp only [hi, hi', if_false] at hk
  · intro i A2 hA2
    by_cases hi : i < L.length
    · rw [List.getElem?_append_left hi] at hA2
      simp only [hi, if_true]
      exact A2.loc _ _ _ (fun k hk => hb.block k (h1 i k hk)) hb.size (h3 i A2 hA2)
    · rw [List.getElem?_append_right (by omega)] at hA2
      have hi0 : i - L.length = 0 := by
        have := (List.getElem?_eq_some_iff.1 hA2).1
        simp at this; omega
      rw [hi0] at hA2
      cases hA2
      have : i = L.length := by omega
      subst this
      simp only [Nat.lt_irrefl, if_false, if_true]
      exact hA
/-- Something weaker of one of them. -/
theorem Sep.imp {W : World} {L : List Asn} {w : World} (h : Sep W L w) (i : Nat) {A A' : Asn} (hi : L[i]? = some A) (hA : ∀ F, Dom F w → A.P F w → A'.P F w) : Sep W (L.set i A') w := by
  obtain ⟨F, G, h1, h2, h3, h4, h5, K⟩ := h.at i hi
  exact K w F A' (Chg.refl _ _) (fun k hk => .inl hk) (hA F h4 h1)
/-- The last ones forgotten. -/
theorem Sep.take {W : World} {L : List Asn} {w : World} (h : Sep W L w) (n : Nat) : Sep W (L.take n) w := by
  obtain ⟨hg, Fs, h1, h2, h3⟩ := h
  refine ⟨hg, Fs, h1, h2, fun i A hi => ?_⟩
  rw [List.getElem?_take] at hi
  split at hi
  · exact h3 i A hi
  · cases hi
/-- Of two of them: what they hold, apart. -/
theorem Sep.two {W : World} {L : List Asn} {w : World} (h : Sep W L w) (i j : Nat) (hij : i ≠ j) {A B : Asn} (hi : L[i]? = some A) (hj : L[j]? = some B) :
    ∃ F G : Foot, A.P F w ∧ B.P G w ∧ (∀ k, F k → ¬ G k) ∧ Dom F w ∧ Dom G w := by
  obtain ⟨hg, Fs, h1, h2, h3⟩ := h
  exact ⟨Fs i, Fs j, h3 i A hi, h3 j B hj, fun k hk hk' => h2 i j k hij hk hk', fun k hk => h1 i k hk, fun k hk => h1 j k hk⟩
/-- Two of them turned at once, into one: the second is forgotten. -/
theorem Sep.both {W : World} {L : List Asn} {w : World} (h : Sep W L w) (i j : Nat) (hij : i ≠ j) {A B : Asn} (hi : L[i]? = some A) (hj : L[j]? = some B) :
    ∃ F F2 G : Foot, A.P F w ∧ B.P F2 w ∧ (∀ k, F k → ¬ F2 k) ∧ Rest (L.set j TrueA) i G w ∧ (∀ k, (F k ∨ F2 k) → ¬ G k) ∧ Dom F w ∧ Dom F2 w ∧ Dom G w ∧
      ∀ w' F' (A' : Asn), Chg (fun k => F k ∨ F2 k) w w' → (∀ k, F' k → (F k ∨ F2 k) ∨ New w w' k) → A'.P F' w' → Sep W ((L.set j TrueA).set i A') w' := by
  obtain ⟨hg, Fs, h1, h2, h3⟩ := h
  have hjl : j < L.length := (List.getElem?_eq_some_iff.1 hj).1
  have hs : Sep W ((L.set j TrueA).set i ⟨fun F w => ∃ Fa Fb : Foot, (∀ k, F k ↔ Fa k ∨ Fb k) ∧ (∀ k, Fa k → ¬ Fb k) ∧ A.P Fa w ∧ B.P Fb w, fun F w w' hsm hz ⟨Fa, Fb, e, e2, a, b⟩ => ⟨Fa, Fb, e, e2, A.loc _ _ _ (hsm.mono fun k hk => (e k).2 (.inl hk)) hz a, B.loc _ _ _ (hsm.mono fun k hk => (e k).2 (.inr hk)) hz b⟩⟩) w := by
    have hil : i < (L.set j TrueA).length := by rw [List.length_set]; exact (List.getElem?_eq_some_iff.1 hi).1
    refine ⟨hg, fun m k => if m = i then Fs i k ∨ Fs j k else if m = j then False else Fs m k, ?_, ?_, ?_⟩
    · intro m k hk
      by_cases hm : m = i
      · simp only [hm, if_true] at hk; exact hk.elim (h1 i k) (h1 j k)
      · by_cases hm' : m = j
        · subst hm'; simp only [hm, if_false, if_true] at hk
        · simp only [hm, hm', if_false] at hk; exact h1 m k hk
    · intro m m' k hmm hk hk'
      by_cases hm : m = i
      · have hm' : ¬ m' = i := fun e => hmm (hm.trans e.symm)
        by_cases hmj : m' = j
        · subst hmj; simp only [hm', if_true, if_false] at hk'
        · simp only [hm, if_true, hm', hmj, if_false] at hk hk'
          rcases hk with hk | hk
          · exact h2 i m' k (fun e => hm' e.symm) hk hk'
          · exact h2 j m' k (fun e => hmj e.symm) hk hk'
      · by_cases hmj : m = j
        · subst hmj; simp only [hm, if_true, if_false] at hk
        · simp only [hm, hmj, if_false] at hk
          by_cases hm' : m' = i
          · simp only [hm', if_true] at hk'
            rcases hk' with hk' | hk'
            · exact h2 m i k hm hk hk'
            · exact h2 m j k hmj hk hk'
          · by_cases hmj' : m' = j
            · subst hmj'; simp only [hm', if_true, if_false] at hk'
            · simp only [hm', hmj', if_false] at hk'; exact h2 m m' k hmm hk hk'
    · intro m A2 hA2
      by_cases hm : m = i
      · subst hm
        rw [List.getElem?_set_self hil] at hA2
        cases hA2
        exact ⟨Fs m, Fs j, fun k => by simp, fun k hk hk' => h2 m j k hij hk hk', h3 m A hi, h3 j B hj⟩
      · rw [List.getElem?_set_ne (fun e => hm e.symm)] at hA2
        by_cases hm' : m = j
        · subst hm'
          rw [List.getElem?_set_self hjl] at hA2
          cases hA2; trivial
        · rw [List.getElem?_set_ne (fun e => hm' e.symm)] at hA2
          simp only [hm, hm', if_false]
          exact h3 m A2 hA2
  have hil : i < (L.set j TrueA).length := by rw [List.length_set]; exact (List.getElem?_eq_some_iff.1 hi).1
  obtain ⟨F, G, ⟨Fa, Fb, e, e2, a, b⟩, hr, hd, hdF, hdG, K⟩ := hs.at i (List.getElem?_set_self hil)
  refine ⟨Fa, Fb, G, a, b, e2, fun m A2 hm hA2 => hr m A2 hm (by rw [List.getElem?_set_ne (fun e => hm e.symm)]; exact hA2), fun k hk => hd k ((e k).2 hk), fun k hk => hdF k ((e k).2 (.inl hk)), fun k hk => hdF k ((e k).2 (.inr hk)), hdG, ?_⟩
  intro w' F' A' hc hF' hA'
  have := K w' F' A' (hc.mono fun k _ hk => (e k).2 hk) (fun k hk => (hF' k hk).imp (e k).2 id) hA'
  rwa [List.set_set] at this

theorem chg_grown {w w' : World} {row : Option Nat} (h : w.grownBy w' row) {S : Nat → Prop} (hS : ∀ k, row = some k → S k) : Chg S w w' :=
  ⟨h.os, h.tape, h.output, h.size, fun k hk hn => h.block k hk (fun e => hn (hS k e.symm))⟩
theorem row_same {w w' : World} {F : Foot} {T k n : Nat} {v : Value} {xs : List Value} {B : Nat} (hs : Same F w w') (h : w.ownsRow B T k v n xs) (hg : ∀ g, v.ownBlock = some g → F g) : w'.ownsRow B T k v n xs :=
  ⟨h.1, h.2.imp id fun ⟨g, cap, cur, e1, e0, e2, rest⟩ => ⟨g, cap, cur, e1, e0, by rw [hs g (hg g (by rw [e1]; rfl))]; exact e2, rest⟩⟩
theorem ownsRow_lower' {w : World} {B B' T k n : Nat} {v : Value} {xs : List Value} (h : w.ownsRow B T k v n xs) (hB : B' ≤ B) : w.ownsRow B' T k v n xs :=
  ⟨h.1, h.2.imp id fun ⟨g, cap, cur, e1, e0, e2⟩ => ⟨g, cap, cur, e1, Nat.le_trans hB e0, e2⟩⟩
/-- A slice that is owned, cell by cell. -/
def RowA (T k : Nat) (v : Value) (n : Nat) (xs : List Value) : Asn := ⟨fun F w => w.ownsRow 0 T k v n xs ∧ ∀ g, v.ownBlock = some g → F g, fun _ _ _ hs _ h => ⟨row_same hs h.1 h.2, h.2⟩⟩
theorem Sep.row_set {W : World} {L : List Asn} {w : World} (h : Sep W L w) (i : Nat) {T k n c g : Nat} {xs : List Value} (hi : L[i]? = some (RowA T k (.slice (some ⟨g, 0, none⟩) n c) n xs)) (j : Nat) (u : Value) :
    Sep W (L.set i (RowA T k (.slice (some ⟨g, 0, none⟩) n c) n (xs.set j u))) (w.setCell ⟨g, j, none⟩ u) := by
  obtain ⟨F, G, h1, _, _, _, _, K⟩ := h.at i hi
  obtain ⟨s1, s2⟩ := h1.1.stored j u
  exact K _ F (RowA T k (.slice (some ⟨g, 0, none⟩) n c) n (xs.set j u)) (chg_grown s2 fun q hq => by cases hq; exact h1.2 g rfl) (fun k hk => .inl hk) ⟨s1, h1.2⟩
theorem Sep.row_cell {W : World} {L : List Asn} {w : World} (h : Sep W L w) (i : Nat) {T k n c g : Nat} {xs : List Value} (hi : L[i]? = some (RowA T k (.slice (some ⟨g, 0, none⟩) n c) n xs)) (j : Nat) (hj : j < n * k) :
    w.cell? ⟨g, j, none⟩ = xs[j]? ∧ w.frozen? ⟨g, j, none⟩ = false := by
  obtain ⟨F, h1, _⟩ := h.get i hi
  exact ⟨h1.1.cellAt j hj, h1.1.frozenAt j⟩
/-- Something of it is overwritten: nothing more is known of it. -/
theorem Sep.poke {W : World} {L : List Asn} {w : World} (h : Sep W L w) (i : Nat) {A : Asn} (hi : L[i]? = some A) (b o : Nat) (hb : ∀ F, A.P F w → F b) (u : Value) : Sep W (L.set i TrueA) (w.setCell ⟨b, o, none⟩ u) := by
  obtain ⟨F, G, h1, _, _, _, _, K⟩ := h.at i hi
  exact K _ F TrueA (chg_set w b o u (hb F h1)) (fun k hk => .inl hk) trivial
/-- A row that was appended to. -/
theorem Sep.row_app {W w w2 w' : World} {L : List Asn} (h : Sep W L w) (i : Nat) {T k n n' c g H : Nat} {v : Value} {xs ys : List Value} (hi : L[i]? = some (RowA T k v n xs)) (hb : Below w.heap.size w w2)
    (hown : w'.ownsRow 0 T k (.slice (some ⟨g, 0, none⟩) n' c) n' ys) (hg : w2.grownBy w' v.ownBlock) (hat : v.ownBlock = some g ∨ g = H) (hH : w2.heap.size = H) (hlt : g < w'.heap.size) :
    Sep W (L.set i (RowA T k (.slice (some ⟨g, 0, none⟩) n' c) n' ys)) w' := by
  obtain ⟨F, G, h1, _, _, hdF, _, K⟩ := h.at i hi
  have hz := hb.size
  refine K w' (fun q => F q ∨ New w w' q) (RowA T k (.slice (some ⟨g, 0, none⟩) n' c) n' ys) (Chg.after_up hb (chg_grown hg fun q hq => h1.2 q hq)) (fun q hq => hq) ⟨hown, fun q hq => ?_⟩
  obtain rfl : g = q := by simpa [Value.ownBlock] using hq
  rcases hat with h | h
  · exact .inl (h1.2 g h)
  · exact .inr ⟨by omega, hlt⟩
/-- A new row. -/
theorem Sep.row_new {W w w' : World} {L : List Asn} (h : Sep W L w) (hb : Below w.heap.size w w') {T k n : Nat} {v : Value} {xs : List Value} (hown : w'.ownsRow w.heap.size T k v n xs) : Sep W (L ++ [RowA T k v n xs]) w' :=
  h.new hb (RowA T k v n xs) (F := New w w') (fun _ h => h) ⟨ownsRow_lower' hown (Nat.zero_le _), fun g hg => hown.lt g hg⟩
/-- A row in the place of another. -/
theorem Sep.row_put {W w w' : World} {L : List Asn} (h : Sep W L w) (i : Nat) {A : Asn} (hi : L[i]? = some A) (hb : Below w.heap.size w w') {T k n : Nat} {v : Value} {xs : List Value} (hown : w'.ownsRow w.heap.size T k v n xs) : Sep W (L.set i (RowA T k v n xs)) w' := by
  obtain ⟨F, G, h1, _, _, hdF, _, K⟩ := h.at i hi
  exact K w' (fun q => F q ∨ New w w' q) (RowA T k v n xs) (Chg.of_below hb (fun q h1 h2 => by omega)) (fun q hq => hq) ⟨ownsRow_lower' hown (Nat.zero_le _), fun g hg => .inr (hown.lt g hg)⟩
/-- Bytes of one's own. -/
def BytesWA (v : Value) (l : Bytes) : Asn := ⟨fun F w => BytesW F w v l, fun _ _ _ hs _ h => h.same hs⟩
theorem BytesW.at {F : Foot} {w : World} {b o n c : Nat} {l : Bytes} (h : BytesW F w (.slice (some ⟨b, o, none⟩) n c) l) (j : Nat) (hj : j < l.length) : (∃ x : UInt8, w.cell? ⟨b, o + j, none⟩ = some (.int .u8 (x.toNat : Int))) ∧ w.frozen? ⟨b, o + j, none⟩ = false ∧ F b := by
  obtain ⟨p, c', hv, _, _, _, h4⟩ := h
  obtain ⟨b', o', hp, hF, hc⟩ := h4 j hj
  cases hv
  cases hp
  rw [Nat.mul_one] at hc
  exact ⟨⟨l[j], hc.1⟩, hc.2, hF⟩
theorem BytesW.base {F : Foot} {w : World} {v : Value} {l : Bytes} (h : BytesW F w v l) (h0 : 0 < l.length) : ∃ b o c, v = .slice (some ⟨b, o, none⟩) l.length c ∧ l.length ≤ c ∧ c ≤ 9223372036854775807 := by
  obtain ⟨p, c, rfl, h1, h2, h3, h4⟩ := h
  obtain ⟨b, o, rfl, _⟩ := h4 0 h0
  exact ⟨b, o, c, rfl, h1, h2⟩
theorem ownsRow_base {w : World} {B B' T k n c g : Nat} {xs : List Value} (h : w.ownsRow B T k (.slice (some ⟨g, 0, none⟩) n c) n xs) (hB : B' ≤ g) : w.ownsRow B' T k (.slice (some ⟨g, 0, none⟩) n c) n xs := by
  refine ⟨h.1, h.2.imp (fun e => by cases e.1) fun ⟨g', cap, cur, e1, _, e2⟩ => ⟨g', cap, cur, e1, ?_, e2⟩⟩
  cases e1; exact hB
theorem cell_set_other {w : World} {g r b o : Nat} {v : Value} (h : b ≠ g) : (w.setCell ⟨g, r, none⟩ v).cell? ⟨b, o, none⟩ = w.cell? ⟨b, o, none⟩ := World.cell?_of_block (Below.heap_setCell _ _ _ b h)
end Sc
