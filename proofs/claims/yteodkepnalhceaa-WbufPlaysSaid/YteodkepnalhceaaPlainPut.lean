/- scarpref11's put, plain: an extent into extents that rise and do not touch. -/
import Derived.Test.YteodkepnalhceaaPlainIval
namespace Sc
open Go Go.RowKit

def putGo : Int → Int → Bool → List Ext → List Ext
  | f, e, d, [] => if d then [] else [⟨f, e - f⟩]
  | f, e, d, x :: l => if x.first + x.len < f then x :: putGo f e d l else if e < x.first then (if d then [] else [⟨f, e - f⟩]) ++ x :: putGo f e true l else putGo (min f x.first) (max e (x.first + x.len)) d l
def putX (l : List Ext) (x : Ext) : List Ext := putGo x.first (x.first + x.len) false l
theorem putGo_true {f e : Int} (hf : f ≤ e) : ∀ {l : List Ext}, (∀ y ∈ l, 1 ≤ y.len) → (∀ y ∈ l, e < y.first) → putGo f e true l = l
  | [], _, _ => rfl
  | x :: l, h1, h2 => by
    have a := h1 x (by simp)
    have b := h2 x (by simp)
    unfold putGo
    rw [if_neg (by omega), if_pos b, putGo_true hf (fun y hy => h1 y (by simp [hy])) (fun y hy => h2 y (by simp [hy]))]
    rfl
theorem putGo_good : ∀ (l : List Ext) (f e : Int), Canon l → f < e →
    Canon (putGo f e false l) ∧ (∀ x, cov (putGo f e false l) x ↔ (f ≤ x ∧ x < e) ∨ cov l x) ∧ (∀ z ∈ putGo f e false l, ∀ m, m < f → (∀ y ∈ l, m < y.first) → m < z.first) ∧ (putGo f e false l).length ≤ l.length + 1
  | [], f, e, _, hf => by
    have hg : putGo f e false [] = [⟨f, e - f⟩] := rfl
    rw [hg]
    refine ⟨Canon.mk1 (by simp only; omega), fun x => ?_, fun z hz m hm _ => ?_, by simp⟩
    · rw [cov_cons]
      have := cov_nil x
      constructor
      · rintro (h | h)
        · exact .inl (by simp only at h; omega)
        · exact absurd h this
      · rintro (h | h)
        · exact .inl ⟨h.1, by simp only; omega⟩
        · exact absurd h this
    · rw [List.mem_singleton] at hz; subst hz; exact hm
  | x :: l, f, e, hc, hf => by
    obtain ⟨h1, h2, h3⟩ := hc.cons
    unfold putGo
    by_cases hA : x.first + x.len < f
    · rw [if_pos hA]
      obtain ⟨i1, i2, i3, i4⟩ := putGo_good l f e h3 hf
      refine ⟨⟨fun y hy => ?_, List.pairwise_cons.2 ⟨fun z hz => i3 z hz _ hA h2, i1.2⟩⟩, fun y => ?_, fun z hz m hm hy => ?_, by simp; omega⟩
      · rcases List.mem_cons.1 hy with rfl | hy
        · exact h1
        · exact i1.1 y hy
      · rw [cov_cons, i2, cov_cons]
        exact ⟨fun h => h.elim (fun h => .inr (.inl h)) fun h => h.elim .inl fun h => .inr (.inr h), fun h => h.elim (fun h => .inr (.inl h)) fun h => h.elim .inl fun h => .inr (.inr h)⟩
      · rcases List.mem_cons.1 hz with rfl | hz
        · exact hy _ (by simp)
        · exact i3 z hz m hm fun y h => hy y (by simp [h])
    · rw [if_neg hA]
      by_cases hB : e < x.first
      · rw [if_pos hB, putGo_true (by omega) h3.1 fun y hy => by have := h2 y hy; omega]
        simp only [Bool.false_eq_true, if_false, List.singleton_append]
        refine ⟨⟨fun y hy => ?_, ?_⟩, fun y => ?_, fun z hz m hm hy => ?_, by simp⟩
        · rcases List.mem_cons.1 hy with rfl | hy
          · simp only; omega
          · exact hc.1 y hy
        · refine List.pairwise_cons.2 ⟨fun y hy => ?_, hc.2⟩
          rcases List.mem_cons.1 hy with rfl | hy
          · simp only; omega
          · have := h2 y hy; simp only; omega
        · rw [cov_cons]
          constructor
          · rintro (h | h)
            · exact .inl (by simp only at h; omega)
            · exact .inr h
          · rintro (h | h)
            · exact .inl ⟨h.1, by simp only; omega⟩
            · exact .inr h
        · rcases List.mem_cons.1 hz with rfl | hz
          · exact hm
          · exact hy z hz
      · rw [if_neg hB]
        obtain ⟨i1, i2, i3, i4⟩ := putGo_good l (min f x.first) (max e (x.first + x.len)) h3 (by omega)
        refine ⟨i1, fun y => ?_, fun z hz m hm hy => ?_, by simp; omega⟩
        · rw [i2, cov_cons]
          constructor
          · rintro (h | h)
            · by_cases hy : f ≤ y ∧ y < e
              · exact .inl hy
              · exact .inr (.inl (by omega))
            · exact .inr (.inr h)
          · rintro (h | h | h)
            · exact .inl (by omega)
            · exact .inl (by omega)
            · exact .inr h
        · exact i3 z hz m (by have := hy x (by simp); omega) fun y h => hy y (by simp [h])
theorem putX_good {l : List Ext} {x : Ext} (hc : Canon l) (hx : 1 ≤ x.len) : Canon (putX l x) ∧ (∀ y, cov (putX l x) y ↔ cov l y ∨ (x.first ≤ y ∧ y < x.first + x.len)) ∧ (putX l x).length ≤ l.length + 1 := by
  obtain ⟨h1, h2, _, h4⟩ := putGo_good l x.first (x.first + x.len) hc (by omega)
  exact ⟨h1, fun y => (h2 y).trans Or.comm, h4⟩
theorem oke_of_cov {l : List Ext} (hc : Canon l) (h : ∀ y, cov l y → 0 ≤ y ∧ y ≤ 1048576) : ∀ e ∈ l, Oke e := by
  intro e he
  have h1 := hc.1 e he
  have h2 := h e.first ⟨e, he, by omega, by omega⟩
  have h3 := h (e.first + e.len - 1) ⟨e, he, by omega, by omega⟩
  unfold Oke; omega
theorem cov_oke {l : List Ext} (h : ∀ e ∈ l, Oke e) : ∀ y, cov l y → 0 ≤ y ∧ y ≤ 1048576 := by
  rintro y ⟨e, he, h1, h2⟩
  have := h e he
  unfold Oke at this; omega
/-- All of some extents put in, one by one: just what joined gives. -/
theorem putAll {l0 : List Ext} (hc : Canon l0) (h0 : ∀ e ∈ l0, Oke e) (l : List Ext) (hl : ∀ e ∈ l, Oke e) : l.foldl putX l0 = normE (l0 ++ l) := by
  have key : ∀ (l l0 : List Ext), Canon l0 → (∀ e ∈ l, 1 ≤ e.len) → Canon (l.foldl putX l0) ∧ ∀ y, cov (l.foldl putX l0) y ↔ cov (l0 ++ l) y := by
    intro l
    induction l with
    | nil => intro l0 hc _; exact ⟨hc, fun y => by rw [List.append_nil]; exact Iff.rfl⟩
    | cons x l ih =>
      intro l0 hc hl
      obtain ⟨h1, h2, _⟩ := putX_good hc (hl x (by simp))
      obtain ⟨g1, g2⟩ := ih (putX l0 x) h1 fun e he => hl e (by simp [he])
      refine ⟨g1, fun y => ?_⟩
      show cov (l.foldl putX (putX l0 x)) y ↔ _
      rw [g2, cov_append, cov_append, cov_cons, h2]
      exact or_assoc
  obtain ⟨k1, k2⟩ := key l l0 hc fun e he => (hl e he).2.2.1
  exact (normE_ext (fun e he => (List.mem_append.1 he).elim (fun h => (h0 e h).2.2.1) fun h => (hl e h).2.2.1) k1 k2).symm
end Sc
