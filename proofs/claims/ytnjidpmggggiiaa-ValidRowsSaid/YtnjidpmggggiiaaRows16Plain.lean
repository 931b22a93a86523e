/- ValidRows, in plain Lean: a list in order, cut, turned, or with its first again at its end. -/
import Derived.Test.YtnjidpmggggiiaaOrder16
namespace Go.Proofs
open Go.RowKit Sc

theorem ord_weak {a b : Int} {l : List Tx} (h : ordFrom a l = true) (hb : b ≤ a) : ordFrom b l = true := by
  cases l with
  | nil => rfl
  | cons t l =>
    unfold ordFrom at h ⊢
    simp only [Bool.and_eq_true, decide_eq_true_eq] at h ⊢
    exact ⟨⟨⟨by omega, h.1.1.2⟩, h.1.2⟩, h.2⟩
theorem ord_tail {a : Int} {t : Tx} {l : List Tx} (h : ordFrom a (t :: l) = true) : a < t.time ∧ ordFrom t.time l = true := by
  unfold ordFrom at h
  simp only [Bool.and_eq_true, decide_eq_true_eq] at h
  exact ⟨h.1.1.1, h.2⟩
theorem ord_drop {a : Int} {l : List Tx} (h : ordFrom a l = true) : ordFrom a (l.drop 1) = true := by
  cases l with
  | nil => rfl
  | cons t l => obtain ⟨h1, h2⟩ := ord_tail h; exact ord_weak h2 (by omega)
theorem ord_take : ∀ (l : List Tx) (a : Int) (n : Nat), ordFrom a l = true → ordFrom a (l.take n) = true
  | [], _, n, _ => by rw [List.take_nil]; rfl
  | t :: l, a, 0, _ => rfl
  | t :: l, a, n + 1, h => by
    rw [List.take_succ_cons]
    unfold ordFrom at h ⊢
    simp only [Bool.and_eq_true] at h ⊢
    exact ⟨h.1, ord_take l t.time n h.2⟩
theorem ord_pw : ∀ (l : List Tx) (a : Int), ordFrom a l = true → l.Pairwise (fun x y => x.time < y.time) ∧ ∀ t ∈ l, a < t.time
  | [], _, _ => ⟨List.Pairwise.nil, by simp⟩
  | t :: l, a, h => by
    obtain ⟨h1, h2⟩ := ord_tail h
    obtain ⟨h3, h4⟩ := ord_pw l t.time h2
    refine ⟨List.pairwise_cons.2 ⟨h4, h3⟩, fun x hx => ?_⟩
    rcases List.mem_cons.1 hx with rfl | hx
    · exact h1
    · have := h4 x hx; omega
theorem ord_time : ∀ (l : List Tx) (a : Int), ordFrom a l = true → ∀ i (h : i < l.length), a + i + 1 ≤ l[i].time
  | [], _, _, i, h => by simp at h
  | t :: l, a, h, 0, _ => by obtain ⟨h1, _⟩ := ord_tail h; simp only [List.getElem_cons_zero]; omega
  | t :: l, a, h, i + 1, hi => by
    obtain ⟨h1, h2⟩ := ord_tail h
    have := ord_time l t.time h2 i (by simpa using hi)
    simp only [List.getElem_cons_succ]
    omega
theorem ord_turned {l : List Tx} (h : ordFrom 0 l = true) (h2 : 2 ≤ l.length) : ordFrom 0 l.reverse = false := by
  rw [Bool.eq_false_iff]
  intro hr
  have p1 := (ord_pw l 0 h).1
  have p2 := List.pairwise_reverse.1 (ord_pw l.reverse 0 hr).1
  obtain ⟨x, l, rfl⟩ : ∃ x t, l = x :: t := by cases l with | nil => simp at h2 | cons x t => exact ⟨x, t, rfl⟩
  obtain ⟨y, l, rfl⟩ : ∃ y t, l = y :: t := by cases l with | nil => simp at h2 | cons x t => exact ⟨x, t, rfl⟩
  have q1 := (List.pairwise_cons.1 p1).1 y (by simp)
  have q2 := (List.pairwise_cons.1 p2).1 y (by simp)
  omega
theorem ord_again {l : List Tx} (h0 : 0 < l.length) : ordFrom 0 (l ++ [l[0]]) = false := by
  rw [Bool.eq_false_iff]
  intro h
  have p := (List.pairwise_append.1 (ord_pw _ 0 h).1).2.2 l[0] (List.getElem_mem h0) l[0] (by simp)
  omega
end Go.Proofs
