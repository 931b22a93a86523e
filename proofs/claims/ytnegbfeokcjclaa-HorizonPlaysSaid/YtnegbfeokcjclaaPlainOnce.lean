/- HorizonOnce: handles and times, side by side. -/
import Derived.Test.YtnegbfeokcjclaaBookSep
namespace Go.Proofs
open Go.RowKit Sc

/-- The handles that are open rise, and each has its time. -/
structure OnceI (last : Int) (os ts : List Int) : Prop where
  len : os.length = ts.length
  asc : os.Pairwise (· < ·)
  bd : ∀ x ∈ os, 1 ≤ x ∧ x ≤ last
theorem OnceI.keys {last : Int} {os ts : List Int} (h : OnceI last os ts) : (os.zip ts).map (·.1) = os := by
  have : (os.zip ts).map Prod.fst = os := List.map_fst_zip (by have := h.len; omega)
  exact this
theorem OnceI.zlen {last : Int} {os ts : List Int} (h : OnceI last os ts) : (os.zip ts).length = os.length := by
  rw [List.length_zip, h.len, Nat.min_self]
theorem OnceI.nodup {last : Int} {os ts : List Int} (h : OnceI last os ts) : ((os.zip ts).map (·.1)).Nodup := by
  rw [h.keys]
  exact h.asc.imp fun h => by omega
theorem OnceI.start : OnceI 0 [] [] := ⟨rfl, List.Pairwise.nil, by simp⟩
theorem OnceI.keyed {last : Int} {os ts : List Int} (h : OnceI last os ts) (h0 : 0 ≤ last) (h1 : last ≤ 1000000) (h2 : os.length ≤ 1000000) : Keyed last (os.zip ts) :=
  ⟨h0, h1, fun x hx => h.bd x.1 (by rw [← h.keys]; exact List.mem_map.2 ⟨x, hx, rfl⟩), by rw [h.zlen]; exact h2⟩
theorem OnceI.snoc {last t : Int} {os ts : List Int} (h : OnceI last os ts) (h0 : 0 ≤ last) : OnceI (last + 1) (os ++ [last + 1]) (ts ++ [t]) :=
  ⟨by simp [h.len], List.pairwise_append.2 ⟨h.asc, by simp, fun a ha b hb => by
    rw [List.mem_singleton] at hb; subst hb
    have := h.bd a ha; omega⟩, fun x hx => by
    rcases List.mem_append.1 hx with hx | hx
    · have := h.bd x hx; omega
    · rw [List.mem_singleton] at hx; subst hx; omega⟩
theorem OnceI.zip_snoc {last x t : Int} {os ts : List Int} (h : OnceI last os ts) : os.zip ts ++ [(x, t)] = (os ++ [x]).zip (ts ++ [t]) := by
  rw [List.zip_append h.len]; rfl
theorem OnceI.at {last : Int} {os ts : List Int} (h : OnceI last os ts) (j : Nat) (hj : j < os.length) : alook (os.zip ts) os[j] = some (ts[j]'(by rw [← h.len]; exact hj)) := by
  have h2 : j < ts.length := by rw [← h.len]; exact hj
  exact alook_of h.nodup (j := j) (by rw [List.getElem?_eq_getElem (by rw [List.length_zip]; omega), List.getElem_zip])
theorem OnceI.none {last n : Int} {os ts : List Int} (h : OnceI last os ts) (hn : ∀ x ∈ os, x ≠ n) : alook (os.zip ts) n = none :=
  alook_none.2 fun x hx => hn _ (by rw [← h.keys]; exact List.mem_map.2 ⟨x, hx, rfl⟩)
theorem OnceI.out {last : Int} {os ts : List Int} (h : OnceI last os ts) (j : Nat) (hj : j < os.length) : adel (os.zip ts) os[j] = (os.take j ++ os.drop (j + 1)).zip (ts.take j ++ ts.drop (j + 1)) := by
  have h2 : j < ts.length := by rw [← h.len]; exact hj
  rw [adel_at h.nodup (j := j) (n := os[j]) (u := ts[j]) (by rw [List.getElem?_eq_getElem (by rw [List.length_zip]; omega), List.getElem_zip])]
  have ht : (os.zip ts).take j = (os.take j).zip (ts.take j) := List.take_zipWith
  have hd : (os.zip ts).drop (j + 1) = (os.drop (j + 1)).zip (ts.drop (j + 1)) := List.drop_zipWith
  rw [List.eraseIdx_eq_take_drop_succ, ht, hd, ← List.zip_append (by rw [List.length_take, List.length_take, h.len])]
theorem OnceI.del {last : Int} {os ts : List Int} (h : OnceI last os ts) (j : Nat) : OnceI last (os.take j ++ os.drop (j + 1)) (ts.take j ++ ts.drop (j + 1)) := by
  have hs : (os.take j ++ os.drop (j + 1)).Sublist os := by rw [← List.eraseIdx_eq_take_drop_succ]; exact List.eraseIdx_sublist ..
  exact ⟨by simp [h.len], h.asc.sublist hs, fun x hx => h.bd x (hs.subset hx)⟩
theorem OnceI.up {last : Int} {os ts : List Int} (h : OnceI last os ts) : keysUp ((os.zip ts).map (·.1)) = os := by
  rw [h.keys]
  unfold keysUp
  exact List.mergeSort_of_pairwise (h.asc.imp fun h => by rw [decide_eq_true_eq]; omega)

/-- The last place of n among the first j, or -1. -/
def placeTo (os : List Int) (n : Int) : Nat → Int
  | 0 => -1
  | j + 1 => if os[j]? = some n then j else placeTo os n j
theorem placeTo_cases (os : List Int) (n : Int) (m : Nat) : (placeTo os n m = -1 ∧ ∀ j, j < m → os[j]? ≠ some n) ∨ ∃ j : Nat, placeTo os n m = j ∧ j < m ∧ os[j]? = some n := by
  induction m with
  | zero => exact .inl ⟨rfl, fun j h => by omega⟩
  | succ m ih =>
    unfold placeTo
    split
    · rename_i h; exact .inr ⟨m, rfl, by omega, h⟩
    · rename_i h
      rcases ih with ⟨h1, h2⟩ | ⟨j, h1, h2, h3⟩
      · refine .inl ⟨h1, fun j hj => ?_⟩
        by_cases e : j = m
        · subst e; exact h
        · exact h2 j (by omega)
      · exact .inr ⟨j, h1, by omega, h3⟩
end Go.Proofs
