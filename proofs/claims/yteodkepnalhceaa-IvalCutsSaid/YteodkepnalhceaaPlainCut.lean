/- Cut, plain: the blocks of an extent that are in none of others. -/
import Derived.Test.YteodkepnalhceaaPlainIval
namespace Sc
open Go Go.RowKit

def cutEnd (fin a : Int) : List Ext := if a < fin then [⟨a, fin - a⟩] else []
def cutGo (fin : Int) : Int → List Ext → List Ext
  | a, [] => cutEnd fin a
  | a, x :: l => if fin ≤ x.first then cutEnd fin a else (if a < x.first then [⟨a, x.first - a⟩] else []) ++ cutGo fin (max a (x.first + x.len)) l
def cutL (e : Ext) (l : List Ext) : List Ext := cutGo (e.first + e.len) e.first l
theorem cutEnd_cov {fin a x : Int} : cov (cutEnd fin a) x ↔ a ≤ x ∧ x < fin := by
  unfold cutEnd
  have := cov_nil x
  split
  · rw [cov_cons]
    constructor
    · rintro (h | h)
      · simp only at h; omega
      · exact absurd h this
    · intro h; exact .inl ⟨h.1, by simp only; omega⟩
  · constructor
    · intro h; exact absurd h this
    · intro h; omega
theorem cut_good (fin : Int) : ∀ (l : List Ext) (a : Int), Canon l →
    (∀ x, cov (cutGo fin a l) x ↔ a ≤ x ∧ x < fin ∧ ¬ cov l x) ∧ (∀ y ∈ cutGo fin a l, a ≤ y.first ∧ 1 ≤ y.len ∧ y.first + y.len ≤ fin) ∧ (cutGo fin a l).Pairwise (fun a b => a.first + a.len ≤ b.first) ∧ (cutGo fin a l).length ≤ l.length + 1
  | [], a, _ => by
    unfold cutGo
    refine ⟨fun x => ?_, fun y hy => ?_, ?_, ?_⟩
    · rw [cutEnd_cov]; have := cov_nil x; exact ⟨fun h => ⟨h.1, h.2, this⟩, fun h => ⟨h.1, h.2.1⟩⟩
    · unfold cutEnd at hy
      split at hy
      · rw [List.mem_singleton] at hy; subst hy; simp only; omega
      · cases hy
    · unfold cutEnd; split <;> simp
    · unfold cutEnd; split <;> simp
  | e :: l, a, hc => by
    obtain ⟨h1, h2, h3⟩ := hc.cons
    unfold cutGo
    have hge : ∀ x, cov l x → e.first + e.len < x := fun x ⟨y, hy, h4, h5⟩ => by have := h2 y hy; omega
    by_cases hf : fin ≤ e.first
    · rw [if_pos hf]
      refine ⟨fun x => ?_, fun y hy => ?_, ?_, ?_⟩
      · rw [cutEnd_cov, cov_cons]
        constructor
        · intro h; refine ⟨h.1, h.2, ?_⟩
          rintro (h4 | h4)
          · omega
          · have := hge x h4; omega
        · intro h; exact ⟨h.1, h.2.1⟩
      · unfold cutEnd at hy
        split at hy
        · rw [List.mem_singleton] at hy; subst hy; simp only; omega
        · cases hy
      · unfold cutEnd; split <;> simp
      · unfold cutEnd; split <;> simp
    · rw [if_neg hf]
      obtain ⟨i1, i2, i3, i4⟩ := cut_good fin l (max a (e.first + e.len)) h3
      refine ⟨fun x => ?_, fun y hy => ?_, ?_, ?_⟩
      · rw [cov_append, i1, cov_cons]
        have hn := cov_nil x
        constructor
        · rintro (h | h)
          · split at h
            · rw [cov_cons] at h
              rcases h with h | h
              · simp only at h
                refine ⟨by omega, by omega, ?_⟩
                rintro (h4 | h4)
                · omega
                · have := hge x h4; omega
              · exact absurd h hn
            · exact absurd h hn
          · refine ⟨by omega, h.2.1, ?_⟩
            rintro (h4 | h4)
            · omega
            · exact h.2.2 h4
        · rintro ⟨h4, h5, h6⟩
          by_cases hx : x < e.first
          · left
            rw [if_pos (by omega), cov_cons]
            exact .inl ⟨h4, by simp only; omega⟩
          · right
            refine ⟨?_, h5, fun h7 => h6 (.inr h7)⟩
            have : ¬ (e.first ≤ x ∧ x < e.first + e.len) := fun h7 => h6 (.inl h7)
            omega
      · rcases List.mem_append.1 hy with hy | hy
        · split at hy
          · rw [List.mem_singleton] at hy; subst hy; simp only; omega
          · cases hy
        · have := i2 y hy; omega
      · rw [List.pairwise_append]
        refine ⟨by split <;> simp, i3, fun y hy z hz => ?_⟩
        split at hy
        · rw [List.mem_singleton] at hy; subst hy
          have := i2 z hz
          simp only; omega
        · cases hy
      · rw [List.length_append, List.length_cons]
        split <;> simp <;> omega
theorem cutL_good {e : Ext} {l : List Ext} (hc : Canon l) : (∀ x, cov (cutL e l) x ↔ e.first ≤ x ∧ x < e.first + e.len ∧ ¬ cov l x) ∧ (∀ y ∈ cutL e l, e.first ≤ y.first ∧ 1 ≤ y.len ∧ y.first + y.len ≤ e.first + e.len) ∧ (cutL e l).Pairwise (fun a b => a.first + a.len ≤ b.first) ∧ (cutL e l).length ≤ l.length + 1 :=
  cut_good _ l e.first hc
theorem cutL_apart {e : Ext} {l : List Ext} (hc : Canon l) : ∀ y ∈ cutL e l, ∀ z ∈ l, meetB z y = false := by
  intro y hy z hz
  obtain ⟨h1, h2, _, _⟩ := cutL_good (e := e) hc
  cases hq : meetB z y with
  | false => rfl
  | true =>
    exfalso
    unfold meetB at hq
    simp only [Bool.and_eq_true, decide_eq_true_eq] at hq
    have h3 := hc.1 z hz
    have h4 := h2 y hy
    exact ((h1 (max z.first y.first)).1 ⟨y, hy, by omega, by omega⟩).2.2 ⟨z, hz, by omega, by omega⟩
/-- The place of a scan: all pieces ahead of it end at or ahead of the block. -/
def ScanAt (r : List Ext) (p : Nat) (x : Int) : Prop := p ≤ r.length ∧ ∀ j (h : j < r.length), j < p → r[j].first + r[j].len ≤ x
theorem scan_in {r : List Ext} {p : Nat} {x : Int} (hp : r.Pairwise (fun a b => a.first + a.len ≤ b.first)) (h : ScanAt r p x) (hx : ∀ hl : p < r.length, x < r[p].first + r[p].len) : cov r x ↔ ∃ hl : p < r.length, r[p].first ≤ x := by
  constructor
  · rintro ⟨e, he, h1, h2⟩
    obtain ⟨j, hj, rfl⟩ := List.mem_iff_getElem.1 he
    have h3 : ¬ j < p := fun h3 => by have := h.2 j hj h3; omega
    have h4 : ¬ p < j := fun h4 => by
      rw [List.pairwise_iff_getElem] at hp
      have h5 := hp p j (by omega) hj h4
      have h6 := hx (by omega)
      omega
    have : j = p := by omega
    subst this
    exact ⟨hj, h1⟩
  · rintro ⟨hl, h1⟩
    exact ⟨r[p], List.getElem_mem hl, h1, hx hl⟩
end Sc
