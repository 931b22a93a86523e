/- Some of the separate things, looked at by themselves, and new ones made beside them. Of no program. -/
import Derived.Test.YtnjidpmggggiiaaZoom
namespace Sc
open Go Go.RowKit

theorem setAll_length : ∀ (is : List Nat) (L Bs : List Asn), (setAll L is Bs).length = L.length
  | [], L, [] => rfl
  | a :: is, L, B :: Bs => by
    show (setAll (L.set a B) is Bs).length = _
    rw [setAll_length is (L.set a B) Bs, List.length_set]
  | [], _, _ :: _ => rfl
  | _ :: _, _, [] => rfl
theorem setAll_self {L As : List Asn} {is : List Nat} (hn : is.Nodup) (hl : is.length = As.length) (hA : ∀ j (hj : j < is.length), L[is[j]]? = some (As[j]'(by omega))) : setAll L is As = L := by
  apply List.ext_getElem?
  intro i
  rw [setAll_get is L As i hn hl fun j hj => by
    obtain ⟨q, hq, rfl⟩ := List.mem_iff_getElem.1 hj
    exact (List.getElem?_eq_some_iff.1 (hA q hq)).1]
  split
  · rename_i hi
    have hlt := List.idxOf_lt_length_iff.2 hi
    have := hA _ hlt
    rw [List.getElem_idxOf hlt] at this
    rw [this, List.getElem?_eq_getElem (by omega)]
  · rfl
theorem Sep.zoomN {W w : World} {L : List Asn} (h : Sep W L w) (is : List Nat) (As : List Asn) (hn : is.Nodup) (hl : is.length = As.length) (hA : ∀ j (hj : j < is.length), L[is[j]]? = some (As[j]'(by omega))) :
    ∃ Z : Asn, Sep w (Z :: As) w ∧ ∀ w' Bs Cs, Bs.length = As.length → Sep w (Z :: (Bs ++ Cs)) w' → Sep W (setAll L is Bs ++ Cs) w' := by
  obtain ⟨hg, Fs, h1, h2, h3⟩ := h
  have hb : ∀ j ∈ is, j < L.length := fun j hj => by
    obtain ⟨q, hq, rfl⟩ := List.mem_iff_getElem.1 hj
    exact (List.getElem?_eq_some_iff.1 (hA q hq)).1
  let S : Foot := fun k => ∃ j, ∃ hj : j < is.length, Fs (is[j]) k
  refine ⟨FrameA w S, ⟨Grow.refl w, fun i k => if i = 0 then k < w.heap.size ∧ ¬ S k else if hi : i - 1 < is.length then Fs (is[i - 1]) k else False, ?_, ?_, ?_⟩, ?_⟩
  · intro i k hk
    by_cases h0 : i = 0
    · simp only [h0, if_true] at hk; exact hk.1
    · simp only [h0, if_false] at hk
      split at hk
      · exact h1 _ k hk
      · exact hk.elim
  · intro i j k hij hk hk'
    by_cases hi : i = 0 <;> by_cases hj : j = 0
    · omega
    · simp only [hi, if_true, hj, if_false] at hk hk'
      split at hk'
      · exact hk.2 ⟨_, _, hk'⟩
      · exact hk'
    · simp only [hj, if_true, hi, if_false] at hk hk'
      split at hk
      · exact hk'.2 ⟨_, _, hk⟩
      · exact hk
    · simp only [hi, hj, if_false] at hk hk'
      split at hk
      · split at hk'
        · rename_i q1 q2
          refine h2 _ _ k (fun e => ?_) hk hk'
          have := (List.getElem_inj hn).1 e
          omega
        · exact hk'
      · exact hk
  · intro i A hi
    cases i with
    | zero =>
      cases hi
      exact ⟨fun k hk hs => by simp only [if_true]; exact ⟨hk, hs⟩, Same.refl _ _⟩
    | succ i =>
      rw [List.getElem?_cons_succ] at hi
      obtain ⟨hlt, rfl⟩ := List.getElem?_eq_some_iff.1 hi
      have hil : i < is.length := by omega
      simp only [Nat.add_one_ne_zero, if_false, Nat.add_sub_cancel, hil, dif_pos]
      exact h3 _ _ (hA i hil)
  · intro w' Bs Cs hBl ⟨hg', Gs, k1, k2, k3⟩
    have k0 := k3 0 _ rfl
    have kz : w.heap.size ≤ w'.heap.size := hg'.size
    have hFs : ∀ i, i ∉ is → ∀ k, Fs i k → Gs 0 k ∧ w'.heap[k]? = w.heap[k]? := fun i hi k hk => by
      have hns : ¬ S k := fun ⟨j, hj, hj'⟩ => h2 _ _ k (fun e => hi (by rw [← e]; exact List.getElem_mem hj)) hj' hk
      exact ⟨k0.1 k (h1 i k hk) hns, k0.2 k ⟨h1 i k hk, hns⟩⟩
    let ix : Nat → Nat := fun i => if i ∈ is then is.idxOf i + 1 else is.length + 1 + (i - L.length)
    have hix : ∀ i j, (i ∈ is ∨ L.length ≤ i) → (j ∈ is ∨ L.length ≤ j) → ix i = ix j → i = j := by
      intro i j hi hj he
      by_cases mi : i ∈ is <;> by_cases mj : j ∈ is
      · simp only [ix, mi, mj, if_true] at he
        have g1 := List.getElem_idxOf (List.idxOf_lt_length_iff.2 mi)
        have g2 := List.getElem_idxOf (List.idxOf_lt_length_iff.2 mj)
        have e' : is.idxOf i = is.idxOf j := by omega
        rw [← g1, ← g2]
        simp only [e']
      · simp only [ix, mi, mj, if_true, if_false] at he
        have := List.idxOf_lt_length_iff.2 mi
        omega
      · simp only [ix, mi, mj, if_true, if_false] at he
        have := List.idxOf_lt_length_iff.2 mj
        omega
      · simp only [ix, mi, mj, if_false] at he
        have h1 := hi.resolve_left mi
        have h2 := hj.resolve_left mj
        omega
    have hpos : ∀ i, ix i ≠ 0 := fun i => by simp only [ix]; split <;> omega
    refine ⟨hg.trans hg', fun i => if i ∈ is ∨ L.length ≤ i then Gs (ix i) else Fs i, ?_, ?_, ?_⟩
    · intro i k hk
      by_cases hi : i ∈ is ∨ L.length ≤ i
      · simp only [hi, if_true] at hk; exact k1 _ k hk
      · simp only [hi, if_false] at hk; exact Nat.lt_of_lt_of_le (h1 i k hk) kz
    · intro i j k hij hk hk'
      by_cases hi : i ∈ is ∨ L.length ≤ i <;> by_cases hj : j ∈ is ∨ L.length ≤ j
      · simp only [hi, hj, if_true] at hk hk'
        exact k2 _ _ k (fun e => hij (hix i j hi hj e)) hk hk'
      · simp only [hi, hj, if_true, if_false] at hk hk'
        exact k2 _ 0 k (hpos i) hk (hFs j (fun e => hj (.inl e)) k hk').1
      · simp only [hi, hj, if_true, if_false] at hk hk'
        exact k2 _ 0 k (hpos j) hk' (hFs i (fun e => hi (.inl e)) k hk).1
      · simp only [hi, hj, if_false] at hk hk'
        exact h2 i j k hij hk hk'
    · intro i A hA'
      have hsl : (setAll L is Bs).length = L.length := setAll_length is L Bs
      by_cases hL : i < L.length
      · rw [List.getElem?_append_left (by omega), setAll_get is L Bs i hn (by omega) hb] at hA'
        by_cases hi : i ∈ is
        · have hc : i ∈ is ∨ L.length ≤ i := .inl hi
          simp only [hi, if_true] at hA'
          simp only [hc, if_true]
          have hlt := List.idxOf_lt_length_iff.2 hi
          refine k3 (ix i) A ?_
          simp only [ix, hi, if_true]
          rw [List.getElem?_cons_succ, List.getElem?_append_left (by omega)]
          exact hA'
        · have hc : ¬ (i ∈ is ∨ L.length ≤ i) := fun h => h.elim hi (by omega)
          simp only [hi, if_false] at hA'
          simp only [hc, if_false]
          exact A.loc _ _ _ (fun k hk => (hFs i hi k hk).2) kz (h3 i A hA')
      · have hi : i ∉ is := fun h => hL (hb i h)
        have hc : i ∈ is ∨ L.length ≤ i := .inr (by omega)
        rw [List.getElem?_append_right (by omega), hsl] at hA'
        simp only [hc, if_true]
        refine k3 (ix i) A ?_
        simp only [ix, hi, if_false]
        rw [show is.length + 1 + (i - L.length) = (is.length + (i - L.length)) + 1 by omega, List.getElem?_cons_succ, List.getElem?_append_right (by omega), show is.length + (i - L.length) - Bs.length = i - L.length by omega]
        exact hA'
end Sc
