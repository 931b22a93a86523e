/- Some of the separate things, looked at by themselves; what is not among them stays. Of no program. -/
import Derived.Test.YtnjidpmggggiiaaSep
namespace Sc
open Go Go.RowKit

def setAll : List Asn → List Nat → List Asn → List Asn
  | L, i :: is, B :: Bs => setAll (L.set i B) is Bs
  | L, _, _ => L
theorem setAll_get : ∀ (is : List Nat) (L Bs : List Asn) (i : Nat), is.Nodup → is.length = Bs.length → (∀ j ∈ is, j < L.length) → (setAll L is Bs)[i]? = if i ∈ is then Bs[is.idxOf i]? else L[i]?
  | [], L, [], i, _, _, _ => by simp [setAll]
  | a :: is, L, B :: Bs, i, hn, hl, hb => by
    have hn' := List.nodup_cons.1 hn
    have ih := setAll_get is (L.set a B) Bs i hn'.2 (by simpa using hl) (fun j hj => by rw [List.length_set]; exact hb j (by simp [hj]))
    show (setAll (L.set a B) is Bs)[i]? = _
    rw [ih]
    by_cases hia : i = a
    · subst hia
      rw [if_neg hn'.1, if_pos (by simp), List.getElem?_set_self (hb i (by simp))]
      simp
    · rw [List.getElem?_set_ne (fun e => hia e.symm)]
      by_cases hi : i ∈ is
      · rw [if_pos hi, if_pos (by simp [hi])]
        have hne : (a == i) = false := by rw [beq_eq_false_iff_ne]; exact fun e => hia e.symm
        rw [List.idxOf_cons, hne]
        simp
      · rw [if_neg hi, if_neg (by simp [hi, hia])]
  | [], _, _ :: _, _, _, h, _ => by simp at h
  | _ :: _, _, [], _, _, h, _ => by simp at h
/-- What lies outside of some blocks, as it was. -/
def FrameA (w : World) (S : Foot) : Asn := ⟨fun F w' => (∀ k, k < w.heap.size → ¬ S k → F k) ∧ Same (fun k => k < w.heap.size ∧ ¬ S k) w w', fun _ _ _ hs _ h => ⟨h.1, h.2.trans (hs.mono fun k hk => h.1 k hk.1 hk.2)⟩⟩
theorem Sep.zoom {W w : World} {L : List Asn} (h : Sep W L w) (is : List Nat) (As : List Asn) (hn : is.Nodup) (hl : is.length = As.length) (hA : ∀ j (hj : j < is.length), L[is[j]]? = some (As[j]'(by omega))) :
    ∃ Z : Asn, Sep w (Z :: As) w ∧ ∀ w' Bs, Bs.length = As.length → Sep w (Z :: Bs) w' → Sep W (setAll L is Bs) w' := by
  obtain ⟨hg, Fs, h1, h2, h3⟩ := h
  have hb : ∀ j ∈ is, j < L.length := fun j hj => by
    obtain ⟨q, hq, rfl⟩ := List.mem_iff_getElem.1 hj
    exact (List.getElem?_eq_some_iff.1 (hA q hq)).1
  let S : Foot := fun k => ∃ j, ∃ hj : j < is.length, Fs (is[j]) k
  refine ⟨FrameA w S, ⟨Grow.refl w, fun i k => if i = 0 then k < w.heap.size ∧ ¬ S k else if hi : i - 1 < is.length then Fs (is[i - 1]) k else False, ?_, ?_, ?_⟩, ?_⟩
  · intro i k hk
    by_cases h0 : i = 0
    · simp only [h0, if_true] at hk; exact hk.1
    · simp only [h0, if_false] at hk
      split at hk
      · exact h1 _ k hk
      · exact hk.elim
  · intro i j k hij hk hk'
    by_cases hi : i = 0 <;> by_cases hj : j = 0
    · omega
    · simp only [hi, if_true, hj, if_false] at hk hk'
      split at hk'
      · exact hk.2 ⟨_, _, hk'⟩
      · exact hk'
    · simp only [hj, if_true, hi, if_false] at hk hk'
      split at hk
      · exact hk'.2 ⟨_, _, hk⟩
      · exact hk
    · simp only [hi, hj, if_false] at hk hk'
      split at hk
      · split at hk'
        · rename_i q1 q2
          refine h2 _ _ k (fun e => ?_) hk hk'
          have := (List.getElem_inj hn).1 e
          omega
        · exact hk'
      · exact hk
  · intro i A hi
    cases i with
    | zero =>
      cases hi
      exact ⟨fun k hk hs => by simp only [if_true]; exact ⟨hk, hs⟩, Same.refl _ _⟩
    | succ i =>
      rw [List.getElem?_cons_succ] at hi
      obtain ⟨hlt, rfl⟩ := List.getElem?_eq_some_iff.1 hi
      have hil : i < is.length := by omega
      simp only [Nat.add_one_ne_zero, if_false, Nat.add_sub_cancel, hil, dif_pos]
      exact h3 _ _ (hA i hil)
  · intro w' Bs hBl ⟨hg', Gs, k1, k2, k3⟩
    have k0 := k3 0 _ rfl
    have kz : w.heap.size ≤ w'.heap.size := hg'.size
    have hFs : ∀ i, i ∉ is → ∀ k, Fs i k → Gs 0 k ∧ w'.heap[k]? = w.heap[k]? := fun i hi k hk => by
      have hns : ¬ S k := fun ⟨j, hj, hj'⟩ => h2 _ _ k (fun e => hi (by rw [← e]; exact List.getElem_mem hj)) hj' hk
      exact ⟨k0.1 k (h1 i k hk) hns, k0.2 k ⟨h1 i k hk, hns⟩⟩
    refine ⟨hg.trans hg', fun i => if i ∈ is then Gs (is.idxOf i + 1) else Fs i, ?_, ?_, ?_⟩
    · intro i k hk
      by_cases hi : i ∈ is
      · simp only [hi, if_true] at hk; exact k1 _ k hk
      · simp only [hi, if_false] at hk; exact Nat.lt_of_lt_of_le (h1 i k hk) kz
    · intro i j k hij hk hk'
      by_cases hi : i ∈ is <;> by_cases hj : j ∈ is
      · simp only [hi, hj, if_true] at hk hk'
        refine k2 _ _ k (fun e => hij ?_) hk hk'
        have e' : is.idxOf i = is.idxOf j := by omega
        have g1 := List.getElem_idxOf (List.idxOf_lt_length_iff.2 hi)
        have g2 := List.getElem_idxOf (List.idxOf_lt_length_iff.2 hj)
        rw [← g1, ← g2]
        simp only [e']
      · simp only [hi, hj, if_true, if_false] at hk hk'
        exact k2 _ 0 k (by omega) hk (hFs j hj k hk').1
      · simp only [hi, hj, if_true, if_false] at hk hk'
        exact k2 _ 0 k (by omega) hk' (hFs i hi k hk).1
      · simp only [hi, hj, if_false] at hk hk'
        exact h2 i j k hij hk hk'
    · intro i A hA'
      rw [setAll_get is L Bs i hn (by omega) hb] at hA'
      by_cases hi : i ∈ is
      · simp only [hi, if_true] at hA' ⊢
        exact k3 (is.idxOf i + 1) A (by rw [List.getElem?_cons_succ]; exact hA')
      · simp only [hi, if_false] at hA' ⊢
        exact A.loc _ _ _ (fun k hk => (hFs i hi k hk).2) kz (h3 i A hA')
/-- One of them forgotten. -/
theorem Sep.erase {W w : World} {L : List Asn} (h : Sep W L w) (i : Nat) : Sep W (L.eraseIdx i) w := by
  obtain ⟨hg, Fs, h1, h2, h3⟩ := h
  refine ⟨hg, fun j => if j < i then Fs j else Fs (j + 1), fun j k hk => ?_, fun j j' k hjj hk hk' => ?_, fun j A hA => ?_⟩
  · simp only at hk
    split at hk
    · exact h1 _ k hk
    · exact h1 _ k hk
  · simp only at hk hk'
    split at hk <;> split at hk'
    · exact h2 _ _ k hjj hk hk'
    · exact h2 _ _ k (by omega) hk hk'
    · exact h2 _ _ k (by omega) hk hk'
    · exact h2 _ _ k (by omega) hk hk'
  · rw [List.getElem?_eraseIdx] at hA
    split at hA
    · rename_i hlt; simp only [hlt, if_true]; exact h3 j A hA
    · rename_i hlt; simp only [hlt, if_false]; exact h3 (j + 1) A hA
end Sc
