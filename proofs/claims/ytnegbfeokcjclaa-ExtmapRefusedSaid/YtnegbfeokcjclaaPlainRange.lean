/- What Written tells, plain. -/
import Derived.Test.YtnegbfeokcjclaaFed12
namespace Go.Proofs
open Go.RowKit Sc

/-- Was one of the first so many blocks from a on written behind a time? -/
def laterB (vs : Vers) (a t : Int) (m : Nat) : Bool := (List.range m).any fun i : Nat => decide (t < (getV vs (a + i) 1099511627776).2) && decide (0 < (getV vs (a + i) 1099511627776).2)
theorem laterB_succ (vs : Vers) (a t : Int) (m : Nat) : laterB vs a t (m + 1) = (laterB vs a t m || (decide (t < (getV vs (a + m) 1099511627776).2) && decide (0 < (getV vs (a + m) 1099511627776).2))) := by
  unfold laterB
  rw [List.range_succ, List.any_append]
  simp
theorem getV_top {blocks last : Int} {vs : Vers} (h : GoodE blocks last vs) {M : Int} (hM : last ≤ M) (k : Int) :
    (alook vs k = none ∧ (getV vs k M).2 = 0) ∨ ∃ l, alook vs k = some l ∧ (getV vs k M).2 = lastT l ∧ 1 ≤ lastT l := by
  cases hq : alook vs k with
  | none =>
    left
    refine ⟨rfl, ?_⟩
    rw [getV_eq, hq]; rfl
  | some l =>
    right
    obtain ⟨h1, h2, h3⟩ := h.ts k l hq
    have hlen := List.length_pos_iff.2 h1
    have hat : atN l M = l.length := atN_is (Nat.le_refl _) (fun j hj hj' => by omega) (.inr ⟨by omega, by
      have := (h3 _ (List.getElem_mem (show l.length - 1 < l.length by omega))).2.2; omega⟩)
    have hg := lastT_get (l := l) (j := l.length - 1) (by omega)
    refine ⟨l, rfl, ?_, ?_⟩
    · rw [getV_of (l := l) (by rw [hq]; rfl), hat, List.getElem?_eq_getElem (show l.length - 1 < l.length by omega), hg]
      simp only
      rw [if_neg (by omega)]
    · rw [hg]
      exact (h3 _ (List.getElem_mem _)).2.1
theorem written_later {last : Int} {vs : Vers} (h : GoodE 20 last vs) (hc : last ≤ 1099511627776) (a t : Int) (m : Nat) : writtenB vs a m t = laterB vs a t m := by
  rw [Bool.eq_iff_iff]
  unfold writtenB laterB
  rw [List.any_eq_true, List.any_eq_true]
  constructor
  · rintro ⟨⟨k, l⟩, hx, hh⟩
    unfold hitB at hh
    simp only [Bool.and_eq_true, decide_eq_true_eq] at hh
    obtain ⟨⟨h1, h2⟩, h3⟩ := hh
    obtain ⟨i, hi⟩ := Int.eq_ofNat_of_zero_le (show 0 ≤ k - a by omega)
    refine ⟨i, List.mem_range.2 (by omega), ?_⟩
    have hk : a + (i : Int) = k := by omega
    rw [hk]
    rcases getV_top h hc k with ⟨hn, _⟩ | ⟨l', hl', he, h1'⟩
    · rw [alook_mem h.nd hx] at hn; cases hn
    · rw [alook_mem h.nd hx] at hl'
      cases hl'
      rw [he, Bool.and_eq_true, decide_eq_true_eq, decide_eq_true_eq]
      omega
  · rintro ⟨i, hi, hh⟩
    rw [Bool.and_eq_true, decide_eq_true_eq, decide_eq_true_eq] at hh
    rw [List.mem_range] at hi
    rcases getV_top h hc (a + i) with ⟨hn, he⟩ | ⟨l', hl', he, h1'⟩
    · omega
    · refine ⟨(a + i, l'), alook_in hl', ?_⟩
      unfold hitB
      simp only [Bool.and_eq_true, decide_eq_true_eq]
      omega
theorem getV_len {last : Int} {vs : Vers} (h : GoodE 20 last vs) (k t : Int) : (getV vs k t).1.length = 40 := by
  cases hq : alook vs k with
  | none => rw [getV_of (l := []) (by rw [hq]; rfl)]; rfl
  | some l =>
    obtain ⟨h1, h2, h3⟩ := h.ts k l hq
    rw [getV_of (l := l) (by rw [hq]; rfl)]
    split
    · rename_i p hp
      split
      · rfl
      · exact (h3 p (List.mem_of_getElem? hp)).1
    · rfl
theorem rangeV_cut {vs : Vers} {t : Int} (h : ∀ b, (getV vs b t).1.length = 40) (a : Int) : ∀ (n i : Nat), i < n → ((rangeV vs a t n).drop (40 * i)).take 40 = (getV vs (a + i) t).1
  | 0, i, hi => by omega
  | n + 1, i, hi => by
    rw [rangeV_succ]
    have hl := rangeV_length (a := a) h n
    by_cases e : i = n
    · subst e
      rw [← hl, List.drop_left, List.take_of_length_le (by rw [h]; omega)]
    · rw [List.drop_append_of_le_length (by omega), List.take_append_of_le_length (by rw [List.length_drop]; omega)]
      exact rangeV_cut h a n i (by omega)
theorem Fed.ne {l : List Step12} {k : Nat} {last : Int} {vs : Vers} (h : Fed l k last vs) : ∀ x ∈ vs, x.2 ≠ [] := fun x hx => (h.good.ts x.1 x.2 (alook_mem h.good.nd hx)).1
theorem Fed.ks {l : List Step12} {k : Nat} {last : Int} {vs : Vers} (h : Fed l k last vs) : ∀ x ∈ vs, I64 x.1 ∧ 0 ≤ x.1 := fun x hx => by have := h.good.ks x hx; unfold I64; omega
theorem bytesAt_cut {G : Nat → Prop} {w : World} {g o n c : Nat} {l : Bytes} (h : BytesAt G w (.slice (some ⟨g, o, none⟩) n c) l) (i m : Nat) (hi : i + m ≤ l.length) : BytesAt G w (.slice (some ⟨g, o + i, none⟩) m (c - i)) ((l.drop i).take m) := by
  obtain ⟨p, c', he, h1, h2, h3, h4⟩ := h
  cases he
  have hl : ((l.drop i).take m).length = m := by rw [List.length_take, List.length_drop]; omega
  refine ⟨_, c - i, by rw [hl], by omega, by omega, (by intro h; cases h), fun j hj => ?_⟩
  obtain ⟨b, o', he, hb, hc⟩ := h4 (i + j) (by omega)
  cases he
  refine ⟨g, o + i, rfl, hb, ?_⟩
  rw [List.getElem_take, List.getElem_drop]
  simpa [Nat.add_assoc] using hc
end Go.Proofs
