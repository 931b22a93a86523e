/- A Book among other things; HorizonRoom: so many may be there, and not one more; one that goes makes room for one: for every input the law returns true. -/
import Derived.Test.YtnegbfeokcjclaaHorizon4
import Derived.Test.YtnegbfeokcjclaaSep
namespace Go.Proofs
open Go.RowKit Sc

def BookA (v : Value) (most last : Int) (tm : List (Int × Int)) : Asn := ⟨fun F w => BookIs F w v most last tm, fun _ _ _ hs hz h => h.same hs hz⟩
def openLast (most last : Int) (tm : List (Int × Int)) (t : Int) : Int := if OpenOk most tm t = 0 then last + 1 else last
def openTm (most last : Int) (tm : List (Int × Int)) (t : Int) : List (Int × Int) := if OpenOk most tm t = 0 then tm ++ [(last + 1, t)] else tm
theorem bookOpen_sep {W w : World} {L : List Asn} (h : Sep W L w) (i : Nat) {v : Value} {most last : Int} {tm : List (Int × Int)} (hi : L[i]? = some (BookA v most last tm)) (hk : Keyed last tm) (t : Int) :
    Calls Try.prog 31 #[v, .int .i64 t] w fun e w' => e = .returned (.tuple #[.int .i64 (if OpenOk most tm t = 0 then last + 1 else 0), .int .i64 (OpenOk most tm t)]) ∧ Sep W (L.set i (BookA v most (openLast most last tm t) (openTm most last tm t))) w' := by
  obtain ⟨F, G, hF, _, _, _, _, K⟩ := h.at i hi
  refine (bookOpen_any F v most last tm t w hF hk).mono ?_
  rintro e w' (⟨h0, rfl, hb⟩ | ⟨h0, rfl, hm, hc⟩)
  · refine ⟨by rw [if_neg h0], ?_⟩
    have h2 := h.up hb
    unfold openLast openTm
    rw [if_neg h0, if_neg h0]
    have : L.set i (BookA v most last tm) = L := by
      obtain ⟨hl, he⟩ := List.getElem?_eq_some_iff.1 hi
      rw [← he]; exact List.set_getElem_self hl
    rw [this]; exact h2
  · refine ⟨by rw [if_pos h0, h0], ?_⟩
    unfold openLast openTm
    rw [if_pos h0, if_pos h0]
    exact K w' F (BookA v most (last + 1) (tm ++ [(last + 1, t)])) hc (fun k hk => .inl hk) hm
theorem bookClose_sep {W w : World} {L : List Asn} (h : Sep W L w) (i : Nat) {v : Value} {most last : Int} {tm : List (Int × Int)} (hi : L[i]? = some (BookA v most last tm)) (n : Int) :
    Calls Try.prog 33 #[v, .int .i64 n] w fun e w' => e = .returned (.int .i64 (if (alook tm n).isSome then 0 else 14)) ∧ Sep W (L.set i (BookA v most last (adel tm n))) w' := by
  obtain ⟨F, G, hF, _, _, _, _, K⟩ := h.at i hi
  refine (bookClose_any F v most last tm n w hF).mono ?_
  rintro e w' ⟨rfl, hm, hc, _⟩
  exact ⟨rfl, K w' F (BookA v most last (adel tm n)) hc (fun k hk => .inl hk) hm⟩
theorem bookNew_sep {W w : World} {L : List Asn} (h : Sep W L w) (most : Int) :
    Calls Try.prog 30 #[.int .i64 most] w fun e w' => ∃ b : Nat, e = .returned (.pointer (some ⟨b, 0, none⟩)) ∧ Sep W (L ++ [BookA (.pointer (some ⟨b, 0, none⟩)) most 0 []]) w' := by
  refine (bookNew_any most w).mono ?_
  rintro e w' ⟨v, rfl, hm, hb⟩
  have := h.new hb (BookA v most 0 []) (fun _ h => h) hm
  obtain ⟨⟨b, r, rfl, _⟩, _⟩ := hm
  exact ⟨b, rfl, this⟩
theorem Keyed.opens {most last t : Int} {tm : List (Int × Int)} (h : Keyed last tm) (hl : last < 1000000) (hn : tm.length < 1000000) : Keyed (openLast most last tm t) (openTm most last tm t) := by
  unfold openLast openTm
  split
  · exact h.snoc hl hn
  · exact h
theorem Keyed.del {last : Int} {tm : List (Int × Int)} (h : Keyed last tm) (n : Int) : Keyed last (adel tm n) :=
  ⟨h.lo, h.hi, fun x hx => h.ks x ((adel_sublist tm n).subset hx), Nat.le_trans (adel_sublist tm n).length_le h.ln⟩

/-- So many handles, opened at 0, 1 and so on. -/
def tmR (c : Nat) : List (Int × Int) := (List.range c).map fun i : Nat => ((i : Int) + 1, (i : Int))
theorem tmR_length (c : Nat) : (tmR c).length = c := by simp [tmR]
theorem tmR_succ (c : Nat) : tmR (c + 1) = tmR c ++ [((c : Int) + 1, (c : Int))] := by simp [tmR, List.range_succ]
theorem tmR_keyed (c : Nat) (hc : c ≤ 1000000) : Keyed c (tmR c) := ⟨by omega, by omega, fun x hx => by
  obtain ⟨i, hi, rfl⟩ := List.mem_map.1 hx
  have := List.mem_range.1 hi
  simp only; omega, by rw [tmR_length]; omega⟩
theorem tmR_nodup (c : Nat) : ((tmR c).map (·.1)).Nodup := by
  unfold tmR
  rw [List.map_map]
  exact (List.pairwise_map.2 (List.pairwise_lt_range.imp fun h => by simp only [Function.comp]; omega))
theorem tmR_look (c : Nat) (n : Int) : (alook (tmR c) n).isSome = (decide (1 ≤ n) && decide (n ≤ c)) := by
  rw [Bool.eq_iff_iff]
  simp only [Bool.and_eq_true, decide_eq_true_eq]
  constructor
  · intro h
    obtain ⟨t, ht⟩ := Option.isSome_iff_exists.1 h
    by_cases hh : ∀ x ∈ tmR c, x.1 ≠ n
    · rw [alook_none.2 hh] at ht; cases ht
    · simp only [Classical.not_forall, Decidable.not_not] at hh
      obtain ⟨x, hx, rfl⟩ := hh
      exact (tmR_keyed' c).1 x hx
  · rintro ⟨h1, h2⟩
    obtain ⟨i, hi⟩ := Int.eq_ofNat_of_zero_le (show 0 ≤ n - 1 by omega)
    have hx : (n, n - 1) ∈ tmR c := List.mem_map.2 ⟨i, List.mem_range.2 (by omega), by rw [← hi]; simp⟩
    cases h : alook (tmR c) n with
    | some t => rfl
    | none => exact absurd rfl (alook_none.1 h _ hx)
where tmR_keyed' (c : Nat) : (∀ x ∈ tmR c, 1 ≤ x.1 ∧ x.1 ≤ c) ∧ True := ⟨fun x hx => by
  obtain ⟨i, hi, rfl⟩ := List.mem_map.1 hx
  have := List.mem_range.1 hi
  simp only; omega, trivial⟩
theorem lowOf_le (l : List Int) : ∀ now, lowOf now l ≤ now ∧ (∀ x ∈ l, lowOf now l ≤ x) ∧ (lowOf now l = now ∨ lowOf now l ∈ l) := by
  induction l with
  | nil => exact fun now => ⟨Int.le_refl _, by simp, .inl rfl⟩
  | cons a t ih =>
    intro now
    obtain ⟨h1, h2, h3⟩ := ih (min now a)
    show lowOf (min now a) t ≤ now ∧ (∀ x ∈ a :: t, lowOf (min now a) t ≤ x) ∧ (lowOf (min now a) t = now ∨ lowOf (min now a) t ∈ a :: t)
    refine ⟨by omega, fun x hx => ?_, ?_⟩
    · rcases List.mem_cons.1 hx with rfl | hx
      · omega
      · exact h2 x hx
    · rcases h3 with h3 | h3
      · by_cases hna : now ≤ a
        · left; omega
        · right; exact List.mem_cons.2 (.inl (by omega))
      · exact .inr (List.mem_cons_of_mem _ h3)
theorem low_tmR (c : Nat) (hc : 0 < c) : lowOf 1000 ((tmR c).map (·.2)) = 0 := by
  obtain ⟨h1, h2, h3⟩ := lowOf_le ((tmR c).map (·.2)) 1000
  have hm : (0 : Int) ∈ (tmR c).map (·.2) := by
    unfold tmR
    rw [List.map_map]
    exact List.mem_map.2 ⟨0, List.mem_range.2 hc, rfl⟩
  have h4 := h2 0 hm
  rcases h3 with h3 | h3
  · omega
  · obtain ⟨x, hx, he⟩ := List.mem_map.1 h3
    obtain ⟨i, _, rfl⟩ := List.mem_map.1 hx
    simp only at he
    omega
end Go.Proofs
