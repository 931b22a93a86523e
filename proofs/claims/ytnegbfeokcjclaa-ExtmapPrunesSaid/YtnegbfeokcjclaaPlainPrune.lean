/- What Prune leaves, plain. -/
import Derived.Test.YtnegbfeokcjclaaExt9
import Derived.Test.YtnegbfeokcjclaaPlainRange
import Derived.Test.YtnegbfeokcjclaaDat
namespace Go.Proofs
open Go.RowKit Sc

theorem atN_mono (l : List Put) {h t : Int} (ht : h ≤ t) : atN l h ≤ atN l t := by
  by_cases h0 : 0 < atN l h
  · obtain ⟨h1, h2⟩ := atN_at l h h0
    by_cases hc : atN l h ≤ atN l t
    · exact hc
    · have := atN_above l t (atN l h - 1) h1 (by omega); omega
  · omega
theorem atN_prune (l : List Put) {h t : Int} (ht : h ≤ t) : atN (pruneOne h l) t = atN l t - (atN l h - 1) := by
  unfold pruneOne
  have hm := atN_mono l ht
  have hle := atN_le l t
  refine atN_is (by rw [List.length_drop]; omega) (fun j hj hj' => ?_) ?_
  · rw [List.getElem_drop]
    exact atN_above l t _ (by rw [List.length_drop] at hj; omega) (by omega)
  · by_cases h0 : atN l t = 0
    · exact .inl (by omega)
    · obtain ⟨h1, h2⟩ := atN_at l t (by omega)
      refine .inr ⟨by rw [List.length_drop]; omega, ?_⟩
      rw [List.getElem_drop]
      have : atN l h - 1 + (atN l t - (atN l h - 1) - 1) = atN l t - 1 := by omega
      simp only [this]
      exact h2
theorem alook_prune (h : Int) (k : Int) : ∀ vs : Vers, alook (pruneVs h vs) k = (alook vs k).map (pruneOne h)
  | [] => rfl
  | (n, l) :: vs => by
    show (if n = k then some (pruneOne h l) else alook (pruneVs h vs) k) = _
    rw [alook_prune h k vs]
    simp only [alook]
    split <;> rfl
theorem pruneOne_nil (h : Int) : pruneOne h [] = [] := by unfold pruneOne; simp
theorem alook_prune_getD (h : Int) (k : Int) (vs : Vers) : (alook (pruneVs h vs) k).getD [] = pruneOne h ((alook vs k).getD []) := by
  rw [alook_prune]
  cases alook vs k with
  | none => simp [pruneOne_nil]
  | some l => rfl
theorem getV_prune (vs : Vers) (k : Int) {h t : Int} (ht : h ≤ t) : getV (pruneVs h vs) k t = getV vs k t := by
  rw [getV_of (alook_prune_getD h k vs), getV_of (vs := vs) rfl, atN_prune _ ht]
  generalize (alook vs k).getD [] = l
  have hm := atN_mono l ht
  have hle := atN_le l t
  by_cases h0 : atN l t = 0
  · simp only [h0, Nat.zero_sub, if_true]
    split <;> split <;> rfl
  · unfold pruneOne
    rw [List.getElem?_drop, show atN l h - 1 + (atN l t - (atN l h - 1) - 1) = atN l t - 1 by omega]
    rw [List.getElem?_eq_getElem (by omega)]
    simp only
    rw [if_neg (by omega), if_neg h0]
theorem pruneOne_two (h : Int) (l : List Put) : pruneOne h (pruneOne h l) = pruneOne h l := by
  conv => lhs; unfold pruneOne
  have := atN_prune l (Int.le_refl h)
  unfold pruneOne at this ⊢
  rw [this, show atN l h - (atN l h - 1) - 1 = 0 by omega]; rfl
theorem prune_two (h : Int) (vs : Vers) : pruneVs h (pruneVs h vs) = pruneVs h vs := by
  unfold pruneVs
  rw [List.map_map]
  exact List.map_congr_left fun x _ => by simp only [Function.comp]; rw [pruneOne_two]
theorem prune_d40 {blocks last : Int} {vs : Vers} (h : GoodE blocks last vs) (t : Int) : ∀ k l, alook (pruneVs t vs) k = some l → ∀ p ∈ l, p.data.length ≤ 1000000 := fun k l hl p hp => by
  rw [alook_prune] at hl
  cases hq : alook vs k with
  | none => rw [hq] at hl; cases hl
  | some l' =>
    rw [hq] at hl
    simp only [Option.map_some, Option.some.injEq] at hl
    subst hl
    exact h.d40 k l' hq p (List.mem_of_mem_drop hp)
theorem prune_len (h : Int) (vs : Vers) : (pruneVs h vs).length = vs.length := by unfold pruneVs; simp
theorem prune_one {last : Int} {h : Int} : ∀ {vs : Vers}, (∀ x ∈ vs, x.2 ≠ [] ∧ ∀ p ∈ x.2, p.lba ≤ last) → last ≤ h → nVers (pruneVs h vs) = vs.length
  | [], _, _ => rfl
  | (n, l) :: vs, hv, hl => by
    have ih := prune_one (vs := vs) (fun x hx => hv x (by simp [hx])) hl
    obtain ⟨h1, h2⟩ := hv (n, l) (by simp)
    have hlen := List.length_pos_iff.2 h1
    simp only at hlen
    have hat : atN l h = l.length := atN_is (Nat.le_refl _) (fun j hj hj' => by omega) (.inr ⟨by omega, by
      have := h2 _ (List.getElem_mem (show l.length - 1 < l.length by omega)); omega⟩)
    unfold nVers pruneVs at *
    simp only [List.map_cons, List.sum_cons, List.length_cons]
    rw [ih]
    unfold pruneOne
    rw [List.length_drop, hat]
    omega
theorem extPrune_sep {W w : World} {L : List Asn} (h : Sep W L w) (i : Nat) {v : Value} {blocks last : Int} {vs : Vers} (hi : L[i]? = some (ExtA v blocks last vs)) (h1 : 1 ≤ blocks) (hnd : (vs.map (·.1)).Nodup) (hn : nVers vs ≤ 1000000) (t : Int) :
    Calls Try.prog 23 #[v, .int .i64 t] w fun e w' => e = .returned (.int .i64 ((nVers vs - nVers (pruneVs t vs) : Nat) : Int)) ∧ Hid (nVers (pruneVs t vs) ≤ nVers vs) ∧ Hid (Sep W (L.set i (ExtA v blocks last (pruneVs t vs))) w') := by
  obtain ⟨F, G, hF, hR, hFG, hdF, hdG, K⟩ := h.at i hi
  refine (extPrune_any F v blocks last vs t w hF h1 hnd hn).mono ?_
  rintro e w' ⟨rfl, hle, hc, hm⟩
  exact ⟨rfl, hle, K w' _ (ExtA v blocks last (pruneVs t vs)) hc (fun k hk => hk) hm⟩
def timesL (vs : Vers) (m : Int) (k : Nat) : List Value := (List.range k).map fun i : Nat => .int .i64 (getV vs i m).2
def rowsL (vs : Vers) (m : Int) (k : Nat) : List Bytes := (List.range k).map fun i : Nat => (getV vs i m).1
theorem timesL_succ (vs : Vers) (m : Int) (k : Nat) : timesL vs m (k + 1) = timesL vs m k ++ [.int .i64 (getV vs k m).2] := by unfold timesL; rw [List.range_succ]; simp
theorem rowsL_succ (vs : Vers) (m : Int) (k : Nat) : rowsL vs m (k + 1) = rowsL vs m k ++ [(getV vs k m).1] := by unfold rowsL; rw [List.range_succ]; simp
theorem timesL_get (vs : Vers) (m : Int) {k i : Nat} (h : i < k) : (timesL vs m k)[i]? = some (.int .i64 (getV vs i m).2) := by unfold timesL; simp [h]
theorem rowsL_len (vs : Vers) (m : Int) (k : Nat) : (rowsL vs m k).length = k := by unfold rowsL; simp
theorem rowsL_get? (vs : Vers) (m : Int) {k i : Nat} (h : i < k) : (rowsL vs m k)[i]? = some (getV vs i m).1 := by unfold rowsL; simp [h]
theorem rowsL_get (vs : Vers) (m : Int) {k i : Nat} (h : i < (rowsL vs m k).length) : (rowsL vs m k)[i] = (getV vs i m).1 := by
  have := rowsL_get? vs m (k := k) (i := i) (by rw [rowsL_len] at h; exact h)
  rw [List.getElem?_eq_getElem h] at this
  exact Option.some.inj this
end Go.Proofs
