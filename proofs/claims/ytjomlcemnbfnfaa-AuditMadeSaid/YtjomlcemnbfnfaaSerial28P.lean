/- AuditSerial: plain: what Check lets pass is as if one had been run behind the other. -/
import Derived.Test.YtjomlcemnbfnfaaAu6
namespace Go.Proofs
open Sc Go.Sort

theorem checkRes_zero {n : Int} {l : List Hist} (h : (checkRes n l).2 = 0) : (∀ x ∈ l, mayB n x = true) ∧ ∀ m (hm : m < l.length), oneCode l m l[m] = 0 := by
  by_cases h1 : n < 1 ∨ 1048576 < n
  · rw [checkRes_bad h1] at h; cases h
  by_cases h2 : 0 ≤ idxOf (fun h => !mayB n h) l
  · rw [checkRes_arg h1 h2] at h; cases h
  refine ⟨all_may h2, ?_⟩
  have key : ∀ k, k ≤ l.length → ∀ m (hm : m < l.length), m < k → oneCode l m l[m] = 0 := by
    intro k
    induction k with
    | zero => intro _ m _ hm; omega
    | succ k ih =>
      intro hk m hm hmk
      by_cases hlt : m < k
      · exact ih (by omega) m hm hlt
      · obtain rfl : m = k := by omega
        refine Classical.byContradiction fun hc => ?_
        have := checkRes_hit h1 h2 hm hc fun q hq hqm => ih (by omega) q hq hqm
        rw [this] at h
        exact hc h
  exact fun m hm => key l.length (Nat.le_refl _) m hm hm
/-- What a history that fits says. -/
theorem one_zero {l : List Hist} {i : Nat} {h : Hist} (hc : oneCode l i h = 0) : (wroteH h = true → ∀ k ∈ ordI l, k < i → timeAt l k ≠ h.time) ∧ sawB l h = true ∧ (wroteH h = true → ∀ k ∈ ordI l, hitC l h k = false) ∧ ∀ k ∈ ordI l, hitT l h k = false := by
  unfold oneCode at hc
  split at hc
  · cases hc
  rename_i h1
  split at hc
  · cases hc
  rename_i h2
  split at hc
  · cases hc
  rename_i h3
  split at hc
  · cases hc
  rename_i h4
  refine ⟨fun hw k hk hki ht => ?_, by simpa using h2, fun hw k hk => ?_, fun k hk => ?_⟩
  · refine h1 ?_
    rw [hw, Bool.true_and, List.any_eq_true]
    exact ⟨(k : Int), List.mem_map.2 ⟨k, hk, rfl⟩, by unfold sameB; rw [Int.toNat_natCast, ht, decide_eq_true (show (k : Int) < (i : Int) by omega)]; simp⟩
  · rw [hw, Bool.true_and] at h3
    have := List.any_eq_false.1 (by simpa using h3) k hk
    simpa using this
  · have := List.any_eq_false.1 (by simpa using h4) k hk
    simpa using this
section
variable {n : Nat} {l : List Hist}
/-- The times rise. -/
theorem ord_rises (hz : ∀ m (hm : m < l.length), oneCode l m l[m] = 0) : (ordI l).Pairwise (fun i j => timeAt l i < timeAt l j) := by
  have hnd := ordI_nodup l
  refine (List.Pairwise.and_mem.1 ((ordI_pairwise l).and hnd)).imp ?_
  rintro i j ⟨hi, hj, h, hne⟩
  obtain ⟨h1, hw1⟩ := mem_ordI.1 hi
  obtain ⟨h2, hw2⟩ := mem_ordI.1 hj
  unfold ordLe at h
  rw [decide_eq_true_eq] at h
  rcases h with h | ⟨h, hij⟩
  · exact h
  · exact absurd (h.trans (timeAt_lt h2)) ((one_zero (hz j h2)).1 hw2 i hi (by omega))
theorem runAll_nodup : ∀ (ps : List (List Put)) {s : List (Int × Bytes)}, (s.map (·.1)).Nodup → ((runAll s ps).map (·.1)).Nodup
  | [], _, h => h
  | p :: ps, _, h => runAll_nodup ps (runPuts_nodup h p)
def putsAtI (l : List Hist) (k : Nat) : List Put := (l.getD k hist0).puts
theorem run_ahead {h : Hist} {lba : Int} {o : List Nat} (hp : o.Pairwise (fun i j => timeAt l i < timeAt l j)) (hn : ∀ k ∈ o, aheadP l h k = false → ∀ p ∈ putsAtI l k, p.lba ≠ lba) :
    ∀ m, m ≤ o.length → alook (runAll [] ((o.take m).map (putsAtI l))) lba = alook (runAll [] (((o.take m).filter (aheadP l h)).map (putsAtI l))) lba := by
  intro m
  induction m with
  | zero => intro _; simp
  | succ m ih =>
    intro hm
    have hml : m < o.length := by omega
    rw [take_snoc o m hml, List.filter_append]
    by_cases ha : aheadP l h o[m] = true
    · have hall : (o.take m).filter (aheadP l h) = o.take m := by
        rw [List.filter_eq_self]
        intro k hk
        obtain ⟨q, hq, rfl⟩ := List.mem_iff_getElem.1 hk
        rw [List.length_take] at hq
        rw [List.getElem_take]
        have := (List.pairwise_iff_getElem.1 hp) q m (by omega) hml (by omega)
        unfold aheadP at ha ⊢
        rw [decide_eq_true_eq] at ha ⊢
        omega
      rw [hall, List.filter_cons_of_pos ha]; rfl
    · rw [List.filter_cons_of_neg ha]
      simp only [List.filter_nil, List.append_nil]
      rw [List.map_append, List.map_singleton, runAll_snoc, runPuts_other (runAll_nodup _ (s := []) (by simp)) _ _ (hn _ (List.getElem_mem hml) (by simpa using ha)), ih (by omega)]
theorem ordH_self {xs : List Hist} (hw : ∀ x ∈ xs, wroteH x = true) (hs : xs.Pairwise (fun a b => a.time < b.time)) : ordH xs = xs := by
  have h1 : ordIdx xs = List.range xs.length := by
    unfold ordIdx
    rw [List.filter_eq_self]
    intro k hk
    have hk' := List.mem_range.1 hk
    unfold wroteAt
    rw [List.getElem?_eq_getElem hk']
    exact hw _ (List.getElem_mem hk')
  have h2 : ordI xs = List.range xs.length := by
    refine (ordI_unique (by rw [h1]) ?_).symm
    rw [List.pairwise_iff_getElem]
    intro i j hi hj hij
    rw [List.length_range] at hi hj
    rw [List.getElem_range, List.getElem_range]
    unfold ordLe
    rw [decide_eq_true_eq, timeAt_lt hi, timeAt_lt hj]
    exact .inl ((List.pairwise_iff_getElem.1 hs) i j hi hj hij)
  unfold ordH
  rw [h2]
  apply List.ext_getElem
  · simp
  · intro i h3 h4
    simp [List.getD_eq_getElem?_getD, List.getElem?_eq_getElem h4]
theorem ordP_take (m : Nat) : (ordP l).take m = ((ordI l).take m).map (putsAtI l) := by
  unfold ordP ordH putsAtI
  rw [List.map_map, List.map_take]; rfl
theorem ordP_ahead (hz : ∀ m (hm : m < l.length), oneCode l m l[m] = 0) (h : Hist) : ordP (aheadH l h (ordI l)) = ((ordI l).filter (aheadP l h)).map (putsAtI l) := by
  unfold ordP
  rw [ordH_self]
  · unfold aheadH
    rw [List.map_map]; rfl
  · intro x hx
    unfold aheadH at hx
    obtain ⟨k, hk, rfl⟩ := List.mem_map.1 hx
    obtain ⟨hkl, hkw⟩ := mem_ordI.1 (List.mem_filter.1 hk).1
    rw [List.getD_eq_getElem?_getD, List.getElem?_eq_getElem hkl]
    exact hkw
  · unfold aheadH
    rw [List.pairwise_map]
    refine (List.Pairwise.and_mem.1 ((ord_rises hz).filter _)).imp ?_
    rintro i j ⟨hi, hj, hij⟩
    obtain ⟨hi', _⟩ := mem_ordI.1 (List.mem_filter.1 hi).1
    obtain ⟨hj', _⟩ := mem_ordI.1 (List.mem_filter.1 hj).1
    rw [timeAt_lt hi', timeAt_lt hj'] at hij
    simpa [List.getD_eq_getElem?_getD, List.getElem?_eq_getElem hi', List.getElem?_eq_getElem hj'] using hij
/-- What one that wrote read is what those ahead of it in the order left. -/
theorem serial_read (h0 : (checkRes n l).2 = 0) {i : Nat} (hi : i < (ordI l).length) (hx : (ordI l)[i] < l.length) {r : Sc.Read} (hr : r ∈ l[(ordI l)[i]].reads) (ho : r.own = false) :
    0 ≤ r.lba ∧ r.lba < n ∧ (alook (runAll [] ((ordP l).take i)) r.lba).getD zeroB = r.data := by
  obtain ⟨hmay, hz⟩ := checkRes_zero h0
  obtain ⟨m1, m2, m3, m4⟩ := mayB_iff.1 (hmay _ (List.getElem_mem hx))
  have hrb := List.all_eq_true.1 m2 r hr
  unfold blkA at hrb
  simp only [Bool.and_eq_true, decide_eq_true_eq] at hrb
  refine ⟨hrb.1, hrb.2.1, ?_⟩
  obtain ⟨_, hw⟩ := mem_ordI.1 (List.getElem_mem hi)
  obtain ⟨z1, z2, z3, z4⟩ := one_zero (hz _ hx)
  have hrise := ord_rises hz
  unfold sawB at z2
  have hs := List.all_eq_true.1 z2 r hr
  unfold sawAt at hs
  rw [ho, Bool.false_or, beq_iff_eq, ordP_ahead hz] at hs
  have hbt : l[(ordI l)[i]].begun < l[(ordI l)[i]].time := by
    unfold mayHead at m1
    rw [hw] at m1
    simp only [Bool.and_eq_true, Bool.not_true, Bool.false_or, decide_eq_true_eq] at m1
    exact m1.2.1
  have hfil : ∀ p : Nat → Bool, (∀ k ∈ (ordI l).drop i, ¬ p k = true) → (ordI l).filter p = ((ordI l).take i).filter p := fun p hp => by
    have e := congrArg (List.filter p) (List.take_append_drop i (ordI l)).symm
    rw [List.filter_append, List.filter_eq_nil_iff.2 hp, List.append_nil] at e
    exact e
  have hsplit : (ordI l).filter (aheadP l l[(ordI l)[i]]) = ((ordI l).take i).filter (aheadP l l[(ordI l)[i]]) := by
    refine hfil _ fun k hk hka => ?_
    obtain ⟨q, hq, rfl⟩ := List.mem_iff_getElem.1 hk
    rw [List.length_drop] at hq
    rw [List.getElem_drop] at hka
    unfold aheadP at hka
    rw [decide_eq_true_eq] at hka
    have : timeAt l (ordI l)[i] ≤ timeAt l (ordI l)[i + q] := by
      by_cases hq0 : q = 0
      · subst hq0; simp
      · exact Int.le_of_lt ((List.pairwise_iff_getElem.1 hrise) i (i + q) hi (by omega) (by omega))
    rw [timeAt_lt hx] at this
    omega
  rw [hsplit] at hs
  have hr2 := run_ahead (l := l) (h := l[(ordI l)[i]]) (lba := r.lba) (o := (ordI l).take i) (hrise.sublist (List.take_sublist _ _)) (fun k hk hka p hp e => by
    obtain ⟨q, hq, rfl⟩ := List.mem_iff_getElem.1 hk
    rw [List.length_take] at hq
    rw [List.getElem_take] at hka hp
    have hkm := List.getElem_mem (show q < (ordI l).length by omega)
    obtain ⟨hkl, _⟩ := mem_ordI.1 hkm
    have hlt := (List.pairwise_iff_getElem.1 hrise) q i (by omega) hi (by omega)
    rw [timeAt_lt hx] at hlt
    unfold aheadP at hka
    rw [decide_eq_false_iff_not] at hka
    have hc := z3 hw _ hkm
    rw [hitC_yes (by omega) hlt hkl] at hc
    unfold putsAtI at hp
    rw [List.getD_eq_getElem?_getD, List.getElem?_eq_getElem hkl] at hp
    have hp' : p ∈ l[(ordI l)[q]].puts := hp
    unfold clashB at hc
    have := List.any_eq_false.1 hc p hp'
    refine this ?_
    unfold clashAt
    rw [Bool.or_eq_true]
    refine .inl (List.any_eq_true.2 ⟨r, hr, ?_⟩)
    unfold readHit
    rw [ho, e]
    simp) i (by rw [List.length_take]; omega)
  rw [List.take_take, Nat.min_self] at hr2
  rw [ordP_take, hr2]
  exact hs
/-- Its Puts may be. -/
theorem serial_run (h0 : (checkRes n l).2 = 0) {x : Nat} (hx : x < l.length) : runCode n l[x].puts = 0 := may_run ((checkRes_zero h0).1 _ (List.getElem_mem hx))
/-- Those ahead have lesser times, and it did not end ahead of their begin with a greater one. -/
theorem serial_time (h0 : (checkRes n l).2 = 0) {i k : Nat} (hi : i < (ordI l).length) (hki : k < i) (hx : (ordI l)[i] < l.length) (hy : (ordI l)[k] < l.length) :
    l[(ordI l)[k]].time < l[(ordI l)[i]].time ∧ ¬ (0 < l[(ordI l)[i]].upto ∧ l[(ordI l)[i]].upto < l[(ordI l)[k]].since ∧ l[(ordI l)[k]].begun < l[(ordI l)[i]].time) := by
  obtain ⟨hmay, hz⟩ := checkRes_zero h0
  have h1 := (List.pairwise_iff_getElem.1 (ord_rises hz)) k i (by omega) hi hki
  rw [timeAt_lt hx, timeAt_lt hy] at h1
  refine ⟨h1, fun ⟨a, b, c⟩ => ?_⟩
  have := (one_zero (hz _ hy)).2.2.2 _ (List.getElem_mem hi)
  unfold hitT at this
  rw [timeAt_lt hx, List.getD_eq_getElem?_getD, List.getElem?_eq_getElem hx] at this
  simp only [Option.getD_some] at this
  rw [decide_eq_true a, decide_eq_true b, decide_eq_true c] at this
  cases this
end
end Go.Proofs
