/- IvalRoom: a set may have so many extents, and not one more; one that joins others makes room: for every input the law returns true. -/
import Derived.Test.YteodkepnalhceaaLaw11
namespace Go.Proofs
open Go.RowKit Sc

def evens (k : Nat) : List Ext := (List.range k).map fun j : Nat => ⟨2 * j, 1⟩
theorem evens_succ (k : Nat) : evens (k + 1) = evens k ++ [⟨2 * k, 1⟩] := by unfold evens; rw [List.range_succ]; simp
theorem evens_len (k : Nat) : (evens k).length = k := by simp [evens]
theorem evens_mem {k : Nat} {e : Ext} (h : e ∈ evens k) : ∃ j : Nat, j < k ∧ e = ⟨2 * j, 1⟩ := by
  unfold evens at h
  obtain ⟨j, hj, rfl⟩ := List.mem_map.1 h
  exact ⟨j, List.mem_range.1 hj, rfl⟩
theorem evens_good (k : Nat) (hk : k ≤ 100) : SetG (evens k) := by
  induction k with
  | zero => exact SetG.nil
  | succ k ih =>
    obtain ⟨h1, h2⟩ := ih (by omega)
    rw [evens_succ]
    refine ⟨canon_snoc.2 ⟨h1, by simp, fun y hy => ?_⟩, fun e he => ?_⟩
    · obtain ⟨j, hj, rfl⟩ := evens_mem hy
      simp only; omega
    · rcases List.mem_append.1 he with he | he
      · exact h2 e he
      · rw [List.mem_singleton] at he; subst he
        unfold Oke; simp only; omega
theorem evens_add (k : Nat) (hk : k ≤ 99) : normE (evens k ++ [⟨2 * k, 1⟩]) = evens (k + 1) := by
  have hg := evens_good (k + 1) (by omega)
  rw [← evens_succ]
  exact normE_ext hg.1.1 hg.1 fun _ => Iff.rfl
theorem evens_cov {k : Nat} {x : Int} : cov (evens k) x ↔ ∃ j : Nat, j < k ∧ x = 2 * j := by
  constructor
  · rintro ⟨e, he, h1, h2⟩
    obtain ⟨j, hj, rfl⟩ := evens_mem he
    exact ⟨j, hj, by simp only at h1 h2; omega⟩
  · rintro ⟨j, hj, rfl⟩
    exact ⟨⟨2 * j, 1⟩, List.mem_map.2 ⟨j, List.mem_range.2 hj, rfl⟩, by simp only; omega, by simp only; omega⟩
theorem evens_join (k : Nat) (hk : 1 ≤ k) : normE (evens k ++ [⟨0, 2 * k⟩]) = [⟨0, 2 * k⟩] := by
  refine normE_ext (fun e he => ?_) (Canon.mk1 (by simp only; omega)) fun x => ?_
  · rcases List.mem_append.1 he with he | he
    · obtain ⟨j, _, rfl⟩ := evens_mem he; simp
    · rw [List.mem_singleton] at he; subst he; simp only; omega
  · rw [cov_append, evens_cov, cov_cons]
    have := cov_nil x
    constructor
    · rintro (h | h)
      · exact .inr (.inl h)
      · exact absurd h this
    · rintro (⟨j, hj, rfl⟩ | h | h)
      · exact .inl ⟨by simp only; omega, by simp only; omega⟩
      · exact .inl h
      · exact absurd h this
theorem evens_cnt (k : Nat) : cntE (evens k) = k := by
  induction k with
  | zero => rfl
  | succ k ih => rw [evens_succ]; unfold cntE at *; rw [List.map_append, List.sum_append, ih]; simp
theorem may_one {a n : Int} (h : 0 ≤ a ∧ a ≤ 1000000 ∧ 1 ≤ n ∧ n ≤ 1000) : allB [⟨a, n⟩] = true := by
  unfold allB
  rw [List.all_eq_true]
  intro e he
  rw [List.mem_singleton] at he
  subst he
  exact mayB_iff.2 (by simp only; omega)
theorem room_step (M i : Nat) (hM : M ≤ 40) (hi : i ≤ 60) : addCode M (evens (min i M)) [⟨2 * i, 1⟩] = (if i < M then 0 else 7) ∧ addNext M (evens (min i M)) [⟨2 * i, 1⟩] = evens (min (i + 1) M) := by
  by_cases h : i < M
  · obtain ⟨h1, h2⟩ := addCode_is (most := M) (evens_good i (by omega)) (may_one (a := 2 * i) (n := 1) (by omega)) (by simp) (evens_add i (by omega))
    rw [evens_len, if_neg (by omega)] at h1 h2
    rw [Nat.min_eq_left (by omega), Nat.min_eq_left (by omega), if_pos h]
    exact ⟨h1, h2⟩
  · have hg : SetG (evens M ++ [⟨2 * i, 1⟩]) := by
      obtain ⟨h1, h2⟩ := evens_good M (by omega)
      refine ⟨canon_snoc.2 ⟨h1, by simp, fun y hy => ?_⟩, fun e he => ?_⟩
      · obtain ⟨j, hj, rfl⟩ := evens_mem hy
        simp only; omega
      · rcases List.mem_append.1 he with he | he
        · exact h2 e he
        · rw [List.mem_singleton] at he; subst he
          unfold Oke; simp only; omega
    have hn : normE (evens M ++ [⟨2 * i, 1⟩]) = evens M ++ [⟨2 * i, 1⟩] := normE_ext hg.1.1 hg.1 fun _ => Iff.rfl
    obtain ⟨h1, h2⟩ := addCode_is (most := M) (evens_good M (by omega)) (may_one (a := 2 * i) (n := 1) (by omega)) (by simp) hn
    rw [List.length_append, evens_len, if_pos (by simp only [List.length_cons, List.length_nil]; omega)] at h1 h2
    rw [Nat.min_eq_right (by omega), Nat.min_eq_right (by omega), if_neg h]
    exact ⟨h1, h2⟩

set_option maxRecDepth 100000 in
set_option maxHeartbeats 4000000 in
theorem room11_any (most n : Int) (w : World) : Calls Try.prog 3 #[.int .i64 most, .int .i64 n] w (Tru w) := by
  by_cases hok : 0 ≤ most ∧ most ≤ 40 ∧ 0 ≤ n ∧ n ≤ 60
  case neg =>
    rcases (show most < 0 ∨ (0 ≤ most ∧ 40 < most) ∨ (0 ≤ most ∧ most ≤ 40 ∧ n < 0) ∨ (0 ≤ most ∧ most ≤ 40 ∧ 0 ≤ n ∧ 60 < n) by omega) with h | ⟨h0, h⟩ | ⟨h0, h1, h⟩ | ⟨h0, h1, h2, h⟩
    all_goals
      clear hok
      go_enter Try.func3, Try.ntmps3
      go_wp2_with fail
      refine (awake11 _).mono ?_
      rintro e w2 ⟨rfl, hb2⟩
      have HB2 := Lib.hid hb2
      clear hb2
      go_wp2
      go_ret
      exact ⟨rfl, HB2.out⟩
  case pos =>
    obtain ⟨h0, h1, h2, h3⟩ := hok
    obtain ⟨M, rfl⟩ := Int.eq_ofNat_of_zero_le h0
    obtain ⟨N, rfl⟩ := Int.eq_ofNat_of_zero_le h2
    go_enter Try.func3, Try.ntmps3
    go_wp2_with fail
    refine (setNew_sep (Sep.start w) M).mono ?_
    rintro e w1 ⟨b, rfl, HS1⟩
    go_wp2_with fail
    go_loopw [6] (fun i wr => ∃ k : Nat, k ≤ N ∧ i = .int .i64 k ∧ Hid (Sep w [OldA w, SetA (.pointer (some ⟨b, 0, none⟩)) M (evens (min k M))] wr)) (fun i _ => N - (intOf i).toNat)
    case atStart => exact ⟨0, by omega, rfl, by rw [Nat.zero_min]; exact HS1⟩
    case round =>
      obtain ⟨k, hk, rfl, HS⟩ := hrel
      by_cases hlt : k < N
      case pos =>
        obtain ⟨hcd, hnx⟩ := room_step M k (by omega) (by omega)
        have hlen : (evens (min k M)).length ≤ 50000 := by rw [evens_len]; omega
        have hgood := evens_good (min k M) (by omega)
        have hw1 : IntKind.i64.wrap (2 * (k : Int)) = 2 * (k : Int) := IntWalk.i64_in _ (by omega)
        have hi64 : I64 (2 * (k : Int)) := i64_small (by omega)
        have HCD := Lib.hid hcd
        have HNX := Lib.hid hnx
        have HLEN := Lib.hid hlen
        have HGOOD := Lib.hid hgood
        have HI64 := Lib.hid hi64
        clear hcd hnx hlen hgood hi64
        by_cases hkm : k < M
        case pos =>
          have hcd := HCD.out
          rw [if_pos hkm] at hcd
          have hkI : (k : Int) < (M : Int) := by omega
          have HCD := Lib.hid hcd
          clear hcd
          go_wp2_with fail
          refine (setAdd_one HS 1 rfl (2 * k) 1 HI64.out (i64_small (by omega)) HGOOD.out HLEN.out).mono ?_
          rintro e w2 ⟨rfl, HS2⟩
          rw [HCD.out]
          rw [HNX.out] at HS2
          go_wp2_with fail
          go_roundw
          case rel => exact ⟨k + 1, by omega, by go_num, HS2⟩
          case measure => simp [intOf]; omega
        case neg =>
          have hcd := HCD.out
          rw [if_neg hkm] at hcd
          have hkI : (M : Int) ≤ (k : Int) := by omega
          have HCD := Lib.hid hcd
          clear hcd
          clear hkm
          go_wp2_with fail
          refine (setAdd_one HS 1 rfl (2 * k) 1 HI64.out (i64_small (by omega)) HGOOD.out HLEN.out).mono ?_
          rintro e w2 ⟨rfl, HS2⟩
          rw [HCD.out]
          rw [HNX.out] at HS2
          go_wp2_with fail
          go_roundw
          case rel => exact ⟨k + 1, by omega, by go_num, HS2⟩
          case measure => simp [intOf]; omega
      case neg =>
        obtain rfl : k = N := by omega
        have hmin : min (k : Int) (M : Int) = ((min k M : Nat) : Int) := by omega
        have hgood := evens_good (min k M) (by omega)
        have hq1 : min k M ≤ M := Nat.min_le_right _ _
        have hq2 : min k M ≤ 60 := by omega
        have hel := evens_len (min k M)
        have hec := evens_cnt (min k M)
        have HGOOD := Lib.hid hgood
        have HEL := Lib.hid hel
        have HEC := Lib.hid hec
        clear hgood hel hec
        go_wp2_with fail
        clear hmin
        generalize min k M = q at *
        refine (setExtents_sep HS 1 rfl (by rw [HEL.out]; omega)).mono ?_
        rintro e w3 ⟨p, c, rfl, HX, HB, HS3⟩
        rw [HEL.out]
        go_wp2_with fail
        refine (setCount_sep HS3 1 rfl HGOOD.out (by rw [HEL.out]; omega)).mono ?_
        rintro e w4 ⟨rfl, HB4, HS4⟩
        rw [HEC.out]
        by_cases hq0 : q = 0
        case pos =>
          subst hq0
          go_wp2_with fail
          refine (awake11 _).mono ?_
          rintro e w5 ⟨rfl, hb5⟩
          have hS5 := HS4.out.up hb5
          have HS5 := Lib.hid hS5
          clear hS5
          go_wp2
          go_ret
          exact ⟨rfl, HS5.out.old⟩
        case neg =>
          have hqI : ((q : Int) == 0) = false := by rw [beq_eq_false_iff_ne]; omega
          have hqn : ¬ q = 0 := hq0
          obtain ⟨hcd, hnx⟩ := addCode_is (most := M) HGOOD.out (may_one (a := 0) (n := 2 * q) (by omega)) (by simp) (evens_join q (by omega))
          rw [if_neg (by simp; omega)] at hcd hnx
          have hw1 : IntKind.i64.wrap (2 * (q : Int)) = 2 * (q : Int) := IntWalk.i64_in _ (by omega)
          have hi64 : I64 (2 * (q : Int)) := i64_small (by omega)
          have hg1 : SetG [⟨0, 2 * q⟩] := ⟨Canon.mk1 (by simp only; omega), fun e he => by rw [List.mem_singleton] at he; subst he; unfold Oke; simp only; omega⟩
          have HCD := Lib.hid hcd
          have HNX := Lib.hid hnx
          have HI64 := Lib.hid hi64
          have HG1 := Lib.hid hg1
          clear hcd hnx hi64 hg1
          clear hq0
          go_wp2_with fail
          refine (setAdd_one HS4 1 rfl 0 (2 * q) (i64_small (by omega)) HI64.out HGOOD.out (by rw [HEL.out]; omega)).mono ?_
          rintro e w5 ⟨rfl, HS5⟩
          rw [HCD.out]
          rw [HNX.out] at HS5
          go_wp2_with fail
          refine (setExtents_sep HS5 1 rfl (by simp)).mono ?_
          rintro e w6 ⟨p6, c6, rfl, HX6, HB6, HS6⟩
          go_wp2_with fail
          refine (setCount_sep HS6 1 rfl HG1.out (by simp)).mono ?_
          rintro e w7 ⟨rfl, HB7, HS7⟩
          rw [show cntE [⟨0, 2 * q⟩] = 2 * q by simp [cntE]]
          go_wp2_with fail
          refine (awake11 _).mono ?_
          rintro e w8 ⟨rfl, hb8⟩
          have hS8 := HS7.out.up hb8
          have HS8 := Lib.hid hS8
          clear hS8
          go_wp2
          go_ret
          exact ⟨rfl, HS8.out.old⟩
end Go.Proofs
