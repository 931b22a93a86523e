/- Package horizon: nil; the law's awake; HorizonNothing. -/
import Derived.Test.YtnegbfeokcjclaaHorizon3
namespace Go.Proofs
open Go.RowKit Sc

theorem roomNil_any (w : World) : Calls Try.prog 56 #[.pointer none] w fun e w' => e = .returned (.int .i64 0) ∧ w = w' := by
  go_enter Try.func56, Try.ntmps56
  go_wp2
  go_ret
  exact ⟨rfl, rfl⟩
theorem listNil_any (w : World) : Calls Try.prog 41 #[.pointer none] w fun e w' => e = .returned (.slice none 0 0) ∧ w = w' := by
  go_enter Try.func41, Try.ntmps41
  go_wp2
  go_ret
  exact ⟨rfl, rfl⟩
theorem countNil_any (w : World) : Calls Try.prog 39 #[.pointer none] w fun e w' => e = .returned (.int .i64 0) ∧ w = w' := by
  go_enter Try.func39, Try.ntmps39
  go_wp2_with fail
  refine (listNil_any _).mono ?_
  rintro e w1 ⟨rfl, rfl⟩
  go_wp2_with fail
  go_ret
  exact ⟨rfl, rfl⟩
theorem lowNil_any (now : Int) (w : World) : Calls Try.prog 37 #[.pointer none, .int .i64 now] w fun e w' => e = .returned (.int .i64 now) ∧ w = w' := by
  go_enter Try.func37, Try.ntmps37
  go_wp2
  go_ret
  exact ⟨rfl, rfl⟩
theorem atNil_any (h : Int) (w : World) : Calls Try.prog 35 #[.pointer none, .int .i64 h] w fun e w' => e = .returned (.tuple #[.int .i64 0, .int .i64 14]) ∧ w = w' := by
  go_enter Try.func35, Try.ntmps35
  go_wp2
  go_ret2
  exact ⟨rfl, rfl⟩
theorem closeNil_any (h : Int) (w : World) : Calls Try.prog 33 #[.pointer none, .int .i64 h] w fun e w' => e = .returned (.int .i64 14) ∧ w = w' := by
  go_enter Try.func33, Try.ntmps33
  go_wp2_with fail
  refine (atNil_any _ _).mono ?_
  rintro e w1 ⟨rfl, rfl⟩
  go_wp2_with fail
  go_ret
  exact ⟨rfl, rfl⟩
theorem openNil_any (t : Int) (w : World) : Calls Try.prog 31 #[.pointer none, .int .i64 t] w fun e w' => e = .returned (.tuple #[.int .i64 0, .int .i64 (if t < 0 ∨ 1099511627776 < t then 1 else 6)]) ∧ w = w' := by
  by_cases hrange : t < 0 ∨ 1099511627776 < t
  · rw [if_pos hrange]
    rcases hrange with h | h
    all_goals
      go_enter Try.func31, Try.ntmps31
      go_wp2
      go_ret2
      exact ⟨rfl, rfl⟩
  · rw [if_neg hrange]
    obtain ⟨g1, g2⟩ := not_or.1 hrange
    have hg1 : 0 ≤ t := by omega
    have hg2 : t ≤ 1099511627776 := by omega
    clear hrange g1 g2
    go_enter Try.func31, Try.ntmps31
    go_wp2_with fail
    refine (countNil_any _).mono ?_
    rintro e w1 ⟨rfl, rfl⟩
    go_wp2_with fail
    refine (roomNil_any _).mono ?_
    rintro e w2 ⟨rfl, rfl⟩
    go_wp2_with fail
    go_ret2
    exact ⟨rfl, rfl⟩

theorem keyed_nil : Keyed 0 [] := ⟨by decide, by decide, by simp, by simp⟩
theorem Keyed.snoc {last t : Int} {tm : List (Int × Int)} (h : Keyed last tm) (hl : last < 1000000) (hn : tm.length < 1000000) : Keyed (last + 1) (tm ++ [(last + 1, t)]) := by
  obtain ⟨h1, h2, h3, h4⟩ := h
  refine ⟨by omega, by omega, fun x hx => ?_, by simp; omega⟩
  rcases List.mem_append.1 hx with hx | hx
  · have := h3 x hx; omega
  · obtain rfl := List.mem_singleton.1 hx
    show 1 ≤ last + 1 ∧ last + 1 ≤ last + 1
    omega

set_option maxHeartbeats 1000000 in
theorem awake13 (w : World) : Calls Try.prog 29 #[] w fun e w' => e = .returned (.bool true) ∧ Below w.heap.size w w' := by
  go_enter Try.func29, Try.ntmps29
  go_wp2_with fail
  refine (bookNew_any 5 _).mono ?_
  rintro e w1 ⟨v, rfl, hv, hb1⟩
  go_wp2_with fail
  refine (bookOpen_any _ v 5 0 [] 5 _ hv keyed_nil).mono ?_
  rintro e w2 (⟨hno, _⟩ | ⟨_, rfl, hv2, hc2⟩)
  · exact absurd rfl hno
  go_wp2_with fail
  refine (bookOpen_any _ v 5 1 [(1, 5)] 3 _ hv2 (keyed_nil.snoc (by decide) (by decide))).mono ?_
  rintro e w3 (⟨hno, _⟩ | ⟨_, rfl, hv3, hc3⟩)
  · exact absurd rfl hno
  go_wp2_with fail
  refine (bookLow_any _ v 5 2 [(1, 5), (2, 3)] 9 _ hv3).mono ?_
  rintro e w4 ⟨rfl, hb4⟩
  have hlow : lowOf 9 ([((1 : Int), (5 : Int)), (2, 3)].map (·.2)) = 3 := by decide
  rw [hlow]
  have hz1 := hb1.size
  have hz2 := hc2.size
  have h2 : Below w.heap.size w1 w2 := hc2.below hz1 (fun k hk h => by have := h.1; omega)
  have h3 : Below w.heap.size w2 w3 := hc3.below (by omega) (fun k hk h => by have := h.1; omega)
  have hall := Below.up ((hb1.trans h2).trans h3) hb4
  have HALL := Lib.hid hall
  clear hall h2 h3 hb4 hb1 hc2 hc3 hv hv2 hv3 hlow
  go_wp2_with fail
  go_ret
  exact ⟨rfl, HALL.out⟩

set_option maxHeartbeats 1000000 in
theorem horizonNothing_any (at' now : Int) (w : World) : Calls Try.prog 10 #[.int .i64 at', .int .i64 now] w fun e w' => e = .returned (.bool true) ∧ Below w.heap.size w w' := by
  by_cases hrange : at' < 0 ∨ 1099511627776 < at'
  · have HO := Lib.hid (openNil_any at' w)
    rw [if_pos hrange] at HO
    rcases hrange with h | h
    all_goals
      go_enter Try.func10, Try.ntmps10
      go_wp2_with fail
      refine (HO.out).mono ?_
      rintro e w1 ⟨rfl, rfl⟩
      go_wp2_with fail
      refine (atNil_any _ _).mono ?_
      rintro e w1 ⟨rfl, rfl⟩
      go_wp2_with fail
      refine (closeNil_any _ _).mono ?_
      rintro e w1 ⟨rfl, rfl⟩
      go_wp2_with fail
      refine (lowNil_any _ _).mono ?_
      rintro e w1 ⟨rfl, rfl⟩
      go_wp2_with fail
      refine (countNil_any _).mono ?_
      rintro e w1 ⟨rfl, rfl⟩
      go_wp2_with fail
      refine (listNil_any _).mono ?_
      rintro e w1 ⟨rfl, rfl⟩
      go_wp2_with fail
      refine (awake13 _).mono ?_
      rintro e w1 ⟨rfl, hb⟩
      go_wp2_with fail
      go_ret
      exact ⟨rfl, hb⟩
  · have HO := Lib.hid (openNil_any at' w)
    rw [if_neg hrange] at HO
    obtain ⟨g1, g2⟩ := not_or.1 hrange
    have hg1 : 0 ≤ at' := by omega
    have hg2 : at' ≤ 1099511627776 := by omega
    clear hrange g1 g2
    go_enter Try.func10, Try.ntmps10
    go_wp2_with fail
    refine (HO.out).mono ?_
    rintro e w1 ⟨rfl, rfl⟩
    go_wp2_with fail
    refine (atNil_any _ _).mono ?_
    rintro e w1 ⟨rfl, rfl⟩
    go_wp2_with fail
    refine (closeNil_any _ _).mono ?_
    rintro e w1 ⟨rfl, rfl⟩
    go_wp2_with fail
    refine (lowNil_any _ _).mono ?_
    rintro e w1 ⟨rfl, rfl⟩
    go_wp2_with fail
    refine (countNil_any _).mono ?_
    rintro e w1 ⟨rfl, rfl⟩
    go_wp2_with fail
    refine (listNil_any _).mono ?_
    rintro e w1 ⟨rfl, rfl⟩
    go_wp2_with fail
    refine (awake13 _).mono ?_
    rintro e w1 ⟨rfl, hb⟩
    go_wp2_with fail
    go_ret
    exact ⟨rfl, hb⟩
end Go.Proofs
