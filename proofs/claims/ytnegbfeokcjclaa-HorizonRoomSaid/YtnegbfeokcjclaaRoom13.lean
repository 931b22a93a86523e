/- HorizonRoom: so many may be there, and not one more; one that goes makes room for one: for every input the law returns true. -/
import Derived.Test.YtnegbfeokcjclaaBookSep
import Derived.Test.YtnegbfeokcjclaaAlike
namespace Go.Proofs
open Go.RowKit Sc

/-- How many are there behind n opens. -/
def cnt (most : Int) (n : Nat) : Nat := min n most.toNat
theorem cnt_step {most : Int} {k : Nat} (hk : k ≤ 1000000) (h1 : (k : Int) < most) : cnt most k = k ∧ cnt most (k + 1) = k + 1 := by unfold cnt; omega
theorem cnt_stay {most : Int} {k : Nat} (h1 : most ≤ k) : cnt most (k + 1) = cnt most k ∧ most ≤ cnt most k := by unfold cnt; omega

set_option maxRecDepth 100000 in
set_option maxHeartbeats 2000000 in
theorem room13_any (most n close : Int) (w : World) : Calls Try.prog 12 #[.int .i64 most, .int .i64 n, .int .i64 close] w (Tru w) := by
  by_cases hg : most < -5 ∨ 60 < most ∨ n < 0 ∨ 80 < n
  · have key : Calls Try.prog 12 #[.int .i64 most, .int .i64 n, .int .i64 close] w (Tru w) := by
      by_cases h1 : most < -5
      · go_enter Try.func12, Try.ntmps12
        go_wp2_with fail
        refine (awake13 _).mono ?_
        rintro e w1 ⟨rfl, hb1⟩
        go_wp2
        go_ret
        exact ⟨rfl, hb1⟩
      · have h1' : -5 ≤ most := by omega
        by_cases h2 : 60 < most
        · go_enter Try.func12, Try.ntmps12
          go_wp2_with fail
          refine (awake13 _).mono ?_
          rintro e w1 ⟨rfl, hb1⟩
          go_wp2
          go_ret
          exact ⟨rfl, hb1⟩
        · have h2' : most ≤ 60 := by omega
          by_cases h3 : n < 0
          · go_enter Try.func12, Try.ntmps12
            go_wp2_with fail
            refine (awake13 _).mono ?_
            rintro e w1 ⟨rfl, hb1⟩
            go_wp2
            go_ret
            exact ⟨rfl, hb1⟩
          · have h3' : 0 ≤ n := by omega
            have h4' : 80 < n := by omega
            go_enter Try.func12, Try.ntmps12
            go_wp2_with fail
            refine (awake13 _).mono ?_
            rintro e w1 ⟨rfl, hb1⟩
            go_wp2
            go_ret
            exact ⟨rfl, hb1⟩
    exact key
  obtain ⟨m, rfl⟩ := Int.eq_ofNat_of_zero_le (show 0 ≤ n by omega)
  have g1 : -5 ≤ most := by omega
  have g2 : most ≤ 60 := by omega
  have g3 : (m : Int) ≤ 80 := by omega
  clear hg
  go_enter Try.func12, Try.ntmps12
  go_wp2_with fail
  refine (bookNew_sep (Sep.start w) most).mono ?_
  rintro e w1 ⟨b, rfl, hS1⟩
  have HS1 := Lib.hid hS1
  clear hS1
  go_wp2_with fail
  go_loopw [8] (fun i wr => ∃ k : Nat, k ≤ m ∧ i = .int .i64 k ∧ Hid (Sep w [OldA w, BookA (.pointer (some ⟨b, 0, none⟩)) most (cnt most k) (tmR (cnt most k))] wr)) (fun i _ => m - (intOf i).toNat)
  case atStart => exact ⟨0, by omega, rfl, by have := HS1.out; unfold Hid cnt; simpa [tmR] using this⟩
  case round =>
    obtain ⟨k, hk, rfl, HS⟩ := hrel
    by_cases hlt : k < m
    · have hkl : (tmR (cnt most k)).length = cnt most k := tmR_length _
      by_cases hm : (k : Int) < most
      · have hc := cnt_step (by omega) hm
        have hok : OpenOk most (tmR (cnt most k)) (k : Int) = 0 := by
          unfold OpenOk
          rw [if_neg (by omega), if_neg (by rw [hkl, hc.1]; omega)]
        have hl : openLast most (cnt most k) (tmR (cnt most k)) (k : Int) = (cnt most (k + 1) : Nat) := by
          unfold openLast; rw [if_pos hok, hc.1, hc.2]; omega
        have ht : openTm most (cnt most k) (tmR (cnt most k)) (k : Int) = tmR (cnt most (k + 1)) := by
          unfold openTm; rw [if_pos hok, hc.1, hc.2, tmR_succ]
        have hkey : Keyed (cnt most k) (tmR (cnt most k)) := tmR_keyed _ (by unfold cnt; omega)
        have hpos : (if OpenOk most (tmR (cnt most k)) (k : Int) = 0 then ((cnt most k : Nat) : Int) + 1 else 0) = (k : Int) + 1 := by rw [if_pos hok, hc.1]
        have HL := Lib.hid hl
        have HT := Lib.hid ht
        have HKEY := Lib.hid hkey
        have HOK := Lib.hid hok
        have HPOS := Lib.hid hpos
        have HKL := Lib.hid hkl
        have HC := Lib.hid hc
        clear hl ht hkey hok hpos hkl hc
        go_wp2_with fail
        refine (bookOpen_sep HS.out 1 rfl HKEY.out (k : Int)).mono ?_
        rintro e w2 ⟨rfl, hS2⟩
        rw [HPOS.out, HOK.out]
        rw [HL.out, HT.out] at hS2
        have HS2 := Lib.hid hS2
        clear hS2
        go_wp2_with fail
        go_roundw
        case rel => exact ⟨k + 1, by omega, by go_num, HS2.out⟩
        case measure => simp [intOf]; omega
      · have hm' : most ≤ k := by omega
        have hc := cnt_stay hm'
        have hok : OpenOk most (tmR (cnt most k)) (k : Int) = 6 := by
          unfold OpenOk
          rw [if_neg (by omega), if_pos (by rw [hkl]; omega)]
        have hl : openLast most (cnt most k) (tmR (cnt most k)) (k : Int) = (cnt most (k + 1) : Nat) := by
          unfold openLast; rw [if_neg (by rw [hok]; decide), hc.1]
        have ht : openTm most (cnt most k) (tmR (cnt most k)) (k : Int) = tmR (cnt most (k + 1)) := by
          unfold openTm; rw [if_neg (by rw [hok]; decide), hc.1]
        have hkey : Keyed (cnt most k) (tmR (cnt most k)) := tmR_keyed _ (by unfold cnt; omega)
        have hpos : (if OpenOk most (tmR (cnt most k)) (k : Int) = 0 then ((cnt most k : Nat) : Int) + 1 else 0) = 0 := by rw [if_neg (by rw [hok]; decide)]
        have HL := Lib.hid hl
        have HT := Lib.hid ht
        have HKEY := Lib.hid hkey
        have HOK := Lib.hid hok
        have HPOS := Lib.hid hpos
        have HKL := Lib.hid hkl
        have HC := Lib.hid hc
        clear hl ht hkey hok hpos hkl hc
        clear hm
        go_wp2_with fail
        refine (bookOpen_sep HS.out 1 rfl HKEY.out (k : Int)).mono ?_
        rintro e w2 ⟨rfl, hS2⟩
        rw [HPOS.out, HOK.out]
        rw [HL.out, HT.out] at hS2
        have HS2 := Lib.hid hS2
        clear hS2
        go_wp2_with fail
        go_roundw
        case rel => exact ⟨k + 1, by omega, by go_num, HS2.out⟩
        case measure => simp [intOf]; omega
    · have hkm : k = m := by omega
      subst hkm
      have hmin : min (k : Int) (max most 0) = (cnt most k : Nat) := by unfold cnt; omega
      have hcb : cnt most k ≤ 60 := by unfold cnt; omega
      have hcm : (cnt most k : Int) ≤ max most 0 := by unfold cnt; omega
      generalize hcc : cnt most k = c at *
      have HCC := Lib.hid hcc
      clear hcc
      obtain ⟨F, hF, _⟩ := HS.out.get 1 rfl
      go_wp2_with fail
      refine (bookCount_any F _ _ _ _ _ hF (by rw [tmR_length]; omega)).mono ?_
      rintro e w2 ⟨rfl, hb2⟩
      rw [tmR_length]
      have hS2 := HS.out.up hb2
      have HB2 := Lib.hid hb2
      have HS2 := Lib.hid hS2
      clear hb2 hS2
      clear hF
      have hlow : 0 < c → lowOf 1000 ((tmR c).map (·.2)) = 0 := low_tmR c
      have hkey : Keyed c (tmR c) := tmR_keyed _ (by omega)
      have hlk := tmR_look c close
      have hdl := adel_length (m := tmR c) (n := close)
      rw [hlk, tmR_length] at hdl
      have hkd : Keyed c (adel (tmR c) close) := hkey.del close
      have htail : ∀ (q : Bool) (w3 : World), (decide (1 ≤ close) && decide (close ≤ (c : Int))) = q → Sep w [OldA w, BookA (.pointer (some ⟨b, 0, none⟩)) most (c : Int) (adel (tmR c) close)] w3 →
          Calls Try.prog 31 #[.pointer (some ⟨b, 0, none⟩), .int .i64 5] w3 fun e w4 => ∃ h x : Int, e = .returned (.tuple #[.int .i64 h, .int .i64 x]) ∧ (x == 0) = decide (((c : Int) - if q then 1 else 0) < most) ∧ Sep w [OldA w] w4 := by
        intro q w3 hq hS
        refine (bookOpen_sep hS 1 rfl hkd 5).mono ?_
        rintro e w4 ⟨rfl, hS4⟩
        refine ⟨_, _, rfl, ?_, hS4.take 1⟩
        rw [hq] at hdl
        unfold OpenOk
        rw [if_neg (by omega), hdl]
        cases q with
        | true =>
          have : 0 < c := by
            simp only [Bool.and_eq_true, decide_eq_true_eq] at hq; omega
          simp only [if_true]
          by_cases hm : most ≤ ((c - 1 : Nat) : Int)
          · rw [if_pos hm, decide_eq_false (by omega)]; rfl
          · rw [if_neg hm, decide_eq_true (by omega)]; rfl
        | false =>
          simp only [Bool.false_eq_true, if_false]
          by_cases hm : most ≤ (c : Int)
          · rw [if_pos hm, decide_eq_false (by omega)]; rfl
          · rw [if_neg hm, decide_eq_true (by omega)]; rfl
      have HLOW := Lib.hid hlow
      have HKEY := Lib.hid hkey
      have HLK := Lib.hid hlk
      have HDL := Lib.hid hdl
      have HKD := Lib.hid hkd
      have HTAIL := Lib.hid htail
      clear hlow hkey hlk hdl hkd htail
      by_cases h0 : 0 < c
      case neg =>
        have hc0 : c = 0 := by omega
        subst hc0
        by_cases g5 : 1 ≤ close
        · have g6 : ((0 : Nat) : Int) < close := by omega
          have hq : (decide (1 ≤ close) && decide (close ≤ ((0 : Nat) : Int))) = false := by simp; omega
          have hcode : (if (alook (tmR 0) close).isSome then (0 : Int) else 14) = 14 := by rw [HLK.out, hq]; rfl
          have HCODE := Lib.hid hcode
          clear hcode
          go_wp2_with fail
          refine (bookClose_sep HS2.out 1 rfl close).mono ?_
          rintro e w4 ⟨rfl, hS4⟩
          rw [HCODE.out]
          have HS4 := Lib.hid hS4
          clear hS4
          go_wp2_with fail
          refine (HTAIL.out false w4 hq HS4.out).mono ?_
          rintro e w5 ⟨h, x, rfl, hx, hS5⟩
          simp only [Bool.false_eq_true, if_false, if_true, Int.sub_zero] at hx
          have HS5 := Lib.hid hS5
          clear hS5
          by_cases hm : (((0 : Nat) : Int) : Int) < most
          · rw [decide_eq_true hm] at hx
            go_wp2_with fail
            refine (awake13 _).mono ?_
            rintro e w6 ⟨rfl, hb6⟩
            have hS6 := HS5.out.up hb6
            have HB6 := Lib.hid hb6
            have HS6 := Lib.hid hS6
            clear hb6 hS6
            go_wp2
            go_ret
            exact ⟨rfl, HS6.out.old⟩
          · rw [decide_eq_false hm] at hx
            have hm2 : most ≤ (((0 : Nat) : Int) : Int) := by omega
            clear hm
            go_wp2_with fail
            refine (awake13 _).mono ?_
            rintro e w6 ⟨rfl, hb6⟩
            have hS6 := HS5.out.up hb6
            have HB6 := Lib.hid hb6
            have HS6 := Lib.hid hS6
            clear hb6 hS6
            go_wp2
            go_ret
            exact ⟨congrArg boolRet (by simp; omega), HS6.out.old⟩
        · have g5' : close < 1 := by omega
          have hq : (decide (1 ≤ close) && decide (close ≤ ((0 : Nat) : Int))) = false := by simp; omega
          have hcode : (if (alook (tmR 0) close).isSome then (0 : Int) else 14) = 14 := by rw [HLK.out, hq]; rfl
          have HCODE := Lib.hid hcode
          clear hcode
          go_wp2_with fail
          refine (bookClose_sep HS2.out 1 rfl close).mono ?_
          rintro e w4 ⟨rfl, hS4⟩
          rw [HCODE.out]
          have HS4 := Lib.hid hS4
          clear hS4
          go_wp2_with fail
          refine (HTAIL.out false w4 hq HS4.out).mono ?_
          rintro e w5 ⟨h, x, rfl, hx, hS5⟩
          simp only [Bool.false_eq_true, if_false, if_true, Int.sub_zero] at hx
          have HS5 := Lib.hid hS5
          clear hS5
          by_cases hm : (((0 : Nat) : Int) : Int) < most
          · rw [decide_eq_true hm] at hx
            go_wp2_with fail
            refine (awake13 _).mono ?_
            rintro e w6 ⟨rfl, hb6⟩
            have hS6 := HS5.out.up hb6
            have HB6 := Lib.hid hb6
            have HS6 := Lib.hid hS6
            clear hb6 hS6
            go_wp2
            go_ret
            exact ⟨rfl, HS6.out.old⟩
          · rw [decide_eq_false hm] at hx
            have hm2 : most ≤ (((0 : Nat) : Int) : Int) := by omega
            clear hm
            go_wp2_with fail
            refine (awake13 _).mono ?_
            rintro e w6 ⟨rfl, hb6⟩
            have hS6 := HS5.out.up hb6
            have HB6 := Lib.hid hb6
            have HS6 := Lib.hid hS6
            clear hb6 hS6
            go_wp2
            go_ret
            exact ⟨congrArg boolRet (by simp; omega), HS6.out.old⟩
      case pos =>
        have h0' : (0 : Int) < (c : Int) := by omega
        by_cases g5 : 1 ≤ close
        · by_cases g6 : close ≤ (c : Int)
          · have g7 := g6
            have hq : (decide (1 ≤ close) && decide (close ≤ (c : Int))) = true := by simp; omega
            have hcode : (if (alook (tmR c) close).isSome then (0 : Int) else 14) = 0 := by rw [HLK.out, hq]; rfl
            have HCODE := Lib.hid hcode
            clear hcode
            go_wp2_with fail
            obtain ⟨F, hF, _⟩ := HS2.out.get 1 rfl
            refine (bookLow_any F _ _ _ _ 1000 _ hF).mono ?_
            rintro e w3 ⟨rfl, hb3⟩
            rw [HLOW.out h0]
            have hS2' := HS2.out.up hb3
            have HB3 := Lib.hid hb3
            have HS2' := Lib.hid hS2'
            clear hb3 hS2'
            clear hF
            go_wp2_with fail
            refine (bookClose_sep HS2'.out 1 rfl close).mono ?_
            rintro e w4 ⟨rfl, hS4⟩
            rw [HCODE.out]
            have HS4 := Lib.hid hS4
            clear hS4
            go_wp2_with fail
            refine (HTAIL.out true w4 hq HS4.out).mono ?_
            rintro e w5 ⟨h, x, rfl, hx, hS5⟩
            simp only [Bool.false_eq_true, if_false, if_true, Int.sub_zero] at hx
            have HS5 := Lib.hid hS5
            clear hS5
            by_cases hm : ((c : Int) - 1 : Int) < most
            · rw [decide_eq_true hm] at hx
              go_wp2_with fail
              refine (awake13 _).mono ?_
              rintro e w6 ⟨rfl, hb6⟩
              have hS6 := HS5.out.up hb6
              have HB6 := Lib.hid hb6
              have HS6 := Lib.hid hS6
              clear hb6 hS6
              go_wp2
              go_ret
              exact ⟨rfl, HS6.out.old⟩
            · rw [decide_eq_false hm] at hx
              have hm2 : most ≤ ((c : Int) - 1 : Int) := by omega
              clear hm
              go_wp2_with fail
              refine (awake13 _).mono ?_
              rintro e w6 ⟨rfl, hb6⟩
              have hS6 := HS5.out.up hb6
              have HB6 := Lib.hid hb6
              have HS6 := Lib.hid hS6
              clear hb6 hS6
              go_wp2
              go_ret
              exact ⟨congrArg boolRet (by simp; omega), HS6.out.old⟩
          · have g6' : (c : Int) < close := by omega
            have hq : (decide (1 ≤ close) && decide (close ≤ (c : Int))) = false := by simp; omega
            have hcode : (if (alook (tmR c) close).isSome then (0 : Int) else 14) = 14 := by rw [HLK.out, hq]; rfl
            have HCODE := Lib.hid hcode
            clear hcode
            go_wp2_with fail
            obtain ⟨F, hF, _⟩ := HS2.out.get 1 rfl
            refine (bookLow_any F _ _ _ _ 1000 _ hF).mono ?_
            rintro e w3 ⟨rfl, hb3⟩
            rw [HLOW.out h0]
            have hS2' := HS2.out.up hb3
            have HB3 := Lib.hid hb3
            have HS2' := Lib.hid hS2'
            clear hb3 hS2'
            clear hF
            go_wp2_with fail
            refine (bookClose_sep HS2'.out 1 rfl close).mono ?_
            rintro e w4 ⟨rfl, hS4⟩
            rw [HCODE.out]
            have HS4 := Lib.hid hS4
            clear hS4
            go_wp2_with fail
            refine (HTAIL.out false w4 hq HS4.out).mono ?_
            rintro e w5 ⟨h, x, rfl, hx, hS5⟩
            simp only [Bool.false_eq_true, if_false, if_true, Int.sub_zero] at hx
            have HS5 := Lib.hid hS5
            clear hS5
            by_cases hm : ((c : Int) : Int) < most
            · rw [decide_eq_true hm] at hx
              go_wp2_with fail
              refine (awake13 _).mono ?_
              rintro e w6 ⟨rfl, hb6⟩
              have hS6 := HS5.out.up hb6
              have HB6 := Lib.hid hb6
              have HS6 := Lib.hid hS6
              clear hb6 hS6
              go_wp2
              go_ret
              exact ⟨rfl, HS6.out.old⟩
            · rw [decide_eq_false hm] at hx
              have hm2 : most ≤ ((c : Int) : Int) := by omega
              clear hm
              go_wp2_with fail
              refine (awake13 _).mono ?_
              rintro e w6 ⟨rfl, hb6⟩
              have hS6 := HS5.out.up hb6
              have HB6 := Lib.hid hb6
              have HS6 := Lib.hid hS6
              clear hb6 hS6
              go_wp2
              go_ret
              exact ⟨congrArg boolRet (by simp; omega), HS6.out.old⟩
        · have g5' : close < 1 := by omega
          have hq : (decide (1 ≤ close) && decide (close ≤ (c : Int))) = false := by simp; omega
          have hcode : (if (alook (tmR c) close).isSome then (0 : Int) else 14) = 14 := by rw [HLK.out, hq]; rfl
          have HCODE := Lib.hid hcode
          clear hcode
          go_wp2_with fail
          obtain ⟨F, hF, _⟩ := HS2.out.get 1 rfl
          refine (bookLow_any F _ _ _ _ 1000 _ hF).mono ?_
          rintro e w3 ⟨rfl, hb3⟩
          rw [HLOW.out h0]
          have hS2' := HS2.out.up hb3
          have HB3 := Lib.hid hb3
          have HS2' := Lib.hid hS2'
          clear hb3 hS2'
          clear hF
          go_wp2_with fail
          refine (bookClose_sep HS2'.out 1 rfl close).mono ?_
          rintro e w4 ⟨rfl, hS4⟩
          rw [HCODE.out]
          have HS4 := Lib.hid hS4
          clear hS4
          go_wp2_with fail
          refine (HTAIL.out false w4 hq HS4.out).mono ?_
          rintro e w5 ⟨h, x, rfl, hx, hS5⟩
          simp only [Bool.false_eq_true, if_false, if_true, Int.sub_zero] at hx
          have HS5 := Lib.hid hS5
          clear hS5
          by_cases hm : ((c : Int) : Int) < most
          · rw [decide_eq_true hm] at hx
            go_wp2_with fail
            refine (awake13 _).mono ?_
            rintro e w6 ⟨rfl, hb6⟩
            have hS6 := HS5.out.up hb6
            have HB6 := Lib.hid hb6
            have HS6 := Lib.hid hS6
            clear hb6 hS6
            go_wp2
            go_ret
            exact ⟨rfl, HS6.out.old⟩
          · rw [decide_eq_false hm] at hx
            have hm2 : most ≤ ((c : Int) : Int) := by omega
            clear hm
            go_wp2_with fail
            refine (awake13 _).mono ?_
            rintro e w6 ⟨rfl, hb6⟩
            have hS6 := HS5.out.up hb6
            have HB6 := Lib.hid hb6
            have HS6 := Lib.hid hS6
            clear hb6 hS6
            go_wp2
            go_ret
            exact ⟨congrArg boolRet (by simp; omega), HS6.out.old⟩
end Go.Proofs
