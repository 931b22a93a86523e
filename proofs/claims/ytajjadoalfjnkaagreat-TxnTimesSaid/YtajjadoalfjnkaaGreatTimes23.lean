/- TxnTimes: the times of what is committed rise in the order of the commits, and run out at the greatest one: for every input the law returns true. -/
import Derived.Test.YtajjadoalfjnkaaGreatTimes23P
import Derived.Test.YtajjadoalfjnkaaGreatTx7
namespace Go.Proofs
open Go.RowKit Sc
set_option maxRecDepth 100000 in
set_option maxHeartbeats 8000000 in
theorem times23_any (last n : Int) (w : World) : Calls Tryz.prog 3 #[.int .i64 last, .int .i64 n] w (Tru w) := by
  by_cases hg : last < 0 ∨ 1099511627776 < last ∨ n < 0 ∨ 14 < n
  case pos =>
    go_enter Tryz.func3, Tryz.ntmps3
    by_cases h1 : last < 0
    · go_wp2_with fail
      refine (awake23 _).mono ?_
      rintro e w1 ⟨rfl, hb1⟩
      go_wp2
      go_ret
      exact ⟨rfl, hb1⟩
    · by_cases h2 : 1099511627776 < last
      · go_wp2_with fail
        refine (awake23 _).mono ?_
        rintro e w1 ⟨rfl, hb1⟩
        go_wp2
        go_ret
        exact ⟨rfl, hb1⟩
      · by_cases h3 : n < 0
        · go_wp2_with fail
          refine (awake23 _).mono ?_
          rintro e w1 ⟨rfl, hb1⟩
          go_wp2
          go_ret
          exact ⟨rfl, hb1⟩
        · have h4 : 14 < n := by omega
          go_wp2_with fail
          refine (awake23 _).mono ?_
          rintro e w1 ⟨rfl, hb1⟩
          go_wp2
          go_ret
          exact ⟨rfl, hb1⟩
  case neg =>
  have h1 : ¬ last < 0 := by omega
  have h2 : ¬ 1099511627776 < last := by omega
  obtain ⟨N, rfl⟩ := Int.eq_ofNat_of_zero_le (show 0 ≤ n by omega)
  have h4 : ¬ (14 : Int) < (N : Int) := by omega
  clear hg
  go_enter Tryz.func3, Tryz.ntmps3
  go_wp2_with fail
  refine (mgrNew_sep (Lib.hid (Sep.start w)) 20 last (by omega) (by omega) (by omega) (by omega)).mono ?_
  rintro e w1 ⟨b, rfl, HS1⟩
  have HT0 := Lib.hid (TimesI.start (last := last) (by omega) (by omega))
  go_wp2_with fail
  go_loopw [7] (fun s7 wr => ∃ i : Nat, ∃ s : MgS, i ≤ N ∧ s7 = .int .i64 i ∧ Hid (TimesI last i s) ∧ Hid (Sep w [OldA w, MgrA (pt b) s] wr)) (fun s7 _ => N - (intOf s7).toNat)
  case atStart => exact ⟨0, _, Nat.zero_le _, by go_num, HT0, HS1⟩
  case round =>
    obtain ⟨i, s, hi, rfl, HT, HS⟩ := hrel
    clear HT0 HS1
    by_cases hlt : i < N
    case neg =>
      go_wp2_with fail
      refine (awake23 _).mono ?_
      rintro e w2 ⟨rfl, hb2⟩
      have HB2 := Lib.hid (Below.up HS.out.old hb2)
      clear hb2
      go_wp2
      go_ret
      exact ⟨rfl, HB2.out⟩
    case pos =>
      have hd40 := data_sz (i : Int)
      obtain ⟨n1, n2, n3, n4, n5, n6, n7, n8, n9⟩ := HT.out.next (by omega) hd40
      have HB := Lib.hid (mgBegin_sep HS 1 rfl HT.out.g)
      rw [n1, n2] at HB
      have H3 := Lib.hid n3
      have H4 := Lib.hid n4
      have H5 := Lib.hid n5
      have H6 := Lib.hid n6
      have H9 := Lib.hid n9
      have hi64 : I64 (i : Int) := by unfold I64; omega
      clear n1 n2 n3 n4 n5 n6 n9
      go_wp2_with fail
      refine (HB.out).mono ?_
      rintro e w2 ⟨rfl, HS2⟩
      go_wp2_with fail
      refine (data_any i _).mono ?_
      rintro e w3 ⟨dv, rfl, hd, hb3⟩
      obtain ⟨dp, dc, rfl⟩ := shape_of hd hd40
      have HS3 := Lib.hid (HS2.out.new hb3 (ByA (.slice dp 40 dc) (dataB i)) (fun _ h => h) hd)
      have HW := Lib.hid (mgWrite_one HS3 1 2 (by decide) rfl rfl H3.out ((i : Int) + 1) i hi64 w3.heap.size rfl)
      rw [H4.out] at HW
      clear hd hb3 HB HS2
      go_wp2_with fail
      refine (HW.out).mono ?_
      rintro e w4 ⟨rfl, HS4⟩
      have HC := Lib.hid (mgCommit_sep HS4 1 rfl H5.out H6.out ((i : Int) + 1))
      clear HW HS3
      by_cases hlim : (i : Int) < 1099511627776 - last
      · rw [if_pos hlim] at n7 n8
        rw [n7] at HC
        have H8 := Lib.hid n8
        clear n7 n8
        go_wp2_with fail
        refine (HC.out).mono ?_
        rintro e w5 ⟨rfl, HS5⟩
        have HR := Lib.hid (mgResult_sep HS5 1 rfl ((i : Int) + 1))
        rw [H8.out] at HR
        clear HC HS4
        go_wp2_with fail
        refine (HR.out).mono ?_
        rintro e w6 ⟨rfl, HS6⟩
        have HS7 := Lib.hid (HS6.out.take 2)
        clear HR HS5
        have e3 : (last + (i : Int) + 1 != last + (i : Int) + 1) = false := by simp
        go_wp2_with fail
        go_roundw
        case rel => exact ⟨i + 1, _, by omega, by go_num, H9, HS7⟩
        case measure => simp [intOf]; omega
      · rw [if_neg hlim] at n7 n8
        rw [n7] at HC
        have H8 := Lib.hid n8
        clear n7 n8
        go_wp2_with fail
        refine (HC.out).mono ?_
        rintro e w5 ⟨rfl, HS5⟩
        have HR := Lib.hid (mgResult_sep HS5 1 rfl ((i : Int) + 1))
        rw [H8.out] at HR
        clear HC HS4
        go_wp2_with fail
        refine (HR.out).mono ?_
        rintro e w6 ⟨rfl, HS6⟩
        have HS7 := Lib.hid (HS6.out.take 2)
        clear HR HS5
        go_wp2_with fail
        go_roundw
        case rel => exact ⟨i + 1, _, by omega, by go_num, H9, HS7⟩
        case measure => simp [intOf]; omega
end Go.Proofs
