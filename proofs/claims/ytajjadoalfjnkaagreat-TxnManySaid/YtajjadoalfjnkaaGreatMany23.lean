/- TxnMany: so many may be open or wait, and not one more; one that ends makes room: for every input the law returns true. -/
import Derived.Test.YtajjadoalfjnkaaGreatMany23P
import Derived.Test.YtajjadoalfjnkaaGreatTx7
namespace Go.Proofs
open Go.RowKit Sc
set_option maxRecDepth 100000 in
set_option maxHeartbeats 8000000 in
theorem many23_any (n how : Int) (w : World) (ih : I64 how) : Calls Tryz.prog 4 #[.int .i64 n, .int .i64 how] w (Tru w) := by
  by_cases h1 : n < 0
  case pos =>
    go_enter Tryz.func4, Tryz.ntmps4
    go_wp2_with fail
    refine (awake23 _).mono ?_
    rintro e w1 ⟨rfl, hb1⟩
    go_wp2
    go_ret
    exact ⟨rfl, hb1⟩
  case neg =>
  by_cases h2 : 25 < n
  case pos =>
    go_enter Tryz.func4, Tryz.ntmps4
    go_wp2_with fail
    refine (awake23 _).mono ?_
    rintro e w1 ⟨rfl, hb1⟩
    go_wp2
    go_ret
    exact ⟨rfl, hb1⟩
  case neg =>
  obtain ⟨N, rfl⟩ := Int.eq_ofNat_of_zero_le (show 0 ≤ n by omega)
  go_enter Tryz.func4, Tryz.ntmps4
  go_wp2_with fail
  refine (mgrNew_sep (Lib.hid (Sep.start w)) 5 0 (by omega) (by omega) (by omega) (by omega)).mono ?_
  rintro e w1 ⟨b, rfl, HS1⟩
  have HT0 := Lib.hid ManyI.start
  go_wp2_with fail
  go_loopw [7] (fun s7 wr => ∃ i : Nat, ∃ s : MgS, i ≤ N ∧ s7 = .int .i64 i ∧ Hid (ManyI i s) ∧ Hid (Sep w [OldA w, MgrA (pt b) s] wr)) (fun s7 _ => N - (intOf s7).toNat)
  case atStart => exact ⟨0, _, Nat.zero_le _, by go_num, HT0, HS1⟩
  case round =>
    obtain ⟨i, s, hi, rfl, HT, HS⟩ := hrel
    clear HT0 HS1
    by_cases hlt : i < N
    case pos =>
      have HB := Lib.hid (mgBegin_sep HS 1 rfl HT.out.g)
      by_cases h16 : i < 16
      · obtain ⟨b1, hn⟩ := HT.out.lo h16
        have HN := Lib.hid hn
        rw [b1] at HB
        have h16' : (i : Int) < 16 := by omega
        have h16d : decide ((i : Int) < 16) = true := decide_eq_true h16'
        clear b1 hn
        go_wp2_with fail
        refine (HB.out).mono ?_
        rintro e w2 ⟨rfl, HS2⟩
        generalize begH s = bh at *
        go_wp2_with fail
        go_roundw
        case rel => exact ⟨i + 1, _, by omega, by go_num, HN, HS2⟩
        case measure => simp [intOf]; omega
      · obtain ⟨b1, b2, hn⟩ := HT.out.hi (by omega)
        have HN := Lib.hid hn
        rw [b1, b2] at HB
        have h16' : ¬ (i : Int) < 16 := by omega
        have h16d : decide ((i : Int) < 16) = false := decide_eq_false h16'
        clear b1 b2 hn
        go_wp2_with fail
        refine (HB.out).mono ?_
        rintro e w2 ⟨rfl, HS2⟩
        go_wp2_with fail
        go_roundw
        case rel => exact ⟨i + 1, _, by omega, by go_num, HN, HS2⟩
        case measure => simp [intOf]; omega
    case neg =>
      obtain rfl : i = N := by omega
      clear hlt
      by_cases h0 : (i : Int) < 1
      case pos =>
        have hn0 := HT.out.n
        have hab : abCode s 1 = 5 := by
          unfold abCode
          rw [openB_no (by omega)]; rfl
        have HA := Lib.hid (mgAbort_sep HS 1 rfl 1)
        rw [hab] at HA
        clear hn0 hab
        go_wp2_with fail
        refine (HA.out).mono ?_
        rintro e w2 ⟨rfl, HS2⟩
        go_wp2_with fail
        refine (awake23 _).mono ?_
        rintro e w3 ⟨rfl, hb3⟩
        have HB3 := Lib.hid (Below.up HS2.out.old hb3)
        clear hb3
        go_wp2
        go_ret
        exact ⟨rfl, HB3.out⟩
      case neg =>
      have hi1 : 1 ≤ i := by omega
      obtain ⟨r0, r1⟩ := roundN_bd how (n := 3) (by omega)
      have key : ∀ (m : Nat) (S : MgS) (Ls : List Asn) (wz : World), Hid (GoneI m S) → Hid (Sep w (OldA w :: MgrA (pt b) S :: Ls) wz) →
          Hid (Calls Tryz.prog 19 #[.pointer (some ⟨b, 0, none⟩)] wz fun e w' => ∃ bh, e = .returned (.tuple #[.int .i64 bh, .int .i64 0]) ∧ Hid (Calls Tryz.prog 24 #[.pointer (some ⟨b, 0, none⟩), .int .i64 1] w' fun e' w'' => e' = .returned (.int .i64 5) ∧ Hid (Below w.heap.size w w''))) := fun m S Ls wz hG hS => by
        obtain ⟨d1, d2⟩ := hG.out.done
        refine Calls.mono (mgBegin_sep hS 1 rfl hG.out.g) ?_
        rintro e w' ⟨rfl, hS'⟩
        rw [d1]
        refine ⟨_, rfl, Calls.mono (mgAbort_sep hS' 1 rfl 1) ?_⟩
        rintro e' w'' ⟨rfl, hS''⟩
        rw [d2]
        exact ⟨rfl, hS''.out.old⟩
      have HKEY := Lib.hid key
      clear key
      go_wp2_with fail
      refine (round_any how 3 _ (by omega) (by omega)).mono ?_
      rintro e w2 ⟨rfl, rfl⟩
      generalize roundN how 3 = rr at *
      rcases (show rr = 0 ∨ rr = 1 ∨ rr = 2 by omega) with rfl | rfl | rfl
      · have HA := Lib.hid (mgAbort_sep HS 1 rfl 1)
        have HGN := Lib.hid (HT.out.abort hi1)
        clear r0 r1
        go_wp2_with fail
        refine (HA.out).mono ?_
        rintro e w3 ⟨rfl, HS3⟩
        generalize abCode s 1 = cd at *
        have HK := Lib.hid (HKEY.out _ _ _ _ HGN HS3)
        go_wp2_with fail
        refine (HK.out.out).mono ?_
        rintro e w4 ⟨bh, rfl, HA4⟩
        go_wp2_with fail
        refine (HA4.out).mono ?_
        rintro e w5 ⟨rfl, HB5⟩
        go_wp2_with fail
        refine (awake23 _).mono ?_
        rintro e w6 ⟨rfl, hb6⟩
        have HB6 := Lib.hid (Below.up HB5.out hb6)
        clear hb6
        go_wp2
        go_ret
        exact ⟨rfl, HB6.out⟩
      · have HA := Lib.hid (mgCommit_sep HS 1 rfl HT.out.g (by rw [HT.out.q]; simp) 1)
        have HGN := Lib.hid (HT.out.commit hi1)
        clear r0 r1
        go_wp2_with fail
        refine (HA.out).mono ?_
        rintro e w3 ⟨rfl, HS3⟩
        generalize cmCode s 1 = cd at *
        have HK := Lib.hid (HKEY.out _ _ _ _ HGN HS3)
        go_wp2_with fail
        refine (HK.out.out).mono ?_
        rintro e w4 ⟨bh, rfl, HA4⟩
        go_wp2_with fail
        refine (HA4.out).mono ?_
        rintro e w5 ⟨rfl, HB5⟩
        go_wp2_with fail
        refine (awake23 _).mono ?_
        rintro e w6 ⟨rfl, hb6⟩
        have HB6 := Lib.hid (Below.up HB5.out hb6)
        clear hb6
        go_wp2
        go_ret
        exact ⟨rfl, HB6.out⟩
      · obtain ⟨x1, x2, x3, x4, x5, x6, x7, x8, x9, x10⟩ := HT.out.write hi1 (data_sz 1)
        have X1 := Lib.hid x1
        have X2 := Lib.hid x2
        have X3 := Lib.hid x3
        have X4 := Lib.hid x4
        have X5 := Lib.hid x5
        have X6 := Lib.hid x6
        have X7 := Lib.hid x7
        have X8 := Lib.hid x8
        have X9 := Lib.hid x9
        have X10 := Lib.hid x10
        clear r0 r1 x1 x2 x3 x4 x5 x6 x7 x8 x9 x10
        go_wp2_with fail
        refine (data_any 1 _).mono ?_
        rintro e w3 ⟨dv, rfl, hd, hb3⟩
        obtain ⟨dp, dc, rfl⟩ := shape_of hd (data_sz 1)
        have HS3 := Lib.hid (HS.out.new hb3 (ByA (.slice dp 40 dc) (dataB 1)) (fun _ h => h) hd)
        have HW := Lib.hid (mgWrite_one HS3 1 2 (by decide) rfl rfl HT.out.g 1 0 (by unfold I64; omega) w3.heap.size rfl)
        clear hd hb3
        go_wp2_with fail
        refine (HW.out).mono ?_
        rintro e w4 ⟨rfl, HS4⟩
        generalize wrCode s 1 [⟨0, dataB 1⟩] = cd at *
        have HC := Lib.hid (mgCommit_sep HS4 1 rfl X1.out X2.out 1)
        clear HW HS3
        go_wp2_with fail
        refine (HC.out).mono ?_
        rintro e w5 ⟨rfl, HS5⟩
        generalize cmCode (wrNext s 1 [⟨0, dataB 1⟩]) 1 = cd2 at *
        have HO := Lib.hid (mgOpen_sep HS5 1 rfl X3.out)
        rw [X4.out] at HO
        clear HC HS4
        have hmin : min (i : Int) 16 = ((min i 16 : Nat) : Int) := by omega
        go_wp2_with fail
        refine (HO.out).mono ?_
        rintro e w6 ⟨rfl, HS6⟩
        have HBA := Lib.hid (mgBatch_sep HS6 1 rfl X3.out X5.out (by omega))
        clear HO HS5
        go_wp2_with fail
        refine (HBA.out).mono ?_
        rintro e w7 (⟨h0', _⟩ | ⟨_, p, cp, rfl, HS7⟩)
        · exact absurd X6.out h0'
        have HD := Lib.hid (mgDone_sep HS7 1 rfl X7.out X8.out (by omega) X9.out 0)
        generalize formN (waitL (cmNext (wrNext s 1 [⟨0, dataB 1⟩]) 1)) = fl at *
        generalize (cmNext (wrNext s 1 [⟨0, dataB 1⟩]) 1).num + 1 = nn at *
        clear HBA HS6
        go_wp2_with fail
        refine (HD.out).mono ?_
        rintro e w8 ⟨rfl, HS8⟩
        generalize doneCode (baNext (cmNext (wrNext s 1 [⟨0, dataB 1⟩]) 1)) = cd3 at *
        have HK := Lib.hid (HKEY.out _ _ _ _ X10 HS8)
        go_wp2_with fail
        refine (HK.out.out).mono ?_
        rintro e w9 ⟨bh, rfl, HA4⟩
        go_wp2_with fail
        refine (HA4.out).mono ?_
        rintro e w10 ⟨rfl, HB5⟩
        go_wp2_with fail
        refine (awake23 _).mono ?_
        rintro e w11 ⟨rfl, hb6⟩
        have HB6 := Lib.hid (Below.up HB5.out hb6)
        clear hb6
        go_wp2
        go_ret
        exact ⟨rfl, HB6.out⟩
end Go.Proofs
