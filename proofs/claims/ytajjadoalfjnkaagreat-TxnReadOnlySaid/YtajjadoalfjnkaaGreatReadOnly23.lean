/- TxnReadOnly: while it only reads, nothing that wrote is committed, and each of these is told so; what only read is; later it goes on: for every input the law returns true. -/
import Derived.Test.YtajjadoalfjnkaaGreatRead23P
import Derived.Test.YtajjadoalfjnkaaGreatTx7
namespace Go.Proofs
open Go.RowKit Sc
set_option maxRecDepth 100000 in
set_option maxHeartbeats 8000000 in
theorem readOnly23_any (n : Int) (lv : Value) (l : List Bool) (w : World) (hl : SlAt (Old w) 1 boolE w lv l) : Calls Tryz.prog 7 #[.int .i64 n, lv] w (Tru w) := by
  obtain ⟨lp, lc, rfl, hl1, hl2, -, hl4⟩ := hl
  have H4 := Lib.hid hl4
  clear hl4
  by_cases h14 : (14 : Int) < (l.length : Int)
  case pos =>
    go_enter Tryz.func7, Tryz.ntmps7
    go_wp2_with fail
    refine (awake23 _).mono ?_
    rintro e w1 ⟨rfl, hb1⟩
    go_wp2
    go_ret
    exact ⟨rfl, hb1⟩
  case neg =>
  go_enter Tryz.func7, Tryz.ntmps7
  go_wp2_with fail
  refine (mgrNew_sep (Lib.hid (Sep.start w)) 20 0 (by omega) (by omega) (by omega) (by omega)).mono ?_
  rintro e w1 ⟨b, rfl, HS1⟩
  go_wp2_with fail
  refine (mgReadOnly_sep HS1 1 rfl true).mono ?_
  rintro e w2 ⟨rfl, HS2⟩
  have HT0 := Lib.hid ROI.start
  go_wp2_with fail
  go_loopw [7] (fun s7 wr => ∃ i : Nat, ∃ s : MgS, i ≤ l.length ∧ s7 = .int .i64 i ∧ Hid (ROI i s) ∧ Hid (Sep w [OldA w, MgrA (pt b) s] wr)) (fun s7 _ => l.length - (intOf s7).toNat)
  case atStart => exact ⟨0, _, Nat.zero_le _, by go_num, HT0, HS2⟩
  case round =>
    obtain ⟨i, s, hi, rfl, HT, HS⟩ := hrel
    clear HT0 HS1 HS2
    by_cases hlt : i < l.length
    case pos =>
      obtain ⟨g, o, rfl, _, hx⟩ := H4.out i hlt
      have hxw : wr.cell? ⟨g, o + i * 1, none⟩ = some (.bool l[i]) := cell_up HS.out.old hx
      rw [Nat.mul_one] at hxw
      have HX := Lib.hid hx
      obtain ⟨b1, b2, b3, _⟩ := HT.out.beg (by omega)
      have HB := Lib.hid (mgBegin_sep HS 1 rfl HT.out.g)
      rw [b1, b2] at HB
      have H3 := Lib.hid b3
      clear hx b1 b2 b3
      go_wp2_with fail
      refine (HB.out).mono ?_
      rintro e w3 ⟨rfl, HS3⟩
      have hx3 : w3.cell? ⟨g, o + i, none⟩ = some (.bool l[i]) := by
        have := cell_up HS3.out.old HX.out
        rwa [Nat.mul_one] at this
      cases hb : l[i] with
      | false =>
        rw [hb] at hx3
        obtain ⟨c1, c2, c3⟩ := HT.out.no (by omega)
        have HC := Lib.hid (mgCommit_sep HS3 1 rfl H3.out (by unfold begNext; split <;> (show s.queue.length ≤ _; rw [HT.out.q]; simp)) ((i : Int) + 1))
        rw [c1] at HC
        have C2 := Lib.hid c2
        have C3 := Lib.hid c3
        clear c1 c2 c3 hb hxw HB
        go_wp2_with fail
        refine (HC.out).mono ?_
        rintro e w4 ⟨rfl, HS4⟩
        have HR := Lib.hid (mgResult_sep HS4 1 rfl ((i : Int) + 1))
        rw [C2.out] at HR
        clear HC HS3
        go_wp2_with fail
        refine (HR.out).mono ?_
        rintro e w5 ⟨rfl, HS5⟩
        clear HR HS4
        go_wp2_with fail
        go_roundw
        case rel => exact ⟨i + 1, _, by omega, by go_num, C3, HS5⟩
        case measure => simp [intOf]; omega
      | true =>
        rw [hb] at hx3
        have hd40 := data_sz (i : Int)
        obtain ⟨c1, c2, c3, c4, c5, c6⟩ := HT.out.yes (by omega) hd40
        have C1 := Lib.hid c1
        have C2 := Lib.hid c2
        have C3 := Lib.hid c3
        have C4 := Lib.hid c4
        have C5 := Lib.hid c5
        have C6 := Lib.hid c6
        have hi64 : I64 (i : Int) := by unfold I64; omega
        have HBT := Lib.hid hb
        clear c1 c2 c3 c4 c5 c6 hb hxw HB
        go_wp2_with fail
        refine (data_any i _).mono ?_
        rintro e w4 ⟨dv, rfl, hd, hb3⟩
        obtain ⟨dp, dc, rfl⟩ := shape_of hd hd40
        have HS4 := Lib.hid (HS3.out.new hb3 (ByA (.slice dp 40 dc) (dataB i)) (fun _ h => h) hd)
        have HW := Lib.hid (mgWrite_one HS4 1 2 (by decide) rfl rfl H3.out ((i : Int) + 1) i hi64 w4.heap.size rfl)
        rw [C1.out] at HW
        clear hd hb3 hx3
        go_wp2_with fail
        refine (HW.out).mono ?_
        rintro e w5 ⟨rfl, HS5⟩
        have hx5 : w5.cell? ⟨g, o + i, none⟩ = some (.bool true) := by
          have := cell_up HS5.out.old HX.out
          rw [Nat.mul_one] at this
          rw [this, HBT.out]
        have HC := Lib.hid (mgCommit_sep HS5 1 rfl C2.out C3.out ((i : Int) + 1))
        rw [C4.out] at HC
        clear HW HS4 HS3
        go_wp2_with fail
        refine (HC.out).mono ?_
        rintro e w6 ⟨rfl, HS6⟩
        have HR := Lib.hid (mgResult_sep HS6 1 rfl ((i : Int) + 1))
        rw [C5.out] at HR
        clear HC HS5
        go_wp2_with fail
        refine (HR.out).mono ?_
        rintro e w7 ⟨rfl, HS7⟩
        have HS8 := Lib.hid (HS7.out.take 2)
        clear HR HS6
        go_wp2_with fail
        go_roundw
        case rel => exact ⟨i + 1, _, by omega, by go_num, C6, HS8⟩
        case measure => simp [intOf]; omega
    case neg =>
      have hd40 := data_sz 1
      obtain ⟨f1, f2, f3, f4, f5, f6, f7, f8, f9, f10⟩ := HT.out.fin (by omega) hd40
      have F1 := Lib.hid f1
      have F2 := Lib.hid f2
      have F3 := Lib.hid f3
      have F4 := Lib.hid f4
      have F5 := Lib.hid f5
      have F6 := Lib.hid f6
      have F7 := Lib.hid f7
      have F8 := Lib.hid f8
      have F9 := Lib.hid f9
      have F10 := Lib.hid f10
      have HBA := Lib.hid (mgBatch_sep HS 1 rfl HT.out.g (by rw [HT.out.q]; simp) (by omega))
      clear f1 f2 f3 f4 f5 f6 f7 f8 f9 f10
      go_wp2_with fail
      refine (HBA.out).mono ?_
      rintro e w3 (⟨_, rfl, HS3⟩ | ⟨h0, _⟩)
      case inr => exact absurd (h0.symm.trans F1.out) (by decide)
      rw [F1.out]
      have HS3' := Lib.hid (HS3.out.up (below_alloc w3 (.cells #[.int .i64 0, .slice none 0 0] 42)))
      have HDU := Lib.hid (mgDump_sep HS3' 1 rfl HT.out.g (by omega))
      have hdv : dumpV s.vs = [] := by rw [HT.out.v]; unfold dumpV keysUp; simp
      rw [hdv] at HDU
      clear HBA HS3 HS hdv
      go_wp2_with fail
      refine (HDU.out).mono ?_
      rintro e w4 ⟨p4, c4, rfl, _, HB4⟩
      have HS4 := Lib.hid (HS3'.out.up HB4.out)
      have HO := Lib.hid (mgOpen_sep HS4 1 rfl HT.out.g)
      rw [HT.out.k] at HO
      clear HDU HS3'
      go_wp2_with fail
      refine (HO.out).mono ?_
      rintro e w5 ⟨rfl, HS5⟩
      clear HO HS4
      go_wp2_with fail
      refine (mgReadOnly_sep HS5 1 rfl false).mono ?_
      rintro e w6 ⟨rfl, HS6⟩
      have HB := Lib.hid (mgBegin_sep HS6 1 rfl F2.out)
      rw [F3.out, F4.out] at HB
      clear HS5
      go_wp2_with fail
      refine (HB.out).mono ?_
      rintro e w7 ⟨rfl, HS7⟩
      clear HB HS6
      go_wp2_with fail
      refine (data_any 1 _).mono ?_
      rintro e w8 ⟨dv, rfl, hd, hb3⟩
      obtain ⟨dp, dc, rfl⟩ := shape_of hd hd40
      have HS8 := Lib.hid (HS7.out.new hb3 (ByA (.slice dp 40 dc) (dataB 1)) (fun _ h => h) hd)
      have HW := Lib.hid (mgWrite_one HS8 1 2 (by decide) rfl rfl F5.out ((l.length : Int) + 1) 0 (by unfold I64; omega) w8.heap.size rfl)
      have hil : i = l.length := by omega
      rw [hil] at F6 F7 F8 F9 F10
      rw [F6.out] at HW
      clear hd hb3 HS7
      rw [hil]
      go_wp2_with fail
      refine (HW.out).mono ?_
      rintro e w9 ⟨rfl, HS9⟩
      have HC := Lib.hid (mgCommit_sep HS9 1 rfl F7.out F8.out ((l.length : Int) + 1))
      rw [F9.out] at HC
      clear HW HS8
      go_wp2_with fail
      refine (HC.out).mono ?_
      rintro e w10 ⟨rfl, HS10⟩
      have HQ := Lib.hid (mgQueue_sep HS10 1 rfl)
      rw [F10.out] at HQ
      clear HC HS9
      go_wp2_with fail
      refine (HQ.out).mono ?_
      rintro e w11 ⟨rfl, rfl⟩
      have HOL := Lib.hid HS10.out.old
      clear HQ HS10
      go_wp2_with fail
      refine (awake23 _).mono ?_
      rintro e w12 ⟨rfl, hb12⟩
      have HB12 := Lib.hid (Below.up HOL.out hb12)
      clear hb12
      go_wp2
      go_ret
      exact ⟨rfl, HB12.out⟩
end Go.Proofs
