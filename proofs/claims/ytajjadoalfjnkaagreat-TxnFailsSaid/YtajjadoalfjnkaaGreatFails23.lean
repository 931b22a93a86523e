/- TxnFails: a batch that fails ends all of its transactions with its code, and changes nothing that is read; those behind it go on: for every input the law returns true. -/
import Derived.Test.YtajjadoalfjnkaaGreatFails23P
import Derived.Test.YtajjadoalfjnkaaGreatTx7
namespace Sc
open Go Go.RowKit
theorem Sep.boxM {W w : World} {L : List Asn} (h : Sep W L w) (cs : Array Value) (T : TypeId) : Sep W (L ++ [BoxA w.heap.size cs T]) (w.alloc (.cells cs T (0, 0))) :=
  h.new (below_alloc w _) (BoxA w.heap.size cs T) (F := New w (w.alloc (.cells cs T (0, 0)))) (fun _ h => h) ⟨⟨Nat.le_refl _, by simp⟩, heap_alloc_new w _⟩
end Sc
namespace Go.Proofs
open Go.RowKit Sc
theorem box_cell {W w : World} {L : List Asn} (h : Sep W L w) (i : Nat) {b : Nat} {cs : Array Value} {T : TypeId} (hi : L[i]? = some (BoxA b cs T)) (j : Nat) : w.cell? ⟨b, j, none⟩ = cs[j]? := by
  obtain ⟨F, hF, _⟩ := h.get i hi
  rw [cell_row hF.2]
set_option maxRecDepth 100000 in
set_option maxHeartbeats 8000000 in
theorem fails23_any (n code : Int) (w : World) : Calls Tryz.prog 5 #[.int .i64 n, .int .i64 code] w (Tru w) := by
  by_cases h1 : n < 1
  case pos =>
    go_enter Tryz.func5, Tryz.ntmps5
    go_wp2_with fail
    refine (awake23 _).mono ?_
    rintro e w1 ⟨rfl, hb1⟩
    go_wp2
    go_ret
    exact ⟨rfl, hb1⟩
  case neg =>
  by_cases h2 : 14 < n
  case pos =>
    go_enter Tryz.func5, Tryz.ntmps5
    go_wp2_with fail
    refine (awake23 _).mono ?_
    rintro e w1 ⟨rfl, hb1⟩
    go_wp2
    go_ret
    exact ⟨rfl, hb1⟩
  case neg =>
  by_cases h3 : code < 1
  case pos =>
    go_enter Tryz.func5, Tryz.ntmps5
    go_wp2_with fail
    refine (awake23 _).mono ?_
    rintro e w1 ⟨rfl, hb1⟩
    go_wp2
    go_ret
    exact ⟨rfl, hb1⟩
  case neg =>
  by_cases h4 : 16 < code
  case pos =>
    go_enter Tryz.func5, Tryz.ntmps5
    go_wp2_with fail
    refine (awake23 _).mono ?_
    rintro e w1 ⟨rfl, hb1⟩
    go_wp2
    go_ret
    exact ⟨rfl, hb1⟩
  case neg =>
  obtain ⟨N, rfl⟩ := Int.eq_ofNat_of_zero_le (show 0 ≤ n by omega)
  have hN1 : 1 ≤ N := by omega
  have hN2 : N ≤ 14 := by omega
  have HN1 := Lib.hid hN1
  have HN2 := Lib.hid hN2
  have HCD : Hid (code ≠ 0) := by show code ≠ 0; omega
  go_enter Tryz.func5, Tryz.ntmps5
  go_wp2_with fail
  refine (mgrNew_sep (Lib.hid (Sep.start w)) 20 0 (by omega) (by omega) (by omega) (by omega)).mono ?_
  rintro e w1 ⟨b, rfl, HS1⟩
  have HT0 := Lib.hid FI.start
  go_wp2_with fail
  go_loopw [7] (fun s7 wr => ∃ i : Nat, ∃ s : MgS, i ≤ N ∧ s7 = .int .i64 i ∧ Hid (FI i s) ∧ Hid (Sep w [OldA w, MgrA (pt b) s] wr)) (fun s7 _ => N - (intOf s7).toNat)
  case atStart => exact ⟨0, _, Nat.zero_le _, by go_num, HT0, HS1⟩
  case round =>
    obtain ⟨i, s, hi, rfl, HT, HS⟩ := hrel
    clear HT0 HS1
    by_cases hlt : i < N
    case pos =>
      have hd40 := data_sz (i : Int)
      obtain ⟨n1, n2, n3, n4, n5, n6, n7, n8⟩ := HT.out.next (by omega)
      have HB := Lib.hid (mgBegin_sep HS 1 rfl HT.out.t.g)
      rw [n1, n2] at HB
      have H3 := Lib.hid n3
      have H4 := Lib.hid n4
      have H5 := Lib.hid n5
      have H6 := Lib.hid n6
      have H7 := Lib.hid n7
      have H8 := Lib.hid n8
      have hi64 : I64 (i : Int) := by unfold I64; omega
      clear n1 n2 n3 n4 n5 n6 n7 n8
      go_wp2_with fail
      refine (HB.out).mono ?_
      rintro e w2 ⟨rfl, HS2⟩
      go_wp2_with fail
      refine (data_any i _).mono ?_
      rintro e w3 ⟨dv, rfl, hd, hb3⟩
      obtain ⟨dp, dc, rfl⟩ := shape_of hd hd40
      have HS3 := Lib.hid (HS2.out.new hb3 (ByA (.slice dp 40 dc) (dataB i)) (fun _ h => h) hd)
      have HW := Lib.hid (mgWrite_one HS3 1 2 (by decide) rfl rfl H3.out ((i : Int) + 1) i hi64 w3.heap.size rfl)
      rw [H4.out] at HW
      clear hd hb3 HB HS2
      go_wp2_with fail
      refine (HW.out).mono ?_
      rintro e w4 ⟨rfl, HS4⟩
      have HC := Lib.hid (mgCommit_sep HS4 1 rfl H5.out H6.out ((i : Int) + 1))
      rw [H7.out] at HC
      clear HW HS3
      go_wp2_with fail
      refine (HC.out).mono ?_
      rintro e w5 ⟨rfl, HS5⟩
      have HS7 := Lib.hid (HS5.out.take 2)
      clear HC HS4
      go_wp2_with fail
      go_roundw
      case rel => exact ⟨i + 1, _, by omega, by go_num, H8, HS7⟩
      case measure => simp [intOf]; omega
    case neg =>
      obtain rfl : i = N := by omega
      obtain ⟨a1, K, k1, k2, k3, k4, k5, k6, k7, k8, k9, k10⟩ := HT.out.fail HN1.out HN2.out HCD.out
      have A1 := Lib.hid a1
      have K5 := Lib.hid k5
      have K6 := Lib.hid k6
      have K7 := Lib.hid k7
      have K8 := Lib.hid k8
      have K9 := Lib.hid k9
      have K10 := Lib.hid k10
      have hql := HT.out.qlen
      have HB := Lib.hid (mgBatch_sep HS 1 rfl HT.out.t.g (by omega) (by omega))
      rw [k4] at HB
      clear a1 k4 k5 k6 k7 k8 k9 k10 hlt hql
      go_wp2_with fail
      refine (HB.out).mono ?_
      rintro e w2 (⟨h0, _⟩ | ⟨_, p, cp, rfl, HS2⟩)
      · exact absurd A1.out h0
      generalize s.num + 1 = nn at *
      have HS3 := Lib.hid (HS2.out.boxM #[.int .i64 nn, .slice p K cp] 42)
      have HB2 := Lib.hid (mgBatch_sep HS3 1 rfl K5.out K6.out (by omega))
      rw [K8.out] at HB2
      clear HB HS2 HS
      go_wp2_with fail
      refine (HB2.out).mono ?_
      rintro e w3 (⟨_, rfl, HS4⟩ | ⟨h0, _⟩)
      case inr => exact absurd h0 (by decide)
      have HS5 := Lib.hid (HS4.out.up (below_alloc w3 (.cells #[.int .i64 0, .slice none 0 0] 42)))
      have HD := Lib.hid (mgDone_sep HS5 1 rfl K5.out K6.out (by omega) K7.out code)
      rw [K9.out] at HD
      clear HB2 HS3 HS4
      go_wp2_with fail
      refine (HD.out).mono ?_
      rintro e w4 ⟨rfl, HS6⟩
      generalize doneNext (baNext s) code = S at *
      have hql2 := K10.out.qlen
      have HD2 := Lib.hid (mgDone_sep HS6 1 rfl K10.out.g (by omega) (by omega) (by rw [K10.out.o]; omega) 0)
      have hdc : doneCode S = 14 := if_pos K10.out.o
      have hdn : doneNext S 0 = S := if_pos K10.out.o
      rw [hdc, hdn] at HD2
      clear HD HS5 hdc hdn hql2
      go_wp2_with fail
      refine (HD2.out).mono ?_
      rintro e w5 ⟨rfl, HS7⟩
      have x1 := box_cell HS7.out 3 rfl 1
      change _ = some (Value.slice p K cp) at x1
      clear HD2 HS6
      go_wp2_with fail
      go_loopw [15] (fun s15 wr => ∃ m : Nat, 1 ≤ m ∧ m ≤ i + 1 ∧ s15 = .int .i64 m ∧ Hid (Sep w [OldA w, MgrA (pt b) S, TxsA (.slice p K cp) ((waitL s).take K), BoxA w2.heap.size #[.int .i64 nn, .slice p K cp] 42] wr)) (fun s15 _ => i + 1 - (intOf s15).toNat)
      case atStart => exact ⟨1, Nat.le_refl _, by omega, by go_num, HS7⟩
      case round =>
        obtain ⟨m, hm1, hm2, rfl, HS8⟩ := hrel
        clear HS7 x1
        by_cases hle : m ≤ i
        case pos =>
          have HR := Lib.hid (mgResult_sep HS8 1 rfl (m : Int))
          by_cases hmk : m ≤ K
          · rw [K10.out.r1 m hm1 hmk] at HR
            have hmk' : (m : Int) ≤ (K : Int) := by omega
            have hmk2 : ¬ (K : Int) < (m : Int) := by omega
            go_wp2_with fail
            refine (HR.out).mono ?_
            rintro e w6 ⟨rfl, HS9⟩
            go_wp2_with fail
            go_roundw
            case rel => exact ⟨m + 1, by omega, by omega, by go_num, HS9⟩
            case measure => simp [intOf]; omega
          · rw [K10.out.r2 m (by omega) (by omega)] at HR
            generalize (resOf S (m : Int)).2.1 = tt at *
            generalize (resOf S (m : Int)).2.2 = cc at *
            have hmk' : ¬ (m : Int) ≤ (K : Int) := by omega
            have hmk2 : (K : Int) < (m : Int) := by omega
            go_wp2_with fail
            refine (HR.out).mono ?_
            rintro e w6 ⟨rfl, HS9⟩
            go_wp2_with fail
            go_roundw
            case rel => exact ⟨m + 1, by omega, by omega, by go_num, HS9⟩
            case measure => simp [intOf]; omega
        case neg =>
          have HL := Lib.hid (mgLast_sep HS8 1 rfl)
          rw [K10.out.l] at HL
          have HDU := Lib.hid (mgDump_sep HS8 1 rfl K10.out.g (by omega))
          have hdv : dumpV S.vs = [] := by rw [K10.out.v]; unfold dumpV keysUp; simp
          rw [hdv] at HDU
          obtain ⟨z1, z2⟩ := K10.out.rest HN2.out
          have Z1 := Lib.hid z1
          have Z2 := Lib.hid z2
          have hle' : ¬ (m : Int) ≤ (i : Int) := by omega
          clear hdv z1 z2 hle hm1 hm2
          go_wp2_with fail
          refine (HL.out).mono ?_
          rintro e w6 ⟨rfl, rfl⟩
          go_wp2_with fail
          refine (HDU.out).mono ?_
          rintro e w6 ⟨p4, c4, rfl, _, HB4⟩
          have HS9 := Lib.hid (HS8.out.up HB4.out)
          have HQ := Lib.hid (mgQueue_sep HS9 1 rfl)
          rw [K10.out.qlen, show ((i - K : Nat) : Int) = (i : Int) - (K : Int) by omega] at HQ
          have hqe : ((i : Int) - (K : Int) != (i : Int) - (K : Int)) = false := by simp
          clear HL HDU HS8
          go_wp2_with fail
          refine (HQ.out).mono ?_
          rintro e w7 ⟨rfl, rfl⟩
          have hql3 := K10.out.qlen
          have HB3 := Lib.hid (mgBatch_sep HS9 1 rfl K10.out.g (by omega) (by omega))
          clear HQ hql3
          by_cases hNK : i = K
          case pos =>
            have hz := Z1.out hNK
            rw [hz] at HB3
            have hNKz : ((i : Int) == (K : Int)) = true := by rw [beq_iff_eq]; omega
            clear hz
            go_wp2_with fail
            refine (HB3.out).mono ?_
            rintro e w8 (⟨_, rfl, HS10⟩ | ⟨h0, _⟩)
            case inr => exact absurd h0 (by decide)
            have HB5 := Lib.hid (Below.up HS10.out.old (below_alloc w8 (.cells #[.int .i64 0, .slice none 0 0] 42)))
            go_wp2_with fail
            refine (awake23 _).mono ?_
            rintro e w9 ⟨rfl, hb9⟩
            have HB9 := Lib.hid (Below.up HB5.out hb9)
            clear hb9
            go_wp2
            go_ret
            exact ⟨rfl, HB9.out⟩
          case neg =>
            obtain ⟨y1, y2, y3, y4, y5, y6, y7⟩ := Z2.out (by omega)
            have Y1 := Lib.hid y1
            have Y2 := Lib.hid y2
            have Y3 := Lib.hid y3
            have Y4 := Lib.hid y4
            have Y5 := Lib.hid y5
            have Y6 := Lib.hid y6
            have Y7 := Lib.hid y7
            have hNKz : ((i : Int) == (K : Int)) = false := by rw [beq_eq_false_iff_ne]; omega
            rw [K10.out.nm, show (0 : Int) + 1 = 1 from rfl] at HB3
            clear y1 y2 y3 y4 y5 y6 y7
            go_wp2_with fail
            refine (HB3.out).mono ?_
            rintro e w8 (⟨h0, _⟩ | ⟨_, p8, cp8, rfl, HS10⟩)
            · exact absurd Y1.out h0
            have Y7' : Hid ((dumpV (doneNext (baNext S) 0).vs).length = formN (waitL S)) := Y7.out
            generalize formN (waitL S) = F at *
            have HS11 := Lib.hid (HS10.out.boxM #[.int .i64 1, .slice p8 F cp8] 42)
            go_upto_region 28 with fail
            have HSd := Lib.hid (HS11.out.up (below_drewN (Below.refl (w8.alloc (.cells #[.int .i64 1, .slice p8 F cp8] 42)).heap.size (w8.alloc (.cells #[.int .i64 1, .slice p8 F cp8] 42))) 1))
            have u0 := box_cell HSd.out 5 rfl 0
            have u1 := box_cell HSd.out 5 rfl 1
            change _ = some (Value.int .i64 1) at u0
            change _ = some (Value.slice p8 F cp8) at u1
            have HD3 := Lib.hid (mgDone_sep HSd 1 rfl Y2.out Y3.out (by omega) Y4.out 0)
            rw [Y5.out] at HD3
            clear HB3 HS9 HS10 HS11
            refine wp_regionG (fun W => W.cell? ⟨w8.heap.size, 0, none⟩ = some (.int .i64 1) ∧ W.cell? ⟨w8.heap.size, 1, none⟩ = some (.slice p8 F cp8)) (n := 25) (by kernel_rfl) (by kernel_rfl) ?_
            refine wpG.take 0 (v := ?_) (a' := ?_) rfl (by kernel_rfl) (by kernel_rfl) (by kernel_rfl) (by kernel_rfl) (fun _ _ _ h => h) ?_ ?_ ?_
            rotate_left 2
            · intro W hW
              go_simp
              try with_reducible rfl
            · go_simp
              try with_reducible rfl
            refine wpG.take 1 (v := ?_) (a' := ?_) rfl (by kernel_rfl) (by kernel_rfl) (by kernel_rfl) (by kernel_rfl) (fun _ _ _ h => h) ?_ ?_ ?_
            rotate_left 2
            · intro W hW
              go_simp
              try with_reducible rfl
            · go_simp
              try with_reducible rfl
            refine wpG.take 2 (v := ?_) (a' := ?_) rfl (by kernel_rfl) (by kernel_rfl) (by kernel_rfl) (by kernel_rfl) (fun _ _ _ h => h) ?_ ?_ ?_
            rotate_left 2
            · intro W hW
              go_simp
              try with_reducible rfl
            · go_simp
              try with_reducible rfl
            refine wpG.take 3 (v := ?_) (a' := ?_) rfl (by kernel_rfl) (by kernel_rfl) (by kernel_rfl) (by kernel_rfl) (fun _ _ _ h => h) ?_ ?_ ?_
            rotate_left 2
            · intro W hW
              go_simp
              try with_reducible rfl
            · go_simp
              try with_reducible rfl
            refine wpG.take 4 (v := ?_) (a' := ?_) rfl (by kernel_rfl) (by kernel_rfl) (by kernel_rfl) (by kernel_rfl) (fun _ _ _ h => h) ?_ ?_ ?_
            rotate_left 2
            · intro W hW
              have hld0 := hW.1
              go_simp
              try with_reducible rfl
            · go_simp
              try with_reducible rfl
            refine wpG.take 5 (v := ?_) (a' := ?_) rfl (by kernel_rfl) (by kernel_rfl) (by kernel_rfl) (by kernel_rfl) (fun _ _ _ h => h) ?_ ?_ ?_
            rotate_left 2
            · intro W hW
              go_simp
              try with_reducible rfl
            · go_simp
              try with_reducible rfl
            refine wpG.take 6 (v := ?_) (a' := ?_) rfl (by kernel_rfl) (by kernel_rfl) (by kernel_rfl) (by kernel_rfl) (fun _ _ _ h => h) ?_ ?_ ?_
            rotate_left 2
            · intro W hW
              go_simp
              try with_reducible rfl
            · go_simp
              try with_reducible rfl
            refine wpG.take 7 (v := ?_) (a' := ?_) rfl (by kernel_rfl) (by kernel_rfl) (by kernel_rfl) (by kernel_rfl) (fun _ _ _ h => h) ?_ ?_ ?_
            rotate_left 2
            · intro W hW
              go_simp
              try with_reducible rfl
            · go_simp
              try with_reducible rfl
            refine wpG.take 8 (v := ?_) (a' := ?_) rfl (by kernel_rfl) (by kernel_rfl) (by kernel_rfl) (by kernel_rfl) (fun _ _ _ h => h) ?_ ?_ ?_
            rotate_left 2
            · intro W hW
              go_simp
              try with_reducible rfl
            · go_simp
              try with_reducible rfl
            refine wpG.alone 9 rfl (by kernel_rfl) (by kernel_rfl) (⟨u0, u1⟩) (fun K hK => ?_)
            go_simp
            go_at_call 28
            refine (HD3.out).mono ?_
            rintro e w9 ⟨rfl, HS12⟩
            have v0 := box_cell HS12.out 5 rfl 0
            have v1 := box_cell HS12.out 5 rfl 1
            change _ = some (Value.int .i64 1) at v0
            change _ = some (Value.slice p8 F cp8) at v1
            have HDU2 := Lib.hid (mgDump_sep HS12 1 rfl Y6.out (by omega))
            rw [Y7'.out] at HDU2
            clear HD3 HSd
            try go_simp
            refine hK _ _ ?_
            clear hK K
            refine wpG.take 10 (v := ?_) (a' := ?_) rfl (by kernel_rfl) (by kernel_rfl) (by kernel_rfl) (by kernel_rfl) (fun _ _ _ h => h) ?_ ?_ ?_
            rotate_left 2
            · intro W hW
              go_simp
              try with_reducible rfl
            · go_simp
              try with_reducible rfl
            refine wpG.take 11 (v := ?_) (a' := ?_) rfl (by kernel_rfl) (by kernel_rfl) (by kernel_rfl) (by kernel_rfl) (fun _ _ _ h => h) ?_ ?_ ?_
            rotate_left 2
            · intro W hW
              go_simp
              try with_reducible rfl
            · go_simp
              try with_reducible rfl
            refine wpG.take 12 (v := ?_) (a' := ?_) rfl (by kernel_rfl) (by kernel_rfl) (by kernel_rfl) (by kernel_rfl) (fun _ _ _ h => h) ?_ ?_ ?_
            rotate_left 2
            · intro W hW
              go_simp
              try with_reducible rfl
            · go_simp
              try with_reducible rfl
            refine wpG.take 13 (v := ?_) (a' := ?_) rfl (by kernel_rfl) (by kernel_rfl) (by kernel_rfl) (by kernel_rfl) (fun _ _ _ h => h) ?_ ?_ ?_
            rotate_left 2
            · intro W hW
              go_simp
              try with_reducible rfl
            · go_simp
              try with_reducible rfl
            refine wpG.take 16 (v := ?_) (a' := ?_) rfl (by kernel_rfl) (by kernel_rfl) (by kernel_rfl) (by kernel_rfl) (fun _ _ _ h => h) ?_ ?_ ?_
            rotate_left 2
            · intro W hW
              go_simp
              try with_reducible rfl
            · go_simp
              try with_reducible rfl
            refine wpG.take 17 (v := ?_) (a' := ?_) rfl (by kernel_rfl) (by kernel_rfl) (by kernel_rfl) (by kernel_rfl) (fun _ _ _ h => h) ?_ ?_ ?_
            rotate_left 2
            · intro W hW
              have hld0 := hW.2
              go_simp
              try with_reducible rfl
            · go_simp
              try with_reducible rfl
            refine wpG.take 18 (v := ?_) (a' := ?_) rfl (by kernel_rfl) (by kernel_rfl) (by kernel_rfl) (by kernel_rfl) (fun _ _ _ h => h) ?_ ?_ ?_
            rotate_left 2
            · intro W hW
              go_simp
              try with_reducible rfl
            · go_simp
              try with_reducible rfl
            refine wpG.alone 14 rfl (by kernel_rfl) (by kernel_rfl) (⟨v0, v1⟩) (fun K hK => ?_)
            go_simp
            go_at_call 30
            refine (HDU2.out).mono ?_
            rintro e w10 ⟨p10, c10, rfl, _, HB10⟩
            have HS13 := Lib.hid (HS12.out.up HB10.out)
            have x0 := cell_up HB10.out v0
            have x1 := cell_up HB10.out v1
            try go_simp
            refine hK _ _ ?_
            clear hK K
            refine wpG.take 15 (v := ?_) (a' := ?_) rfl (by kernel_rfl) (by kernel_rfl) (by kernel_rfl) (by kernel_rfl) (fun _ _ _ h => h) ?_ ?_ ?_
            rotate_left 2
            · intro W hW
              go_simp
              try with_reducible rfl
            · go_simp
              try with_reducible rfl
            refine wpG.take 19 (v := ?_) (a' := ?_) rfl (by kernel_rfl) (by kernel_rfl) (by kernel_rfl) (by kernel_rfl) (fun _ _ _ h => h) ?_ ?_ ?_
            rotate_left 2
            · intro W hW
              go_simp
              try with_reducible rfl
            · go_simp
              try with_reducible rfl
            refine wpG.take 20 (v := ?_) (a' := ?_) rfl (by kernel_rfl) (by kernel_rfl) (by kernel_rfl) (by kernel_rfl) (fun _ _ _ h => h) ?_ ?_ ?_
            rotate_left 2
            · intro W hW
              go_simp
              try with_reducible rfl
            · go_simp
              try with_reducible rfl
            refine wpG.take 21 (v := ?_) (a' := ?_) rfl (by kernel_rfl) (by kernel_rfl) (by kernel_rfl) (by kernel_rfl) (fun _ _ _ h => h) ?_ ?_ ?_
            rotate_left 2
            · intro W hW
              go_simp
              try with_reducible rfl
            · go_simp
              try with_reducible rfl
            refine wpG.alone 22 rfl (by kernel_rfl) (by kernel_rfl) (⟨x0, x1⟩) (fun K hK => ?_)
            go_simp
            go_at_call 17
            refine (awake23 _).mono ?_
            rintro e w11 ⟨rfl, hb11⟩
            have HB11 := Lib.hid (Below.up HS13.out.old hb11)
            have y0 := cell_up hb11 x0
            have y1 := cell_up hb11 x1
            clear hb11
            try go_simp
            refine hK _ _ ?_
            clear hK K
            refine wpG.take 23 (v := ?_) (a' := ?_) rfl (by kernel_rfl) (by kernel_rfl) (by kernel_rfl) (by kernel_rfl) (fun _ _ _ h => h) ?_ ?_ ?_
            rotate_left 2
            · intro W hW
              go_simp
              try with_reducible rfl
            · go_simp
              try with_reducible rfl
            refine wpG.take 24 (v := ?_) (a' := ?_) rfl (by kernel_rfl) (by kernel_rfl) (by kernel_rfl) (by kernel_rfl) (fun _ _ _ h => h) ?_ ?_ ?_
            rotate_left 2
            · intro W hW
              go_simp
              try with_reducible rfl
            · go_simp
              try with_reducible rfl
            refine wpG.done (by kernel_rfl) ⟨y0, y1⟩ ?_
            go_wp2
            go_ret
            exact ⟨rfl, HB11.out⟩
end Go.Proofs
