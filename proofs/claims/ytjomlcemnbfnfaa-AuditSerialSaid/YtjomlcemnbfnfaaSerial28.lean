/- AuditSerial: the walk: for every input the law returns true. -/
import Derived.Test.YtjomlcemnbfnfaaSerial28P
import Derived.Test.YtjomlcemnbfnfaaPrefWalk28
namespace Sc
open Go Go.RowKit
theorem Sep.box28 {W w : World} {L : List Asn} (h : Sep W L w) (cs : Array Value) (T : TypeId) : Sep W (L ++ [BoxA w.heap.size cs T]) (w.alloc (.cells cs T (0, 0))) :=
  h.new (below_alloc w _) (BoxA w.heap.size cs T) (F := New w (w.alloc (.cells cs T (0, 0)))) (fun _ h => h) ⟨⟨Nat.le_refl _, by simp⟩, heap_alloc_new w _⟩
end Sc
namespace Go.Proofs
open Go.RowKit Sc Go.Sort

theorem serial_ok {n : Nat} {l : List Hist} (h0 : (checkRes n l).2 = 0) : ∀ p ∈ ordP l, runCode n p = 0 := replay_ok.1 (may_replay (checkRes_zero h0).1)
set_option maxRecDepth 100000 in
set_option maxHeartbeats 4000000 in
theorem serial28_any (blocks : Int) (vl : Value) (l : List Hist) (w : World) (hl : HistsAt (Old w) w vl l) :
    Calls Try.prog 10 #[.int .i64 blocks, vl] w (Tru w) := by
  have hl0 := hl
  obtain ⟨lp, lc, rfl, hll1, hll2, -⟩ := hl0
  obtain ⟨lb, lo, hC⟩ := SlAt.one (E := histE (Old w)) (k := 7) hl
  have HL := Lib.hid hl
  have HC := Lib.hid hC
  clear hl hC
  go_enter Try.func10, Try.ntmps10
  go_wp2_with fail
  refine (small28_any (Old w) _ l _ (fun k hk => hk) HL.out).mono ?_
  rintro e w1 ⟨q, rfl, hq, hb1⟩
  have hS1 := (Sep.start w).up hb1
  have hl1 := HistsAt.up HL.out hb1
  have hG1 : Dom (Old w) w1 := fun k hk => Nat.lt_of_lt_of_le hk hb1.size
  have HQ := Lib.hid hq
  have HB1 := Lib.hid hb1
  have HS1 := Lib.hid hS1
  have HL1 := Lib.hid hl1
  have HG1 := Lib.hid hG1
  clear hq hb1 hS1 hl1 hG1
  cases q with
  | false =>
    go_wp2_with fail
    refine (awake28 _).mono ?_
    rintro e w2 ⟨rfl, hb2⟩
    have hS2 := HS1.out.up hb2
    have HS2 := Lib.hid hS2
    have HB2 := Lib.hid hb2
    clear hS2 hb2
    go_wp2
    go_ret
    exact ⟨rfl, HS2.out.old⟩
  | true =>
    by_cases h1 : blocks < 1
    case pos =>
      go_wp2_with fail
      refine (awake28 _).mono ?_
      rintro e w2 ⟨rfl, hb2⟩
      have hS2 := HS1.out.up hb2
      have HS2 := Lib.hid hS2
      have HB2 := Lib.hid hb2
      clear hS2 hb2
      go_wp2
      go_ret
      exact ⟨rfl, HS2.out.old⟩
    case neg =>
    by_cases h200 : 200 < blocks
    case pos =>
      go_wp2_with fail
      refine (awake28 _).mono ?_
      rintro e w2 ⟨rfl, hb2⟩
      have hS2 := HS1.out.up hb2
      have HS2 := Lib.hid hS2
      have HB2 := Lib.hid hb2
      clear hS2 hb2
      go_wp2
      go_ret
      exact ⟨rfl, HS2.out.old⟩
    case neg =>
    obtain ⟨n, rfl⟩ := Int.eq_ofNat_of_zero_le (show 0 ≤ blocks by omega)
    have hlen : l.length ≤ 40 := HQ.out rfl
    have hol := ordI_len l
    have hpl := ordP_len l
    have HN1 := Lib.hid (show 1 ≤ n by omega)
    have HN2 := Lib.hid (show n ≤ 200 by omega)
    have HLEN := Lib.hid hlen
    go_wp2_with fail
    refine (check_any (Old w) n _ l _ HG1.out HL1.out (by have := HLEN.out; omega) (by omega)).mono ?_
    rintro e w2 ⟨rfl, hb2⟩
    have HS2 := Lib.hid (HS1.out.up hb2)
    clear hb2
    by_cases hz : (checkRes (n : Int) l).2 = 0
    case neg =>
      have hcz : ((checkRes (n : Int) l).2 != 0) = true := by rw [bne_iff_ne]; exact hz
      generalize (checkRes (n : Int) l).1 = c1 at *
      generalize (checkRes (n : Int) l).2 = c2 at *
      clear hz
      go_wp2_with fail
      refine (awake28 _).mono ?_
      rintro e w3 ⟨rfl, hb3⟩
      have hS3 := HS2.out.up hb3
      have HS3 := Lib.hid hS3
      have HB3 := Lib.hid hb3
      clear hS3 hb3
      go_wp2
      go_ret
      exact ⟨rfl, HS3.out.old⟩
    case pos =>
    have HZ := Lib.hid hz
    have HOKA := Lib.hid (serial_ok hz)
    rw [hz]
    generalize (checkRes (n : Int) l).1 = c1 at *
    clear hz h1 h200
    go_wp2_with fail
    refine (refNew_sep HS2.out n HN1.out (by have := HN2.out; omega)).mono ?_
    rintro e w3 ⟨bm, rfl, HS3⟩
    have HL3 := Lib.hid (HistsAt.up HL.out HS3.out.old)
    have HG3 : Hid (Dom (Old w) w3) := fun k hk => Nat.lt_of_lt_of_le hk HS3.out.old.size
    go_wp2_with fail
    refine (auditOrder_any (Old w) _ l _ HG3.out HL3.out (by have := HLEN.out; omega)).mono ?_
    rintro e w4 ⟨vo, rfl, hvo, hb4⟩
    have hS4 := HS3.out.new hb4 (IntsA vo ((ordI l).map fun i : Nat => (i : Int))) (fun _ h => h) hvo
    have hvo0 := hvo
    obtain ⟨op, oc, rfl, ho1, ho2, -⟩ := hvo0
    rw [List.length_map] at ho1
    rw [List.length_map] at hS4 ⊢
    have HS4 := Lib.hid hS4
    clear hvo hb4 hS4 HL3 HG3
    go_wp2_with fail
    go_loopw [10] (fun i wr => ∃ k : Nat, k ≤ (ordI l).length ∧ i = .int .i64 k ∧ Hid (Sep w [OldA w, RefA (.pointer (some ⟨bm, 0, none⟩)) (refAll (List.replicate n []) ((ordP l).take k)), IntsA (.slice op (ordI l).length oc) ((ordI l).map fun i : Nat => (i : Int))] wr)) (fun i _ => (ordI l).length - (intOf i).toNat)
    case atStart => exact ⟨0, Nat.zero_le _, rfl, HS4⟩
    case round =>
      obtain ⟨i, hi, rfl, HS⟩ := hrel
      clear HS4 HS3 HS2 HS1
      by_cases hil : i < (ordI l).length
      case neg =>
        go_wp2_with fail
        refine (awake28 _).mono ?_
        rintro e w5 ⟨rfl, hb5⟩
        have hS5 := HS.out.up hb5
        have HS5 := Lib.hid hS5
        have HB5 := Lib.hid hb5
        clear hS5 hb5
        go_wp2
        go_ret
        exact ⟨rfl, HS5.out.old⟩
      case pos =>
        obtain ⟨hxl, hpk, hpe⟩ := ordP_get hil
        obtain ⟨ob, oo, rfl, hoc⟩ := ord_cell HS.out 2 rfl hil
        obtain ⟨rfl, hGb, hc0, hc1, hc2, hc3, hc4, hii, ⟨rv, hc5, hrd⟩, pv, hc6, hpd⟩ := HC.out _ hxl
        replace hc0 := cell_up HS.out.old hc0
        replace hc1 := cell_up HS.out.old hc1
        replace hc2 := cell_up HS.out.old hc2
        replace hc3 := cell_up HS.out.old hc3
        replace hc4 := cell_up HS.out.old hc4
        replace hc5 := cell_up HS.out.old hc5
        replace hc6 := cell_up HS.out.old hc6
        have HSR : Hid (∀ r ∈ l[(ordI l)[i]].reads, r.own = false → 0 ≤ r.lba ∧ r.lba < n ∧ (alook (runAll [] ((ordP l).take i)) r.lba).getD zeroB = r.data) := fun r hr ho => serial_read HZ.out hil hxl hr ho
        have HST : Hid (∀ k (hk : k < i) (hy : (ordI l)[k] < l.length), l[(ordI l)[k]].time < l[(ordI l)[i]].time ∧ ¬ (0 < l[(ordI l)[i]].upto ∧ l[(ordI l)[i]].upto < l[(ordI l)[k]].since ∧ l[(ordI l)[k]].begun < l[(ordI l)[i]].time)) := fun k hk hy => serial_time HZ.out hil hk hxl hy
        have hcode : runCode n (ordP l)[i] = 0 := HOKA.out _ (List.getElem_mem hpk)
        have htk := take_snoc (ordP l) i hpk
        rw [hpe] at htk hcode
        have hrd0 := hrd
        have hpd0 := hpd
        obtain ⟨rp, rc, rfl, hr1, hr2, -, hrr⟩ := hrd0
        have hrl := Nat.le_trans hr1 hr2
        obtain ⟨pp, pcx, rfl, hp1, hp2, -⟩ := hpd0
        generalize l[(ordI l)[i]] = h at *
        generalize (ordI l)[i] = x at *
        have hlen2 : (refAll (List.replicate n []) ((ordP l).take i)).length = n := by rw [refAll_len, List.length_replicate]
        have hrelm := (RelM.start n).all_runs (l := (ordP l).take i) (fun p hp => HOKA.out p (List.mem_of_mem_take hp))
        have hxz : (x : Int) < (l.length : Int) := by omega
        have hx0 : ¬ (x : Int) < 0 := by omega
        have hSB := HS.out.box28 #[.int .i64 h.state, .int .i64 h.begun, .int .i64 h.time, .int .i64 h.since, .int .i64 h.upto, .slice rp h.reads.length rc, .slice pp h.puts.length pcx] 45
        have HRR := Lib.hid hrr
        have HTK := Lib.hid htk
        have HLEN2 := Lib.hid hlen2
        have HRELM := Lib.hid hrelm
        have HSB := Lib.hid hSB
        have HPD := Lib.hid hpd
        have HCODE := Lib.hid hcode
        have HII := Lib.hid hii
        clear htk hlen2 hrelm hSB hpd hcode hii
        clear hrd hpe hpk hr1 hr2 hp1 hrr hGb
        go_wp2_with fail
        obtain ⟨W2, rfl⟩ : ∃ W2 : World, W2 = wr := ⟨_, rfl⟩
        go_loopw [12] (fun s12 wr => ∃ q : Nat, q ≤ h.reads.length ∧ s12 = .int .i64 q ∧ Hid (Sep w [OldA w, RefA (.pointer (some ⟨bm, 0, none⟩)) (refAll (List.replicate n []) ((ordP l).take i)), IntsA (.slice (some ⟨ob, oo, none⟩) (ordI l).length oc) ((ordI l).map fun i : Nat => (i : Int)), BoxA W2.heap.size #[.int .i64 h.state, .int .i64 h.begun, .int .i64 h.time, .int .i64 h.since, .int .i64 h.upto, .slice rp h.reads.length rc, .slice pp h.puts.length pcx] 45] wr)) (fun s12 _ => h.reads.length - (intOf s12).toNat)
        case atStart => exact ⟨0, Nat.zero_le _, rfl, HSB⟩
        case round =>
          obtain ⟨q, hq, rfl, HS2⟩ := hrel
          clear HSB
          obtain ⟨FB, hFB, _⟩ := HS2.out.get 3 rfl
          have b5 : wr.cell? ⟨W2.heap.size, 5, none⟩ = some (.slice rp h.reads.length rc) := by rw [cell_row hFB.2]; rfl
          have b6 : wr.cell? ⟨W2.heap.size, 6, none⟩ = some (.slice pp h.puts.length pcx) := by rw [cell_row hFB.2]; rfl
          clear hFB
          by_cases hql : q < h.reads.length
          case pos =>
            obtain ⟨g, o, rfl, _, e0, ei, ⟨dv, e1, hd⟩, e2⟩ := HRR.out q hql
            replace e0 := cell_up HS2.out.old e0
            replace e1 := cell_up HS2.out.old e1
            replace e2 := cell_up HS2.out.old e2
            have HD2 := Lib.hid ((BytesAt.up hd HS2.out.old).mono (fun _ _ => trivial : ∀ q, _ → (fun _ => True) q))
            have HRM := Lib.hid (HSR.out _ (List.getElem_mem hql))
            have hdd := hd
            obtain ⟨dp, dc, rfl, -⟩ := hdd
            generalize h.reads[q] = r at *
            clear hd
            cases hown : r.own with
            | true =>
              rw [hown] at e2
              go_wp2_with fail
              go_roundw
              case rel => exact ⟨q + 1, by omega, by go_num, HS2⟩
              case measure => simp [intOf]; omega
            | false =>
              rw [hown] at e2
              obtain ⟨l0, l1, hdat⟩ := HRM.out hown
              obtain ⟨z, hzz⟩ := Int.eq_ofNat_of_zero_le l0
              have hgt := HRELM.out.get (k := z) (by omega)
              rw [← hzz, hdat] at hgt
              obtain ⟨F1, hF1, hD1⟩ := HS2.out.get 1 rfl
              have hgc := refGet_any F1 _ _ r.lba wr hF1 (by rw [HLEN2.out]; have := HN2.out; omega)
              have HGC : Hid (Calls Try.prog 29 #[.pointer (some ⟨bm, 0, none⟩), .int .i64 r.lba] wr fun e w' => ∃ gv, e = .returned (.tuple #[gv, .int .i64 0]) ∧ Hid (BytesAt (fun _ => True) w' gv r.data) ∧ Hid (Below wr.heap.size wr w')) := by
                refine hgc.mono ?_
                rintro e w' (⟨hbad, _⟩ | ⟨_, gv, rfl, hgv, hb⟩)
                · rw [HLEN2.out] at hbad; omega
                · rw [← hgt] at hgv
                  exact ⟨gv, rfl, hgv.mono fun _ _ => trivial, hb⟩
              clear hgc hF1 hD1 hgt hdat hzz l0 l1
              go_wp2_with fail
              refine (HGC.out).mono ?_
              rintro e w5 ⟨gv, rfl, HGV, HB5⟩
              have HD5 := Lib.hid (BytesAt.up HD2.out HB5.out)
              have HS5 := Lib.hid (HS2.out.up HB5.out)
              have f5 := cell_up HB5.out b5
              have f1 := cell_up HB5.out e1
              clear b5 b6 e1 e0 e2 HGC
              go_wp2_with fail
              refine (bytes_any (fun _ => True) _ _ r.data r.data _ HGV.out HD5.out).mono ?_
              rintro e w6 ⟨rfl, hb6⟩
              rw [show (r.data == r.data) = true by simp]
              have HS6 := Lib.hid (HS5.out.up hb6)
              clear hb6
              go_wp2_with fail
              go_roundw
              case rel => exact ⟨q + 1, by omega, by go_num, HS6⟩
              case measure => simp [intOf]; omega
          case neg =>
            have hrun := refRun_sep (tv := .agg #[.int .i64 0, .slice pp h.puts.length pcx]) HS2.out 1 rfl (by rw [HLEN2.out]; have := HN2.out; omega) ⟨0, h.puts⟩ (fun G hR => by
              obtain ⟨F0, hF0, hO⟩ := hR 0 _ (by decide) rfl
              exact ⟨_, rfl, i64_zero, (PutsAt.up HPD.out HS2.out.old).mono fun q hq => hF0 q (hO.1 q hq)⟩)
            rw [HLEN2.out] at hrun
            have HRUN := Lib.hid hrun
            clear hrun
            go_wp2_with fail
            refine (HRUN.out).mono ?_
            rintro e w5 ⟨rfl, HS5⟩
            have hs5 := HS5.out
            have hcode := HCODE.out
            simp only [hcode, if_true] at hs5 ⊢
            rw [← refAll_snoc, ← HTK.out] at hs5
            have HS6 := Lib.hid hs5
            clear hs5 HS5 HRUN hcode HS2 b5 b6
            go_wp2_with fail
            obtain ⟨W3, rfl⟩ : ∃ W3 : World, W3 = wr := ⟨_, rfl⟩
            go_loopw [15] (fun s15 wr => ∃ k : Nat, k ≤ i ∧ s15 = .int .i64 k ∧ Hid (Sep w [OldA w, RefA (.pointer (some ⟨bm, 0, none⟩)) (refAll (List.replicate n []) ((ordP l).take (i + 1))), IntsA (.slice (some ⟨ob, oo, none⟩) (ordI l).length oc) ((ordI l).map fun i : Nat => (i : Int)), BoxA W2.heap.size #[.int .i64 h.state, .int .i64 h.begun, .int .i64 h.time, .int .i64 h.since, .int .i64 h.upto, .slice rp h.reads.length rc, .slice pp h.puts.length pcx] 45] wr)) (fun s15 _ => i - (intOf s15).toNat)
            case atStart => exact ⟨0, Nat.zero_le _, rfl, HS6⟩
            case round =>
              obtain ⟨k, hk, rfl, HS3⟩ := hrel
              clear HS6
              by_cases hki : k < i
              case neg =>
                have HS7 := Lib.hid (HS3.out.take 3)
                go_wp2_with fail
                go_roundw
                case rel => exact ⟨i + 1, by omega, by go_num, HS7⟩
                case measure => simp [intOf]; omega
              case pos =>
                have hkl : k < (ordI l).length := by omega
                obtain ⟨hyl, _, _⟩ := ordP_get hkl
                obtain ⟨ob2, oo2, he2, hok⟩ := ord_cell HS3.out 2 rfl hkl
                cases he2
                obtain ⟨-, _, _, d1, d2, d3, _, _⟩ := HC.out _ hyl
                replace d1 := cell_up HS3.out.old d1
                replace d2 := cell_up HS3.out.old d2
                replace d3 := cell_up HS3.out.old d3
                obtain ⟨ht, hnn⟩ := HST.out k hki hyl
                generalize l[(ordI l)[k]] = y at *
                generalize (ordI l)[k] = yi at *
                obtain ⟨FB, hFB, _⟩ := HS3.out.get 3 rfl
                have b2 : wr.cell? ⟨W2.heap.size, 2, none⟩ = some (.int .i64 h.time) := by rw [cell_row hFB.2]; rfl
                have b4 : wr.cell? ⟨W2.heap.size, 4, none⟩ = some (.int .i64 h.upto) := by rw [cell_row hFB.2]; rfl
                have hyz : (yi : Int) < (l.length : Int) := by omega
                clear hFB hc0 hc1 hc2 hc3 hc4 hc5 hc6
                generalize h.time = th at *
                generalize h.upto = uh at *
                generalize y.time = ty at *
                generalize y.since = sy at *
                generalize y.begun = by' at *
                have g1 : ¬ th ≤ ty := by omega
                have g1' : decide (th ≤ ty) = false := decide_eq_false g1
                by_cases g2 : 0 < uh
                case neg =>
                  have g2' : decide (0 < uh) = false := decide_eq_false g2
                  clear ht hnn
                  go_wp2_with fail
                  go_quiet (fail)
                  go_wp2_with fail
                  go_roundw
                  case rel => exact ⟨k + 1, by omega, by go_num, HS3.out.up (below_drewN (Below.refl _ _) _)⟩
                  case measure => simp [intOf]; omega
                case pos =>
                  have g2' : decide (0 < uh) = true := decide_eq_true g2
                  by_cases g3 : uh < sy
                  case neg =>
                    have g3' : decide (uh < sy) = false := decide_eq_false g3
                    clear ht hnn
                    go_wp2_with fail
                    go_quiet (fail)
                    go_wp2_with fail
                    go_roundw
                    case rel => exact ⟨k + 1, by omega, by go_num, HS3.out.up (below_drewN (Below.refl _ _) _)⟩
                    case measure => simp [intOf]; omega
                  case pos =>
                    have g3' : decide (uh < sy) = true := decide_eq_true g3
                    have g4 : ¬ by' < th := fun e => hnn ⟨g2, g3, e⟩
                    have g4' : decide (by' < th) = false := decide_eq_false g4
                    clear ht hnn
                    go_wp2_with fail
                    go_quiet (fail)
                    go_wp2_with fail
                    go_roundw
                    case rel => exact ⟨k + 1, by omega, by go_num, HS3.out.up (below_drewN (Below.refl _ _) _)⟩
                    case measure => simp [intOf]; omega
end Go.Proofs
