/- Texts of this claim, one behind the other: RefMap2, RefBuf2, Star, ZoomN. -/
import Derived.Deep.DeepCutAuto
import Derived.Deep.CutRange
import Derived.BigQuiet
import Derived.Test.YtnjidpmggggiiaaRs5

/- The reference's Map: Apply. -/
namespace Go.Proofs
open Go.RowKit Sc
set_option maxRecDepth 100000 in
set_option maxHeartbeats 8000000 in
theorem refMapApply_any (F G : Nat → Prop) (v tv : Value) (blocks last : Int) (L : List RVer) (t : Tx) (w : World) (hm : RMapIs F w v blocks last L) (hd : Dom F w) (hL : L.length ≤ 1000000) (ht : TxAt G w tv t) (hG : Dom G w) (hFG : ∀ k, F k → ¬ G k) (hn : t.puts.length ≤ 1000000) :
    Calls Try.prog 28 #[v, tv] w (RMapSaid F v blocks last L t w) := by
  have HM := Lib.hid hm
  have HDM := Lib.hid hd
  obtain ⟨b, lv, D, rfl, hFb, hh, hO, hg, hD⟩ := hm
  obtain ⟨p, c, rfl, hlc, hcells⟩ := ver_cells hO
  obtain ⟨pv, rfl, hti, hp⟩ := ht
  obtain ⟨pp, pc, rfl, hp1, hp2, hp3, hp4⟩ := hp
  have hba := below_alloc w (.cells #[.int .i64 t.time, .slice pp t.puts.length pc] 49)
  have hnw := heap_alloc_new w (.cells #[.int .i64 t.time, .slice pp t.puts.length pc] 49 (0, 0))
  have HBW := Lib.hid hba
  have z0 : (w.alloc (.cells #[.int .i64 t.time, .slice pp t.puts.length pc] 49 (0, 0))).cell? ⟨w.heap.size, 0, none⟩ = some (.int .i64 t.time) := by rw [cell_row hnw]; rfl
  have z1 : (w.alloc (.cells #[.int .i64 t.time, .slice pp t.puts.length pc] 49 (0, 0))).cell? ⟨w.heap.size, 1, none⟩ = some (.slice pp t.puts.length pc) := by rw [cell_row hnw]; rfl
  have c0 := cell_up hba (show w.cell? ⟨b, 0, none⟩ = some (.int .i64 blocks) by rw [cell_row hh]; rfl)
  have c1 := cell_up hba (show w.cell? ⟨b, 1, none⟩ = some (.slice p L.length c) by rw [cell_row hh]; rfl)
  have c2 := cell_up hba (show w.cell? ⟨b, 2, none⟩ = some (.int .i64 last) by rw [cell_row hh]; rfl)
  have HC := Lib.hid hcells
  have HP4 := Lib.hid hp4
  have HO := Lib.hid hO
  have HGO := Lib.hid hg
  have HDO := Lib.hid hD
  have HHH := Lib.hid hh
  have HTI := Lib.hid hti
  have HFB := Lib.hid hFb
  clear hba hnw hh hO hg hcells hD hp3 hp4 hd hFG hG hti hFb
  generalize hps : t.puts = ps at *
  generalize htm : t.time = tm at *
  by_cases h1 : tm ≤ last
  case pos =>
    have HF := Lib.hid (fun q : Nat => rmap_fail HM.out HDM.out (t := t) (w' := (w.alloc (.cells #[.int .i64 tm, .slice pp ps.length pc] 49 (0, 0))).drewN q) (below_drewN HBW.out q) (code_time (.inl (by rw [htm]; exact h1))) (by decide))
    go_enter Try.func28, Try.ntmps28
    go_wp2_with fail
    go_quiet (fail)
    go_wp2
    go_ret
    exact HF.out _
  case neg =>
  by_cases h2 : 1099511627776 < tm
  case pos =>
    have HF := Lib.hid (fun q : Nat => rmap_fail HM.out HDM.out (t := t) (w' := (w.alloc (.cells #[.int .i64 tm, .slice pp ps.length pc] 49 (0, 0))).drewN q) (below_drewN HBW.out q) (code_time (.inr (by rw [htm]; exact h2))) (by decide))
    go_enter Try.func28, Try.ntmps28
    go_wp2_with fail
    go_quiet (fail)
    go_wp2
    go_ret
    exact HF.out _
  case neg =>
  have HNT : Hid (¬ (t.time ≤ last ∨ 1099511627776 < t.time)) := fun hh => by rw [htm] at hh; omega
  by_cases h0 : ps.length = 0
  case pos =>
    have HF := Lib.hid (fun q : Nat => rmap_fail HM.out HDM.out (t := t) (w' := (w.alloc (.cells #[.int .i64 tm, .slice pp ps.length pc] 49 (0, 0))).drewN q) (below_drewN HBW.out q) (code_none HNT.out (by rw [hps]; exact h0)) (by decide))
    have h0' : ((ps.length : Int) == 0) = true := by rw [beq_iff_eq]; omega
    clear h0
    go_enter Try.func28, Try.ntmps28
    go_wp2_with fail
    go_quiet (fail)
    go_wp2
    go_ret
    exact HF.out _
  case neg =>
    have h0' : ((ps.length : Int) == 0) = false := by rw [beq_eq_false_iff_ne]; omega
    have hBF : ∀ (wr : World) (cc : Int), Below (w.alloc (.cells #[.int .i64 tm, .slice pp ps.length pc] 49 (0, 0))).heap.size (w.alloc (.cells #[.int .i64 tm, .slice pp ps.length pc] 49 (0, 0))) wr → applyCode blocks last t = cc → cc ≠ 0 → RMapSaid F (.pointer (some ⟨b, 0, none⟩)) blocks last L t w (.returned (.int .i64 cc)) wr := fun wr cc hb hc hne => rmap_fail HM.out HDM.out (Below.up HBW.out hb) hc hne
    have HBF := Lib.hid hBF
    have hQ : ∀ (wr : World), Below (w.alloc (.cells #[.int .i64 tm, .slice pp ps.length pc] 49 (0, 0))).heap.size (w.alloc (.cells #[.int .i64 tm, .slice pp ps.length pc] 49 (0, 0))) wr → ∀ k (hk : k < ps.length), ∃ qb qo dv, pp = some ⟨qb, qo, none⟩ ∧ wr.cell? ⟨qb, qo + k * 2, none⟩ = some (.int .i64 ps[k].lba) ∧ I64 ps[k].lba ∧ wr.cell? ⟨qb, qo + k * 2 + 1, none⟩ = some dv ∧ BytesAt (fun _ => True) wr dv ps[k].data := fun wr hb k hk => by
      obtain ⟨qb, qo, e, _, k1, k2, dv, k3, k4⟩ := HP4.out k hk
      have hbb := Below.up HBW.out hb
      exact ⟨qb, qo, dv, e, cell_up hbb k1, k2, cell_up hbb k3, (BytesAt.up k4 hbb).mono fun _ _ => trivial⟩
    have HQ := Lib.hid hQ
    clear hBF hQ
    go_enter Try.func28, Try.ntmps28
    go_wp2_with fail
    go_quiet (fail)
    go_wp2_with fail
    generalize hW0 : w.alloc (.cells #[.int .i64 tm, .slice pp ps.length pc] 49 (0, 0)) = W0 at *
    have HB00 : Hid (Below W0.heap.size W0 (W0.drewN 1)) := below_drewN (Below.refl _ _) 1
    go_loopw [5] (fun s5 wr => ∃ k : Nat, k + 1 ≤ ps.length ∧ s5 = .int .i64 ((k : Int) + 1) ∧ Hid (∀ j (hj : j + 1 < ps.length), j < k → ps[j].lba < ps[j + 1].lba) ∧ Hid (Below W0.heap.size W0 wr)) (fun s5 _ => ps.length - (intOf s5).toNat)
    case atStart => exact ⟨0, by omega, by go_num, fun j _ hj => by omega, below_drewN (Below.refl _ _) _⟩
    case round =>
      obtain ⟨k, hk, rfl, HR, HB⟩ := hrel
      clear HB00
      have y1 := cell_up HB.out z1
      by_cases hkl : k + 1 < ps.length
      case pos =>
        obtain ⟨qb, qo, dv, rfl, q1, i1, _, _⟩ := HQ.out wr HB.out k (by omega)
        obtain ⟨_, _, dv2, e2, q2, i2, _, _⟩ := HQ.out wr HB.out (k + 1) hkl
        cases e2
        have hkl' : (k : Int) + 1 < (ps.length : Int) := by omega
        have hw1 : IntKind.i64.wrap (k : Int) = k := IntWalk.i64_in _ (by omega)
        by_cases hle : ps[k + 1].lba ≤ ps[k].lba
        case pos =>
          have HF := Lib.hid (fun q : Nat => HBF.out (wr.drewN q) 1 (below_drewN HB.out q) (code_rise HNT.out (by subst hps; exact rise_no hkl hle)) (by decide))
          go_wp2_with fail
          go_quiet (fail)
          go_wp2
          go_ret
          exact HF.out _
        case neg =>
          have HR2 : Hid (∀ j (hj : j + 1 < ps.length), j < k + 1 → ps[j].lba < ps[j + 1].lba) := fun j hj hjk => by
            by_cases e : j = k
            · subst e; omega
            · exact HR.out j hj (by omega)
          go_wp2_with fail
          go_quiet (fail)
          go_wp2
          go_roundw
          case rel => exact ⟨k + 1, by omega, by go_num, HR2, below_drewN HB.out _⟩
          case measure => simp [intOf]; omega
      case neg =>
        have hkk : k + 1 = ps.length := by omega
        have HRA : Hid (riseB t.puts = true) := by
          have h := HR.out
          show _ = _
          subst hps
          exact rise_yes (by omega) fun j hj => h j hj (by omega)
        have hkl' : ¬ ((k : Int) + 1 < (ps.length : Int)) := by omega
        obtain ⟨W1, rfl⟩ : ∃ W1 : World, W1 = wr := ⟨_, rfl⟩
        have HB1 := HB
        clear HR hkl hk
        go_wp2_with fail
        clear y1 hkl' hkk HB
        go_loopw [6] (fun s6 wr => ∃ k : Nat, k ≤ ps.length ∧ s6 = .int .i64 (k : Int) ∧ Hid (∀ j (hj : j < ps.length), j < k → 0 ≤ ps[j].lba ∧ ps[j].lba < blocks) ∧ Hid (Below W0.heap.size W0 wr)) (fun s6 _ => ps.length - (intOf s6).toNat)
        case atStart => exact ⟨0, by omega, by go_num, fun j _ hj => by omega, HB1⟩
        case round =>
          clear HB1
          obtain ⟨k, hk, rfl, HR, HB⟩ := hrel
          have y1 := cell_up HB.out z1
          have y0 := cell_up HB.out c0
          by_cases hkl : k < ps.length
          case pos =>
            obtain ⟨qb, qo, dv, rfl, q1, i1, _, _⟩ := HQ.out wr HB.out k hkl
            have hkl' : (k : Int) < (ps.length : Int) := by omega
            by_cases hn0 : ps[k].lba < 0
            case pos =>
              have HF := Lib.hid (fun q : Nat => HBF.out (wr.drewN q) 2 (below_drewN HB.out q) (by subst hps; exact code_out HNT.out HRA.out hkl (.inl hn0)) (by decide))
              go_wp2_with fail
              go_quiet (fail)
              go_wp2
              go_ret
              exact HF.out _
            case neg =>
            by_cases hn1 : blocks ≤ ps[k].lba
            case pos =>
              have HF := Lib.hid (fun q : Nat => HBF.out (wr.drewN q) 2 (below_drewN HB.out q) (by subst hps; exact code_out HNT.out HRA.out hkl (.inr hn1)) (by decide))
              go_wp2_with fail
              go_quiet (fail)
              go_wp2
              go_ret
              exact HF.out _
            case neg =>
              have HR2 : Hid (∀ j (hj : j < ps.length), j < k + 1 → 0 ≤ ps[j].lba ∧ ps[j].lba < blocks) := fun j hj hjk => by
                by_cases e : j = k
                · subst e; omega
                · exact HR.out j hj (by omega)
              go_wp2_with fail
              go_quiet (fail)
              go_wp2
              go_roundw
              case rel => exact ⟨k + 1, by omega, by go_num, HR2, below_drewN HB.out _⟩
              case measure => simp [intOf]; omega
          case neg =>
            obtain rfl : k = ps.length := by omega
            have HIN : Hid (∀ j (hj : j < ps.length), 0 ≤ ps[j].lba ∧ ps[j].lba < blocks) := fun j hj => HR.out j hj hj
            obtain ⟨W2, rfl⟩ : ∃ W2 : World, W2 = wr := ⟨_, rfl⟩
            have HB1 := HB
            clear HR hkl hk
            go_wp2_with fail
            clear y1 y0 HB
            go_loopw [7] (fun s7 wr => ∃ k : Nat, k ≤ ps.length ∧ s7 = .int .i64 (k : Int) ∧ Hid (∀ j (hj : j < ps.length), j < k → ps[j].data.length = 40) ∧ Hid (Below W0.heap.size W0 wr)) (fun s7 _ => ps.length - (intOf s7).toNat)
            case atStart => exact ⟨0, by omega, by go_num, fun j _ hj => by omega, HB1⟩
            case round =>
              clear HB1
              obtain ⟨k, hk, rfl, HR, HB⟩ := hrel
              have y1 := cell_up HB.out z1
              by_cases hkl : k < ps.length
              case pos =>
                obtain ⟨qb, qo, dv, rfl, _, _, q2, q3⟩ := HQ.out wr HB.out k hkl
                obtain ⟨dp, dc, rfl⟩ : ∃ dp dc, dv = .slice dp ps[k].data.length dc := by obtain ⟨dp, dc, e, _⟩ := q3; exact ⟨dp, dc, e⟩
                clear q3
                have hkl' : (k : Int) < (ps.length : Int) := by omega
                by_cases hn0 : ps[k].data.length = 40
                case neg =>
                  have HF := Lib.hid (HBF.out wr 3 HB.out (by subst hps; exact code_len HNT.out HRA.out HIN.out hkl hn0) (by decide))
                  have hn0' : ((ps[k].data.length : Int) == 40) = false := by rw [beq_eq_false_iff_ne]; omega
                  clear hn0
                  go_wp2
                  go_ret
                  exact HF.out
                case pos =>
                  have HR2 : Hid (∀ j (hj : j < ps.length), j < k + 1 → ps[j].data.length = 40) := fun j hj hjk => by
                    by_cases e : j = k
                    · subst e; omega
                    · exact HR.out j hj (by omega)
                  rw [hn0] at q2
                  clear hn0
                  go_wp2
                  go_roundw
                  case rel => exact ⟨k + 1, by omega, by go_num, HR2, HB⟩
                  case measure => simp [intOf]; omega
              case neg =>
                obtain rfl : k = ps.length := by omega
                have HLEN : Hid (∀ j (hj : j < ps.length), ps[j].data.length = 40) := fun j hj => HR.out j hj hj
                obtain ⟨W3, rfl⟩ : ∃ W3 : World, W3 = wr := ⟨_, rfl⟩
                have HB1 := HB
                clear HR hkl hk
                go_wp2_with fail
                have hDD : ∀ q, D q → q < W0.heap.size := fun q hq => Nat.lt_of_lt_of_le (HDM.out q (HDO.out q hq).1) HBW.out.size
                have HDD := Lib.hid hDD
                clear hDD
                have HML : Hid ((mergeV tm ps L).length = L.length + ps.length) := merge_len _ _ _
                have HHC : Hid (∀ i (hi : i < L.length), ∃ g dv, p = some ⟨g, 0, none⟩ ∧ W0.cell? ⟨g, i * 3, none⟩ = some (.int .i64 L[i].lba) ∧ W0.cell? ⟨g, i * 3 + 1, none⟩ = some (.int .i64 L[i].time) ∧ W0.cell? ⟨g, i * 3 + 2, none⟩ = some dv ∧ I64 L[i].lba ∧ I64 L[i].time ∧ BytesAt D W0 dv L[i].data) := fun i hi => by
                  obtain ⟨g, dv, e, k1, k2, k3, k4, k5, k6⟩ := HC.out i hi
                  exact ⟨g, dv, e, cell_up HBW.out k1, cell_up HBW.out k2, cell_up HBW.out k3, k4, k5, BytesAt.up k6 HBW.out⟩
                clear HC
                go_loopw [8, 9, 10] (fun s8 s9 s10 wr => ∃ k i : Nat, ∃ nl op oc, k ≤ ps.length ∧ i ≤ L.length + 1 ∧ s9 = .int .i64 (k : Int) ∧ s10 = .int .i64 (i : Int) ∧ s8 = .slice op nl.length oc ∧ Hid (i = L.length + 1 → k = ps.length) ∧ Hid (nl ++ mergeV tm (ps.drop k) (L.drop i) = mergeV tm ps L) ∧ Hid (NlIs W0.heap.size wr D (.slice op nl.length oc) nl) ∧ Hid (Below W0.heap.size W0 wr)) (fun _ _ s10 _ => L.length + 1 - (intOf s10).toNat)
                case atStart => exact ⟨0, 0, [], _, _, by omega, by omega, by go_num, by go_num, rfl, fun h => by omega, rfl, NlIs.nil, HB1⟩
                case round =>
                  clear HB1
                  obtain ⟨k, i, nl, op, oc, hk, hi, rfl, rfl, rfl, HE, HM2, HN, HB⟩ := hrel
                  have y1 := cell_up HB.out c1
                  by_cases hil : i ≤ L.length
                  case neg =>
                    obtain rfl : i = L.length + 1 := by omega
                    obtain rfl : k = ps.length := HE.out rfl
                    have hM : nl = mergeV t.time t.puts L := by
                      have h := HM2.out
                      rw [List.drop_length, List.drop_eq_nil_of_le (by omega)] at h
                      rw [hps, htm, ← h]
                      show nl = nl ++ []
                      rw [List.append_nil]
                    have hf := rmap_done HFB.out HDM.out HHH.out HDO.out HBW.out HB.out HN.out (code_ok HNT.out HRA.out (by subst hps; exact HIN.out) (by subst hps; exact HLEN.out)) hM
                    rw [htm] at hf
                    have HF := Lib.hid hf
                    have hbne : w.heap.size ≠ b := by have := HDM.out b HFB.out; omega
                    have y0 : (wr.setCell ⟨b, 1, none⟩ (.slice op nl.length oc)).cell? ⟨w.heap.size, 0, none⟩ = some (.int .i64 tm) := (World.cell?_of_block (Below.heap_setCell _ _ _ _ hbne)).trans (cell_up HB.out z0)
                    have hhr : wr.heap[b]? = some (.cells #[.int .i64 blocks, .slice p L.length c, .int .i64 last] 127 (0, 0)) := ((Below.up HBW.out HB.out).block b (HDM.out b HFB.out)).trans HHH.out
                    have hh2 := heap_set_same (i := 1) hhr (.slice op nl.length oc)
                    have f1 := fz_row hhr 1
                    have f2 := fz_row hh2 2
                    have y2 : (wr.setCell ⟨b, 1, none⟩ (.slice op nl.length oc)).cell? ⟨b, 2, none⟩ = some (.int .i64 last) := by rw [cell_row hh2]; rfl
                    clear hf hM hbne HM2 HE hk hi hhr hh2
                    go_wp2
                    go_ret
                    exact HF.out
                  case pos =>
                    have hil' : (i : Int) ≤ (L.length : Int) := by omega
                    obtain ⟨W4, rfl⟩ : ∃ W4 : World, W4 = wr := ⟨_, rfl⟩
                    have HB1 := HB
                    clear HE HB
                    go_wp2_with fail
                    clear y1
                    go_loopw [8, 9] (fun s8 s9 wr => ∃ k : Nat, ∃ nl op oc, k ≤ ps.length ∧ s9 = .int .i64 (k : Int) ∧ s8 = .slice op nl.length oc ∧ Hid (nl ++ mergeV tm (ps.drop k) (L.drop i) = mergeV tm ps L) ∧ Hid (NlIs W0.heap.size wr D (.slice op nl.length oc) nl) ∧ Hid (Below W0.heap.size W0 wr)) (fun _ s9 _ => ps.length - (intOf s9).toNat)
                    case atStart => exact ⟨k, nl, _, _, hk, by go_num, rfl, HM2, HN, HB1⟩
                    case round =>
                      clear HB1 HM2 HN hk
                      obtain ⟨k, nl, op, oc, hk, rfl, rfl, HM2, HN, HB⟩ := hrel
                      have y1 := cell_up HB.out c1
                      have x1 := cell_up HB.out z1
                      have hnl : nl.length ≤ 2000000 := by
                        have h := congrArg List.length HM2.out
                        rw [List.length_append, HML.out] at h
                        omega
                      by_cases hkl : k < ps.length
                      case neg =>
                        have hkl' : ¬ ((k : Int) < (ps.length : Int)) := by omega
                        obtain rfl : k = ps.length := by omega
                        by_cases hie : i = L.length
                        case pos =>
                          subst hie
                          clear hkl hk hi hil hil'

                          have HBR := Lib.hid (fun q => below_drewN HB.out q)
                          have HNR := Lib.hid (fun q => NlIs.up HN.out (below_drewN (Below.refl wr.heap.size wr) q))
                          have hm3 : nl ++ mergeV tm (ps.drop ps.length) (L.drop (L.length + 1)) = mergeV tm ps L := by
                            have h := HM2.out
                            rw [List.drop_length (l := L)] at h
                            rw [List.drop_eq_nil_of_le (by omega : L.length ≤ L.length + 1)]
                            exact h
                          have HM3 := Lib.hid hm3
                          clear hm3
                          clear HB HN
                          go_wp2_with fail
                          go_quiet (fail)
                          go_wp2_with fail
                          go_roundw
                          case rel => exact ⟨ps.length, L.length + 1, nl, _, _, by omega, by omega, by go_num, by go_num, rfl, fun _ => rfl, HM3, HNR.out _, HBR.out _⟩
                          case measure => simp [intOf]
                        case neg =>
                          have hil2 : i < L.length := by omega
                          have hil3 : (i : Int) < (L.length : Int) := by omega
                          have HOR : Hid (ps.length = ps.length ∨ ∃ hk : ps.length < ps.length, ¬ ps[ps.length].lba < L[i].lba) := .inl rfl
                          clear hkl hk

                          have hst : mergeV tm (ps.drop ps.length) (L.drop i) = L[i] :: mergeV tm (ps.drop ps.length) (L.drop (i + 1)) := step_old hil2 HOR.out
                          have hm3 : (nl ++ [L[i]]) ++ mergeV tm (ps.drop ps.length) (L.drop (i + 1)) = mergeV tm ps L := by
                            have h := HM2.out
                            rw [hst] at h
                            rw [List.append_assoc]
                            exact h
                          have HM3 := Lib.hid hm3
                          clear hm3
                          have HBR := Lib.hid (fun q => below_drewN HB.out q)
                          have HNR := Lib.hid (fun q => NlIs.up HN.out (below_drewN (Below.refl wr.heap.size wr) q))
                          clear hst HM2 HOR
                          go_wp2_with fail
                          go_quiet (fail)
                          have hbq := HBR.out nq
                          have hnq := HNR.out nq
                          have HBQ := Lib.hid hbq
                          have HNQ := Lib.hid hnq
                          clear hbq hnq
                          clear HBR HNR HB HN
                          generalize wr.drewN nq = wq at *
                          obtain ⟨g1, vv1, e1, k0, k1, k2, kk1, kk2, kk3⟩ := HHC.out i hil2
                          subst e1
                          obtain ⟨dp, dc, rfl⟩ : ∃ dp dc, vv1 = .slice dp L[i].data.length dc := by obtain ⟨dp, dc, e, _⟩ := kk3; exact ⟨dp, dc, e⟩
                          have v0 := cell_up HBQ.out k0
                          have v1 := cell_up HBQ.out k1
                          have v2 := cell_up HBQ.out k2
                          have y1 := cell_up HBQ.out c1
                          have hzq := HBQ.out.size
                          generalize hx : L[i] = x at *
                          have hba := below_alloc wq (.cells #[.int .i64 x.lba, .int .i64 x.time, .slice dp x.data.length dc] 129)
                          have hA4 := Below.up HBQ.out hba
                          have hby4 := BytesAt.up kk3 hA4
                          have hvo : ∀ g, (Value.slice op nl.length oc).ownBlock = some g → W0.heap.size ≤ g := fun g hg => by
                            obtain ⟨_, _, h2, _⟩ := HNQ.out
                            exact h2 g hg
                          obtain ⟨gg, cap, w6, hr6, hN6, hB6⟩ := nl_push (HNQ.out.up hba) (B := W0.heap.size) hA4.size (cs := [.int .i64 x.lba, .int .i64 x.time, .slice dp x.data.length dc]) (x := x) (D3 := D) rfl ⟨_, rfl, kk1, kk2, hby4⟩ (fun q hq => ⟨by have := HDD.out q hq; have := hba.size; omega, fun e => by have := hvo q e; have := HDD.out q hq; omega, .inl hq⟩) ⟨wq.heap.size, 0, none⟩ 1 (World.news_of_block (cs := #[.int .i64 x.lba, .int .i64 x.time, .slice dp x.data.length dc]) (heap_alloc_new wq _)) (by simp [Value.oneCell']) (by omega)
                          have hA6 := Below.trans hA4 hB6.out
                          have HA6 := Lib.hid hA6
                          have hlen : (nl ++ [x]).length = nl.length + 1 := by simp
                          clear hba hA4 hby4 hvo hA6 hB6 kk1 kk2 kk3 k0 k1 k2
                          go_wp2_with (at_builtin; refine wpList_append_run rfl (.tmp 159) (.tmp 167) 125 rfl rfl rfl hr6 ?_)
                          go_roundw
                          case rel => exact ⟨ps.length, i + 1, nl ++ [x], _, _, by omega, by omega, by go_num, by go_num, by rw [hlen], fun h => by omega, HM3, by rw [hlen]; exact hN6, HA6⟩
                          case measure => simp [intOf]; omega
                      case pos =>
                        have hkl' : (k : Int) < (ps.length : Int) := by omega
                        by_cases hie : i = L.length
                        case pos =>
                          subst hie
                          have hie' : ((L.length : Int) == (L.length : Int)) = true := by rw [beq_iff_eq]
                          have HST : Hid (mergeV tm (ps.drop k) (L.drop L.length) = mkV tm ps[k] :: mergeV tm (ps.drop (k + 1)) (L.drop L.length)) := step_put hkl (.inl rfl)

                          have HBR := Lib.hid (fun q => below_drewN HB.out q)
                          have HNR := Lib.hid (fun q => NlIs.up HN.out (below_drewN (Below.refl wr.heap.size wr) q))
                          go_wp2_with fail
                          go_quiet (fail)
                          go_wp2_with fail
                          have hbq := HBR.out nq
                          have hnq := HNR.out nq
                          have HBQ := Lib.hid hbq
                          have HNQ := Lib.hid hnq
                          clear hbq hnq
                          clear HBR HNR HB HN x1 y1
                          generalize wr.drewN nq = wq at *
                          obtain ⟨qb1, qo1, dv1, e1, q1, i1, q2, q3⟩ := HQ.out W0 (Below.refl _ _) k hkl
                          subst e1
                          obtain ⟨dp, dc, rfl⟩ : ∃ dp dc, dv1 = .slice dp ps[k].data.length dc := by obtain ⟨dp, dc, e, _⟩ := q3; exact ⟨dp, dc, e⟩
                          have HL40 : Hid (ps[k].data.length = 40) := HLEN.out k hkl
                          have HQ3 := Lib.hid q3
                          have HI1 := Lib.hid i1
                          clear q3 i1
                          generalize hx : ps[k] = x at *
                          refine wp_regionG (fun W => Below W0.heap.size W0 W) (n := 21) (by kernel_rfl) (by kernel_rfl) ?_
                          refine wpG.take 0 (v := ?_) (a' := ?_) rfl (by kernel_rfl) (by kernel_rfl) (by kernel_rfl) (by kernel_rfl) (fun _ _ _ h => h) ?_ ?_ ?_
                          rotate_left 2
                          · intro W hW
                            go_simp
                            try with_reducible rfl
                          · go_simp
                            try with_reducible rfl
                          refine wpG.take 1 (v := ?_) (a' := ?_) rfl (by kernel_rfl) (by kernel_rfl) (by kernel_rfl) (by kernel_rfl) (fun _ _ _ h => h) ?_ ?_ ?_
                          rotate_left 2
                          · intro W hW
                            go_simp
                            try with_reducible rfl
                          · go_simp
                            try with_reducible rfl
                          refine wpG.take 2 (v := ?_) (a' := ?_) rfl (by kernel_rfl) (by kernel_rfl) (by kernel_rfl) (by kernel_rfl) (fun _ _ _ h => h) ?_ ?_ ?_
                          rotate_left 2
                          · intro W hW
                            have hld0 := cell_up hW z1
                            go_simp
                            try with_reducible rfl
                          · go_simp
                            try with_reducible rfl
                          refine wpG.take 3 (v := ?_) (a' := ?_) rfl (by kernel_rfl) (by kernel_rfl) (by kernel_rfl) (by kernel_rfl) (fun _ _ _ h => h) ?_ ?_ ?_
                          rotate_left 2
                          · intro W hW
                            go_simp
                            try with_reducible rfl
                          · go_simp
                            try with_reducible rfl
                          refine wpG.take 4 (v := ?_) (a' := ?_) rfl (by kernel_rfl) (by kernel_rfl) (by kernel_rfl) (by kernel_rfl) (fun _ _ _ h => h) ?_ ?_ ?_
                          rotate_left 2
                          · intro W hW
                            go_simp
                            try with_reducible rfl
                          · go_simp
                            try with_reducible rfl
                          refine wpG.take 5 (v := ?_) (a' := ?_) rfl (by kernel_rfl) (by kernel_rfl) (by kernel_rfl) (by kernel_rfl) (fun _ _ _ h => h) ?_ ?_ ?_
                          rotate_left 2
                          · intro W hW
                            go_simp
                            try with_reducible rfl
                          · go_simp
                            try with_reducible rfl
                          refine wpG.take 6 (v := ?_) (a' := ?_) rfl (by kernel_rfl) (by kernel_rfl) (by kernel_rfl) (by kernel_rfl) (fun _ _ _ h => h) ?_ ?_ ?_
                          rotate_left 2
                          · intro W hW
                            have hld0 := cell_up hW q1
                            go_simp
                            try with_reducible rfl
                          · go_simp
                            try with_reducible rfl
                          refine wpG.take 7 (v := ?_) (a' := ?_) rfl (by kernel_rfl) (by kernel_rfl) (by kernel_rfl) (by kernel_rfl) (fun _ _ _ h => h) ?_ ?_ ?_
                          rotate_left 2
                          · intro W hW
                            go_simp
                            try with_reducible rfl
                          · go_simp
                            try with_reducible rfl
                          refine wpG.take 8 (v := ?_) (a' := ?_) rfl (by kernel_rfl) (by kernel_rfl) (by kernel_rfl) (by kernel_rfl) (fun _ _ _ h => h) ?_ ?_ ?_
                          rotate_left 2
                          · intro W hW
                            have hld0 := cell_up hW z0
                            go_simp
                            try with_reducible rfl
                          · go_simp
                            try with_reducible rfl
                          refine wpG.take 10 (v := ?_) (a' := ?_) rfl (by kernel_rfl) (by kernel_rfl) (by kernel_rfl) (by kernel_rfl) (fun _ _ _ h => h) ?_ ?_ ?_
                          rotate_left 2
                          · intro W hW
                            go_simp
                            try with_reducible rfl
                          · go_simp
                            try with_reducible rfl
                          refine wpG.take 11 (v := ?_) (a' := ?_) rfl (by kernel_rfl) (by kernel_rfl) (by kernel_rfl) (by kernel_rfl) (fun _ _ _ h => h) ?_ ?_ ?_
                          rotate_left 2
                          · intro W hW
                            have hld0 := cell_up hW z1
                            go_simp
                            try with_reducible rfl
                          · go_simp
                            try with_reducible rfl
                          refine wpG.take 12 (v := ?_) (a' := ?_) rfl (by kernel_rfl) (by kernel_rfl) (by kernel_rfl) (by kernel_rfl) (fun _ _ _ h => h) ?_ ?_ ?_
                          rotate_left 2
                          · intro W hW
                            go_simp
                            try with_reducible rfl
                          · go_simp
                            try with_reducible rfl
                          refine wpG.take 13 (v := ?_) (a' := ?_) rfl (by kernel_rfl) (by kernel_rfl) (by kernel_rfl) (by kernel_rfl) (fun _ _ _ h => h) ?_ ?_ ?_
                          rotate_left 2
                          · intro W hW
                            go_simp
                            try with_reducible rfl
                          · go_simp
                            try with_reducible rfl
                          refine wpG.take 14 (v := ?_) (a' := ?_) rfl (by kernel_rfl) (by kernel_rfl) (by kernel_rfl) (by kernel_rfl) (fun _ _ _ h => h) ?_ ?_ ?_
                          rotate_left 2
                          · intro W hW
                            go_simp
                            try with_reducible rfl
                          · go_simp
                            try with_reducible rfl
                          refine wpG.take 15 (v := ?_) (a' := ?_) rfl (by kernel_rfl) (by kernel_rfl) (by kernel_rfl) (by kernel_rfl) (fun _ _ _ h => h) ?_ ?_ ?_
                          rotate_left 2
                          · intro W hW
                            have hld0 := cell_up hW q2
                            go_simp
                            try with_reducible rfl
                          · go_simp
                            try with_reducible rfl
                          have hG0 : Below W0.heap.size W0 wq.drew := below_drewN HBQ.out 1
                          refine wpG.alone 9 rfl (by kernel_rfl) (by kernel_rfl) hG0 (fun K hK => ?_)
                          go_simp
                          try go_simp
                          refine hK _ _ ?_
                          clear hK K
                          have hA1 : Below W0.heap.size W0 (wq.alloc (.cells #[] 5)).drew := below_drewN (Below.up HBQ.out (below_alloc wq _)) 1
                          have hz1 : (wq.alloc (.cells #[] 5)).drew.heap.size = wq.heap.size + 1 := by simp
                          have hz2 : wq.heap.size ≤ (wq.alloc (.cells #[] 5)).drew.heap.size := by omega
                          obtain ⟨dp1, dc1, w3, hr3, ho3, hg3⟩ := bytes_pushM (BytesAt.up HQ3.out hA1) (by have := HL40.out; omega) (B := wq.heap.size) (k := wq.heap.size) (owns_empty wq _ _) hz2
                          have hzq := HBQ.out.size
                          have hA2 : Below wq.heap.size wq w3 := (below_drewN (below_alloc wq (.cells #[] 5)) 1).grown hg3.out hz2 (fun b e => by cases e; exact Nat.le_refl _)
                          have hA3 := Below.up HBQ.out hA2
                          refine wpG.alone 16 rfl (by kernel_rfl) (by kernel_rfl) hA1 (fun K hK => ?_)
                          refine wp_append_run (v := .slice (some ⟨wq.heap.size, 0, none⟩) 0 0) (u := .slice dp x.data.length dc) (.tmp 139) (.tmp 145) 26 rfl ?_ ?_ hr3 ?_
                          · go_simp
                          · go_simp
                          try go_simp
                          refine hK _ _ ?_
                          clear hK K
                          refine wpG.take 17 (v := ?_) (a' := ?_) rfl (by kernel_rfl) (by kernel_rfl) (by kernel_rfl) (by kernel_rfl) (fun _ _ _ h => h) ?_ ?_ ?_
                          rotate_left 2
                          · intro W hW
                            go_simp
                            try with_reducible rfl
                          · go_simp
                            try with_reducible rfl
                          refine wpG.alone 18 rfl (by kernel_rfl) (by kernel_rfl) hA3 (fun K hK => ?_)
                          go_simp
                          have hba := below_alloc w3 (.cells #[.int .i64 x.lba, .int .i64 tm, .slice dp1 x.data.length dc1] 129)
                          have hA4 := Below.up hA3 hba
                          have hby : BytesAt (fun q => wq.heap.size ≤ q ∧ q < w3.heap.size) w3 (.slice dp1 x.data.length dc1) x.data := bytesAt_own _ rfl (fun q h1 h2 => ⟨h1, h2⟩) ho3.out
                          have hby4 := BytesAt.up hby hba
                          have howl : ∀ g, (Value.slice op nl.length oc).ownBlock = some g → g < wq.heap.size := fun g hg => by
                            obtain ⟨_, h1, _, _⟩ := HNQ.out
                            exact (h1.own.choose_spec.lt g hg).2
                          obtain ⟨gg, cap, w6, hr6, hN6, hB6⟩ := nl_push ((HNQ.out.up hA2).up hba) (B := W0.heap.size) hA4.size (cs := [.int .i64 x.lba, .int .i64 tm, .slice dp1 x.data.length dc1]) (x := mkV tm x) (D3 := fun q => wq.heap.size ≤ q ∧ q < w3.heap.size) rfl ⟨_, rfl, HI1.out, HTI.out, hby4⟩ (fun q hq => ⟨Nat.lt_of_lt_of_le hq.2 hba.size, fun e => by have := howl q e; omega, .inr (by omega)⟩) ⟨w3.heap.size, 0, none⟩ 1 (World.news_of_block (cs := #[.int .i64 x.lba, .int .i64 tm, .slice dp1 x.data.length dc1]) (heap_alloc_new w3 _)) (by simp [Value.oneCell']) (by omega)
                          have hA6 := Below.trans hA4 hB6.out
                          clear hba hby hby4 howl hg3 ho3 hA2 hz1 hz2 hzq hr3
                          try go_simp
                          refine hK _ _ ?_
                          clear hK K
                          refine wpG.alone 19 rfl (by kernel_rfl) (by kernel_rfl) hA4 (fun K hK => ?_)
                          refine wp_append_run (v := .slice op nl.length oc) (u := .slice (some ⟨w3.heap.size, 0, none⟩) 1 1) (.tmp 130) (.tmp 148) 125 rfl ?_ ?_ hr6 ?_
                          · go_simp
                          · go_simp
                          try go_simp
                          refine hK _ _ ?_
                          clear hK K
                          refine wpG.take 20 (v := ?_) (a' := ?_) rfl (by kernel_rfl) (by kernel_rfl) (by kernel_rfl) (by kernel_rfl) (fun _ _ _ h => h) ?_ ?_ ?_
                          rotate_left 2
                          · intro W hW
                            go_simp
                            try with_reducible rfl
                          · go_simp
                            try with_reducible rfl
                          refine wpG.done (by kernel_rfl) hA6 ?_
                          have HA6 := Lib.hid hA6
                          have hlen : (nl ++ [mkV tm x]).length = nl.length + 1 := by simp
                          have hm3 : (nl ++ [mkV tm x]) ++ mergeV tm (ps.drop (k + 1)) (L.drop L.length) = mergeV tm ps L := by
                            have h := HM2.out
                            rw [HST.out] at h
                            rw [List.append_assoc]
                            exact h
                          have HM3 := Lib.hid hm3
                          clear hm3
                          clear hG0 hA1 hA3 hA4 hA6 hr6 hB6 q1 q2
                          go_wp2_with fail
                          go_roundw
                          case rel => exact ⟨k + 1, nl ++ [mkV tm x], _, _, by omega, by go_num, by rw [hlen], HM3, by rw [hlen]; exact hN6, HA6⟩
                          case measure => simp [intOf]; omega
                        case neg =>
                          have hie' : ((i : Int) == (L.length : Int)) = false := by rw [beq_eq_false_iff_ne]; omega
                          have hil2 : i < L.length := by omega
                          have hil3 : (i : Int) < (L.length : Int) := by omega
                          obtain ⟨g, vv, rfl, k0, _, _, _, _, _⟩ := HHC.out i hil2
                          obtain ⟨qb, qo, dv, rfl, q1, i1, _, _⟩ := HQ.out wr HB.out k hkl
                          have v0 := cell_up HB.out k0
                          by_cases hlt : ps[k].lba < L[i].lba
                          case pos =>
                            have HST : Hid (mergeV tm (ps.drop k) (L.drop i) = mkV tm ps[k] :: mergeV tm (ps.drop (k + 1)) (L.drop i)) := step_put hkl (.inr ⟨hil2, hlt⟩)

                            have HBR := Lib.hid (fun q => below_drewN HB.out q)
                            have HNR := Lib.hid (fun q => NlIs.up HN.out (below_drewN (Below.refl wr.heap.size wr) q))
                            go_wp2_with fail
                            go_quiet (fail)
                            go_wp2_with fail
                            have hbq := HBR.out nq
                            have hnq := HNR.out nq
                            have HBQ := Lib.hid hbq
                            have HNQ := Lib.hid hnq
                            clear hbq hnq
                            clear HBR HNR HB HN x1 y1
                            generalize wr.drewN nq = wq at *
                            obtain ⟨qb1, qo1, dv1, e1, q1, i1, q2, q3⟩ := HQ.out W0 (Below.refl _ _) k hkl
                            cases e1
                            obtain ⟨dp, dc, rfl⟩ : ∃ dp dc, dv1 = .slice dp ps[k].data.length dc := by obtain ⟨dp, dc, e, _⟩ := q3; exact ⟨dp, dc, e⟩
                            have HL40 : Hid (ps[k].data.length = 40) := HLEN.out k hkl
                            have HQ3 := Lib.hid q3
                            have HI1 := Lib.hid i1
                            clear q3 i1
                            generalize hx : ps[k] = x at *
                            refine wp_regionG (fun W => Below W0.heap.size W0 W) (n := 21) (by kernel_rfl) (by kernel_rfl) ?_
                            refine wpG.take 0 (v := ?_) (a' := ?_) rfl (by kernel_rfl) (by kernel_rfl) (by kernel_rfl) (by kernel_rfl) (fun _ _ _ h => h) ?_ ?_ ?_
                            rotate_left 2
                            · intro W hW
                              go_simp
                              try with_reducible rfl
                            · go_simp
                              try with_reducible rfl
                            refine wpG.take 1 (v := ?_) (a' := ?_) rfl (by kernel_rfl) (by kernel_rfl) (by kernel_rfl) (by kernel_rfl) (fun _ _ _ h => h) ?_ ?_ ?_
                            rotate_left 2
                            · intro W hW
                              go_simp
                              try with_reducible rfl
                            · go_simp
                              try with_reducible rfl
                            refine wpG.take 2 (v := ?_) (a' := ?_) rfl (by kernel_rfl) (by kernel_rfl) (by kernel_rfl) (by kernel_rfl) (fun _ _ _ h => h) ?_ ?_ ?_
                            rotate_left 2
                            · intro W hW
                              have hld0 := cell_up hW z1
                              go_simp
                              try with_reducible rfl
                            · go_simp
                              try with_reducible rfl
                            refine wpG.take 3 (v := ?_) (a' := ?_) rfl (by kernel_rfl) (by kernel_rfl) (by kernel_rfl) (by kernel_rfl) (fun _ _ _ h => h) ?_ ?_ ?_
                            rotate_left 2
                            · intro W hW
                              go_simp
                              try with_reducible rfl
                            · go_simp
                              try with_reducible rfl
                            refine wpG.take 4 (v := ?_) (a' := ?_) rfl (by kernel_rfl) (by kernel_rfl) (by kernel_rfl) (by kernel_rfl) (fun _ _ _ h => h) ?_ ?_ ?_
                            rotate_left 2
                            · intro W hW
                              go_simp
                              try with_reducible rfl
                            · go_simp
                              try with_reducible rfl
                            refine wpG.take 5 (v := ?_) (a' := ?_) rfl (by kernel_rfl) (by kernel_rfl) (by kernel_rfl) (by kernel_rfl) (fun _ _ _ h => h) ?_ ?_ ?_
                            rotate_left 2
                            · intro W hW
                              go_simp
                              try with_reducible rfl
                            · go_simp
                              try with_reducible rfl
                            refine wpG.take 6 (v := ?_) (a' := ?_) rfl (by kernel_rfl) (by kernel_rfl) (by kernel_rfl) (by kernel_rfl) (fun _ _ _ h => h) ?_ ?_ ?_
                            rotate_left 2
                            · intro W hW
                              have hld0 := cell_up hW q1
                              go_simp
                              try with_reducible rfl
                            · go_simp
                              try with_reducible rfl
                            refine wpG.take 7 (v := ?_) (a' := ?_) rfl (by kernel_rfl) (by kernel_rfl) (by kernel_rfl) (by kernel_rfl) (fun _ _ _ h => h) ?_ ?_ ?_
                            rotate_left 2
                            · intro W hW
                              go_simp
                              try with_reducible rfl
                            · go_simp
                              try with_reducible rfl
                            refine wpG.take 8 (v := ?_) (a' := ?_) rfl (by kernel_rfl) (by kernel_rfl) (by kernel_rfl) (by kernel_rfl) (fun _ _ _ h => h) ?_ ?_ ?_
                            rotate_left 2
                            · intro W hW
                              have hld0 := cell_up hW z0
                              go_simp
                              try with_reducible rfl
                            · go_simp
                              try with_reducible rfl
                            refine wpG.take 10 (v := ?_) (a' := ?_) rfl (by kernel_rfl) (by kernel_rfl) (by kernel_rfl) (by kernel_rfl) (fun _ _ _ h => h) ?_ ?_ ?_
                            rotate_left 2
                            · intro W hW
                              go_simp
                              try with_reducible rfl
                            · go_simp
                              try with_reducible rfl
                            refine wpG.take 11 (v := ?_) (a' := ?_) rfl (by kernel_rfl) (by kernel_rfl) (by kernel_rfl) (by kernel_rfl) (fun _ _ _ h => h) ?_ ?_ ?_
                            rotate_left 2
                            · intro W hW
                              have hld0 := cell_up hW z1
                              go_simp
                              try with_reducible rfl
                            · go_simp
                              try with_reducible rfl
                            refine wpG.take 12 (v := ?_) (a' := ?_) rfl (by kernel_rfl) (by kernel_rfl) (by kernel_rfl) (by kernel_rfl) (fun _ _ _ h => h) ?_ ?_ ?_
                            rotate_left 2
                            · intro W hW
                              go_simp
                              try with_reducible rfl
                            · go_simp
                              try with_reducible rfl
                            refine wpG.take 13 (v := ?_) (a' := ?_) rfl (by kernel_rfl) (by kernel_rfl) (by kernel_rfl) (by kernel_rfl) (fun _ _ _ h => h) ?_ ?_ ?_
                            rotate_left 2
                            · intro W hW
                              go_simp
                              try with_reducible rfl
                            · go_simp
                              try with_reducible rfl
                            refine wpG.take 14 (v := ?_) (a' := ?_) rfl (by kernel_rfl) (by kernel_rfl) (by kernel_rfl) (by kernel_rfl) (fun _ _ _ h => h) ?_ ?_ ?_
                            rotate_left 2
                            · intro W hW
                              go_simp
                              try with_reducible rfl
                            · go_simp
                              try with_reducible rfl
                            refine wpG.take 15 (v := ?_) (a' := ?_) rfl (by kernel_rfl) (by kernel_rfl) (by kernel_rfl) (by kernel_rfl) (fun _ _ _ h => h) ?_ ?_ ?_
                            rotate_left 2
                            · intro W hW
                              have hld0 := cell_up hW q2
                              go_simp
                              try with_reducible rfl
                            · go_simp
                              try with_reducible rfl
                            have hG0 : Below W0.heap.size W0 wq.drew := below_drewN HBQ.out 1
                            refine wpG.alone 9 rfl (by kernel_rfl) (by kernel_rfl) hG0 (fun K hK => ?_)
                            go_simp
                            try go_simp
                            refine hK _ _ ?_
                            clear hK K
                            have hA1 : Below W0.heap.size W0 (wq.alloc (.cells #[] 5)).drew := below_drewN (Below.up HBQ.out (below_alloc wq _)) 1
                            have hz1 : (wq.alloc (.cells #[] 5)).drew.heap.size = wq.heap.size + 1 := by simp
                            have hz2 : wq.heap.size ≤ (wq.alloc (.cells #[] 5)).drew.heap.size := by omega
                            obtain ⟨dp1, dc1, w3, hr3, ho3, hg3⟩ := bytes_pushM (BytesAt.up HQ3.out hA1) (by have := HL40.out; omega) (B := wq.heap.size) (k := wq.heap.size) (owns_empty wq _ _) hz2
                            have hzq := HBQ.out.size
                            have hA2 : Below wq.heap.size wq w3 := (below_drewN (below_alloc wq (.cells #[] 5)) 1).grown hg3.out hz2 (fun b e => by cases e; exact Nat.le_refl _)
                            have hA3 := Below.up HBQ.out hA2
                            refine wpG.alone 16 rfl (by kernel_rfl) (by kernel_rfl) hA1 (fun K hK => ?_)
                            refine wp_append_run (v := .slice (some ⟨wq.heap.size, 0, none⟩) 0 0) (u := .slice dp x.data.length dc) (.tmp 139) (.tmp 145) 26 rfl ?_ ?_ hr3 ?_
                            · go_simp
                            · go_simp
                            try go_simp
                            refine hK _ _ ?_
                            clear hK K
                            refine wpG.take 17 (v := ?_) (a' := ?_) rfl (by kernel_rfl) (by kernel_rfl) (by kernel_rfl) (by kernel_rfl) (fun _ _ _ h => h) ?_ ?_ ?_
                            rotate_left 2
                            · intro W hW
                              go_simp
                              try with_reducible rfl
                            · go_simp
                              try with_reducible rfl
                            refine wpG.alone 18 rfl (by kernel_rfl) (by kernel_rfl) hA3 (fun K hK => ?_)
                            go_simp
                            have hba := below_alloc w3 (.cells #[.int .i64 x.lba, .int .i64 tm, .slice dp1 x.data.length dc1] 129)
                            have hA4 := Below.up hA3 hba
                            have hby : BytesAt (fun q => wq.heap.size ≤ q ∧ q < w3.heap.size) w3 (.slice dp1 x.data.length dc1) x.data := bytesAt_own _ rfl (fun q h1 h2 => ⟨h1, h2⟩) ho3.out
                            have hby4 := BytesAt.up hby hba
                            have howl : ∀ g, (Value.slice op nl.length oc).ownBlock = some g → g < wq.heap.size := fun g hg => by
                              obtain ⟨_, h1, _, _⟩ := HNQ.out
                              exact (h1.own.choose_spec.lt g hg).2
                            obtain ⟨gg, cap, w6, hr6, hN6, hB6⟩ := nl_push ((HNQ.out.up hA2).up hba) (B := W0.heap.size) hA4.size (cs := [.int .i64 x.lba, .int .i64 tm, .slice dp1 x.data.length dc1]) (x := mkV tm x) (D3 := fun q => wq.heap.size ≤ q ∧ q < w3.heap.size) rfl ⟨_, rfl, HI1.out, HTI.out, hby4⟩ (fun q hq => ⟨Nat.lt_of_lt_of_le hq.2 hba.size, fun e => by have := howl q e; omega, .inr (by omega)⟩) ⟨w3.heap.size, 0, none⟩ 1 (World.news_of_block (cs := #[.int .i64 x.lba, .int .i64 tm, .slice dp1 x.data.length dc1]) (heap_alloc_new w3 _)) (by simp [Value.oneCell']) (by omega)
                            have hA6 := Below.trans hA4 hB6.out
                            clear hba hby hby4 howl hg3 ho3 hA2 hz1 hz2 hzq hr3
                            try go_simp
                            refine hK _ _ ?_
                            clear hK K
                            refine wpG.alone 19 rfl (by kernel_rfl) (by kernel_rfl) hA4 (fun K hK => ?_)
                            refine wp_append_run (v := .slice op nl.length oc) (u := .slice (some ⟨w3.heap.size, 0, none⟩) 1 1) (.tmp 130) (.tmp 148) 125 rfl ?_ ?_ hr6 ?_
                            · go_simp
                            · go_simp
                            try go_simp
                            refine hK _ _ ?_
                            clear hK K
                            refine wpG.take 20 (v := ?_) (a' := ?_) rfl (by kernel_rfl) (by kernel_rfl) (by kernel_rfl) (by kernel_rfl) (fun _ _ _ h => h) ?_ ?_ ?_
                            rotate_left 2
                            · intro W hW
                              go_simp
                              try with_reducible rfl
                            · go_simp
                              try with_reducible rfl
                            refine wpG.done (by kernel_rfl) hA6 ?_
                            have HA6 := Lib.hid hA6
                            have hlen : (nl ++ [mkV tm x]).length = nl.length + 1 := by simp
                            have hm3 : (nl ++ [mkV tm x]) ++ mergeV tm (ps.drop (k + 1)) (L.drop i) = mergeV tm ps L := by
                              have h := HM2.out
                              rw [HST.out] at h
                              rw [List.append_assoc]
                              exact h
                            have HM3 := Lib.hid hm3
                            clear hm3
                            clear hG0 hA1 hA3 hA4 hA6 hr6 hB6 q1 q2
                            go_wp2_with fail
                            go_roundw
                            case rel => exact ⟨k + 1, nl ++ [mkV tm x], _, _, by omega, by go_num, by rw [hlen], HM3, by rw [hlen]; exact hN6, HA6⟩
                            case measure => simp [intOf]; omega
                          case neg =>
                            have HOR : Hid (k = ps.length ∨ ∃ hk : k < ps.length, ¬ ps[k].lba < L[i].lba) := .inr ⟨hkl, hlt⟩

                            have hst : mergeV tm (ps.drop k) (L.drop i) = L[i] :: mergeV tm (ps.drop k) (L.drop (i + 1)) := step_old hil2 HOR.out
                            have hm3 : (nl ++ [L[i]]) ++ mergeV tm (ps.drop k) (L.drop (i + 1)) = mergeV tm ps L := by
                              have h := HM2.out
                              rw [hst] at h
                              rw [List.append_assoc]
                              exact h
                            have HM3 := Lib.hid hm3
                            clear hm3
                            have HBR := Lib.hid (fun q => below_drewN HB.out q)
                            have HNR := Lib.hid (fun q => NlIs.up HN.out (below_drewN (Below.refl wr.heap.size wr) q))
                            clear hst HM2 HOR
                            go_wp2_with fail
                            go_quiet (fail)
                            have hbq := HBR.out nq
                            have hnq := HNR.out nq
                            have HBQ := Lib.hid hbq
                            have HNQ := Lib.hid hnq
                            clear hbq hnq
                            clear HBR HNR HB HN
                            generalize wr.drewN nq = wq at *
                            obtain ⟨g1, vv1, e1, k0, k1, k2, kk1, kk2, kk3⟩ := HHC.out i hil2
                            cases e1
                            obtain ⟨dp, dc, rfl⟩ : ∃ dp dc, vv1 = .slice dp L[i].data.length dc := by obtain ⟨dp, dc, e, _⟩ := kk3; exact ⟨dp, dc, e⟩
                            have v0 := cell_up HBQ.out k0
                            have v1 := cell_up HBQ.out k1
                            have v2 := cell_up HBQ.out k2
                            have y1 := cell_up HBQ.out c1
                            have hzq := HBQ.out.size
                            generalize hx : L[i] = x at *
                            have hba := below_alloc wq (.cells #[.int .i64 x.lba, .int .i64 x.time, .slice dp x.data.length dc] 129)
                            have hA4 := Below.up HBQ.out hba
                            have hby4 := BytesAt.up kk3 hA4
                            have hvo : ∀ g, (Value.slice op nl.length oc).ownBlock = some g → W0.heap.size ≤ g := fun g hg => by
                              obtain ⟨_, _, h2, _⟩ := HNQ.out
                              exact h2 g hg
                            obtain ⟨gg, cap, w6, hr6, hN6, hB6⟩ := nl_push (HNQ.out.up hba) (B := W0.heap.size) hA4.size (cs := [.int .i64 x.lba, .int .i64 x.time, .slice dp x.data.length dc]) (x := x) (D3 := D) rfl ⟨_, rfl, kk1, kk2, hby4⟩ (fun q hq => ⟨by have := HDD.out q hq; have := hba.size; omega, fun e => by have := hvo q e; have := HDD.out q hq; omega, .inl hq⟩) ⟨wq.heap.size, 0, none⟩ 1 (World.news_of_block (cs := #[.int .i64 x.lba, .int .i64 x.time, .slice dp x.data.length dc]) (heap_alloc_new wq _)) (by simp [Value.oneCell']) (by omega)
                            have hA6 := Below.trans hA4 hB6.out
                            have HA6 := Lib.hid hA6
                            have hlen : (nl ++ [x]).length = nl.length + 1 := by simp
                            clear hba hA4 hby4 hvo hA6 hB6 kk1 kk2 kk3 k0 k1 k2
                            go_wp2_with (at_builtin; refine wpList_append_run rfl (.tmp 159) (.tmp 167) 125 rfl rfl rfl hr6 ?_)
                            go_roundw
                            case rel => exact ⟨k, i + 1, nl ++ [x], _, _, by omega, by omega, by go_num, by go_num, by rw [hlen], fun h => by omega, HM3, by rw [hlen]; exact hN6, HA6⟩
                            case measure => simp [intOf]; omega
end Go.Proofs

/- scarpref11's Buf: Write. -/
namespace Go.Proofs
open Go.RowKit Sc

/-- The cells of a row of Puts, whose data lie in blocks of D. -/
def RowP (D : Nat → Prop) (W : World) (l : List Put) (xs : List Value) : Prop := xs.length = l.length * 2 ∧ ∀ j (h : j < l.length), ∃ pv, xs[j * 2]? = some (.int .i64 l[j].lba) ∧ xs[j * 2 + 1]? = some pv ∧ I64 l[j].lba ∧ BytesAt D W pv l[j].data
theorem RowP.nil (D : Nat → Prop) (W : World) : RowP D W [] [] := ⟨rfl, fun j h => absurd h (by simp)⟩
theorem RowP.snoc {D : Nat → Prop} {W : World} {l : List Put} {xs : List Value} (h : RowP D W l xs) {t : Put} {pv : Value} (ht : I64 t.lba) (hp : BytesAt D W pv t.data) : RowP D W (l ++ [t]) (xs ++ [.int .i64 t.lba, pv]) := by
  obtain ⟨h1, h2⟩ := h
  refine ⟨by simp [h1]; omega, fun j hj => ?_⟩
  by_cases hlt : j < l.length
  · obtain ⟨p, e1, e2, e3, e4⟩ := h2 j hlt
    rw [List.getElem_append_left hlt]
    exact ⟨p, by rw [List.getElem?_append_left (by omega)]; exact e1, by rw [List.getElem?_append_left (by omega)]; exact e2, e3, e4⟩
  · have hj0 : j = l.length := by simp at hj; omega
    subst hj0
    rw [List.getElem_append_right (Nat.le_refl _)]
    simp only [Nat.sub_self, List.getElem_cons_zero]
    exact ⟨pv, by rw [List.getElem?_append_right (by omega), h1, Nat.sub_self]; rfl, by rw [List.getElem?_append_right (by omega), h1, show l.length * 2 + 1 - l.length * 2 = 1 by omega]; rfl, ht, hp⟩
theorem RowP.puts {D G : Nat → Prop} {W w : World} {l : List Put} {xs : List Value} {B : Nat} {T : TypeId} {v : Value} (h : RowP D W l xs) (hs : Same D W w) (ho : w.ownsRow B T 2 v l.length xs) (hD : ∀ q, D q → G q) (hv : ∀ g, v.ownBlock = some g → G g) : PutsAt G w v l := by
  have hrow := ho
  obtain ⟨hx, hc | ⟨g, cap, cur, rfl, hbb, hg, hnc, hcm, hcs, htake⟩⟩ := ho
  · obtain ⟨rfl, hl0⟩ := hc
    obtain rfl : l = [] := List.length_eq_zero_iff.1 hl0
    exact SlAt.nil
  · refine ⟨_, cap, rfl, hnc, by unfold maxLen at hcm; omega, (by intro hh; cases hh), fun i hi => ⟨g, 0, rfl, hv g rfl, ?_⟩⟩
    obtain ⟨pv, e1, e2, e3, e4⟩ := h.2 i hi
    refine ⟨?_, e3, pv, ?_, BytesAt.mono (BytesAt.same e4 hs) hD⟩
    · rw [Nat.zero_add, hrow.cellAt (i * 2) (by omega), e1]
    · rw [Nat.zero_add, hrow.cellAt (i * 2 + 1) (by omega), e2]
/-- The new row is laid into the Buf. -/
theorem ref_store {F : Nat → Prop} {b : Nat} {blocks most : Int} {lv : Value} {l : List Put} {w W w3 : World} {xs : List Value} {p : Option Addr} {c : Nat} (hF : F b) (hd : Dom F w) (hcw : Chg F w W) (hh : W.heap[b]? = some (.cells #[.int .i64 blocks, .int .i64 most, lv] 124 (0, 0))) (hb : Below W.heap.size W w3)
    (hr : RowP (fun q => (F q ∨ New w W q) ∧ q ≠ b) W l xs) (ho : w3.ownsRow W.heap.size 61 2 (.slice p l.length c) l.length xs) :
    Chg F w (w3.setCell ⟨b, 2, none⟩ (.slice p l.length c)) ∧ RBufP (.pointer (some ⟨b, 0, none⟩)) blocks most l (fun q => F q ∨ New w (w3.setCell ⟨b, 2, none⟩ (.slice p l.length c)) q) (w3.setCell ⟨b, 2, none⟩ (.slice p l.length c)) := by
  have hbl := hd b hF
  have hz1 := hcw.size
  have hz2 := hb.size
  have hh3 := (hb.block b (by omega)).trans hh
  have hz4 : (w3.setCell ⟨b, 2, none⟩ (.slice p l.length c)).heap.size = w3.heap.size := by simp [World.setCell]
  have hs4 : Same (fun q => q ≠ b) w3 (w3.setCell ⟨b, 2, none⟩ (.slice p l.length c)) := fun q hq => Below.heap_setCell _ _ _ q hq
  have hlt := ho.lt
  refine ⟨(hcw.then_up hb).trans (chg_set w3 b 2 _ hF), b, _, rfl, .inl hF, by rw [heap_set_same hh3]; rfl, ?_⟩
  have ho4 : (w3.setCell ⟨b, 2, none⟩ (.slice p l.length c)).ownsRow W.heap.size 61 2 (.slice p l.length c) l.length xs := row_same (F := fun q => q ≠ b) hs4 ho (fun g hg => by have := hlt g hg; omega)
  refine hr.puts (G := fun q => (F q ∨ New w (w3.setCell ⟨b, 2, none⟩ (.slice p l.length c)) q) ∧ q ≠ b) (fun q hq => (hs4 q hq.2).trans (hb.block q ?_)) ho4 (fun q hq => ⟨hq.1.imp id fun h => ⟨h.1, by rw [hz4]; have := h.2; omega⟩, hq.2⟩) fun g hg => ?_
  · rcases hq.1 with h | h
    · have := hd q h; omega
    · exact h.2
  · have := hlt g hg
    exact ⟨.inr ⟨by omega, by rw [hz4]; exact this.2⟩, by omega⟩
theorem ownsRow_upP {w w' : World} {B T k n : Nat} {v : Value} {xs : List Value} (h : w.ownsRow B T k v n xs) (hb : Below w.heap.size w w') : w'.ownsRow B T k v n xs :=
  row_same (F := fun q => q < w.heap.size) (fun q hq => hb.block q hq) h (fun g hg => (h.lt g hg).2)

/-- 'append(e, d...)', where e is an empty row of one's own. -/
theorem bytes_push {G : Nat → Prop} {W : World} {p : Option Addr} {c : Nat} {d : Bytes} (h : BytesAt G W (.slice p d.length c) d) (hl : d.length ≤ 100000) {B k : Nat} (hk : W.ownsRow B 5 1 (.slice (some ⟨k, 0, none⟩) 0 0) 0 []) (hB : B ≤ W.heap.size) :
    ∃ p' c' w', (Builtin.append_ #[26, 26] 26 #[.slice (some ⟨k, 0, none⟩) 0 0, .slice p d.length c]).run Try.prog W = .ok (.slice p' d.length c') w' ∧ Hid (w'.ownsRow B 5 1 (.slice p' d.length c') d.length (d.map fun x => .int .u8 (x.toNat : Int))) ∧ Hid (W.grownBy w' (some k)) ∧
      Hid ((Value.slice p' d.length c').ownBlock = some k ∨ (Value.slice p' d.length c').ownBlock = some W.heap.size) := by
  obtain ⟨i0, hi, hz0, hz1, hz2⟩ := info_parts infoU8
  obtain ⟨p0, c0, he, a1, a2, a3, a4⟩ := h
  cases he
  obtain ⟨v', w', hr, h2, h3, h4⟩ := run_append_any0 (P := Try.prog) W 26 26 B 5 i0 (.int .u8 0) 1 1 Try.underlying26 hi hz0 hz1 hz2 rfl (by decide) _ 0 [] hk p d.length c (fun hp => by have := a3 hp; omega) (d.map fun x => .int .u8 (x.toNat : Int)) (by simp)
    (fun a ha j u hj => by
      subst ha
      simp only [List.getElem?_map, Option.map_eq_some_iff] at hj
      obtain ⟨x, hx, rfl⟩ := hj
      obtain ⟨hjl, rfl⟩ := List.getElem?_eq_some_iff.1 hx
      obtain ⟨b, o, hp, _, he⟩ := a4 j hjl
      cases hp
      unfold byteE at he
      rw [Nat.mul_one] at he
      have hadd : (⟨b, o, none⟩ : Addr).add j = ⟨b, o + j, none⟩ := by unfold Addr.add; split <;> simp_all
      rw [hadd]; exact he)
    (fun u hu => by obtain ⟨z, _, rfl⟩ := List.mem_map.1 hu; rfl) (by unfold maxLen; omega) (by omega) hB
  rw [Nat.zero_add, List.nil_append] at h2
  have hs : ∃ p' c', v' = .slice p' d.length c' := by
    obtain ⟨_, ⟨rfl, h0⟩ | ⟨g, cap, _, rfl, _⟩⟩ := h2
    · exact ⟨none, 0, by rw [h0]⟩
    · exact ⟨_, _, rfl⟩
  obtain ⟨p', c', rfl⟩ := hs
  exact ⟨p', c', w', hr, h2, h3, h4⟩
theorem below_setP {B b i : Nat} (w : World) (v : Value) (hb : B ≤ b) : Below B w (w.setCell ⟨b, i, none⟩ v) :=
  ⟨by simp [World.setCell], by simp [World.setCell], by simp [World.setCell], by simp [World.setCell], fun k hk => Below.heap_setCell _ _ _ k (show k ≠ b by omega)⟩
/-- The Put that is to be laid, in a block of its own. -/
def XAt (w : World) (x : Put) (xb : Nat) (W : World) : Prop := w.heap.size ≤ xb ∧ Below w.heap.size w W ∧ ∃ dp dc, W.heap[xb]? = some (.cells #[.int .i64 x.lba, .slice dp x.data.length dc] 61 (0, 0)) ∧ BytesAt (New w W) W (.slice dp x.data.length dc) x.data

theorem xat_new {w W : World} {x : Put} {dp : Option Addr} {dc : Nat} (hb : Below w.heap.size w W) (ho : W.ownsRow w.heap.size 5 1 (.slice dp x.data.length dc) x.data.length (x.data.map fun x => .int .u8 (x.toNat : Int))) : XAt w x W.heap.size (W.alloc (.cells #[.int .i64 x.lba, .slice dp x.data.length dc] 61)) :=
  ⟨hb.size, Below.up hb (below_alloc _ _), dp, dc, heap_alloc_new W _, BytesAt.up ((bytesAt_own (New w W) rfl (fun q h1 h2 => ⟨h1, h2⟩) ho).mono fun q hq => ⟨hq.1, by have := hq.2; simp; omega⟩) (below_alloc _ _)⟩
theorem xat_set {w W : World} {x : Put} {dp : Option Addr} {dc xb : Nat} {u1 u2 : Value} (hb : Below w.heap.size w W) (ho : W.ownsRow w.heap.size 5 1 (.slice dp x.data.length dc) x.data.length (x.data.map fun x => .int .u8 (x.toNat : Int))) (hxb : w.heap.size ≤ xb)
    (hh : W.heap[xb]? = some (.cells #[u1, u2] 61 (0, 0))) (hne : (Value.slice dp x.data.length dc).ownBlock ≠ some xb) : XAt w x xb ((W.setCell ⟨xb, 0, none⟩ (.int .i64 x.lba)).setCell ⟨xb, 1, none⟩ (.slice dp x.data.length dc)) := by
  have hs : Same (fun q => q ≠ xb) W ((W.setCell ⟨xb, 0, none⟩ (.int .i64 x.lba)).setCell ⟨xb, 1, none⟩ (.slice dp x.data.length dc)) := fun q hq => (Below.heap_setCell _ _ _ q hq).trans (Below.heap_setCell _ _ _ q hq)
  refine ⟨hxb, (hb.trans (below_setP _ _ hxb)).trans (below_setP _ _ hxb), dp, dc, ?_, bytesAt_own _ rfl (fun q h1 h2 => ⟨h1, h2⟩) (row_same hs ho fun g hg e => hne (by rw [hg, e]))⟩
  rw [heap_set_same (heap_set_same hh _)]; rfl
theorem insTo_len0 (x : Put) (L : List Put) : ∀ j, j ≤ L.length → (insTo x L j).1.length + (if (insTo x L j).2 then 0 else 1) ≤ j + 1 := by
  intro j
  induction j with
  | zero => intro _; simp [insTo]
  | succ j ihj =>
    intro hj
    rw [insTo_succ x L j (by omega)]
    have h1 := ihj (by omega)
    generalize insTo x L j = s at h1 ⊢
    generalize L[j] = y
    obtain ⟨o, d⟩ := s
    unfold insStep
    cases d
    · by_cases hx : x.lba ≤ y.lba <;> by_cases hy : y.lba = x.lba <;> simp [hx, hy] at h1 ⊢ <;> omega
    · by_cases hy : y.lba = x.lba <;> simp [hy] at h1 ⊢ <;> omega
theorem insTo_len (x : Put) (L : List Put) (k : Nat) (hk : k ≤ L.length) : (insTo x L k).1.length ≤ k + 1 := by
  have := insTo_len0 x L k hk
  omega

def RBufWriteSaid (F : Nat → Prop) (v : Value) (blocks most : Int) (L l : List Put) (w : World) (e : Ending) (w' : World) : Prop :=
  e = .returned (.int .i64 (rbCode blocks most L l)) ∧ Chg F w w' ∧ RBufP v blocks most (rbNext blocks most L l) (fun q => F q ∨ New w w' q) w'
theorem rbuf_fail {F : Nat → Prop} {v : Value} {blocks most c : Int} {L l : List Put} {w w' : World} (h : RBufP v blocks most L F w) (hd : Dom F w) (hb : Below w.heap.size w w') (hc : rbCode blocks most L l = c) (h0 : c ≠ 0) : RBufWriteSaid F v blocks most L l w (.returned (.int .i64 c)) w' := by
  refine ⟨by rw [hc], Chg.of_below hb (fun k h1 h2 => by omega), ?_⟩
  unfold rbNext
  rw [if_neg (by rw [hc]; exact h0)]
  obtain ⟨b, lv, h1, h2, h3, h4⟩ := h.same (Dom.same hd hb)
  exact ⟨b, lv, h1, .inl h2, h3, h4.mono fun q hq => ⟨.inl hq.1, hq.2⟩⟩
theorem any_take {f : Put → Bool} {l : List Put} {k : Nat} (h : k < l.length) (h0 : (l.take k).any f = false) (hk : f l[k] = false) : (l.take (k + 1)).any f = false := by
  rw [take_snoc l k h, List.any_append, h0]
  simp [hk]
theorem any_hit {f : Put → Bool} {l : List Put} {k : Nat} (h : k < l.length) (hk : f l[k] = true) : l.any f = true := List.any_eq_true.2 ⟨_, List.getElem_mem h, hk⟩

set_option maxRecDepth 100000 in
set_option maxHeartbeats 8000000 in
theorem refBufWrite_any (F G : Nat → Prop) (v lv : Value) (blocks most : Int) (L l : List Put) (w : World) (hp : RBufP v blocks most L F w) (hd : Dom F w) (hl : PutsAt G w lv l) (hG : Dom G w) (hFG : ∀ k, F k → ¬ G k) (n0 : L.length ≤ 500000) (n1 : l.length ≤ 500000) :
    Calls Try.prog 27 #[v, lv] w (RBufWriteSaid F v blocks most L l w) := by
  have HP := Lib.hid hp
  obtain ⟨b, bv, rfl, hFb, hh, h4⟩ := hp
  obtain ⟨lp, lc, rfl⟩ := putsAt_shape hl
  obtain ⟨bp, bc, rfl⟩ := putsAt_shape h4
  have hbl := hd b hFb
  have hc0 : w.cell? ⟨b, 0, none⟩ = some (.int .i64 blocks) := by rw [cell_row hh]; rfl
  have hc1 : w.cell? ⟨b, 1, none⟩ = some (.int .i64 most) := by rw [cell_row hh]; rfl
  have hc2 : w.cell? ⟨b, 2, none⟩ = some (.slice bp L.length bc) := by rw [cell_row hh]; rfl
  have H4 := Lib.hid h4
  have HH := Lib.hid hh
  have HL := Lib.hid hl
  clear h4 hh hl
  by_cases hnil : l = []
  case pos =>
    subst hnil
    have hcd : rbCode blocks most L [] = 1 := rfl
    have HCD := Lib.hid hcd
    clear hcd
    go_enter Try.func27, Try.ntmps27
    go_wp2
    go_ret
    exact rbuf_fail HP.out hd (Below.refl _ _) HCD.out (by decide)
  case neg =>
    have hpos := List.length_pos_iff.2 hnil
    have hl0 : ((l.length : Int) == 0) = false := by rw [beq_eq_false_iff_ne]; omega
    have hcd0 : rbCode blocks most L l = if l.any (outB blocks) then 2 else if l.any len40 then 3 else if twiceB l then 4 else if most < ((L.length + freshP L l : Nat) : Int) then 7 else 0 := by unfold rbCode; rw [if_neg hnil]
    have HCD0 := Lib.hid hcd0
    clear hcd0
    go_enter Try.func27, Try.ntmps27
    go_wp2_with fail
    go_loopw [5] (fun i wr => ∃ k : Nat, k ≤ l.length ∧ i = .int .i64 k ∧ Hid (Below w.heap.size w wr) ∧ Hid ((l.take k).any (outB blocks) = false)) (fun i _ => l.length - (intOf i).toNat)
    case atStart => exact ⟨0, by omega, rfl, Lib.hid (Below.refl _ _), Lib.hid (by rw [List.take_zero]; rfl)⟩
    case round =>
      obtain ⟨k, hk, rfl, HB, HA⟩ := hrel
      by_cases hlt : k < l.length
      case pos =>
        have hc0' := cell_up HB.out hc0
        obtain ⟨g, o, dp, dc, rfl, _, hk1, _, _, _⟩ := putsAt_get (PutsAt.up HL.out HB.out) k hlt
        have hkI : (k : Int) < (l.length : Int) := by omega
        have hstep := any_take (f := outB blocks) hlt HA.out
        have hhit := any_hit (f := outB blocks) hlt
        generalize l[k] = x at hk1 hstep hhit
        have hdef : outB blocks x = (decide (x.lba < 0) || decide (blocks ≤ x.lba)) := rfl
        rcases (show x.lba < 0 ∨ (¬ x.lba < 0 ∧ blocks ≤ x.lba) ∨ (¬ x.lba < 0 ∧ ¬ blocks ≤ x.lba) by omega) with e | ⟨e, e2⟩ | ⟨e, e2⟩
        case inl =>
          have hcd : rbCode blocks most L l = 2 := by rw [HCD0.out, if_pos (hhit (by rw [hdef]; simp [e]))]
          have HCD := Lib.hid hcd
          have HSTEP := Lib.hid hstep
          have HHIT := Lib.hid hhit
          have HDEF := Lib.hid hdef
          clear hcd hstep hhit hdef
          go_wp2_with fail
          go_quiet (fail)
          have HB2 := Lib.hid (HB.out.trans (below_drewN (Below.refl _ _) nq) : Below w.heap.size w (wr.drewN nq))
          go_wp2_with fail
          go_ret
          exact rbuf_fail HP.out hd HB2.out HCD.out (by decide)
        case inr.inl =>
          have hcd : rbCode blocks most L l = 2 := by rw [HCD0.out, if_pos (hhit (by rw [hdef]; simp [e2]))]
          have HCD := Lib.hid hcd
          have HSTEP := Lib.hid hstep
          have HHIT := Lib.hid hhit
          have HDEF := Lib.hid hdef
          clear hcd hstep hhit hdef
          go_wp2_with fail
          go_quiet (fail)
          have HB2 := Lib.hid (HB.out.trans (below_drewN (Below.refl _ _) nq) : Below w.heap.size w (wr.drewN nq))
          go_wp2_with fail
          go_ret
          exact rbuf_fail HP.out hd HB2.out HCD.out (by decide)
        case inr.inr =>
          have hst := hstep (by rw [hdef]; simp [e, e2])
          have HST := Lib.hid hst
          have HSTEP := Lib.hid hstep
          have HHIT := Lib.hid hhit
          have HDEF := Lib.hid hdef
          clear hst hstep hhit hdef
          go_wp2_with fail
          go_quiet (fail)
          have HB2 := Lib.hid (HB.out.trans (below_drewN (Below.refl _ _) nq) : Below w.heap.size w (wr.drewN nq))
          go_wp2_with fail
          go_roundw
          case rel => exact ⟨k + 1, by omega, by go_num, HB2, HST⟩
          case measure => simp [intOf]; omega
      case neg =>
        have hA : l.any (outB blocks) = false := by
          have := HA.out
          rwa [List.take_of_length_le (by omega)] at this
        have hcd1 := HCD0.out
        rw [hA, if_neg (by decide)] at hcd1
        obtain ⟨W1, rfl⟩ : ∃ W1 : World, W1 = wr := ⟨_, rfl⟩
        have HB1 := HB
        have HA := Lib.hid hA
        have HCD1 := Lib.hid hcd1
        clear hA hcd1
        clear HA HCD0
        go_wp2_with fail
        go_loopw [6] (fun i wr => ∃ k : Nat, k ≤ l.length ∧ i = .int .i64 k ∧ Hid (Below w.heap.size w wr) ∧ Hid ((l.take k).any len40 = false)) (fun i _ => l.length - (intOf i).toNat)
        case atStart => exact ⟨0, by omega, rfl, HB1, Lib.hid (by rw [List.take_zero]; rfl)⟩
        case round =>
          obtain ⟨k, hk, rfl, HB, HA⟩ := hrel
          by_cases hlt : k < l.length
          case pos =>
            obtain ⟨g, o, dp, dc, rfl, _, _, hk2, _, _⟩ := putsAt_get (PutsAt.up HL.out HB.out) k hlt
            have hkI : (k : Int) < (l.length : Int) := by omega
            have hstep := any_take (f := len40) hlt HA.out
            have hhit := any_hit (f := len40) hlt
            generalize l[k] = x at hk2 hstep hhit
            have hdef : len40 x = !decide (x.data.length = 40) := rfl
            generalize hxl : x.data.length = n at hk2 hdef
            by_cases e : n = 40
            case pos =>
              have hst := hstep (by rw [hdef]; simp [e])
              have hne : ((n : Int) != 40) = false := by subst e; rfl
              have HST := Lib.hid hst
              have HSTEP := Lib.hid hstep
              have HHIT := Lib.hid hhit
              have HDEF := Lib.hid hdef
              have HXL := Lib.hid hxl
              have HE := Lib.hid e
              clear hst hstep hhit hdef hxl e
              go_wp2_with fail
              go_roundw
              case rel => exact ⟨k + 1, by omega, by go_num, HB, HST⟩
              case measure => simp [intOf]; omega
            case neg =>
              have hcd : rbCode blocks most L l = 3 := by rw [HCD1.out, if_pos (hhit (by rw [hdef]; simp [e]))]
              have hne : ((n : Int) != 40) = true := by rw [bne_iff_ne]; omega
              have HCD := Lib.hid hcd
              have HSTEP := Lib.hid hstep
              have HHIT := Lib.hid hhit
              have HDEF := Lib.hid hdef
              have HXL := Lib.hid hxl
              have HE := Lib.hid e
              clear hcd hstep hhit hdef hxl e
              go_wp2_with fail
              go_ret
              exact rbuf_fail HP.out hd HB.out HCD.out (by decide)
          case neg =>
            have hA2 : l.any len40 = false := by
              have := HA.out
              rwa [List.take_of_length_le (by omega)] at this
            have hcd2 := HCD1.out
            rw [hA2, if_neg (by decide)] at hcd2
            obtain ⟨W2, rfl⟩ : ∃ W2 : World, W2 = wr := ⟨_, rfl⟩
            have HB2 := HB
            have HA2 := Lib.hid hA2
            have HCD2 := Lib.hid hcd2
            clear hA2 hcd2
            clear HA HCD1
            go_wp2_with fail
            go_loopw [7, 8] (fun n i wr => ∃ k : Nat, k ≤ l.length ∧ i = .int .i64 k ∧ n = .int .i64 (freshP L (l.take k) : Nat) ∧ Hid (Below w.heap.size w wr) ∧ Hid (∀ i j (hi : i < l.length) (hj : j < l.length), j < k → i < j → l[i].lba ≠ l[j].lba)) (fun _ i _ => l.length - (intOf i).toNat)
            case atStart => exact ⟨0, by omega, rfl, rfl, HB2, Lib.hid fun i j _ _ h => by omega⟩
            case round =>
              obtain ⟨k, hk, rfl, rfl, HB, HN⟩ := hrel
              have hfr : freshP L (l.take k) ≤ k := by have := freshP_le L (l.take k); rw [List.length_take] at this; omega
              obtain ⟨fr, hfe⟩ : ∃ fr, freshP L (l.take k) = fr := ⟨_, rfl⟩
              rw [hfe] at hfr ⊢
              by_cases hlt : k < l.length
              case pos =>
                obtain ⟨W3, rfl⟩ : ∃ W3 : World, W3 = wr := ⟨_, rfl⟩
                have HB3 := HB
                have hkI : (k : Int) < (l.length : Int) := by omega
                have HFE := Lib.hid hfe
                clear hfe
                clear HB
                go_wp2_with fail
                go_loopw [9] (fun j wr => ∃ m : Nat, m ≤ k ∧ j = .int .i64 m ∧ Hid (Below w.heap.size w wr) ∧ Hid (∀ i (hi : i < l.length), i < m → l[i].lba ≠ l[k].lba)) (fun j _ => k - (intOf j).toNat)
                case atStart => exact ⟨0, by omega, rfl, HB3, Lib.hid fun i _ h => by omega⟩
                case round =>
                  obtain ⟨m, hm, rfl, HB, HM⟩ := hrel
                  by_cases hlm : m < k
                  case pos =>
                    have hml : m < l.length := by omega
                    obtain ⟨g, o, dp, dc, rfl, _, hk1, _, _, _⟩ := putsAt_get (PutsAt.up HL.out HB.out) k hlt
                    obtain ⟨g', o', dp', dc', he, _, hm1, _, _, _⟩ := putsAt_get (PutsAt.up HL.out HB.out) m hml
                    cases he
                    have hmI : (m : Int) < (l.length : Int) := by omega
                    have hmk : (m : Int) < (k : Int) := by omega
                    by_cases e : l[m].lba = l[k].lba
                    case pos =>
                      have htw : twiceB l = true := by
                        rw [← Bool.not_eq_false]
                        intro h
                        have := twiceB_no.1 h
                        rw [List.Nodup, List.pairwise_iff_getElem] at this
                        have := this m k (by simpa using hml) (by simpa using hlt) hlm
                        simp only [List.getElem_map] at this
                        exact this e
                      have hcd : rbCode blocks most L l = 4 := by rw [HCD2.out, if_pos htw]
                      generalize l[m].lba = xm at *
                      generalize l[k].lba = xk at *
                      have heq : (xm == xk) = true := by rw [beq_iff_eq]; exact e
                      have HCD := Lib.hid hcd
                      have HTW := Lib.hid htw
                      have HE := Lib.hid e
                      clear hcd htw e
                      go_wp2_with fail
                      go_quiet (fail)
                      have HBq := Lib.hid (HB.out.trans (below_drewN (Below.refl _ _) nq) : Below w.heap.size w (wr.drewN nq))
                      go_wp2_with fail
                      go_ret
                      exact rbuf_fail HP.out hd HBq.out HCD.out (by decide)
                    case neg =>
                      have hnx : ∀ i (hi : i < l.length), i < m + 1 → l[i].lba ≠ l[k].lba := fun i hi h => by
                        by_cases him : i = m
                        · subst him; exact e
                        · exact HM.out i hi (by omega)
                      have HNX := Lib.hid hnx
                      clear hnx
                      obtain ⟨xm, hxm⟩ : ∃ xm, l[m].lba = xm := ⟨_, rfl⟩
                      obtain ⟨xk, hxk⟩ : ∃ xk, l[k].lba = xk := ⟨_, rfl⟩
                      rw [hxm] at hm1 e
                      rw [hxk] at hk1 e
                      have heq : (xm == xk) = false := by rw [beq_eq_false_iff_ne]; exact e
                      have HE := Lib.hid e
                      have HXM := Lib.hid hxm
                      have HXK := Lib.hid hxk
                      clear e hxm hxk
                      go_wp2_with fail
                      go_quiet (fail)
                      have HBq := Lib.hid (HB.out.trans (below_drewN (Below.refl _ _) nq) : Below w.heap.size w (wr.drewN nq))
                      go_wp2_with fail
                      go_roundw
                      case rel => exact ⟨m + 1, by omega, by go_num, HBq, HNX⟩
                      case measure => simp [intOf]; omega
                  case neg =>
                    obtain rfl : m = k := by omega
                    obtain ⟨g, o, dp, dc, rfl, _, hk1, _, _, _⟩ := putsAt_get (PutsAt.up HL.out HB.out) m hlt
                    have hnx : ∀ i j (hi : i < l.length) (hj : j < l.length), j < m + 1 → i < j → l[i].lba ≠ l[j].lba := fun i j hi hj h1 h2 => by
                      by_cases hjm : j = m
                      · subst hjm; exact HM.out i hi h2
                      · exact HN.out i j hi hj (by omega) h2
                    have hfx := freshP_take L l m hlt
                    rw [HFE.out] at hfx
                    have hget := refBufGet_any F (.pointer (some ⟨b, 0, none⟩)) blocks most L l[m].lba wr (HP.out.same (Dom.same hd HB.out)) (by omega)
                    have HNX := Lib.hid hnx
                    clear hnx
                    generalize l[m].lba = xk at *
                    obtain ⟨ok, hok⟩ : ∃ ok, (lookP L xk).isSome = ok := ⟨_, rfl⟩
                    rw [hok] at hget
                    have HGET := Lib.hid hget
                    have HFX := Lib.hid hfx
                    clear hget hfx
                    go_wp2_with fail
                    refine (HGET.out).mono ?_
                    rintro e w5 ⟨dv, rfl, _, HB5⟩
                    have HB6 := Lib.hid (Below.up HB.out HB5.out)
                    clear hk1
                    cases ok with
                    | true =>
                      have hf2 : freshP L (l.take (m + 1)) = fr := by rw [HFX.out]; rw [show (lookP L xk).isNone = false by cases h : lookP L xk <;> simp_all]; rfl
                      have HF2 := Lib.hid hf2
                      have HOK := Lib.hid hok
                      clear hf2 hok
                      go_wp2_with fail
                      go_roundw
                      case rel => exact ⟨m + 1, by omega, by go_num, by rw [HF2.out], HB6, HNX⟩
                      case measure => simp [intOf]; omega
                    | false =>
                      have hf2 : freshP L (l.take (m + 1)) = fr + 1 := by rw [HFX.out]; rw [show (lookP L xk).isNone = true by cases h : lookP L xk <;> simp_all]; rfl
                      have HF2 := Lib.hid hf2
                      have HOK := Lib.hid hok
                      clear hf2 hok
                      go_wp2_with fail
                      go_roundw
                      case rel => exact ⟨m + 1, by omega, by go_num, by rw [HF2.out]; go_num, HB6, HNX⟩
                      case measure => simp [intOf]; omega
              case neg =>
                have hfl : freshP L l = fr := by rw [← hfe, List.take_of_length_le (by omega)]
                have htw : twiceB l = false := by
                  rw [twiceB_no, List.Nodup, List.pairwise_iff_getElem]
                  intro i j hi hj hij
                  simp only [List.length_map] at hi hj
                  simp only [List.getElem_map]
                  exact HN.out i j hi hj (by omega) hij
                have hcd3 := HCD2.out
                rw [htw, if_neg (by decide), hfl] at hcd3
                have hc1' := cell_up HB.out hc1
                have hc2' := cell_up HB.out hc2
                have hfx2 : ((L.length + fr : Nat) : Int) = (L.length : Int) + (fr : Int) := by omega
                rw [hfx2] at hcd3
                by_cases hbig : most < (L.length : Int) + (fr : Int)
                case pos =>
                  rw [if_pos hbig] at hcd3
                  have HCD3 := Lib.hid hcd3
                  have HFL := Lib.hid hfl
                  have HTW := Lib.hid htw
                  have HFE := Lib.hid hfe
                  have HFX2 := Lib.hid hfx2
                  clear hcd3 hfl htw hfe hfx2
                  go_wp2_with fail
                  go_quiet (fail)
                  have HBq := Lib.hid (HB.out.trans (below_drewN (Below.refl _ _) nq) : Below w.heap.size w (wr.drewN nq))
                  go_wp2_with fail
                  go_ret
                  exact rbuf_fail HP.out hd HBq.out HCD3.out (by decide)
                case neg =>
                  rw [if_neg hbig] at hcd3
                  have HCD3 := Lib.hid hcd3
                  have HFL := Lib.hid hfl
                  have HTW := Lib.hid htw
                  have HFE := Lib.hid hfe
                  have HFX2 := Lib.hid hfx2
                  clear hcd3 hfl htw hfe hfx2
                  go_wp2_with fail
                  go_quiet (fail)
                  have HB4 := Lib.hid (HB.out.trans (below_drewN (Below.refl _ _) nq) : Below w.heap.size w (wr.drewN nq))
                  generalize wr.drewN nq = W4 at *
                  clear hc1' hc2' hc0 hc1 hc2
                  have hA40 : ∀ x ∈ l, x.data.length = 40 := fun x hx => by
                    have := HA2.out
                    rw [List.any_eq_false] at this
                    have := this x hx
                    unfold len40 at this
                    simpa using this
                  have hst0 : RBufP (.pointer (some ⟨b, 0, none⟩)) blocks most L (fun q => F q ∨ New w W4 q) W4 := by
                    obtain ⟨b', lv, h1, h2, h3, h4⟩ := HP.out.same (Dom.same hd HB4.out)
                    exact ⟨b', lv, h1, .inl h2, h3, h4.mono fun q hq => ⟨.inl hq.1, hq.2⟩⟩
                  have hch0 : Chg F w W4 := Chg.of_below HB4.out fun k h1 h2 => by omega
                  have HA40 := Lib.hid hA40
                  have HST0 := Lib.hid hst0
                  have HCH0 := Lib.hid hch0
                  clear hA40 hst0 hch0
                  clear HCD2 HN
                  go_wp2_with fail
                  go_loopw [12] (fun i wr => ∃ k : Nat, k ≤ l.length ∧ i = .int .i64 k ∧ Hid (Chg F w wr) ∧ Hid (RBufP (.pointer (some ⟨b, 0, none⟩)) blocks most ((l.take k).foldl rIns L) (fun q => F q ∨ New w wr q) wr)) (fun i _ => l.length - (intOf i).toNat)
                  case atStart => exact ⟨0, by omega, rfl, HCH0, HST0⟩
                  case round =>
                    obtain ⟨k, hk, rfl, HC, HR⟩ := hrel
                    by_cases hlt : k < l.length
                    case neg =>
                      have hnx : rbNext blocks most L l = (l.take k).foldl rIns L := by unfold rbNext; rw [if_pos HCD3.out, List.take_of_length_le (by omega)]
                      have HNX := Lib.hid hnx
                      clear hnx
                      go_wp2_with fail
                      go_ret
                      exact ⟨by rw [HCD3.out]; rfl, HC.out, by rw [HNX.out]; exact HR.out⟩
                    case pos =>
                      have hlr : PutsAt G wr (.slice lp l.length lc) l := PutsAt.same HL.out (HC.out.same fun k hk => ⟨hG k hk, fun h => hFG k h hk⟩)
                      obtain ⟨g, o, dp, dc, rfl, hgg, hk1, hk2, hki, hkd⟩ := putsAt_get hlr k hlt
                      have hkI : (k : Int) < (l.length : Int) := by omega
                      have hnext : (l.take (k + 1)).foldl rIns L = rIns ((l.take k).foldl rIns L) l[k] := by rw [take_snoc _ _ hlt, List.foldl_append]; rfl
                      have hdl := HA40.out _ (List.getElem_mem hlt)
                      have hLl : ((l.take k).foldl rIns L).length ≤ 1000000 := by have := rIns_foldl_len (l.take k) L; rw [List.length_take] at this; omega
                      generalize (l.take k).foldl rIns L = Lk at *
                      generalize l[k] = x at *
                      have hgw : g < wr.heap.size := World.block_lt_of_cell? _ _ hk1
                      have hsz : wr.drew.heap.size = wr.heap.size := rfl
                      have hzE : (wr.drew.alloc (.cells #[] 5 (0, 0))).heap.size = wr.heap.size + 1 := by simp
                      have hzX : (wr.drew.alloc (.cells #[.int .i64 0, .slice none 0 0] 61)).heap.size = wr.heap.size + 1 := by simp
                      have hdd : BytesAt G wr.drew (.slice dp x.data.length dc) x.data := BytesAt.up hkd (below_drewN (Below.refl wr.heap.size wr) 1)
                      have hoE := owns_empty wr.drew 5 1
                      obtain ⟨dpA, dcA, wA, hA1, HA2, HA3, HA4⟩ := bytes_push (BytesAt.up hdd (below_alloc _ (.cells #[] 5 (0, 0)))) (by omega) hoE (by simp)
                      obtain ⟨dpB, dcB, wB, hB1, HB2, HB3', HB4'⟩ := bytes_push (BytesAt.up (BytesAt.up hdd (below_alloc _ (.cells #[] 5 (0, 0)))) (below_alloc _ (.cells #[.int .i64 0, .slice none 0 0] 61))) (by omega) (ownsRow_upP hoE (below_alloc _ (.cells #[.int .i64 0, .slice none 0 0] 61))) (by simp; omega)
                      have hoC := owns_empty (wr.drew.alloc (.cells #[.int .i64 0, .slice none 0 0] 61)) 5 1
                      rw [hzX] at hoC
                      obtain ⟨dpC, dcC, wC, hC1, HC2, HC3, HC4⟩ := bytes_push (BytesAt.up (BytesAt.up hdd (below_alloc _ (.cells #[.int .i64 0, .slice none 0 0] 61))) (below_alloc _ (.cells #[] 5 (0, 0)))) (by omega) hoC (by simp)
                      have zA : (Builtin.append_ #[26, 26] 26 #[.slice (some ⟨wr.heap.size, 0, none⟩) 0 0, .slice dp x.data.length dc]).run Try.prog ((wr.alloc (.cells #[] 5 (0, 0))).drew) = .ok (.slice dpA x.data.length dcA) wA := hA1
                      have zB : (Builtin.append_ #[26, 26] 26 #[.slice (some ⟨wr.heap.size, 0, none⟩) 0 0, .slice dp x.data.length dc]).run Try.prog (((wr.alloc (.cells #[] 5 (0, 0))).alloc (.cells #[.int .i64 0, .slice none 0 0] 61)).drew) = .ok (.slice dpB x.data.length dcB) wB := hB1
                      have zC : (Builtin.append_ #[26, 26] 26 #[.slice (some ⟨wr.heap.size + 1, 0, none⟩) 0 0, .slice dp x.data.length dc]).run Try.prog (((wr.alloc (.cells #[.int .i64 0, .slice none 0 0] 61)).alloc (.cells #[] 5 (0, 0))).drew) = .ok (.slice dpC x.data.length dcC) wC := hC1
                      have qk : ∀ W, Below wr.heap.size wr W → W.cell? ⟨g, o + k * 2, none⟩ = some (.int .i64 x.lba) ∧ W.cell? ⟨g, o + k * 2 + 1, none⟩ = some (.slice dp x.data.length dc) := fun W hW => ⟨cell_up hW hk1, cell_up hW hk2⟩
                      have hdr0 : Below wr.heap.size wr wr.drew := below_drewN (Below.refl wr.heap.size wr) 1
                      have bE : Below wr.heap.size wr (wr.drew.alloc (.cells #[] 5 (0, 0))) := Below.up hdr0 (below_alloc _ _)
                      have bX : Below wr.heap.size wr (wr.drew.alloc (.cells #[.int .i64 0, .slice none 0 0] 61)) := Below.up hdr0 (below_alloc _ _)
                      have hbA : Below wr.heap.size wr wA := bE.grown HA3.out (by simp) (fun q hq => by cases hq; exact Nat.le_refl _)
                      have hbB : Below wr.heap.size wr wB := (Below.up bE (below_alloc _ _)).grown HB3'.out (by simp; omega) (fun q hq => by cases hq; exact Nat.le_refl _)
                      have hbC : Below wr.heap.size wr wC := (Below.up bX (below_alloc _ _)).grown HC3.out (by simp; omega) (fun q hq => by cases hq; omega)
                      have HXB : wB.heap[wr.heap.size + 1]? = some (.cells #[.int .i64 0, .slice none 0 0] 61 (0, 0)) := by
                        rw [HB3'.out.block (wr.heap.size + 1) (by simp) (by simp)]
                        have := heap_alloc_new (wr.drew.alloc (.cells #[] 5 (0, 0))) (.cells #[.int .i64 0, .slice none 0 0] 61)
                        rw [hzE] at this
                        exact this
                      have HXC : wC.heap[wr.heap.size]? = some (.cells #[.int .i64 0, .slice none 0 0] 61 (0, 0)) := by
                        rw [HC3.out.block wr.heap.size (by simp; omega) (by simp), (below_alloc (wr.drew.alloc (.cells #[.int .i64 0, .slice none 0 0] 61)) _).block wr.heap.size (by simp)]
                        exact heap_alloc_new wr.drew _
                      have xB0 : wB.cell? ⟨wr.heap.size + 1, 0, none⟩ = some (.int .i64 0) := by rw [cell_row HXB]; rfl
                      have xB1 : wB.cell? ⟨wr.heap.size + 1, 1, none⟩ = some (.slice none 0 0) := by rw [cell_row HXB]; rfl
                      have xBz : wB.frozen? ⟨wr.heap.size + 1, 0, none⟩ = false := fz_row HXB 0
                      have xBy : wB.frozen? ⟨wr.heap.size + 1, 1, none⟩ = false := fz_row HXB 1
                      have xC0 : wC.cell? ⟨wr.heap.size, 0, none⟩ = some (.int .i64 0) := by rw [cell_row HXC]; rfl
                      have xC1 : wC.cell? ⟨wr.heap.size, 1, none⟩ = some (.slice none 0 0) := by rw [cell_row HXC]; rfl
                      have xCz : wC.frozen? ⟨wr.heap.size, 0, none⟩ = false := fz_row HXC 0
                      have xCy : wC.frozen? ⟨wr.heap.size, 1, none⟩ = false := fz_row HXC 1
                      clear hA1 hB1 hC1 hoE hoC hzE hzX
                      have HLR := Lib.hid hlr
                      have HNEXT := Lib.hid hnext
                      have HDL := Lib.hid hdl
                      have HKI := Lib.hid hki
                      have HKD := Lib.hid hkd
                      have HDD := Lib.hid hdd
                      have HQK := Lib.hid qk
                      have HBE := Lib.hid bE
                      have HBX := Lib.hid bX
                      have HBA := Lib.hid hbA
                      have HBB := Lib.hid hbB
                      have HBC := Lib.hid hbC
                      clear hlr hnext hdl hki hkd hdd qk bE bX hbA hbB hbC
                      have QK := HQK
                      go_upto_region 30 with fail
                      go_cut [13] from 105 to 182 (fun s wx => ∃ xb, s = .pointer (some ⟨xb, 0, none⟩) ∧ Hid (XAt wr x xb wx))
                      case first =>
                        go_region_held3 (fun W => W.cell? ⟨g, o + k * 2, none⟩ = some (.int .i64 x.lba) ∧ W.cell? ⟨g, o + k * 2 + 1, none⟩ = some (.slice dp x.data.length dc))
                          (first | exact HQK.out _ ((HBB.out.trans (below_setP _ _ (by omega))).trans (below_setP _ _ (by omega))) | exact HQK.out _ ((HBC.out.trans (below_setP _ _ (by omega))).trans (below_setP _ _ (by omega))) | exact ⟨hk1, hk2⟩ | exact ⟨cell_up (below_alloc _ _) hk1, cell_up (below_alloc _ _) hk2⟩ | exact HQK.out _ HBA.out | exact HQK.out _ HBB.out | exact HQK.out _ HBC.out | exact HQK.out _ (Below.up HBA.out (below_alloc _ _)) | exact HQK.out _ (Below.up HBE.out (below_alloc _ _)) | exact HQK.out _ (Below.up HBX.out (below_alloc _ _)) | go_keep)
                          ((first
                            | ((with_reducible refine step_append_run ((wr.alloc (.cells #[] 5 (0, 0))).drew) ?_ (.tmp 116) (.tmp 121) 26 ?_ _ _ ?_ ?_ zA ?_); (· rfl); (· rfl); (· rfl); (· rfl))
                            | ((with_reducible refine step_append_run (((wr.alloc (.cells #[] 5 (0, 0))).alloc (.cells #[.int .i64 0, .slice none 0 0] 61)).drew) ?_ (.tmp 116) (.tmp 121) 26 ?_ _ _ ?_ ?_ zB ?_); (· rfl); (· rfl); (· rfl); (· rfl))
                            | ((with_reducible refine step_append_run (((wr.alloc (.cells #[.int .i64 0, .slice none 0 0] 61)).alloc (.cells #[] 5 (0, 0))).drew) ?_ (.tmp 116) (.tmp 121) 26 ?_ _ _ ?_ ?_ zC ?_); (· rfl); (· rfl); (· rfl); (· rfl))))
                        all_goals
                          go_wp2_with fail
                          go_meet
                          case rel =>
                            first
                              | exact ⟨_, rfl, Lib.hid (xat_new HBA.out (ownsRow_lower' HA2.out (Nat.le_refl _)))⟩
                              | exact ⟨_, rfl, Lib.hid (xat_set HBB.out (ownsRow_lower' HB2.out (Nat.le_refl _)) (by omega) HXB (fun e => by
                                  rcases HB4'.out with h | h
                                  · rw [h] at e; simp at e
                                  · rw [h] at e; simp at e))⟩
                              | exact ⟨_, rfl, Lib.hid (xat_set HBC.out (ownsRow_lower' HC2.out (by omega)) (Nat.le_refl _) HXC (fun e => by
                                  rcases HC4.out with h | h
                                  · rw [h] at e; simp at e
                                  · rw [h] at e; simp at e; omega))⟩
                      case rest =>
                        obtain ⟨xb, rfl, HX⟩ := hcut
                        obtain ⟨W6, rfl⟩ : ∃ W6 : World, W6 = wc := ⟨_, rfl⟩
                        obtain ⟨hxb, hb6, dpx, dcx, hxh, hxd⟩ := HX.out
                        obtain ⟨b', lvk, hbv, _, hbh, hbp⟩ := HR.out
                        cases hbv
                        obtain ⟨qp, qc, rfl⟩ := putsAt_shape hbp
                        have hzw := HC.out.size
                        have hch6 : Chg F w W6 := HC.out.then_up hb6
                        have hbh6 := (hb6.block b (by omega)).trans hbh
                        have hz6 := hb6.size
                        have hbp6 : PutsAt (fun q => (F q ∨ New w W6 q) ∧ q ≠ b) W6 (.slice qp Lk.length qc) Lk := (PutsAt.up hbp hb6).mono fun q hq => ⟨hq.1.imp id fun h => ⟨h.1, by have := h.2; omega⟩, hq.2⟩
                        have hxd6 : BytesAt (fun q => (F q ∨ New w W6 q) ∧ q ≠ b) W6 (.slice dpx x.data.length dcx) x.data := hxd.mono fun q hq => ⟨.inr ⟨by have := hq.1; omega, hq.2⟩, by have := hq.1; omega⟩
                        have hx0 : W6.cell? ⟨xb, 0, none⟩ = some (.int .i64 x.lba) := by rw [cell_row hxh]; rfl
                        have hx1 : W6.cell? ⟨xb, 1, none⟩ = some (.slice dpx x.data.length dcx) := by rw [cell_row hxh]; rfl
                        have hb2 : W6.cell? ⟨b, 2, none⟩ = some (.slice qp Lk.length qc) := by rw [cell_row hbh6]; rfl
                        have hbf : W6.frozen? ⟨b, 2, none⟩ = false := fz_row hbh6 2
                        have hS0 := (Sep.start W6).row_new (Below.refl _ _) (World.ownsRow_nil W6 W6.heap.size 61 2)
                        have hcel : ∀ V, Below W6.heap.size W6 V → V.cell? ⟨xb, 0, none⟩ = some (.int .i64 x.lba) ∧ V.cell? ⟨xb, 1, none⟩ = some (.slice dpx x.data.length dcx) ∧ V.cell? ⟨b, 2, none⟩ = some (.slice qp Lk.length qc) ∧ V.frozen? ⟨b, 2, none⟩ = false ∧ V.heap[b]? = some (.cells #[.int .i64 blocks, .int .i64 most, .slice qp Lk.length qc] 124 (0, 0)) :=
                          fun V hV => ⟨cell_up hV hx0, cell_up hV hx1, cell_up hV hb2, (hV.frozen (p := ⟨b, 2, none⟩) (show b < W6.heap.size by omega)).trans hbf, (hV.block b (by omega)).trans hbh6⟩
                        have hstore : ∀ V p c n O xs, Below W6.heap.size W6 V → RowP (fun q => (F q ∨ New w W6 q) ∧ q ≠ b) W6 O xs → O.length = n → rIns Lk x = O → V.ownsRow W6.heap.size 61 2 (.slice p n c) n xs → Chg F w (V.setCell ⟨b, 2, none⟩ (.slice p n c)) ∧ RBufP (.pointer (some ⟨b, 0, none⟩)) blocks most (rIns Lk x) (fun q => F q ∨ New w (V.setCell ⟨b, 2, none⟩ (.slice p n c)) q) (V.setCell ⟨b, 2, none⟩ (.slice p n c)) := by
                          intro V p c n O xs hV hrp hn hO hown
                          subst hn
                          rw [hO]
                          exact ref_store hFb hd hch6 hbh6 hV hrp hown
                        have HS0 := Lib.hid hS0
                        have HCEL := Lib.hid hcel
                        have HSTORE := Lib.hid hstore
                        have HBP6 := Lib.hid hbp6
                        have HXD6 := Lib.hid hxd6
                        have HCH6 := Lib.hid hch6
                        have HBH6 := Lib.hid hbh6
                        have HBH := Lib.hid hbh
                        have HBP := Lib.hid hbp
                        have HXD := Lib.hid hxd
                        have HXH := Lib.hid hxh
                        clear hS0 hcel hstore hbp6 hxd6 hch6 hbh6 hbh hbp hxd hxh
                        clear hx0 hx1 hb2 hbf HX
                        go_wp2_with fail
                        go_loopw [14, 15, 16] (fun ov dv iv wr2 => ∃ m : Nat, ∃ O d o c n xs, m ≤ Lk.length ∧ iv = .int .i64 m ∧ dv = .bool d ∧ ov = .slice o n c ∧ Hid (O.length = n) ∧ Hid (insTo x Lk m = (O, d)) ∧ Hid (Sep W6 [OldA W6, RowA 61 2 (.slice o n c) n xs] wr2) ∧ Hid (RowP (fun q => (F q ∨ New w W6 q) ∧ q ≠ b) W6 O xs)) (fun _ _ iv _ => Lk.length - (intOf iv).toNat)
                        case atStart => exact ⟨0, [], false, none, 0, 0, [], by omega, rfl, rfl, rfl, Lib.hid rfl, Lib.hid rfl, HS0, Lib.hid (RowP.nil _ _)⟩
                        case round =>
                          obtain ⟨m, O, d, oo, oc, n, xs, hm, rfl, rfl, rfl, HN, HI, HS, HRP⟩ := hrel
                          have hn : n ≤ 1000001 := by have := insTo_len x Lk m hm; rw [HI.out] at this; have := HN.out; simp only at *; omega
                          obtain ⟨d1, d2, d3, d4, d5⟩ := HCEL.out _ HS.out.old
                          by_cases hlm : m < Lk.length
                          case pos =>
                            obtain ⟨qg, qo, dpy, dcy, rfl, _, hy1, hy2, hyi, hyd⟩ := putsAt_get HBP6.out m hlm
                            have hmI : (m : Int) < (Lk.length : Int) := by omega
                            have hnx := insTo_succ x Lk m hlm
                            rw [HI.out] at hnx
                            generalize Lk[m] = y at *
                            have hyc : ∀ V, Below W6.heap.size W6 V → V.cell? ⟨qg, qo + m * 2, none⟩ = some (.int .i64 y.lba) ∧ V.cell? ⟨qg, qo + m * 2 + 1, none⟩ = some (.slice dpy y.data.length dcy) := fun V hV => ⟨cell_up hV hy1, cell_up hV hy2⟩
                            obtain ⟨e1, e2⟩ := hyc _ HS.out.old
                            have HNX := Lib.hid hnx
                            have HYI := Lib.hid hyi
                            have HYD := Lib.hid hyd
                            have HYC := Lib.hid hyc
                            clear hnx hyi hyd hyc
                            clear hy1 hy2
                            cases d with
                            | true =>
                              by_cases e : y.lba = x.lba
                              case pos =>
                                have hnx2 : insTo x Lk (m + 1) = (O, true) := by rw [HNX.out]; simp [insStep, e]
                                have hne : (y.lba != x.lba) = false := by rw [bne_eq_false_iff_eq]; exact e
                                have HNX2 := Lib.hid hnx2
                                have HE := Lib.hid e
                                clear hnx2 e
                                go_wp2_with fail
                                go_quiet (fail)
                                have HS7 := Lib.hid (HS.out.up (below_drewN (Below.refl wr.heap.size wr) nq))
                                clear d1 d2 d3 d4 d5 e1 e2
                                obtain ⟨d1, d2, d3, d4, d5⟩ := HCEL.out _ HS7.out.old
                                obtain ⟨e1, e2⟩ := HYC.out _ HS7.out.old
                                generalize wr.drewN nq = w7 at *
                                go_wp2_with fail
                                go_quiet (fail)
                                have HS8 := Lib.hid (HS7.out.up (below_drewN (Below.refl w7.heap.size w7) nq))
                                clear d1 d2 d3 d4 d5 e1 e2
                                obtain ⟨d1, d2, d3, d4, d5⟩ := HCEL.out _ HS8.out.old
                                obtain ⟨e1, e2⟩ := HYC.out _ HS8.out.old
                                generalize w7.drewN nq = w8 at *
                                go_wp2_with fail
                                go_roundw
                                case rel => exact ⟨m + 1, (O), true, _, _, n, _, by omega, by go_num, rfl, rfl, Lib.hid (HN.out), Lib.hid (HNX2.out), HS8, Lib.hid (HRP.out)⟩
                                case measure => simp [intOf]; omega
                              case neg =>
                                have hnx2 : insTo x Lk (m + 1) = (O ++ [y], true) := by rw [HNX.out]; simp [insStep, e]
                                have hne : (y.lba != x.lba) = true := by rw [bne_iff_ne]; exact e
                                have HNX2 := Lib.hid hnx2
                                have HE := Lib.hid e
                                clear hnx2 e
                                go_wp2_with fail
                                go_quiet (fail)
                                have HS7 := Lib.hid (HS.out.up (below_drewN (Below.refl wr.heap.size wr) nq))
                                clear d1 d2 d3 d4 d5 e1 e2
                                obtain ⟨d1, d2, d3, d4, d5⟩ := HCEL.out _ HS7.out.old
                                obtain ⟨e1, e2⟩ := HYC.out _ HS7.out.old
                                generalize wr.drewN nq = w7 at *
                                go_wp2_with fail
                                go_quiet (fail)
                                have HS8 := Lib.hid (HS7.out.up (below_drewN (Below.refl w7.heap.size w7) nq))
                                clear d1 d2 d3 d4 d5 e1 e2
                                obtain ⟨d1, d2, d3, d4, d5⟩ := HCEL.out _ HS8.out.old
                                obtain ⟨e1, e2⟩ := HYC.out _ HS8.out.old
                                generalize w7.drewN nq = w8 at *
                                obtain ⟨FB, hFB, _⟩ := HS8.out.get 1 rfl
                                have hrowB := hFB.1
                                obtain ⟨iiB, hiiB, hizB, hiyB, hixB⟩ := info_parts infoPut
                                have HROWB := Lib.hid hrowB
                                clear hFB hrowB
                                go_wp2_with (at_builtin; refine wpList_append_lies _ rfl _ _ 44 rfl 0 61 iiB (.agg #[.int .i64 0, .slice none 0 0]) 2 32 Try.underlying44 hiiB hizB hiyB hixB rfl (by decide) _ (n) (xs) rfl (HROWB.out.alloc _) ⟨w8.heap.size, 0, none⟩ 1 1 [.int .i64 y.lba, .slice dpy y.data.length dcy] rfl rfl (World.news_of_block (cs := #[.int .i64 y.lba, .slice dpy y.data.length dcy]) (heap_alloc_new w8 _)) (by simp [Value.oneCell']) (by decide) (by unfold maxLen; omega) (by omega) (Nat.zero_le _) (w8.heap.size + 1) (by simp) ?_; intro gB cB wB hownB hgrowB hatB hltB)
                                have hSB := HS8.out.row_app 1 rfl (below_alloc _ _) hownB hgrowB hatB (by simp) hltB
                                clear hownB hgrowB hatB hltB hiiB hizB hiyB hixB
                                have HSB := Lib.hid hSB
                                clear hSB
                                go_wp2_with fail
                                go_roundw
                                case rel => exact ⟨m + 1, (O ++ [y]), true, _, _, n + 1, _, by omega, by go_num, rfl, rfl, Lib.hid (by rw [List.length_append, HN.out]; rfl), Lib.hid (HNX2.out), HSB, Lib.hid ((HRP.out).snoc HYI.out HYD.out)⟩
                                case measure => simp [intOf]; omega
                            | false =>
                              rcases (show (x.lba ≤ y.lba ∧ y.lba = x.lba) ∨ (x.lba ≤ y.lba ∧ y.lba ≠ x.lba) ∨ (¬ x.lba ≤ y.lba ∧ y.lba ≠ x.lba) by omega) with ⟨f, e⟩ | ⟨f, e⟩ | ⟨f, e⟩
                              case inl =>
                                have hnx2 : insTo x Lk (m + 1) = (O ++ [x], true) := by rw [HNX.out]; simp [insStep, f, e]
                                have hne : (y.lba != x.lba) = false := by rw [bne_eq_false_iff_eq]; exact e
                                have HNX2 := Lib.hid hnx2
                                have HE := Lib.hid e
                                clear hnx2 e
                                go_wp2_with fail
                                go_quiet (fail)
                                have HS7 := Lib.hid (HS.out.up (below_drewN (Below.refl wr.heap.size wr) nq))
                                clear d1 d2 d3 d4 d5 e1 e2
                                obtain ⟨d1, d2, d3, d4, d5⟩ := HCEL.out _ HS7.out.old
                                obtain ⟨e1, e2⟩ := HYC.out _ HS7.out.old
                                generalize wr.drewN nq = w7 at *
                                obtain ⟨FA, hFA, _⟩ := HS7.out.get 1 rfl
                                have hrowA := hFA.1
                                obtain ⟨iiA, hiiA, hizA, hiyA, hixA⟩ := info_parts infoPut
                                have HROWA := Lib.hid hrowA
                                clear hFA hrowA
                                go_upto_region 39 with (at_builtin; refine wpList_append_lies _ rfl _ _ 44 rfl 0 61 iiA (.agg #[.int .i64 0, .slice none 0 0]) 2 32 Try.underlying44 hiiA hizA hiyA hixA rfl (by decide) _ (n) (xs) rfl (HROWA.out.alloc _) ⟨w7.heap.size, 0, none⟩ 1 1 [.int .i64 x.lba, .slice dpx x.data.length dcx] rfl rfl (World.news_of_block (cs := #[.int .i64 x.lba, .slice dpx x.data.length dcx]) (heap_alloc_new w7 _)) (by simp [Value.oneCell']) (by decide) (by unfold maxLen; omega) (by omega) (Nat.zero_le _) (w7.heap.size + 1) (by simp) ?_; intro gA cA wA hownA hgrowA hatA hltA)
                                have hSA := HS7.out.row_app 1 rfl (below_alloc _ _) hownA hgrowA hatA (by simp) hltA
                                clear hownA hgrowA hatA hltA hiiA hizA hiyA hixA
                                have HSA := Lib.hid hSA
                                clear hSA
                                have HRA := Lib.hid (HRP.out.snoc HKI.out HXD6.out)
                                clear d1 d2 d3 d4 d5 e1 e2
                                obtain ⟨d1, d2, d3, d4, d5⟩ := HCEL.out _ HSA.out.old
                                obtain ⟨e1, e2⟩ := HYC.out _ HSA.out.old
                                go_wp2_with fail
                                go_quiet (fail)
                                have HS8 := Lib.hid (HSA.out.up (below_drewN (Below.refl wA.heap.size wA) nq))
                                clear d1 d2 d3 d4 d5 e1 e2
                                obtain ⟨d1, d2, d3, d4, d5⟩ := HCEL.out _ HS8.out.old
                                obtain ⟨e1, e2⟩ := HYC.out _ HS8.out.old
                                generalize wA.drewN nq = w8 at *
                                go_wp2_with fail
                                go_roundw
                                case rel => exact ⟨m + 1, (O ++ [x]), true, _, _, n + 1, _, by omega, by go_num, rfl, rfl, Lib.hid (by rw [List.length_append, HN.out]; rfl), Lib.hid (HNX2.out), HS8, Lib.hid (HRA.out)⟩
                                case measure => simp [intOf]; omega
                              case inr.inl =>
                                have hnx2 : insTo x Lk (m + 1) = (O ++ [x] ++ [y], true) := by rw [HNX.out]; simp [insStep, f, e]
                                have hne : (y.lba != x.lba) = true := by rw [bne_iff_ne]; exact e
                                have HNX2 := Lib.hid hnx2
                                have HE := Lib.hid e
                                clear hnx2 e
                                go_wp2_with fail
                                go_quiet (fail)
                                have HS7 := Lib.hid (HS.out.up (below_drewN (Below.refl wr.heap.size wr) nq))
                                clear d1 d2 d3 d4 d5 e1 e2
                                obtain ⟨d1, d2, d3, d4, d5⟩ := HCEL.out _ HS7.out.old
                                obtain ⟨e1, e2⟩ := HYC.out _ HS7.out.old
                                generalize wr.drewN nq = w7 at *
                                obtain ⟨FA, hFA, _⟩ := HS7.out.get 1 rfl
                                have hrowA := hFA.1
                                obtain ⟨iiA, hiiA, hizA, hiyA, hixA⟩ := info_parts infoPut
                                have HROWA := Lib.hid hrowA
                                clear hFA hrowA
                                go_upto_region 39 with (at_builtin; refine wpList_append_lies _ rfl _ _ 44 rfl 0 61 iiA (.agg #[.int .i64 0, .slice none 0 0]) 2 32 Try.underlying44 hiiA hizA hiyA hixA rfl (by decide) _ (n) (xs) rfl (HROWA.out.alloc _) ⟨w7.heap.size, 0, none⟩ 1 1 [.int .i64 x.lba, .slice dpx x.data.length dcx] rfl rfl (World.news_of_block (cs := #[.int .i64 x.lba, .slice dpx x.data.length dcx]) (heap_alloc_new w7 _)) (by simp [Value.oneCell']) (by decide) (by unfold maxLen; omega) (by omega) (Nat.zero_le _) (w7.heap.size + 1) (by simp) ?_; intro gA cA wA hownA hgrowA hatA hltA)
                                have hSA := HS7.out.row_app 1 rfl (below_alloc _ _) hownA hgrowA hatA (by simp) hltA
                                clear hownA hgrowA hatA hltA hiiA hizA hiyA hixA
                                have HSA := Lib.hid hSA
                                clear hSA
                                have HRA := Lib.hid (HRP.out.snoc HKI.out HXD6.out)
                                clear d1 d2 d3 d4 d5 e1 e2
                                obtain ⟨d1, d2, d3, d4, d5⟩ := HCEL.out _ HSA.out.old
                                obtain ⟨e1, e2⟩ := HYC.out _ HSA.out.old
                                go_wp2_with fail
                                go_quiet (fail)
                                have HS8 := Lib.hid (HSA.out.up (below_drewN (Below.refl wA.heap.size wA) nq))
                                clear d1 d2 d3 d4 d5 e1 e2
                                obtain ⟨d1, d2, d3, d4, d5⟩ := HCEL.out _ HS8.out.old
                                obtain ⟨e1, e2⟩ := HYC.out _ HS8.out.old
                                generalize wA.drewN nq = w8 at *
                                obtain ⟨FB, hFB, _⟩ := HS8.out.get 1 rfl
                                have hrowB := hFB.1
                                obtain ⟨iiB, hiiB, hizB, hiyB, hixB⟩ := info_parts infoPut
                                have HROWB := Lib.hid hrowB
                                clear hFB hrowB
                                go_wp2_with (at_builtin; refine wpList_append_lies _ rfl _ _ 44 rfl 0 61 iiB (.agg #[.int .i64 0, .slice none 0 0]) 2 32 Try.underlying44 hiiB hizB hiyB hixB rfl (by decide) _ (n + 1) (xs ++ [.int .i64 x.lba, .slice dpx x.data.length dcx]) rfl (HROWB.out.alloc _) ⟨w8.heap.size, 0, none⟩ 1 1 [.int .i64 y.lba, .slice dpy y.data.length dcy] rfl rfl (World.news_of_block (cs := #[.int .i64 y.lba, .slice dpy y.data.length dcy]) (heap_alloc_new w8 _)) (by simp [Value.oneCell']) (by decide) (by unfold maxLen; omega) (by omega) (Nat.zero_le _) (w8.heap.size + 1) (by simp) ?_; intro gB cB wB hownB hgrowB hatB hltB)
                                have hSB := HS8.out.row_app 1 rfl (below_alloc _ _) hownB hgrowB hatB (by simp) hltB
                                clear hownB hgrowB hatB hltB hiiB hizB hiyB hixB
                                have HSB := Lib.hid hSB
                                clear hSB
                                go_wp2_with fail
                                go_roundw
                                case rel => exact ⟨m + 1, (O ++ [x] ++ [y]), true, _, _, n + 1 + 1, _, by omega, by go_num, rfl, rfl, Lib.hid (by rw [List.length_append, List.length_append, HN.out]; rfl), Lib.hid (HNX2.out), HSB, Lib.hid ((HRA.out).snoc HYI.out HYD.out)⟩
                                case measure => simp [intOf]; omega
                              case inr.inr =>
                                have hnx2 : insTo x Lk (m + 1) = (O ++ [y], false) := by rw [HNX.out]; simp [insStep, f, e]
                                have hne : (y.lba != x.lba) = true := by rw [bne_iff_ne]; exact e
                                have HNX2 := Lib.hid hnx2
                                have HE := Lib.hid e
                                clear hnx2 e
                                go_wp2_with fail
                                go_quiet (fail)
                                have HS7 := Lib.hid (HS.out.up (below_drewN (Below.refl wr.heap.size wr) nq))
                                clear d1 d2 d3 d4 d5 e1 e2
                                obtain ⟨d1, d2, d3, d4, d5⟩ := HCEL.out _ HS7.out.old
                                obtain ⟨e1, e2⟩ := HYC.out _ HS7.out.old
                                generalize wr.drewN nq = w7 at *
                                go_wp2_with fail
                                go_quiet (fail)
                                have HS8 := Lib.hid (HS7.out.up (below_drewN (Below.refl w7.heap.size w7) nq))
                                clear d1 d2 d3 d4 d5 e1 e2
                                obtain ⟨d1, d2, d3, d4, d5⟩ := HCEL.out _ HS8.out.old
                                obtain ⟨e1, e2⟩ := HYC.out _ HS8.out.old
                                generalize w7.drewN nq = w8 at *
                                obtain ⟨FB, hFB, _⟩ := HS8.out.get 1 rfl
                                have hrowB := hFB.1
                                obtain ⟨iiB, hiiB, hizB, hiyB, hixB⟩ := info_parts infoPut
                                have HROWB := Lib.hid hrowB
                                clear hFB hrowB
                                go_wp2_with (at_builtin; refine wpList_append_lies _ rfl _ _ 44 rfl 0 61 iiB (.agg #[.int .i64 0, .slice none 0 0]) 2 32 Try.underlying44 hiiB hizB hiyB hixB rfl (by decide) _ (n) (xs) rfl (HROWB.out.alloc _) ⟨w8.heap.size, 0, none⟩ 1 1 [.int .i64 y.lba, .slice dpy y.data.length dcy] rfl rfl (World.news_of_block (cs := #[.int .i64 y.lba, .slice dpy y.data.length dcy]) (heap_alloc_new w8 _)) (by simp [Value.oneCell']) (by decide) (by unfold maxLen; omega) (by omega) (Nat.zero_le _) (w8.heap.size + 1) (by simp) ?_; intro gB cB wB hownB hgrowB hatB hltB)
                                have hSB := HS8.out.row_app 1 rfl (below_alloc _ _) hownB hgrowB hatB (by simp) hltB
                                clear hownB hgrowB hatB hltB hiiB hizB hiyB hixB
                                have HSB := Lib.hid hSB
                                clear hSB
                                go_wp2_with fail
                                go_roundw
                                case rel => exact ⟨m + 1, (O ++ [y]), false, _, _, n + 1, _, by omega, by go_num, rfl, rfl, Lib.hid (by rw [List.length_append, HN.out]; rfl), Lib.hid (HNX2.out), HSB, Lib.hid ((HRP.out).snoc HYI.out HYD.out)⟩
                                case measure => simp [intOf]; omega
                          case neg =>
                            obtain rfl : m = Lk.length := by omega
                            cases d with
                            | true =>
                              have hfin : rIns Lk x = O := by unfold rIns; rw [HI.out]; rfl
                              have hrow := HS.out.row_mine 1 (by decide) rfl
                              obtain ⟨f1, f2⟩ := HSTORE.out _ _ _ _ _ _ HS.out.old HRP.out HN.out hfin hrow
                              rw [← HNEXT.out] at f2
                              have HF1 := Lib.hid f1
                              have HF2 := Lib.hid f2
                              have HFIN := Lib.hid hfin
                              have HROW := Lib.hid hrow
                              clear f1 f2 hfin hrow
                              go_wp2_with fail
                              go_roundw
                              case rel => exact ⟨k + 1, by omega, by go_num, HF1, HF2⟩
                              case measure => simp [intOf]; omega
                            | false =>
                              have hfin : rIns Lk x = O ++ [x] := by unfold rIns; rw [HI.out]; rfl
                              obtain ⟨FA, hFA, _⟩ := HS.out.get 1 rfl
                              have hrowA := hFA.1
                              obtain ⟨iiA, hiiA, hizA, hiyA, hixA⟩ := info_parts infoPut
                              have HROWA := Lib.hid hrowA
                              clear hFA hrowA
                              go_upto_region 43 with (at_builtin; refine wpList_append_lies _ rfl _ _ 44 rfl 0 61 iiA (.agg #[.int .i64 0, .slice none 0 0]) 2 32 Try.underlying44 hiiA hizA hiyA hixA rfl (by decide) _ (n) (xs) rfl (HROWA.out.alloc _) ⟨wr.heap.size, 0, none⟩ 1 1 [.int .i64 x.lba, .slice dpx x.data.length dcx] rfl rfl (World.news_of_block (cs := #[.int .i64 x.lba, .slice dpx x.data.length dcx]) (heap_alloc_new wr _)) (by simp [Value.oneCell']) (by decide) (by unfold maxLen; omega) (by omega) (Nat.zero_le _) (wr.heap.size + 1) (by simp) ?_; intro gA cA wA hownA hgrowA hatA hltA)
                              have hSA := HS.out.row_app 1 rfl (below_alloc _ _) hownA hgrowA hatA (by simp) hltA
                              clear hownA hgrowA hatA hltA hiiA hizA hiyA hixA
                              have hrow := hSA.row_mine 1 (by decide) rfl
                              obtain ⟨g1, g2, g3, g4, g5⟩ := HCEL.out _ hSA.old
                              obtain ⟨f1, f2⟩ := HSTORE.out _ _ _ _ _ _ hSA.old (HRP.out.snoc HKI.out HXD6.out) (by rw [List.length_append, HN.out]; rfl) hfin hrow
                              rw [← HNEXT.out] at f2
                              have HF1 := Lib.hid f1
                              have HF2 := Lib.hid f2
                              have HFIN := Lib.hid hfin
                              have HROW := Lib.hid hrow
                              have HSA := Lib.hid hSA
                              clear f1 f2 hfin hrow hSA
                              go_wp2_with fail
                              go_roundw
                              case rel => exact ⟨k + 1, by omega, by go_num, HF1, HF2⟩
                              case measure => simp [intOf]; omega
end Go.Proofs

/- Several separate things as one; opened and closed. Of no program. -/
namespace Sc
open Go Go.RowKit

/-- These things, apart from each other. -/
def StarA (Ls : List Asn) : Asn := ⟨fun F w => ∃ Fs : Nat → Foot, (∀ i k, Fs i k → F k) ∧ (∀ i j k, i ≠ j → Fs i k → ¬ Fs j k) ∧ ∀ i (A : Asn), Ls[i]? = some A → A.P (Fs i) w,
  fun _ _ _ hs hz ⟨Fs, h1, h2, h3⟩ => ⟨Fs, h1, h2, fun i A hA => A.loc _ _ _ (hs.mono fun k hk => h1 i k hk) hz (h3 i A hA)⟩⟩
/-- The list with a thing laid open behind it. -/
def OL (L : List Asn) (i : Nat) (Ls : List Asn) : List Asn := L.set i TrueA ++ Ls
theorem OL_get {L Ls : List Asn} {i k : Nat} : (OL L i Ls)[L.length + k]? = Ls[k]? := by
  unfold OL
  rw [List.getElem?_append_right (by rw [List.length_set]; omega), List.length_set, Nat.add_sub_cancel_left]
theorem OL_set {L Ls : List Asn} {i k : Nat} {A : Asn} : (OL L i Ls).set (L.length + k) A = OL L i (Ls.set k A) := by
  unfold OL
  rw [List.set_append_right _ _ (by rw [List.length_set]; omega), List.length_set, Nat.add_sub_cancel_left]
theorem OL_app {L Ls Cs : List Asn} {i : Nat} : OL L i Ls ++ Cs = OL L i (Ls ++ Cs) := by unfold OL; rw [List.append_assoc]
theorem OL_len {L Ls : List Asn} {i : Nat} : (OL L i Ls).length = L.length + Ls.length := by unfold OL; rw [List.length_append, List.length_set]
theorem OL_old {L Ls : List Asn} {i j : Nat} (hj : j < L.length) (hne : j ≠ i) : (OL L i Ls)[j]? = L[j]? := by
  unfold OL
  rw [List.getElem?_append_left (by rw [List.length_set]; exact hj), List.getElem?_set_ne (fun e => hne e.symm)]
theorem Rest_OL {L Ls : List Asn} {i k : Nat} {G : Foot} {w : World} (h : Rest (OL L i Ls) (L.length + k) G w) : Rest L i G w := fun j A hj hA => by
  have hl := (List.getElem?_eq_some_iff.1 hA).1
  exact h j A (by omega) ((OL_old hl hj).trans hA)
theorem Sep.openStar {W w : World} {L Ls : List Asn} (h : Sep W L w) (i : Nat) (hi : L[i]? = some (StarA Ls)) : Sep W (OL L i Ls) w := by
  obtain ⟨hg, Fs, h1, h2, h3⟩ := h
  obtain ⟨Gs, g1, g2, g3⟩ := h3 i _ hi
  have hil := (List.getElem?_eq_some_iff.1 hi).1
  refine ⟨hg, fun j k => if j < L.length then j ≠ i ∧ Fs j k else Gs (j - L.length) k, ?_, ?_, ?_⟩
  · intro j k hk
    by_cases hj : j < L.length
    · simp only [hj, if_true] at hk; exact h1 j k hk.2
    · simp only [hj, if_false] at hk; exact h1 i k (g1 _ k hk)
  · intro j j' k hjj hk hk'
    by_cases hj : j < L.length <;> by_cases hj' : j' < L.length
    · simp only [hj, hj', if_true] at hk hk'; exact h2 j j' k hjj hk.2 hk'.2
    · simp only [hj, hj', if_true, if_false] at hk hk'; exact h2 j i k hk.1 hk.2 (g1 _ k hk')
    · simp only [hj, hj', if_true, if_false] at hk hk'; exact h2 j' i k hk'.1 hk'.2 (g1 _ k hk)
    · simp only [hj, hj', if_false] at hk hk'; exact g2 _ _ k (by omega) hk hk'
  · intro j A hA
    by_cases hj : j < L.length
    · simp only [hj, if_true]
      by_cases hji : j = i
      · subst hji
        unfold OL at hA
        rw [List.getElem?_append_left (by rw [List.length_set]; exact hj), List.getElem?_set_self hj] at hA
        cases hA; trivial
      · rw [OL_old hj hji] at hA
        have := h3 j A hA
        exact A.loc _ _ _ (fun k _ => rfl) (Nat.le_refl _) (by
          have e : (fun k => j ≠ i ∧ Fs j k) = Fs j := by funext k; simp [hji]
          show A.P (fun k => j ≠ i ∧ Fs j k) w
          rw [e]; exact this)
    · simp only [hj, if_false]
      have := OL_get (L := L) (Ls := Ls) (i := i) (k := j - L.length)
      rw [show L.length + (j - L.length) = j by omega, hA] at this
      exact g3 _ A this.symm
theorem Sep.closeStar {W w : World} {L Ls : List Asn} {i : Nat} (h : Sep W (OL L i Ls) w) (hi : i < L.length) : Sep W (L.set i (StarA Ls)) w := by
  obtain ⟨hg, Fs, h1, h2, h3⟩ := h
  refine ⟨hg, fun j k => if j = i then ∃ q, q < Ls.length ∧ Fs (L.length + q) k else j < L.length ∧ Fs j k, ?_, ?_, ?_⟩
  · intro j k hk
    by_cases hj : j = i
    · simp only [hj, if_true] at hk
      obtain ⟨q, _, hk⟩ := hk
      exact h1 _ k hk
    · simp only [hj, if_false] at hk; exact h1 j k hk.2
  · intro j j' k hjj hk hk'
    by_cases hj : j = i <;> by_cases hj' : j' = i
    · exact hjj (hj.trans hj'.symm)
    · simp only [hj, hj', if_true, if_false] at hk hk'
      obtain ⟨q, _, hk⟩ := hk
      exact h2 _ j' k (by omega) hk hk'.2
    · simp only [hj, hj', if_true, if_false] at hk hk'
      obtain ⟨q, _, hk'⟩ := hk'
      exact h2 j _ k (by omega) hk.2 hk'
    · simp only [hj, hj', if_false] at hk hk'
      exact h2 j j' k hjj hk.2 hk'.2
  · intro j A hA
    by_cases hj : j = i
    · subst hj
      rw [List.getElem?_set_self hi] at hA
      cases hA
      simp only [if_true]
      refine ⟨fun q k => q < Ls.length ∧ Fs (L.length + q) k, fun q k hk => ⟨q, hk.1, hk.2⟩, fun q q' k hqq hk hk' => h2 _ _ k (by omega) hk.2 hk'.2, fun q A hA => ?_⟩
      have hq := (List.getElem?_eq_some_iff.1 hA).1
      have := h3 (L.length + q) A (OL_get.trans hA)
      have e : (fun k => q < Ls.length ∧ Fs (L.length + q) k) = Fs (L.length + q) := by funext k; simp [hq]
      show A.P (fun k => q < Ls.length ∧ Fs (L.length + q) k) w
      rw [e]; exact this
    · rw [List.getElem?_set_ne (fun e => hj e.symm)] at hA
      have hjl := (List.getElem?_eq_some_iff.1 hA).1
      have := h3 j A ((OL_old hjl hj).trans hA)
      simp only [hj, if_false]
      have e : (fun k => j < L.length ∧ Fs j k) = Fs j := by funext k; simp [hjl]
      rw [e]; exact this
/-- The same things in another order, or fewer, or weaker. -/
theorem StarA.sub {Ls Ms : List Asn} {F : Foot} {w : World} (f : Nat → Nat) (hf : ∀ i j, i < Ms.length → j < Ms.length → f i = f j → i = j) (hM : ∀ i (B : Asn), Ms[i]? = some B → ∃ A, Ls[f i]? = some A ∧ ∀ G, A.P G w → B.P G w) (h : (StarA Ls).P F w) : (StarA Ms).P F w := by
  obtain ⟨Fs, h1, h2, h3⟩ := h
  refine ⟨fun i k => i < Ms.length ∧ Fs (f i) k, fun i k hk => h1 _ k hk.2, fun i j k hij hk hk' => h2 _ _ k (fun e => hij (hf i j hk.1 hk'.1 e)) hk.2 hk'.2, fun i B hB => ?_⟩
  obtain ⟨A, hA, hAB⟩ := hM i B hB
  have hi := (List.getElem?_eq_some_iff.1 hB).1
  have e : (fun k => i < Ms.length ∧ Fs (f i) k) = Fs (f i) := by funext k; simp [hi]
  show B.P (fun k => i < Ms.length ∧ Fs (f i) k) w
  rw [e]
  exact hAB _ (h3 _ A hA)
end Sc

/- Some of the separate things, looked at by themselves, and new ones made beside them. Of no program. -/
namespace Sc
open Go Go.RowKit

theorem setAll_length : ∀ (is : List Nat) (L Bs : List Asn), (setAll L is Bs).length = L.length
  | [], L, [] => rfl
  | a :: is, L, B :: Bs => by
    show (setAll (L.set a B) is Bs).length = _
    rw [setAll_length is (L.set a B) Bs, List.length_set]
  | [], _, _ :: _ => rfl
  | _ :: _, _, [] => rfl
theorem setAll_self {L As : List Asn} {is : List Nat} (hn : is.Nodup) (hl : is.length = As.length) (hA : ∀ j (hj : j < is.length), L[is[j]]? = some (As[j]'(by omega))) : setAll L is As = L := by
  apply List.ext_getElem?
  intro i
  rw [setAll_get is L As i hn hl fun j hj => by
    obtain ⟨q, hq, rfl⟩ := List.mem_iff_getElem.1 hj
    exact (List.getElem?_eq_some_iff.1 (hA q hq)).1]
  split
  · rename_i hi
    have hlt := List.idxOf_lt_length_iff.2 hi
    have := hA _ hlt
    rw [List.getElem_idxOf hlt] at this
    rw [this, List.getElem?_eq_getElem (by omega)]
  · rfl
theorem Sep.zoomN {W w : World} {L : List Asn} (h : Sep W L w) (is : List Nat) (As : List Asn) (hn : is.Nodup) (hl : is.length = As.length) (hA : ∀ j (hj : j < is.length), L[is[j]]? = some (As[j]'(by omega))) :
    ∃ Z : Asn, Sep w (Z :: As) w ∧ ∀ w' Bs Cs, Bs.length = As.length → Sep w (Z :: (Bs ++ Cs)) w' → Sep W (setAll L is Bs ++ Cs) w' := by
  obtain ⟨hg, Fs, h1, h2, h3⟩ := h
  have hb : ∀ j ∈ is, j < L.length := fun j hj => by
    obtain ⟨q, hq, rfl⟩ := List.mem_iff_getElem.1 hj
    exact (List.getElem?_eq_some_iff.1 (hA q hq)).1
  let S : Foot := fun k => ∃ j, ∃ hj : j < is.length, Fs (is[j]) k
  refine ⟨FrameA w S, ⟨Grow.refl w, fun i k => if i = 0 then k < w.heap.size ∧ ¬ S k else if hi : i - 1 < is.length then Fs (is[i - 1]) k else False, ?_, ?_, ?_⟩, ?_⟩
  · intro i k hk
    by_cases h0 : i = 0
    · simp only [h0, if_true] at hk; exact hk.1
    · simp only [h0, if_false] at hk
      split at hk
      · exact h1 _ k hk
      · exact hk.elim
  · intro i j k hij hk hk'
    by_cases hi : i = 0 <;> by_cases hj : j = 0
    · omega
    · simp only [hi, if_true, hj, if_false] at hk hk'
      split at hk'
      · exact hk.2 ⟨_, _, hk'⟩
      · exact hk'
    · simp only [hj, if_true, hi, if_false] at hk hk'
      split at hk
      · exact hk'.2 ⟨_, _, hk⟩
      · exact hk
    · simp only [hi, hj, if_false] at hk hk'
      split at hk
      · split at hk'
        · rename_i q1 q2
          refine h2 _ _ k (fun e => ?_) hk hk'
          have := (List.getElem_inj hn).1 e
          omega
        · exact hk'
      · exact hk
  · intro i A hi
    cases i with
    | zero =>
      cases hi
      exact ⟨fun k hk hs => by simp only [if_true]; exact ⟨hk, hs⟩, Same.refl _ _⟩
    | succ i =>
      rw [List.getElem?_cons_succ] at hi
      obtain ⟨hlt, rfl⟩ := List.getElem?_eq_some_iff.1 hi
      have hil : i < is.length := by omega
      simp only [Nat.add_one_ne_zero, if_false, Nat.add_sub_cancel, hil, dif_pos]
      exact h3 _ _ (hA i hil)
  · intro w' Bs Cs hBl ⟨hg', Gs, k1, k2, k3⟩
    have k0 := k3 0 _ rfl
    have kz : w.heap.size ≤ w'.heap.size := hg'.size
    have hFs : ∀ i, i ∉ is → ∀ k, Fs i k → Gs 0 k ∧ w'.heap[k]? = w.heap[k]? := fun i hi k hk => by
      have hns : ¬ S k := fun ⟨j, hj, hj'⟩ => h2 _ _ k (fun e => hi (by rw [← e]; exact List.getElem_mem hj)) hj' hk
      exact ⟨k0.1 k (h1 i k hk) hns, k0.2 k ⟨h1 i k hk, hns⟩⟩
    let ix : Nat → Nat := fun i => if i ∈ is then is.idxOf i + 1 else is.length + 1 + (i - L.length)
    have hix : ∀ i j, (i ∈ is ∨ L.length ≤ i) → (j ∈ is ∨ L.length ≤ j) → ix i = ix j → i = j := by
      intro i j hi hj he
      by_cases mi : i ∈ is <;> by_cases mj : j ∈ is
      · simp only [ix, mi, mj, if_true] at he
        have g1 := List.getElem_idxOf (List.idxOf_lt_length_iff.2 mi)
        have g2 := List.getElem_idxOf (List.idxOf_lt_length_iff.2 mj)
        have e' : is.idxOf i = is.idxOf j := by omega
        rw [← g1, ← g2]
        simp only [e']
      · simp only [ix, mi, mj, if_true, if_false] at he
        have := List.idxOf_lt_length_iff.2 mi
        omega
      · simp only [ix, mi, mj, if_true, if_false] at he
        have := List.idxOf_lt_length_iff.2 mj
        omega
      · simp only [ix, mi, mj, if_false] at he
        have h1 := hi.resolve_left mi
        have h2 := hj.resolve_left mj
        omega
    have hpos : ∀ i, ix i ≠ 0 := fun i => by simp only [ix]; split <;> omega
    refine ⟨hg.trans hg', fun i => if i ∈ is ∨ L.length ≤ i then Gs (ix i) else Fs i, ?_, ?_, ?_⟩
    · intro i k hk
      by_cases hi : i ∈ is ∨ L.length ≤ i
      · simp only [hi, if_true] at hk; exact k1 _ k hk
      · simp only [hi, if_false] at hk; exact Nat.lt_of_lt_of_le (h1 i k hk) kz
    · intro i j k hij hk hk'
      by_cases hi : i ∈ is ∨ L.length ≤ i <;> by_cases hj : j ∈ is ∨ L.length ≤ j
      · simp only [hi, hj, if_true] at hk hk'
        exact k2 _ _ k (fun e => hij (hix i j hi hj e)) hk hk'
      · simp only [hi, hj, if_true, if_false] at hk hk'
        exact k2 _ 0 k (hpos i) hk (hFs j (fun e => hj (.inl e)) k hk').1
      · simp only [hi, hj, if_true, if_false] at hk hk'
        exact k2 _ 0 k (hpos j) hk' (hFs i (fun e => hi (.inl e)) k hk).1
      · simp only [hi, hj, if_false] at hk hk'
        exact h2 i j k hij hk hk'
    · intro i A hA'
      have hsl : (setAll L is Bs).length = L.length := setAll_length is L Bs
      by_cases hL : i < L.length
      · rw [List.getElem?_append_left (by omega), setAll_get is L Bs i hn (by omega) hb] at hA'
        by_cases hi : i ∈ is
        · have hc : i ∈ is ∨ L.length ≤ i := .inl hi
          simp only [hi, if_true] at hA'
          simp only [hc, if_true]
          have hlt := List.idxOf_lt_length_iff.2 hi
          refine k3 (ix i) A ?_
          simp only [ix, hi, if_true]
          rw [List.getElem?_cons_succ, List.getElem?_append_left (by omega)]
          exact hA'
        · have hc : ¬ (i ∈ is ∨ L.length ≤ i) := fun h => h.elim hi (by omega)
          simp only [hi, if_false] at hA'
          simp only [hc, if_false]
          exact A.loc _ _ _ (fun k hk => (hFs i hi k hk).2) kz (h3 i A hA')
      · have hi : i ∉ is := fun h => hL (hb i h)
        have hc : i ∈ is ∨ L.length ≤ i := .inr (by omega)
        rw [List.getElem?_append_right (by omega), hsl] at hA'
        simp only [hc, if_true]
        refine k3 (ix i) A ?_
        simp only [ix, hi, if_false]
        rw [show is.length + 1 + (i - L.length) = (is.length + (i - L.length)) + 1 by omega, List.getElem?_cons_succ, List.getElem?_append_right (by omega), show is.length + (i - L.length) - Bs.length = i - L.length by omega]
        exact hA'
end Sc
