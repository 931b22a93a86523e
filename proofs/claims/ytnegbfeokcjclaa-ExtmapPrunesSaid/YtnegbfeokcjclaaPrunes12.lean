/- ExtmapPrunes: pruning changes nothing that is read at the horizon or above, and leaves just one version of each block up to it: for every input the law returns true. -/
import Derived.Test.YtnegbfeokcjclaaPlainPrune
import Derived.Test.YtnegbfeokcjclaaInfo
namespace Go.Proofs
open Go.RowKit Sc

set_option maxRecDepth 100000 in
set_option maxHeartbeats 4000000 in
theorem prunes12_any (vl : Value) (l : List Step12) (h at' : Int) (w : World) (hl : Steps12 (Old w) w vl l) :
    Calls Try.prog 5 #[vl, .int .i64 h, .int .i64 at'] w (Tru w) := by
  have HL := Lib.hid hl
  obtain ⟨lp, lc, rfl, hll, hlc, _, _⟩ := hl
  go_enter Try.func5, Try.ntmps5
  go_wp2_with fail
  refine (small12_any (Old w) _ l _ (fun k hk => hk) HL.out).mono ?_
  rintro e w1 ⟨q, rfl, hq, hb1⟩
  have hS1 := (Sep.start w).up hb1
  have HS1 := Lib.hid hS1
  have HQ := Lib.hid hq
  have HB1 := Lib.hid hb1
  clear hS1 hq hb1
  cases q with
  | false =>
    go_wp2_with fail
    refine (awake12 _).mono ?_
    rintro e w2 ⟨rfl, hb2⟩
    have hS2 := HS1.out.up hb2
    have HS2 := Lib.hid hS2
    have HB2 := Lib.hid hb2
    clear hS2 hb2
    go_wp2
    go_ret
    exact ⟨rfl, HS2.out.old⟩
  | true =>
    obtain ⟨hsz, h100⟩ := HQ.out rfl
    go_wp2_with fail
    refine (extNew_sep HS1.out 20 (by omega) (by omega)).mono ?_
    rintro e w2 ⟨b, rfl, hS2⟩
    have HS2 := Lib.hid hS2
    clear hS2
    go_wp2_with fail
    go_loopw [9] (fun i wr => ∃ k : Nat, ∃ last vs, k ≤ l.length ∧ i = .int .i64 k ∧ Hid (Sep w [OldA w, ExtA (.pointer (some ⟨b, 0, none⟩)) 20 last vs] wr) ∧ Hid (Fed l k last vs)) (fun i _ => l.length - (intOf i).toNat)
    case atStart => exact ⟨0, 0, [], by omega, rfl, HS2.out, Fed.start l⟩
    case round =>
      obtain ⟨k, last, vs, hk, rfl, HS, HF⟩ := hrel
      by_cases hlt : k < l.length
      case pos =>
        obtain ⟨s, bb, o, pp, pc, hsk, rfl, hbb, hck, hct, hcp, HT, HPL⟩ := step12_cells HL HS hlt hsz
        have HSK := Lib.hid hsk
        clear hsk
        by_cases hkind : s.kind = 1
        case neg =>
          have hkn : (s.kind == 1) = false := by rw [beq_eq_false_iff_ne]; exact hkind
          have HKIND := Lib.hid hkind
          clear hkind
          go_wp2_with fail
          go_roundw
          case rel => exact ⟨k + 1, last, vs, by omega, by go_num, HS, HF.out.skip hlt⟩
          case measure => simp [intOf]; omega
        case pos =>
          have hkn : (s.kind == 1) = true := by rw [beq_iff_eq]; exact hkind
          have HKIND := Lib.hid hkind
          clear hkind
          go_wp2_with fail
          refine (fedApply HS HF hlt h100 HT HPL).mono ?_
          rintro e w4 ⟨rfl, HS4⟩
          go_wp2_with fail
          go_roundw
          case rel => exact ⟨k + 1, _, _, by omega, by go_num, HS4, HF.out.next hlt HSK.out⟩
          case measure => simp [intOf]; omega
      case neg =>
        obtain ⟨F, hmF, _⟩ := HS.out.get 1 rfl
        have hlen := getV_len HF.out.good
        have hnv := HF.out.nv' hsz
        have hnd := HF.out.good.nd
        have HMF := Lib.hid hmF
        have HLEN := Lib.hid hlen
        have HNV := Lib.hid hnv
        have HND := Lib.hid hnd
        clear hmF hlen hnv hnd
        go_wp2_with fail
        refine (extVersions_any F _ _ _ _ _ HMF.out (by omega) (by have := HNV.out; omega)).mono ?_
        rintro e w5 ⟨rfl, hb5⟩
        have hS5 := (((HS.out.up hb5).new (Below.refl _ _) (RowA 36 1 (.slice none 0 0) 0 []) (F := fun _ => False) (fun _ h => h.elim) ⟨World.ownsRow_nil _ _ _ _, by simp [Value.ownBlock]⟩).new (Below.refl _ _) (RowA 3 1 (.slice none 0 0) 0 []) (F := fun _ => False) (fun _ h => h.elim) ⟨World.ownsRow_nil _ _ _ _, by simp [Value.ownBlock]⟩).new (Below.refl _ _) (DatA [] []) (F := fun _ => False) (fun _ h => h.elim) trivial
        have HS5 := Lib.hid hS5
        have HB5 := Lib.hid hb5
        clear hS5 hb5
        go_wp2_with fail
        obtain ⟨m, hm⟩ : ∃ m, max at' h = m := ⟨_, rfl⟩
        rw [hm]
        have hmh : h ≤ m := by omega
        clear hm
        go_loopw [11, 12, 13] (fun vr vt i wr => ∃ k2 : Nat, ∃ vals pr cr pt ct, k2 ≤ 20 ∧ i = .int .i64 k2 ∧ vr = .slice pr k2 cr ∧ vt = .slice pt k2 ct ∧ Hid (vals.length = k2) ∧
          Hid (Sep w [OldA w, ExtA (.pointer (some ⟨b, 0, none⟩)) 20 last vs, RowA 36 1 (.slice pr k2 cr) k2 vals, RowA 3 1 (.slice pt k2 ct) k2 (timesL vs m k2), DatA vals (rowsL vs m k2)] wr)) (fun _ _ i _ => 20 - (intOf i).toNat)
        case atStart => exact ⟨0, [], none, 0, none, 0, by omega, rfl, rfl, rfl, rfl, HS5.out⟩
        case round =>
          obtain ⟨k2, vals, pr, cr, pt, ct, hk2, rfl, rfl, rfl, HVL, HS6⟩ := hrel
          by_cases hlt2 : k2 < 20
          case pos =>
            obtain ⟨F6, hmF6, _⟩ := HS6.out.get 1 rfl
            have hbk : blk 20 (k2 : Int) = true := by unfold blk; rw [decide_eq_true (by omega), decide_eq_true (by omega)]; rfl
            have hget := extGet_any F6 _ _ _ _ (k2 : Int) m wr hmF6 HF.out.good.d40
            have htl := timesL_succ vs m k2
            have hrl := rowsL_succ vs m k2
            have HMF6 := Lib.hid hmF6
            have HBK := Lib.hid hbk
            have HGET := Lib.hid hget
            have HTL := Lib.hid htl
            have HRL := Lib.hid hrl
            clear hmF6 hbk hget htl hrl
            go_wp2_with fail
            refine (HGET.out).mono ?_
            rintro e w7 (⟨hno, _⟩ | ⟨_, v7, rfl, hv7, hb7⟩)
            case inl => exact absurd (hno.symm.trans HBK.out) (by decide)
            have hS7 := HS6.out.dat_new 4 rfl hb7 hv7.bytes
            have h40 := HLEN.out (k2 : Int) m
            obtain ⟨dp, dc, rfl⟩ := shape_of hv7.bytes h40
            rw [← HRL.out] at hS7
            generalize (getV vs (k2 : Int) m).2 = T at *
            have HS7 := Lib.hid hS7
            have H40 := Lib.hid h40
            have HV7 := Lib.hid hv7
            have HB7 := Lib.hid hb7
            clear hS7 h40 hv7 hb7
            obtain ⟨FA, hFA, _⟩ := HS7.out.get 2 rfl
            have hrowA := hFA.1
            obtain ⟨iiA, hiiA, hizA, hiyA, hixA⟩ := info_parts infoRow
            have HROWA := Lib.hid hrowA
            clear hFA hrowA
            go_upto_region 20 with (at_builtin; refine wpList_append_lies _ rfl _ _ 29 rfl 0 36 iiA (.slice none 0 0) 1 24 Try.underlying29 hiiA hizA hiyA hixA rfl (by decide) _ (k2) (vals) rfl (HROWA.out.alloc _) ⟨w7.heap.size, 0, none⟩ 1 1 [.slice dp 40 dc] rfl rfl (World.news_of_block (cs := #[.slice dp 40 dc]) (heap_alloc_new w7 _)) (by simp [Value.oneCell']) (by decide) (by unfold maxLen; omega) (by omega) (Nat.zero_le _) (w7.heap.size + 1) (by simp) ?_; intro gA cA wA hownA hgrowA hatA hltA)
            have hSA := HS7.out.row_app 2 rfl (below_alloc _ _) hownA hgrowA hatA (by simp) hltA
            clear hownA hgrowA hatA hltA hiiA hizA hiyA hixA
            have HSA := Lib.hid hSA
            clear hSA
            obtain ⟨FB, hFB, _⟩ := HSA.out.get 3 rfl
            have hrowB := hFB.1
            obtain ⟨iiB, hiiB, hizB, hiyB, hixB⟩ := info_parts infoInt
            have HROWB := Lib.hid hrowB
            clear hFB hrowB
            go_wp2_with (at_builtin; refine wpList_append_lies _ rfl _ _ 50 rfl 0 3 iiB (.int .i64 0) 1 8 Try.underlying50 hiiB hizB hiyB hixB rfl (by decide) _ (k2) (timesL vs m k2) rfl (HROWB.out.alloc _) ⟨wA.heap.size, 0, none⟩ 1 1 [.int .i64 T] rfl rfl (World.news_of_block (cs := #[.int .i64 T]) (heap_alloc_new wA _)) (by simp [Value.oneCell']) (by decide) (by unfold maxLen; omega) (by omega) (Nat.zero_le _) (wA.heap.size + 1) (by simp) ?_; intro gB cB wB hownB hgrowB hatB hltB)
            have hSB := HSA.out.row_app 3 rfl (below_alloc _ _) hownB hgrowB hatB (by simp) hltB
            clear hownB hgrowB hatB hltB hiiB hizB hiyB hixB
            rw [← HTL.out] at hSB
            have HSB := Lib.hid hSB
            clear hSB
            go_wp2_with fail
            go_roundw
            case rel => exact ⟨k2 + 1, _, _, _, _, _, by omega, by go_num, rfl, rfl, by unfold Hid; rw [List.length_append, HVL.out, List.length_singleton], HSB.out⟩
            case measure => simp [intOf]; omega
          case neg =>
            obtain rfl : k2 = 20 := by omega
            obtain ⟨F6, hF6, _⟩ := HS6.out.get 2 rfl
            obtain ⟨gr, cr', he, _⟩ := hF6.1.form (by omega)
            cases he
            obtain ⟨F7, hF7, _⟩ := HS6.out.get 3 rfl
            obtain ⟨gt, ct', he, _⟩ := hF7.1.form (by omega)
            cases he
            clear hF6 hF7
            go_wp2_with fail
            refine (extPrune_sep HS6.out 1 rfl (by omega) HND.out (by have := HNV.out; omega) h).mono ?_
            rintro e w8 ⟨rfl, HPL, HS8⟩
            have hpv := fun k => getV_prune vs k hmh
            have hpd := prune_d40 HF.out.good h
            have HPV := Lib.hid hpv
            have HPD := Lib.hid hpd
            clear hpv hpd
            go_wp2_with fail
            go_loopw [17] (fun i wr => ∃ k3 : Nat, k3 ≤ 20 ∧ i = .int .i64 k3 ∧ Hid (Sep w [OldA w, ExtA (.pointer (some ⟨b, 0, none⟩)) 20 last (pruneVs h vs), RowA 36 1 (.slice (some ⟨gr, 0, none⟩) 20 cr) 20 vals, RowA 3 1 (.slice (some ⟨gt, 0, none⟩) 20 ct) 20 (timesL vs m 20), DatA vals (rowsL vs m 20)] wr)) (fun i _ => 20 - (intOf i).toNat)
            case atStart => exact ⟨0, by omega, rfl, HS8⟩
            case round =>
              obtain ⟨k3, hk3, rfl, HS9⟩ := hrel
              by_cases hlt3 : k3 < 20
              case pos =>
                obtain ⟨F9, hmF9, _⟩ := HS9.out.get 1 rfl
                have hbk : blk 20 (k3 : Int) = true := by unfold blk; rw [decide_eq_true (by omega), decide_eq_true (by omega)]; rfl
                have hget := extGet_any F9 _ _ _ _ (k3 : Int) m wr hmF9 HPD.out
                have HMF9 := Lib.hid hmF9
                have HBK := Lib.hid hbk
                have HGET := Lib.hid hget
                clear hmF9 hbk hget
                go_wp2_with fail
                refine (HGET.out).mono ?_
                rintro e w10 (⟨hno, _⟩ | ⟨_, v10, rfl, hv10, hb10⟩)
                case inl => exact absurd (hno.symm.trans HBK.out) (by decide)
                rw [HPV.out] at hv10 ⊢
                have hS10 := HS9.out.up hb10
                obtain ⟨hrow, _⟩ := hS10.row_cell 2 rfl k3 (by omega)
                obtain ⟨htm, _⟩ := hS10.row_cell 3 rfl k3 (by omega)
                rw [timesL_get vs m hlt3] at htm
                obtain ⟨FD, hFD, _⟩ := hS10.get 4 rfl
                have hdb := All2.get hFD k3 (by rw [HVL.out]; exact hlt3) (by rw [rowsL_len]; exact hlt3)
                rw [rowsL_get] at hdb
                rw [List.getElem?_eq_getElem (by rw [HVL.out]; exact hlt3)] at hrow
                generalize vals[k3]'(by rw [HVL.out]; exact hlt3) = old at hrow hdb
                obtain ⟨op, oc, rfl⟩ := shape_of hdb rfl
                generalize (getV vs (k3 : Int) m).1 = gb at *
                generalize (getV vs (k3 : Int) m).2 = T at *
                have hv10' := hv10.bytes
                have HS10 := Lib.hid hS10
                have HDB := Lib.hid hdb
                have HV10' := Lib.hid hv10'
                have HB10 := Lib.hid hb10
                clear hS10 hdb hv10' hb10
                clear hFD hv10
                go_wp2_with fail
                refine (bytes_any (fun _ => True) _ _ gb gb _ (BytesAt.mono HV10'.out fun _ _ => trivial) (BytesAt.mono HDB.out fun _ _ => trivial)).mono ?_
                rintro e w11 ⟨rfl, hb11⟩
                rw [show (gb == gb) = true by simp]
                have hS11 := HS10.out.up hb11
                obtain ⟨htm1, _⟩ := hS11.row_cell 3 rfl k3 (by omega)
                have htm11 : w11.cell? ⟨gt, k3, none⟩ = some (.int .i64 T) := (hb11.cell (p := ⟨gt, k3, none⟩) (World.block_lt_of_cell? _ _ htm)).trans htm
                have HB11 := Lib.hid hb11
                have HS11 := Lib.hid hS11
                clear hb11 hS11
                clear htm1
                go_wp2_with fail
                go_roundw
                case rel => exact ⟨k3 + 1, by omega, by go_num, HS11.out⟩
                case measure => simp [intOf]; omega
              case neg =>
                obtain rfl : k3 = 20 := by omega
                have hone : last ≤ h → nVers (pruneVs h vs) = (pruneVs h vs).length := fun hle => by
                  rw [prune_len]
                  exact prune_one (fun x hx => by
                    obtain ⟨a1, _, a3⟩ := HF.out.good.ts x.1 x.2 (alook_mem HND.out hx)
                    exact ⟨a1, fun p hp => (a3 p hp).2.2⟩) hle
                have hpnd : ((pruneVs h vs).map (·.1)).Nodup := by unfold pruneVs; simpa [Function.comp_def] using HND.out
                have htwo := prune_two h vs
                have hnv := HNV.out
                have hpl := HPL.out
                generalize nVers vs = A at *
                generalize pruneVs h vs = ps at *
                obtain ⟨F9, hmF9, _⟩ := HS9.out.get 1 rfl
                have hver := extVersions_any F9 _ _ _ _ _ hmF9 (by omega) (by omega)
                have hw : IntKind.i64.wrap ((A : Int) - ((A - nVers ps : Nat) : Int)) = (nVers ps : Int) := by rw [IntWalk.i64_in _ (by omega)]; omega
                have hpr := fun (W : World) (hS : Hid (Sep w [OldA w, ExtA (.pointer (some ⟨b, 0, none⟩)) 20 last ps, RowA 36 1 (.slice (some ⟨gr, 0, none⟩) 20 cr) 20 vals, RowA 3 1 (.slice (some ⟨gt, 0, none⟩) 20 ct) 20 (timesL vs m 20), DatA vals (rowsL vs m 20)] W)) => extPrune_sep hS.out 1 rfl (by omega) hpnd (by omega) h
                rw [htwo, Nat.sub_self] at hpr
                generalize hNP : nVers ps = NP at *
                obtain ⟨q, rfl⟩ : ∃ q, A = NP + q := ⟨A - NP, by omega⟩
                rw [show NP + q - NP = q by omega]
                have hnp : (NP : Int) ≤ 20000 := by omega
                have hnq : (q : Int) ≤ 20000 := by omega
                have HONE := Lib.hid hone
                have HPND := Lib.hid hpnd
                have HTWO := Lib.hid htwo
                have HPL := Lib.hid hpl
                have HVER := Lib.hid hver
                have HPR := Lib.hid hpr
                have HNP := Lib.hid hNP
                have HMF9 := Lib.hid hmF9
                have HNV := Lib.hid hnv
                clear hone hpnd htwo hpl hver hpr hNP hmF9 hnv
                clear hw
                go_wp2_with fail
                refine (HVER.out).mono ?_
                rintro e w12 ⟨rfl, hb12⟩
                have hS12 := HS9.out.up hb12
                have HB12 := Lib.hid hb12
                have HS12 := Lib.hid hS12
                clear hb12 hS12
                go_wp2_with fail
                refine (HPR.out _ HS12).mono ?_
                rintro e w13 ⟨rfl, _, HS13⟩
                obtain ⟨F13, hmF13, _⟩ := HS13.out.get 1 rfl
                have hlast := extLast_any F13 _ _ _ _ _ hmF13
                have HLAST := Lib.hid hlast
                have HMF13 := Lib.hid hmF13
                clear hlast hmF13
                by_cases hh : h < last
                case pos =>
                  go_wp2_with fail
                  refine (HLAST.out).mono ?_
                  rintro e w14 ⟨rfl, rfl⟩
                  go_wp2_with fail
                  refine (awake12 _).mono ?_
                  rintro e w15 ⟨rfl, hb15⟩
                  have hS15 := HS13.out.up hb15
                  have HS15 := Lib.hid hS15
                  clear hS15
                  go_wp2
                  go_ret
                  exact ⟨rfl, HS15.out.old⟩
                case neg =>
                  have hh' : last ≤ h := by omega
                  have hpl := HONE.out hh'
                  have hver := extVersions_any F13 _ _ _ _ _ HMF13.out (by omega) (by rw [HNP.out]; omega)
                  rw [HNP.out] at hver
                  have husd := fun (W : World) (F : Foot) (h : ExtIs F W (.pointer (some ⟨b, 0, none⟩)) 20 last ps) => extUsed_any F _ _ _ _ W h (by omega)
                  rw [← hpl] at husd
                  have HVER := Lib.hid hver
                  have HUSD := Lib.hid husd
                  have HPL := Lib.hid hpl
                  clear hver husd hpl
                  clear hh
                  go_wp2_with fail
                  refine (HLAST.out).mono ?_
                  rintro e w14 ⟨rfl, rfl⟩
                  go_wp2_with fail
                  refine (HVER.out).mono ?_
                  rintro e w14 ⟨rfl, hb14⟩
                  have hS14 := HS13.out.up hb14
                  obtain ⟨F14, hmF14, _⟩ := hS14.get 1 rfl
                  have HS14 := Lib.hid hS14
                  have HB14 := Lib.hid hb14
                  have HMF14 := Lib.hid hmF14
                  clear hS14 hb14 hmF14
                  go_wp2_with fail
                  refine (HUSD.out _ _ HMF14.out).mono ?_
                  rintro e w15 ⟨rfl, rfl⟩
                  go_wp2_with fail
                  refine (awake12 _).mono ?_
                  rintro e w15 ⟨rfl, hb15⟩
                  have hS15 := HS14.out.up hb15
                  have HS15 := Lib.hid hS15
                  clear hS15
                  go_wp2
                  go_ret
                  exact ⟨rfl, HS15.out.old⟩
end Go.Proofs
