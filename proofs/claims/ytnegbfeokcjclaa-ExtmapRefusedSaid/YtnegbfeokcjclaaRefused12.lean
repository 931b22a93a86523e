/- ExtmapRefused: a transaction that may not be is refused, and changes nothing that is read at any time: for every input the law returns true. -/
import Derived.Test.YtnegbfeokcjclaaPlainRange
import Derived.Test.YtnegbfeokcjclaaExt10
import Derived.Test.YtnegbfeokcjclaaSamePuts
namespace Go.Proofs
open Go.RowKit Sc

/-- A transaction, boxed. -/
theorem box_tx (w : World) (t : Int) (pv : Value) : ∃ W0, w.alloc (.cells #[.int .i64 t, pv] 32) = W0 ∧ Below w.heap.size w W0 ∧ W0.cell? ⟨w.heap.size, 0, none⟩ = some (.int .i64 t) ∧ W0.cell? ⟨w.heap.size, 1, none⟩ = some pv ∧ w.heap.size < W0.heap.size :=
  ⟨_, rfl, below_alloc w _, by rw [cell_row (heap_alloc_new w _)]; rfl, by rw [cell_row (heap_alloc_new w _)]; rfl, by simp⟩
theorem box_cells2 {W0 wr : World} {L : List Asn} {b : Nat} {u v : Value} (h0 : Hid (W0.cell? ⟨b, 0, none⟩ = some u)) (h1 : Hid (W0.cell? ⟨b, 1, none⟩ = some v)) (hb : Hid (b < W0.heap.size)) (HS : Hid (Sep W0 (OldA W0 :: L) wr)) :
    wr.cell? ⟨b, 0, none⟩ = some u ∧ wr.cell? ⟨b, 1, none⟩ = some v :=
  ⟨(HS.out.old.cell (p := ⟨b, 0, none⟩) hb.out).trans h0.out, (HS.out.old.cell (p := ⟨b, 1, none⟩) hb.out).trans h1.out⟩

set_option maxRecDepth 100000 in
set_option maxHeartbeats 4000000 in
theorem refused12_any (vl : Value) (l : List Step12) (tv : Value) (t : Tx) (at' : Int) (w : World) (hl : Steps12 (Old w) w vl l) (ht : TxAt (Old w) w tv t) :
    Calls Try.prog 6 #[vl, tv, .int .i64 at'] w (Tru w) := by
  obtain ⟨pv, rfl, hti, hpv⟩ := ht
  have hpv2 := hpv
  obtain ⟨pp, pc, rfl, _⟩ := hpv2
  obtain ⟨W0, hW0, hb0, hct, hcp, hz0⟩ := box_tx w t.time (.slice pp t.puts.length pc)
  have hl0 := hl.more hb0
  have hp0 : PutsAt (Old W0) W0 (.slice pp t.puts.length pc) t.puts := (hpv.up hb0).mono fun k (hk : k < w.heap.size) => (show k < W0.heap.size by omega)
  have hl' := hl
  obtain ⟨lp, lc, rfl, hll, hlc, _, _⟩ := hl'
  have HL := Lib.hid hl0
  have HP0 := Lib.hid hp0
  clear hl hl0 hpv hp0
  unfold I64 at hti
  have HW0 := Lib.hid hW0
  have HB0 := Lib.hid hb0
  have HCT := Lib.hid hct
  have HCP := Lib.hid hcp
  have HZ0 := Lib.hid hz0
  clear hW0 hb0 hct hcp hz0
  go_enter Try.func6, Try.ntmps6
  go_wp2_with fail
  rw [HW0.out]
  refine (small12_any (Old W0) _ l _ (fun k hk => hk) HL.out).mono ?_
  rintro e w1 ⟨q, rfl, hq, hb1⟩
  have hS1 := (Sep.start W0).up hb1
  have HS1 := Lib.hid hS1
  have HQ := Lib.hid hq
  have HB1 := Lib.hid hb1
  clear hS1 hq hb1
  obtain ⟨hct1, hcp1⟩ := box_cells2 HCT HCP HZ0 HS1
  have hfin : ∀ (w2 w3 : World) (L : List Asn), Hid (Sep W0 (OldA W0 :: L) w2) → Below w2.heap.size w2 w3 → Below w.heap.size w w3 := fun _ _ _ h1 h2 => HB0.out.trans (((h1.out.up h2).old).mono (by have := HB0.out.size; omega))
  have HFIN := Lib.hid hfin
  clear hfin
  cases q with
  | false =>
    go_wp2_with fail
    refine (awake12 _).mono ?_
    rintro e w2 ⟨rfl, hb2⟩
    have hb2' := HFIN.out _ _ _ HS1 hb2
    have HB2' := Lib.hid hb2'
    clear hb2'
    go_wp2
    go_ret
    exact ⟨rfl, HB2'.out⟩
  | true =>
    obtain ⟨hsz, h100⟩ := HQ.out rfl
    have hpw1 := (HP0.out).up HB1.out
    have HPW1 := Lib.hid hpw1
    clear hpw1
    go_wp2_with fail
    refine (puts_any (Old W0) _ t.puts 5000 _ HPW1.out (by omega) (by omega)).mono ?_
    rintro e w2 ⟨ps, rfl, hps0, hps1, hps2, hb2⟩
    have hS2 := HS1.out.up hb2
    have HS2 := Lib.hid hS2
    have HB2 := Lib.hid hb2
    have HPS2 := Lib.hid hps2
    clear hS2 hb2 hps2
    by_cases hbig : 5000 < ps
    case pos =>
      go_wp2_with fail
      refine (awake12 _).mono ?_
      rintro e w3 ⟨rfl, hb3⟩
      have hb3' := HFIN.out _ _ _ HS2 hb3
      have HB3' := Lib.hid hb3'
      clear hb3'
      go_wp2
      go_ret
      exact ⟨rfl, HB3'.out⟩
    case neg =>
      have hpl : t.puts.length ≤ 5000 := by have := HPS2.out (by omega); unfold psz at this; omega
      have HPL := Lib.hid hpl
      clear hpl
      go_wp2_with fail
      refine (extNew_sep HS2.out 20 (by omega) (by omega)).mono ?_
      rintro e w3 ⟨b, rfl, hS3⟩
      have HS3 := Lib.hid hS3
      clear hS3
      clear hct1 hcp1
      go_wp2_with fail
      go_loopw [9] (fun i wr => ∃ k : Nat, ∃ last vs, k ≤ l.length ∧ i = .int .i64 k ∧ Hid (Sep W0 [OldA W0, ExtA (.pointer (some ⟨b, 0, none⟩)) 20 last vs] wr) ∧ Hid (Fed l k last vs)) (fun i _ => l.length - (intOf i).toNat)
      case atStart => exact ⟨0, 0, [], by omega, rfl, HS3.out, Fed.start l⟩
      case round =>
        obtain ⟨k, last, vs, hk, rfl, HS, HF⟩ := hrel
        by_cases hlt : k < l.length
        case pos =>
          obtain ⟨s, bb, o, pp', pc', hsk, rfl, hbb, hck, hct9, hcp9, HT, HPL9⟩ := step12_cells HL HS hlt hsz
          have HSK := Lib.hid hsk
          clear hsk
          by_cases hkind : s.kind = 1
          case neg =>
            have hkn : (s.kind == 1) = false := by rw [beq_eq_false_iff_ne]; exact hkind
            have HKIND := Lib.hid hkind
            clear hkind
            go_wp2_with fail
            go_roundw
            case rel => exact ⟨k + 1, last, vs, by omega, by go_num, HS, HF.out.skip hlt⟩
            case measure => simp [intOf]; omega
          case pos =>
            have hkn : (s.kind == 1) = true := by rw [beq_iff_eq]; exact hkind
            have HKIND := Lib.hid hkind
            clear hkind
            go_wp2_with fail
            refine (fedApply HS HF hlt h100 HT HPL9).mono ?_
            rintro e w4 ⟨rfl, HS4⟩
            go_wp2_with fail
            go_roundw
            case rel => exact ⟨k + 1, _, _, by omega, by go_num, HS4, HF.out.next hlt HSK.out⟩
            case measure => simp [intOf]; omega
        case neg =>
          have hlen := getV_len HF.out.good
          have hnv := HF.out.nv' hsz
          have hvl : vs.length ≤ 1000000 := by
            have : ∀ (vs : Vers), (∀ x ∈ vs, x.2 ≠ []) → vs.length ≤ nVers vs := by
              intro vs
              induction vs with
              | nil => simp
              | cons x t ih =>
                intro h
                have h1 := ih fun y hy => h y (by simp [hy])
                have h2 := List.length_pos_iff.2 (h x (by simp))
                unfold nVers at *
                simp; omega
            have := this vs HF.out.ne; omega
          obtain ⟨F, hmF, _⟩ := HS.out.get 1 rfl
          have hdump := fun (F : Foot) (W : World) (h : ExtIs F W (.pointer (some ⟨b, 0, none⟩)) 20 last vs) => extDump_any F _ _ _ _ W h (by omega) (fun x hx => (HF.out.ks x hx).1) hvl HF.out.ne HF.out.good.d40
          have hver := fun (F : Foot) (W : World) (h : ExtIs F W (.pointer (some ⟨b, 0, none⟩)) 20 last vs) => extVersions_any F _ _ _ _ W h (by omega) (by omega)
          have hrange := fun (F : Foot) (W : World) (h : ExtIs F W (.pointer (some ⟨b, 0, none⟩)) 20 last vs) => extRange_any F _ _ _ _ 0 20 at' W h (by omega) HF.out.good.d40 (fun b => hlen b at')
          have hwi : withinB 20 0 20 = true := by decide
          have hnp := nVers_next 20 last vs t
          have HMF := Lib.hid hmF
          have HLEN := Lib.hid hlen
          have HVL := Lib.hid hvl
          have HDUMP := Lib.hid hdump
          have HVER := Lib.hid hver
          have HRANGE := Lib.hid hrange
          have HWI := Lib.hid hwi
          clear hmF hlen hvl hdump hver hrange hwi
          go_wp2_with fail
          refine (HDUMP.out F _ HMF.out).mono ?_
          rintro e w5 ⟨dv, rfl, hdv, hb5⟩
          have hS5 := HS.out.new hb5 ⟨fun F w => PutsAt F w dv (dumpV vs), fun _ _ _ hs _ h => h.same hs⟩ (fun _ h => h) hdv.puts
          obtain ⟨F5, hmF5, _⟩ := hS5.get 1 rfl
          have HS5 := Lib.hid hS5
          have HB5 := Lib.hid hb5
          have HDV := Lib.hid hdv
          have HMF5 := Lib.hid hmF5
          clear hS5 hb5 hdv hmF5
          go_wp2_with fail
          refine (HVER.out F5 _ HMF5.out).mono ?_
          rintro e w6 ⟨rfl, hb6⟩
          have hS6 := HS5.out.up hb6
          obtain ⟨F6, hmF6, _⟩ := hS6.get 1 rfl
          have HS6 := Lib.hid hS6
          have HB6 := Lib.hid hb6
          have HMF6 := Lib.hid hmF6
          clear hS6 hb6 hmF6
          go_wp2_with fail
          refine (extLast_any F6 _ _ _ _ _ HMF6.out).mono ?_
          rintro e w7 ⟨rfl, rfl⟩
          go_wp2_with fail
          refine (HRANGE.out F6 _ HMF6.out).mono ?_
          rintro e w7 (⟨hno, _⟩ | ⟨_, bv, rfl, hbv, hb7⟩)
          case inl => exact absurd (hno.symm.trans HWI.out) (by decide)
          have hS7 := HS6.out.new hb7 ⟨fun F w => BytesAt F w bv (rangeV vs 0 at' 20), fun _ _ _ hs _ h => h.same hs⟩ (fun _ h => h) hbv.bytes
          obtain ⟨hct7, hcp7⟩ := box_cells2 HCT HCP HZ0 (Lib.hid hS7)
          have happ := extApply_sep hS7 1 (tv := .agg #[.int .i64 t.time, .slice pp t.puts.length pc]) rfl (by omega) t (fun G hG => by
            refine ⟨_, rfl, by unfold I64; omega, ?_⟩
            refine ((HP0.out.same (fun k hk => ?_)).mono (rest_old (by decide) hG))
            exact hS7.old.block k hk) (HF.out.long hk h100) (by have := HPL.out; omega)
          have HS7 := Lib.hid hS7
          have HB7 := Lib.hid hb7
          have HBV := Lib.hid hbv
          have HAPP := Lib.hid happ
          clear hS7 hb7 hbv happ
          go_wp2_with fail
          refine (HAPP.out).mono ?_
          rintro e w8 ⟨rfl, hS8⟩
          obtain ⟨hct8, hcp8⟩ := box_cells2 HCT HCP HZ0 (Lib.hid hS8)
          by_cases hcode : applyCode 20 last t = 0
          case pos =>
            have hvs : applyNext 20 last vs t = applyVs t.time vs t.puts := by unfold applyNext; rw [if_pos hcode]
            have hls : applyLast 20 last t = t.time := by unfold applyLast; rw [if_pos hcode]
            rw [hvs, hls] at hS8
            rw [hcode]
            obtain ⟨F8, hmF8, hd8⟩ := hS8.get 1 rfl
            have hnn := nVers_applyVs t.time t.puts vs
            have hplo := HPL.out
            have hver8 := fun (W : World) (hb : Below w8.heap.size w8 W) => extVersions_any F8 _ _ _ _ W (ExtIs.up hmF8 hb) (by omega) (by rw [hnn]; omega)
            have hlast8 := fun (W : World) (hb : Below w8.heap.size w8 W) => extLast_any F8 _ _ _ _ W (ExtIs.up hmF8 hb)
            rw [hnn] at hver8
            have hb00 := Below.refl w8.heap.size w8
            generalize nVers vs = A at *
            have hw1 : IntKind.i64.wrap ((A : Int) + (t.puts.length : Int)) = (A : Int) + (t.puts.length : Int) := IntWalk.i64_in _ (by omega)
            have hcast : ((A + t.puts.length : Nat) : Int) = (A : Int) + (t.puts.length : Int) := by omega
            rw [hcast] at hver8
            have HS8 := Lib.hid hS8
            have HMF8 := Lib.hid hmF8
            have HVER8 := Lib.hid hver8
            have HLAST8 := Lib.hid hlast8
            have HCODE := Lib.hid hcode
            have HVS := Lib.hid hvs
            have HLS := Lib.hid hls
            have HB00 := Lib.hid hb00
            clear hS8 hmF8 hver8 hlast8 hcode hvs hls hb00
            clear hct7 hcp7 hcast hnn hplo
            go_wp2_with fail
            go_region_held3 (fun W => W.cell? ⟨w.heap.size, 0, none⟩ = some (.int .i64 t.time) ∧ W.cell? ⟨w.heap.size, 1, none⟩ = some (.slice pp t.puts.length pc))
              (first
                | (go_split_ands; exact ⟨cell_up hb9 (by assumption), cell_up hb9 (by assumption)⟩)
                | (go_split_ands; exact ⟨cell_up hb10 (by assumption), cell_up hb10 (by assumption)⟩)
                | go_keep)
              ((first
                | (go_at_call 17
                   refine (HLAST8.out _ (by exact below_drewN HB00.out 1)).mono ?_
                   rintro e w9 ⟨rfl, rfl⟩)
                | (go_at_call 22
                   refine (HVER8.out _ (by exact below_drewN HB00.out 1)).mono ?_
                   rintro e w9 ⟨rfl, hb9⟩)
                | (go_at_call 14
                   refine (awake12 _).mono ?_
                   rintro e w10 ⟨rfl, hb10⟩)))
            all_goals
              have hbb := HFIN.out _ _ _ HS8 (Below.up (Below.up (below_drewN HB00.out 1) hb9) hb10)
              have HBB := Lib.hid hbb
              clear hbb
              go_wp2
              go_ret
              exact ⟨rfl, HBB.out⟩
          case neg =>
            have hvs : applyNext 20 last vs t = vs := by unfold applyNext; rw [if_neg hcode]
            have hls : applyLast 20 last t = last := by unfold applyLast; rw [if_neg hcode]
            rw [hvs, hls] at hS8
            have hcn : (applyCode 20 last t == 0) = false := by rw [beq_eq_false_iff_ne]; exact hcode
            generalize applyCode 20 last t = code at *
            obtain ⟨F8, hmF8, hd8⟩ := hS8.get 1 rfl
            have HS8 := Lib.hid hS8
            have HMF8 := Lib.hid hmF8
            have HCODE := Lib.hid hcode
            have HVS := Lib.hid hvs
            have HLS := Lib.hid hls
            clear hS8 hmF8 hcode hvs hls
            clear hct7 hcp7
            go_wp2_with fail
            refine (HRANGE.out F8 _ HMF8.out).mono ?_
            rintro e w9 (⟨hno, _⟩ | ⟨_, cv, rfl, hcv, hb9⟩)
            case inl => exact absurd (hno.symm.trans HWI.out) (by decide)
            have hS9 := HS8.out.up hb9
            obtain ⟨F9, hmF9, _⟩ := hS9.get 1 rfl
            obtain ⟨Fb, hbb9, _⟩ := hS9.get 3 rfl
            have hcv' := hcv.bytes
            have HS9 := Lib.hid hS9
            have HB9 := Lib.hid hb9
            have HCV := Lib.hid hcv
            have HCV' := Lib.hid hcv'
            have HMF9 := Lib.hid hmF9
            have HBB9 := Lib.hid hbb9
            clear hS9 hb9 hcv hcv' hmF9 hbb9
            go_wp2_with fail
            refine (bytes_any (fun _ => True) _ _ _ _ _ (BytesAt.mono HBB9.out fun _ _ => trivial) (BytesAt.mono HCV'.out fun _ _ => trivial)).mono ?_
            rintro e w10 ⟨rfl, hb10⟩
            rw [show (rangeV vs 0 at' 20 == rangeV vs 0 at' (Int.toNat 20)) = true by simp]
            have hS10 := HS9.out.up hb10
            obtain ⟨F10, hmF10, _⟩ := hS10.get 1 rfl
            have HS10 := Lib.hid hS10
            have HB10 := Lib.hid hb10
            have HMF10 := Lib.hid hmF10
            clear hS10 hb10 hmF10
            go_wp2_with fail
            refine (HVER.out F10 _ HMF10.out).mono ?_
            rintro e w11 ⟨rfl, hb11⟩
            have hS11 := HS10.out.up hb11
            obtain ⟨F11, hmF11, _⟩ := hS11.get 1 rfl
            have HS11 := Lib.hid hS11
            have HB11 := Lib.hid hb11
            have HMF11 := Lib.hid hmF11
            clear hS11 hb11 hmF11
            go_wp2_with fail
            refine (extLast_any F11 _ _ _ _ _ HMF11.out).mono ?_
            rintro e w12 ⟨rfl, rfl⟩
            go_wp2_with fail
            refine (HDUMP.out F11 _ HMF11.out).mono ?_
            rintro e w13 ⟨dv2, rfl, hdv2, hb13⟩
            have hS13 := HS11.out.up hb13
            obtain ⟨FD, hdd, hdom⟩ := hS13.get 2 rfl
            have hd13 : PutsAt (fun k => k < w13.heap.size) w13 dv (dumpV vs) := PutsAt.mono hdd hdom
            have hd13' : PutsAt (fun k => k < w13.heap.size) w13 dv2 (dumpV vs) := PutsAt.mono hdv2.puts fun k hk => hk.2
            have HS13 := Lib.hid hS13
            have HB13 := Lib.hid hb13
            have HDV2 := Lib.hid hdv2
            have HD13 := Lib.hid hd13
            have HD13' := Lib.hid hd13'
            have HDD := Lib.hid hdd
            have HDOM := Lib.hid hdom
            clear hS13 hb13 hdv2 hd13 hd13' hdd hdom
            go_wp2_with fail
            refine (samePuts_any _ _ _ _ _ _ (fun k hk => hk) HD13'.out HD13.out).mono ?_
            rintro e w14 ⟨rfl, hb14⟩
            rw [samePuts_iff.2 rfl]
            have hS14 := HS13.out.up hb14
            have HS14 := Lib.hid hS14
            have HB14 := Lib.hid hb14
            clear hS14 hb14
            go_wp2_with fail
            refine (awake12 _).mono ?_
            rintro e w15 ⟨rfl, hb15⟩
            have hb15' := HFIN.out _ _ _ HS14 hb15
            have HB15' := Lib.hid hb15'
            clear hb15'
            go_wp2
            go_ret
            exact ⟨rfl, HB15'.out⟩
end Go.Proofs
