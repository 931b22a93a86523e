/- ExtmapRanges: blocks that are read together are what each one is; one is written later just if one of them is: for every input the law returns true. -/
import Derived.Test.YtnegbfeokcjclaaPlainRange
import Derived.Test.YtnegbfeokcjclaaInfo
namespace Go.Proofs
open Go.RowKit Sc

set_option maxRecDepth 100000 in
set_option maxHeartbeats 4000000 in
theorem ranges12_any (vl : Value) (l : List Step12) (a n at' : Int) (w : World) (hl : Steps12 (Old w) w vl l) (ia : I64 a) (inn : I64 n) :
    Calls Try.prog 4 #[vl, .agg #[.int .i64 a, .int .i64 n], .int .i64 at'] w (Tru w) := by
  obtain ⟨W0, hW0, hb0, hca, hcn, hz0⟩ := box_ext w a n
  have hl0 := hl.more hb0
  have hl' := hl
  obtain ⟨lp, lc, rfl, hll, hlc, _, _⟩ := hl'
  have HL := Lib.hid hl0
  clear hl hl0
  unfold I64 at ia inn
  have HW0 := Lib.hid hW0
  have HB0 := Lib.hid hb0
  have HCA := Lib.hid hca
  have HCN := Lib.hid hcn
  have HZ0 := Lib.hid hz0
  clear hW0 hb0 hca hcn hz0
  go_enter Try.func4, Try.ntmps4
  go_wp2_with fail
  rw [HW0.out]
  refine (small12_any (Old W0) _ l _ (fun k hk => hk) HL.out).mono ?_
  rintro e w1 ⟨q, rfl, hq, hb1⟩
  have hS1 := (Sep.start W0).up hb1
  have HS1 := Lib.hid hS1
  have HQ := Lib.hid hq
  have HB1 := Lib.hid hb1
  clear hS1 hq hb1
  obtain ⟨hca1, hcn1⟩ := box_cells HCA HCN HZ0 HS1
  have hfin : ∀ (w2 w3 : World) (L : List Asn), Hid (Sep W0 (OldA W0 :: L) w2) → Below w2.heap.size w2 w3 → Below w.heap.size w w3 := fun _ _ _ h1 h2 => HB0.out.trans (((h1.out.up h2).old).mono (by have := HB0.out.size; omega))
  have HFIN := Lib.hid hfin
  clear hfin
  cases q with
  | false =>
    go_wp2_with fail
    refine (awake12 _).mono ?_
    rintro e w2 ⟨rfl, hb2⟩
    have hb2' := HFIN.out _ _ _ HS1 hb2
    have HB2' := Lib.hid hb2'
    clear hb2'
    go_wp2
    go_ret
    exact ⟨rfl, HB2'.out⟩
  | true =>
    obtain ⟨hsz, h100⟩ := HQ.out rfl
    by_cases hok : 0 ≤ a ∧ a ≤ 100 ∧ 1 ≤ n ∧ n ≤ 100
    case neg =>
      rcases (show a < 0 ∨ (0 ≤ a ∧ 100 < a) ∨ (0 ≤ a ∧ a ≤ 100 ∧ n < 1) ∨ (0 ≤ a ∧ a ≤ 100 ∧ 1 ≤ n ∧ 100 < n) by omega) with h | ⟨h0, h⟩ | ⟨h0, h1, h⟩ | ⟨h0, h1, h2, h⟩
      all_goals
        clear hok
        go_wp2_with fail
        refine (awake12 _).mono ?_
        rintro e w2 ⟨rfl, hb2⟩
        have hb2' := HFIN.out _ _ _ HS1 hb2
        have HB2' := Lib.hid hb2'
        clear hb2'
        go_wp2
        go_ret
        exact ⟨rfl, HB2'.out⟩
    case pos =>
      obtain ⟨ha0, ha1, hn0, hn1⟩ := hok
      obtain ⟨N, rfl⟩ := Int.eq_ofNat_of_zero_le (show 0 ≤ n by omega)
      go_wp2_with fail
      refine (extNew_sep HS1.out 20 (by omega) (by omega)).mono ?_
      rintro e w2 ⟨b, rfl, hS2⟩
      have HS2 := Lib.hid hS2
      clear hS2
      clear hca1 hcn1
      go_wp2_with fail
      go_loopw [9] (fun i wr => ∃ k : Nat, ∃ last vs, k ≤ l.length ∧ i = .int .i64 k ∧ Hid (Sep W0 [OldA W0, ExtA (.pointer (some ⟨b, 0, none⟩)) 20 last vs] wr) ∧ Hid (Fed l k last vs)) (fun i _ => l.length - (intOf i).toNat)
      case atStart => exact ⟨0, 0, [], by omega, rfl, HS2.out, Fed.start l⟩
      case round =>
        obtain ⟨k, last, vs, hk, rfl, HS, HF⟩ := hrel
        by_cases hlt : k < l.length
        case pos =>
          obtain ⟨s, bb, o, pp, pc, hsk, rfl, hbb, hck, hct, hcp, HT, HPL⟩ := step12_cells HL HS hlt hsz
          have HSK := Lib.hid hsk
          clear hsk
          by_cases hkind : s.kind = 1
          case neg =>
            have hkn : (s.kind == 1) = false := by rw [beq_eq_false_iff_ne]; exact hkind
            have HKIND := Lib.hid hkind
            clear hkind
            go_wp2_with fail
            go_roundw
            case rel => exact ⟨k + 1, last, vs, by omega, by go_num, HS, HF.out.skip hlt⟩
            case measure => simp [intOf]; omega
          case pos =>
            have hkn : (s.kind == 1) = true := by rw [beq_iff_eq]; exact hkind
            have HKIND := Lib.hid hkind
            clear hkind
            go_wp2_with fail
            refine (fedApply HS HF hlt h100 HT HPL).mono ?_
            rintro e w4 ⟨rfl, HS4⟩
            go_wp2_with fail
            go_roundw
            case rel => exact ⟨k + 1, _, _, by omega, by go_num, HS4, HF.out.next hlt HSK.out⟩
            case measure => simp [intOf]; omega
        case neg =>
          obtain ⟨hca2, hcn2⟩ := box_cells HCA HCN HZ0 HS
          obtain ⟨F, hmF, _⟩ := HS.out.get 1 rfl
          have hlen := getV_len HF.out.good
          have hw1 : IntKind.i64.wrap (a + (N : Int)) = a + (N : Int) := IntWalk.i64_in _ (by omega)
          have hrg := extRange_any F _ _ _ _ a N at' _ hmF (by omega) HF.out.good.d40 (fun b => hlen b at')
          have h1 : 1 ≤ N := by omega
          have HMF := Lib.hid hmF
          have HLEN := Lib.hid hlen
          have HRG := Lib.hid hrg
          clear hmF hlen hrg
          by_cases h20 : a + (N : Int) ≤ 20
          case neg =>
            have hwi : withinB 20 a N = false := by unfold withinB; simp only [Bool.and_eq_false_iff, decide_eq_false_iff_not]; omega
            have h20' : 20 < a + (N : Int) := by omega
            have HWI := Lib.hid hwi
            clear hwi
            clear h20
            go_wp2_with fail
            refine (HRG.out).mono ?_
            rintro e w5 (⟨_, rfl, hb5⟩ | ⟨hno, _⟩)
            case inr => exact absurd (hno.symm.trans HWI.out) (by decide)
            have hS5 := HS.out.up hb5
            have HS5 := Lib.hid hS5
            have HB5 := Lib.hid hb5
            clear hS5 hb5
            obtain ⟨hca5, hcn5⟩ := box_cells HCA HCN HZ0 HS5
            go_wp2_with fail
            refine (awake12 _).mono ?_
            rintro e w6 ⟨rfl, hb6⟩
            have hb6' := HFIN.out _ _ _ HS5 hb6
            have HB6' := Lib.hid hb6'
            clear hb6'
            go_wp2
            go_ret
            exact ⟨rfl, HB6'.out⟩
          case pos =>
            have hwi : withinB 20 a N = true := by unfold withinB; simp only [Bool.and_eq_true, decide_eq_true_eq]; omega
            have HWI := Lib.hid hwi
            clear hwi
            go_wp2_with fail
            refine (HRG.out).mono ?_
            rintro e w5 (⟨hno, _⟩ | ⟨_, bv, rfl, hbv, hb5⟩)
            case inl => exact absurd (hno.symm.trans HWI.out) (by decide)
            rw [Int.toNat_natCast] at hbv
            have hbl := rangeV_length (a := a) (fun b => HLEN.out b at') N
            have hS5 := HS.out.new hb5 (BytesWA bv (rangeV vs a at' N)) (fun _ h => h) hbv
            obtain ⟨bb, bo, bc, rfl, hbc1, hbc2⟩ := hbv.base (by omega)
            rw [hbl] at hbc1 hS5 ⊢
            have HS5 := Lib.hid hS5
            have HB5 := Lib.hid hb5
            have HBV := Lib.hid hbv
            have HBL := Lib.hid hbl
            clear hS5 hb5 hbv hbl
            obtain ⟨hca5, hcn5⟩ := box_cells HCA HCN HZ0 HS5
            go_wp2_with fail
            clear hca5 hcn5
            go_loopw [12, 13] (fun lat i wr => ∃ k : Nat, k ≤ N ∧ i = .int .i64 k ∧ lat = .bool (laterB vs a at' k) ∧ Hid (Sep W0 [OldA W0, ExtA (.pointer (some ⟨b, 0, none⟩)) 20 last vs, BytesWA (.slice (some ⟨bb, bo, none⟩) (40 * N) bc) (rangeV vs a at' N)] wr)) (fun _ i _ => N - (intOf i).toNat)
            case atStart => exact ⟨0, by omega, rfl, rfl, HS5.out⟩
            case round =>
              obtain ⟨k2, hk2, rfl, rfl, HS7⟩ := hrel
              obtain ⟨hca7, hcn7⟩ := box_cells HCA HCN HZ0 HS7
              obtain ⟨F7, hmF7, _⟩ := HS7.out.get 1 rfl
              by_cases hlt2 : k2 < N
              case neg =>
                obtain rfl : k2 = N := by omega
                have hwr := extWritten_any F7 _ _ _ _ a k2 at' _ hmF7 (by omega) HF.out.ne HF.out.ks (by omega) (by omega) (by omega) (by omega) (by omega)
                rw [written_later HF.out.good HF.out.cap] at hwr
                have HMF7 := Lib.hid hmF7
                have HWR := Lib.hid hwr
                clear hmF7 hwr
                cases hlat : laterB vs a at' k2
                all_goals
                  rw [hlat] at HWR
                  have HLAT := Lib.hid hlat
                  clear hlat
                  go_wp2_with fail
                  refine (HWR.out).mono ?_
                  rintro e w8 ⟨rfl, hb8⟩
                  have hS8 := HS7.out.up hb8
                  have HS8 := Lib.hid hS8
                  have HB8 := Lib.hid hb8
                  clear hS8 hb8
                  go_wp2_with fail
                  refine (awake12 _).mono ?_
                  rintro e w6 ⟨rfl, hb6⟩
                  have hb6' := HFIN.out _ _ _ HS8 hb6
                  have HB6' := Lib.hid hb6'
                  clear hb6'
                  go_wp2
                  go_ret
                  exact ⟨rfl, HB6'.out⟩
              case pos =>
                have hw2 : IntKind.i64.wrap (a + (k2 : Int)) = a + (k2 : Int) := IntWalk.i64_in _ (by omega)
                have hw3 : IntKind.i64.wrap (40 * (k2 : Int)) = 40 * (k2 : Int) := IntWalk.i64_in _ (by omega)
                have hw4 : IntKind.i64.wrap (40 * (k2 : Int) + 40) = 40 * (k2 : Int) + 40 := IntWalk.i64_in _ (by omega)
                have hw5 : IntKind.i64.wrap (40 * (N : Int)) = 40 * (N : Int) := IntWalk.i64_in _ (by omega)
                have hbk : blk 20 (a + k2) = true := by unfold blk; rw [decide_eq_true (by omega), decide_eq_true (by omega)]; rfl
                have hget := extGet_any F7 _ _ _ _ (a + k2) at' wr hmF7 HF.out.good.d40
                have hsucc := laterB_succ vs a at' k2
                have hcut := rangeV_cut (fun b => HLEN.out b at') a N k2 hlt2
                have HMF7 := Lib.hid hmF7
                have HGET := Lib.hid hget
                have HBK := Lib.hid hbk
                have HSUCC := Lib.hid hsucc
                have HCUT := Lib.hid hcut
                clear hmF7 hget hbk hsucc hcut
                go_wp2_with fail
                refine (HGET.out).mono ?_
                rintro e w8 (⟨hno, _⟩ | ⟨_, v8, rfl, hv8, hb8⟩)
                case inl => exact absurd (hno.symm.trans HBK.out) (by decide)
                have hS8 := HS7.out.up hb8
                obtain ⟨F8, hmF8, _⟩ := hS8.get 1 rfl
                have hget2 := extGet_any F8 _ _ _ _ (a + k2) 1099511627776 w8 hmF8 HF.out.good.d40
                have HS8 := Lib.hid hS8
                have HB8 := Lib.hid hb8
                have HGET2 := Lib.hid hget2
                have HMF8 := Lib.hid hmF8
                have HV8 := Lib.hid hv8
                clear hS8 hb8 hget2 hmF8 hv8
                obtain ⟨hca8, hcn8⟩ := box_cells HCA HCN HZ0 HS8
                generalize (getV vs (a + k2) at').2 = since
                generalize hgb : (getV vs (a + k2) at').1 = gb at *
                go_wp2_with fail
                refine (HGET2.out).mono ?_
                rintro e w9 (⟨hno, _⟩ | ⟨_, v9, rfl, hv9, hb9⟩)
                case inl => exact absurd (hno.symm.trans HBK.out) (by decide)
                have hS9 := HS8.out.up hb9
                obtain ⟨F9, hmF9, _⟩ := hS9.get 2 rfl
                have hva := bytesAt_cut hmF9.bytes (40 * k2) 40 (by rw [HBL.out]; omega)
                rw [HCUT.out] at hva
                have hvb := HV8.out.bytes.up hb9
                have HS9 := Lib.hid hS9
                have HB9 := Lib.hid hb9
                have HV9 := Lib.hid hv9
                have HMF9 := Lib.hid hmF9
                have HGB := Lib.hid hgb
                have HVA := Lib.hid hva
                have HVB := Lib.hid hvb
                clear hS9 hb9 hv9 hmF9 hgb hva hvb
                obtain ⟨hca9, hcn9⟩ := box_cells HCA HCN HZ0 HS9
                clear hca7 hcn7 hca8 hcn8
                generalize (getV vs (a + k2) 1099511627776).2 = T at *
                have hc1 : 40 * k2 + 40 ≤ 40 * N := by omega
                go_wp2_with fail
                all_goals
                  refine (bytes_any (fun _ => True) _ _ gb gb _ (BytesAt.mono HVA.out fun _ _ => trivial) (BytesAt.mono HVB.out fun _ _ => trivial)).mono ?_
                  rintro e w10 ⟨rfl, hb10⟩
                  rw [show (gb == gb) = true by simp]
                  have hS10 := HS9.out.up hb10
                  have HB10 := Lib.hid hb10
                  have HS10 := Lib.hid hS10
                  clear hb10 hS10
                  go_wp2_with fail
                  go_roundw
                  case rel => exact ⟨k2 + 1, by omega, by go_num, by rw [HSUCC.out]; simp [*]; try (intros; omega), HS10.out⟩
                  case measure => simp [intOf]; omega
end Go.Proofs
