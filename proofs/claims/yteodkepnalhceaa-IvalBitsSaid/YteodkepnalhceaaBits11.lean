/- IvalBits: a set has just the blocks that were added, in whatever order and pieces; its extents do not touch: for every input the law returns true. -/
import Derived.Test.YteodkepnalhceaaLaw11
import Derived.Test.YteodkepnalhceaaPlainBits
import Derived.BigQuiet
namespace Go.Proofs
open Go.RowKit Sc

theorem setHas_sep {W w : World} {L : List Asn} (h : Hid (Sep W L w)) (i : Nat) {v : Value} {most : Int} {l : List Ext} (hi : L[i]? = some (SetA v most l)) (hg : SetG l) (x : Int) (ix : I64 x) :
    Calls Try.prog 20 #[v, .int .i64 x] w fun e w' => e = .returned (.bool (hasB l x)) ∧ Hid (Below w.heap.size w w') ∧ Hid (Sep W L w') := by
  obtain ⟨F, hF, _⟩ := h.out.get i hi
  refine (setHas_any F v most l x w hF hg.2 ix).mono ?_
  rintro e w' ⟨rfl, hb⟩
  exact ⟨rfl, hb, h.out.up hb⟩
theorem setCrosses_sep {W w : World} {L : List Asn} (h : Hid (Sep W L w)) (i j : Nat) {ps pt : Option Addr} {most most' : Int} {l m : List Ext} (hi : L[i]? = some (SetA (.pointer ps) most l)) (hj : L[j]? = some (SetA (.pointer pt) most' m)) (hl : SetG l) (hm : SetG m) (n1 : l.length ≤ 1000000) (n2 : m.length ≤ 1000000) :
    Calls Try.prog 21 #[.pointer ps, .pointer pt] w fun e w' => e = .returned (.bool (crossB l m)) ∧ Hid (Below w.heap.size w w') ∧ Hid (Sep W L w') := by
  obtain ⟨F, hF, _⟩ := h.out.get i hi
  obtain ⟨F2, hF2, _⟩ := h.out.get j hj
  refine (setCrosses_any l m ps pt w hl.2 hm.2 (fun W' hW => setExtents_any F _ _ l W' (SetIs.up hF hW) n1) (fun W' hW => setExtents_any F2 _ _ m W' (SetIs.up hF2 hW) n2)).mono ?_
  rintro e w' ⟨rfl, hb⟩
  exact ⟨rfl, hb, h.out.up hb⟩
theorem bit_good {a : Nat} {l : List Nat} (h : ∀ k ∈ l, k < 64) (hl : l.length ≤ 64) : SetG (normE (bitE a l)) ∧ (normE (bitE a l)).length ≤ 50000 := by
  obtain ⟨g1, _, g3⟩ := normE_good' (bitE_oke (a := a) h)
  have := bitE_len a l
  exact ⟨g1, by omega⟩
theorem posL_in (turn : Bool) {k : Nat} (hk : k ≤ 64) : ∀ i ∈ posL turn k, i < 64 := by
  intro i hi
  unfold posL at hi
  obtain ⟨j, hj, rfl⟩ := List.mem_map.1 hi
  exact posB_lt turn (by have := List.mem_range.1 hj; omega)

set_option maxRecDepth 100000 in
set_option maxHeartbeats 8000000 in
theorem bits11_any (a b : Nat) (turn : Bool) (w : World) (ha : a < 18446744073709551616) (hb : b < 18446744073709551616) : Calls Try.prog 5 #[.int .u64 a, .int .u64 b, .bool turn] w (Tru w) := by
  have hand := bits_and a b ha hb
  have hcr1 := setB_cross (a := a) b ha
  have hcr2 := setB_cross (a := b) a hb
  rw [Nat.and_comm] at hcr2
  obtain ⟨hga, hla, _⟩ := setB_good a
  obtain ⟨hgb, hlb, _⟩ := setB_good b
  have HAND := Lib.hid hand
  have HCR1 := Lib.hid hcr1
  have HCR2 := Lib.hid hcr2
  have HGA := Lib.hid hga
  have HLA := Lib.hid hla
  have HGB := Lib.hid hgb
  have HLB := Lib.hid hlb
  clear hand hcr1 hcr2 hga hla hgb hlb
  go_enter Try.func5, Try.ntmps5
  go_wp2_with fail
  refine (setNew_sep (Sep.start w) 100).mono ?_
  rintro e w1 ⟨b1, rfl, HS1⟩
  go_wp2_with fail
  refine (setNew_sep HS1.out 100).mono ?_
  rintro e w2 ⟨b2, rfl, HS2⟩
  have hnil : ∀ x : Nat, normE (bitE x []) = [] := fun x => normE_nil
  have HNIL := Lib.hid hnil
  clear hnil
  go_wp2_with fail
  go_loopw [9] (fun i wr => ∃ k : Nat, k ≤ 64 ∧ i = .int .i64 k ∧ Hid (Sep w [OldA w, SetA (.pointer (some ⟨b1, 0, none⟩)) 100 (normE (bitE a (posL turn k))), SetA (.pointer (some ⟨b2, 0, none⟩)) 100 (normE (bitE b (List.range k)))] wr)) (fun i _ => 64 - (intOf i).toNat)
  case atStart => exact ⟨0, by omega, rfl, by rw [show posL turn 0 = [] from rfl, List.range_zero, HNIL.out, HNIL.out]; exact HS2⟩
  case round =>
    obtain ⟨k, hk, rfl, HS⟩ := hrel
    by_cases hlt : k < 64
    case pos =>
      have hpl := posL_in turn (k := k) (by omega)
      have hql : ∀ i ∈ List.range k, i < 64 := fun i hi => by have := List.mem_range.1 hi; omega
      obtain ⟨hg1, hl1⟩ := bit_good (a := a) hpl (by rw [posL_len]; omega)
      obtain ⟨hg2, hl2⟩ := bit_good (a := b) hql (by rw [List.length_range]; omega)
      have hst1 := fun hx => bit_step (a := a) hpl (posB_lt turn hlt) (by rw [posL_len]; omega) hx
      have hst2 := fun hx => bit_step (a := b) hql hlt (by rw [List.length_range]; omega) hx
      have hsk1 := fun hx => bit_skip (a := a) (l := posL turn k) (i := posB turn k) hx
      have hsk2 := fun hx => bit_skip (a := b) (l := List.range k) (i := k) hx
      rw [← posL_succ] at hst1 hsk1
      rw [← List.range_succ] at hst2 hsk2
      have hbA := bits_at a (posB turn k) ha
      have hbB := bits_at b k hb
      have hi : posB turn k < 64 := posB_lt turn hlt
      have hk0 : (0 : Int) ≤ (k : Int) := by omega
      have hk64 : (k : Int) ≤ 64 := by omega
      have hkl : (k : Int) < 64 := by omega
      have HPL := Lib.hid hpl
      have HQL := Lib.hid hql
      have HG1 := Lib.hid hg1
      have HL1 := Lib.hid hl1
      have HG2 := Lib.hid hg2
      have HL2 := Lib.hid hl2
      have HST1 := Lib.hid hst1
      have HST2 := Lib.hid hst2
      have HSK1 := Lib.hid hsk1
      have HSK2 := Lib.hid hsk2
      clear hpl hql hg1 hl1 hg2 hl2 hst1 hst2 hsk1 hsk2
      cases hta : a.testBit (posB turn k) <;> cases htb : b.testBit k <;> cases turn
      · rw [hta] at hbA
        rw [htb] at hbB
        simp only [if_true, if_false, Bool.false_eq_true] at hbA hbB
        have hpi : posB false k = k := rfl
        rw [hpi] at hbA
        clear hpi
        have hn1 := HSK1.out hta
        have HN1 := Lib.hid hn1
        clear hn1
        have hn2 := HSK2.out htb
        have HN2 := Lib.hid hn2
        clear hn2
        clear hta htb
        go_wp2_with fail
        have HS3 := HS
        rw [← HN1.out] at HS3
        have HS4 := HS3
        rw [← HN2.out] at HS4
        go_roundw
        case rel => exact ⟨k + 1, by omega, by go_num, HS4⟩
        case measure => simp [intOf]; omega
      · rw [hta] at hbA
        rw [htb] at hbB
        simp only [if_true, if_false, Bool.false_eq_true] at hbA hbB
        have hpi : posB true k = 63 - k := rfl
        obtain ⟨i, hii⟩ : ∃ i : Nat, i = posB true k := ⟨_, rfl⟩
        have hie : (63 - (k : Int)) = (i : Int) := by omega
        have hiw : IntKind.i64.wrap (63 - (k : Int)) = (i : Int) := by rw [hie]; exact IntWalk.i64_in _ (by omega)
        rw [← hii] at hbA hi
        have hi0 : (0 : Int) ≤ (i : Int) := by omega
        have hi64 : (i : Int) ≤ 64 := by omega
        clear hpi
        have hn1 := HSK1.out hta
        have HN1 := Lib.hid hn1
        clear hn1
        have hn2 := HSK2.out htb
        have HN2 := Lib.hid hn2
        clear hn2
        have HII := Lib.hid hii
        have HIE := Lib.hid hie
        clear hii hie
        clear hta htb
        go_wp2_with fail
        have HS3 := HS
        rw [← HN1.out] at HS3
        have HS4 := HS3
        rw [← HN2.out] at HS4
        go_roundw
        case rel => exact ⟨k + 1, by omega, by go_num, HS4⟩
        case measure => simp [intOf]; omega
      · rw [hta] at hbA
        rw [htb] at hbB
        simp only [if_true, if_false, Bool.false_eq_true] at hbA hbB
        have hpi : posB false k = k := rfl
        rw [hpi] at hbA
        clear hpi
        have hn1 := HSK1.out hta
        have HN1 := Lib.hid hn1
        clear hn1
        obtain ⟨hc2, hn2⟩ := HST2.out htb
        have HC2 := Lib.hid hc2
        have HN2 := Lib.hid hn2
        clear hc2 hn2
        clear hta htb
        go_wp2_with fail
        have HS3 := HS
        rw [← HN1.out] at HS3
        refine (setAdd_one HS3 2 rfl (k : Int) 1 (i64_small (by omega)) (i64_small (by omega)) HG2.out HL2.out).mono ?_
        rintro e w4 ⟨rfl, HS4⟩
        rw [HC2.out]
        rw [HN2.out] at HS4
        go_wp2_with fail
        go_roundw
        case rel => exact ⟨k + 1, by omega, by go_num, HS4⟩
        case measure => simp [intOf]; omega
      · rw [hta] at hbA
        rw [htb] at hbB
        simp only [if_true, if_false, Bool.false_eq_true] at hbA hbB
        have hpi : posB true k = 63 - k := rfl
        obtain ⟨i, hii⟩ : ∃ i : Nat, i = posB true k := ⟨_, rfl⟩
        have hie : (63 - (k : Int)) = (i : Int) := by omega
        have hiw : IntKind.i64.wrap (63 - (k : Int)) = (i : Int) := by rw [hie]; exact IntWalk.i64_in _ (by omega)
        rw [← hii] at hbA hi
        have hi0 : (0 : Int) ≤ (i : Int) := by omega
        have hi64 : (i : Int) ≤ 64 := by omega
        clear hpi
        have hn1 := HSK1.out hta
        have HN1 := Lib.hid hn1
        clear hn1
        obtain ⟨hc2, hn2⟩ := HST2.out htb
        have HC2 := Lib.hid hc2
        have HN2 := Lib.hid hn2
        clear hc2 hn2
        have HII := Lib.hid hii
        have HIE := Lib.hid hie
        clear hii hie
        clear hta htb
        go_wp2_with fail
        have HS3 := HS
        rw [← HN1.out] at HS3
        refine (setAdd_one HS3 2 rfl (k : Int) 1 (i64_small (by omega)) (i64_small (by omega)) HG2.out HL2.out).mono ?_
        rintro e w4 ⟨rfl, HS4⟩
        rw [HC2.out]
        rw [HN2.out] at HS4
        go_wp2_with fail
        go_roundw
        case rel => exact ⟨k + 1, by omega, by go_num, HS4⟩
        case measure => simp [intOf]; omega
      · rw [hta] at hbA
        rw [htb] at hbB
        simp only [if_true, if_false, Bool.false_eq_true] at hbA hbB
        have hpi : posB false k = k := rfl
        rw [hpi] at hbA
        clear hpi
        obtain ⟨hc1, hn1⟩ := HST1.out hta
        rw [show posB false k = k from rfl] at hc1 hn1
        have HC1 := Lib.hid hc1
        have HN1 := Lib.hid hn1
        clear hc1 hn1
        have hn2 := HSK2.out htb
        have HN2 := Lib.hid hn2
        clear hn2
        clear hta htb
        go_wp2_with fail
        refine (setAdd_one HS 1 rfl (k : Int) 1 (i64_small (by omega)) (i64_small (by omega)) HG1.out HL1.out).mono ?_
        rintro e w3 ⟨rfl, HS3⟩
        rw [HC1.out]
        rw [HN1.out] at HS3
        go_wp2_with fail
        have HS4 := HS3
        rw [← HN2.out] at HS4
        go_roundw
        case rel => exact ⟨k + 1, by omega, by go_num, HS4⟩
        case measure => simp [intOf]; omega
      · rw [hta] at hbA
        rw [htb] at hbB
        simp only [if_true, if_false, Bool.false_eq_true] at hbA hbB
        have hpi : posB true k = 63 - k := rfl
        obtain ⟨i, hii⟩ : ∃ i : Nat, i = posB true k := ⟨_, rfl⟩
        have hie : (63 - (k : Int)) = (i : Int) := by omega
        have hiw : IntKind.i64.wrap (63 - (k : Int)) = (i : Int) := by rw [hie]; exact IntWalk.i64_in _ (by omega)
        rw [← hii] at hbA hi
        have hi0 : (0 : Int) ≤ (i : Int) := by omega
        have hi64 : (i : Int) ≤ 64 := by omega
        clear hpi
        obtain ⟨hc1, hn1⟩ := HST1.out hta
        rw [← hii] at hc1 hn1
        have HC1 := Lib.hid hc1
        have HN1 := Lib.hid hn1
        clear hc1 hn1
        have hn2 := HSK2.out htb
        have HN2 := Lib.hid hn2
        clear hn2
        have HII := Lib.hid hii
        have HIE := Lib.hid hie
        clear hii hie
        clear hta htb
        go_wp2_with fail
        refine (setAdd_one HS 1 rfl (i : Int) 1 (i64_small (by omega)) (i64_small (by omega)) HG1.out HL1.out).mono ?_
        rintro e w3 ⟨rfl, HS3⟩
        rw [HC1.out]
        rw [HN1.out] at HS3
        go_wp2_with fail
        have HS4 := HS3
        rw [← HN2.out] at HS4
        go_roundw
        case rel => exact ⟨k + 1, by omega, by go_num, HS4⟩
        case measure => simp [intOf]; omega
      · rw [hta] at hbA
        rw [htb] at hbB
        simp only [if_true, if_false, Bool.false_eq_true] at hbA hbB
        have hpi : posB false k = k := rfl
        rw [hpi] at hbA
        clear hpi
        obtain ⟨hc1, hn1⟩ := HST1.out hta
        rw [show posB false k = k from rfl] at hc1 hn1
        have HC1 := Lib.hid hc1
        have HN1 := Lib.hid hn1
        clear hc1 hn1
        obtain ⟨hc2, hn2⟩ := HST2.out htb
        have HC2 := Lib.hid hc2
        have HN2 := Lib.hid hn2
        clear hc2 hn2
        clear hta htb
        go_wp2_with fail
        refine (setAdd_one HS 1 rfl (k : Int) 1 (i64_small (by omega)) (i64_small (by omega)) HG1.out HL1.out).mono ?_
        rintro e w3 ⟨rfl, HS3⟩
        rw [HC1.out]
        rw [HN1.out] at HS3
        go_wp2_with fail
        refine (setAdd_one HS3 2 rfl (k : Int) 1 (i64_small (by omega)) (i64_small (by omega)) HG2.out HL2.out).mono ?_
        rintro e w4 ⟨rfl, HS4⟩
        rw [HC2.out]
        rw [HN2.out] at HS4
        go_wp2_with fail
        go_roundw
        case rel => exact ⟨k + 1, by omega, by go_num, HS4⟩
        case measure => simp [intOf]; omega
      · rw [hta] at hbA
        rw [htb] at hbB
        simp only [if_true, if_false, Bool.false_eq_true] at hbA hbB
        have hpi : posB true k = 63 - k := rfl
        obtain ⟨i, hii⟩ : ∃ i : Nat, i = posB true k := ⟨_, rfl⟩
        have hie : (63 - (k : Int)) = (i : Int) := by omega
        have hiw : IntKind.i64.wrap (63 - (k : Int)) = (i : Int) := by rw [hie]; exact IntWalk.i64_in _ (by omega)
        rw [← hii] at hbA hi
        have hi0 : (0 : Int) ≤ (i : Int) := by omega
        have hi64 : (i : Int) ≤ 64 := by omega
        clear hpi
        obtain ⟨hc1, hn1⟩ := HST1.out hta
        rw [← hii] at hc1 hn1
        have HC1 := Lib.hid hc1
        have HN1 := Lib.hid hn1
        clear hc1 hn1
        obtain ⟨hc2, hn2⟩ := HST2.out htb
        have HC2 := Lib.hid hc2
        have HN2 := Lib.hid hn2
        clear hc2 hn2
        have HII := Lib.hid hii
        have HIE := Lib.hid hie
        clear hii hie
        clear hta htb
        go_wp2_with fail
        refine (setAdd_one HS 1 rfl (i : Int) 1 (i64_small (by omega)) (i64_small (by omega)) HG1.out HL1.out).mono ?_
        rintro e w3 ⟨rfl, HS3⟩
        rw [HC1.out]
        rw [HN1.out] at HS3
        go_wp2_with fail
        refine (setAdd_one HS3 2 rfl (k : Int) 1 (i64_small (by omega)) (i64_small (by omega)) HG2.out HL2.out).mono ?_
        rintro e w4 ⟨rfl, HS4⟩
        rw [HC2.out]
        rw [HN2.out] at HS4
        go_wp2_with fail
        go_roundw
        case rel => exact ⟨k + 1, by omega, by go_num, HS4⟩
        case measure => simp [intOf]; omega
    case neg =>
      have HS3 := HS
      rw [show k = 64 by omega, bit_pos turn, show normE (bitE b (List.range 64)) = setB b from rfl] at HS3
      clear HS
      go_wp2_with fail
      clear hlt hk
      obtain ⟨W4, rfl⟩ : ∃ W4 : World, W4 = wr := ⟨_, rfl⟩
      go_loopw [11, 12, 13] (fun n i _ wr => ∃ k : Nat, k ≤ 66 ∧ i = .int .i64 k ∧ n = .int .i64 (cntP (fun i => decide (i < 64) && a.testBit i) k : Nat) ∧ Hid (Sep w [OldA w, SetA (.pointer (some ⟨b1, 0, none⟩)) 100 (setB a), SetA (.pointer (some ⟨b2, 0, none⟩)) 100 (setB b)] wr)) (fun _ i _ _ => 66 - (intOf i).toNat)
      case atStart => exact ⟨0, by omega, rfl, rfl, HS3⟩
      case round =>
        obtain ⟨k, hk, rfl, rfl, HS⟩ := hrel
        by_cases hlt : k < 66
        case pos =>
          have hcs : cntP (fun i => decide (i < 64) && a.testBit i) (k + 1) = cntP (fun i => decide (i < 64) && a.testBit i) k + if (decide (k < 64) && a.testBit k) then 1 else 0 := rfl
          have hcl := cntP_le (fun i => decide (i < 64) && a.testBit i) k
          have hhas := setB_has a k
          have hk0 : (0 : Int) ≤ (k : Int) := by omega
          have hki : (k : Int) < 66 := by omega
          generalize hcn : cntP (fun i => decide (i < 64) && a.testBit i) k = cn at *
          have HHAS := Lib.hid hhas
          have HCN := Lib.hid hcn
          clear hhas hcn
          by_cases h64 : k < 64
          · have hk64 : (k : Int) < 64 := by omega
            have hk65 : (k : Int) ≤ 64 := by omega
            have hbA := bits_at a k ha
            cases hta : a.testBit k
            all_goals
              rw [hta] at hbA hcs
              have hh := HHAS.out
              rw [hta, decide_eq_true h64] at hh
              rw [decide_eq_true h64] at hcs
              simp only [if_true, if_false, Bool.false_eq_true, Bool.and_true, Bool.and_false] at hbA hh hcs
              have HH := Lib.hid hh
              have HCS := Lib.hid hcs
              clear hh hcs
              clear hta
              go_wp2_with fail
              refine (setHas_sep HS 1 rfl HGA.out (k : Int) (i64_small (by omega))).mono ?_
              rintro e w5 ⟨rfl, HB5, HS5⟩
              rw [HH.out]
              go_wp2_with fail
              go_roundw
              case rel => exact ⟨k + 1, by omega, by go_num, by rw [HCS.out]; go_num, HS5⟩
              case measure => simp [intOf]; omega
          · have hk64 : ¬ (k : Int) < 64 := by omega
            have hh := HHAS.out
            rw [decide_eq_false h64] at hh hcs
            simp only [if_false, Bool.false_eq_true, Bool.false_and] at hh hcs
            have hdd : decide ((k : Int) < 64) = false := decide_eq_false hk64
            have HH := Lib.hid hh
            have HCS := Lib.hid hcs
            clear hh hcs
            go_wp2_with fail
            refine (setHas_sep HS 1 rfl HGA.out (k : Int) (i64_small (by omega))).mono ?_
            rintro e w5 ⟨rfl, HB5, HS5⟩
            rw [HH.out]
            go_wp2_with fail
            go_roundw
            case rel => exact ⟨k + 1, by omega, by go_num, by rw [HCS.out]; go_num, HS5⟩
            case measure => simp [intOf]; omega
        case neg =>
          have hcnt := setB_cnt a
          rw [show (66 : Nat) = k by omega] at hcnt
          generalize cntP (fun i => decide (i < 64) && a.testBit i) 66 = cn at *
          have HCNT := Lib.hid hcnt
          clear hcnt
          go_wp2_with fail
          clear hk hlt
          refine (setExtents_sep HS 1 rfl (by have := HLA.out; omega)).mono ?_
          rintro e w6 ⟨p6, c6, rfl, HX6, HB6, HS6⟩
          have hcan := HGA.out.1.2
          have hok := HGA.out.2
          have hlen := HLA.out
          rw [List.pairwise_iff_getElem] at hcan
          generalize hxl : setB a = X at *
          have HCAN := Lib.hid hcan
          have HOK := Lib.hid hok
          clear hcan hok
          go_wp2_with fail
          obtain ⟨W7, rfl⟩ : ∃ W7 : World, W7 = w6 := ⟨_, rfl⟩
          go_loopw [15] (fun i wr => ∃ j : Nat, (j ≤ X.length ∨ j = 1) ∧ 1 ≤ j ∧ i = .int .i64 j ∧ Hid (Below W7.heap.size W7 wr)) (fun i _ => X.length - (intOf i).toNat)
          case atStart => exact ⟨1, .inr rfl, Nat.le_refl _, rfl, Below.refl _ _⟩
          case round =>
            obtain ⟨j, hj, hj1, rfl, HBW⟩ := hrel
            have hpw := ExtsAt.up HX6.out HBW.out
            by_cases hlt : j < X.length
            case pos =>
              obtain ⟨p', c', he, _, _, _, h4⟩ := hpw
              cases he
              obtain ⟨m, rfl⟩ : ∃ m, j = m + 1 := ⟨j - 1, by omega⟩
              obtain ⟨g, o, rfl, _, hca, hcb, _⟩ := h4 (m + 1) hlt
              obtain ⟨g', o', he', _, hda, hdb, _⟩ := h4 m (by omega)
              cases he'
              have hls := HCAN.out m (m + 1) (by omega) hlt (by omega)
              have ho1 := HOK.out _ (List.getElem_mem hlt)
              have ho0 := HOK.out _ (List.getElem_mem (show m < X.length by omega))
              generalize X[m + 1] = x1 at *
              generalize X[m]'(by omega) = x0 at *
              unfold Oke at ho1 ho0
              have hdl : decide (x1.first ≤ x0.first + x0.len) = false := decide_eq_false (by omega)
              have hww : IntKind.i64.wrap (x0.first + x0.len) = x0.first + x0.len := IntWalk.i64_in _ (by omega)
              have hmm : (((m + 1 : Nat) : Int) - 1) = (m : Int) := by omega
              have hmw : IntKind.i64.wrap (((m + 1 : Nat) : Int) - 1) = (m : Int) := by rw [hmm]; exact IntWalk.i64_in _ (by omega)
              have hmI : (m : Int) < (X.length : Int) := by omega
              generalize hmj : m + 1 = j at *
              have HMJ := Lib.hid hmj
              clear hmj
              clear h4 hmm ho1 ho0
              go_wp2_with fail
              go_quiet (fail)
              go_wp2_with fail
              go_roundw
              case rel => exact ⟨j + 1, by omega, by omega, by go_num, below_drewN HBW.out _⟩
              case measure => simp [intOf]; omega
            case neg =>
              have hSr := HS6.out.up HBW.out
              have HSR := Lib.hid hSr
              have HPW := Lib.hid hpw
              clear hSr hpw
              have hjl : ¬ (j : Int) < (X.length : Int) := by omega
              clear hlt hj
              go_wp2_with fail
              refine (setCount_sep HSR 1 rfl HGA.out (by omega)).mono ?_
              rintro e w8 ⟨rfl, HB8, HS8⟩
              rw [HCNT.out]
              go_wp2_with fail
              refine (setCrosses_sep HS8 1 2 rfl rfl HGA.out HGB.out (by omega) (by have := HLB.out; omega)).mono ?_
              rintro e w9 ⟨rfl, HB9, HS9⟩
              rw [HCR1.out]
              have hand := HAND.out
              generalize (a &&& b) = ab at *
              by_cases hab : ab = 0
              all_goals
                simp only [hab, decide_true, decide_false, Bool.not_true, Bool.not_false]
                try rw [hab] at hand
                try have hn0 : ((ab : Int) == 0) = false := by rw [beq_eq_false_iff_ne]; omega
                try have hn1 : ((ab : Int) != 0) = true := by rw [bne_iff_ne]; omega
                go_wp2_with fail
                refine (setCrosses_sep HS9 2 1 rfl rfl HGB.out HGA.out (by have := HLB.out; omega) (by omega)).mono ?_
                rintro e w10 ⟨rfl, HB10, HS10⟩
                rw [HCR2.out]
                simp only [hab, decide_true, decide_false, Bool.not_true, Bool.not_false]
                go_wp2_with fail
                refine (awake11 _).mono ?_
                rintro e w11 ⟨rfl, hb11⟩
                have hS11 := HS10.out.up hb11
                have HS11 := Lib.hid hS11
                have HB11 := Lib.hid hb11
                clear hS11 hb11
                go_wp2
                go_ret
                exact ⟨rfl, HS11.out.old⟩
end Go.Proofs
