/- WbufRefused: each thing that may not be has its own error, and the first of these is told: for every input the law returns true. -/
import Derived.Test.YteodkepnalhceaaLaw14
import Derived.Test.YteodkepnalhceaaOutA
namespace Go.Proofs
open Go.RowKit Sc

def refP (k : Nat) : List Put := (List.range k).map fun i : Nat => ⟨40 + i, dataB i⟩
theorem refP_len (k : Nat) : (refP k).length = k := by simp [refP]
theorem refP_succ (k : Nat) : refP (k + 1) = refP k ++ [⟨40 + k, dataB k⟩] := by unfold refP; rw [List.range_succ]; simp
theorem refP_mem {k : Nat} {p : Put} (h : p ∈ refP k) : ∃ i : Nat, i < k ∧ p = ⟨40 + i, dataB i⟩ := by
  unfold refP at h
  obtain ⟨i, hi, rfl⟩ := List.mem_map.1 h
  exact ⟨i, List.mem_range.1 hi, rfl⟩
theorem refP_nodup (k : Nat) : ((refP k).map (·.lba)).Nodup := by
  induction k with
  | zero => simp [refP]
  | succ k ih =>
    rw [refP_succ, List.map_append, List.nodup_append]
    refine ⟨ih, by simp, fun a ha b hb e => ?_⟩
    obtain ⟨p, hp, rfl⟩ := List.mem_map.1 ha
    obtain ⟨i, hi, rfl⟩ := refP_mem hp
    simp at hb
    subst hb
    simp only at e; omega
def full (lba : Int) (n : Nat) (tw : Bool) (m : Nat) : List Put := refP m ++ [⟨lba, blockB 1 n⟩] ++ if tw then [⟨40, dataB 0⟩] else []
def wantC (lba : Int) (n : Nat) (tw : Bool) (m : Nat) : Int := if lba < 0 ∨ 100 ≤ lba then 2 else if n ≠ 40 then 3 else if tw = true ∨ (40 ≤ lba ∧ lba < 40 + m) then 4 else if 16 < m + 1 then 7 else 0
theorem freshN_nil (l : List Put) : freshN [] l = l.length := by
  unfold freshN
  congr 1
  exact List.filter_eq_self.2 fun _ _ => rfl
theorem full_code (lba : Int) (n : Nat) (tw : Bool) (m : Nat) (hm : 1 ≤ m) (hm2 : m ≤ 20) : bufCode 100 16 [] (full lba n tw m) = wantC lba n tw m := by
  have hne : full lba n tw m ≠ [] := by unfold full; simp
  have hin : ∀ p ∈ refP m, outB 100 p = false ∧ len40 p = false := fun p hp => by
    obtain ⟨i, hi, rfl⟩ := refP_mem hp
    refine ⟨?_, by unfold len40; simp [dataB_length]⟩
    unfold outB
    rw [Bool.or_eq_false_iff, decide_eq_false_iff_not, decide_eq_false_iff_not]
    simp only; omega
  have hin0 : outB 100 ⟨40, dataB 0⟩ = false ∧ len40 ⟨40, dataB 0⟩ = false := by
    have := hin ⟨40 + (0 : Nat), dataB (0 : Nat)⟩ (List.mem_map.2 ⟨0, List.mem_range.2 (by omega), rfl⟩)
    simpa using this
  have hany : ∀ q : Put → Bool, (∀ p ∈ refP m, q p = false) → q ⟨40, dataB 0⟩ = false → (full lba n tw m).any q = q ⟨lba, blockB 1 n⟩ := fun q h1 h2 => by
    unfold full
    have : (refP m).any q = false := by rw [List.any_eq_false]; intro p hp; rw [h1 p hp]; decide
    cases tw <;> simp [this, h2]
  have a1 := hany (outB 100) (fun p hp => (hin p hp).1) hin0.1
  have a2 := hany len40 (fun p hp => (hin p hp).2) hin0.2
  have e1 : outB 100 ⟨lba, blockB 1 n⟩ = decide (lba < 0 ∨ 100 ≤ lba) := by unfold outB; rw [Bool.eq_iff_iff]; simp
  have e2 : len40 ⟨lba, blockB 1 n⟩ = decide (n ≠ 40) := by unfold len40; rw [blockB_length]; by_cases h : n = 40 <;> simp [h]
  unfold bufCode wantC
  rw [if_neg hne, a1, a2, e1, e2]
  simp only [decide_eq_true_eq]
  by_cases c1 : lba < 0 ∨ 100 ≤ lba
  · rw [if_pos c1, if_pos c1]
  rw [if_neg c1, if_neg c1]
  by_cases c2 : n ≠ 40
  · rw [if_pos c2, if_pos c2]
  rw [if_neg c2, if_neg c2]
  have hmem40 : (40 : Int) ∈ (refP m).map (·.lba) := List.mem_map.2 ⟨⟨40 + (0 : Nat), dataB (0 : Nat)⟩, List.mem_map.2 ⟨0, List.mem_range.2 (by omega), rfl⟩, by simp⟩
  by_cases c3 : tw = true ∨ (40 ≤ lba ∧ lba < 40 + m)
  · rw [if_pos c3, if_pos]
    cases hq : twiceB (full lba n tw m) with
    | true => rfl
    | false =>
      exfalso
      have hnd := twiceB_no.1 hq
      unfold full at hnd
      rw [List.map_append, List.map_append, List.nodup_append, List.nodup_append] at hnd
      rcases c3 with rfl | c3
      · exact hnd.2.2 40 (by simp [List.mem_append]; exact .inl (by simpa using hmem40)) 40 (by simp) rfl
      · refine hnd.1.2.2 lba ?_ lba (by simp) rfl
        obtain ⟨i, hi⟩ := Int.eq_ofNat_of_zero_le (show 0 ≤ lba - 40 by omega)
        exact List.mem_map.2 ⟨⟨40 + i, dataB i⟩, List.mem_map.2 ⟨i, List.mem_range.2 (by omega), rfl⟩, by simp only; omega⟩
  · have c3' : tw = false ∧ ¬ (40 ≤ lba ∧ lba < 40 + m) := ⟨by cases tw <;> simp_all, fun h => c3 (.inr h)⟩
    obtain ⟨rfl, c4⟩ := c3'
    have hq : twiceB (full lba n false m) = false := by
      rw [twiceB_no]
      unfold full
      simp only [Bool.false_eq_true, if_false, List.append_nil]
      rw [List.map_append, List.nodup_append]
      refine ⟨refP_nodup m, by simp, fun a ha b hb e => ?_⟩
      obtain ⟨p, hp, rfl⟩ := List.mem_map.1 ha
      obtain ⟨i, hi, rfl⟩ := refP_mem hp
      simp at hb
      subst hb
      simp only at e; omega
    rw [if_neg c3, hq, if_neg (by decide), freshN_nil]
    have hl : (full lba n false m).length = m + 1 := by unfold full; simp [refP_len]
    rw [hl]
    by_cases c5 : 16 < m + 1
    · rw [if_pos c5, if_pos (by simp; omega)]
    · rw [if_neg c5, if_neg (by simp; omega)]
theorem head0 {k : Nat} (hk : 1 ≤ k) (x : Put) (h : 0 < (refP k ++ [x]).length) : (refP k ++ [x])[0] = ⟨40, dataB 0⟩ := by
  have h1 : (refP k ++ [x])[0]? = some ⟨40, dataB 0⟩ := by
    rw [List.getElem?_append_left (by rw [refP_len]; omega)]
    unfold refP
    rw [List.getElem?_map, List.getElem?_range (by omega)]
    simp
  rw [List.getElem?_eq_getElem h] at h1
  exact Option.some.inj h1
theorem full_next {lba : Int} {n : Nat} {tw : Bool} {m : Nat} (hm : 1 ≤ m) (hm2 : m ≤ 20) : BufG 100 (bufNext 100 16 [] (full lba n tw m)) ∧ (bufNext 100 16 [] (full lba n tw m)).length ≤ 30 ∧ (wantC lba n tw m = 0 → 0 < (bufNext 100 16 [] (full lba n tw m)).length) ∧ (wantC lba n tw m ≠ 0 → bufNext 100 16 [] (full lba n tw m) = []) := by
  have hc := full_code lba n tw m hm hm2
  have hl : (full lba n tw m).length ≤ 22 ∧ 1 ≤ (full lba n tw m).length := by unfold full; cases tw <;> simp [refP_len] <;> omega
  have hlen := (bufNext_len (blocks := 100) (most := 16) (s := []) (full lba n tw m)).1
  simp only [List.length_nil, Nat.zero_add] at hlen
  refine ⟨(BufG.start 100).next _, by omega, fun h => ?_, fun h => ?_⟩
  · rw [h] at hc
    obtain ⟨_, _, _, h4, _⟩ := bufCode_zero hc
    unfold bufNext
    rw [if_pos hc, putsTo_len _ _ h4, freshN_nil]
    simp; omega
  · unfold bufNext
    rw [if_neg (by rw [hc]; exact h)]

set_option maxRecDepth 100000 in
set_option maxHeartbeats 8000000 in
theorem refused14_any (lba n : Int) (tw : Bool) (many : Int) (w : World) (i1 : I64 lba) : Calls Try.prog 8 #[.int .i64 lba, .int .i64 n, .bool tw, .int .i64 many] w (Tru w) := by
  by_cases hok : 1 ≤ many ∧ many ≤ 20 ∧ 0 ≤ n ∧ n ≤ 80
  case neg =>
    rcases (show many < 1 ∨ (1 ≤ many ∧ 20 < many) ∨ (1 ≤ many ∧ many ≤ 20 ∧ n < 0) ∨ (1 ≤ many ∧ many ≤ 20 ∧ 0 ≤ n ∧ 80 < n) by omega) with h | ⟨h0, h⟩ | ⟨h0, h1, h⟩ | ⟨h0, h1, h2, h⟩
    all_goals
      clear hok
      go_enter Try.func8, Try.ntmps8
      go_wp2_with fail
      refine (awake14 _).mono ?_
      rintro e w2 ⟨rfl, hb2⟩
      have HB2 := Lib.hid hb2
      clear hb2
      go_wp2
      go_ret
      exact ⟨rfl, HB2.out⟩
  case pos =>
    obtain ⟨h0, h1, h2, h3⟩ := hok
    obtain ⟨M, rfl⟩ := Int.eq_ofNat_of_zero_le (show 0 ≤ many by omega)
    obtain ⟨N, rfl⟩ := Int.eq_ofNat_of_zero_le h2
    have HI := Lib.hid i1
    unfold I64 at i1
    go_enter Try.func8, Try.ntmps8
    go_wp2_with fail
    refine (bufNew_sep (Sep.start w) 100 16 (by omega) (by omega) (by omega)).mono ?_
    rintro e w1 ⟨b, rfl, HS1⟩
    have hS2 := HS1.out.outP_new 54
    have HS2 := Lib.hid hS2
    clear hS2
    go_wp2_with fail
    go_loopw [11, 12] (fun vl i wr => ∃ k : Nat, ∃ p c, k ≤ M ∧ i = .int .i64 k ∧ vl = .slice p k c ∧ Hid (Sep w [OldA w, BufA (.pointer (some ⟨b, 0, none⟩)) 100 16 [], OutPA 54 (.slice p k c) (refP k)] wr)) (fun _ i _ => M - (intOf i).toNat)
    case atStart => exact ⟨0, none, 0, by omega, rfl, rfl, HS2.out⟩
    case round =>
      obtain ⟨k, p, c, hk, rfl, rfl, HS⟩ := hrel
      by_cases hlt : k < M
      case pos =>
        have hw1 : IntKind.i64.wrap (40 + (k : Int)) = 40 + (k : Int) := IntWalk.i64_in _ (by omega)
        go_wp2_with fail
        refine (data_any (k : Int) _).mono ?_
        rintro e w2 ⟨dv, rfl, hd, hb2⟩
        obtain ⟨dp, dc, rfl⟩ := shape_of hd (dataB_length k)
        have HD := Lib.hid hd
        have HB2 := Lib.hid hb2
        clear hd hb2
        obtain ⟨cssA, DA, hrowA, helA, hnxA⟩ := HS.out.outP_step 2 rfl
        rw [refP_len] at hrowA hnxA
        obtain ⟨iiA, hiiA, hizA, hiyA, hixA⟩ := info_parts infoPut
        have HROWA := Lib.hid hrowA
        have HELA := Lib.hid helA
        have HNXA := Lib.hid hnxA
        clear hrowA helA hnxA
        go_wp2_with (at_builtin; refine wpList_append_lies _ rfl _ _ 50 rfl 0 54 iiA (.agg #[.int .i64 0, .slice none 0 0]) 2 32 Try.underlying50 hiiA hizA hiyA hixA rfl (by decide) _ (k) cssA.flatten rfl (ownsRow_up HROWA.out (Below.up (HB2.out) (below_alloc _ _))) ⟨w2.heap.size, 0, none⟩ 1 1 [.int .i64 (40 + (k : Int)), .slice dp 40 dc] rfl rfl (World.news_of_block (cs := #[.int .i64 (40 + (k : Int)), .slice dp 40 dc]) (heap_alloc_new w2 _)) (by simp [Value.oneCell']) (by decide) (by unfold maxLen; omega) (by omega) (Nat.zero_le _) (w2.heap.size + 1) (by simp) ?_; intro gA cA wA hownA hgrowA hatA hltA)
        have hSA := HNXA.out w2 wA gA cA (40 + (k : Int)) (.slice dp 40 dc) (dataB k) (HB2.out) (i64_small (by omega)) (BytesAt.mono HD.out fun _ h => .inr h) hownA hgrowA hatA hltA
        clear hownA hgrowA hatA hltA hiiA hizA hiyA hixA
        rw [← refP_succ] at hSA
        have HSA := Lib.hid hSA
        clear hSA
        go_wp2_with fail
        go_roundw
        case rel => exact ⟨k + 1, _, cA, by omega, by go_num, rfl, HSA.out⟩
        case measure => simp [intOf]; omega
      case neg =>
        obtain rfl : k = M := by omega
        have h0' : 1 ≤ k := by omega
        go_wp2_with fail
        refine (block_new N 1 _ (by omega)).mono ?_
        rintro e w2 ⟨dv, rfl, hd, hb2⟩
        obtain ⟨dp, dc, rfl⟩ := shape_of hd (blockB_length 1 N)
        have HD := Lib.hid hd
        have HB2 := Lib.hid hb2
        clear hd hb2
        obtain ⟨cssA, DA, hrowA, helA, hnxA⟩ := HS.out.outP_step 2 rfl
        rw [refP_len] at hrowA hnxA
        obtain ⟨iiA, hiiA, hizA, hiyA, hixA⟩ := info_parts infoPut
        have HROWA := Lib.hid hrowA
        have HELA := Lib.hid helA
        have HNXA := Lib.hid hnxA
        clear hrowA helA hnxA
        go_upto_region 12 with (at_builtin; refine wpList_append_lies _ rfl _ _ 50 rfl 0 54 iiA (.agg #[.int .i64 0, .slice none 0 0]) 2 32 Try.underlying50 hiiA hizA hiyA hixA rfl (by decide) _ (k) cssA.flatten rfl (ownsRow_up HROWA.out (Below.up (HB2.out) (below_alloc _ _))) ⟨w2.heap.size, 0, none⟩ 1 1 [.int .i64 (lba), .slice dp N dc] rfl rfl (World.news_of_block (cs := #[.int .i64 (lba), .slice dp N dc]) (heap_alloc_new w2 _)) (by simp [Value.oneCell']) (by decide) (by unfold maxLen; omega) (by omega) (Nat.zero_le _) (w2.heap.size + 1) (by simp) ?_; intro gA cA wA hownA hgrowA hatA hltA)
        have hSA := HNXA.out w2 wA gA cA (lba) (.slice dp N dc) (blockB 1 N) (HB2.out) (HI.out) (BytesAt.mono HD.out fun _ h => .inr h) hownA hgrowA hatA hltA
        clear hownA hgrowA hatA hltA hiiA hizA hiyA hixA
        have hfull : ∀ tw, refP k ++ [⟨lba, blockB 1 N⟩] ++ (if tw then [⟨40, dataB 0⟩] else []) = full lba N tw k := fun _ => rfl
        have HSA := Lib.hid hSA
        have HFULL := Lib.hid hfull
        clear hSA hfull
        cases tw
        case false =>
          have hSB : Sep w [OldA w, BufA (.pointer (some ⟨b, 0, none⟩)) 100 16 [], OutPA 54 (.slice (some ⟨gA, 0, none⟩) (k + 1) cA) (full lba N false k)] wA := by
            have := HSA.out
            rw [← HFULL.out false, if_neg (by decide), List.append_nil]
            exact this
          have HSB := Lib.hid hSB
          clear hSB
          have hw9 : IntKind.i64.wrap (40 + (k : Int)) = 40 + (k : Int) := IntWalk.i64_in _ (by omega)
          rcases (show (lba < 0) ∨ (100 ≤ lba ∧ 0 ≤ lba) ∨ (0 ≤ lba ∧ lba < 100 ∧ N ≠ 40) ∨ (0 ≤ lba ∧ lba < 100 ∧ N = 40 ∧ 40 ≤ lba ∧ lba < 40 + (k : Int)) ∨ (0 ≤ lba ∧ lba < 100 ∧ N = 40 ∧ (lba < 40) ∧ 16 < k + 1) ∨ (0 ≤ lba ∧ lba < 100 ∧ N = 40 ∧ (lba < 40) ∧ k + 1 ≤ 16) ∨ (0 ≤ lba ∧ lba < 100 ∧ N = 40 ∧ (40 + (k : Int) ≤ lba ∧ 40 ≤ lba) ∧ 16 < k + 1) ∨ (0 ≤ lba ∧ lba < 100 ∧ N = 40 ∧ (40 + (k : Int) ≤ lba ∧ 40 ≤ lba) ∧ k + 1 ≤ 16) by omega) with c | c | c | c | c | c | c | c
          · have hK : wantC lba N false k = 2 := by unfold wantC; rw [if_pos (.inl c)]
            obtain ⟨hg1, hg2, hg3, hg4⟩ := full_next (lba := lba) (n := N) (tw := false) (m := k) (by omega) (by omega)
            have hcd := full_code lba N false k (by omega) (by omega)
            rw [hK] at hcd hg3 hg4
            have HCD := Lib.hid hcd
            have HG1 := Lib.hid hg1
            have HG2 := Lib.hid hg2
            have HG3 := Lib.hid hg3
            have HG4 := Lib.hid hg4
            have HK := Lib.hid hK
            clear hcd hg1 hg2 hg3 hg4 hK
            go_wp2_with fail
            all_goals
              refine (bufWrite_sep HSB.out 1 rfl (full lba N false k) (fun G hR => ?_) (by simp) (by unfold full; simp [refP_len]; omega)).mono ?_
              · obtain ⟨F1, a1, a2⟩ := hR 2 _ (by decide) rfl
                exact PutsAt.mono (outPA_puts a2) a1
              rintro e w5 ⟨rfl, HS5⟩
              rw [HCD.out]
              go_wp2_with fail
              refine (bufWrite_none _ _).mono ?_
              rintro e w6 ⟨rfl, hb6⟩
              have hS6 := HS5.out.up hb6
              have HS6 := Lib.hid hS6
              have HB6 := Lib.hid hb6
              clear hS6 hb6
              go_wp2_with fail
              refine (bufLen_sep HS6 1 rfl HG1.out (by omega) (by have := HG2.out; omega)).mono ?_
              rintro e w7 ⟨rfl, HB7, HS7⟩
              rw [HG4.out (by decide)]
              go_wp2_with fail
              refine (awake14 _).mono ?_
              rintro e w8 ⟨rfl, hb8⟩
              have hS8 := HS7.out.up hb8
              have HS8 := Lib.hid hS8
              clear hS8
              go_wp2
              go_ret
              exact ⟨rfl, HS8.out.old⟩
          · obtain ⟨ca, cb⟩ := c
            have hK : wantC lba N false k = 2 := by unfold wantC; rw [if_pos (.inr ca)]
            obtain ⟨hg1, hg2, hg3, hg4⟩ := full_next (lba := lba) (n := N) (tw := false) (m := k) (by omega) (by omega)
            have hcd := full_code lba N false k (by omega) (by omega)
            rw [hK] at hcd hg3 hg4
            have HCD := Lib.hid hcd
            have HG1 := Lib.hid hg1
            have HG2 := Lib.hid hg2
            have HG3 := Lib.hid hg3
            have HG4 := Lib.hid hg4
            have HK := Lib.hid hK
            clear hcd hg1 hg2 hg3 hg4 hK
            go_wp2_with fail
            all_goals
              refine (bufWrite_sep HSB.out 1 rfl (full lba N false k) (fun G hR => ?_) (by simp) (by unfold full; simp [refP_len]; omega)).mono ?_
              · obtain ⟨F1, a1, a2⟩ := hR 2 _ (by decide) rfl
                exact PutsAt.mono (outPA_puts a2) a1
              rintro e w5 ⟨rfl, HS5⟩
              rw [HCD.out]
              go_wp2_with fail
              refine (bufWrite_none _ _).mono ?_
              rintro e w6 ⟨rfl, hb6⟩
              have hS6 := HS5.out.up hb6
              have HS6 := Lib.hid hS6
              have HB6 := Lib.hid hb6
              clear hS6 hb6
              go_wp2_with fail
              refine (bufLen_sep HS6 1 rfl HG1.out (by omega) (by have := HG2.out; omega)).mono ?_
              rintro e w7 ⟨rfl, HB7, HS7⟩
              rw [HG4.out (by decide)]
              go_wp2_with fail
              refine (awake14 _).mono ?_
              rintro e w8 ⟨rfl, hb8⟩
              have hS8 := HS7.out.up hb8
              have HS8 := Lib.hid hS8
              clear hS8
              go_wp2
              go_ret
              exact ⟨rfl, HS8.out.old⟩
          · obtain ⟨ca, cb, cn⟩ := c
            have hN : ((N : Int) != 40) = true := by rw [bne_iff_ne]; omega
            have hK : wantC lba N false k = 3 := by unfold wantC; rw [if_neg (by omega), if_pos cn]
            obtain ⟨hg1, hg2, hg3, hg4⟩ := full_next (lba := lba) (n := N) (tw := false) (m := k) (by omega) (by omega)
            have hcd := full_code lba N false k (by omega) (by omega)
            rw [hK] at hcd hg3 hg4
            have HCD := Lib.hid hcd
            have HG1 := Lib.hid hg1
            have HG2 := Lib.hid hg2
            have HG3 := Lib.hid hg3
            have HG4 := Lib.hid hg4
            have HK := Lib.hid hK
            have HCN := Lib.hid cn
            clear hcd hg1 hg2 hg3 hg4 hK cn
            go_wp2_with fail
            all_goals
              refine (bufWrite_sep HSB.out 1 rfl (full lba N false k) (fun G hR => ?_) (by simp) (by unfold full; simp [refP_len]; omega)).mono ?_
              · obtain ⟨F1, a1, a2⟩ := hR 2 _ (by decide) rfl
                exact PutsAt.mono (outPA_puts a2) a1
              rintro e w5 ⟨rfl, HS5⟩
              rw [HCD.out]
              go_wp2_with fail
              refine (bufWrite_none _ _).mono ?_
              rintro e w6 ⟨rfl, hb6⟩
              have hS6 := HS5.out.up hb6
              have HS6 := Lib.hid hS6
              have HB6 := Lib.hid hb6
              clear hS6 hb6
              go_wp2_with fail
              refine (bufLen_sep HS6 1 rfl HG1.out (by omega) (by have := HG2.out; omega)).mono ?_
              rintro e w7 ⟨rfl, HB7, HS7⟩
              rw [HG4.out (by decide)]
              go_wp2_with fail
              refine (awake14 _).mono ?_
              rintro e w8 ⟨rfl, hb8⟩
              have hS8 := HS7.out.up hb8
              have HS8 := Lib.hid hS8
              clear hS8
              go_wp2
              go_ret
              exact ⟨rfl, HS8.out.old⟩
          · obtain ⟨ca, cb, cn, cc, cd⟩ := c
            have hN : ((N : Int) != 40) = false := by rw [bne_eq_false_iff_eq]; omega
            have hK : wantC lba N false k = 4 := by unfold wantC; rw [if_neg (by omega), if_neg (by omega), if_pos (.inr ⟨cc, cd⟩)]
            obtain ⟨hg1, hg2, hg3, hg4⟩ := full_next (lba := lba) (n := N) (tw := false) (m := k) (by omega) (by omega)
            have hcd := full_code lba N false k (by omega) (by omega)
            rw [hK] at hcd hg3 hg4
            have HCD := Lib.hid hcd
            have HG1 := Lib.hid hg1
            have HG2 := Lib.hid hg2
            have HG3 := Lib.hid hg3
            have HG4 := Lib.hid hg4
            have HK := Lib.hid hK
            have HCN := Lib.hid cn
            clear hcd hg1 hg2 hg3 hg4 hK cn
            go_wp2_with fail
            all_goals
              refine (bufWrite_sep HSB.out 1 rfl (full lba N false k) (fun G hR => ?_) (by simp) (by unfold full; simp [refP_len]; omega)).mono ?_
              · obtain ⟨F1, a1, a2⟩ := hR 2 _ (by decide) rfl
                exact PutsAt.mono (outPA_puts a2) a1
              rintro e w5 ⟨rfl, HS5⟩
              rw [HCD.out]
              go_wp2_with fail
              refine (bufWrite_none _ _).mono ?_
              rintro e w6 ⟨rfl, hb6⟩
              have hS6 := HS5.out.up hb6
              have HS6 := Lib.hid hS6
              have HB6 := Lib.hid hb6
              clear hS6 hb6
              go_wp2_with fail
              refine (bufLen_sep HS6 1 rfl HG1.out (by omega) (by have := HG2.out; omega)).mono ?_
              rintro e w7 ⟨rfl, HB7, HS7⟩
              rw [HG4.out (by decide)]
              go_wp2_with fail
              refine (awake14 _).mono ?_
              rintro e w8 ⟨rfl, hb8⟩
              have hS8 := HS7.out.up hb8
              have HS8 := Lib.hid hS8
              clear hS8
              go_wp2
              go_ret
              exact ⟨rfl, HS8.out.old⟩
          · obtain ⟨ca, cb, cn, cc, ce⟩ := c
            have hN : ((N : Int) != 40) = false := by rw [bne_eq_false_iff_eq]; omega
            have ceI : (16 : Int) < (k : Int) + 1 := by omega
            have hK : wantC lba N false k = 7 := by unfold wantC; rw [if_neg (by omega), if_neg (by omega), if_neg (by simp; omega), if_pos ce]
            obtain ⟨hg1, hg2, hg3, hg4⟩ := full_next (lba := lba) (n := N) (tw := false) (m := k) (by omega) (by omega)
            have hcd := full_code lba N false k (by omega) (by omega)
            rw [hK] at hcd hg3 hg4
            have HCD := Lib.hid hcd
            have HG1 := Lib.hid hg1
            have HG2 := Lib.hid hg2
            have HG3 := Lib.hid hg3
            have HG4 := Lib.hid hg4
            have HK := Lib.hid hK
            have HCN := Lib.hid cn
            clear hcd hg1 hg2 hg3 hg4 hK cn
            go_wp2_with fail
            all_goals
              refine (bufWrite_sep HSB.out 1 rfl (full lba N false k) (fun G hR => ?_) (by simp) (by unfold full; simp [refP_len]; omega)).mono ?_
              · obtain ⟨F1, a1, a2⟩ := hR 2 _ (by decide) rfl
                exact PutsAt.mono (outPA_puts a2) a1
              rintro e w5 ⟨rfl, HS5⟩
              rw [HCD.out]
              go_wp2_with fail
              refine (bufWrite_none _ _).mono ?_
              rintro e w6 ⟨rfl, hb6⟩
              have hS6 := HS5.out.up hb6
              have HS6 := Lib.hid hS6
              have HB6 := Lib.hid hb6
              clear hS6 hb6
              go_wp2_with fail
              refine (bufLen_sep HS6 1 rfl HG1.out (by omega) (by have := HG2.out; omega)).mono ?_
              rintro e w7 ⟨rfl, HB7, HS7⟩
              rw [HG4.out (by decide)]
              go_wp2_with fail
              refine (awake14 _).mono ?_
              rintro e w8 ⟨rfl, hb8⟩
              have hS8 := HS7.out.up hb8
              have HS8 := Lib.hid hS8
              clear hS8
              go_wp2
              go_ret
              exact ⟨rfl, HS8.out.old⟩
          · obtain ⟨ca, cb, cn, cc, ce⟩ := c
            have hN : ((N : Int) != 40) = false := by rw [bne_eq_false_iff_eq]; omega
            have ceI : (k : Int) + 1 ≤ 16 := by omega
            have hK : wantC lba N false k = 0 := by unfold wantC; rw [if_neg (by omega), if_neg (by omega), if_neg (by simp; omega), if_neg (by omega)]
            obtain ⟨hg1, hg2, hg3, hg4⟩ := full_next (lba := lba) (n := N) (tw := false) (m := k) (by omega) (by omega)
            have hcd := full_code lba N false k (by omega) (by omega)
            rw [hK] at hcd hg3 hg4
            have HCD := Lib.hid hcd
            have HG1 := Lib.hid hg1
            have HG2 := Lib.hid hg2
            have HG3 := Lib.hid hg3
            have HG4 := Lib.hid hg4
            have HK := Lib.hid hK
            have HCN := Lib.hid cn
            clear hcd hg1 hg2 hg3 hg4 hK cn
            go_wp2_with fail
            all_goals
              refine (bufWrite_sep HSB.out 1 rfl (full lba N false k) (fun G hR => ?_) (by simp) (by unfold full; simp [refP_len]; omega)).mono ?_
              · obtain ⟨F1, a1, a2⟩ := hR 2 _ (by decide) rfl
                exact PutsAt.mono (outPA_puts a2) a1
              rintro e w5 ⟨rfl, HS5⟩
              rw [HCD.out]
              go_wp2_with fail
              refine (bufWrite_none _ _).mono ?_
              rintro e w6 ⟨rfl, hb6⟩
              have hS6 := HS5.out.up hb6
              have HS6 := Lib.hid hS6
              have HB6 := Lib.hid hb6
              clear hS6 hb6
              go_wp2_with fail
              refine (bufLen_sep HS6 1 rfl HG1.out (by omega) (by have := HG2.out; omega)).mono ?_
              rintro e w7 ⟨rfl, HB7, HS7⟩
              have hpos := HG3.out (by first | rfl | trivial)
              generalize (bufNext 100 16 [] (full lba N false k)).length = ln at *
              have hposI : (0 : Int) < (ln : Int) := by omega
              go_wp2_with fail
              refine (awake14 _).mono ?_
              rintro e w8 ⟨rfl, hb8⟩
              have hS8 := HS7.out.up hb8
              have HS8 := Lib.hid hS8
              clear hS8
              go_wp2
              go_ret
              exact ⟨rfl, HS8.out.old⟩
          · obtain ⟨ca, cb, cn, ⟨cc, cc2⟩, ce⟩ := c
            have hN : ((N : Int) != 40) = false := by rw [bne_eq_false_iff_eq]; omega
            have ceI : (16 : Int) < (k : Int) + 1 := by omega
            have hK : wantC lba N false k = 7 := by unfold wantC; rw [if_neg (by omega), if_neg (by omega), if_neg (by simp; omega), if_pos ce]
            obtain ⟨hg1, hg2, hg3, hg4⟩ := full_next (lba := lba) (n := N) (tw := false) (m := k) (by omega) (by omega)
            have hcd := full_code lba N false k (by omega) (by omega)
            rw [hK] at hcd hg3 hg4
            have HCD := Lib.hid hcd
            have HG1 := Lib.hid hg1
            have HG2 := Lib.hid hg2
            have HG3 := Lib.hid hg3
            have HG4 := Lib.hid hg4
            have HK := Lib.hid hK
            have HCN := Lib.hid cn
            clear hcd hg1 hg2 hg3 hg4 hK cn
            go_wp2_with fail
            all_goals
              refine (bufWrite_sep HSB.out 1 rfl (full lba N false k) (fun G hR => ?_) (by simp) (by unfold full; simp [refP_len]; omega)).mono ?_
              · obtain ⟨F1, a1, a2⟩ := hR 2 _ (by decide) rfl
                exact PutsAt.mono (outPA_puts a2) a1
              rintro e w5 ⟨rfl, HS5⟩
              rw [HCD.out]
              go_wp2_with fail
              refine (bufWrite_none _ _).mono ?_
              rintro e w6 ⟨rfl, hb6⟩
              have hS6 := HS5.out.up hb6
              have HS6 := Lib.hid hS6
              have HB6 := Lib.hid hb6
              clear hS6 hb6
              go_wp2_with fail
              refine (bufLen_sep HS6 1 rfl HG1.out (by omega) (by have := HG2.out; omega)).mono ?_
              rintro e w7 ⟨rfl, HB7, HS7⟩
              rw [HG4.out (by decide)]
              go_wp2_with fail
              refine (awake14 _).mono ?_
              rintro e w8 ⟨rfl, hb8⟩
              have hS8 := HS7.out.up hb8
              have HS8 := Lib.hid hS8
              clear hS8
              go_wp2
              go_ret
              exact ⟨rfl, HS8.out.old⟩
          · obtain ⟨ca, cb, cn, ⟨cc, cc2⟩, ce⟩ := c
            have hN : ((N : Int) != 40) = false := by rw [bne_eq_false_iff_eq]; omega
            have ceI : (k : Int) + 1 ≤ 16 := by omega
            have hK : wantC lba N false k = 0 := by unfold wantC; rw [if_neg (by omega), if_neg (by omega), if_neg (by simp; omega), if_neg (by omega)]
            obtain ⟨hg1, hg2, hg3, hg4⟩ := full_next (lba := lba) (n := N) (tw := false) (m := k) (by omega) (by omega)
            have hcd := full_code lba N false k (by omega) (by omega)
            rw [hK] at hcd hg3 hg4
            have HCD := Lib.hid hcd
            have HG1 := Lib.hid hg1
            have HG2 := Lib.hid hg2
            have HG3 := Lib.hid hg3
            have HG4 := Lib.hid hg4
            have HK := Lib.hid hK
            have HCN := Lib.hid cn
            clear hcd hg1 hg2 hg3 hg4 hK cn
            go_wp2_with fail
            all_goals
              refine (bufWrite_sep HSB.out 1 rfl (full lba N false k) (fun G hR => ?_) (by simp) (by unfold full; simp [refP_len]; omega)).mono ?_
              · obtain ⟨F1, a1, a2⟩ := hR 2 _ (by decide) rfl
                exact PutsAt.mono (outPA_puts a2) a1
              rintro e w5 ⟨rfl, HS5⟩
              rw [HCD.out]
              go_wp2_with fail
              refine (bufWrite_none _ _).mono ?_
              rintro e w6 ⟨rfl, hb6⟩
              have hS6 := HS5.out.up hb6
              have HS6 := Lib.hid hS6
              have HB6 := Lib.hid hb6
              clear hS6 hb6
              go_wp2_with fail
              refine (bufLen_sep HS6 1 rfl HG1.out (by omega) (by have := HG2.out; omega)).mono ?_
              rintro e w7 ⟨rfl, HB7, HS7⟩
              have hpos := HG3.out (by first | rfl | trivial)
              generalize (bufNext 100 16 [] (full lba N false k)).length = ln at *
              have hposI : (0 : Int) < (ln : Int) := by omega
              go_wp2_with fail
              refine (awake14 _).mono ?_
              rintro e w8 ⟨rfl, hb8⟩
              have hS8 := HS7.out.up hb8
              have HS8 := Lib.hid hS8
              clear hS8
              go_wp2
              go_ret
              exact ⟨rfl, HS8.out.old⟩
        case true =>
          have hl1 : (refP k ++ ([⟨lba, blockB 1 N⟩] : List Put)).length = k + 1 := by rw [List.length_append, refP_len]; rfl
          have hSA2 : Sep w [OldA w, BufA (.pointer (some ⟨b, 0, none⟩)) 100 16 [], OutPA 54 (.slice (some ⟨gA, 0, none⟩) (k + 1) cA) (refP k ++ [⟨lba, blockB 1 N⟩])] wA := HSA.out
          obtain ⟨cssB, DB, hrowB, helB, hnxB⟩ := hSA2.outP_step 2 rfl
          have hl10 : 0 < (refP k ++ ([⟨lba, blockB 1 N⟩] : List Put)).length := by rw [hl1]; omega
          obtain ⟨dv0, b1, b2, b3, b4⟩ := helB 0 hl10
          rw [head0 h0' _ hl10] at b1 b3 b4
          rw [hl1] at hrowB hnxB
          simp only [Nat.zero_mul, Nat.zero_add] at b1 b2
          have hc0 : wA.cell? ⟨gA, 0, none⟩ = some (.int .i64 40) := by rw [hrowB.cellAt 0 (by omega)]; exact b1
          have hc1 : wA.cell? ⟨gA, 1, none⟩ = some dv0 := by rw [hrowB.cellAt 1 (by omega)]; exact b2
          obtain ⟨dp0, dc0, rfl⟩ := shape_of b4 (dataB_length 0)
          obtain ⟨iiB, hiiB, hizB, hiyB, hixB⟩ := info_parts infoPut
          have HROWB := Lib.hid hrowB
          have HNXB := Lib.hid hnxB
          have HB4 := Lib.hid b4
          clear hrowB hnxB b4
          clear helB b1 b2 b3 hl1 hl10 hSA2
          go_upto_region 14 with (at_builtin; refine wpList_append_lies _ rfl _ _ 50 rfl 0 54 iiB (.agg #[.int .i64 0, .slice none 0 0]) 2 32 Try.underlying50 hiiB hizB hiyB hixB rfl (by decide) _ (k + 1) cssB.flatten rfl (ownsRow_up HROWB.out (below_alloc _ _)) ⟨wA.heap.size, 0, none⟩ 1 1 [.int .i64 40, .slice dp0 40 dc0] rfl rfl (World.news_of_block (cs := #[.int .i64 40, .slice dp0 40 dc0]) (heap_alloc_new wA _)) (by simp [Value.oneCell']) (by decide) (by unfold maxLen; omega) (by omega) (Nat.zero_le _) (wA.heap.size + 1) (by simp) ?_; intro gB cB wB hownB hgrowB hatB hltB)
          have hSB0 := HNXB.out wA wB gB cB 40 (.slice dp0 40 dc0) (dataB 0) (Below.refl _ _) (i64_small (by omega)) (BytesAt.mono HB4.out fun _ h => .inl h) hownB hgrowB hatB hltB
          have hSB : Sep w [OldA w, BufA (.pointer (some ⟨b, 0, none⟩)) 100 16 [], OutPA 54 (.slice (some ⟨gB, 0, none⟩) (k + 1 + 1) cB) (full lba N true k)] wB := by
            rw [← HFULL.out true, if_pos rfl]
            exact hSB0
          have HSB := Lib.hid hSB
          clear hSB
          clear hSB0 hownB hgrowB hatB hltB hiiB hizB hiyB hixB
          have hw9 : IntKind.i64.wrap (40 + (k : Int)) = 40 + (k : Int) := IntWalk.i64_in _ (by omega)
          rcases (show (lba < 0) ∨ (100 ≤ lba ∧ 0 ≤ lba) ∨ (0 ≤ lba ∧ lba < 100 ∧ N ≠ 40) ∨ (0 ≤ lba ∧ lba < 100 ∧ N = 40) by omega) with c | c | c | c
          · have hK : wantC lba N true k = 2 := by unfold wantC; rw [if_pos (.inl c)]
            obtain ⟨hg1, hg2, hg3, hg4⟩ := full_next (lba := lba) (n := N) (tw := true) (m := k) (by omega) (by omega)
            have hcd := full_code lba N true k (by omega) (by omega)
            rw [hK] at hcd hg3 hg4
            have HCD := Lib.hid hcd
            have HG1 := Lib.hid hg1
            have HG2 := Lib.hid hg2
            have HG3 := Lib.hid hg3
            have HG4 := Lib.hid hg4
            have HK := Lib.hid hK
            clear hcd hg1 hg2 hg3 hg4 hK
            go_wp2_with fail
            all_goals
              refine (bufWrite_sep HSB.out 1 rfl (full lba N true k) (fun G hR => ?_) (by simp) (by unfold full; simp [refP_len]; omega)).mono ?_
              · obtain ⟨F1, a1, a2⟩ := hR 2 _ (by decide) rfl
                exact PutsAt.mono (outPA_puts a2) a1
              rintro e w5 ⟨rfl, HS5⟩
              rw [HCD.out]
              go_wp2_with fail
              refine (bufWrite_none _ _).mono ?_
              rintro e w6 ⟨rfl, hb6⟩
              have hS6 := HS5.out.up hb6
              have HS6 := Lib.hid hS6
              have HB6 := Lib.hid hb6
              clear hS6 hb6
              go_wp2_with fail
              refine (bufLen_sep HS6 1 rfl HG1.out (by omega) (by have := HG2.out; omega)).mono ?_
              rintro e w7 ⟨rfl, HB7, HS7⟩
              rw [HG4.out (by decide)]
              go_wp2_with fail
              refine (awake14 _).mono ?_
              rintro e w8 ⟨rfl, hb8⟩
              have hS8 := HS7.out.up hb8
              have HS8 := Lib.hid hS8
              clear hS8
              go_wp2
              go_ret
              exact ⟨rfl, HS8.out.old⟩
          · obtain ⟨ca, cb⟩ := c
            have hK : wantC lba N true k = 2 := by unfold wantC; rw [if_pos (.inr ca)]
            obtain ⟨hg1, hg2, hg3, hg4⟩ := full_next (lba := lba) (n := N) (tw := true) (m := k) (by omega) (by omega)
            have hcd := full_code lba N true k (by omega) (by omega)
            rw [hK] at hcd hg3 hg4
            have HCD := Lib.hid hcd
            have HG1 := Lib.hid hg1
            have HG2 := Lib.hid hg2
            have HG3 := Lib.hid hg3
            have HG4 := Lib.hid hg4
            have HK := Lib.hid hK
            clear hcd hg1 hg2 hg3 hg4 hK
            go_wp2_with fail
            all_goals
              refine (bufWrite_sep HSB.out 1 rfl (full lba N true k) (fun G hR => ?_) (by simp) (by unfold full; simp [refP_len]; omega)).mono ?_
              · obtain ⟨F1, a1, a2⟩ := hR 2 _ (by decide) rfl
                exact PutsAt.mono (outPA_puts a2) a1
              rintro e w5 ⟨rfl, HS5⟩
              rw [HCD.out]
              go_wp2_with fail
              refine (bufWrite_none _ _).mono ?_
              rintro e w6 ⟨rfl, hb6⟩
              have hS6 := HS5.out.up hb6
              have HS6 := Lib.hid hS6
              have HB6 := Lib.hid hb6
              clear hS6 hb6
              go_wp2_with fail
              refine (bufLen_sep HS6 1 rfl HG1.out (by omega) (by have := HG2.out; omega)).mono ?_
              rintro e w7 ⟨rfl, HB7, HS7⟩
              rw [HG4.out (by decide)]
              go_wp2_with fail
              refine (awake14 _).mono ?_
              rintro e w8 ⟨rfl, hb8⟩
              have hS8 := HS7.out.up hb8
              have HS8 := Lib.hid hS8
              clear hS8
              go_wp2
              go_ret
              exact ⟨rfl, HS8.out.old⟩
          · obtain ⟨ca, cb, cn⟩ := c
            have hN : ((N : Int) != 40) = true := by rw [bne_iff_ne]; omega
            have hK : wantC lba N true k = 3 := by unfold wantC; rw [if_neg (by omega), if_pos cn]
            obtain ⟨hg1, hg2, hg3, hg4⟩ := full_next (lba := lba) (n := N) (tw := true) (m := k) (by omega) (by omega)
            have hcd := full_code lba N true k (by omega) (by omega)
            rw [hK] at hcd hg3 hg4
            have HCD := Lib.hid hcd
            have HG1 := Lib.hid hg1
            have HG2 := Lib.hid hg2
            have HG3 := Lib.hid hg3
            have HG4 := Lib.hid hg4
            have HK := Lib.hid hK
            have HCN := Lib.hid cn
            clear hcd hg1 hg2 hg3 hg4 hK cn
            go_wp2_with fail
            all_goals
              refine (bufWrite_sep HSB.out 1 rfl (full lba N true k) (fun G hR => ?_) (by simp) (by unfold full; simp [refP_len]; omega)).mono ?_
              · obtain ⟨F1, a1, a2⟩ := hR 2 _ (by decide) rfl
                exact PutsAt.mono (outPA_puts a2) a1
              rintro e w5 ⟨rfl, HS5⟩
              rw [HCD.out]
              go_wp2_with fail
              refine (bufWrite_none _ _).mono ?_
              rintro e w6 ⟨rfl, hb6⟩
              have hS6 := HS5.out.up hb6
              have HS6 := Lib.hid hS6
              have HB6 := Lib.hid hb6
              clear hS6 hb6
              go_wp2_with fail
              refine (bufLen_sep HS6 1 rfl HG1.out (by omega) (by have := HG2.out; omega)).mono ?_
              rintro e w7 ⟨rfl, HB7, HS7⟩
              rw [HG4.out (by decide)]
              go_wp2_with fail
              refine (awake14 _).mono ?_
              rintro e w8 ⟨rfl, hb8⟩
              have hS8 := HS7.out.up hb8
              have HS8 := Lib.hid hS8
              clear hS8
              go_wp2
              go_ret
              exact ⟨rfl, HS8.out.old⟩
          · obtain ⟨ca, cb, cn⟩ := c
            have hN : ((N : Int) != 40) = false := by rw [bne_eq_false_iff_eq]; omega
            have hK : wantC lba N true k = 4 := by unfold wantC; rw [if_neg (by omega), if_neg (by omega), if_pos (.inl rfl)]
            obtain ⟨hg1, hg2, hg3, hg4⟩ := full_next (lba := lba) (n := N) (tw := true) (m := k) (by omega) (by omega)
            have hcd := full_code lba N true k (by omega) (by omega)
            rw [hK] at hcd hg3 hg4
            have HCD := Lib.hid hcd
            have HG1 := Lib.hid hg1
            have HG2 := Lib.hid hg2
            have HG3 := Lib.hid hg3
            have HG4 := Lib.hid hg4
            have HK := Lib.hid hK
            have HCN := Lib.hid cn
            clear hcd hg1 hg2 hg3 hg4 hK cn
            go_wp2_with fail
            all_goals
              refine (bufWrite_sep HSB.out 1 rfl (full lba N true k) (fun G hR => ?_) (by simp) (by unfold full; simp [refP_len]; omega)).mono ?_
              · obtain ⟨F1, a1, a2⟩ := hR 2 _ (by decide) rfl
                exact PutsAt.mono (outPA_puts a2) a1
              rintro e w5 ⟨rfl, HS5⟩
              rw [HCD.out]
              go_wp2_with fail
              refine (bufWrite_none _ _).mono ?_
              rintro e w6 ⟨rfl, hb6⟩
              have hS6 := HS5.out.up hb6
              have HS6 := Lib.hid hS6
              have HB6 := Lib.hid hb6
              clear hS6 hb6
              go_wp2_with fail
              refine (bufLen_sep HS6 1 rfl HG1.out (by omega) (by have := HG2.out; omega)).mono ?_
              rintro e w7 ⟨rfl, HB7, HS7⟩
              rw [HG4.out (by decide)]
              go_wp2_with fail
              refine (awake14 _).mono ?_
              rintro e w8 ⟨rfl, hb8⟩
              have hS8 := HS7.out.up hb8
              have HS8 := Lib.hid hS8
              clear hS8
              go_wp2
              go_ret
              exact ⟨rfl, HS8.out.old⟩
end Go.Proofs
