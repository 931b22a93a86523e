/- ModelLast: a block is what was written there last; what was written back to noughts is as if never: for every input the law returns true. -/
import Derived.Test.YtjomlcemnbfnfaaL22
import Derived.Test.YtjomlcemnbfnfaaPlainLast
import Derived.Test.YtjomlcemnbfnfaaSep
namespace Go.Proofs
open Go.RowKit Sc

def ModelA (v : Value) (n : Int) (s : List (Int × Bytes)) : Asn := ⟨fun F w => ModelIs F w v n s, fun _ _ _ hs _ h => h.same hs⟩

set_option maxRecDepth 100000 in
set_option maxHeartbeats 2000000 in
theorem last_any (vl : Value) (l : List Int) (blank : Bool) (w : World) (hl : IntsAt (Old w) w vl l) :
    Calls Try.prog 7 #[vl, .bool blank] w (Tru w) := by
  have HL := Lib.hid hl
  obtain ⟨lp, lc, rfl, hll, hlc, _, _⟩ := hl
  by_cases h100 : l.length ≤ 100
  case neg =>
    have h100' : ¬ ((l.length : Nat) : Int) ≤ 100 := by omega
    go_enter Try.func7, Try.ntmps7
    go_wp2_with fail
    refine (awake22 _).mono ?_
    rintro e w1 ⟨rfl, hb1⟩
    go_wp2
    go_ret
    exact ⟨rfl, hb1⟩
  obtain ⟨i0, hi, hz0, hz1, hz2⟩ := info_parts infoInt
  go_enter Try.func7, Try.ntmps7
  go_wp2_with fail
  refine (modelNew_any 10 _ (by omega) (by omega)).mono ?_
  rintro e w1 ⟨va, rfl, hma, hb1⟩
  have hS1 := (Sep.start w).new hb1 (ModelA va 10 []) (fun _ h => h) hma
  obtain ⟨⟨ba, ra, mla, rfl, _⟩, _⟩ := hma
  have HS1 := Lib.hid hS1
  have HB1 := Lib.hid hb1
  clear hS1 hb1
  go_wp2_with fail
  refine (modelNew_any 10 _ (by omega) (by omega)).mono ?_
  rintro e w2 ⟨vb, rfl, hmb, hb2⟩
  have hS2 := HS1.out.new hb2 (ModelA vb 10 []) (fun _ h => h) hmb
  obtain ⟨⟨bb, rb, mlb, rfl, _⟩, _⟩ := hmb
  have HS2 := Lib.hid hS2
  have HB2 := Lib.hid hb2
  clear hS2 hb2
  go_wp2_with (at_make; refine wpList_make_full _ rfl _ _ 60 rfl 0 3 i0 (.int .i64 0) 1 Try.underlying60 hi hz0 hz1 _ _ _ _ 10 rfl rfl rfl rfl (by rw [hz2]; omega) (by unfold maxLen; omega) (Nat.zero_le _) ?_; intro w3 hown3 hgrow3)
  have hS3 := HS2.out.up (w' := w3) ((Below.refl _ _).grown hgrow3 (Nat.le_refl _) (fun j hj => by cases hj))
  have hS3' := HS2.out.new (w' := w3) ((Below.refl _ _).grown hgrow3 (Nat.le_refl _) (fun j hj => by cases hj)) (RowA 3 1 (.slice (some ⟨w2.heap.size, 0, none⟩) 10 10) 10 ((List.replicate 10 (0 : Int)).map (Value.int .i64))) (F := New w2 w3) (fun _ h => h) ⟨by rw [made_one (z := .int .i64 0) rfl] at hown3; rw [List.map_replicate]; exact ownsRow_lower hown3 (Nat.zero_le _), fun g hg => by cases hg; exact ⟨Nat.le_refl _, by have := hown3.lt w2.heap.size rfl; exact this.2⟩⟩
  generalize hG : w2.heap.size = g at *
  have HG := Lib.hid hG
  clear hG hown3 hgrow3 hS3 hi hz0 hz1 hz2 hll hlc
  have HS3' := Lib.hid hS3'
  clear hS3'
  have h100' : ((l.length : Nat) : Int) ≤ 100 := by omega
  go_loopw [10] (fun i wr => ∃ k : Nat, ∃ s xs, k ≤ l.length ∧ i = .int .i64 k ∧ Hid (Sep w [OldA w, ModelA (.pointer (some ⟨ba, 0, none⟩)) 10 s, ModelA (.pointer (some ⟨bb, 0, none⟩)) 10 [], RowA 3 1 (.slice (some ⟨g, 0, none⟩) 10 10) 10 (xs.map (Value.int .i64))] wr) ∧
      Hid (LastI xs 0 s ∧ (∀ x ∈ xs, 0 ≤ x ∧ x ≤ k) ∧ (0 < k → ∃ j, ∃ h : j < xs.length, xs[j] ≠ 0) ∧ s.length ≤ k)) (fun i _ => l.length - (intOf i).toNat)
  case atStart => exact ⟨0, [], List.replicate 10 0, by omega, rfl, HS3'.out, LastI.start, fun x hx => by rw [List.eq_of_mem_replicate hx]; omega, fun h => absurd h (by omega), Nat.le_refl _⟩
  case round =>
    obtain ⟨k, s, xs, hk, rfl, HS, HI⟩ := hrel
    by_cases hlt : k < l.length
    · obtain ⟨p', c', hv', _, _, _, g4⟩ := HL.out.up HS.out.old
      cases hv'
      obtain ⟨b, o, rfl, hgb, hck, hki⟩ := g4 k hlt
      rw [Nat.mul_one] at hck
      generalize l[k] = x at hck hki
      clear g4
      go_wp2_with fail
      refine (round_any x 10 _ (by omega) (by omega)).mono ?_
      rintro e w4 ⟨rfl, rfl⟩
      have hr := roundN_bd x (show (0 : Int) < 10 by omega)
      obtain ⟨r, hrr⟩ := Int.eq_ofNat_of_zero_le hr.1
      rw [hrr] at hr ⊢
      have hr10 : r < 10 := by omega
      have hl10 := HI.out.1.len
      obtain ⟨hcell, hfz⟩ := HS.out.row_cell 3 rfl r (by omega)
      have hlx : (xs.map (Value.int .i64))[r]? = some (.int .i64 (xs[r]'(by omega))) := by
        rw [List.getElem?_map, List.getElem?_eq_getElem (by omega)]; rfl
      rw [hlx] at hcell
      generalize xs[r]'(by omega) = xr at hcell
      have hS4 := HS.out.row_set 3 rfl r (.int .i64 ((k : Int) + 1))
      have hx2 : (xs.map (Value.int .i64)).set r (.int .i64 ((k : Int) + 1)) = (xs.set r ((k : Int) + 1)).map (Value.int .i64) := by rw [List.map_set]
      rw [hx2] at hS4
      have HS4 := Lib.hid hS4
      clear hS4
      clear hlx hx2 hrr hl10
      go_wp2_with fail
      generalize wr.setCell ⟨g, r, none⟩ (.int .i64 ((k : Int) + 1)) = w4 at *
      refine (data_any ((k : Int) + 1) _).mono ?_
      rintro e w5 ⟨dv, rfl, hd, hb5⟩
      obtain ⟨dp, dc, rfl⟩ := shape_of hd (dataB_len _)
      have HD := Lib.hid hd
      have HB5 := Lib.hid hb5
      clear hd hb5
      go_wp2_with fail
      have hp := putsAt_one (n := (r : Int)) (by unfold I64; omega) HD.out HB5.out.size 39
      have ht : TxAt (New w4 (w5.alloc (.cells #[.int .i64 (r : Int), .slice dp 40 dc] 39))) (w5.alloc (.cells #[.int .i64 (r : Int), .slice dp 40 dc] 39)) _ ⟨0, _⟩ := ⟨_, rfl, i64_zero, hp⟩
      have hb45 : Below w4.heap.size w4 (w5.alloc (.cells #[.int .i64 (r : Int), .slice dp 40 dc] 39)) := Below.up HB5.out (below_alloc _ _)
      obtain ⟨F, G, hF, _, _, hdF, _, K⟩ := HS4.out.at 1 rfl
      have hn45 := hb45.size
      have HK := Lib.hid K
      clear K
      refine (modelRun_any F _ _ _ 10 s _ _ (by omega) (hF.same (hdF.same hb45)) ht (fun k hk => hk.2) (fun k h1 h2 => by have := hdF k h1; have := h2.1; omega)).mono ?_
      rintro e w6 ⟨rfl, hc6, hm6⟩
      have hrc : runCode 10 [(⟨(r : Int), dataB ((k : Int) + 1)⟩ : Put)] = 0 := runCode_one _ (by omega) (by omega) (dataB_length _)
      simp only [hrc, if_true, runPuts_one] at hm6
      rw [hrc]
      have hS6 := HK.out w6 _ (ModelA (.pointer (some ⟨ba, 0, none⟩)) 10 (aset s (r : Int) (dataB ((k : Int) + 1)))) (Chg.after_up hb45 hc6) (fun k hk => hk.imp id fun h => ⟨by have := h.1; omega, h.2⟩) hm6
      have hI6 := HI.out.1.step hr10 (d := (k : Int) + 1) (by omega)
      have hln := aset_length s (r : Int) (dataB ((k : Int) + 1))
      have HS6 := Lib.hid hS6
      have HI6 := Lib.hid hI6
      have HC6 := Lib.hid hc6
      have HM6 := Lib.hid hm6
      have HF := Lib.hid hF
      have HB45 := Lib.hid hb45
      have HT := Lib.hid ht
      have HP := Lib.hid hp
      have HRC := Lib.hid hrc
      clear hS6 hI6 hc6 hm6 hF hb45 ht hp hrc
      have HLN := Lib.hid hln
      clear hln
      go_wp2_with fail
      go_roundw
      case rel =>
        refine ⟨k + 1, _, _, by omega, by go_num, HS6.out, HI6.out, fun x hx => ?_, fun _ => ⟨r, by rw [List.length_set, HI.out.1.len]; exact hr10, by rw [List.getElem_set_self]; omega⟩, by have := HLN.out; have := HI.out.2.2.2; omega⟩
        rcases List.mem_or_eq_of_mem_set hx with hx | rfl
        · have := HI.out.2.1 x hx; omega
        · omega
      case measure => simp [intOf]; omega
    · have hkl : k = l.length := by omega
      have HKL := Lib.hid hkl
      clear hkl
      go_wp2_with fail
      obtain ⟨W2, rfl⟩ : ∃ W2 : World, W2 = wr := ⟨_, rfl⟩
      go_loopw [12] (fun i wr => ∃ k2 : Nat, ∃ s, k2 ≤ 10 ∧ i = .int .i64 k2 ∧ Hid (Sep w [OldA w, ModelA (.pointer (some ⟨ba, 0, none⟩)) 10 s, ModelA (.pointer (some ⟨bb, 0, none⟩)) 10 [], RowA 3 1 (.slice (some ⟨g, 0, none⟩) 10 10) 10 (xs.map (Value.int .i64))] wr) ∧
      Hid (LastI xs (if blank then k2 else 0) s ∧ s.length ≤ 100)) (fun i _ => 10 - (intOf i).toNat)
      case atStart => exact ⟨0, s, by omega, rfl, HS.out, by have := HI.out.1; cases blank <;> exact this, by have := HI.out.2.2.2; omega⟩
      case round =>
        obtain ⟨k2, s2, hk2, rfl, HS2', HI2⟩ := hrel
        by_cases hlt2 : k2 < 10
        · obtain ⟨hcell, hfz⟩ := HS2'.out.row_cell 3 rfl k2 (by omega)
          obtain ⟨x, hx, hxm, hlk, hskip⟩ := HI2.out.1.at hlt2
          rw [List.getElem?_map, hx] at hcell
          simp only [Option.map_some] at hcell
          obtain ⟨hxb, hxb2⟩ := HI.out.2.1 x hxm
          have HX := Lib.hid hx
          have HXM := Lib.hid hxm
          have HLK := Lib.hid hlk
          have HSKIP := Lib.hid hskip
          clear hx hxm hlk hskip
          by_cases h0 : x = 0
          · subst h0
            go_wp2_with fail
            go_roundw
            case rel =>
              refine ⟨k2 + 1, s2, by omega, by go_num, HS2'.out, ?_, HI2.out.2⟩
              cases blank
              · exact HI2.out.1
              · exact HSKIP.out rfl rfl
            case measure => simp [intOf]; omega
          · have h0' : (x == 0) = false := by rw [beq_eq_false_iff_ne]; exact h0
            have hlk2 : alook s2 (k2 : Int) = some (dataB x) := by
              rw [HLK.out, if_neg]
              rintro (h | h)
              · exact h0 h
              · cases blank
                · simp at h
                · simp at h
            have HLK2 := Lib.hid hlk2
            clear hlk2
            clear h0
            go_wp2_with fail
            obtain ⟨F, hF, _⟩ := HS2'.out.get 1 rfl
            refine (modelGet_any F _ 10 (k2 : Int) s2 _ hF HI2.out.1.l40).mono ?_
            rintro e w4 (⟨hno, _⟩ | ⟨_, v4, rfl, hv4, hb4⟩)
            · exact absurd hno (by simp [blk]; omega)
            rw [HLK2.out] at hv4
            have hcell4 := cell_up hb4 hcell
            have hS4 := HS2'.out.up hb4
            have HV4 := Lib.hid hv4
            have HB4 := Lib.hid hb4
            have HS4 := Lib.hid hS4
            clear hv4 hb4 hS4
            go_wp2_with fail
            refine (data_any x _).mono ?_
            rintro e w5 ⟨dv, rfl, hd, hb5⟩
            have hS5 := HS4.out.up hb5
            have HD := Lib.hid hd
            have HB5 := Lib.hid hb5
            have HS5 := Lib.hid hS5
            clear hd hb5 hS5
            go_wp2_with fail
            refine (bytes_any (fun _ => True) _ _ (dataB x) (dataB x) _ (BytesAt.mono (HV4.out.up HB5.out) fun _ _ => trivial) (BytesAt.mono HD.out fun _ _ => trivial)).mono ?_
            rintro e w6 ⟨rfl, hb6⟩
            have hS6 := HS5.out.up hb6
            have HB6 := Lib.hid hb6
            have HS6 := Lib.hid hS6
            clear hb6 hS6
            rw [show (dataB x == dataB x) = true by simp]
            cases blank with
            | false =>
              go_wp2_with fail
              go_roundw
              case rel => exact ⟨k2 + 1, s2, by omega, by go_num, HS6.out, HI2.out⟩
              case measure => simp [intOf]; omega
            | true =>
              obtain ⟨i1, hi, hz0, hz1, hz2⟩ := info_parts infoU8
              go_wp2_with (at_make; refine wpList_make_full _ rfl _ _ 35 rfl w6.heap.size 5 i1 (.int .u8 0) 1 Try.underlying35 hi hz0 hz1 _ _ _ _ 40 rfl rfl rfl rfl (by rw [hz2]; omega) (by unfold maxLen; omega) (Nat.le_refl _) ?_; intro w7 hown7 hgrow7)
              have hlt7 := hown7.lt w6.heap.size rfl
              have hd7 : BytesAt (New w6 w7) w7 (.slice (some ⟨w6.heap.size, 0, none⟩) 40 40) zeroB := bytesAt_row (B := w6.heap.size) (l := zeroB) _ ⟨Nat.le_refl _, hlt7.2⟩ (by decide) (Nat.le_refl _) (by omega) (by rw [made_u8] at hown7; exact hown7)
              have hb67 : Below w6.heap.size w6 w7 := (Below.refl _ _).grown hgrow7 (Nat.le_refl _) (fun j hj => by cases hj)
              have hp := putsAt_one (n := (k2 : Int)) (by unfold I64; omega) hd7 hb67.size 39
              have ht : TxAt (New w6 (w7.alloc (.cells #[.int .i64 (k2 : Int), .slice (some ⟨w6.heap.size, 0, none⟩) 40 40] 39))) (w7.alloc (.cells #[.int .i64 (k2 : Int), .slice (some ⟨w6.heap.size, 0, none⟩) 40 40] 39)) _ ⟨0, _⟩ := ⟨_, rfl, i64_zero, hp⟩
              have hb68 : Below w6.heap.size w6 (w7.alloc (.cells #[.int .i64 (k2 : Int), .slice (some ⟨w6.heap.size, 0, none⟩) 40 40] 39)) := Below.up hb67 (below_alloc _ _)
              obtain ⟨F, G, hF, _, _, hdF, _, K⟩ := HS6.out.at 1 rfl
              have hn68 := hb68.size
              have HK := Lib.hid K
              have HLT7 := Lib.hid hlt7
              clear K hlt7
              clear hown7 hgrow7
              refine (modelRun_any F _ _ _ 10 s2 _ _ (by omega) (hF.same (hdF.same hb68)) ht (fun k hk => hk.2) (fun k h1 h2 => by have := hdF k h1; have := h2.1; omega)).mono ?_
              rintro e w8 ⟨rfl, hc8, hm8⟩
              have hrc : runCode 10 [(⟨(k2 : Int), zeroB⟩ : Put)] = 0 := runCode_one _ (by omega) (by omega) (by decide)
              simp only [hrc, if_true, runPuts_zero] at hm8
              rw [hrc]
              have hS8 := HK.out w8 _ (ModelA (.pointer (some ⟨ba, 0, none⟩)) 10 (adel s2 (k2 : Int))) (Chg.after_up hb68 hc8) (fun k hk => hk.imp id fun h => ⟨by have := h.1; omega, h.2⟩) hm8
              have hI8 := HI2.out.1.clear
              have hln := (adel_sublist s2 (k2 : Int)).length_le
              have HLN := Lib.hid hln
              have HS8 := Lib.hid hS8
              have HI8 := Lib.hid hI8
              have HC8 := Lib.hid hc8
              have HM8 := Lib.hid hm8
              have HF := Lib.hid hF
              have HB67 := Lib.hid hb67
              have HB68 := Lib.hid hb68
              have HT := Lib.hid ht
              have HP := Lib.hid hp
              have HRC := Lib.hid hrc
              have HD7 := Lib.hid hd7
              clear hS8 hI8 hc8 hm8 hF hb67 hb68 ht hp hrc hd7
              clear hln
              go_wp2_with fail
              go_roundw
              case rel => exact ⟨k2 + 1, _, by omega, by go_num, HS8.out, HI8.out, by have := HLN.out; have := HI2.out.2; omega⟩
              case measure => simp [intOf]; omega
        · have hk10 : k2 = 10 := by omega
          subst hk10
          have hemp : (s2 = [] ∧ (blank = true ∨ (blank = false ∧ ((((l.length : Nat) : Int) == 0) = true)))) ∨ (s2 ≠ [] ∧ blank = false ∧ ((((l.length : Nat) : Int) == 0) = false)) := by
            cases blank with
            | true => exact .inl ⟨HI2.out.1.empty fun j hj => .inr (by rw [HI2.out.1.len] at hj; exact hj), .inl rfl⟩
            | false =>
              by_cases h0 : l.length = 0
              · exact .inl ⟨HI2.out.1.empty fun j hj => .inl (by have := HI.out.2.1 _ (List.getElem_mem hj); have := HKL.out; omega), .inr ⟨rfl, by rw [beq_iff_eq]; omega⟩⟩
              · obtain ⟨j, hj, hx⟩ := HI.out.2.2.1 (by have := HKL.out; omega)
                exact .inr ⟨HI2.out.1.full hj hx, rfl, by rw [beq_eq_false_iff_ne]; omega⟩
          obtain ⟨F1, F2, hF1, hF2, _⟩ := HS2'.out.two 1 2 (by decide) rfl rfl
          have h64 : ∀ x ∈ s2, I64 x.1 := fun x hx => by have := HI2.out.1.ks x hx; unfold I64; omega
          have h40 : ∀ x ∈ s2, x.2.length ≤ 1000000 := fun x hx => by
            have := HI2.out.1.l40 x.1 x.2 (alook_mem HI2.out.1.nd hx); omega
          have hsl := HI2.out.2
          have HF1 := Lib.hid hF1
          have HF2 := Lib.hid hF2
          have H64 := Lib.hid h64
          have H40 := Lib.hid h40
          have HSL := Lib.hid hsl
          clear hF1 hF2 h64 h40 hsl
          rcases hemp with ⟨rfl, hb⟩ | ⟨hne, rfl, hz⟩
          · have hcs : blank = true ∨ (blank = false ∧ ((((l.length : Nat) : Int) == 0) = true)) := hb
            clear hb
            rcases hcs with rfl | ⟨rfl, hz⟩
            all_goals
              go_wp2_with fail
              refine (modelSame_any F1 F2 _ _ 10 [] [] _ HF1.out HF2.out).mono ?_
              rintro e w4 ⟨rfl, hb4⟩
              rw [show eqM [] [] = true from rfl]
              have hF14 := HF1.out.same (HF1.out.dom.same hb4)
              have hS4 := HS2'.out.up hb4
              have HB4 := Lib.hid hb4
              have HF14 := Lib.hid hF14
              have HS4 := Lib.hid hS4
              clear hb4 hF14 hS4
              go_wp2_with fail
              refine (modelAll_any F1 _ 10 [] _ HF14.out H64.out (by simp) H40.out).mono ?_
              rintro e w5 ⟨v5, rfl, hv5, hb5⟩
              obtain ⟨p5, c5, rfl, _⟩ := hv5
              rw [show (allPuts []).length = 0 from allPuts_length []]
              have hS5 := HS4.out.up hb5
              have HB5 := Lib.hid hb5
              have HS5 := Lib.hid hS5
              clear hb5 hS5
              go_wp2_with fail
              refine (awake22 _).mono ?_
              rintro e w6 ⟨rfl, hb6⟩
              have hS6 := HS5.out.up hb6
              have HS6 := Lib.hid hS6
              clear hS6
              go_wp2
              go_ret
              exact ⟨rfl, HS6.out.old⟩
          · have hq : eqM s2 [] = false := by rw [eqM_nil, decide_eq_false hne]
            have hlz : (((s2.length : Nat) : Int) == 0) = false := by
              rw [beq_eq_false_iff_ne]
              intro e
              exact hne (List.length_eq_zero_iff.1 (by omega))
            have HQ := Lib.hid hq
            clear hq
            clear hne
            go_wp2_with fail
            refine (modelSame_any F1 F2 _ _ 10 s2 [] _ HF1.out HF2.out).mono ?_
            rintro e w4 ⟨rfl, hb4⟩
            rw [HQ.out]
            have hF14 := HF1.out.same (HF1.out.dom.same hb4)
            have hS4 := HS2'.out.up hb4
            have HB4 := Lib.hid hb4
            have HF14 := Lib.hid hF14
            have HS4 := Lib.hid hS4
            clear hb4 hF14 hS4
            go_wp2_with fail
            refine (modelAll_any F1 _ 10 s2 _ HF14.out H64.out (by have := HSL.out; omega) H40.out).mono ?_
            rintro e w5 ⟨v5, rfl, hv5, hb5⟩
            obtain ⟨p5, c5, rfl, _⟩ := hv5
            rw [allPuts_length]
            have hS5 := HS4.out.up hb5
            have HB5 := Lib.hid hb5
            have HS5 := Lib.hid hS5
            clear hb5 hS5
            go_wp2_with fail
            refine (awake22 _).mono ?_
            rintro e w6 ⟨rfl, hb6⟩
            have hS6 := HS5.out.up hb6
            have HS6 := Lib.hid hS6
            clear hS6
            go_wp2
            go_ret
            exact ⟨rfl, HS6.out.old⟩
end Go.Proofs
