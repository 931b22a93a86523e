/- Texts of this claim, one behind the other: Last, SamePuts, Runs, RefReplay, Replay, Alike28, RowV, Saw28, RegG. -/
import Derived.Laws.IdiomStrings
import Derived.Laws.BytesArg
import Derived.Orders
import Derived.Tactics
import Derived.Tactics2
import Derived.KernelRfl
import Derived.Test.YtjomlcemnbfnfaaAu4

/- ModelLast: a block is what was written there last; what was written back to noughts is as if never: for every input the law returns true. -/
namespace Go.Proofs
open Go.RowKit Sc

def ModelA (v : Value) (n : Int) (s : List (Int × Bytes)) : Asn := ⟨fun F w => ModelIs F w v n s, fun _ _ _ hs _ h => h.same hs⟩

set_option maxRecDepth 100000 in
set_option maxHeartbeats 2000000 in
theorem last_any (vl : Value) (l : List Int) (blank : Bool) (w : World) (hl : IntsAt (Old w) w vl l) :
    Calls Try.prog 7 #[vl, .bool blank] w (Tru w) := by
  have HL := Lib.hid hl
  obtain ⟨lp, lc, rfl, hll, hlc, _, _⟩ := hl
  by_cases h100 : l.length ≤ 100
  case neg =>
    have h100' : ¬ ((l.length : Nat) : Int) ≤ 100 := by omega
    go_enter Try.func7, Try.ntmps7
    go_wp2_with fail
    refine (awake22 _).mono ?_
    rintro e w1 ⟨rfl, hb1⟩
    go_wp2
    go_ret
    exact ⟨rfl, hb1⟩
  obtain ⟨i0, hi, hz0, hz1, hz2⟩ := info_parts infoInt
  go_enter Try.func7, Try.ntmps7
  go_wp2_with fail
  refine (modelNew_any 10 _ (by omega) (by omega)).mono ?_
  rintro e w1 ⟨va, rfl, hma, hb1⟩
  have hS1 := (Sep.start w).new hb1 (ModelA va 10 []) (fun _ h => h) hma
  obtain ⟨⟨ba, ra, mla, rfl, _⟩, _⟩ := hma
  have HS1 := Lib.hid hS1
  have HB1 := Lib.hid hb1
  clear hS1 hb1
  go_wp2_with fail
  refine (modelNew_any 10 _ (by omega) (by omega)).mono ?_
  rintro e w2 ⟨vb, rfl, hmb, hb2⟩
  have hS2 := HS1.out.new hb2 (ModelA vb 10 []) (fun _ h => h) hmb
  obtain ⟨⟨bb, rb, mlb, rfl, _⟩, _⟩ := hmb
  have HS2 := Lib.hid hS2
  have HB2 := Lib.hid hb2
  clear hS2 hb2
  go_wp2_with (at_make; refine wpList_make_full _ rfl _ _ 60 rfl 0 3 i0 (.int .i64 0) 1 Try.underlying60 hi hz0 hz1 _ _ _ _ 10 rfl rfl rfl rfl (by rw [hz2]; omega) (by unfold maxLen; omega) (Nat.zero_le _) ?_; intro w3 hown3 hgrow3)
  have hS3 := HS2.out.up (w' := w3) ((Below.refl _ _).grown hgrow3 (Nat.le_refl _) (fun j hj => by cases hj))
  have hS3' := HS2.out.new (w' := w3) ((Below.refl _ _).grown hgrow3 (Nat.le_refl _) (fun j hj => by cases hj)) (RowA 3 1 (.slice (some ⟨w2.heap.size, 0, none⟩) 10 10) 10 ((List.replicate 10 (0 : Int)).map (Value.int .i64))) (F := New w2 w3) (fun _ h => h) ⟨by rw [made_one (z := .int .i64 0) rfl] at hown3; rw [List.map_replicate]; exact ownsRow_lower hown3 (Nat.zero_le _), fun g hg => by cases hg; exact ⟨Nat.le_refl _, by have := hown3.lt w2.heap.size rfl; exact this.2⟩⟩
  generalize hG : w2.heap.size = g at *
  have HG := Lib.hid hG
  clear hG hown3 hgrow3 hS3 hi hz0 hz1 hz2 hll hlc
  have HS3' := Lib.hid hS3'
  clear hS3'
  have h100' : ((l.length : Nat) : Int) ≤ 100 := by omega
  go_loopw [10] (fun i wr => ∃ k : Nat, ∃ s xs, k ≤ l.length ∧ i = .int .i64 k ∧ Hid (Sep w [OldA w, ModelA (.pointer (some ⟨ba, 0, none⟩)) 10 s, ModelA (.pointer (some ⟨bb, 0, none⟩)) 10 [], RowA 3 1 (.slice (some ⟨g, 0, none⟩) 10 10) 10 (xs.map (Value.int .i64))] wr) ∧
      Hid (LastI xs 0 s ∧ (∀ x ∈ xs, 0 ≤ x ∧ x ≤ k) ∧ (0 < k → ∃ j, ∃ h : j < xs.length, xs[j] ≠ 0) ∧ s.length ≤ k)) (fun i _ => l.length - (intOf i).toNat)
  case atStart => exact ⟨0, [], List.replicate 10 0, by omega, rfl, HS3'.out, LastI.start, fun x hx => by rw [List.eq_of_mem_replicate hx]; omega, fun h => absurd h (by omega), Nat.le_refl _⟩
  case round =>
    obtain ⟨k, s, xs, hk, rfl, HS, HI⟩ := hrel
    by_cases hlt : k < l.length
    · obtain ⟨p', c', hv', _, _, _, g4⟩ := HL.out.up HS.out.old
      cases hv'
      obtain ⟨b, o, rfl, hgb, hck, hki⟩ := g4 k hlt
      rw [Nat.mul_one] at hck
      generalize l[k] = x at hck hki
      clear g4
      go_wp2_with fail
      refine (round_any x 10 _ (by omega) (by omega)).mono ?_
      rintro e w4 ⟨rfl, rfl⟩
      have hr := roundN_bd x (show (0 : Int) < 10 by omega)
      obtain ⟨r, hrr⟩ := Int.eq_ofNat_of_zero_le hr.1
      rw [hrr] at hr ⊢
      have hr10 : r < 10 := by omega
      have hl10 := HI.out.1.len
      obtain ⟨hcell, hfz⟩ := HS.out.row_cell 3 rfl r (by omega)
      have hlx : (xs.map (Value.int .i64))[r]? = some (.int .i64 (xs[r]'(by omega))) := by
        rw [List.getElem?_map, List.getElem?_eq_getElem (by omega)]; rfl
      rw [hlx] at hcell
      generalize xs[r]'(by omega) = xr at hcell
      have hS4 := HS.out.row_set 3 rfl r (.int .i64 ((k : Int) + 1))
      have hx2 : (xs.map (Value.int .i64)).set r (.int .i64 ((k : Int) + 1)) = (xs.set r ((k : Int) + 1)).map (Value.int .i64) := by rw [List.map_set]
      rw [hx2] at hS4
      have HS4 := Lib.hid hS4
      clear hS4
      clear hlx hx2 hrr hl10
      go_wp2_with fail
      generalize wr.setCell ⟨g, r, none⟩ (.int .i64 ((k : Int) + 1)) = w4 at *
      refine (data_any ((k : Int) + 1) _).mono ?_
      rintro e w5 ⟨dv, rfl, hd, hb5⟩
      obtain ⟨dp, dc, rfl⟩ := shape_of hd (dataB_len _)
      have HD := Lib.hid hd
      have HB5 := Lib.hid hb5
      clear hd hb5
      go_wp2_with fail
      have hp := putsAt_one (n := (r : Int)) (by unfold I64; omega) HD.out HB5.out.size 39
      have ht : TxAt (New w4 (w5.alloc (.cells #[.int .i64 (r : Int), .slice dp 40 dc] 39))) (w5.alloc (.cells #[.int .i64 (r : Int), .slice dp 40 dc] 39)) _ ⟨0, _⟩ := ⟨_, rfl, i64_zero, hp⟩
      have hb45 : Below w4.heap.size w4 (w5.alloc (.cells #[.int .i64 (r : Int), .slice dp 40 dc] 39)) := Below.up HB5.out (below_alloc _ _)
      obtain ⟨F, G, hF, _, _, hdF, _, K⟩ := HS4.out.at 1 rfl
      have hn45 := hb45.size
      have HK := Lib.hid K
      clear K
      refine (modelRun_any F _ _ _ 10 s _ _ (by omega) (hF.same (hdF.same hb45)) ht (fun k hk => hk.2) (fun k h1 h2 => by have := hdF k h1; have := h2.1; omega)).mono ?_
      rintro e w6 ⟨rfl, hc6, hm6⟩
      have hrc : runCode 10 [(⟨(r : Int), dataB ((k : Int) + 1)⟩ : Put)] = 0 := runCode_one _ (by omega) (by omega) (dataB_length _)
      simp only [hrc, if_true, runPuts_one] at hm6
      rw [hrc]
      have hS6 := HK.out w6 _ (ModelA (.pointer (some ⟨ba, 0, none⟩)) 10 (aset s (r : Int) (dataB ((k : Int) + 1)))) (Chg.after_up hb45 hc6) (fun k hk => hk.imp id fun h => ⟨by have := h.1; omega, h.2⟩) hm6
      have hI6 := HI.out.1.step hr10 (d := (k : Int) + 1) (by omega)
      have hln := aset_length s (r : Int) (dataB ((k : Int) + 1))
      have HS6 := Lib.hid hS6
      have HI6 := Lib.hid hI6
      have HC6 := Lib.hid hc6
      have HM6 := Lib.hid hm6
      have HF := Lib.hid hF
      have HB45 := Lib.hid hb45
      have HT := Lib.hid ht
      have HP := Lib.hid hp
      have HRC := Lib.hid hrc
      clear hS6 hI6 hc6 hm6 hF hb45 ht hp hrc
      have HLN := Lib.hid hln
      clear hln
      go_wp2_with fail
      go_roundw
      case rel =>
        refine ⟨k + 1, _, _, by omega, by go_num, HS6.out, HI6.out, fun x hx => ?_, fun _ => ⟨r, by rw [List.length_set, HI.out.1.len]; exact hr10, by rw [List.getElem_set_self]; omega⟩, by have := HLN.out; have := HI.out.2.2.2; omega⟩
        rcases List.mem_or_eq_of_mem_set hx with hx | rfl
        · have := HI.out.2.1 x hx; omega
        · omega
      case measure => simp [intOf]; omega
    · have hkl : k = l.length := by omega
      have HKL := Lib.hid hkl
      clear hkl
      go_wp2_with fail
      obtain ⟨W2, rfl⟩ : ∃ W2 : World, W2 = wr := ⟨_, rfl⟩
      go_loopw [12] (fun i wr => ∃ k2 : Nat, ∃ s, k2 ≤ 10 ∧ i = .int .i64 k2 ∧ Hid (Sep w [OldA w, ModelA (.pointer (some ⟨ba, 0, none⟩)) 10 s, ModelA (.pointer (some ⟨bb, 0, none⟩)) 10 [], RowA 3 1 (.slice (some ⟨g, 0, none⟩) 10 10) 10 (xs.map (Value.int .i64))] wr) ∧
      Hid (LastI xs (if blank then k2 else 0) s ∧ s.length ≤ 100)) (fun i _ => 10 - (intOf i).toNat)
      case atStart => exact ⟨0, s, by omega, rfl, HS.out, by have := HI.out.1; cases blank <;> exact this, by have := HI.out.2.2.2; omega⟩
      case round =>
        obtain ⟨k2, s2, hk2, rfl, HS2', HI2⟩ := hrel
        by_cases hlt2 : k2 < 10
        · obtain ⟨hcell, hfz⟩ := HS2'.out.row_cell 3 rfl k2 (by omega)
          obtain ⟨x, hx, hxm, hlk, hskip⟩ := HI2.out.1.at hlt2
          rw [List.getElem?_map, hx] at hcell
          simp only [Option.map_some] at hcell
          obtain ⟨hxb, hxb2⟩ := HI.out.2.1 x hxm
          have HX := Lib.hid hx
          have HXM := Lib.hid hxm
          have HLK := Lib.hid hlk
          have HSKIP := Lib.hid hskip
          clear hx hxm hlk hskip
          by_cases h0 : x = 0
          · subst h0
            go_wp2_with fail
            go_roundw
            case rel =>
              refine ⟨k2 + 1, s2, by omega, by go_num, HS2'.out, ?_, HI2.out.2⟩
              cases blank
              · exact HI2.out.1
              · exact HSKIP.out rfl rfl
            case measure => simp [intOf]; omega
          · have h0' : (x == 0) = false := by rw [beq_eq_false_iff_ne]; exact h0
            have hlk2 : alook s2 (k2 : Int) = some (dataB x) := by
              rw [HLK.out, if_neg]
              rintro (h | h)
              · exact h0 h
              · cases blank
                · simp at h
                · simp at h
            have HLK2 := Lib.hid hlk2
            clear hlk2
            clear h0
            go_wp2_with fail
            obtain ⟨F, hF, _⟩ := HS2'.out.get 1 rfl
            refine (modelGet_any F _ 10 (k2 : Int) s2 _ hF HI2.out.1.l40).mono ?_
            rintro e w4 (⟨hno, _⟩ | ⟨_, v4, rfl, hv4, hb4⟩)
            · exact absurd hno (by simp [blk]; omega)
            rw [HLK2.out] at hv4
            have hcell4 := cell_up hb4 hcell
            have hS4 := HS2'.out.up hb4
            have HV4 := Lib.hid hv4
            have HB4 := Lib.hid hb4
            have HS4 := Lib.hid hS4
            clear hv4 hb4 hS4
            go_wp2_with fail
            refine (data_any x _).mono ?_
            rintro e w5 ⟨dv, rfl, hd, hb5⟩
            have hS5 := HS4.out.up hb5
            have HD := Lib.hid hd
            have HB5 := Lib.hid hb5
            have HS5 := Lib.hid hS5
            clear hd hb5 hS5
            go_wp2_with fail
            refine (bytes_any (fun _ => True) _ _ (dataB x) (dataB x) _ (BytesAt.mono (HV4.out.up HB5.out) fun _ _ => trivial) (BytesAt.mono HD.out fun _ _ => trivial)).mono ?_
            rintro e w6 ⟨rfl, hb6⟩
            have hS6 := HS5.out.up hb6
            have HB6 := Lib.hid hb6
            have HS6 := Lib.hid hS6
            clear hb6 hS6
            rw [show (dataB x == dataB x) = true by simp]
            cases blank with
            | false =>
              go_wp2_with fail
              go_roundw
              case rel => exact ⟨k2 + 1, s2, by omega, by go_num, HS6.out, HI2.out⟩
              case measure => simp [intOf]; omega
            | true =>
              obtain ⟨i1, hi, hz0, hz1, hz2⟩ := info_parts infoU8
              go_wp2_with (at_make; refine wpList_make_full _ rfl _ _ 35 rfl w6.heap.size 5 i1 (.int .u8 0) 1 Try.underlying35 hi hz0 hz1 _ _ _ _ 40 rfl rfl rfl rfl (by rw [hz2]; omega) (by unfold maxLen; omega) (Nat.le_refl _) ?_; intro w7 hown7 hgrow7)
              have hlt7 := hown7.lt w6.heap.size rfl
              have hd7 : BytesAt (New w6 w7) w7 (.slice (some ⟨w6.heap.size, 0, none⟩) 40 40) zeroB := bytesAt_row (B := w6.heap.size) (l := zeroB) _ ⟨Nat.le_refl _, hlt7.2⟩ (by decide) (Nat.le_refl _) (by omega) (by rw [made_u8] at hown7; exact hown7)
              have hb67 : Below w6.heap.size w6 w7 := (Below.refl _ _).grown hgrow7 (Nat.le_refl _) (fun j hj => by cases hj)
              have hp := putsAt_one (n := (k2 : Int)) (by unfold I64; omega) hd7 hb67.size 39
              have ht : TxAt (New w6 (w7.alloc (.cells #[.int .i64 (k2 : Int), .slice (some ⟨w6.heap.size, 0, none⟩) 40 40] 39))) (w7.alloc (.cells #[.int .i64 (k2 : Int), .slice (some ⟨w6.heap.size, 0, none⟩) 40 40] 39)) _ ⟨0, _⟩ := ⟨_, rfl, i64_zero, hp⟩
              have hb68 : Below w6.heap.size w6 (w7.alloc (.cells #[.int .i64 (k2 : Int), .slice (some ⟨w6.heap.size, 0, none⟩) 40 40] 39)) := Below.up hb67 (below_alloc _ _)
              obtain ⟨F, G, hF, _, _, hdF, _, K⟩ := HS6.out.at 1 rfl
              have hn68 := hb68.size
              have HK := Lib.hid K
              have HLT7 := Lib.hid hlt7
              clear K hlt7
              clear hown7 hgrow7
              refine (modelRun_any F _ _ _ 10 s2 _ _ (by omega) (hF.same (hdF.same hb68)) ht (fun k hk => hk.2) (fun k h1 h2 => by have := hdF k h1; have := h2.1; omega)).mono ?_
              rintro e w8 ⟨rfl, hc8, hm8⟩
              have hrc : runCode 10 [(⟨(k2 : Int), zeroB⟩ : Put)] = 0 := runCode_one _ (by omega) (by omega) (by decide)
              simp only [hrc, if_true, runPuts_zero] at hm8
              rw [hrc]
              have hS8 := HK.out w8 _ (ModelA (.pointer (some ⟨ba, 0, none⟩)) 10 (adel s2 (k2 : Int))) (Chg.after_up hb68 hc8) (fun k hk => hk.imp id fun h => ⟨by have := h.1; omega, h.2⟩) hm8
              have hI8 := HI2.out.1.clear
              have hln := (adel_sublist s2 (k2 : Int)).length_le
              have HLN := Lib.hid hln
              have HS8 := Lib.hid hS8
              have HI8 := Lib.hid hI8
              have HC8 := Lib.hid hc8
              have HM8 := Lib.hid hm8
              have HF := Lib.hid hF
              have HB67 := Lib.hid hb67
              have HB68 := Lib.hid hb68
              have HT := Lib.hid ht
              have HP := Lib.hid hp
              have HRC := Lib.hid hrc
              have HD7 := Lib.hid hd7
              clear hS8 hI8 hc8 hm8 hF hb67 hb68 ht hp hrc hd7
              clear hln
              go_wp2_with fail
              go_roundw
              case rel => exact ⟨k2 + 1, _, by omega, by go_num, HS8.out, HI8.out, by have := HLN.out; have := HI2.out.2; omega⟩
              case measure => simp [intOf]; omega
        · have hk10 : k2 = 10 := by omega
          subst hk10
          have hemp : (s2 = [] ∧ (blank = true ∨ (blank = false ∧ ((((l.length : Nat) : Int) == 0) = true)))) ∨ (s2 ≠ [] ∧ blank = false ∧ ((((l.length : Nat) : Int) == 0) = false)) := by
            cases blank with
            | true => exact .inl ⟨HI2.out.1.empty fun j hj => .inr (by rw [HI2.out.1.len] at hj; exact hj), .inl rfl⟩
            | false =>
              by_cases h0 : l.length = 0
              · exact .inl ⟨HI2.out.1.empty fun j hj => .inl (by have := HI.out.2.1 _ (List.getElem_mem hj); have := HKL.out; omega), .inr ⟨rfl, by rw [beq_iff_eq]; omega⟩⟩
              · obtain ⟨j, hj, hx⟩ := HI.out.2.2.1 (by have := HKL.out; omega)
                exact .inr ⟨HI2.out.1.full hj hx, rfl, by rw [beq_eq_false_iff_ne]; omega⟩
          obtain ⟨F1, F2, hF1, hF2, _⟩ := HS2'.out.two 1 2 (by decide) rfl rfl
          have h64 : ∀ x ∈ s2, I64 x.1 := fun x hx => by have := HI2.out.1.ks x hx; unfold I64; omega
          have h40 : ∀ x ∈ s2, x.2.length ≤ 1000000 := fun x hx => by
            have := HI2.out.1.l40 x.1 x.2 (alook_mem HI2.out.1.nd hx); omega
          have hsl := HI2.out.2
          have HF1 := Lib.hid hF1
          have HF2 := Lib.hid hF2
          have H64 := Lib.hid h64
          have H40 := Lib.hid h40
          have HSL := Lib.hid hsl
          clear hF1 hF2 h64 h40 hsl
          rcases hemp with ⟨rfl, hb⟩ | ⟨hne, rfl, hz⟩
          · have hcs : blank = true ∨ (blank = false ∧ ((((l.length : Nat) : Int) == 0) = true)) := hb
            clear hb
            rcases hcs with rfl | ⟨rfl, hz⟩
            all_goals
              go_wp2_with fail
              refine (modelSame_any F1 F2 _ _ 10 [] [] _ HF1.out HF2.out).mono ?_
              rintro e w4 ⟨rfl, hb4⟩
              rw [show eqM [] [] = true from rfl]
              have hF14 := HF1.out.same (HF1.out.dom.same hb4)
              have hS4 := HS2'.out.up hb4
              have HB4 := Lib.hid hb4
              have HF14 := Lib.hid hF14
              have HS4 := Lib.hid hS4
              clear hb4 hF14 hS4
              go_wp2_with fail
              refine (modelAll_any F1 _ 10 [] _ HF14.out H64.out (by simp) H40.out).mono ?_
              rintro e w5 ⟨v5, rfl, hv5, hb5⟩
              obtain ⟨p5, c5, rfl, _⟩ := hv5
              rw [show (allPuts []).length = 0 from allPuts_length []]
              have hS5 := HS4.out.up hb5
              have HB5 := Lib.hid hb5
              have HS5 := Lib.hid hS5
              clear hb5 hS5
              go_wp2_with fail
              refine (awake22 _).mono ?_
              rintro e w6 ⟨rfl, hb6⟩
              have hS6 := HS5.out.up hb6
              have HS6 := Lib.hid hS6
              clear hS6
              go_wp2
              go_ret
              exact ⟨rfl, HS6.out.old⟩
          · have hq : eqM s2 [] = false := by rw [eqM_nil, decide_eq_false hne]
            have hlz : (((s2.length : Nat) : Int) == 0) = false := by
              rw [beq_eq_false_iff_ne]
              intro e
              exact hne (List.length_eq_zero_iff.1 (by omega))
            have HQ := Lib.hid hq
            clear hq
            clear hne
            go_wp2_with fail
            refine (modelSame_any F1 F2 _ _ 10 s2 [] _ HF1.out HF2.out).mono ?_
            rintro e w4 ⟨rfl, hb4⟩
            rw [HQ.out]
            have hF14 := HF1.out.same (HF1.out.dom.same hb4)
            have hS4 := HS2'.out.up hb4
            have HB4 := Lib.hid hb4
            have HF14 := Lib.hid hF14
            have HS4 := Lib.hid hS4
            clear hb4 hF14 hS4
            go_wp2_with fail
            refine (modelAll_any F1 _ 10 s2 _ HF14.out H64.out (by have := HSL.out; omega) H40.out).mono ?_
            rintro e w5 ⟨v5, rfl, hv5, hb5⟩
            obtain ⟨p5, c5, rfl, _⟩ := hv5
            rw [allPuts_length]
            have hS5 := HS4.out.up hb5
            have HB5 := Lib.hid hb5
            have HS5 := Lib.hid hS5
            clear hb5 hS5
            go_wp2_with fail
            refine (awake22 _).mono ?_
            rintro e w6 ⟨rfl, hb6⟩
            have hS6 := HS5.out.up hb6
            have HS6 := Lib.hid hS6
            clear hS6
            go_wp2
            go_ret
            exact ⟨rfl, HS6.out.old⟩
end Go.Proofs

/- scarpref11's SamePuts: two lists of Puts, alike. -/
namespace Go.Proofs
open Go.RowKit Sc

/-- 'string(b)' reads the bytes. -/
theorem str_of {G : Nat → Prop} {w : World} {v : Value} {l : Bytes} (h : BytesAt G w v l) : (convert 35 9 v).run Try.prog w = .ok (.string ⟨l.toArray⟩) w := by
  obtain ⟨p, c, rfl, h1, h2, h3, h4⟩ := h
  cases p with
  | none =>
    have hl : l.length = 0 := by have := h3 rfl; omega
    obtain rfl : l = [] := List.length_eq_zero_iff.1 hl
    exact run_convert_bytes_nil w 35 5 Try.underlying35 Try.underlying5 0 c 9 Try.underlying9
  | some a =>
    refine run_convert_bytes_back w 35 9 5 a c l Try.underlying35 Try.underlying5 Try.underlying9 fun j hj => ?_
    obtain ⟨b, o, hp, _, he⟩ := h4 j hj
    cases hp
    unfold byteE at he
    rw [Nat.mul_one] at he
    have hadd : (⟨b, o, none⟩ : Addr).add j = ⟨b, o + j, none⟩ := by unfold Addr.add; split <;> simp_all
    rw [hadd]; exact he

def pkey (p : Put) : Int × Bytes := (p.lba, p.data)
def samePuts (a b : List Put) : Bool := a.map pkey == b.map pkey
theorem pkey_inj {p q : Put} (h : pkey p = pkey q) : p = q := by
  cases p; cases q; simp only [pkey, Prod.mk.injEq] at h; obtain ⟨rfl, rfl⟩ := h; rfl
theorem samePuts_iff {a b : List Put} : samePuts a b = true ↔ a = b := by
  unfold samePuts
  rw [beq_iff_eq]
  constructor
  · intro h
    induction a generalizing b with
    | nil => cases b with
      | nil => rfl
      | cons y t => simp at h
    | cons x t ih => cases b with
      | nil => simp at h
      | cons y u =>
        simp only [List.map_cons, List.cons.injEq] at h
        rw [pkey_inj h.1, ih h.2]
  · rintro rfl; rfl

set_option maxRecDepth 100000 in
set_option maxHeartbeats 1000000 in
theorem samePuts_any (G : Nat → Prop) (va vb : Value) (a b : List Put) (w : World) (hG : Dom G w) (ha : PutsAt G w va a) (hb : PutsAt G w vb b) :
    Calls Try.prog 30 #[va, vb] w fun e w' => e = .returned (.bool (samePuts a b)) ∧ Below w.heap.size w w' := by
  obtain ⟨pa, ca, rfl, ha1, ha2, ha3, ha4⟩ := ha
  obtain ⟨pb, cb, rfl, hb1, hb2, hb3, hb4⟩ := hb
  by_cases hlen : a.length = b.length
  case neg =>
    have hne : (((a.length : Nat) : Int) != ((b.length : Nat) : Int)) = true := by rw [bne_iff_ne]; omega
    have hs : samePuts a b = false := by
      cases h : samePuts a b with
      | false => rfl
      | true => exact absurd (congrArg List.length (samePuts_iff.1 h)) hlen
    rw [hs]
    clear ha4 hb4 ha3 hb3 hs hlen
    go_enter Try.func30, Try.ntmps30
    go_wp2
    go_ret
    exact ⟨rfl, Below.refl _ _⟩
  case pos =>
    have heq : (((a.length : Nat) : Int) != ((b.length : Nat) : Int)) = false := by rw [bne_eq_false_iff_eq]; omega
    have HA := Lib.hid ha4
    have HB := Lib.hid hb4
    have HL := Lib.hid hlen
    clear ha4 hb4 ha3 hb3 hlen
    go_enter Try.func30, Try.ntmps30
    go_wp2
    go_loopw [5] (fun i wr => ∃ k : Nat, k ≤ a.length ∧ i = .int .i64 k ∧ Below w.heap.size w wr ∧ Hid (a.take k = b.take k)) (fun i _ => a.length - (intOf i).toNat)
    case atStart => exact ⟨0, by omega, rfl, Below.refl _ _, rfl⟩
    case round =>
      obtain ⟨k, hk, rfl, hbw, HT⟩ := hrel
      by_cases hlt : k < a.length
      · have hltb : k < b.length := by rw [← HL.out]; exact hlt
        obtain ⟨g1, o1, rfl, hg1, hc1, hi1, v1, hv1, hd1⟩ := HA.out k hlt
        obtain ⟨g2, o2, rfl, hg2, hc2, hi2, v2, hv2, hd2⟩ := HB.out k hltb
        have hc1' := (hbw.cell (p := ⟨g1, o1 + k * 2, none⟩) (hG g1 hg1)).trans hc1
        have hc2' := (hbw.cell (p := ⟨g2, o2 + k * 2, none⟩) (hG g2 hg2)).trans hc2
        have hv1' := (hbw.cell (p := ⟨g1, o1 + k * 2 + 1, none⟩) (hG g1 hg1)).trans hv1
        have hv2' := (hbw.cell (p := ⟨g2, o2 + k * 2 + 1, none⟩) (hG g2 hg2)).trans hv2
        have hd1' := hd1.same (hG.same hbw)
        have hd2' := hd2.same (hG.same hbw)
        have hs1 := fun nq => str_of (BytesAt.up hd1' (below_drewN (Below.refl wr.heap.size wr) nq))
        have hs2 := fun nq => str_of (BytesAt.up hd2' (below_drewN (Below.refl wr.heap.size wr) nq))
        have hta := take_snoc a k hlt
        have htb := take_snoc b k hltb
        have HTA := Lib.hid hta
        have HTB := Lib.hid htb
        have hstep : pkey a[k] ≠ pkey b[k] → samePuts a b = false := by
          intro hne
          cases h : samePuts a b with
          | false => rfl
          | true => exfalso; apply hne; have := samePuts_iff.1 h; subst this; rfl
        generalize a[k] = x at hc1' hv1' hs1 HTA hstep hi1
        generalize b[k] = y at hc2' hv2' hs2 HTB hstep hi2
        have HSTEP := Lib.hid hstep
        obtain ⟨x1, x2⟩ := x
        obtain ⟨y1, y2⟩ := y
        simp only at hc1' hc2' hs1 hs2
        clear hta htb hc1 hc2 hv1 hv2 hd1 hd2 hd1' hd2' hstep hi1 hi2
        by_cases h1 : x1 = y1
        · subst h1
          by_cases h2 : x2 = y2
          · subst h2
            have e1 : (x1 != x1) = false := by simp
            go_wp2
            go_quiet (fail)
            go_wp2
            go_roundw
            case rel => exact ⟨k + 1, by omega, by go_num, below_drewN hbw _, by unfold Hid; rw [HTA.out, HTB.out, HT.out]⟩
            case measure => simp [intOf]; omega
          · have e1 : (x1 != x1) = false := by simp
            have e2 : (x2 == y2) = false := by rw [beq_eq_false_iff_ne]; exact h2
            have H2 := Lib.hid h2
            clear h2
            go_wp2
            go_quiet (fail)
            go_wp2
            go_ret
            refine ⟨?_, below_drewN hbw _⟩
            exact congrArg boolRet (HSTEP.out (fun h => H2.out (by simpa [pkey] using h))).symm
        · have e1 : (x1 != y1) = true := by rw [bne_iff_ne]; exact h1
          have H1 := Lib.hid h1
          clear h1
          go_wp2
          go_quiet (fail)
          go_wp2
          go_ret
          refine ⟨?_, below_drewN hbw _⟩
          exact congrArg boolRet (HSTEP.out (fun h => H1.out (by simp only [pkey, Prod.mk.injEq] at h; exact h.1))).symm
      · have HK := Lib.hid (show k = a.length by omega)
        go_wp2
        go_ret
        refine ⟨?_, hbw⟩
        have : samePuts a b = true := by
          rw [samePuts_iff]
          have h := HT.out
          rw [HK.out, List.take_length, HL.out, List.take_length] at h
          exact h
        exact congrArg boolRet this.symm
end Go.Proofs

/- ModelRuns: whatever is run, one behind the other, each is done, or refused, and the blocks are, as the document says: for every input the law returns true. -/
namespace Go.Proofs
open Go.RowKit Sc

theorem modelNew_no (n : Int) (w : World) (h : n < 1) : Calls Try.prog 18 #[.int .i64 n] w fun e w' => e = .returned (.tuple #[.pointer none, .int .i64 1]) ∧ w = w' := by
  go_enter Try.func18, Try.ntmps18
  go_wp2
  go_ret2
  exact ⟨rfl, rfl⟩

set_option maxRecDepth 100000 in
set_option maxHeartbeats 2000000 in
theorem runs_any (blocks lba : Int) (vl : Value) (l : List Tx) (w : World) (hl : TxsAt (Old w) w vl l) :
    Calls Try.prog 6 #[.int .i64 blocks, vl, .int .i64 lba] w (Tru w) := by
  have HL := Lib.hid hl
  obtain ⟨lp, lc, rfl, hll, hlc, _, _⟩ := hl
  go_enter Try.func6, Try.ntmps6
  go_wp2_with fail
  refine (small22_any (Old w) _ l _ (fun k hk => hk) HL.out).mono ?_
  rintro e w1 ⟨q, rfl, hq, hb1⟩
  have hS1 := (Sep.start w).up hb1
  have HQ := Lib.hid hq
  have HB1 := Lib.hid hb1
  have HS1 := Lib.hid hS1
  clear hq hb1 hS1
  cases q with
  | false =>
    go_wp2_with fail
    refine (awake22 _).mono ?_
    rintro e w2 ⟨rfl, hb2⟩
    have hS2 := HS1.out.up hb2
    have HS2 := Lib.hid hS2
    have HB2 := Lib.hid hb2
    clear hS2 hb2
    go_wp2
    go_ret
    exact ⟨rfl, HS2.out.old⟩
  | true =>
    by_cases h2000 : blocks ≤ 2000
    case neg =>
      have h2000' : 2000 < blocks := by omega
      go_wp2_with fail
      refine (awake22 _).mono ?_
      rintro e w2 ⟨rfl, hb2⟩
      have hS2 := HS1.out.up hb2
      have HS2 := Lib.hid hS2
      have HB2 := Lib.hid hb2
      clear hS2 hb2
      go_wp2
      go_ret
      exact ⟨rfl, HS2.out.old⟩
    case pos =>
      by_cases h1 : blocks < 1
      case pos =>
        go_wp2_with fail
        refine (modelNew_no blocks _ h1).mono ?_
        rintro e w2 ⟨rfl, rfl⟩
        go_wp2_with fail
        refine (refNew_no blocks _ h1).mono ?_
        rintro e w2 ⟨rfl, rfl⟩
        go_wp2_with fail
        refine (awake22 _).mono ?_
        rintro e w2 ⟨rfl, hb2⟩
        have hS2 := HS1.out.up hb2
        have HS2 := Lib.hid hS2
        have HB2 := Lib.hid hb2
        clear hS2 hb2
        go_wp2
        go_ret
        exact ⟨rfl, HS2.out.old⟩
      case neg =>
        obtain ⟨n, rfl⟩ := Int.eq_ofNat_of_zero_le (show 0 ≤ blocks by omega)
        have hn1 : 1 ≤ n := by omega
        have hn2 : n ≤ 2000 := by omega
        go_wp2_with fail
        refine (modelNew_any (n : Int) _ (by omega) (by omega)).mono ?_
        rintro e w2 ⟨vm, rfl, hm, hb2⟩
        have hS2 := HS1.out.new hb2 (ModelA vm n []) (fun _ h => h) hm
        obtain ⟨⟨bm, rm, mlm, rfl, _⟩, _⟩ := hm
        have HS2 := Lib.hid hS2
        have HB2 := Lib.hid hb2
        clear hS2 hb2
        go_wp2_with fail
        refine (refNew_any n _ (by omega) (by omega)).mono ?_
        rintro e w3 ⟨vx, rfl, hx, hb3⟩
        have hS3 := HS2.out.new hb3 (RefA vx (List.replicate n [])) (fun _ h => h) hx
        obtain ⟨bx, gx, cx, vsx, rfl, _⟩ := hx
        have HS3 := Lib.hid hS3
        have HB3 := Lib.hid hb3
        clear hS3 hb3
        clear h1
        go_wp2_with fail
        go_loopw [11] (fun i wr => ∃ k : Nat, ∃ s ls, k ≤ l.length ∧ i = .int .i64 k ∧ Hid (Sep w [OldA w, ModelA (.pointer (some ⟨bm, 0, none⟩)) n s, RefA (.pointer (some ⟨bx, 0, none⟩)) ls] wr) ∧ Hid (RelM n s ls)) (fun i _ => l.length - (intOf i).toNat)
        case atStart => exact ⟨0, [], _, by omega, rfl, HS3.out, RelM.start n⟩
        case round =>
          obtain ⟨k, s, ls, hk, rfl, HS, HR⟩ := hrel
          by_cases hlt : k < l.length
          · obtain ⟨p, c, hv, g1, g2, g3, g4⟩ := HL.out.up HS.out.old
            cases hv
            obtain ⟨b, o, rfl, hgb, he⟩ := g4 k hlt
            obtain ⟨qv, he0, he1, het, hone⟩ := txE_txAt he
            generalize l[k] = x at he0 he1 het
            have HET := Lib.hid het
            clear het
            clear he g3 g4
            have hSd := HS.out.up (w' := wr.drew) (below_drewN (Below.refl _ _) 1)
            obtain ⟨F, G, hF, hR, hFG, hdF, hdG, K⟩ := hSd.at 1 rfl
            obtain ⟨F0, hF0, hO⟩ := hR 0 _ (by decide) rfl
            have hO1 := hO.1
            have hlen := HR.out.len
            have hle : ls.length ≤ 1000000 := by omega
            have hcc : ((runCode n x.puts) != (runCode n x.puts)) = false := by simp
            have hetd : TxAt G wr.drew (.agg #[.int .i64 x.time, qv]) x := (HET.out.mono fun q hq => hF0 q (hO1 q hq)).same (fun _ _ => rfl)
            have H2 : ∀ w4, Sep w [OldA w, ModelA (.pointer (some ⟨bm, 0, none⟩)) n (runNext n s x.puts), RefA (.pointer (some ⟨bx, 0, none⟩)) ls] w4 → TxAt (Old w) w4 (.agg #[.int .i64 x.time, qv]) x →
                Calls Try.prog 28 #[.pointer (some ⟨bx, 0, none⟩), .agg #[.int .i64 x.time, qv]] w4 fun e w5 => e = .returned (.int .i64 (runCode n x.puts)) ∧ Sep w [OldA w, ModelA (.pointer (some ⟨bm, 0, none⟩)) n (runNext n s x.puts), RefA (.pointer (some ⟨bx, 0, none⟩)) (refNext ls x.puts)] w5 := by
              intro w4 hS4 het4
              obtain ⟨F, G, hF, hR, hFG, hdF, hdG, K⟩ := hS4.at 2 rfl
              obtain ⟨F0, hF0, hO⟩ := hR 0 _ (by decide) rfl
              have hO1 := hO.1
              refine (refRun_any F G _ _ ls x _ hF hdF hle (het4.mono fun q hq => hF0 q (hO1 q hq)) hdG hFG).mono ?_
              rintro e w5 ⟨rfl, hc5, hm5⟩
              exact ⟨by rw [hlen], K w5 _ (RefA (.pointer (some ⟨bx, 0, none⟩)) (refNext ls x.puts)) hc5 (fun k hk => hk) hm5⟩
            have H1 : Calls Try.prog 19 #[.pointer (some ⟨bm, 0, none⟩), .agg #[.int .i64 x.time, qv]] wr.drew fun e w4 => e = .returned (.int .i64 (runCode n x.puts)) ∧ Sep w [OldA w, ModelA (.pointer (some ⟨bm, 0, none⟩)) n (runNext n s x.puts), RefA (.pointer (some ⟨bx, 0, none⟩)) ls] w4 ∧
                TxAt (Old w) w4 (.agg #[.int .i64 x.time, qv]) x ∧ w4.cell? ⟨b, o + k * 2, none⟩ = some (.int .i64 x.time) ∧ w4.cell? ⟨b, o + k * 2 + 1, none⟩ = some qv := by
              refine (modelRun_any F G _ _ n s x _ (by omega) hF hetd hdG hFG).mono ?_
              rintro e w4 ⟨rfl, hc4, hm4⟩
              have hS4 := K w4 _ (ModelA (.pointer (some ⟨bm, 0, none⟩)) n (runNext n s x.puts)) hc4 (fun k hk => hk) hm4
              have hb4 := hS4.old
              exact ⟨rfl, hS4, HET.out.same (fun q hq => (hb4.block q hq).trans ((HS.out.old).block q hq).symm), (hb4.cell (p := ⟨b, o + k * 2, none⟩) hgb).trans (((HS.out.old).cell (p := ⟨b, o + k * 2, none⟩) hgb).symm.trans he0), (hb4.cell (p := ⟨b, o + k * 2 + 1, none⟩) hgb).trans (((HS.out.old).cell (p := ⟨b, o + k * 2 + 1, none⟩) hgb).symm.trans he1)⟩
            have HH1 := Lib.hid H1
            have HH2 := Lib.hid H2
            have hR5 := HR.out.run x.puts
            have k0 : (0 : Int) ≤ (k : Int) := by omega
            have k1 : (k : Int) < (l.length : Int) := by omega
            have HR5 := Lib.hid hR5
            clear hR5
            clear H1 H2 K hR hF hetd hO hSd hlen hFG hdF hdG hF0 hO1
            go_wp2_with fail
            go_region_held3 (fun W => W.cell? ⟨b, o + k * 2, none⟩ = some (.int .i64 x.time) ∧ W.cell? ⟨b, o + k * 2 + 1, none⟩ = some qv)
              (first
                | go_keep
                | (go_split_ands
                   exact ⟨by assumption, by assumption⟩)
                | (go_split_ands
                   exact ⟨(hS5.old.cell (p := ⟨b, o + k * 2, none⟩) hgb).trans (((HS.out.old).cell (p := ⟨b, o + k * 2, none⟩) hgb).symm.trans he0), (hS5.old.cell (p := ⟨b, o + k * 2 + 1, none⟩) hgb).trans (((HS.out.old).cell (p := ⟨b, o + k * 2 + 1, none⟩) hgb).symm.trans he1)⟩))
              ((first
                | (go_at_call 19; refine (HH1.out).mono ?_; rintro e w4 ⟨rfl, hS4, het4, hq0, hq1⟩)
                | (go_at_call 28; refine (HH2.out _ hS4 het4).mono ?_; rintro e w5 ⟨rfl, hS5⟩)))
            have HS5 := Lib.hid hS5
            clear hS5 hS4 het4
            go_wp2_with fail
            go_roundw
            case rel => exact ⟨k + 1, _, _, by omega, by go_num, HS5.out, HR5.out⟩
            case measure => simp [intOf]; omega
          · have hget : ∃ ad bd : Bytes, ∃ c : Int, ad = bd ∧ (∀ F w1, ModelIs F w1 (.pointer (some ⟨bm, 0, none⟩)) n s → Calls Try.prog 21 #[.pointer (some ⟨bm, 0, none⟩), .int .i64 lba] w1 fun e w2 => ∃ v, e = .returned (.tuple #[v, .int .i64 c]) ∧ BytesAt (Old w2) w2 v ad ∧ Below w1.heap.size w1 w2) ∧
                (∀ F w1, Dom F w1 → RefIs F w1 (.pointer (some ⟨bx, 0, none⟩)) ls → Calls Try.prog 29 #[.pointer (some ⟨bx, 0, none⟩), .int .i64 lba] w1 fun e w2 => ∃ v, e = .returned (.tuple #[v, .int .i64 c]) ∧ BytesAt (Old w2) w2 v bd ∧ Below w1.heap.size w1 w2) := by
              by_cases hin : 0 ≤ lba ∧ lba < n
              · obtain ⟨k2, rfl⟩ := Int.eq_ofNat_of_zero_le hin.1
                refine ⟨_, _, 0, HR.out.get (k := k2) (by omega), fun F w1 hm => ?_, fun F w1 hd hm => ?_⟩
                · refine (modelGet_any F _ n _ s _ hm HR.out.len40).mono ?_
                  rintro e w2 (⟨hno, _⟩ | ⟨_, v, rfl, hv, hb⟩)
                  · exact absurd hno (by simp [blk]; omega)
                  · exact ⟨v, rfl, hv.mono fun q hq => hq.2, hb⟩
                · refine (refGet_any F _ ls _ _ hm (by have := HR.out.len; omega)).mono ?_
                  rintro e w2 (⟨hno, _⟩ | ⟨_, v, rfl, hv, hb⟩)
                  · have := HR.out.len; omega
                  · exact ⟨v, rfl, hv.mono fun q hq => hq.elim (fun h => Nat.lt_of_lt_of_le (hd q h) hb.size) (fun h => h.2), hb⟩
              · refine ⟨[], [], 2, rfl, fun F w1 hm => ?_, fun F w1 hd hm => ?_⟩
                · refine (modelGet_any F _ n _ s _ hm HR.out.len40).mono ?_
                  rintro e w2 (⟨_, rfl, hb⟩ | ⟨hyes, _⟩)
                  · exact ⟨_, rfl, SlAt.nil, hb⟩
                  · simp [blk] at hyes; omega
                · refine (refGet_any F _ ls _ _ hm (by have := HR.out.len; omega)).mono ?_
                  rintro e w2 (⟨_, rfl, rfl⟩ | ⟨hyes, _⟩)
                  · exact ⟨_, rfl, SlAt.nil, Below.refl _ _⟩
                  · have := HR.out.len; omega
            obtain ⟨ad, bd, c, rfl, hg1, hg2⟩ := hget
            have HG1 := Lib.hid hg1
            have HG2 := Lib.hid hg2
            clear hg1 hg2
            obtain ⟨F1, hF1, _⟩ := HS.out.get 1 rfl
            go_wp2_with fail
            refine (HG1.out F1 _ hF1).mono ?_
            rintro e w4 ⟨va, rfl, hva, hb4⟩
            have hS4 := HS.out.up hb4
            have HVA := Lib.hid hva
            have HB4 := Lib.hid hb4
            have HS4 := Lib.hid hS4
            clear hva hb4 hS4
            clear hF1
            obtain ⟨F2, hF2, hD2⟩ := HS4.out.get 2 rfl
            go_wp2_with fail
            refine (HG2.out F2 _ hD2 hF2).mono ?_
            rintro e w5 ⟨vb, rfl, hvb, hb5⟩
            have hS5 := HS4.out.up hb5
            have HVB := Lib.hid hvb
            have HB5 := Lib.hid hb5
            have HS5 := Lib.hid hS5
            clear hvb hb5 hS5
            clear hF2 hD2
            obtain ⟨F1, hF1, hD1⟩ := HS5.out.get 1 rfl
            go_wp2_with fail
            refine (modelAll_any F1 _ n s _ hF1 (HR.out.i64 (by omega)) (by have := HR.out.small; omega) HR.out.small40).mono ?_
            rintro e w6 ⟨v6, rfl, hv6, hb6⟩
            have hS6 := HS5.out.up hb6
            rw [HR.out.all] at hv6
            have HV6 := Lib.hid hv6
            have HB6 := Lib.hid hb6
            have HS6 := Lib.hid hS6
            clear hv6 hb6 hS6
            clear hF1 hD1
            obtain ⟨F2, hF2, hD2⟩ := HS6.out.get 2 rfl
            go_wp2_with fail
            refine (refAll_any F2 _ ls _ hF2 hD2 (by have := HR.out.len; omega)).mono ?_
            rintro e w7 ⟨v7, rfl, hv7, hb7⟩
            have hS7 := HS6.out.up hb7
            have HV7 := Lib.hid hv7
            have HB7 := Lib.hid hb7
            have HS7 := Lib.hid hS7
            clear hv7 hb7 hS7
            clear hF2 hD2
            go_wp2_with fail
            refine (samePuts_any (Old w7) _ _ (refAllTo ls ls.length) (refAllTo ls ls.length) _ (fun k hk => hk) ((HV6.out.up HB7.out).mono fun q hq => Nat.lt_of_lt_of_le hq.2 HB7.out.size) HV7.out).mono ?_
            rintro e w8 ⟨rfl, hb8⟩
            rw [samePuts_iff.2 rfl]
            have hS8 := HS7.out.up hb8
            have hb58 := Below.up HB6.out (Below.up HB7.out hb8)
            have HB8 := Lib.hid hb8
            have HS8 := Lib.hid hS8
            have HB58 := Lib.hid hb58
            clear hb8 hS8 hb58
            go_wp2_with fail
            refine (bytes_any (fun _ => True) _ _ ad ad _ (BytesAt.mono (HVA.out.up (Below.up HB5.out HB58.out)) fun _ _ => trivial) (BytesAt.mono (HVB.out.up HB58.out) fun _ _ => trivial)).mono ?_
            rintro e w9 ⟨rfl, hb9⟩
            rw [show (ad == ad) = true by simp]
            have hS9 := HS8.out.up hb9
            have hcc : (c == c) = true := by simp
            have HB9 := Lib.hid hb9
            have HS9 := Lib.hid hS9
            clear hb9 hS9
            obtain ⟨F1, hF1, _⟩ := HS9.out.get 1 rfl
            have heq := eqM_refl (ModelIs.nodup hF1)
            have HEQ := Lib.hid heq
            clear heq
            go_wp2_with fail
            refine (modelSame_any F1 F1 _ _ n s s _ hF1 hF1).mono ?_
            rintro e w10 ⟨rfl, hb10⟩
            rw [HEQ.out]
            have hS10 := HS9.out.up hb10
            have HB10 := Lib.hid hb10
            have HS10 := Lib.hid hS10
            clear hb10 hS10
            clear hF1
            go_wp2_with fail
            refine (awake22 _).mono ?_
            rintro e w11 ⟨rfl, hb11⟩
            have hS11 := HS10.out.up hb11
            have HB11 := Lib.hid hb11
            have HS11 := Lib.hid hS11
            clear hb11 hS11
            go_wp2
            go_ret
            exact ⟨rfl, HS11.out.old⟩
end Go.Proofs

/- scarpref20.Replay: what the document's blocks are behind all that was committed. -/
namespace Go.Proofs
open Go.RowKit Sc

def IntsA (v : Value) (l : List Int) : Asn := ⟨fun F w => IntsAt F w v l, fun _ _ _ hs _ h => h.same hs⟩
def RefReplaySaid (n : Nat) (l : List Hist) (w : World) (e : Ending) (w' : World) : Prop :=
  Below w.heap.size w w' ∧
  ((replayCode n (ordP l) = 0 ∧ ∃ v, e = .returned (.tuple #[v, .int .i64 0]) ∧ RefIs (New w w') w' v (refAll (List.replicate n []) (ordP l))) ∨
   (replayCode n (ordP l) ≠ 0 ∧ e = .returned (.tuple #[.pointer none, .int .i64 (replayCode n (ordP l))])))
/-- What an object of its own, made behind w, lies in. -/
theorem Sep.fresh {W w : World} {L : List Asn} (h : Sep W (OldA W :: L) w) (i : Nat) {A : Asn} (hi : L[i]? = some A) : ∃ F, A.P F w ∧ ∀ k, F k → New W w k := by
  obtain ⟨F, G, h1, h2, hd, hF, _⟩ := h.two (i + 1) 0 (by omega) (A := A) (B := OldA W) hi rfl
  refine ⟨F, h1, fun k hk => ⟨?_, hF k hk⟩⟩
  rcases Nat.lt_or_ge k W.heap.size with hh | hh
  · exact absurd (h2.1 k hh) (hd k hk)
  · exact hh
theorem RefIs.wide {F F' : Nat → Prop} {w : World} {v : Value} {ls : List Bytes} (h : RefIs F w v ls) (hg : ∀ k, F k → F' k) : RefIs F' w v ls := h.mono hg
theorem refReplay_no (n : Int) (v : Value) (w : World) (h : n < 1) : Calls Try.prog 32 #[.int .i64 n, v] w fun e w' => e = .returned (.tuple #[.pointer none, .int .i64 1]) ∧ Below w.heap.size w w' := by
  go_enter Try.func32, Try.ntmps32
  go_wp2_with fail
  refine (refNew_no n _ h).mono ?_
  rintro e w1 ⟨rfl, rfl⟩
  go_wp2
  go_ret2
  exact ⟨rfl, Below.refl _ _⟩
set_option maxRecDepth 100000 in
set_option maxHeartbeats 4000000 in
theorem refReplay_any (G : Nat → Prop) (n : Nat) (v : Value) (l : List Hist) (w : World) (h1 : 1 ≤ n) (h2 : n ≤ 1000000) (hG : Dom G w) (hv : HistsAt G w v l) (hl : l.length ≤ 1000) :
    Calls Try.prog 32 #[.int .i64 n, v] w (RefReplaySaid n l w) := by
  have hv' := hv
  obtain ⟨p, c, rfl, _⟩ := hv
  obtain ⟨b, o, hC⟩ := SlAt.one (E := histE G) (k := 7) hv'
  have hOl : ∀ k, G k → k < w.heap.size := hG
  have HV := Lib.hid hv'
  have HC := Lib.hid hC
  have HG := Lib.hid hOl
  clear hv' hC hOl hG
  go_enter Try.func32, Try.ntmps32
  go_wp2_with fail
  refine (refNew_any n _ h1 h2).mono ?_
  rintro e w1 ⟨vx, rfl, hx, hb1⟩
  have hS1 := (Sep.start w).new hb1 (RefA vx (List.replicate n [])) (fun _ h => h) hx
  obtain ⟨bx, gx, cx, vsx, rfl, _⟩ := hx
  have HV1 := Lib.hid (HistsAt.up HV.out hb1)
  have HS1 := Lib.hid hS1
  have HB1 := Lib.hid hb1
  clear hS1 hb1
  go_wp2_with fail
  refine (refOrder_any G _ l _ HV1.out hl).mono ?_
  rintro e w2 ⟨vo, rfl, hvo, hb2⟩
  have hS2 := (HS1.out).new hb2 (IntsA vo ((ordI l).map fun i : Nat => (i : Int))) (fun _ h => h) hvo
  obtain ⟨op, oc, rfl, ho1, ho2, _⟩ := hvo
  rw [List.length_map] at ho1
  rw [List.length_map] at hS2 ⊢
  have hol := ordI_len l
  have hpl := ordP_len l
  have HS2 := Lib.hid hS2
  have HB2 := Lib.hid hb2
  clear hS2 hb2
  go_wp2_with fail
  go_loopw [9] (fun i wr => ∃ k : Nat, k ≤ (ordI l).length ∧ i = .int .i64 k ∧ Hid (∀ p ∈ (ordP l).take k, runCode n p = 0) ∧ Hid (Sep w [OldA w, RefA (.pointer (some ⟨bx, 0, none⟩)) (refAll (List.replicate n []) ((ordP l).take k)), IntsA (.slice op (ordI l).length oc) ((ordI l).map fun i : Nat => (i : Int))] wr)) (fun i _ => (ordI l).length - (intOf i).toNat)
  case atStart => exact ⟨0, Nat.zero_le _, rfl, by unfold Hid; simp, HS2.out⟩
  case round =>
    obtain ⟨k, hk, rfl, HR, HS⟩ := hrel
    by_cases hlt : k < (ordI l).length
    case neg =>
      have hkl : k = (ordP l).length := by omega
      go_wp2
      go_ret2
      have hr := HR.out
      obtain ⟨F, hF, hN⟩ := Sep.fresh HS.out 0 rfl
      rw [hkl, List.take_length] at hr hF
      exact ⟨HS.out.old, Or.inl ⟨replay_ok.2 hr, _, rfl, hF.wide hN⟩⟩
    case pos =>
      obtain ⟨hxl, hpk, hpe⟩ := ordP_get hlt
      obtain ⟨F2, hF2, _⟩ := HS.out.get 2 rfl
      obtain ⟨p2, c2, he2, _, _, _, h24⟩ := hF2
      rw [List.length_map] at he2
      cases he2
      obtain ⟨ob, oo, rfl, _, hoc, _⟩ := h24 k (by rw [List.length_map]; exact hlt)
      rw [List.getElem_map, Nat.mul_one] at hoc
      obtain ⟨rfl, hGb, _, _, _, _, _, _, _, pv, hc6, hpd⟩ := HC.out _ hxl
      replace hc6 := cell_up HS.out.old hc6
      replace hpd := PutsAt.up hpd HS.out.old
      have htk := take_snoc (ordP l) k hpk
      rw [hpe] at htk
      have hdr := List.drop_eq_getElem_cons hpk
      rw [hpe] at hdr
      have hrd := replay_drop HR.out
      rw [hdr] at hrd
      have hpd0 := hpd
      obtain ⟨pp, pcx, rfl, hp1, hp2, hp3, hp4⟩ := hpd0
      clear hp1 hp2 hp3 hp4
      generalize l[(ordI l)[k]].puts = ps at *
      generalize (ordI l)[k] = x at *
      obtain ⟨F, G1, hF, hR, hFG, hdF, hdG, K⟩ := HS.out.at 1 rfl
      obtain ⟨F0, hF0, hO⟩ := hR 0 _ (by decide) rfl
      have hO1 := hO.1
      have hlen : (refAll (List.replicate n []) ((ordP l).take k)).length = n := by rw [refAll_len, List.length_replicate]
      have htx : TxAt G1 wr (.agg #[.int .i64 0, .slice pp ps.length pcx]) ⟨0, ps⟩ := ⟨_, rfl, i64_zero, hpd.mono fun q hq => hF0 q (hO1 q (HG.out q hq))⟩
      have hrun := refRun_any F G1 _ _ _ ⟨0, ps⟩ _ hF hdF (by rw [hlen]; exact h2) htx hdG hFG
      have HK := Lib.hid K
      have hxz : (x : Int) < (l.length : Int) := by omega
      have HRUN := Lib.hid hrun
      have HLEN := Lib.hid hlen
      have HTK := Lib.hid htk
      have HRD := Lib.hid hrd
      clear hrun hlen htk hrd
      clear K hR hF hO hpd htx hFG hdF hdG hF0 hO1 hdr hpe hpk h24
      by_cases hcode : runCode n ps = 0
      · go_wp2_with fail
        refine (HRUN.out).mono ?_
        rintro e w4 ⟨rfl, hc4, hm4⟩
        rw [HLEN.out] at hm4 ⊢
        rw [hcode] at hm4 ⊢
        rw [if_pos rfl] at hm4
        have hS4 := HK.out w4 _ (RefA (.pointer (some ⟨bx, 0, none⟩)) (refPuts (refAll (List.replicate n []) ((ordP l).take k)) ps)) hc4 (fun k hk => hk) hm4
        rw [← refAll_snoc, ← HTK.out] at hS4
        have HR4 : Hid (∀ p ∈ (ordP l).take (k + 1), runCode n p = 0) := fun q hq => by
          rw [HTK.out] at hq
          rcases List.mem_append.1 hq with h | h
          · exact HR.out q h
          · rw [List.mem_singleton] at h; rw [h]; exact hcode
        have HS4 := Lib.hid hS4
        clear hS4
        clear hc4 hm4
        go_wp2_with fail
        go_roundw
        case rel => exact ⟨k + 1, by omega, by go_num, HR4, HS4.out⟩
        case measure => simp [intOf]; omega
      · have hrc : replayCode n (ordP l) = runCode n ps := by rw [HRD.out]; unfold replayCode; rw [if_neg hcode]
        have hcz : (runCode n ps != 0) = true := by rw [bne_iff_ne]; exact hcode
        go_wp2_with fail
        refine (HRUN.out).mono ?_
        rintro e w4 ⟨rfl, hc4, hm4⟩
        rw [HLEN.out] at hm4 ⊢
        have hS4 := HK.out w4 _ TrueA hc4 (fun k hk => hk) trivial
        have HS4 := Lib.hid hS4
        have HRC := Lib.hid hrc
        clear hS4 hrc
        clear hc4 hm4
        go_wp2
        go_ret2
        exact ⟨HS4.out.old, Or.inr ⟨by rw [HRC.out]; exact hcode, by rw [HRC.out]; rfl⟩⟩
end Go.Proofs

/- Package model: Replay. -/
namespace Go.Proofs
open Go.RowKit Sc Go.Sort

theorem infoHist : (Try.prog.info? 45).map (fun i => (i.zero, i.size, i.bytes)) = some (some (.agg #[.int .i64 0, .int .i64 0, .int .i64 0, .int .i64 0, .int .i64 0, .slice none 0 0, .slice none 0 0]), 7, 88) := by kernel_rfl
theorem insNoneH (c : Nat) (fv : Value) (w : World) : Calls Try.prog 83 #[.slice none 0 c, .int .i64 0, .int .i64 0, fv] w fun e w' => e = .returned (.tuple #[]) ∧ w = w' := by
  go_enter Try.func83, Try.ntmps83
  go_wp2
  go_loop [8] (fun i => i = .int .i64 1) (fun _ => 0)
  case atStart => rfl
  case round =>
    subst hrel
    go_wp2
    go_end0
    exact ⟨rfl, rfl⟩
theorem stableNoneH (c : Nat) (fv : Value) (w : World) : Calls Try.prog 67 #[.slice none 0 c, .int .i64 0, fv] w fun e w' => e = .returned (.tuple #[]) ∧ w = w' := by
  go_enter Try.func67, Try.ntmps67
  go_wp2_with fail
  go_loop [7, 8] (fun i j => i = .int .i64 0 ∧ j = .int .i64 20) (fun _ _ => 0)
  case atStart => exact ⟨rfl, rfl⟩
  case round =>
    obtain ⟨rfl, rfl⟩ := hrel
    go_wp2_with fail
    refine (insNoneH c fv _).mono ?_
    rintro e w1 ⟨rfl, rfl⟩
    go_wp2_with fail
    go_loop [6] (fun i => i = .int .i64 20) (fun _ => 0)
    case atStart => rfl
    case round =>
      subst hrel
      go_wp2
      go_end0
      exact ⟨rfl, rfl⟩
theorem sortNoneH (c : Nat) (fv : Value) (w : World) : Calls Try.prog 48 #[.slice none 0 c, fv] w fun e w' => e = .returned (.tuple #[]) ∧ w = w' := by
  go_enter Try.func48, Try.ntmps48
  go_wp2_with fail
  refine (stableNoneH c fv _).mono ?_
  rintro e w1 ⟨rfl, rfl⟩
  go_wp2
  go_end0
  exact ⟨rfl, rfl⟩
def ReplaySaid (n : Nat) (l : List Hist) (w : World) (e : Ending) (w' : World) : Prop :=
  Below w.heap.size w w' ∧
  ((replayCode n (ordP l) = 0 ∧ ∃ v, e = .returned (.tuple #[v, .int .i64 0]) ∧ ModelIs (New w w') w' v n (runAll [] (ordP l))) ∨
   (replayCode n (ordP l) ≠ 0 ∧ e = .returned (.tuple #[.pointer none, .int .i64 (replayCode n (ordP l))])))
theorem replay_no (n : Int) (v : Value) (w : World) (h : n < 1) : Calls Try.prog 24 #[.int .i64 n, v] w fun e w' => e = .returned (.tuple #[.pointer none, .int .i64 1]) ∧ Below w.heap.size w w' := by
  go_enter Try.func24, Try.ntmps24
  go_wp2_with fail
  try (go_step3; go_wp2_with fail)
  refine (modelNew_no n _ h).mono ?_
  rintro e w1 ⟨rfl, rfl⟩
  go_wp2
  try rw [Exit.noGoto_ret]
  go_ret2
  exact ⟨rfl, Below.refl _ _⟩
theorem ModelIs.wide {F F' : Nat → Prop} {w : World} {v : Value} {n : Int} {s : List (Int × Bytes)} (h : ModelIs F w v n s) (hg : ∀ k, F k → F' k) (hd : Dom F' w) : ModelIs F' w v n s := by
  obtain ⟨⟨b, r, ml, h1, h2, h3, h4, h5, h6⟩, _⟩ := h
  exact ⟨⟨b, r, ml, h1, hg _ h2, hg _ h3, h4, h5, h6.imp fun _ _ h => h.mono hg⟩, hd⟩
theorem ordI_len' (l : List Hist) : (ordI l).length = (ordIdx l).length := (List.mergeSort_perm _ _).length_eq
theorem pts_shape {G : Nat → Prop} {w : World} {v : Value} {l : List Put} (h : PutsAt G w v l) : ∃ p c, v = .slice p l.length c := by
  obtain ⟨p, c, h, _⟩ := h; exact ⟨p, c, h⟩
theorem holdsK_cell {w : World} {g : Nat} {d : Array HC} (h : HoldsK encH 7 w g 0 d) (j : Nat) (hj : j < d.size) (t : Nat) (ht : t < 7) : w.cell? ⟨g, j * 7 + t, none⟩ = (encH d[j])[t]? := by
  have hlt : j * 7 + t < d.size * 7 := by omega
  have hz : j * 7 + t < (flatK encH 7 d).size := by rw [size_flatK]; exact hlt
  have h1 := (h (j * 7 + t) hz).1
  rw [Nat.zero_add, get_flatK _ _ _ _ hlt] at h1
  rw [h1]
  have e1 : (j * 7 + t) / 7 = j := by omega
  have e2 : (j * 7 + t) % 7 = t := by omega
  rw [e1, e2, getElem!_pos d j hj, List.getElem?_eq_getElem (show t < (encH d[j]).length from ht), getElem!_pos (encH d[j]) t (show t < (encH d[j]).length from ht)]
  rfl
theorem holdsK_cells {w : World} {g : Nat} {d : Array HC} (h : HoldsK encH 7 w g 0 d) (j : Nat) (hj : j < d.size) :
    w.cell? ⟨g, j * 7, none⟩ = some (.int .i64 d[j].st) ∧ w.cell? ⟨g, j * 7 + 1, none⟩ = some (.int .i64 d[j].bg) ∧ w.cell? ⟨g, j * 7 + 2, none⟩ = some (.int .i64 d[j].tm) ∧ w.cell? ⟨g, j * 7 + 3, none⟩ = some (.int .i64 d[j].fr) ∧ w.cell? ⟨g, j * 7 + 4, none⟩ = some (.int .i64 d[j].up) ∧
    w.cell? ⟨g, j * 7 + 5, none⟩ = some (.slice d[j].rp d[j].rn d[j].rc) ∧ w.cell? ⟨g, j * 7 + 6, none⟩ = some (.slice d[j].pp d[j].pn d[j].pc) :=
  ⟨holdsK_cell h j hj 0 (by omega), holdsK_cell h j hj 1 (by omega), holdsK_cell h j hj 2 (by omega), holdsK_cell h j hj 3 (by omega), holdsK_cell h j hj 4 (by omega), holdsK_cell h j hj 5 (by omega), holdsK_cell h j hj 6 (by omega)⟩
set_option maxRecDepth 100000 in
set_option maxHeartbeats 8000000 in
theorem replay_any (G : Nat → Prop) (n : Nat) (v : Value) (l : List Hist) (w : World) (h1 : 1 ≤ n) (h2 : n ≤ 1000000) (hG : Dom G w) (hv : HistsAt G w v l) (hl : l.length ≤ 1000) :
    Calls Try.prog 24 #[.int .i64 n, v] w (ReplaySaid n l w) := by
  have hv' := hv
  obtain ⟨p, c, rfl, hl1, hl2, _⟩ := hv
  obtain ⟨b, o, hC⟩ := SlAt.one (E := histE G) (k := 7) hv'
  have hOl : ∀ k, G k → k < w.heap.size := hG
  have HCE := Lib.hid hC
  have HG := Lib.hid hOl
  clear hv' hC hOl hG
  go_enter Try.func24, Try.ntmps24
  go_wp2_with fail
  try (go_step3; go_wp2_with fail)
  refine (modelNew_any (n : Int) _ (by omega) (by omega)).mono ?_
  rintro e w1 ⟨vm, rfl, hm, hb1⟩
  have hS1 := ((Sep.start w).new hb1 (ModelA vm n []) (fun _ h => h) hm).new (Below.refl _ _) (RowA 45 7 (.slice none 0 0) 0 []) (F := fun _ => False) (fun _ h => h.elim) ⟨World.ownsRow_nil _ _ _ _, by simp [Value.ownBlock]⟩
  obtain ⟨⟨bm, rm, mlm, rfl, _⟩, _⟩ := hm
  have HS1 := Lib.hid hS1
  have HB1 := Lib.hid hb1
  clear hS1 hb1
  go_wp2_with fail
  try (go_step3; go_wp2_with fail)
  go_loopw [8, 24] (fun s8 i wr => ∃ k cnt : Nat, ∃ pr cr, ∃ ds : List HC, k ≤ l.length ∧ cnt ≤ k ∧ i = .int .i64 k ∧ s8 = .slice pr cnt cr ∧ Hid (DsOk G w ds (wroteL (l.take k)) ∧ ds.length = cnt) ∧
    Hid (Sep w [OldA w, ModelA (.pointer (some ⟨bm, 0, none⟩)) n [], RowA 45 7 (.slice pr cnt cr) cnt (flatH ds)] wr)) (fun _ i _ => l.length - (intOf i).toNat)
  case atStart => exact ⟨0, 0, none, 0, [], Nat.zero_le _, Nat.le_refl _, rfl, rfl, ⟨DsOk.nil G w, rfl⟩, HS1.out⟩
  case round =>
    obtain ⟨k, cnt, pr, cr, ds, hk, hck, rfl, rfl, HD, HS⟩ := hrel
    clear HS1
    by_cases hlt : k < l.length
    case neg =>
      have hkl : k = l.length := by omega
      have hd := HD.out
      rw [hkl, List.take_length] at hd
      have HDD := Lib.hid hd
      clear hd HD hkl
      obtain ⟨F2, hF2, hdF2⟩ := HS.out.get 2 rfl
      rcases hF2.1.2 with ⟨hv0, hn0⟩ | ⟨g, cap, cur, hv0, hrest⟩
      case inl =>
        cases hv0
        have hP0 : ordP l = [] := List.eq_nil_of_length_eq_zero (by rw [ordP_len, ordI_len', ← wroteL_len, ← HDD.out.1.1, HDD.out.2])
        have HP0 := Lib.hid hP0
        clear hF2 hP0 hn0 hdF2
        go_wp2_with fail
        refine (sortNoneH 0 _ _).mono ?_
        rintro e w4 ⟨rfl, rfl⟩
        go_wp2_with fail
        go_loopw [46] (fun i wr => i = .int .i64 0 ∧ Hid (Sep w [OldA w, ModelA (.pointer (some ⟨bm, 0, none⟩)) n [], RowA 45 7 (.slice none 0 0) 0 (flatH ds)] wr)) (fun i _ => 0)
        case atStart => exact ⟨rfl, HS⟩
        case round =>
          obtain ⟨rfl, HS5⟩ := hrel
          go_wp2
          try rw [Exit.noGoto_ret]
          go_ret2
          obtain ⟨F, hF, hN⟩ := Sep.fresh HS5.out 0 rfl
          obtain ⟨FN, hFN, hdN⟩ := HS5.out.get 1 rfl
          refine ⟨HS5.out.old, Or.inl ⟨by rw [HP0.out]; rfl, _, rfl, ?_⟩⟩
          rw [HP0.out]
          exact hF.wide hN (fun q hq => hq.2)
      case inr =>
        clear hrest
        cases hv0
        have hg := hdF2 g (hF2.2 g rfl)
        have hhk := row_holds (w := wr) (g := g) (ds := ds) (fun j hj => HS.out.row_cell 2 rfl j (by rw [← HDD.out.2]; exact hj))
        have htag : ∀ i, i < ds.toArray.size → ds.toArray[i]!.tag = i := fun i hi => by
          have hi' : i < ds.length := by simpa using hi
          rw [getElem!_pos ds.toArray i hi]
          exact (HDD.out.1.2 i hi' (by rw [← HDD.out.1.1]; exact hi')).2
        obtain ⟨FF, GG, hFF, _, _, _, _, K⟩ := HS.out.at 2 rfl
        have hFg := hFF.2 g rfl
        have hsz : ds.toArray.size = cnt := by simp [HDD.out.2]
        have hsort := sortHist_any g cr ds.toArray wr hhk hg (by rw [hsz]; omega) htag
        rw [hsz] at hsort
        have HSORT := Lib.hid hsort
        have HK := Lib.hid K
        have HFG := Lib.hid hFg
        have HSZ := Lib.hid hsz
        clear hsort K hFg hsz
        clear hF2 hFF hhk htag hg hdF2
        go_wp2_with fail
        refine (HSORT.out).mono ?_
        rintro e w4 ⟨rfl, d', hz, hp, hs, hh, hc⟩
        have HS4 := Lib.hid (HK.out w4 FF (CellsA g d') (hc.mono fun q _ hq => by subst hq; exact HFG.out) (fun q hq => .inl hq) ⟨HFG.out, hh⟩)
        obtain ⟨hz2, hok⟩ := sorted_order HDD.out.1 (by simpa using hp) hs
        have hcl : (ordP l).length = cnt := by unfold ordP; rw [List.length_map, ← hz2, hz, HSZ.out]
        have hdz : d'.size = cnt := by rw [hz, HSZ.out]
        have HOK := Lib.hid hok
        have HZ2 := Lib.hid hz2
        have HCL := Lib.hid hcl
        have HDZ := Lib.hid hdz
        clear hok hz2 hcl hdz
        clear hp hs hh hc hz HK HS HSORT
        go_wp2_with fail
        obtain ⟨W4, rfl⟩ : ∃ W4 : World, W4 = wr := ⟨_, rfl⟩
        go_loopw [46] (fun i wr => ∃ j : Nat, j ≤ cnt ∧ i = .int .i64 j ∧ Hid (∀ p ∈ (ordP l).take j, runCode n p = 0) ∧ Hid (Sep w [OldA w, ModelA (.pointer (some ⟨bm, 0, none⟩)) n (runAll [] ((ordP l).take j)), CellsA g d'] wr)) (fun i _ => cnt - (intOf i).toNat)
        case atStart => exact ⟨0, Nat.zero_le _, rfl, by unfold Hid; simp, HS4⟩
        case round =>
          obtain ⟨j, hj, rfl, HR, HS5⟩ := hrel
          clear HS4
          by_cases hjl : j < cnt
          case neg =>
            go_wp2
            try rw [Exit.noGoto_ret]
            go_ret2
            have hjc : j = (ordP l).length := by rw [HCL.out]; omega
            have hr := HR.out
            obtain ⟨F, hF, hN⟩ := Sep.fresh HS5.out 0 rfl
            rw [hjc, List.take_length] at hr hF
            exact ⟨HS5.out.old, Or.inl ⟨replay_ok.2 hr, _, rfl, hF.wide hN (fun q hq => hq.2)⟩⟩
          case pos =>
            have hxd : j < d'.size := by rw [HDZ.out]; exact hjl
            have hxo : j < (ordH l).length := by rw [← HZ2.out]; exact hxd
            have hpl : j < (ordP l).length := by rw [HCL.out]; exact hjl
            obtain ⟨F2, hF2, _⟩ := HS5.out.get 2 rfl
            obtain ⟨hc0, hc1, hc2, hc3, hc4, hc5, hc6⟩ := holdsK_cells hF2.2 j hxd
            have hk := HOK.out j hxd hxo
            have hpe : (ordP l)[j] = (ordH l)[j].puts := by simp only [ordP, List.getElem_map]
            have hkp := hk.pt
            have hkt := hk.i.2.2.1
            rw [← hk.tm] at hkt
            rw [← hpe] at hkp
            have htk := take_snoc (ordP l) j hpl
            have hdr := List.drop_eq_getElem_cons hpl
            have hrd := replay_drop HR.out
            rw [hdr] at hrd
            replace hkp := PutsAt.up hkp HS5.out.old
            clear hk hpe hF2 hdr
            generalize (ordP l)[j] = ps at *
            obtain ⟨pp, pc, hsl⟩ := pts_shape hkp
            rw [hsl] at hkp hc6
            generalize d'[j] = x at *
            obtain ⟨st, bg, tm, fr, up, rp, rn, rc, pp0, pn0, pc0, tg⟩ := x
            simp only at hc0 hc1 hc2 hc3 hc4 hc5 hc6 hkt hkp
            have hhd : HS5.out.grow = HS5.out.grow := rfl
            have HS6 := Lib.hid (HS5.out.up (below_alloc wr (.cells #[.int .i64 st, .int .i64 bg, .int .i64 tm, .int .i64 fr, .int .i64 up, .slice rp rn rc, .slice pp ps.length pc] 45)))
            obtain ⟨F, G1, hF, hR, hFG, hdF, hdG, K⟩ := HS6.out.at 1 rfl
            obtain ⟨F0, hF0, hO⟩ := hR 0 _ (by decide) rfl
            have hO1 := hO.1
            have hkp2 := PutsAt.up hkp (below_alloc wr (.cells #[.int .i64 st, .int .i64 bg, .int .i64 tm, .int .i64 fr, .int .i64 up, .slice rp rn rc, .slice pp ps.length pc] 45))
            have htx : TxAt G1 (wr.alloc (.cells #[.int .i64 st, .int .i64 bg, .int .i64 tm, .int .i64 fr, .int .i64 up, .slice rp rn rc, .slice pp ps.length pc] 45)) (.agg #[.int .i64 tm, .slice pp ps.length pc]) ⟨tm, ps⟩ := ⟨_, rfl, hkt, hkp2.mono fun q hq => hF0 q (hO1 q (HG.out q hq))⟩
            have hrun := modelRun_any F G1 _ _ n _ ⟨tm, ps⟩ _ (by omega) hF htx hdG hFG
            have HK := Lib.hid K
            have HRUN := Lib.hid hrun
            have HTK := Lib.hid htk
            have HRD := Lib.hid hrd
            clear hrun htk hrd
            clear K hR hF hO htx hFG hdF hdG hF0 hO1 hpl hxo hxd hkp hkp2 hkt hhd hsl
            by_cases hcode : runCode n ps = 0
            · go_wp2_with fail
              refine (HRUN.out).mono ?_
              rintro e w5 ⟨rfl, hc5, hm5⟩
              have hS7 := HK.out w5 _ (ModelA (.pointer (some ⟨bm, 0, none⟩)) n _) hc5 (fun k hk => hk) hm5
              rw [hcode] at hS7 ⊢
              rw [if_pos rfl, ← runAll_snoc, ← HTK.out] at hS7
              have HR5 : Hid (∀ p ∈ (ordP l).take (j + 1), runCode n p = 0) := fun q hq => by
                rw [HTK.out] at hq
                rcases List.mem_append.1 hq with h | h
                · exact HR.out q h
                · rw [List.mem_singleton] at h; rw [h]; exact hcode
              have HS7 := Lib.hid hS7
              clear hS7
              clear hc5 hm5
              go_wp2_with fail
              go_roundw
              case rel => exact ⟨j + 1, by omega, by go_num, HR5, HS7.out⟩
              case measure => simp [intOf]; omega
            · have hrc : replayCode n (ordP l) = runCode n ps := by rw [HRD.out]; unfold replayCode; rw [if_neg hcode]
              have hcz : (runCode n ps != 0) = true := by rw [bne_iff_ne]; exact hcode
              go_wp2_with fail
              refine (HRUN.out).mono ?_
              rintro e w5 ⟨rfl, hc5, hm5⟩
              have hS7 := HK.out w5 _ TrueA hc5 (fun k hk => hk) trivial
              have HS7 := Lib.hid hS7
              have HRC := Lib.hid hrc
              clear hS7 hrc
              clear hc5 hm5
              go_wp2
              try rw [Exit.noGoto_ret]
              go_ret2
              exact ⟨HS7.out.old, Or.inr ⟨by rw [HRC.out]; exact hcode, by rw [HRC.out]; rfl⟩⟩
    case pos =>
      obtain ⟨rfl, hGb, hc0, hc1, hc2, hc3, hc4, hi, ⟨rv, hc5, hrd⟩, pv, hc6, hpd⟩ := HCE.out k hlt
      have hrd0 := hrd
      have hpd0 := hpd
      obtain ⟨rp, rc, rfl, hr1, hr2, hr3, hr4⟩ := hrd0
      obtain ⟨pp, pc, rfl, hp1, hp2, hp3, hp4⟩ := hpd0
      clear hr3 hr4 hp3 hp4
      have hok : HcOk G w ⟨l[k].state, l[k].begun, l[k].time, l[k].since, l[k].upto, rp, l[k].reads.length, rc, pp, l[k].puts.length, pc, cnt⟩ l[k] := ⟨rfl, rfl, rfl, rfl, rfl, hi, hrd, hpd⟩
      have hws := wroteL_snoc l k hlt
      have hwd : wroteH l[k] = (decide (l[k].state = 3) && decide (0 < l[k].puts.length)) := rfl
      rw [hwd] at hws
      have hup := HS.out.old
      replace hc0 := cell_up hup hc0
      replace hc1 := cell_up hup hc1
      replace hc2 := cell_up hup hc2
      replace hc3 := cell_up hup hc3
      replace hc4 := cell_up hup hc4
      replace hc5 := cell_up hup hc5
      replace hc6 := cell_up hup hc6
      clear hrd hpd hwd
      generalize hst : l[k].state = st at hc0 hok hws
      generalize hbg : l[k].begun = bg at hc1 hok
      generalize htm : l[k].time = tm at hc2 hok
      generalize hfr : l[k].since = fr at hc3 hok
      generalize hupt : l[k].upto = up at hc4 hok
      generalize hrn : l[k].reads.length = rn at *
      generalize hpn : l[k].puts.length = pn at *
      have HS2 := Lib.hid (HS.out.up (below_alloc _ (.cells #[.int .i64 st, .int .i64 bg, .int .i64 tm, .int .i64 fr, .int .i64 up, .slice rp rn rc, .slice pp pn pc] 45)))
      have HOK := Lib.hid hok
      have HWS := Lib.hid hws
      have HUP := Lib.hid hup
      clear hok hws hup
      clear hi hst hbg htm hfr hupt hrn hpn
      by_cases hs3 : st = 3
      case neg =>
        have hsne : (st != 3) = true := by rw [bne_iff_ne]; exact hs3
        have HW : Hid (wroteL (l.take (k + 1)) = wroteL (l.take k)) := by have := HWS.out; rw [decide_eq_false hs3] at this; unfold Hid; simpa using this
        clear hs3
        go_wp2_with fail
        go_roundw
        case rel => exact ⟨k + 1, cnt, pr, cr, ds, by omega, by omega, by go_num, rfl, ⟨by rw [HW.out]; exact HD.out.1, HD.out.2⟩, HS2.out⟩
        case measure => simp [intOf]; omega
      case pos =>
        have hsne : (st != 3) = false := by rw [hs3]; rfl
        by_cases hp0 : pn = 0
        case pos =>
          have hpe : ((pn : Int) == 0) = true := by rw [hp0]; rfl
          have HW : Hid (wroteL (l.take (k + 1)) = wroteL (l.take k)) := by have := HWS.out; rw [hp0] at this; unfold Hid; simpa using this
          have HS3 := Lib.hid hs3
          have HP0 := Lib.hid hp0
          clear hs3 hp0
          go_wp2_with fail
          go_roundw
          case rel => exact ⟨k + 1, cnt, pr, cr, ds, by omega, by omega, by go_num, rfl, ⟨by rw [HW.out]; exact HD.out.1, HD.out.2⟩, HS2.out⟩
          case measure => simp [intOf]; omega
        case neg =>
          have hpe : ((pn : Int) == 0) = false := by rw [beq_eq_false_iff_ne]; omega
          have HW : Hid (wroteL (l.take (k + 1)) = wroteL (l.take k) ++ [l[k]]) := by have := HWS.out; rw [decide_eq_true hs3, decide_eq_true (show 0 < pn by omega)] at this; unfold Hid; simpa using this
          clear hs3 hp0
          have hnew := heap_alloc_new wr (.cells #[.int .i64 st, .int .i64 bg, .int .i64 tm, .int .i64 fr, .int .i64 up, .slice rp rn rc, .slice pp pn pc] 45)
          have e0 : (wr.alloc (.cells #[.int .i64 st, .int .i64 bg, .int .i64 tm, .int .i64 fr, .int .i64 up, .slice rp rn rc, .slice pp pn pc] 45)).cell? ⟨wr.heap.size, 0, none⟩ = some (.int .i64 st) := by rw [cell_row hnew]; rfl
          have e1 : (wr.alloc (.cells #[.int .i64 st, .int .i64 bg, .int .i64 tm, .int .i64 fr, .int .i64 up, .slice rp rn rc, .slice pp pn pc] 45)).cell? ⟨wr.heap.size, 1, none⟩ = some (.int .i64 bg) := by rw [cell_row hnew]; rfl
          have e2 : (wr.alloc (.cells #[.int .i64 st, .int .i64 bg, .int .i64 tm, .int .i64 fr, .int .i64 up, .slice rp rn rc, .slice pp pn pc] 45)).cell? ⟨wr.heap.size, 2, none⟩ = some (.int .i64 tm) := by rw [cell_row hnew]; rfl
          have e3 : (wr.alloc (.cells #[.int .i64 st, .int .i64 bg, .int .i64 tm, .int .i64 fr, .int .i64 up, .slice rp rn rc, .slice pp pn pc] 45)).cell? ⟨wr.heap.size, 3, none⟩ = some (.int .i64 fr) := by rw [cell_row hnew]; rfl
          have e4 : (wr.alloc (.cells #[.int .i64 st, .int .i64 bg, .int .i64 tm, .int .i64 fr, .int .i64 up, .slice rp rn rc, .slice pp pn pc] 45)).cell? ⟨wr.heap.size, 4, none⟩ = some (.int .i64 up) := by rw [cell_row hnew]; rfl
          have e5 : (wr.alloc (.cells #[.int .i64 st, .int .i64 bg, .int .i64 tm, .int .i64 fr, .int .i64 up, .slice rp rn rc, .slice pp pn pc] 45)).cell? ⟨wr.heap.size, 5, none⟩ = some (.slice rp rn rc) := by rw [cell_row hnew]; rfl
          have e6 : (wr.alloc (.cells #[.int .i64 st, .int .i64 bg, .int .i64 tm, .int .i64 fr, .int .i64 up, .slice rp rn rc, .slice pp pn pc] 45)).cell? ⟨wr.heap.size, 6, none⟩ = some (.slice pp pn pc) := by rw [cell_row hnew]; rfl
          have HE0 := Lib.hid e0
          have HE1 := Lib.hid e1
          have HE2 := Lib.hid e2
          have HE3 := Lib.hid e3
          have HE4 := Lib.hid e4
          have HE5 := Lib.hid e5
          have HE6 := Lib.hid e6
          have HNEW := Lib.hid hnew
          clear e0 e1 e2 e3 e4 e5 e6 hnew
          go_upto_region 9 with fail
          clear hc0 hc1 hc2 hc3 hc4 hc5 hc6 HNEW
          have e0 := HE0.out
          have e1 := HE1.out
          have e2 := HE2.out
          have e3 := HE3.out
          have e4 := HE4.out
          have e5 := HE5.out
          have e6 := HE6.out
          clear HE0 HE1 HE2 HE3 HE4 HE5 HE6
          generalize wr.alloc (.cells #[.int .i64 st, .int .i64 bg, .int .i64 tm, .int .i64 fr, .int .i64 up, .slice rp rn rc, .slice pp pn pc] 45) = W1 at *
          obtain ⟨FA, hFA, _⟩ := HS2.out.get 2 rfl
          have hrowA := hFA.1
          obtain ⟨iiA, hiiA, hizA, hiyA, hixA⟩ := info_parts infoHist
          have HROWA := Lib.hid hrowA
          clear hFA hrowA
          go_wp2_with (at_builtin; refine wpList_append_lies _ rfl _ _ 42 rfl 0 45 iiA (.agg #[.int .i64 0, .int .i64 0, .int .i64 0, .int .i64 0, .int .i64 0, .slice none 0 0, .slice none 0 0]) 7 88 Try.underlying42 hiiA hizA hiyA hixA rfl (by decide) _ (cnt) (flatH ds) rfl (HROWA.out.alloc _) ⟨W1.heap.size, 0, none⟩ 1 1 [.int .i64 st, .int .i64 bg, .int .i64 tm, .int .i64 fr, .int .i64 up, .slice rp rn rc, .slice pp pn pc] rfl rfl (World.news_of_block (cs := #[.int .i64 st, .int .i64 bg, .int .i64 tm, .int .i64 fr, .int .i64 up, .slice rp rn rc, .slice pp pn pc]) (heap_alloc_new W1 _)) (by simp [Value.oneCell']) (by decide) (by unfold maxLen; omega) (by omega) (Nat.zero_le _) (W1.heap.size + 1) (by simp) ?_; intro gA cA wA hownA hgrowA hatA hltA)
          have hSA := HS2.out.row_app 2 rfl (below_alloc _ _) hownA hgrowA hatA (by simp) hltA
          clear hownA hgrowA hatA hltA hiiA hizA hiyA hixA
          have hfl := flatH_snoc ds ⟨st, bg, tm, fr, up, rp, rn, rc, pp, pn, pc, cnt⟩
          have hen : encH ⟨st, bg, tm, fr, up, rp, rn, rc, pp, pn, pc, cnt⟩ = [.int .i64 st, .int .i64 bg, .int .i64 tm, .int .i64 fr, .int .i64 up, .slice rp rn rc, .slice pp pn pc] := rfl
          rw [hen] at hfl
          rw [← hfl] at hSA
          have HSA := Lib.hid hSA
          clear hSA
          clear hfl hen
          go_wp2_with fail
          go_roundw
          case rel =>
            refine ⟨k + 1, cnt + 1, _, _, _, by omega, by omega, by go_num, rfl, ⟨?_, ?_⟩, HSA.out⟩
            · rw [HW.out]; exact HD.out.1.snoc HOK.out HD.out.2.symm
            · rw [List.length_append, HD.out.2]; rfl
          case measure => simp [intOf]; omega
end Go.Proofs

/- bytes.Equal, and audit.alike. -/
namespace Go.Proofs
open Go.RowKit Sc

theorem slOne {α : Type} {G : Nat → Prop} {k : Nat} {E : Elem α} {w : World} {v : Value} {l : List α} (h : SlAt G k E w v l) : v.oneCell' = true := by
  obtain ⟨p, c, rfl, _⟩ := h; rfl
set_option maxHeartbeats 1000000 in
theorem bytesEq_any (G : Nat → Prop) (va vb : Value) (a b : Bytes) (w : World) (ha : BytesAt G w va a) (hb : BytesAt G w vb b) :
    Calls Try.prog 81 #[va, vb] w fun e w' => e = .returned (.bool (a == b)) ∧ w = w' := by
  have h1 := str_of ha
  have h2 := str_of hb
  go_enter Try.func81, Try.ntmps81
  go_wp2
  go_ret
  exact ⟨rfl, rfl⟩
def putEq (x y : Put) : Bool := x.lba == y.lba && x.data == y.data
theorem putEq_key (x y : Put) : putEq x y = (pkey x == pkey y) := by
  obtain ⟨a, b⟩ := x
  obtain ⟨c, d⟩ := y
  rfl
set_option maxHeartbeats 1000000 in
theorem alikeC_any (G : Nat → Prop) (va vb : Value) (x y : Put) (w : World) (_hG : Dom G w) (ha : putV G w va x) (hb : putV G w vb y) :
    Calls Try.prog 80 #[va, vb] w fun e w' => e = .returned (.bool (putEq x y)) ∧ Below w.heap.size w w' := by
  obtain ⟨dv, rfl, _, hd⟩ := ha
  obtain ⟨ev, rfl, _, he⟩ := hb
  have hs := slOne hd
  have ht := slOne he
  have HD := Lib.hid hd
  have HE := Lib.hid he
  unfold putEq
  clear hd he
  obtain ⟨x1, x2⟩ := x
  obtain ⟨y1, y2⟩ := y
  simp only at *
  by_cases h1 : x1 = y1
  · subst h1
    have e1 : (x1 == x1) = true := by simp
    rw [e1, Bool.true_and]
    go_enter Try.func80, Try.ntmps80
    go_wp2_with fail
    refine (bytesEq_any G dv ev x2 y2 _ ((BytesAt.up HD.out (below_alloc _ _)).up (below_alloc _ _)) ((BytesAt.up HE.out (below_alloc _ _)).up (below_alloc _ _))).mono ?_
    rintro e w' ⟨rfl, rfl⟩
    go_wp2
    go_ret
    exact ⟨rfl, Below.up (below_alloc _ _) (below_alloc _ _)⟩
  · have e1 : (x1 == y1) = false := by rw [beq_eq_false_iff_ne]; exact h1
    rw [e1, Bool.false_and]
    go_enter Try.func80, Try.ntmps80
    go_wp2
    go_ret
    exact ⟨rfl, Below.up (below_alloc _ _) (below_alloc _ _)⟩
set_option maxRecDepth 100000 in
set_option maxHeartbeats 1000000 in
theorem equalPuts_any (G : Nat → Prop) (va vb : Value) (a b : List Put) (w : World) (hG : Dom G w) (ha : PutsAt G w va a) (hb : PutsAt G w vb b) :
    Calls Try.prog 79 #[va, vb, .func (.func 80) #[] #[]] w fun e w' => e = .returned (.bool (samePuts a b)) ∧ Below w.heap.size w w' := by
  obtain ⟨pa, ca, rfl, ha1, ha2, ha3, ha4⟩ := ha
  obtain ⟨pb, cb, rfl, hb1, hb2, hb3, hb4⟩ := hb
  by_cases hlen : a.length = b.length
  case neg =>
    have hne : (((a.length : Nat) : Int) != ((b.length : Nat) : Int)) = true := by rw [bne_iff_ne]; omega
    have hs : samePuts a b = false := by
      cases h : samePuts a b with
      | false => rfl
      | true => exact absurd (congrArg List.length (samePuts_iff.1 h)) hlen
    rw [hs]
    clear ha4 hb4 ha3 hb3 hs hlen
    go_enter Try.func79, Try.ntmps79
    go_wp2
    go_ret
    exact ⟨rfl, Below.refl _ _⟩
  case pos =>
    have heq : (((a.length : Nat) : Int) != ((b.length : Nat) : Int)) = false := by rw [bne_eq_false_iff_eq]; omega
    have HA := Lib.hid ha4
    have HB := Lib.hid hb4
    have HL := Lib.hid hlen
    clear ha4 hb4 ha3 hb3 hlen
    go_enter Try.func79, Try.ntmps79
    go_wp2
    go_loopw [17] (fun i wr => ∃ k : Nat, k ≤ a.length ∧ i = .int .i64 k ∧ Below w.heap.size w wr ∧ Hid (a.take k = b.take k)) (fun i _ => a.length - (intOf i).toNat)
    case atStart => exact ⟨0, by omega, rfl, Below.refl _ _, rfl⟩
    case round =>
      obtain ⟨k, hk, rfl, hbw, HT⟩ := hrel
      by_cases hlt : k < a.length
      · have hltb : k < b.length := by rw [← HL.out]; exact hlt
        obtain ⟨g1, o1, rfl, hg1, hc1, hi1, v1, hv1, hd1⟩ := HA.out k hlt
        obtain ⟨g2, o2, rfl, hg2, hc2, hi2, v2, hv2, hd2⟩ := HB.out k hltb
        have hc1' := (hbw.cell (p := ⟨g1, o1 + k * 2, none⟩) (hG g1 hg1)).trans hc1
        have hv1' := (hbw.cell (p := ⟨g1, o1 + k * 2 + 1, none⟩) (hG g1 hg1)).trans hv1
        have hd10 := hd1
        have hd20 := hd2
        obtain ⟨dp1, dc1, rfl, -⟩ := hd10
        obtain ⟨dp2, dc2, rfl, -⟩ := hd20
        have hc2' := cell_up (below_alloc wr (.cells #[.int .i64 a[k].lba, .slice dp1 a[k].data.length dc1] 39)) ((hbw.cell (p := ⟨g2, o2 + k * 2, none⟩) (hG g2 hg2)).trans hc2)
        have hv2' := cell_up (below_alloc wr (.cells #[.int .i64 a[k].lba, .slice dp1 a[k].data.length dc1] 39)) ((hbw.cell (p := ⟨g2, o2 + k * 2 + 1, none⟩) (hG g2 hg2)).trans hv2)
        have hd1' := hd1.same (hG.same hbw)
        have hd2' := hd2.same (hG.same hbw)
        have hta := take_snoc a k hlt
        have htb := take_snoc b k hltb
        have HTA := Lib.hid hta
        have HTB := Lib.hid htb
        have hstep : putEq a[k] b[k] = false → samePuts a b = false := by
          intro hne
          cases h : samePuts a b with
          | false => rfl
          | true =>
            have := samePuts_iff.1 h
            subst this
            rw [putEq_key] at hne
            simp at hne
        have hstep2 : putEq a[k] b[k] = true → a[k] = b[k] := fun h => by
          rw [putEq_key, beq_iff_eq] at h
          exact pkey_inj h
        have hcall := fun (W : World) (hW : Below wr.heap.size wr W) => alikeC_any G (.agg #[.int .i64 a[k].lba, .slice dp1 a[k].data.length dc1]) (.agg #[.int .i64 b[k].lba, .slice dp2 b[k].data.length dc2]) a[k] b[k] W ((hG.below hbw).below hW) ⟨_, rfl, hi1, hd1'.same ((hG.below hbw).same hW)⟩ ⟨_, rfl, hi2, hd2'.same ((hG.below hbw).same hW)⟩
        generalize putEq a[k] b[k] = q at *
        have HST := Lib.hid hstep
        have HST2 := Lib.hid hstep2
        have HC := Lib.hid hcall
        have HBW := Lib.hid hbw
        clear hstep hstep2 hcall hta htb hd1 hd2 hd1' hd2' hi1 hi2 hc1 hc2 hv1 hv2 hbw
        generalize a[k].lba = x1 at *
        generalize b[k].lba = y1 at *
        generalize a[k].data.length = n1 at *
        generalize b[k].data.length = n2 at *
        cases q with
        | true =>
          go_wp2_with fail
          refine (HC.out _ (Below.up (below_alloc _ _) (below_alloc _ _))).mono ?_
          rintro e w' ⟨rfl, hb'⟩
          have HB' := Lib.hid hb'
          clear hb'
          go_wp2_with fail
          go_roundw
          case rel => exact ⟨k + 1, by omega, by go_num, HBW.out.trans ((Below.up (Below.up (below_alloc _ _) (below_alloc _ _)) HB'.out).mono HBW.out.size), by unfold Hid; rw [HTA.out, HTB.out, HT.out, HST2.out trivial]⟩
          case measure => simp [intOf]; omega
        | false =>
          go_wp2_with fail
          refine (HC.out _ (Below.up (below_alloc _ _) (below_alloc _ _))).mono ?_
          rintro e w' ⟨rfl, hb'⟩
          have HB' := Lib.hid hb'
          clear hb'
          go_wp2
          go_ret
          refine ⟨?_, HBW.out.trans ((Below.up (Below.up (below_alloc _ _) (below_alloc _ _)) HB'.out).mono HBW.out.size)⟩
          exact congrArg boolRet (HST.out trivial).symm
      · have HK := Lib.hid (show k = a.length by omega)
        go_wp2
        go_ret
        refine ⟨?_, hbw⟩
        have : samePuts a b = true := by
          rw [samePuts_iff]
          have h := HT.out
          rw [HK.out, List.take_length, HL.out, List.take_length] at h
          exact h
        exact congrArg boolRet this.symm
theorem alike_any (G : Nat → Prop) (va vb : Value) (a b : List Put) (w : World) (hG : Dom G w) (ha : PutsAt G w va a) (hb : PutsAt G w vb b) :
    Calls Try.prog 63 #[va, vb] w fun e w' => e = .returned (.bool (samePuts a b)) ∧ Below w.heap.size w w' := by
  go_enter Try.func63, Try.ntmps63
  go_wp2_with fail
  refine (equalPuts_any G va vb a b _ hG ha hb).mono ?_
  rintro e w1 ⟨rfl, hb1⟩
  have HB1 := Lib.hid hb1
  clear hb1
  go_wp2
  go_ret
  exact ⟨rfl, HB1.out⟩
end Go.Proofs

/- Rows of cells that read as elements, wherever they come to lie; of no program. -/
namespace Sc
open Go Go.RowKit

theorem addr_addV (g o j : Nat) : (⟨g, o, none⟩ : Addr).add j = ⟨g, o + j, none⟩ := by unfold Addr.add; split <;> simp_all
/-- These cells, wherever they lie in a world that has grown from W, are these elements. -/
def RowV {α : Type} (W : World) (k : Nat) (E : Elem α) (l : List α) (xs : List Value) : Prop :=
  xs.length = l.length * k ∧ (∀ u ∈ xs, u.oneCell' = true) ∧ ∀ w b o, Below W.heap.size W w → (∀ j u, xs[j]? = some u → w.cell? ⟨b, o + j, none⟩ = some u) → ∀ i (h : i < l.length), E w b (o + i * k) l[i]
theorem RowV.nil {α : Type} (W : World) (k : Nat) (E : Elem α) : RowV W k E [] [] := ⟨by simp, fun u h => absurd h (by simp), fun w b o _ _ i h => absurd h (by simp)⟩
theorem RowV.append {α : Type} {W : World} {k : Nat} {E : Elem α} {l m : List α} {xs ys : List Value} (h : RowV W k E l xs) (h2 : RowV W k E m ys) : RowV W k E (l ++ m) (xs ++ ys) := by
  obtain ⟨a1, a2, a3⟩ := h
  obtain ⟨b1, b2, b3⟩ := h2
  refine ⟨by rw [List.length_append, List.length_append, a1, b1, Nat.add_mul], fun u hu => (List.mem_append.1 hu).elim (a2 u) (b2 u), fun w b o hb hc i hi => ?_⟩
  by_cases hl : i < l.length
  · rw [List.getElem_append_left hl]
    exact a3 w b o hb (fun j u hu => hc j u (by rw [List.getElem?_append_left (List.getElem?_eq_some_iff.1 hu).1]; exact hu)) i hl
  · have hi' : i - l.length < m.length := by rw [List.length_append] at hi; omega
    rw [List.getElem_append_right (by omega)]
    have := b3 w b (o + l.length * k) hb (fun j u hu => by
      have := hc (l.length * k + j) u (by rw [List.getElem?_append_right (by omega), a1, Nat.add_sub_cancel_left]; exact hu)
      rwa [← Nat.add_assoc] at this) (i - l.length) hi'
    rwa [Nat.add_assoc, ← Nat.add_mul, show l.length + (i - l.length) = i by omega] at this
/-- What is known of an element is known of its cells alone. -/
def Moves {α : Type} (W : World) (k : Nat) (E0 E : Elem α) : Prop :=
  ∀ b o x, E0 W b o x → (∀ t, t < k → ∃ u, W.cell? ⟨b, o + t, none⟩ = some u ∧ u.oneCell' = true) ∧
    ∀ w b' o', Below W.heap.size W w → (∀ t, t < k → ∀ u, W.cell? ⟨b, o + t, none⟩ = some u → w.cell? ⟨b', o' + t, none⟩ = some u) → E w b' o' x
theorem RowV.of_sl {α : Type} {W : World} {G : Nat → Prop} {k : Nat} {E0 E : Elem α} {p : Option Addr} {n c : Nat} {l : List α} (hm : Moves W k E0 E) (_hk : 0 < k) (h : SlAt G k E0 W (.slice p n c) l) :
    ∃ xs, RowV W k E l xs ∧ ∀ a, p = some a → ∀ j u, xs[j]? = some u → W.cell? (a.add j) = some u := by
  obtain ⟨p', c', hv, _, _, _, h5⟩ := h
  cases hv
  have key : ∀ m, m ≤ l.length → ∃ xs, RowV W k E (l.take m) xs ∧ ∀ a, p = some a → ∀ j u, xs[j]? = some u → W.cell? (a.add j) = some u := by
    intro m
    induction m with
    | zero => intro _; exact ⟨[], by rw [List.take_zero]; exact RowV.nil W k E, fun a _ j u hu => by simp at hu⟩
    | succ m ih =>
      intro hn
      obtain ⟨xs, h1, h2⟩ := ih (by omega)
      obtain ⟨b, o, rfl, hb, he⟩ := h5 m (by omega)
      obtain ⟨hc, hmv⟩ := hm _ _ _ he
      have hys : ∃ ys : List Value, ys.length = k ∧ ∀ t, t < k → ∃ u, ys[t]? = some u ∧ W.cell? ⟨b, o + m * k + t, none⟩ = some u ∧ u.oneCell' = true := by
        refine ⟨(List.range k).map fun t => (W.cell? ⟨b, o + m * k + t, none⟩).getD (.bool false), by simp, fun t ht => ?_⟩
        obtain ⟨u, hu, h1⟩ := hc t ht
        refine ⟨u, ?_, hu, h1⟩
        rw [List.getElem?_map, List.getElem?_range ht, Option.map_some, hu]; rfl
      obtain ⟨ys, hyl, hy⟩ := hys
      have hone : RowV W k E [l[m]] ys := by
        refine ⟨by simp [hyl], fun u hu => ?_, fun w b' o' hbw hcw i hi => ?_⟩
        · obtain ⟨t, ht, rfl⟩ := List.getElem_of_mem hu
          obtain ⟨u, h1, _, h3⟩ := hy t (by omega)
          rw [List.getElem?_eq_getElem ht] at h1
          cases h1; exact h3
        · have hi0 : i = 0 := by simpa using hi
          subst hi0
          rw [Nat.zero_mul, Nat.add_zero]
          refine hmv w b' o' hbw fun t ht u hu => ?_
          obtain ⟨u', h1, h3, _⟩ := hy t ht
          rw [hu] at h3
          cases h3
          exact hcw t u h1
      have hxl := h1.1
      rw [List.length_take, Nat.min_eq_left (by omega)] at hxl
      refine ⟨xs ++ ys, ?_, fun a ha j u hu => ?_⟩
      · rw [List.take_succ_eq_append_getElem (by omega)]
        exact h1.append hone
      · cases ha
        rcases Nat.lt_or_ge j (m * k) with hj | hj
        · rw [List.getElem?_append_left (by omega)] at hu
          exact h2 _ rfl j u hu
        · rw [List.getElem?_append_right (by omega), hxl] at hu
          have hjl := (List.getElem?_eq_some_iff.1 hu).1
          obtain ⟨u', e1, e2, _⟩ := hy (j - m * k) (by omega)
          rw [hu] at e1
          cases e1
          rw [addr_addV, show o + j = o + m * k + (j - m * k) by omega]
          exact e2
  obtain ⟨xs, h1, h2⟩ := key l.length (Nat.le_refl _)
  rw [List.take_length] at h1
  exact ⟨xs, h1, h2⟩
/-- A row of one's own that holds them. -/
theorem RowV.done {α : Type} {W w : World} {k : Nat} {E : Elem α} {l : List α} {xs : List Value} {B : Nat} {T : TypeId} {v : Value} (h : RowV W k E l xs) (hb : Below W.heap.size W w) (ho : w.ownsRow B T k v l.length xs) : SlAt (fun q => v.ownBlock = some q) k E w v l := by
  have hrow := ho
  obtain ⟨hx, hc | ⟨g, cap, cur, rfl, hbb, hg, hnc, hcm, hcs, htake⟩⟩ := ho
  · obtain ⟨rfl, hl0⟩ := hc
    obtain rfl : l = [] := List.length_eq_zero_iff.1 hl0
    exact SlAt.nil
  · refine ⟨_, cap, rfl, hnc, by unfold maxLen at hcm; omega, (by intro hh; cases hh), fun i hi => ⟨g, 0, rfl, rfl, h.2.2 w g 0 hb (fun j u hu => ?_) i hi⟩⟩
    rw [Nat.zero_add, hrow.cellAt j (by rw [← hx]; exact (List.getElem?_eq_some_iff.1 hu).1)]
    exact hu
/-- A part of a slice. -/
theorem SlAt.cut {α : Type} {W : World} {G : Nat → Prop} {k : Nat} {E : Elem α} {b o n c : Nat} {l : List α} (h : SlAt G k E W (.slice (some ⟨b, o, none⟩) n c) l) (i m : Nat) (hm : i + m ≤ l.length) : SlAt G k E W (.slice (some ⟨b, o + i * k, none⟩) m (c - i)) ((l.drop i).take m) := by
  obtain ⟨p', c', hv, h1, h2, h3, h5⟩ := h
  cases hv
  have hl : ((l.drop i).take m).length = m := by rw [List.length_take, List.length_drop]; omega
  refine ⟨_, c - i, by rw [hl], by omega, by omega, (by intro hh; cases hh), fun j hj => ?_⟩
  rw [hl] at hj
  obtain ⟨b', o', he, hb', hc1⟩ := h5 (i + j) (by omega)
  cases he
  refine ⟨b, o + i * k, rfl, hb', ?_⟩
  rw [List.getElem_take, List.getElem_drop, Nat.add_assoc, ← Nat.add_mul]
  exact hc1
theorem histE_moves (W : World) : Moves W 7 (histE (Old W)) (histE (Old W)) := by
  rintro b o x ⟨h0, h1, h2, h3, h4, hi, ⟨rv, h5, hr⟩, pv, h6, hp⟩
  have hr1 : rv.oneCell' = true := by obtain ⟨p, c, rfl, _⟩ := hr; rfl
  have hp1 : pv.oneCell' = true := by obtain ⟨p, c, rfl, _⟩ := hp; rfl
  refine ⟨fun t ht => ?_, fun w b' o' hb hc => ?_⟩
  · rcases (show t = 0 ∨ t = 1 ∨ t = 2 ∨ t = 3 ∨ t = 4 ∨ t = 5 ∨ t = 6 by omega) with rfl | rfl | rfl | rfl | rfl | rfl | rfl
    · exact ⟨_, h0, rfl⟩
    · exact ⟨_, h1, rfl⟩
    · exact ⟨_, h2, rfl⟩
    · exact ⟨_, h3, rfl⟩
    · exact ⟨_, h4, rfl⟩
    · exact ⟨_, h5, hr1⟩
    · exact ⟨_, h6, hp1⟩
  · have hs : Same (Old W) W w := fun k hk => hb.block k hk
    exact ⟨hc 0 (by omega) _ h0, hc 1 (by omega) _ h1, hc 2 (by omega) _ h2, hc 3 (by omega) _ h3, hc 4 (by omega) _ h4, hi, ⟨rv, hc 5 (by omega) _ h5, hr.same hs⟩, pv, hc 6 (by omega) _ h6, hp.same hs⟩
theorem histE_mono {G G' : Nat → Prop} {w : World} {b o : Nat} {x : Hist} (h : histE G w b o x) (hg : ∀ k, G k → G' k) : histE G' w b o x := by
  obtain ⟨h0, h1, h2, h3, h4, hi, ⟨rv, h5, hr⟩, pv, h6, hp⟩ := h
  exact ⟨h0, h1, h2, h3, h4, hi, ⟨rv, h5, SlAt.mono hr hg (fun _ _ _ h => ⟨h.1, h.2.1, let ⟨v, a, b⟩ := h.2.2.1; ⟨v, a, b.mono hg⟩, h.2.2.2⟩)⟩, pv, h6, hp.mono hg⟩
theorem RowV.one {α : Type} {W : World} {k : Nat} {E0 E : Elem α} {b o : Nat} {x : α} {ys : List Value} (hm : Moves W k E0 E) (he : E0 W b o x) (hl : ys.length = k) (hy : ∀ t, t < k → W.cell? ⟨b, o + t, none⟩ = ys[t]?) : RowV W k E [x] ys := by
  obtain ⟨hc, hmv⟩ := hm _ _ _ he
  refine ⟨by simp [hl], fun u hu => ?_, fun w b' o' hbw hcw i hi => ?_⟩
  · obtain ⟨t, ht, rfl⟩ := List.getElem_of_mem hu
    obtain ⟨u, h1, h3⟩ := hc t (by omega)
    rw [hy t (by omega), List.getElem?_eq_getElem ht] at h1
    cases h1; exact h3
  · have hi0 : i = 0 := by simpa using hi
    subst hi0
    rw [Nat.zero_mul, Nat.add_zero]
    exact hmv w b' o' hbw fun t ht u hu => hcw t u (by rw [← hy t ht]; exact hu)
theorem histE_movesG {W : World} {G : Nat → Prop} (hG : ∀ k, G k → k < W.heap.size) : Moves W 7 (histE G) (histE G) := by
  rintro b o x ⟨h0, h1, h2, h3, h4, hi, ⟨rv, h5, hr⟩, pv, h6, hp⟩
  have hr1 : rv.oneCell' = true := by obtain ⟨p, c, rfl, _⟩ := hr; rfl
  have hp1 : pv.oneCell' = true := by obtain ⟨p, c, rfl, _⟩ := hp; rfl
  refine ⟨fun t ht => ?_, fun w b' o' hb hc => ?_⟩
  · rcases (show t = 0 ∨ t = 1 ∨ t = 2 ∨ t = 3 ∨ t = 4 ∨ t = 5 ∨ t = 6 by omega) with rfl | rfl | rfl | rfl | rfl | rfl | rfl
    · exact ⟨_, h0, rfl⟩
    · exact ⟨_, h1, rfl⟩
    · exact ⟨_, h2, rfl⟩
    · exact ⟨_, h3, rfl⟩
    · exact ⟨_, h4, rfl⟩
    · exact ⟨_, h5, hr1⟩
    · exact ⟨_, h6, hp1⟩
  · have hs : Same G W w := fun k hk => hb.block k (hG k hk)
    exact ⟨hc 0 (by omega) _ h0, hc 1 (by omega) _ h1, hc 2 (by omega) _ h2, hc 3 (by omega) _ h3, hc 4 (by omega) _ h4, hi, ⟨rv, hc 5 (by omega) _ h5, hr.same hs⟩, pv, hc 6 (by omega) _ h6, hp.same hs⟩
end Sc

/- audit.saw: whether a history read what was written up to its begin. -/
namespace Go.Proofs
open Go.RowKit Sc Go.Sort

set_option maxRecDepth 100000 in
set_option maxHeartbeats 8000000 in
theorem saw_any (G : Nat → Prop) (n : Nat) (lv ov hv : Value) (l : List Hist) (h : Hist) (w : World) (n1 : 1 ≤ n) (n2 : n ≤ 1000000) (hG : Dom G w) (hl : HistsAt G w lv l) (ho : IntsAt G w ov ((ordI l).map fun i : Nat => (i : Int))) (hh : histV G w hv h) (hll : l.length ≤ 1000)
    (hmay : ∀ x ∈ l, mayB n x = true) (hmh : mayB n h = true) :
    Calls Try.prog 76 #[.int .i64 n, lv, ov, hv] w fun e w' => e = .returned (.bool (sawB l h)) ∧ Below w.heap.size w w' := by
  obtain ⟨rp, rc, pp, pc, rfl, hi, hrd, hpd⟩ := hh
  have hrl : h.reads.length ≤ rc ∧ rc ≤ 9223372036854775807 := by obtain ⟨_, _, e, h1, h2, _⟩ := hrd; cases e; exact ⟨h1, h2⟩
  obtain ⟨rb, ro, hR⟩ := SlAt.one (E := readE G) (k := 3) hrd
  have hl0 := hl
  obtain ⟨lp, lc, rfl, hll1, hll2, -⟩ := hl0
  obtain ⟨lb, lo, hC⟩ := SlAt.one (E := histE G) (k := 7) hl
  have ho0 := ho
  obtain ⟨op, oc, rfl, ho1, ho2, -⟩ := ho0
  obtain ⟨ob, oo, hO⟩ := SlAt.one (E := intE) (k := 1) ho
  rw [List.length_map] at ho1
  have hol := ordI_len l
  have hmx : ∀ r ∈ h.reads, blk n r.lba = true ∧ r.data.length = 40 := fun r hr => by
    have h1 := (mayB_iff.1 hmh).2.1
    rw [List.all_eq_true] at h1
    have := h1 r hr
    unfold blkA at this
    simp only [Bool.and_eq_true, decide_eq_true_eq] at this
    exact ⟨by unfold blk; simp; omega, this.2.2⟩
  have hlt : ∀ k ∈ ordI l, k < l.length := fun k hk => (mem_ordI.1 hk).1
  obtain ⟨bx, hbx⟩ : ∃ bx, w.heap.size = bx := ⟨_, rfl⟩
  have hS0 := ((Sep.start w).new (below_alloc w (.cells #[.int .i64 h.state, .int .i64 h.begun, .int .i64 h.time, .int .i64 h.since, .int .i64 h.upto, .slice rp h.reads.length rc, .slice pp h.puts.length pc] 45)) (BoxA w.heap.size #[.int .i64 h.state, .int .i64 h.begun, .int .i64 h.time, .int .i64 h.since, .int .i64 h.upto, .slice rp h.reads.length rc, .slice pp h.puts.length pc] 45) (F := New w (w.alloc (.cells #[.int .i64 h.state, .int .i64 h.begun, .int .i64 h.time, .int .i64 h.since, .int .i64 h.upto, .slice rp h.reads.length rc, .slice pp h.puts.length pc] 45))) (fun _ h => h) ⟨⟨Nat.le_refl _, by simp⟩, heap_alloc_new w _⟩).new (Below.refl _ _) (RowA 45 7 (.slice none 0 0) 0 []) (F := fun _ => False) (fun _ h => h.elim) ⟨World.ownsRow_nil _ _ _ _, by simp [Value.ownBlock]⟩
  rw [hbx] at hS0
  rw [List.length_map]
  have HR := Lib.hid hR
  have HC := Lib.hid hC
  have HO := Lib.hid hO
  have HG := Lib.hid hG
  have HMV : Hid (Moves w 7 (histE G) (histE G)) := histE_movesG hG
  have HBX := Lib.hid hbx
  have HS0 := Lib.hid hS0
  have HMAY := Lib.hid hmay
  have HMX := Lib.hid hmx
  have HLT := Lib.hid hlt
  clear hS0 hmay hmx hlt
  clear hrd hpd hl ho hR hC hO hG hi hmh
  go_enter Try.func76, Try.ntmps76
  go_wp2_with fail
  try (go_step3; go_wp2_with fail)
  go_loopw [9, 20] (fun s9 s20 wr => ∃ j cnt : Nat, ∃ pa ca, ∃ xs : List Value, j ≤ (ordI l).length ∧ cnt ≤ j ∧ s20 = .int .i64 j ∧ s9 = .slice pa cnt ca ∧ Hid (RowV w 7 (histE G) (aheadH l h ((ordI l).take j)) xs ∧ (aheadH l h ((ordI l).take j)).length = cnt) ∧
    Hid (Sep w [OldA w, BoxA bx #[.int .i64 h.state, .int .i64 h.begun, .int .i64 h.time, .int .i64 h.since, .int .i64 h.upto, .slice rp h.reads.length rc, .slice pp h.puts.length pc] 45, RowA 45 7 (.slice pa cnt ca) cnt xs] wr)) (fun _ i _ => (ordI l).length - (intOf i).toNat)
  case atStart => exact ⟨0, 0, none, 0, [], Nat.zero_le _, Nat.le_refl _, by go_num, rfl, ⟨by rw [List.take_zero]; exact RowV.nil _ _ _, rfl⟩, HS0⟩
  case round =>
    obtain ⟨j, cnt, pa, ca, xs, hj, hcj, rfl, rfl, HX, HS⟩ := hrel
    clear HS0
    have hup := HS.out.old
    by_cases hjl : j < (ordI l).length
    case pos =>
      obtain ⟨rfl, hGo, hoc, hoi⟩ := HO.out j (by rw [List.length_map]; exact hjl)
      rw [Nat.mul_one, List.getElem_map] at hoc
      replace hoc := cell_up hup hoc
      have hkl := HLT.out _ (List.getElem_mem hjl)
      have htk := take_snoc (ordI l) j hjl
      have hsn := aheadH_snoc (h := h) (o := (ordI l).take j) hkl
      rw [← htk] at hsn
      obtain ⟨rfl, hGl, he⟩ := HC.out _ hkl
      have hon := fun ys hy1 hy2 => RowV.one HMV.out he (ys := ys) hy1 hy2
      obtain ⟨hc0, hc1, hc2, hc3, hc4, hi, ⟨rv, hc5, hrd⟩, pv, hc6, hpd⟩ := he
      obtain ⟨rp2, rc2, rfl, -⟩ := hrd
      obtain ⟨pp2, pc2, rfl, -⟩ := hpd
      have hap : aheadP l h (ordI l)[j] = decide (l[(ordI l)[j]].time ≤ h.begun) := by unfold aheadP; rw [timeAt_lt hkl]
      rw [hap] at hsn
      have HON : Hid (RowV w 7 (histE G) [l[(ordI l)[j]]] [.int .i64 l[(ordI l)[j]].state, .int .i64 l[(ordI l)[j]].begun, .int .i64 l[(ordI l)[j]].time, .int .i64 l[(ordI l)[j]].since, .int .i64 l[(ordI l)[j]].upto, .slice rp2 l[(ordI l)[j]].reads.length rc2, .slice pp2 l[(ordI l)[j]].puts.length pc2]) := hon _ rfl fun t ht => by
        rcases (show t = 0 ∨ t = 1 ∨ t = 2 ∨ t = 3 ∨ t = 4 ∨ t = 5 ∨ t = 6 by omega) with rfl | rfl | rfl | rfl | rfl | rfl | rfl
        · exact hc0
        · exact hc1
        · exact hc2
        · exact hc3
        · exact hc4
        · exact hc5
        · exact hc6
      obtain ⟨FB, hFB, _⟩ := HS.out.get 1 rfl
      have hb1 : wr.cell? ⟨bx, 1, none⟩ = some (.int .i64 h.begun) := by rw [cell_row hFB.2]; rfl
      clear hFB
      replace hc0 := cell_up hup hc0
      replace hc1 := cell_up hup hc1
      replace hc2 := cell_up hup hc2
      replace hc3 := cell_up hup hc3
      replace hc4 := cell_up hup hc4
      replace hc5 := cell_up hup hc5
      replace hc6 := cell_up hup hc6
      generalize l[(ordI l)[j]] = y at *
      generalize (ordI l)[j] = k at *
      have hkI : (k : Int) < (l.length : Int) := by omega
      obtain ⟨st, bg, tm, fr, up, rds, pts⟩ := y
      simp only at hc0 hc1 hc2 hc3 hc4 hc5 hc6 hsn
      have HSN := Lib.hid hsn
      have HTK := Lib.hid htk
      have HUP := Lib.hid hup
      clear hsn htk hup
      clear hon hap hi hoi hGo hGl
      generalize rds.length = rn at *
      generalize pts.length = pn at *
      by_cases hle : tm ≤ h.begun
      case neg =>
        have HE : Hid (aheadH l h ((ordI l).take (j + 1)) = aheadH l h ((ordI l).take j)) := by have := HSN.out; rw [decide_eq_false hle] at this; unfold Hid; simpa using this
        go_wp2_with fail
        go_quiet (fail)
        go_wp2_with fail
        go_roundw
        case rel => exact ⟨j + 1, cnt, pa, ca, xs, by omega, by omega, by go_num, rfl, by rw [HE.out]; exact HX.out, HS.out.up (below_drewN (Below.refl _ _) _)⟩
        case measure => simp [intOf]; omega
      case pos =>
        have HE : Hid (aheadH l h ((ordI l).take (j + 1)) = aheadH l h ((ordI l).take j) ++ [⟨st, bg, tm, fr, up, rds, pts⟩]) := by have := HSN.out; rw [decide_eq_true hle] at this; unfold Hid; simpa using this
        go_wp2_with fail
        go_quiet (fail)
        have HS2 := Lib.hid (HS.out.up (below_drewN (Below.refl wr.heap.size wr) nq))
        go_upto_region 6 with fail
        obtain ⟨FA, hFA, _⟩ := HS2.out.get 2 rfl
        have hrowA := hFA.1
        obtain ⟨iiA, hiiA, hizA, hiyA, hixA⟩ := info_parts infoHist
        have HROWA := Lib.hid hrowA
        clear hFA hrowA
        go_wp2_with (at_builtin; refine wpList_append_lies _ rfl _ _ 42 rfl 0 45 iiA (.agg #[.int .i64 0, .int .i64 0, .int .i64 0, .int .i64 0, .int .i64 0, .slice none 0 0, .slice none 0 0]) 7 88 Try.underlying42 hiiA hizA hiyA hixA rfl (by decide) _ (cnt) (xs) rfl (HROWA.out.alloc _) ⟨(wr.drewN nq).heap.size, 0, none⟩ 1 1 [.int .i64 st, .int .i64 bg, .int .i64 tm, .int .i64 fr, .int .i64 up, .slice rp2 rn rc2, .slice pp2 pn pc2] rfl rfl (World.news_of_block (cs := #[.int .i64 st, .int .i64 bg, .int .i64 tm, .int .i64 fr, .int .i64 up, .slice rp2 rn rc2, .slice pp2 pn pc2]) (heap_alloc_new (wr.drewN nq) _)) (by simp [Value.oneCell']) (by decide) (by unfold maxLen; omega) (by omega) (Nat.zero_le _) ((wr.drewN nq).heap.size + 1) (by simp) ?_; intro gA cA wA hownA hgrowA hatA hltA)
        have hSA := HS2.out.row_app 2 rfl (below_alloc _ _) hownA hgrowA hatA (by simp) hltA
        clear hownA hgrowA hatA hltA hiiA hizA hiyA hixA
        have HSA := Lib.hid hSA
        clear hSA
        go_wp2_with fail
        go_roundw
        case rel =>
          refine ⟨j + 1, cnt + 1, _, _, _, by omega, by omega, by go_num, rfl, ⟨?_, ?_⟩, HSA.out⟩
          · rw [HE.out]; exact HX.out.1.append HON.out
          · rw [HE.out, List.length_append, HX.out.2]; rfl
        case measure => simp [intOf]; omega
    case neg =>
      have HXX : Hid (RowV w 7 (histE G) (aheadH l h (ordI l)) xs ∧ (aheadH l h (ordI l)).length = cnt) := by have := HX.out; rw [List.take_of_length_le (by omega)] at this; exact this
      clear HX
      obtain ⟨F2, hF2, hdF2⟩ := HS.out.get 2 rfl
      have hrow : wr.ownsRow 0 45 7 (.slice pa cnt ca) (aheadH l h (ordI l)).length xs := by rw [HXX.out.2]; exact hF2.1
      have hAA : HistsAt (Old wr) wr (.slice pa cnt ca) (aheadH l h (ordI l)) :=
        SlAt.mono (HXX.out.1.done hup hrow) (fun q hq => hdF2 q (hF2.2 q hq)) fun _ _ _ h => histE_mono h fun q hq => Nat.lt_of_lt_of_le (HG.out q hq) hup.size
      have hz := may_replay (n := n) (l := aheadH l h (ordI l)) fun x hx => HMAY.out x (aheadH_mem HLT.out hx)
      have hrel := (RelM.start n).all_runs (replay_ok.1 hz)
      have hrep := replay_any (Old wr) n (.slice pa cnt ca) (aheadH l h (ordI l)) wr n1 n2 (fun _ h => h) hAA (by have := aheadH_len l h (ordI l); omega)
      have HSQ : Hid (∀ r, sawAt l h r = (r.own || ((alook (runAll [] (ordP (aheadH l h (ordI l)))) r.lba).getD zeroB == r.data))) := fun r => rfl
      have h40 := hrel.len40
      unfold ReplaySaid at hrep
      rw [hz] at hrep
      generalize runAll [] (ordP (aheadH l h (ordI l))) = s at *
      have HREP := Lib.hid hrep
      have H40 := Lib.hid h40
      clear hrep h40
      clear hrow hAA hF2 hdF2 hz hrel
      go_wp2_with fail
      refine (HREP.out).mono ?_
      rintro e w3 ⟨hb3, hr3⟩
      rcases hr3 with ⟨_, vm, rfl, hm⟩ | ⟨hc, _⟩
      case inr => exact absurd rfl hc
      have hS3 := HS.out.new hb3 (ModelA vm n s) (fun _ h => h) hm
      obtain ⟨⟨bm, rm, mlm, rfl, _⟩, _⟩ := hm
      obtain ⟨FB, hFB, _⟩ := hS3.get 1 rfl
      have hb5 : w3.cell? ⟨bx, 5, none⟩ = some (.slice rp h.reads.length rc) := by rw [cell_row hFB.2]; rfl
      clear hFB
      have HS3 := Lib.hid hS3
      have HB3 := Lib.hid hb3
      clear hS3 hb3
      go_wp2_with fail
      try (go_step3; go_wp2_with fail)
      go_loopw [49] (fun i wr => ∃ j : Nat, j ≤ h.reads.length ∧ i = .int .i64 j ∧ Hid ((h.reads.take j).all (sawAt l h) = true) ∧ Hid (Sep w [OldA w, BoxA bx #[.int .i64 h.state, .int .i64 h.begun, .int .i64 h.time, .int .i64 h.since, .int .i64 h.upto, .slice rp h.reads.length rc, .slice pp h.puts.length pc] 45, RowA 45 7 (.slice pa cnt ca) cnt xs, ModelA (.pointer (some ⟨bm, 0, none⟩)) n s] wr)) (fun i _ => h.reads.length - (intOf i).toNat)
      case atStart => exact ⟨0, Nat.zero_le _, rfl, by unfold Hid; simp, HS3⟩
      case round =>
        obtain ⟨j2, hj2, rfl, HA, HS4⟩ := hrel
        clear HS3 HS
        have hup4 := HS4.out.old
        by_cases hjr : j2 < h.reads.length
        case neg =>
          have HF : Hid (sawB l h = true) := by have := HA.out; rw [List.take_of_length_le (by omega)] at this; exact this
          go_wp2
          try rw [Exit.noGoto_ret]
          go_ret
          exact ⟨congrArg boolRet HF.out.symm, HS4.out.old⟩
        case pos =>
          obtain ⟨rfl, hGb, hc0, hi0, ⟨dv, hc1, hd⟩, hc2⟩ := HR.out j2 hjr
          have hd0 := hd
          obtain ⟨dp, dc, rfl, -⟩ := hd0
          replace hc0 := cell_up hup4 hc0
          replace hc1 := cell_up hup4 hc1
          replace hc2 := cell_up hup4 hc2
          have hd4 := BytesAt.up hd hup4
          have hall : (h.reads.take (j2 + 1)).all (sawAt l h) = sawAt l h h.reads[j2] := by
            rw [take_snoc h.reads j2 hjr, List.all_append, HA.out]; simp
          have hbad : sawAt l h h.reads[j2] = false → sawB l h = false := fun e => List.all_eq_false.2 ⟨_, List.getElem_mem hjr, by rw [e]; decide⟩
          have hmb := HMX.out _ (List.getElem_mem hjr)
          rw [HSQ.out] at hall hbad
          generalize h.reads[j2] = y at *
          obtain ⟨lba, data, own⟩ := y
          simp only at hc0 hc1 hc2 hall hbad hmb hd4
          have hnew := heap_alloc_new wr (.cells #[.int .i64 lba, .slice dp data.length dc, .bool own] 70)
          have hba := below_alloc wr (.cells #[.int .i64 lba, .slice dp data.length dc, .bool own] 70)
          have hq1 : (wr.alloc (.cells #[.int .i64 lba, .slice dp data.length dc, .bool own] 70)).cell? ⟨wr.heap.size, 1, none⟩ = some (.slice dp data.length dc) := by rw [cell_row hnew]; rfl
          have HS5 := Lib.hid (HS4.out.up hba)
          have hd5 := BytesAt.up hd4 hba
          have HALL := Lib.hid hall
          have HBAD := Lib.hid hbad
          have HMB := Lib.hid hmb
          have HD5 := Lib.hid hd5
          have HQ1 := Lib.hid hq1
          clear hall hbad hmb hd5 hq1
          clear hd hd4 hnew hi0 hGb
          generalize data.length = m at *
          cases own with
          | true =>
            have HAL : Hid ((h.reads.take (j2 + 1)).all (sawAt l h) = true) := by rw [HALL.out]; rfl
            go_wp2_with fail
            go_roundw
            case rel => exact ⟨j2 + 1, by omega, by go_num, HAL, HS5⟩
            case measure => simp [intOf]; omega
          | false =>
            obtain ⟨Fm, hFm, _⟩ := HS5.out.get 3 rfl
            go_wp2_with fail
            refine (modelGet_any Fm _ n lba s _ hFm H40.out).mono ?_
            rintro e w6 (⟨h0, _⟩ | ⟨_, vg, rfl, hvg, hb6⟩)
            · exact absurd HMB.out.1 (by rw [h0]; decide)
            have hq6 := cell_up hb6 HQ1.out
            have HD6 := Lib.hid (BytesAt.up HD5.out hb6)
            have HS6 := Lib.hid (HS5.out.up hb6)
            have HVG := Lib.hid hvg
            clear hvg hb6 hFm
            go_wp2_with fail
            refine (bytesEq_any (fun _ => True) _ _ ((alook s lba).getD zeroB) data _ (BytesAt.mono HVG.out fun _ _ => trivial) (BytesAt.mono HD6.out fun _ _ => trivial)).mono ?_
            rintro e w7 ⟨rfl, rfl⟩
            have hal2 := HALL.out
            have hbd2 := HBAD.out
            rw [Bool.false_or] at hal2 hbd2
            generalize ((alook s lba).getD zeroB == data) = qq at *
            have HAL2 := Lib.hid hal2
            have HBD2 := Lib.hid hbd2
            clear hal2 hbd2
            cases qq with
            | true =>
              go_wp2_with fail
              go_roundw
              case rel => exact ⟨j2 + 1, by omega, by go_num, HAL2, HS6⟩
              case measure => simp [intOf]; omega
            | false =>
              have HF : Hid (sawB l h = false) := HBD2.out (by simp)
              go_wp2
              try rw [Exit.noGoto_ret]
              go_ret
              exact ⟨congrArg boolRet HF.out.symm, HS6.out.old⟩
end Go.Proofs

/- Regions that draw their order, walked operation by operation: what only reads may be taken as soon as it is ready, if it reads the same in every world of a class in which all that follows stays. Of no program. -/
namespace Sc
open Go
section
variable {P : Program} {ops : Array Oper} {Q : Exit → Act → World → Prop} {md : Region.Mode}

/-- What an operation leaves differs from what it got by its own temporary (and by what is deferred). -/
theorem wpOp_track {j : Nat} {oj : Oper} (hj : ops[j]? = some oj) {K : Act → World → Prop} {a : Act} {w : World} (h : wpOp P ops Q j K a w) :
    wpOp P ops Q j (fun a' w' => K a' w' ∧ ∃ u ds, a' = Act.put { a with defers := ds } oj.dst u) a w := by
  unfold wpOp at *
  simp only [hj] at *
  split
  · rename_i hw
    simp only [hw, if_true] at h
    rcases h with h | h
    · refine .inl ?_
      unfold Oper.wp at *
      generalize (execOp a.eval oj).run P w = r at *
      cases r with
      | ok n w' =>
        cases n <;> simp only [Oper.upon] at h ⊢
        case value u => exact ⟨h, u, a.defers, rfl⟩
        case skip => exact ⟨h, undef, a.defers, rfl⟩
        case defer d => exact ⟨h, undef, d :: a.defers, rfl⟩
        case enter f args =>
          refine Calls.mono h fun e w'' he => ?_
          cases e with
          | returned u => exact ⟨he, u, a.defers, rfl⟩
          | panicked c => exact he
          | outgrown => exact he
        case row row args => exact Rows.mono h fun u w'' he => ⟨he, u, a.defers, rfl⟩
      | halt x w' => cases x <;> simp only [Oper.upon] at h ⊢ <;> exact h
    · exact .inr h
  · rename_i hw
    simp only [hw] at h
    exact ⟨h, undef, a.defers, rfl⟩

/-- Whatever order is picked from here on, every state lying in a world of G. -/
def wpG (P : Program) (md : Region.Mode) (ops : Array Oper) (Q : Exit → Act → World → Prop) (G : World → Prop) : Nat → Array Bool → Act → World → Prop
  | 0, listed, a, w => G w ∧ Region.ready md ops listed = [] ∧ Q .normal a w
  | fuel + 1, listed, a, w =>
    G w ∧ (Region.ready md ops listed = [] → Q .normal a w) ∧
    ∀ i ∈ Region.ready md ops listed, wpOp P ops Q i (wpG P md ops Q G fuel (listed.setIfInBounds i true)) a w
theorem wpG.g {G : World → Prop} : ∀ {fuel : Nat} {listed : Array Bool} {a : Act} {w : World}, wpG P md ops Q G fuel listed a w → G w
  | 0, _, _, _, h => h.1
  | _ + 1, _, _, _, h => h.1
theorem wpG.any {G : World → Prop} : ∀ {fuel : Nat} {listed : Array Bool} {a : Act} {w : World}, wpG P md ops Q G fuel listed a w → wpAny P md ops Q fuel listed a w
  | 0, _, _, _, h => h.2
  | _ + 1, _, _, _, h => ⟨h.2.1, fun i hi => wpOp_mono (fun _ _ h => wpG.any h) (h.2.2 i hi)⟩
theorem wpG.wide {G G' : World → Prop} (hg : ∀ w, G w → G' w) : ∀ {fuel : Nat} {listed : Array Bool} {a : Act} {w : World}, wpG P md ops Q G fuel listed a w → wpG P md ops Q G' fuel listed a w
  | 0, _, _, _, h => ⟨hg _ h.1, h.2⟩
  | _ + 1, _, _, _, h => ⟨hg _ h.1, h.2.1, fun i hi => wpOp_mono (fun _ _ h => wpG.wide hg h) (h.2.2 i hi)⟩

/-- In every world of G the operation yields v, and leaves the world. -/
def YieldsG (P : Program) (ops : Array Oper) (G : World → Prop) (o : Oper) (v : Value) (a : Act) : Prop :=
  (Region.wanted o (yielded ops a.tmps) = true ∧ ∀ w, G w → (execOp a.eval o).run P w = .ok (.value v) w) ∨
  (Region.wanted o (yielded ops a.tmps) = false ∧ v = undef)
theorem YieldsG.wpOp {G : World → Prop} {i : Nat} {o : Oper} {v : Value} {a : Act} (hi : ops[i]? = some o) (hy : YieldsG P ops G o v a) {K : Act → World → Prop} {w : World} (hG : G w) (h : K (a.put o.dst v) w) : wpOp P ops Q i K a w := by
  unfold Go.wpOp
  simp only [hi]
  rcases hy with ⟨hw, hv⟩ | ⟨hw, rfl⟩
  · rw [if_pos hw]
    refine .inl ?_
    unfold Oper.wp
    rw [hv w hG]
    exact h
  · rw [if_neg (by rw [hw]; decide)]
    exact h
theorem YieldsG.track {G : World → Prop} {oi oj : Oper} {v : Value} {a : Act} (hs : ∀ cs b, oi.op ≠ .select cs b) (hd : ∀ d, oj.dst = some d → d ∉ oi.looksAt ops) (hy : YieldsG P ops G oi v a) (u : Value) (ds : List Deferred) : YieldsG P ops G oi v (Act.put { a with defers := ds } oj.dst u) := by
  unfold YieldsG at *
  rw [wanted_put oi { a with defers := ds } oj.dst u hd, execOp_put oi hs { a with defers := ds } oj.dst u hd]
  exact hy
/-- The same temporary, filled by nothing that is looked at. -/
theorem fake_apart {oi oj : Oper} {v : Value} (h : oi.apart ops oj = true) : ({ oi with op := .move (.const v), guard := none } : Oper).apart ops oj = true := by
  obtain ⟨h1, h2, h3⟩ := Oper.apart_spec h
  unfold Oper.apart
  simp only [Bool.and_eq_true]
  constructor
  · cases hd : oi.dst with
    | none => rfl
    | some d =>
      simp only [Bool.and_eq_true, Bool.not_eq_true', bne_iff_ne, ne_eq]
      exact ⟨by simpa using h1 d hd, h2 d hd⟩
  · cases hd : oj.dst with
    | none => rfl
    | some d => simp [Oper.looksAt, Op.operands]
theorem fake_yields {oi : Oper} {v : Value} (a : Act) : Yields P ops ({ oi with op := .move (.const v), guard := none } : Oper) v a :=
  .inl ⟨by simp [Region.wanted], fun w => by simp [execOp, Act.eval]⟩
theorem takeG_all {G : World → Prop} {i : Nat} {oi : Oper} {v : Value} (hi : ops[i]? = some oi) (hsel : ∀ (j : Nat) (o : Oper) cs b, ops[j]? = some o → o.op ≠ .select cs b)
    (hQ : ∀ c a w, Q (.panic c) (a.put oi.dst v) w → Q (.panic c) a w) :
    ∀ (fuel : Nat) (listed : Array Bool) (a : Act) (w : World),
      (∀ j oj, ops[j]? = some oj → j ≠ i → listed.getD j true = false → (∀ e ∈ oj.after, Region.binds md e = true → e.on ≠ i) → oi.apart ops oj = true) →
      i ∈ Region.ready md ops listed → YieldsG P ops G oi v a →
      wpG P md ops Q G fuel (listed.setIfInBounds i true) (a.put oi.dst v) w → wpG P md ops Q G (fuel + 1) listed a w := by
  intro fuel
  induction fuel with
  | zero =>
    intro listed a w _ hr hy H
    refine ⟨H.1, fun h => absurd (h ▸ hr) (by simp), fun j hj => ?_⟩
    by_cases hji : j = i
    · subst hji; exact hy.wpOp hi H.1 H
    · exact absurd (H.2.1 ▸ ready_mono hj hji) (by simp)
  | succ fuel ih =>
    intro listed a w hfree hr hy H
    refine ⟨H.1, fun h => absurd (h ▸ hr) (by simp), fun j hj => ?_⟩
    by_cases hji : j = i
    · subst hji; exact hy.wpOp hi H.1 H
    · obtain ⟨hjun, oj, hoj, hall⟩ := mem_ready.1 hj
      have hiun := (mem_ready.1 hr).1
      have hap := hfree j oj hoj hji hjun fun e he hb heq => by
        have h1 := hall e he hb
        rw [heq, Array.getD_eq_getD_getElem?] at h1
        rw [Array.getD_eq_getD_getElem?] at hiun
        cases hx : listed[i]? with
        | none => rw [hx] at h1; cases h1
        | some b => rw [hx] at h1 hiun; simp only [Option.getD_some] at h1 hiun; rw [h1] at hiun; cases hiun
      have h1 := H.2.2 j (ready_mono hj hji)
      have h2 := wpOp_track hoj (wpOp_put hoj (fake_apart (v := v) hap) (fun cs b e => by cases e) (fun cs b => hsel j oj cs b hoj) hQ (fake_yields a) h1)
      refine wpOp_mono (fun a' w' h3 => ?_) h2
      obtain ⟨⟨_, h4⟩, u, ds, rfl⟩ := h3
      refine ih _ _ w' (fun k ok hk hki hun hno => hfree k ok hk hki ?_ hno) (ready_mono hr (Ne.symm hji)) (hy.track (fun cs b => hsel i oi cs b hi) (Oper.apart_spec hap).2.2 u ds) ?_
      · by_cases hjk : j = k
        · subst hjk; exact hjun
        · rw [getD_set_ne true hjk] at hun; exact hun
      · rw [Array.setIfInBounds_comm _ _ hji]; exact h4
/-- An operation that only reads is taken as soon as it is ready. -/
theorem wpG.take {G : World → Prop} (i : Nat) {oi : Oper} {v : Value} {fuel : Nat} {listed : Array Bool} {a a' : Act} {w : World} (hi : ops[i]? = some oi) (hs : Region.noSelect ops = true) (hf : Region.free md ops listed i = true) (hr : (Region.ready md ops listed).contains i = true)
    (hw : Region.wanted oi (yielded ops a.tmps) = true) (hQ : ∀ c a w, Q (.panic c) (a.put oi.dst v) w → Q (.panic c) a w) (hy : ∀ w, G w → (execOp a.eval oi).run P w = .ok (.value v) w) (ha : a.put oi.dst v = a')
    (h : wpG P md ops Q G fuel (listed.setIfInBounds i true) a' w) : wpG P md ops Q G (fuel + 1) listed a w := by
  subst ha
  exact takeG_all hi (Region.noSelect_spec hs) hQ fuel listed a w (Region.free_spec hi hf) (by simpa using hr) (.inl ⟨hw, hy⟩) h
/-- One that its guard leaves out. -/
theorem wpG.skip {G : World → Prop} (i : Nat) {oi : Oper} {fuel : Nat} {listed : Array Bool} {a a' : Act} {w : World} (hi : ops[i]? = some oi) (hs : Region.noSelect ops = true) (hf : Region.free md ops listed i = true) (hr : (Region.ready md ops listed).contains i = true)
    (hw : Region.wanted oi (yielded ops a.tmps) = false) (hQ : ∀ c a w, Q (.panic c) (a.put oi.dst undef) w → Q (.panic c) a w) (ha : a.put oi.dst undef = a')
    (h : wpG P md ops Q G fuel (listed.setIfInBounds i true) a' w) : wpG P md ops Q G (fuel + 1) listed a w := by
  subst ha
  exact takeG_all hi (Region.noSelect_spec hs) hQ fuel listed a w (Region.free_spec hi hf) (by simpa using hr) (.inr ⟨hw, rfl⟩) h
/-- One that stands alone: a call, a store, an allocation. -/
theorem wpG.alone {G : World → Prop} (i : Nat) {oi : Oper} {fuel : Nat} {listed : Array Bool} {a : Act} {w : World} (hi : ops[i]? = some oi) (hr : Region.ready md ops listed = [i]) (hw : Region.wanted oi (yielded ops a.tmps) = true) (hG : G w)
    (h : ∀ K : Act → World → Prop, (∀ a w, wpG P md ops Q G fuel (listed.setIfInBounds i true) a w → K a w) → oi.wp P a w K Q) : wpG P md ops Q G (fuel + 1) listed a w := by
  refine ⟨hG, fun h0 => absurd (hr ▸ h0) (by simp), fun j hj => ?_⟩
  rw [hr, List.mem_singleton] at hj
  subst hj
  unfold Go.wpOp
  simp only [hi]
  rw [if_pos hw]
  exact .inl (h _ fun _ _ h => h)
theorem wpG.done {G : World → Prop} {fuel : Nat} {listed : Array Bool} {a : Act} {w : World} (hr : Region.ready md ops listed = []) (hG : G w) (h : Q .normal a w) : wpG P md ops Q G fuel listed a w := by
  cases fuel with
  | zero => exact ⟨hG, hr, h⟩
  | succ n => exact ⟨hG, fun _ => h, by rw [hr]; simp⟩
theorem wp_regionG {id : Nat} (G : World → Prop) {a : Act} {w : World} {l : List Oper} (hm : P.follows .mixedOrders = true) {n : Nat} (hn : l.length = n)
    (h : wpG P .any l.toArray Q G n (Array.replicate n false) a w.drew) : (Code.region id l.toArray true).wp P Q a w := by
  refine wp_region_any hm ?_
  have : l.toArray.size = n := by simpa using hn
  rw [this]
  exact h.any
end
end Sc
