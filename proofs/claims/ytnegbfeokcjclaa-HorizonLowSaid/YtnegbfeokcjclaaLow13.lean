/- HorizonLow: the least time is no more than anybody's who is there, is somebody's or now's, and does not fall while nobody comes: for every input the law returns true. -/
import Derived.Test.YtnegbfeokcjclaaBookSep
namespace Go.Proofs
open Go.RowKit Sc

/-- Handles that were opened at these times. -/
def tmL (l : List Int) : List (Int × Int) := (List.range l.length).map fun i : Nat => ((i : Int) + 1, l.getD i 0)
theorem tmL_length (l : List Int) : (tmL l).length = l.length := by simp [tmL]
theorem tmL_snoc (l : List Int) (x : Int) : tmL (l ++ [x]) = tmL l ++ [((l.length : Int) + 1, x)] := by
  unfold tmL
  rw [List.length_append, List.length_singleton, List.range_succ, List.map_append]
  congr 1
  · refine List.map_congr_left fun i hi => ?_
    have := List.mem_range.1 hi
    simp [List.getD, List.getElem?_append_left this]
  · simp [List.getD]
theorem tmL_mem {l : List Int} {x : Int × Int} (h : x ∈ tmL l) : 1 ≤ x.1 ∧ x.1 ≤ l.length ∧ l[(x.1 - 1).toNat]? = some x.2 := by
  obtain ⟨i, hi, rfl⟩ := List.mem_map.1 h
  have := List.mem_range.1 hi
  simp only
  refine ⟨by omega, by omega, ?_⟩
  rw [show ((i : Int) + 1 - 1).toNat = i by omega, List.getElem?_eq_getElem this]
  simp [List.getD, this]
theorem tmL_keyed (l : List Int) (hl : l.length ≤ 1000000) : Keyed l.length (tmL l) := ⟨by omega, by omega, fun x hx => by have := tmL_mem hx; omega, by rw [tmL_length]; exact hl⟩
theorem tmL_nodup (l : List Int) : ((tmL l).map (·.1)).Nodup := by
  unfold tmL
  rw [List.map_map]
  exact (List.pairwise_map.2 (List.pairwise_lt_range.imp fun h => by simp only [Function.comp]; omega))
theorem lowOf_sub {l m : List Int} (h : ∀ x ∈ l, x ∈ m) (now : Int) : lowOf now m ≤ lowOf now l := by
  obtain ⟨h1, h2, h3⟩ := lowOf_le l now
  obtain ⟨k1, k2, k3⟩ := lowOf_le m now
  rcases h3 with h3 | h3
  · omega
  · exact k2 _ (h _ h3)

set_option maxRecDepth 100000 in
set_option maxHeartbeats 2000000 in
theorem low13_any (vl vc : Value) (l c : List Int) (now : Int) (w : World) (hl : IntsAt (Old w) w vl l) (hc : IntsAt (Old w) w vc c) : Calls Try.prog 9 #[vl, vc, .int .i64 now] w (Tru w) := by
  have HL := Lib.hid hl
  have HC := Lib.hid hc
  obtain ⟨lp, lc, rfl, hll, hlc, _, _⟩ := hl
  obtain ⟨cp, cc, rfl, hcl, hcc, _, _⟩ := hc
  by_cases hg : 100 < l.length ∨ 200 < c.length ∨ now < 0 ∨ 1099511627776 < now
  · by_cases h1 : 100 < l.length
    · have h1' : (100 : Int) < (l.length : Int) := by omega
      go_enter Try.func9, Try.ntmps9
      go_wp2_with fail
      refine (awake13 _).mono ?_
      rintro e w1 ⟨rfl, hb1⟩
      go_wp2
      go_ret
      exact ⟨rfl, hb1⟩
    · have h1' : (l.length : Int) ≤ 100 := by omega
      by_cases h2 : 200 < c.length
      · have h2' : (200 : Int) < (c.length : Int) := by omega
        go_enter Try.func9, Try.ntmps9
        go_wp2_with fail
        refine (awake13 _).mono ?_
        rintro e w1 ⟨rfl, hb1⟩
        go_wp2
        go_ret
        exact ⟨rfl, hb1⟩
      · have h2' : (c.length : Int) ≤ 200 := by omega
        by_cases h3 : now < 0
        · go_enter Try.func9, Try.ntmps9
          go_wp2_with fail
          refine (awake13 _).mono ?_
          rintro e w1 ⟨rfl, hb1⟩
          go_wp2
          go_ret
          exact ⟨rfl, hb1⟩
        · have h3' : 0 ≤ now := by omega
          have h4' : 1099511627776 < now := by omega
          go_enter Try.func9, Try.ntmps9
          go_wp2_with fail
          refine (awake13 _).mono ?_
          rintro e w1 ⟨rfl, hb1⟩
          go_wp2
          go_ret
          exact ⟨rfl, hb1⟩
  have g1 : (l.length : Int) ≤ 100 := by omega
  have g2 : (c.length : Int) ≤ 200 := by omega
  have g3 : 0 ≤ now := by omega
  have g4 : now ≤ 1099511627776 := by omega
  clear hg
  go_enter Try.func9, Try.ntmps9
  go_wp2_with fail
  refine (bookNew_sep (Sep.start w) 1000).mono ?_
  rintro e w1 ⟨b, rfl, hS1⟩
  have HS1 := Lib.hid hS1
  clear hS1
  go_wp2_with fail
  go_loopw [8] (fun i wr => ∃ k : Nat, k ≤ l.length ∧ i = .int .i64 k ∧ Hid (Sep w [OldA w, BookA (.pointer (some ⟨b, 0, none⟩)) 1000 (k : Int) (tmL (l.take k))] wr) ∧ Hid (∀ x ∈ l.take k, 0 ≤ x ∧ x ≤ 1099511627776)) (fun i _ => l.length - (intOf i).toNat)
  case atStart => exact ⟨0, by omega, rfl, by unfold Hid; simpa [tmL] using HS1.out, by unfold Hid; simp⟩
  case round =>
    obtain ⟨k, hk, rfl, HS, HX⟩ := hrel
    by_cases hlt : k < l.length
    · obtain ⟨p', c', hv', _, _, _, g5⟩ := HL.out.up HS.out.old
      cases hv'
      obtain ⟨bb, o, rfl, hgb, hck, hki⟩ := g5 k hlt
      rw [Nat.mul_one] at hck
      have hts := take_snoc l k hlt
      have hlen : (l.take k).length = k := by rw [List.length_take]; omega
      generalize l[k] = x at hck hki hts
      have hkey : Keyed (k : Int) (tmL (l.take k)) := by have := tmL_keyed (l.take k) (by omega); rwa [hlen] at this
      have htl : (tmL (l.take k)).length = k := by rw [tmL_length, hlen]
      have hx0 := HX.out
      have HX0 := Lib.hid hx0
      have HTS := Lib.hid hts
      have HLEN := Lib.hid hlen
      have HKEY := Lib.hid hkey
      have HTL := Lib.hid htl
      clear hx0 hts hlen hkey htl
      clear g5
      by_cases hr : x < 0 ∨ 1099511627776 < x
      · have hok : OpenOk 1000 (tmL (l.take k)) x = 1 := by unfold OpenOk; rw [if_pos hr]
        have hcases : x < 0 ∨ (0 ≤ x ∧ 1099511627776 < x) := by omega
        have HOK := Lib.hid hok
        clear hok
        clear hr
        have hpos : (if OpenOk 1000 (tmL (l.take k)) x = 0 then (k : Int) + 1 else 0) = 0 := by rw [if_neg (by rw [HOK.out]; decide)]
        have HPOS := Lib.hid hpos
        clear hpos
        rcases hcases with hr | ⟨hr0, hr⟩
        all_goals
          go_wp2_with fail
          refine (bookOpen_sep HS.out 1 rfl HKEY.out x).mono ?_
          rintro e w2 ⟨rfl, hS2⟩
          rw [HPOS.out, HOK.out]
          have hck2 := (hS2.old.cell (p := ⟨bb, o + k, none⟩) hgb).trans ((HS.out.old.cell (p := ⟨bb, o + k, none⟩) hgb).symm.trans hck)
          have HS2 := Lib.hid hS2
          clear hS2
          go_wp2_with fail
          refine (awake13 _).mono ?_
          rintro e w3 ⟨rfl, hb3⟩
          have hS3 := HS2.out.up hb3
          have HS3 := Lib.hid hS3
          clear hS3
          go_wp2_with fail
          go_ret
          exact ⟨rfl, HS3.out.old⟩
      · have hok : OpenOk 1000 (tmL (l.take k)) x = 0 := by unfold OpenOk; rw [if_neg hr, if_neg (by rw [HTL.out]; omega)]
        have hlast : openLast 1000 (k : Int) (tmL (l.take k)) x = ((k + 1 : Nat) : Int) := by unfold openLast; rw [if_pos hok]; omega
        have htm : openTm 1000 (k : Int) (tmL (l.take k)) x = tmL (l.take (k + 1)) := by
          unfold openTm; rw [if_pos hok, HTS.out, tmL_snoc, HLEN.out]
        have hpos : (if OpenOk 1000 (tmL (l.take k)) x = 0 then (k : Int) + 1 else 0) = (k : Int) + 1 := by rw [if_pos hok]
        have hr1 : 0 ≤ x := by omega
        have hr2 : x ≤ 1099511627776 := by omega
        have HOK := Lib.hid hok
        have HLAST := Lib.hid hlast
        have HTM := Lib.hid htm
        have HPOS := Lib.hid hpos
        clear hok hlast htm hpos
        clear hr
        go_wp2_with fail
        refine (bookOpen_sep HS.out 1 rfl HKEY.out x).mono ?_
        rintro e w2 ⟨rfl, hS2⟩
        rw [HPOS.out, HOK.out]
        rw [HLAST.out, HTM.out] at hS2
        have HS2 := Lib.hid hS2
        clear hS2
        go_wp2_with fail
        go_roundw
        case rel =>
          refine ⟨k + 1, by omega, by go_num, HS2.out, fun y hy => ?_⟩
          rw [HTS.out] at hy
          rcases List.mem_append.1 hy with hy | hy
          · exact HX0.out y hy
          · rw [List.mem_singleton] at hy; subst hy; exact ⟨hr1, hr2⟩
        case measure => simp [intOf]; omega
    · have hkl : k = l.length := by omega
      subst hkl
      have hS := HS.out
      rw [List.take_length] at hS
      obtain ⟨F, hF, _⟩ := hS.get 1 rfl
      have HS := Lib.hid hS
      have HF := Lib.hid hF
      clear hS hF
      go_wp2_with fail
      refine (bookLow_any F _ _ _ _ now _ HF.out).mono ?_
      rintro e w2 ⟨rfl, hb2⟩
      have hS2 := HS.out.up hb2
      have HS2 := Lib.hid hS2
      have HB2 := Lib.hid hb2
      clear hS2 hb2
      have hll2 : l.length ≤ 100 := by omega
      go_wp2_with fail
      obtain ⟨W2, rfl⟩ : ∃ W2 : World, W2 = wr := ⟨_, rfl⟩
      go_loopw [11, 12] (fun s i wr => ∃ k : Nat, ∃ q tm, k ≤ c.length ∧ i = .int .i64 k ∧ s = .int .i64 q ∧ Hid (Sep w [OldA w, BookA (.pointer (some ⟨b, 0, none⟩)) 1000 (l.length : Int) tm] wr) ∧ Hid (tm.Sublist (tmL l) ∧ q = lowOf now (tm.map (·.2)))) (fun _ i _ => c.length - (intOf i).toNat)
      case atStart => exact ⟨0, _, _, by omega, rfl, rfl, HS2.out, List.Sublist.refl _, rfl⟩
      case round =>
        obtain ⟨k, q, tm, hk, rfl, rfl, HT, HM⟩ := hrel
        by_cases hlt : k < c.length
        case neg =>
          go_wp2_with fail
          refine (awake13 _).mono ?_
          rintro e w3 ⟨rfl, hb3⟩
          have hS3 := HT.out.up hb3
          have HS3 := Lib.hid hS3
          clear hS3
          go_wp2_with fail
          go_ret
          exact ⟨rfl, HS3.out.old⟩
        case pos =>
          obtain ⟨p', c', hv', _, _, _, g5⟩ := HC.out.up HT.out.old
          cases hv'
          obtain ⟨bb, o, rfl, hgb, hck, hki⟩ := g5 k hlt
          rw [Nat.mul_one] at hck
          generalize c[k] = x at hck hki
          clear g5
          go_wp2_with fail
          refine (bookClose_sep HT.out 1 rfl x).mono ?_
          rintro e w3 ⟨rfl, hS3⟩
          have hsub : (adel tm x).Sublist (tmL l) := (adel_sublist tm x).trans HM.out.1
          have hq : q ≤ lowOf now ((adel tm x).map (·.2)) := by
            rw [HM.out.2]
            exact lowOf_sub (fun y hy => ((adel_sublist tm x).map _).subset hy) now
          generalize hcode : (if (alook tm x).isSome then (0 : Int) else 14) = code
          generalize adel tm x = tm' at hS3 hsub hq
          have hnd : (tm'.map (·.1)).Nodup := (tmL_nodup l).sublist (hsub.map _)
          obtain ⟨hlo1, hlo2, hlo3⟩ := lowOf_le (tm'.map (·.2)) now
          generalize hlow : lowOf now (tm'.map (·.2)) = low at *
          obtain ⟨F, hF, _⟩ := hS3.get 1 rfl
          have HS3 := Lib.hid hS3
          have HF := Lib.hid hF
          have HSUB := Lib.hid hsub
          have HND := Lib.hid hnd
          have HLO2 := Lib.hid hlo2
          have HLO3 := Lib.hid hlo3
          have HLOW := Lib.hid hlow
          have HCODE := Lib.hid hcode
          clear hS3 hF hsub hnd hlo2 hlo3 hlow hcode
          clear hck
          go_wp2_with fail
          refine (bookLow_any F _ _ _ _ now _ HF.out).mono ?_
          rintro e w4 ⟨rfl, hb4⟩
          rw [HLOW.out]
          have hS4 := HS3.out.up hb4
          obtain ⟨F, hF, _⟩ := hS4.get 1 rfl
          have HS4 := Lib.hid hS4
          have HB4 := Lib.hid hb4
          have HF := Lib.hid hF
          clear hS4 hb4 hF
          have hln : tm'.length ≤ 100 := by have := HSUB.out.length_le; rw [tmL_length] at this; omega
          go_wp2_with fail
          refine (bookList_any F _ _ _ _ _ HF.out (by omega)).mono ?_
          rintro e w5 ⟨kv, rfl, hrow, hb5⟩
          have hkp : (keysUp (tm'.map (·.1))).Perm (tm'.map (·.1)) := List.mergeSort_perm _ _
          have hkl : (keysUp (tm'.map (·.1))).length = tm'.length := by rw [hkp.length_eq, List.length_map]
          have hkx : ∀ y ∈ keysUp (tm'.map (·.1)), ∃ j : Nat, y = (j : Int) + 1 ∧ ∃ t, l[j]? = some t ∧ alook tm' y = some t ∧ low ≤ t := by
            intro y hy
            obtain ⟨z, hz, rfl⟩ := List.mem_map.1 (hkp.subset hy)
            obtain ⟨h1, h2, h3⟩ := tmL_mem (HSUB.out.subset hz)
            refine ⟨(z.1 - 1).toNat, by omega, z.2, h3, alook_mem HND.out (n := z.1) (v := z.2) hz, HLO2.out z.2 (List.mem_map.2 ⟨z, hz, rfl⟩)⟩
          have hS5 := HS4.out.new hb5 (RowA 3 1 kv (tm'.map (·.1)).length ((keysUp (tm'.map (·.1))).map (Value.int .i64))) (F := New w4 w5) (fun _ h => h) ⟨ownsRow_lower hrow (Nat.zero_le _), fun g hg => hrow.lt g hg⟩
          rw [List.length_map] at hrow hS5
          obtain ⟨kp, kc, rfl⟩ := shape_row hrow
          generalize hks : keysUp (tm'.map (·.1)) = ks at *
          have HS5 := Lib.hid hS5
          have HROW := Lib.hid hrow
          have HB5 := Lib.hid hb5
          have HKP := Lib.hid hkp
          have HKL := Lib.hid hkl
          have HKX := Lib.hid hkx
          have HKS := Lib.hid hks
          clear hS5 hrow hb5 hkp hkl hkx hks
          clear HF
          go_wp2_with fail
          obtain ⟨W5, rfl⟩ : ∃ W5 : World, W5 = wr := ⟨_, rfl⟩
          go_loopw [14, 16] (fun s i wr => ∃ j : Nat, j ≤ tm'.length ∧ i = .int .i64 j ∧ s = .bool ((low == now) || (ks.take j).any fun y => (alook tm' y).getD 0 == low) ∧ Hid (Sep w ([OldA w, BookA (.pointer (some ⟨b, 0, none⟩)) 1000 (l.length : Int) tm'] ++ [RowA 3 1 (.slice kp tm'.length kc) tm'.length (ks.map (Value.int .i64))]) wr)) (fun _ i _ => tm'.length - (intOf i).toNat)
          case atStart => exact ⟨0, by omega, rfl, by simp, HS5.out⟩
          case round =>
            obtain ⟨j, hj, rfl, rfl, HT2⟩ := hrel
            by_cases hltj : j < tm'.length
            · have hjl : j < ks.length := by rw [HKL.out]; exact hltj
              obtain ⟨jn, hy, t, hlt', hat, hle⟩ := HKX.out _ (List.getElem_mem hjl)
              have htk := take_snoc ks j hjl
              have hkc : ∃ g, kp = some ⟨g, 0, none⟩ ∧ wr.cell? ⟨g, j, none⟩ = some (.int .i64 (ks[j]'hjl)) := by
                obtain ⟨F, hF, _⟩ := HT2.out.get 2 rfl
                obtain ⟨h1, h2 | ⟨g, cap, cur, h2, _⟩⟩ := hF.1
                · have := h2.2; omega
                · cases h2
                  refine ⟨g, rfl, ?_⟩
                  rw [hF.1.cellAt j (by omega), List.getElem?_map, List.getElem?_eq_getElem hjl]; rfl
              obtain ⟨g, rfl, hkc⟩ := hkc
              have hany : ((ks.take (j + 1)).any fun y => (alook tm' y).getD 0 == low) = (((ks.take j).any fun y => (alook tm' y).getD 0 == low) || t == low) := by
                rw [htk, List.any_append]; simp [hat]
              generalize ks[j]'hjl = y at hy hkc hat
              subst hy
              have hjn : jn < l.length := (List.getElem?_eq_some_iff.1 hlt').1
              obtain ⟨p', c', hv', _, _, _, g5⟩ := HL.out.up HT2.out.old
              cases hv'
              obtain ⟨gl, ol, rfl, hgl, hcl', _⟩ := g5 jn hjn
              have hlj : l[jn] = t := (List.getElem?_eq_some_iff.1 hlt').2
              rw [Nat.mul_one, hlj] at hcl'
              obtain ⟨F, hF, _⟩ := HT2.out.get 1 rfl
              have hats : atSaid tm' ((jn : Int) + 1) = .returned (.tuple #[.int .i64 t, .int .i64 0]) := by unfold atSaid; rw [hat]
              generalize hmb : ((low == now) || (ks.take j).any fun y => (alook tm' y).getD 0 == low) = mb
              have hrel2 : ((low == now) || (ks.take (j + 1)).any fun y => (alook tm' y).getD 0 == low) = (mb || t == low) := by
                rw [hany, ← hmb, Bool.or_assoc]
              have HATS := Lib.hid hats
              have HAT := Lib.hid hat
              have HLT' := Lib.hid hlt'
              have HLJ := Lib.hid hlj
              have HANY := Lib.hid hany
              have HTK := Lib.hid htk
              have HF := Lib.hid hF
              have HMB := Lib.hid hmb
              have HREL2 := Lib.hid hrel2
              clear hats hat hlt' hlj hany htk hF hmb hrel2
              clear g5
              have hjn2 : (jn : Int) < (l.length : Int) := by omega
              go_wp2_with fail
              refine (bookAt_any F _ _ _ _ _ _ HF.out).mono ?_
              rintro e w6 ⟨rfl, rfl⟩
              rw [HATS.out]
              have htt : (t != t) = false := by simp
              cases mb with
              | true =>
                go_wp2_with fail
                go_roundw
                case rel => exact ⟨j + 1, by omega, by go_num, by rw [HREL2.out, Bool.true_or], HT2.out⟩
                case measure => simp [intOf]; omega
              | false =>
                go_wp2_with fail
                go_roundw
                case rel => exact ⟨j + 1, by omega, by go_num, by rw [HREL2.out, Bool.false_or], HT2.out⟩
                case measure => simp [intOf]; omega
            · have hjt : j = tm'.length := by omega
              have hm1 : ((low == now) || (ks.take j).any fun y => (alook tm' y).getD 0 == low) = true := by
                rw [Bool.or_eq_true, hjt, ← HKL.out, List.take_length, List.any_eq_true]
                rcases HLO3.out with h | h
                · left; rw [beq_iff_eq]; exact h
                · right
                  obtain ⟨z, hz, hze⟩ := List.mem_map.1 h
                  refine ⟨z.1, HKP.out.symm.subset (List.mem_map.2 ⟨z, hz, rfl⟩), ?_⟩
                  rw [alook_mem HND.out (n := z.1) (v := z.2) hz]
                  simp [hze]
              rw [hm1]
              have HM1 := Lib.hid hm1
              have HJT := Lib.hid hjt
              clear hm1 hjt
              go_wp2_with fail
              go_roundw
              case rel => exact ⟨k + 1, low, tm', by omega, by go_num, rfl, HT2.out.take 2, HSUB.out, HLOW.out.symm⟩
              case measure => simp [intOf]; omega
end Go.Proofs
