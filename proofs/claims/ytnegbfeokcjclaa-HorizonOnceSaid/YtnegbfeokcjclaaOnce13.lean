/- HorizonOnce: no handle is given twice; one that was closed is gone; others stay as they are: for every input the law returns true. -/
import Derived.Test.YtnegbfeokcjclaaPlainOnce
import Derived.Test.YtnegbfeokcjclaaAppend
import Derived.Test.YtnegbfeokcjclaaInts
import Derived.Test.YtnegbfeokcjclaaCutInts
import Derived.Deep.RegionHeld3
import Derived.Deep.DeepCutAuto
import Derived.Deep.CutRange
import Derived.BigQuiet
namespace Go.Proofs
open Go.RowKit Sc

abbrev OwnA (v : Value) (l : List Int) : Asn := RowA 3 1 v l.length (l.map (Value.int .i64))
theorem owned_at {W w : World} {L : List Asn} (h : Sep W L w) (i : Nat) {po : Option Addr} {co : Nat} {os : List Int} (hi : L[i]? = some (OwnA (.slice po os.length co) os)) (j : Nat) (hj : j < os.length) :
    ∃ g, po = some ⟨g, 0, none⟩ ∧ w.cell? ⟨g, j, none⟩ = some (.int .i64 os[j]) := by
  obtain ⟨F, hF, _⟩ := h.get i hi
  obtain ⟨h1, h2 | ⟨g, cap, cur, h2, _⟩⟩ := id hF.1
  · have := h2.2; omega
  · cases h2
    refine ⟨g, rfl, ?_⟩
    rw [hF.1.cellAt j (by omega), List.getElem?_map, List.getElem?_eq_getElem hj]; rfl
theorem owned_ints {W w : World} {L : List Asn} (h : Sep W L w) (i : Nat) {v : Value} {os : List Int} (hi : L[i]? = some (OwnA v os)) (hk : ∀ x ∈ os, I64 x) : IntsAt (Old w) w v os := by
  obtain ⟨F, hF, hd⟩ := h.get i hi
  exact intsAt_own (Old w) rfl hk (fun q _ hq => hq) hF.1

theorem owned_cap {W w : World} {L : List Asn} (h : Sep W L w) (i : Nat) {g co : Nat} {os : List Int} (hi : L[i]? = some (OwnA (.slice (some ⟨g, 0, none⟩) os.length co) os)) : g < w.heap.size ∧ os.length ≤ co := by
  obtain ⟨F, hF, hd⟩ := h.get i hi
  have hlt := hF.1.lt g rfl
  obtain ⟨h1, h2 | ⟨g', cap, cur, h2, _, _, hnc, _⟩⟩ := hF.1
  · cases h2.1
  · cases h2; exact ⟨hlt.2, hnc⟩
theorem owned_cells {W w : World} {L : List Asn} (h : Sep W L w) (i : Nat) {g co : Nat} {os : List Int} (hi : L[i]? = some (OwnA (.slice (some ⟨g, 0, none⟩) os.length co) os)) {w' : World} (hb : Below w.heap.size w w') (j : Nat) (u : Value)
    (hu : (os.map (Value.int .i64))[j]? = some u) : w'.cell? ⟨g, j, none⟩ = some u := by
  have hg := (owned_cap h i hi).1
  obtain ⟨F, hF, hd⟩ := h.get i hi
  have hj : j < os.length := by have := (List.getElem?_eq_some_iff.1 hu).1; simpa using this
  rw [hb.cell (p := ⟨g, j, none⟩) hg, hF.1.cellAt j (by omega)]
  exact hu

set_option maxRecDepth 100000 in
set_option maxHeartbeats 4000000 in
theorem once13_any (most : Int) (vl : Value) (l : List Ext) (w : World) (hl : ExtsAt (Old w) w vl l) : Calls Try.prog 11 #[.int .i64 most, vl] w (Tru w) := by
  have HL := Lib.hid hl
  obtain ⟨lp, lc, rfl, hll, hlc, _, _⟩ := hl
  by_cases hg : most < 0 ∨ 50 < most ∨ 200 < l.length
  · by_cases h1 : most < 0
    · go_enter Try.func11, Try.ntmps11
      go_wp2_with fail
      refine (awake13 _).mono ?_
      rintro e w1 ⟨rfl, hb1⟩
      go_wp2
      go_ret
      exact ⟨rfl, hb1⟩
    · have h1' : 0 ≤ most := by omega
      by_cases h2 : 50 < most
      · go_enter Try.func11, Try.ntmps11
        go_wp2_with fail
        refine (awake13 _).mono ?_
        rintro e w1 ⟨rfl, hb1⟩
        go_wp2
        go_ret
        exact ⟨rfl, hb1⟩
      · have h2' : most ≤ 50 := by omega
        have h3' : (200 : Int) < (l.length : Int) := by omega
        go_enter Try.func11, Try.ntmps11
        go_wp2_with fail
        refine (awake13 _).mono ?_
        rintro e w1 ⟨rfl, hb1⟩
        go_wp2
        go_ret
        exact ⟨rfl, hb1⟩
  have g1 : 0 ≤ most := by omega
  have g2 : most ≤ 50 := by omega
  have g3 : (l.length : Int) ≤ 200 := by omega
  clear hg
  obtain ⟨i0, hi0, hz0, hz1, hz2⟩ := info_parts infoInt
  go_enter Try.func11, Try.ntmps11
  go_wp2_with fail
  refine (bookNew_sep (Sep.start w) most).mono ?_
  rintro e w1 ⟨b, rfl, hS1⟩
  have hS2 := hS1.row_new (Below.refl _ _) (World.ownsRow_nil w1 w1.heap.size 3 1)
  have hS3 := hS2.row_new (Below.refl _ _) (World.ownsRow_nil w1 w1.heap.size 3 1)
  have HS3 := Lib.hid hS3
  clear hS3
  clear hS1 hS2
  go_wp2_with fail
  go_loopw [6, 7, 8, 9] (fun vo vt s i wr => ∃ k : Nat, ∃ os ts last po co pt ct, k ≤ l.length ∧ i = .int .i64 k ∧ s = .int .i64 last ∧ vo = .slice po os.length co ∧ vt = .slice pt ts.length ct ∧
      Hid (Sep w [OldA w, BookA (.pointer (some ⟨b, 0, none⟩)) most last (os.zip ts), OwnA (.slice po os.length co) os, OwnA (.slice pt ts.length ct) ts] wr) ∧ Hid (OnceI last os ts ∧ 0 ≤ last ∧ last ≤ k ∧ os.length ≤ k)) (fun _ _ _ i _ => l.length - (intOf i).toNat)
  case atStart => exact ⟨0, [], [], 0, none, 0, none, 0, by omega, rfl, rfl, rfl, rfl, HS3.out, OnceI.start, by omega, by omega, by simp⟩
  case round =>
    obtain ⟨k, os, ts, last, po, co, pt, ct, hk, rfl, rfl, rfl, rfl, HS, HI⟩ := hrel
    by_cases hlt : k < l.length
    case neg =>
      go_wp2_with fail
      refine (awake13 _).mono ?_
      rintro e w4 ⟨rfl, hb4⟩
      have hS4 := HS.out.up hb4
      have HS4 := Lib.hid hS4
      clear hS4
      go_wp2_with fail
      go_ret
      exact ⟨rfl, HS4.out.old⟩
    case pos =>
      obtain ⟨p', c', hv', _, _, _, g5⟩ := HL.out
      cases hv'
      obtain ⟨bb, o, rfl, hgb, hck0, hcn0, hki, hkn⟩ := g5 k hlt
      generalize l[k] = x at hck0 hcn0 hki hkn
      have hck := (HS.out.old.cell (p := ⟨bb, o + k * 2, none⟩) hgb).trans hck0
      have hcn := (HS.out.old.cell (p := ⟨bb, o + k * 2 + 1, none⟩) hgb).trans hcn0
      have HCN0 := Lib.hid hcn0
      clear hcn0
      clear g5 hck0
      go_upto_if 44 with fail
      go_cut [6, 7, 8, 10, 11, 12, 13, 14, 15] from 33 to 172 (fun vo vt s _ _ _ _ _ _ wx => ∃ os ts last po co pt ct, s = .int .i64 last ∧ vo = .slice po os.length co ∧ vt = .slice pt ts.length ct ∧
        Hid (Sep w [OldA w, BookA (.pointer (some ⟨b, 0, none⟩)) most last (os.zip ts), OwnA (.slice po os.length co) os, OwnA (.slice pt ts.length ct) ts] wx) ∧ Hid (OnceI last os ts ∧ 0 ≤ last ∧ last ≤ k + 1 ∧ os.length ≤ k + 1))
      case first =>
        by_cases hkind : x.first = 1
        case pos =>
          have hkb : (x.first == 1) = true := by rw [beq_iff_eq]; exact hkind
          obtain ⟨hr0, hr1⟩ := roundN_bd x.len (n := 1000) (by omega)
          have HKIND := Lib.hid hkind
          clear hkind
          go_wp2_with fail
          refine (round_any x.len 1000 _ (by omega) (by omega)).mono ?_
          rintro e w2 ⟨rfl, rfl⟩
          generalize roundN x.len 1000 = t at *
          have hkey := HI.out.1.keyed HI.out.2.1 (by have := HI.out.2.2.1; omega) (by have := HI.out.2.2.2; omega)
          have hzl := HI.out.1.zlen
          by_cases hfull : (os.length : Int) < most
          case pos =>
            have hok : OpenOk most (os.zip ts) t = 0 := by unfold OpenOk; rw [if_neg (by omega), if_neg (by rw [hzl]; omega)]
            have hpos : (if OpenOk most (os.zip ts) t = 0 then last + 1 else 0) = last + 1 := by rw [if_pos hok]
            have hla : openLast most last (os.zip ts) t = last + 1 := by unfold openLast; rw [if_pos hok]
            have htm : openTm most last (os.zip ts) t = (os ++ [last + 1]).zip (ts ++ [t]) := by unfold openTm; rw [if_pos hok, HI.out.1.zip_snoc]
            have hnl : last < last + 1 := by omega
            have hol : os.length ≤ 200 := by have := HI.out.2.2.2; omega
            have htl : ts.length ≤ 200 := by rw [← HI.out.1.len]; exact hol
            have HKEY := Lib.hid hkey
            have HZL := Lib.hid hzl
            have HOK := Lib.hid hok
            have HPOS := Lib.hid hpos
            have HLA := Lib.hid hla
            have HTM := Lib.hid htm
            clear hkey hzl hok hpos hla htm
            go_wp2_with fail
            refine (bookOpen_sep HS.out 1 rfl HKEY.out t).mono ?_
            rintro e w3 ⟨rfl, hS3⟩
            rw [HPOS.out, HOK.out]
            rw [HLA.out, HTM.out] at hS3
            obtain ⟨F2, hF2, _⟩ := hS3.get 2 rfl
            have hrow2 := hF2.1
            have HS3 := Lib.hid hS3
            have HROW2 := Lib.hid hrow2
            clear hS3 hrow2
            clear hF2
            go_upto_region 18 with (at_builtin; refine wpList_append_lies _ rfl _ _ 50 rfl 0 3 i0 (.int .i64 0) 1 8 Try.underlying50 hi0 hz0 hz1 hz2 rfl (by decide) _ os.length (os.map (Value.int .i64)) rfl (HROW2.out.alloc _) ⟨w3.heap.size, 0, none⟩ 1 1 [.int .i64 (last + 1)] rfl rfl (World.news_of_block (cs := #[.int .i64 (last + 1)]) (heap_alloc_new w3 _)) (by simp [Value.oneCell']) (by decide) (by unfold maxLen; omega) (by omega) (Nat.zero_le _) (w3.heap.size + 1) (by simp) ?_; intro ga ca w4 hown4 hgrow4 hat4 hlt4)
            have hS4 := HS3.out.row_app 2 rfl (below_alloc _ _) hown4 hgrow4 hat4 (by simp) hlt4
            obtain ⟨F3, hF3, _⟩ := hS4.get 3 rfl
            have hrow3 := hF3.1
            have HS4 := Lib.hid hS4
            have HROW3 := Lib.hid hrow3
            clear hS4 hrow3
            clear hF3 hown4 hgrow4 hat4 hlt4
            go_wp2_with (at_builtin; refine wpList_append_lies _ rfl _ _ 50 rfl 0 3 i0 (.int .i64 0) 1 8 Try.underlying50 hi0 hz0 hz1 hz2 rfl (by decide) _ ts.length (ts.map (Value.int .i64)) rfl (HROW3.out.alloc _) ⟨w4.heap.size, 0, none⟩ 1 1 [.int .i64 t] rfl rfl (World.news_of_block (cs := #[.int .i64 t]) (heap_alloc_new w4 _)) (by simp [Value.oneCell']) (by decide) (by unfold maxLen; omega) (by omega) (Nat.zero_le _) (w4.heap.size + 1) (by simp) ?_; intro gc cc w5 hown5 hgrow5 hat5 hlt5)
            have hS5 := HS4.out.row_app 3 rfl (below_alloc _ _) hown5 hgrow5 hat5 (by simp) hlt5
            have HS5 := Lib.hid hS5
            clear hS5
            clear hown5 hgrow5 hat5 hlt5
            go_wp2_with fail
            go_meet
            case rel =>
              refine ⟨os ++ [last + 1], ts ++ [t], last + 1, _, ca, _, cc, rfl, by rw [List.length_append, List.length_singleton], by rw [List.length_append, List.length_singleton], ?_, HI.out.1.snoc HI.out.2.1, by have := HI.out.2.1; omega, by have := HI.out.2.2.1; omega, by have := HI.out.2.2.2; simp; omega⟩
              unfold Hid
              simpa [OwnA, List.map_append] using HS5.out
          case neg =>
            have hok : OpenOk most (os.zip ts) t = 6 := by unfold OpenOk; rw [if_neg (by omega), if_pos (by rw [hzl]; omega)]
            have hpos : (if OpenOk most (os.zip ts) t = 0 then last + 1 else 0) = 0 := by rw [if_neg (by rw [hok]; decide)]
            have hla : openLast most last (os.zip ts) t = last := by unfold openLast; rw [if_neg (by rw [hok]; decide)]
            have htm : openTm most last (os.zip ts) t = os.zip ts := by unfold openTm; rw [if_neg (by rw [hok]; decide)]
            have hfull2 : most ≤ (os.length : Int) := by omega
            have HKEY := Lib.hid hkey
            have HZL := Lib.hid hzl
            have HOK := Lib.hid hok
            have HPOS := Lib.hid hpos
            have HLA := Lib.hid hla
            have HTM := Lib.hid htm
            clear hkey hzl hok hpos hla htm
            clear hfull
            go_wp2_with fail
            refine (bookOpen_sep HS.out 1 rfl HKEY.out t).mono ?_
            rintro e w3 ⟨rfl, hS3⟩
            rw [HPOS.out, HOK.out]
            rw [HLA.out, HTM.out] at hS3
            have HS3 := Lib.hid hS3
            clear hS3
            go_wp2_with fail
            go_meet
            case rel => exact ⟨os, ts, last, _, co, _, ct, rfl, rfl, rfl, HS3.out, HI.out.1, HI.out.2.1, by have := HI.out.2.2.1; omega, by have := HI.out.2.2.2; omega⟩
        case neg =>
          have hkb : (x.first == 1) = false := by rw [beq_eq_false_iff_ne]; exact hkind
          have HKIND := Lib.hid hkind
          clear hkind
          have hol : os.length ≤ 200 := by have := HI.out.2.2.2; omega
          go_wp2_with fail
          obtain ⟨W2, rfl⟩ : ∃ W2 : World, W2 = wr := ⟨_, rfl⟩
          go_loopw [13, 14] (fun kv jv wr => ∃ m : Nat, m ≤ os.length ∧ jv = .int .i64 m ∧ kv = .int .i64 (placeTo os x.len m) ∧
            Hid (Sep w [OldA w, BookA (.pointer (some ⟨b, 0, none⟩)) most last (os.zip ts), OwnA (.slice po os.length co) os, OwnA (.slice pt ts.length ct) ts] wr)) (fun _ jv _ => os.length - (intOf jv).toNat)
          case atStart => exact ⟨0, by omega, rfl, rfl, HS.out⟩
          case round =>
            obtain ⟨m, hm, rfl, rfl, HS3⟩ := hrel
            have hcn3 := (HS3.out.old.cell (p := ⟨bb, o + k * 2 + 1, none⟩) hgb).trans HCN0.out
            by_cases hlm : m < os.length
            case pos =>
              obtain ⟨g, rfl, hom⟩ := owned_at HS3.out 2 rfl m hlm
              have hps : placeTo os x.len (m + 1) = if os[m] = x.len then (m : Int) else placeTo os x.len m := by
                rw [placeTo, List.getElem?_eq_getElem hlm]; simp
              generalize os[m] = y at hom hps
              generalize placeTo os x.len m = pl at *
              have hm0 : (m : Int) < (os.length : Int) := by omega
              have HPS := Lib.hid hps
              clear hps
              by_cases hy : y = x.len
              case pos =>
                have hyb : (y == x.len) = true := by rw [beq_iff_eq]; exact hy
                have HY := Lib.hid hy
                clear hy
                go_wp2
                go_quiet (fail)
                go_wp2
                go_roundw
                case rel => exact ⟨m + 1, by omega, by go_num, by rw [HPS.out, if_pos HY.out], HS3.out.up (below_drewN (Below.refl _ _) _)⟩
                case measure => simp [intOf]; omega
              case neg =>
                have hyb : (y == x.len) = false := by rw [beq_eq_false_iff_ne]; exact hy
                have HY := Lib.hid hy
                clear hy
                go_wp2
                go_quiet (fail)
                go_wp2
                go_roundw
                case rel => exact ⟨m + 1, by omega, by go_num, by rw [HPS.out, if_neg HY.out], HS3.out.up (below_drewN (Below.refl _ _) _)⟩
                case measure => simp [intOf]; omega
            case neg =>
              obtain rfl : m = os.length := by omega
              rcases placeTo_cases os x.len os.length with ⟨hpl, hno⟩ | ⟨j, hpl, hj, hoj⟩
              · have hno' : ∀ y ∈ os, y ≠ x.len := fun y hy e => by
                  obtain ⟨i, hi, he⟩ := List.getElem_of_mem hy
                  exact hno i hi (by rw [List.getElem?_eq_getElem hi, he, e])
                have hlk := HI.out.1.none hno'
                have hcode : (if (alook (os.zip ts) x.len).isSome then (0 : Int) else 14) = 14 := by rw [hlk]; rfl
                have hdel : adel (os.zip ts) x.len = os.zip ts := adel_none (alook_none.1 hlk)
                rw [hpl]
                have HCODE := Lib.hid hcode
                have HDEL := Lib.hid hdel
                have HLK := Lib.hid hlk
                clear hcode hdel hlk
                clear hno hno' hpl
                go_wp2_with fail
                refine (bookClose_sep HS3.out 1 rfl x.len).mono ?_
                rintro e w4 ⟨rfl, hS4⟩
                rw [HCODE.out]
                rw [HDEL.out] at hS4
                have HS4 := Lib.hid hS4
                clear hS4
                go_wp2_with fail
                go_meet
                case rel => exact ⟨os, ts, last, _, co, _, ct, rfl, rfl, rfl, HS4.out, HI.out.1, HI.out.2.1, by have := HI.out.2.2.1; omega, by have := HI.out.2.2.2; omega⟩
              · have hoj' : os[j] = x.len := by rw [List.getElem?_eq_getElem hj] at hoj; exact Option.some.inj hoj
                have hlk := HI.out.1.at j hj
                have hdel := HI.out.1.out j hj
                rw [hoj'] at hlk hdel
                have hcode : (if (alook (os.zip ts) x.len).isSome then (0 : Int) else 14) = 0 := by rw [hlk]; rfl
                rw [hpl]
                have htl : ts.length ≤ 200 := by rw [← HI.out.1.len]; exact hol
                have hjt : j < ts.length := by rw [← HI.out.1.len]; exact hj
                have hjo : (j : Int) < (os.length : Int) := by omega
                have hj0 : (0 : Int) ≤ (j : Int) := by omega
                have HCODE := Lib.hid hcode
                have HDEL := Lib.hid hdel
                have HLK := Lib.hid hlk
                have HOJ' := Lib.hid hoj'
                have HOJ := Lib.hid hoj
                clear hcode hdel hlk hoj' hoj
                clear hpl
                go_wp2_with fail
                refine (bookClose_sep HS3.out 1 rfl x.len).mono ?_
                rintro e w4 ⟨rfl, hS4⟩
                rw [HCODE.out]
                rw [HDEL.out] at hS4
                have HS4 := Lib.hid hS4
                clear hS4
                go_wp2_with fail
                obtain ⟨g, rfl, -⟩ := owned_at HS4.out 2 rfl j hj
                obtain ⟨g2, rfl, -⟩ := owned_at HS4.out 3 rfl j hjt
                obtain ⟨hgl, hcap⟩ := owned_cap HS4.out 2 rfl
                obtain ⟨hgl2, hcap2⟩ := owned_cap HS4.out 3 rfl
                have hs1 := slice_to g os.length co j (by omega)
                obtain ⟨A, hs2, hA⟩ := slice_from g os.length co j (by omega) hcap
                have ht1 := slice_to g2 ts.length ct j (by omega)
                obtain ⟨A2, ht2, hA2⟩ := slice_from g2 ts.length ct j (by omega) hcap2
                have hw1 : IntKind.i64.wrap ((j : Int) + 1) = (j : Int) + 1 := IntWalk.i64_in _ (by omega)
                have hcc : ∀ W', Below w4.heap.size w4 W' → ∀ i u, ((os.take j).map (Value.int .i64))[i]? = some u → W'.cell? ((⟨g, 0, none⟩ : Addr).add i) = some u := fun W' hb i u hu => by
                  rw [addr_add, Nat.zero_add]
                  rw [List.map_take, List.getElem?_take] at hu
                  split at hu
                  · exact owned_cells HS4.out 2 rfl hb i u hu
                  · cases hu
                have hcd : ∀ W', Below w4.heap.size w4 W' → ∀ i u, ((os.drop (j + 1)).map (Value.int .i64))[i]? = some u → W'.cell? (A.add i) = some u := fun W' hb i u hu => by
                  rw [List.map_drop, List.getElem?_drop] at hu
                  rcases hA with e | hA
                  · have := (List.getElem?_eq_some_iff.1 hu).1
                    simp at this; omega
                  · rw [hA]; exact owned_cells HS4.out 2 rfl hb _ u hu
                have hl1 : ((os.take j).map (Value.int .i64)).length = j * 1 := by simp; omega
                have hl2 : ((os.drop (j + 1)).map (Value.int .i64)).length = (os.length - (j + 1)) * 1 := by simp
                have hone : ∀ l : List Int, ∀ u ∈ l.map (Value.int .i64), u.oneCell' = true := fun l u hu => by
                  obtain ⟨z, _, rfl⟩ := List.mem_map.1 hu; rfl
                have hj200 : j ≤ 200 := by omega
                clear HLK HOJ' HOJ
                have HCC := Lib.hid hcc
                have HCD := Lib.hid hcd
                have HA := Lib.hid hA
                have HA2 := Lib.hid hA2
                have HGL := Lib.hid hgl
                have HGL2 := Lib.hid hgl2
                have HCAP := Lib.hid hcap
                have HCAP2 := Lib.hid hcap2
                have HJ := Lib.hid hj
                have HJT := Lib.hid hjt
                have HL1 := Lib.hid hl1
                have HL2 := Lib.hid hl2
                have HONE := Lib.hid hone
                clear hcc hcd hA hA2 hgl hgl2 hcap hcap2 hj hjt hl1 hl2 hone
                clear hjo hj0
                go_region_held3 (fun _ => True) (first | trivial | go_keep)
                  ((first
                    | (refine step_append_some _ (by rfl) _ _ _ (by rfl) w4.heap.size 3 i0 _ 1 8 Try.underlying50 hi0 hz0 hz1 hz2 rfl (by omega) w4.heap.size 0 0 [] (by rfl) (by first | exact (owns_empty w4 _ _).drew | exact owns_empty w4 _ _) ⟨g, 0, none⟩ j co ((os.take j).map (Value.int .i64)) (by rfl) HL1.out (HCC.out _ (by first | exact below_drewN (below_alloc _ _) 1 | exact below_alloc _ _)) (HONE.out _) (by unfold maxLen; omega) (by omega) (by simp) (w4.heap.size + 1) (by simp) ?_
                       intro g5 c5 w5 hown5 hgrow5 hat5 hlt5
                       simp only [List.nil_append] at hown5
                       have hb5 : Below w4.heap.size w4 w5 := (by first | exact (below_drewN (below_alloc w4 _) 1).grown hgrow5 (by simp) (fun q hq => by cases hq; exact Nat.le_refl _) | exact (below_alloc w4 _).grown hgrow5 (by simp) (fun q hq => by cases hq; exact Nat.le_refl _))
                       have HOWN5 := Lib.hid hown5
                       have HB5 := Lib.hid hb5
                       have HAT5 := Lib.hid hat5
                       clear hown5 hb5 hgrow5 hat5 hlt5)
                    | (refine step_append_some _ (by rfl) _ _ _ (by rfl) w4.heap.size 3 i0 _ 1 8 Try.underlying50 hi0 hz0 hz1 hz2 rfl (by omega) g5 (0 + j) c5 ((os.take j).map (Value.int .i64)) (by rfl) HOWN5.out A (os.length - (j + 1)) (co - (j + 1)) ((os.drop (j + 1)).map (Value.int .i64)) (by rfl) HL2.out (HCD.out _ HB5.out) (HONE.out _) (by unfold maxLen; omega) (by omega) (HB5.out.size) w5.heap.size rfl ?_
                       intro g6 c6 w6 hown6 hgrow6 hat6 hlt6
                       have hb6 : Below w4.heap.size w4 w6 := HB5.out.grown hgrow6 (HB5.out.size) (fun q hq => by cases hq; have := HAT5.out; omega)
                       simp only [Nat.zero_add] at hown6
                       have HOWN6 := Lib.hid hown6
                       have HB6 := Lib.hid hb6
                       clear hown6 hb6 hgrow6 hat6 hlt6)))
                have hS6 := HS4.out.row_put 2 rfl HB6.out HOWN6.out
                have htc : ∀ W', Below w6.heap.size w6 W' → ∀ i u, ((ts.take j).map (Value.int .i64))[i]? = some u → W'.cell? ((⟨g2, 0, none⟩ : Addr).add i) = some u := fun W' hb i u hu => by
                  rw [addr_add, Nat.zero_add]
                  rw [List.map_take, List.getElem?_take] at hu
                  split at hu
                  · exact owned_cells hS6 3 rfl hb i u hu
                  · cases hu
                have htd : ∀ W', Below w6.heap.size w6 W' → ∀ i u, ((ts.drop (j + 1)).map (Value.int .i64))[i]? = some u → W'.cell? (A2.add i) = some u := fun W' hb i u hu => by
                  rw [List.map_drop, List.getElem?_drop] at hu
                  rcases HA2.out with e | hA
                  · have := (List.getElem?_eq_some_iff.1 hu).1
                    simp at this; omega
                  · rw [hA]; exact owned_cells hS6 3 rfl hb _ u hu
                have hm1 : ((ts.take j).map (Value.int .i64)).length = j * 1 := by have := HJT.out; simp; omega
                have hm2 : ((ts.drop (j + 1)).map (Value.int .i64)).length = (ts.length - (j + 1)) * 1 := by simp
                have HS6 := Lib.hid hS6
                have HTC := Lib.hid htc
                have HTD := Lib.hid htd
                have HM1 := Lib.hid hm1
                have HM2 := Lib.hid hm2
                clear hS6 htc htd hm1 hm2
                go_wp2_with fail
                go_region_held3 (fun _ => True) (first | trivial | go_keep)
                  ((first
                    | (refine step_append_some _ (by rfl) _ _ _ (by rfl) w6.heap.size 3 i0 _ 1 8 Try.underlying50 hi0 hz0 hz1 hz2 rfl (by omega) w6.heap.size 0 0 [] (by rfl) (by first | exact (owns_empty w6 _ _).drew | exact owns_empty w6 _ _) ⟨g2, 0, none⟩ j ct ((ts.take j).map (Value.int .i64)) (by rfl) HM1.out (HTC.out _ (by first | exact below_drewN (below_alloc _ _) 1 | exact below_alloc _ _)) (HONE.out _) (by unfold maxLen; omega) (by omega) (by simp) (w6.heap.size + 1) (by simp) ?_
                       intro g7 c7 w7 hown7 hgrow7 hat7 hlt7
                       simp only [List.nil_append] at hown7
                       have hb7 : Below w6.heap.size w6 w7 := (by first | exact (below_drewN (below_alloc w6 _) 1).grown hgrow7 (by simp) (fun q hq => by cases hq; exact Nat.le_refl _) | exact (below_alloc w6 _).grown hgrow7 (by simp) (fun q hq => by cases hq; exact Nat.le_refl _))
                       have HOWN7 := Lib.hid hown7
                       have HB7 := Lib.hid hb7
                       have HAT7 := Lib.hid hat7
                       clear hown7 hb7 hgrow7 hat7 hlt7)
                    | (refine step_append_some _ (by rfl) _ _ _ (by rfl) w6.heap.size 3 i0 _ 1 8 Try.underlying50 hi0 hz0 hz1 hz2 rfl (by omega) g7 (0 + j) c7 ((ts.take j).map (Value.int .i64)) (by rfl) HOWN7.out A2 (ts.length - (j + 1)) (ct - (j + 1)) ((ts.drop (j + 1)).map (Value.int .i64)) (by rfl) HM2.out (HTD.out _ HB7.out) (HONE.out _) (by unfold maxLen; omega) (by omega) (HB7.out.size) w7.heap.size rfl ?_
                       intro g8 c8 w8 hown8 hgrow8 hat8 hlt8
                       have hb8 : Below w6.heap.size w6 w8 := HB7.out.grown hgrow8 (HB7.out.size) (fun q hq => by cases hq; have := HAT7.out; omega)
                       simp only [Nat.zero_add] at hown8
                       have HOWN8 := Lib.hid hown8
                       have HB8 := Lib.hid hb8
                       clear hown8 hb8 hgrow8 hat8 hlt8)))
                have hS8 := HS6.out.row_put 3 rfl HB8.out HOWN8.out
                have HS8 := Lib.hid hS8
                clear hS8
                go_wp2_with fail
                go_meet
                case rel =>
                  have e1 : (os.take j ++ os.drop (j + 1)).length = j + (os.length - (j + 1)) := by have := HJ.out; simp; omega
                  have e2 : (ts.take j ++ ts.drop (j + 1)).length = j + (ts.length - (j + 1)) := by have := HJT.out; simp; omega
                  refine ⟨os.take j ++ os.drop (j + 1), ts.take j ++ ts.drop (j + 1), last, _, c6, _, c8, rfl, by first | (rw [e1]; done) | (rw [e1, Nat.zero_add]; done), by first | (rw [e2]; done) | (rw [e2, Nat.zero_add]; done), ?_, HI.out.1.del j, HI.out.2.1, by have := HI.out.2.2.1; omega, by have := HI.out.2.2.2; have := HJ.out; rw [e1]; omega⟩
                  unfold Hid
                  unfold OwnA
                  rw [e1, e2, List.map_append, List.map_append]
                  exact HS8.out
      case rest =>
        obtain ⟨os, ts, last, po, co, pt, ct, rfl, rfl, rfl, HS, HI⟩ := hcut
        have hol : os.length ≤ 201 := by have := HI.out.2.2.2; omega
        have hk0 : k ≤ 200 := by omega
        go_wp2_with fail
        obtain ⟨W3, rfl⟩ : ∃ W3 : World, W3 = wc := ⟨_, rfl⟩
        go_loopw [16] (fun jv wr => ∃ j : Nat, j ≤ os.length ∧ jv = .int .i64 j ∧
          Hid (Sep w [OldA w, BookA (.pointer (some ⟨b, 0, none⟩)) most last (os.zip ts), OwnA (.slice po os.length co) os, OwnA (.slice pt ts.length ct) ts] wr)) (fun jv _ => os.length - (intOf jv).toNat)
        case atStart => exact ⟨0, by omega, rfl, HS.out⟩
        case round =>
          obtain ⟨j, hj, rfl, HS3⟩ := hrel
          by_cases hlj : j < os.length
          case pos =>
            have hljt : j < ts.length := by rw [← HI.out.1.len]; exact hlj
            obtain ⟨g, rfl, hoc⟩ := owned_at HS3.out 2 rfl j hlj
            obtain ⟨g2, rfl, htc⟩ := owned_at HS3.out 3 rfl j hljt
            have hat := HI.out.1.at j hlj
            generalize os[j] = y at hoc hat
            generalize ts[j] = t at htc hat
            have hats : atSaid (os.zip ts) y = .returned (.tuple #[.int .i64 t, .int .i64 0]) := by unfold atSaid; rw [hat]
            obtain ⟨F, hF, _⟩ := HS3.out.get 1 rfl
            have hj1 : (j : Int) < (os.length : Int) := by omega
            have hj2 : (j : Int) < (ts.length : Int) := by omega
            have htt : (t != t) = false := by simp
            have HATS := Lib.hid hats
            have HAT := Lib.hid hat
            have HF := Lib.hid hF
            clear hats hat hF
            go_wp2_with fail
            refine (bookAt_any F _ _ _ _ _ _ HF.out).mono ?_
            rintro e w6 ⟨rfl, rfl⟩
            rw [HATS.out]
            go_wp2_with fail
            go_roundw
            case rel => exact ⟨j + 1, by omega, by go_num, HS3.out⟩
            case measure => simp [intOf]; omega
          case neg =>
            obtain ⟨F, hF, _⟩ := HS3.out.get 1 rfl
            have hzl := HI.out.1.zlen
            have HF := Lib.hid hF
            have HZL := Lib.hid hzl
            clear hF hzl
            go_wp2_with fail
            refine (bookList_any F _ _ _ _ _ HF.out (by rw [HZL.out]; omega)).mono ?_
            rintro e w5 ⟨kv, rfl, hrow, hb5⟩
            rw [HI.out.1.up, HI.out.1.keys] at hrow
            have hS5 := HS3.out.up hb5
            have hbd : ∀ x ∈ os, I64 x := fun x hx => by have := HI.out.1.bd x hx; have := HI.out.2.2.1; unfold I64; omega
            have h2 := intsAt_own (Old w5) rfl hbd (fun q _ hq => hq) hrow
            have h1' : IntsAt (Old w5) w5 (.slice po os.length co) os := by
              obtain ⟨F, hF, hd⟩ := hS5.get 2 rfl
              exact intsAt_own (Old w5) rfl hbd (fun q _ hq => hq) hF.1
            obtain ⟨kp, kc, rfl⟩ := shape_row hrow
            have HS5 := Lib.hid hS5
            have H1' := Lib.hid h1'
            have H2 := Lib.hid h2
            clear hS5 h1' h2
            clear hrow hb5
            go_wp2_with fail
            refine (ints_any (Old w5) _ _ os os _ H2.out H1'.out).mono ?_
            rintro e w6 ⟨rfl, hb6⟩
            rw [show (os == os) = true by simp]
            have hS6 := HS5.out.up hb6
            have HS6 := Lib.hid hS6
            clear hS6
            go_wp2_with fail
            go_roundw
            case rel => exact ⟨k + 1, os, ts, last, po, co, pt, ct, by omega, by go_num, rfl, rfl, rfl, HS6.out, HI.out.1, HI.out.2.1, by have := HI.out.2.2.1; omega, HI.out.2.2.2⟩
            case measure => simp [intOf]; omega
end Go.Proofs
