/- WbufParts: a vector that is written at once is what its blocks are one by one, in whatever order: for every input the law returns true. -/
import Derived.Test.YteodkepnalhceaaSmall14
import Derived.Test.YteodkepnalhceaaPlainParts
import Derived.Test.YteodkepnalhceaaSamePuts
import Derived.Test.YteodkepnalhceaaCuts2
import Derived.BigQuiet
namespace Go.Proofs
open Go.RowKit Sc

theorem putsAt_shape {G : Nat → Prop} {w : World} {v : Value} {l : List Put} (h : PutsAt G w v l) : ∃ p c, v = .slice p l.length c := by
  obtain ⟨p, c, rfl, _⟩ := h; exact ⟨p, c, rfl⟩
theorem bufPuts_sep {W w : World} {L : List Asn} (h : Hid (Sep W L w)) (i : Nat) {v : Value} {blocks most : Int} {s : List (Int × Bytes)} (hi : L[i]? = some (BufA v blocks most s)) (hg : BufG blocks s) (hb : blocks ≤ 1048576) (hl : s.length ≤ 1000000) :
    Calls Try.prog 33 #[v] w fun e w' => ∃ p c, e = .returned (.slice p s.length c) ∧ Hid (PutsAt (Old w') w' (.slice p s.length c) (bufPuts s)) ∧ Hid (Below w.heap.size w w') ∧ Hid (Sep W L w') := by
  obtain ⟨F, hF, _⟩ := h.out.get i hi
  refine (bufPuts_any F v blocks most s w hF (hg.i64 hb) hl hg.d40).mono ?_
  rintro e w' ⟨pv, rfl, hp, hb⟩
  obtain ⟨p, c, rfl⟩ := putsW_shape hp
  rw [bufPuts_len] at hp ⊢
  exact ⟨p, c, rfl, PutsAt.mono hp.puts (fun _ h => h.2), hb, h.out.up hb⟩
theorem bufNext_ok {blocks most : Int} {s : List (Int × Bytes)} {l : List Put} (h : bufCode blocks most s l = 0) : bufNext blocks most s l = putsTo s l := by unfold bufNext; rw [if_pos h]
theorem parts_rev {l : List Put} (hc : bufCode 50 16 [] l = 0) : BufG 50 (putsTo [] l.reverse) ∧ (putsTo [] l.reverse).length = l.length ∧ bufPuts (putsTo [] l.reverse) = bufPuts (putsTo [] l) := by
  obtain ⟨_, _, _, q4, q5⟩ := parts_codes hc
  obtain ⟨h0, h1, h2, h3, _⟩ := bufCode_zero hc
  have hr : bufCode 50 16 [] l.reverse = 0 := bufCode_ok (by simpa using h0) (fun p hp => h1 p (by simpa using hp)) (fun p hp => h2 p (by simpa using hp)) (by rw [List.map_reverse]; exact ((List.reverse_perm _).nodup_iff.2 h3)) (by simp; omega)
  have hg := (BufG.start 50).next (most := 16) l
  have hgr := (BufG.start 50).next (most := 16) l.reverse
  rw [bufNext_ok hc] at hg
  rw [bufNext_ok hr] at hgr
  have he : bufPuts (putsTo [] l.reverse) = bufPuts (putsTo [] l) := bufPuts_same hgr.nd hg.nd fun k => (putsTo_perm (List.reverse_perm l).symm h3 k).symm
  have hl := congrArg List.length he
  rw [bufPuts_len, bufPuts_len, q5] at hl
  exact ⟨hgr, hl, he⟩
theorem code0_b {c : Int} (h : c ≠ 0) : (c != 0) = true := by rw [bne_iff_ne]; exact h
theorem bufWrite_old {W w : World} {L : List Asn} (h : Hid (Sep W (OldA W :: L) w)) (i : Nat) (h0 : i ≠ 0) {v dv : Value} {d : Bytes} {blocks most : Int} {s : List (Int × Bytes)} (hi : (OldA W :: L)[i]? = some (BufA v blocks most s)) (n : Int) (hn : I64 n) (hd : BytesAt (Old W) w dv d) (g : Nat) (hg : w.heap.size = g) (n0 : s.length ≤ 1000000) :
    Calls Try.prog 30 #[v, .slice (some ⟨g, 0, none⟩) 1 1] (w.alloc (.cells #[.int .i64 n, dv] 54)) fun e w' => e = .returned (.int .i64 (bufCode blocks most s [⟨n, d⟩])) ∧ Hid (Sep W ((OldA W :: L).set i (BufA v blocks most (bufNext blocks most s [⟨n, d⟩]))) w') := by
  subst hg
  have hil : i < (OldA W :: L).length := (List.getElem?_eq_some_iff.1 hi).1
  have h1 := h.out.new (below_alloc w _) (BoxA w.heap.size #[.int .i64 n, dv] 54) (F := New w (w.alloc (.cells #[.int .i64 n, dv] 54))) (fun _ h => h) ⟨⟨Nat.le_refl _, by simp⟩, heap_alloc_new w _⟩
  refine (bufWrite_sep h1 i (by rw [List.getElem?_append_left hil]; exact hi) [⟨n, d⟩] (fun G hR => ?_) n0 (by simp)).mono ?_
  · obtain ⟨F2, b1, b2⟩ := hR (OldA W :: L).length (BoxA w.heap.size #[.int .i64 n, dv] 54) (by omega) (by rw [List.getElem?_append_right (Nat.le_refl _)]; simp)
    exact puts_box1 b2.2 (b1 _ b2.1) hn (BytesAt.mono (BytesAt.up hd (below_alloc w _)) (rest_old' h0 hR))
  · rintro e w' ⟨rfl, hS⟩
    refine ⟨rfl, ?_⟩
    have := hS.out.take (OldA W :: L).length
    rw [List.set_append_left _ _ hil, List.take_left' (by simp)] at this
    exact this

set_option maxRecDepth 100000 in
set_option maxHeartbeats 3000000 in
theorem parts14_any (vl : Value) (l : List Put) (k0 : Int) (w : World) (hl : PutsAt (Old w) w vl l) : Calls Try.prog 9 #[vl, .int .i64 k0] w (Tru w) := by
  obtain ⟨p, c, rfl⟩ := putsAt_shape hl
  have HL := Lib.hid hl
  have hold : ∀ (w2 : World) (L : List Asn), Hid (Sep w (OldA w :: L) w2) → PutsAt (Old w) w2 (.slice p l.length c) l := fun w2 L h => PutsAt.same HL.out (fun k hk => h.out.old.block k hk)
  have hsz := puts_any (Old w) _ l 5000 w hl (by omega) (by omega)
  obtain ⟨i0, hi0, _⟩ := info_parts infoPut
  have hcut1 := fun k hk => sl_from (P := Try.prog) (t := 50) (e := 54) (k := 2) (by kernel_rfl) (by kernel_rfl) (by kernel_rfl) hi0 hl k hk
  have hcut2 := fun k hk => sl_to (P := Try.prog) (t := 50) (e := 54) (by kernel_rfl) (by kernel_rfl) hi0 hl k hk
  have HOLD := Lib.hid hold
  have HSZ := Lib.hid hsz
  have HCUT1 := Lib.hid hcut1
  have HCUT2 := Lib.hid hcut2
  clear hold hsz hcut1 hcut2
  clear hl hi0
  go_enter Try.func9, Try.ntmps9
  go_wp2_with fail
  refine (HSZ.out).mono ?_
  rintro e w1 ⟨n, rfl, hn0, hn1, hn2, hb1⟩
  have hS1 := (Sep.start w).up hb1
  have HS1 := Lib.hid hS1
  have HB1 := Lib.hid hb1
  have HN2 := Lib.hid hn2
  clear hS1 hb1 hn2
  by_cases hn : n ≤ 5000
  case neg =>
    have hn' : 5000 < n := by omega
    clear hn
    go_wp2_with fail
    refine (awake14 _).mono ?_
    rintro e w2 ⟨rfl, hb2⟩
    have hS2 := HS1.out.up hb2
    have HS2 := Lib.hid hS2
    have HB2 := Lib.hid hb2
    clear hS2 hb2
    go_wp2
    go_ret
    exact ⟨rfl, HS2.out.old⟩
  case pos =>
    have hps := HN2.out hn
    have hlen : l.length ≤ 5000 := by unfold psz at hps; omega
    have HPS := Lib.hid hps
    clear hps
    by_cases hl0 : l.length = 0
    case pos =>
      have hl0' : ((l.length : Int) == 0) = true := by rw [beq_iff_eq]; omega
      go_wp2_with fail
      refine (awake14 _).mono ?_
      rintro e w2 ⟨rfl, hb2⟩
      have hS2 := HS1.out.up hb2
      have HS2 := Lib.hid hS2
      have HB2 := Lib.hid hb2
      clear hS2 hb2
      go_wp2
      go_ret
      exact ⟨rfl, HS2.out.old⟩
    case neg =>
      have hl0' : ((l.length : Int) == 0) = false := by rw [beq_eq_false_iff_ne]; omega
      have hpos : 0 < l.length := by omega
      go_wp2_with fail
      refine (bufNew_sep HS1.out 50 16 (by omega) (by omega) (by omega)).mono ?_
      rintro e w2 ⟨b1, rfl, HS2⟩
      go_wp2_with fail
      refine (bufNew_sep HS2.out 50 16 (by omega) (by omega) (by omega)).mono ?_
      rintro e w3 ⟨b2, rfl, HS3⟩
      go_wp2_with fail
      refine (bufNew_sep HS3.out 50 16 (by omega) (by omega) (by omega)).mono ?_
      rintro e w4 ⟨b3, rfl, HS4⟩
      have hwr := bufWrite_sep HS4.out 1 (lv := .slice p l.length c) rfl l (fun G hG => (HOLD.out _ _ HS4).mono (rest_old' (by decide) hG)) (by simp) (by omega)
      have HWR := Lib.hid hwr
      clear hwr
      go_wp2_with fail
      refine (HWR.out).mono ?_
      rintro e w5 ⟨rfl, HS5⟩
      by_cases hc : bufCode 50 16 [] l = 0
      case neg =>
        have hcn := code0_b hc
        generalize bufCode 50 16 [] l = code at *
        go_wp2_with fail
        refine (awake14 _).mono ?_
        rintro e w6 ⟨rfl, hb6⟩
        have hS6 := HS5.out.up hb6
        have HS6 := Lib.hid hS6
        have HB6 := Lib.hid hb6
        clear hS6 hb6
        go_wp2
        go_ret
        exact ⟨rfl, HS6.out.old⟩
      case pos =>
        rw [bufNext_ok hc] at HS5
        rw [hc]
        obtain ⟨q1, q2, q3, q4, q5⟩ := parts_codes hc
        have hgood := (BufG.start 50).next (most := 16) l
        rw [bufNext_ok hc] at hgood
        obtain ⟨hk0, hk1⟩ := roundN_bd k0 (n := (l.length : Int) + 1) (by omega)
        obtain ⟨k, hk⟩ := Int.eq_ofNat_of_zero_le hk0
        have hkl : k ≤ l.length := by omega
        have hw1 : IntKind.i64.wrap ((l.length : Int) + 1) = (l.length : Int) + 1 := IntWalk.i64_in _ (by omega)
        obtain ⟨pf, hfr, hfx⟩ := HCUT1.out k hkl
        obtain ⟨hto, htx⟩ := HCUT2.out k hkl
        obtain ⟨hrg, hrl, hrp⟩ := parts_rev hc
        have HQ1 := Lib.hid q1
        have HQ2 := Lib.hid q2
        have HQ3 := Lib.hid q3
        have HQ5 := Lib.hid q5
        have HGOOD := Lib.hid hgood
        have HK := Lib.hid hk
        have HFX := Lib.hid hfx
        have HTX := Lib.hid htx
        have HRG := Lib.hid hrg
        have HRL := Lib.hid hrl
        have HRP := Lib.hid hrp
        clear q1 q2 q3 q5 hgood hk hfx htx hrg hrl hrp
        clear hk0 hk1 hc
        go_wp2_with fail
        refine (round_any k0 ((l.length : Int) + 1) _ (by omega) (by omega)).mono ?_
        rintro e w5' ⟨rfl, rfl⟩
        rw [HK.out]
        rcases (show k = 0 ∨ (0 < k ∧ k < l.length) ∨ (0 < k ∧ k = l.length) by omega) with hkc | ⟨hkc, hkc2⟩ | ⟨hkc, hkc2⟩
        case' inl =>
          subst hkc
          have hpp := HFX.out w5 (HOLD.out w5 _ HS5)
          rw [List.drop_zero, Nat.sub_zero, Nat.sub_zero] at hpp
          rw [Nat.sub_zero, Nat.sub_zero] at hfr
          rw [show (((0 : Nat) : Int)) = 0 from rfl] at hfr ⊢
          have hwr2 := bufWrite_sep HS5.out 2 (lv := .slice pf l.length c) rfl l (fun G hG => PutsAt.mono hpp (rest_old' (by decide) hG)) (by simp) (by omega)
          have hcc := HQ2.out 0 hpos
          rw [List.take_zero, List.drop_zero] at hcc
          replace hcc : bufCode 50 16 [] l = 0 := hcc
          have HWR2 := Lib.hid hwr2
          have HCC := Lib.hid hcc
          clear hwr2 hcc
          clear hpp hto
          go_wp2_with fail
          refine (HWR2.out).mono ?_
          rintro e w7 ⟨rfl, HS7⟩
          rw [HCC.out]
          rw [bufNext_ok HCC.out] at HS7
        case' inr.inl =>
          have hkI : (k : Int) < (l.length : Int) := by omega
          have hk0' : (0 : Int) < (k : Int) := by omega
          have hpt := HTX.out w5 (HOLD.out w5 _ HS5)
          have hwr2 := bufWrite_sep HS5.out 2 (lv := .slice p k c) rfl (l.take k) (fun G hG => PutsAt.mono hpt (rest_old' (by decide) hG)) (by simp) (by rw [List.length_take]; omega)
          have hcc := HQ1.out k hkc hkl
          have hcd := HQ2.out k hkc2
          have hap := putsTo_append [] (l.take k) (l.drop k)
          rw [List.take_append_drop] at hap
          have hle := putsTo_le [] (l.take k)
          rw [List.length_take, List.length_nil] at hle
          have HWR2 := Lib.hid hwr2
          have HCC := Lib.hid hcc
          have HCD := Lib.hid hcd
          have HAP := Lib.hid hap
          have HLE := Lib.hid hle
          clear hwr2 hcc hcd hap hle
          clear hpt
          go_wp2_with fail
          refine (HWR2.out).mono ?_
          rintro e w61 ⟨rfl, HS61⟩
          rw [HCC.out]
          rw [bufNext_ok HCC.out] at HS61
          have hpd := HFX.out w61 (HOLD.out w61 _ HS61)
          have hwr3 := bufWrite_sep HS61.out 2 (lv := .slice pf (l.length - k) (c - k)) rfl (l.drop k) (fun G hG => PutsAt.mono hpd (rest_old' (by decide) hG)) (by have := HLE.out; omega) (by rw [List.length_drop]; omega)
          have HWR3 := Lib.hid hwr3
          clear hwr3
          clear hpd
          go_wp2_with fail
          refine (HWR3.out).mono ?_
          rintro e w7 ⟨rfl, HS7⟩
          rw [HCD.out]
          rw [bufNext_ok HCD.out, HAP.out] at HS7
        case' inr.inr =>
          subst hkc2
          have hk0' : (0 : Int) < (l.length : Int) := by omega
          have hpt := HTX.out w5 (HOLD.out w5 _ HS5)
          rw [List.take_length] at hpt
          have hwr2 := bufWrite_sep HS5.out 2 (lv := .slice p l.length c) rfl l (fun G hG => PutsAt.mono hpt (rest_old' (by decide) hG)) (by simp) (by omega)
          have hcc := HQ1.out l.length hpos (Nat.le_refl _)
          rw [List.take_length] at hcc
          have HWR2 := Lib.hid hwr2
          have HCC := Lib.hid hcc
          clear hwr2 hcc
          clear hpt
          go_wp2_with fail
          refine (HWR2.out).mono ?_
          rintro e w7 ⟨rfl, HS7⟩
          rw [HCC.out]
          rw [bufNext_ok HCC.out] at HS7
        all_goals
          have hdn : putsTo [] (l.drop l.length).reverse = [] := by rw [List.drop_length]; rfl
          have HDN := Lib.hid hdn
          clear hdn
          clear hfr
          try clear hto
          go_wp2_with fail
          go_loopw [11] (fun i wr => ∃ j : Nat, j ≤ l.length ∧ i = .int .i64 ((j : Int) - 1) ∧ Hid (Sep w [OldA w, BufA (.pointer (some ⟨b1, 0, none⟩)) 50 16 (putsTo [] l), BufA (.pointer (some ⟨b2, 0, none⟩)) 50 16 (putsTo [] l), BufA (.pointer (some ⟨b3, 0, none⟩)) 50 16 (putsTo [] (l.drop j).reverse)] wr)) (fun i _ => (intOf i + 1).toNat)
          case atStart => exact ⟨l.length, Nat.le_refl _, rfl, by rw [HDN.out]; exact HS7⟩
          case round =>
            obtain ⟨j, hj, rfl, HS⟩ := hrel
            cases j with
            | succ j =>
              have hjl : j < l.length := by omega
              obtain ⟨hc7, hn7⟩ := HQ3.out j hjl
              have hle := putsTo_le [] (l.drop (j + 1)).reverse
              rw [List.length_reverse, List.length_drop, List.length_nil] at hle
              obtain ⟨p', c', he, _, _, _, h4⟩ := HOLD.out _ _ HS
              cases he
              obtain ⟨g, o, rfl, hgo, hca, hia, dv, hcd, hdv⟩ := h4 j hjl
              obtain ⟨dp, dc, rfl⟩ := shape_of hdv rfl
              have hej : (((j + 1 : Nat) : Int) - 1) = (j : Int) := by omega
              rw [hej]
              have hj0 : (0 : Int) ≤ (j : Int) := by omega
              have hjI : (j : Int) < (l.length : Int) := by omega
              have hw2 : IntKind.i64.wrap ((j : Int) - 1) = (j : Int) - 1 := IntWalk.i64_in _ (by omega)
              have hwr7 := bufWrite_old HS 3 (by decide) rfl l[j].lba hia hdv _ rfl (by omega)
              generalize l[j] = x at *
              obtain ⟨x1, x2⟩ := x
              simp only at *
              have HC7 := Lib.hid hc7
              have HN7 := Lib.hid hn7
              have HLE := Lib.hid hle
              have HWR7 := Lib.hid hwr7
              have HDV := Lib.hid hdv
              clear hc7 hn7 hle hwr7 hdv
              clear h4 hej hia
              go_wp2_with fail
              refine (HWR7.out).mono ?_
              rintro e w8 ⟨rfl, HS8⟩
              rw [HC7.out]
              rw [bufNext_ok HC7.out, HN7.out] at HS8
              go_wp2_with fail
              go_roundw
              case rel => exact ⟨j, by omega, rfl, HS8⟩
              case measure => simp [intOf]; try omega
            | zero =>
              rw [List.drop_zero] at HS
              rw [show (((0 : Nat) : Int) - 1) = -1 from rfl]
              have hsl := HQ5.out
              have HSL := Lib.hid hsl
              clear hsl
              go_wp2_with fail
              refine (bufPuts_sep HS 1 rfl HGOOD.out (by omega) (by have := HSL.out; omega)).mono ?_
              rintro e w9 ⟨p9, c9, rfl, HP9, HB9, HS9⟩
              rw [HSL.out] at HP9 ⊢
              have hpl := bufPuts_len (putsTo [] l)
              rw [HSL.out] at hpl
              obtain ⟨P, hpp⟩ : ∃ P, bufPuts (putsTo [] l) = P := ⟨_, rfl⟩
              have hplt : ∀ m j (hj : j < P.length) (hm : m + 1 = j), ∃ x0 x1, x0 = (P[m]'(by omega)).lba ∧ x1 = P[j].lba ∧ x0 < x1 := by
                intro m j hj hm
                subst hpp hm
                exact ⟨_, _, rfl, rfl, bufPuts_lt HGOOD.out.nd hj⟩
              rw [hpp] at HP9 hpl
              have HPL := Lib.hid hpl
              have HPLT := Lib.hid hplt
              have HPP := Lib.hid hpp
              clear hpl hplt hpp
              go_wp2_with fail
              go_loopw [13] (fun i wr => ∃ j : Nat, j ≤ l.length ∧ 1 ≤ j ∧ i = .int .i64 j ∧ Hid (Below w9.heap.size w9 wr)) (fun i _ => l.length - (intOf i).toNat)
              case atStart => exact ⟨1, by omega, Nat.le_refl _, rfl, Below.refl _ _⟩
              case round =>
                obtain ⟨j, hj, hj1, rfl, HBW⟩ := hrel
                have hpw := PutsAt.up HP9.out HBW.out
                by_cases hlt : j < l.length
                case pos =>
                  obtain ⟨p', c', he, _, _, _, h4⟩ := hpw
                  rw [HPL.out] at he
                  cases he
                  obtain ⟨m, hm⟩ : ∃ m, m + 1 = j := ⟨j - 1, by omega⟩
                  obtain ⟨x0, x1, hx0, hx1, hxl⟩ := HPLT.out m j (by rw [HPL.out]; exact hlt) hm
                  obtain ⟨g, o, rfl, _, hca, hra⟩ := h4 j (by rw [HPL.out]; exact hlt)
                  obtain ⟨g', o', he', _, hcb, hrb⟩ := h4 m (by rw [HPL.out]; omega)
                  cases he'
                  rw [← hx1] at hca
                  rw [← hx0] at hcb
                  have hdl : decide (x1 ≤ x0) = false := decide_eq_false (by omega)
                  have hmm : ((j : Int) - 1) = (m : Int) := by omega
                  have hmw : IntKind.i64.wrap ((j : Int) - 1) = (m : Int) := by rw [hmm]; exact IntWalk.i64_in _ (by omega)
                  have hmI : (m : Int) < (l.length : Int) := by omega
                  have hmI0 : (0 : Int) ≤ (m : Int) := by omega
                  clear h4 hmm hra hrb hx0 hx1
                  have HM := Lib.hid hm
                  clear hm
                  go_wp2_with fail
                  go_quiet (fail)
                  go_wp2_with fail
                  go_roundw
                  case rel => exact ⟨j + 1, by omega, by omega, by go_num, below_drewN HBW.out _⟩
                  case measure => simp [intOf]; omega
                case neg =>
                  obtain rfl : j = l.length := by omega
                  clear hlt
                  have hSr := HS9.out.up HBW.out
                  have HSR := Lib.hid hSr
                  have HPW := Lib.hid hpw
                  clear hSr hpw
                  go_wp2_with fail
                  refine (bufPuts_sep HSR 2 rfl HGOOD.out (by omega) (by have := HSL.out; omega)).mono ?_
                  rintro e w10 ⟨p10, c10, rfl, HP10, HB10, HS10⟩
                  rw [HSL.out, HPP.out] at HP10
                  rw [HSL.out]
                  have hpq := PutsAt.mono (PutsAt.up HPW.out HB10.out) (G' := Old w10) (fun k hk => Nat.lt_of_lt_of_le hk (Nat.le_trans HBW.out.size HB10.out.size))
                  have HPQ := Lib.hid hpq
                  clear hpq
                  go_wp2_with fail
                  refine (samePuts_any (Old w10) _ _ P P w10 (fun _ h => h) HPQ.out HP10.out).mono ?_
                  rintro e w11 ⟨rfl, hb11⟩
                  rw [samePuts_iff.2 rfl]
                  have hS11 := HS10.out.up hb11
                  have HS11 := Lib.hid hS11
                  have HB11 := Lib.hid hb11
                  clear hS11 hb11
                  go_wp2_with fail
                  refine (bufPuts_sep HS11 3 rfl HRG.out (by omega) (by have := HRL.out; omega)).mono ?_
                  rintro e w12 ⟨p12, c12, rfl, HP12, HB12, HS12⟩
                  rw [HRL.out, HRP.out, HPP.out] at HP12
                  rw [HRL.out]
                  have hpr := PutsAt.mono (PutsAt.up (PutsAt.up HPQ.out HB11.out) HB12.out) (G' := Old w12) (fun k hk => Nat.lt_of_lt_of_le hk (Nat.le_trans HB11.out.size HB12.out.size))
                  have HPR := Lib.hid hpr
                  clear hpr
                  go_wp2_with fail
                  refine (samePuts_any (Old w12) _ _ P P w12 (fun _ h => h) HPR.out HP12.out).mono ?_
                  rintro e w13 ⟨rfl, hb13⟩
                  rw [samePuts_iff.2 rfl]
                  have hS13 := HS12.out.up hb13
                  have HS13 := Lib.hid hS13
                  have HB13 := Lib.hid hb13
                  clear hS13 hb13
                  go_wp2_with fail
                  refine (awake14 _).mono ?_
                  rintro e w14 ⟨rfl, hb14⟩
                  have hS14 := HS13.out.up hb14
                  have HS14 := Lib.hid hS14
                  have HB14 := Lib.hid hb14
                  clear hS14 hb14
                  go_wp2
                  go_ret
                  exact ⟨rfl, HS14.out.old⟩
end Go.Proofs
