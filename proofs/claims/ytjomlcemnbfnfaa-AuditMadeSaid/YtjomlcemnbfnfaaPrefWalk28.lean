/- AuditPrefix: the walk: for every input the law returns true. -/
import Derived.Test.YtjomlcemnbfnfaaPrefLaw28
namespace Go.Proofs
open Go.RowKit Sc Go.Sort

theorem HistsAt.mono28 {G G' : Nat → Prop} {w : World} {v : Value} {l : List Hist} (h : HistsAt G w v l) (hg : ∀ b, G b → G' b) : HistsAt G' w v l :=
  SlAt.mono h hg fun _ _ _ ⟨h1, h2, h3, h4, h5, h6, ⟨v, h7, h8⟩, u, h9, h10⟩ => ⟨h1, h2, h3, h4, h5, h6, ⟨v, h7, SlAt.mono h8 hg fun _ _ _ ⟨a, b, ⟨dv, c, d⟩, e⟩ => ⟨a, b, ⟨dv, c, BytesAt.mono d hg⟩, e⟩⟩, u, h9, PutsAt.mono h10 hg⟩
theorem refRun_sep {W w : World} {L : List Asn} (h : Sep W L w) (i : Nat) {v tv : Value} {ls : List Bytes} (hi : L[i]? = some (RefA v ls)) (hls : ls.length ≤ 1000000) (t : Tx) (ht : ∀ G, Sc.Rest L i G w → TxAt G w tv t) :
    Calls Try.prog 28 #[v, tv] w fun e w' => e = .returned (.int .i64 (runCode ls.length t.puts)) ∧ Hid (Sep W (L.set i (RefA v (if runCode ls.length t.puts = 0 then refPuts ls t.puts else ls))) w') := by
  obtain ⟨F, G, hF, hR, hFG, hdF, hdG, K⟩ := h.at i hi
  refine (refRun_any F G _ _ _ t _ hF hdF hls (ht G hR) hdG hFG).mono ?_
  rintro e w' ⟨rfl, hc, hm⟩
  exact ⟨rfl, K w' _ (RefA v (if runCode ls.length t.puts = 0 then refPuts ls t.puts else ls)) hc (fun k hk => hk) hm⟩
theorem refNew_sep {W w : World} {L : List Asn} (h : Sep W L w) (n : Nat) (h1 : 1 ≤ n) (h2 : n ≤ 1000000) :
    Calls Try.prog 27 #[.int .i64 n] w fun e w' => ∃ b : Nat, e = .returned (.tuple #[.pointer (some ⟨b, 0, none⟩), .int .i64 0]) ∧ Hid (Sep W (L ++ [RefA (.pointer (some ⟨b, 0, none⟩)) (List.replicate n [])]) w') := by
  refine (refNew_any n w h1 h2).mono ?_
  rintro e w' ⟨v, rfl, hm, hb⟩
  have := h.new hb (RefA v (List.replicate n [])) (fun _ h => h) hm
  obtain ⟨b, g, c, vs, rfl, _⟩ := hm
  exact ⟨b, rfl, this⟩
/-- What lies at a place of the order. -/
theorem ord_cell {W w : World} {L : List Asn} {l : List Hist} {op : Option Addr} {oc : Nat} (h : Sep W L w) (i : Nat) (hi : L[i]? = some (IntsA (.slice op (ordI l).length oc) ((ordI l).map fun i : Nat => (i : Int)))) {k : Nat} (hk : k < (ordI l).length) :
    ∃ b o, op = some ⟨b, o, none⟩ ∧ w.cell? ⟨b, o + k, none⟩ = some (.int .i64 ((ordI l)[k] : Int)) := by
  obtain ⟨F2, hF2, _⟩ := h.get i hi
  obtain ⟨p2, c2, he2, _, _, _, h24⟩ := hF2
  rw [List.length_map] at he2
  cases he2
  obtain ⟨ob, oo, rfl, _, hoc, _⟩ := h24 k (by rw [List.length_map]; exact hk)
  rw [List.getElem_map, Nat.mul_one] at hoc
  exact ⟨ob, oo, rfl, hoc⟩
set_option maxRecDepth 100000 in
set_option maxHeartbeats 4000000 in
theorem pref28_any (blocks : Int) (vl : Value) (l : List Hist) (n0 : Int) (w : World) (hl : HistsAt (Old w) w vl l) (in0 : I64 n0) :
    Calls Try.prog 13 #[.int .i64 blocks, vl, .int .i64 n0] w (Tru w) := by
  have hl0 := hl
  obtain ⟨lp, lc, rfl, hll1, hll2, -⟩ := hl0
  obtain ⟨lb, lo, hC⟩ := SlAt.one (E := histE (Old w)) (k := 7) hl
  have HL := Lib.hid hl
  have HC := Lib.hid hC
  clear hl hC
  go_enter Try.func13, Try.ntmps13
  go_wp2_with fail
  refine (small28_any (Old w) _ l _ (fun k hk => hk) HL.out).mono ?_
  rintro e w1 ⟨q, rfl, hq, hb1⟩
  have hS1 := (Sep.start w).up hb1
  have hl1 := HistsAt.up HL.out hb1
  have hG1 : Dom (Old w) w1 := fun k hk => Nat.lt_of_lt_of_le hk hb1.size
  have HQ := Lib.hid hq
  have HB1 := Lib.hid hb1
  have HS1 := Lib.hid hS1
  have HL1 := Lib.hid hl1
  have HG1 := Lib.hid hG1
  clear hq hb1 hS1 hl1 hG1
  cases q with
  | false =>
    go_wp2_with fail
    refine (awake28 _).mono ?_
    rintro e w2 ⟨rfl, hb2⟩
    have hS2 := HS1.out.up hb2
    have HS2 := Lib.hid hS2
    have HB2 := Lib.hid hb2
    clear hS2 hb2
    go_wp2
    go_ret
    exact ⟨rfl, HS2.out.old⟩
  | true =>
    by_cases h1 : blocks < 1
    case pos =>
      go_wp2_with fail
      refine (awake28 _).mono ?_
      rintro e w2 ⟨rfl, hb2⟩
      have hS2 := HS1.out.up hb2
      have HS2 := Lib.hid hS2
      have HB2 := Lib.hid hb2
      clear hS2 hb2
      go_wp2
      go_ret
      exact ⟨rfl, HS2.out.old⟩
    case neg =>
    by_cases h200 : 200 < blocks
    case pos =>
      go_wp2_with fail
      refine (awake28 _).mono ?_
      rintro e w2 ⟨rfl, hb2⟩
      have hS2 := HS1.out.up hb2
      have HS2 := Lib.hid hS2
      have HB2 := Lib.hid hb2
      clear hS2 hb2
      go_wp2
      go_ret
      exact ⟨rfl, HS2.out.old⟩
    case neg =>
    obtain ⟨n, rfl⟩ := Int.eq_ofNat_of_zero_le (show 0 ≤ blocks by omega)
    have hn1 : 1 ≤ n := by omega
    have hn2 : n ≤ 200 := by omega
    have hlen : l.length ≤ 40 := HQ.out rfl
    have hol := ordI_len l
    have hpl := ordP_len l
    have HN1 := Lib.hid hn1
    have HN2 := Lib.hid hn2
    go_wp2_with fail
    refine (auditOrder_any (Old w) _ l _ HG1.out HL1.out (by omega)).mono ?_
    rintro e w2 ⟨vo, rfl, hvo, hb2⟩
    have hS2 := HS1.out.new hb2 (IntsA vo ((ordI l).map fun i : Nat => (i : Int))) (fun _ h => h) hvo
    have hvo0 := hvo
    obtain ⟨op, oc, rfl, ho1, ho2, -⟩ := hvo0
    rw [List.length_map] at ho1
    rw [List.length_map] at hS2 ⊢
    have HS2 := Lib.hid hS2
    clear hS2
    clear hvo hb2
    go_wp2_with fail
    refine (round_any n0 (((ordI l).length : Int) + 1) _ (by omega) (by omega)).mono ?_
    rintro e w3 ⟨rfl, rfl⟩
    obtain ⟨hj0, hj1⟩ := roundN_bd n0 (n := ((ordI l).length : Int) + 1) (by omega)
    obtain ⟨j, hj⟩ := Int.eq_ofNat_of_zero_le hj0
    rw [hj] at hj1 ⊢
    clear hj hj0
    have hjl : j ≤ (ordI l).length := by omega
    clear hj1
    go_wp2_with fail
    refine (refNew_sep HS2.out n HN1.out (by have := HN2.out; omega)).mono ?_
    rintro e w4 ⟨bm, rfl, HS4⟩
    go_wp2_with fail
    go_loopw [10] (fun i wr => ∃ k : Nat, k ≤ j ∧ i = .int .i64 k ∧ Hid (∀ p ∈ (ordP l).take k, runCode n p = 0) ∧ Hid (Sep w [OldA w, IntsA (.slice op (ordI l).length oc) ((ordI l).map fun i : Nat => (i : Int)), RefA (.pointer (some ⟨bm, 0, none⟩)) (refAll (List.replicate n []) ((ordP l).take k))] wr)) (fun i _ => j - (intOf i).toNat)
    case atStart => exact ⟨0, Nat.zero_le _, rfl, by unfold Hid; simp, HS4⟩
    case round =>
      obtain ⟨k, hk, rfl, HR, HS⟩ := hrel
      clear HS4 HS2
      by_cases hlt : k < j
      case pos =>
        have hkl : k < (ordI l).length := by omega
        obtain ⟨hxl, hpk, hpe⟩ := ordP_get hkl
        obtain ⟨ob, oo, rfl, hoc⟩ := ord_cell HS.out 1 rfl hkl
        obtain ⟨rfl, hGb, _, _, _, _, _, _, _, pv, hc6, hpd⟩ := HC.out _ hxl
        replace hc6 := cell_up HS.out.old hc6
        replace hpd := PutsAt.up hpd HS.out.old
        have htk := take_snoc (ordP l) k hpk
        rw [hpe] at htk
        have hpd0 := hpd
        obtain ⟨pp, pcx, rfl, hp1, hp2, hp3, hp4⟩ := hpd0
        clear hp1 hp2 hp3 hp4
        generalize l[(ordI l)[k]].puts = ps at *
        generalize (ordI l)[k] = x at *
        have hlen2 : (refAll (List.replicate n []) ((ordP l).take k)).length = n := by rw [refAll_len, List.length_replicate]
        have hrun := refRun_sep (tv := .agg #[.int .i64 0, .slice pp ps.length pcx]) HS.out 2 rfl (by rw [hlen2]; omega) ⟨0, ps⟩ (fun G hR => by
          obtain ⟨F0, hF0, hO⟩ := hR 0 _ (by decide) rfl
          exact ⟨_, rfl, i64_zero, hpd.mono fun q hq => hF0 q (hO.1 q hq)⟩)
        rw [hlen2] at hrun
        have hxz : (x : Int) < (l.length : Int) := by omega
        have hx0 : ¬ (x : Int) < 0 := by omega
        have HRUN := Lib.hid hrun
        have HTK := Lib.hid htk
        clear hrun htk
        clear hpd hpe hpk hlen2
        by_cases hcode : runCode n ps = 0
        · have HR4 : Hid (∀ p ∈ (ordP l).take (k + 1), runCode n p = 0) := fun q hq => by
            rw [HTK.out] at hq
            rcases List.mem_append.1 hq with h | h
            · exact HR.out q h
            · rw [List.mem_singleton] at h; rw [h]; exact hcode
          go_wp2_with fail
          refine (HRUN.out).mono ?_
          rintro e w5 ⟨rfl, HS5⟩
          have hs5 := HS5.out
          simp only [hcode, if_true] at hs5 ⊢
          rw [← refAll_snoc, ← HTK.out] at hs5
          have HS6 := Lib.hid hs5
          clear hs5 HS5 HRUN
          go_wp2_with fail
          go_roundw
          case rel => exact ⟨k + 1, by omega, by go_num, HR4, HS6⟩
          case measure => simp [intOf]; omega
        · have hcz : (runCode n ps != 0) = true := by rw [bne_iff_ne]; exact hcode
          go_wp2_with fail
          refine (HRUN.out).mono ?_
          rintro e w5 ⟨rfl, HS5⟩
          have HOL := Lib.hid HS5.out.old
          clear HS5 HRUN
          go_wp2_with fail
          refine (awake28 _).mono ?_
          rintro e w6 ⟨rfl, hb6⟩
          have HB6 := Lib.hid (Below.up HOL.out hb6)
          clear hb6
          go_wp2
          go_ret
          exact ⟨rfl, HB6.out⟩
      case neg =>
        obtain rfl : k = j := by omega
        have hrel := (RelM.start n).all_runs HR.out
        have hall := hrel.all
        have hln : (refAll (List.replicate n []) ((ordP l).take k)).length = n := by rw [refAll_len, List.length_replicate]
        obtain ⟨kk, hres, hjk, hkl, hok, hsame⟩ := prefix_of (n := n) (l := l) (j := k) HN1.out HN2.out (by omega) HR.out
        obtain ⟨F2, hF2, hD2⟩ := HS.out.get 2 rfl
        have HSM := Lib.hid hsame
        have HOK := Lib.hid hok
        have HRES := Lib.hid hres
        have HALL := Lib.hid hall
        have HLN := Lib.hid hln
        clear hrel hall hln hres hok hsame
        go_wp2_with fail
        refine (Go.Proofs.refAll_any F2 _ _ _ hF2 hD2 (by rw [HLN.out]; have := HN2.out; omega)).mono ?_
        rintro e w5 ⟨v5, rfl, hv5, hb5⟩
        rw [← HALL.out] at hv5
        have HS5 := Lib.hid (HS.out.up hb5)
        have HL5 := Lib.hid (HistsAt.up HL.out HS5.out.old)
        have HV5 := Lib.hid hv5
        clear hv5 hb5 hF2 hD2
        go_wp2_with fail
        refine (prefix_any (Old w5) n _ _ l _ _ HN1.out (by have := HN2.out; omega) (fun _ h => h) (HistsAt.mono28 HL5.out fun q hq => Nat.lt_of_lt_of_le hq HS5.out.old.size) HV5.out (by omega)).mono ?_
        rintro e w6 ⟨rfl, hb6⟩
        rw [HRES.out]
        have HS6 := Lib.hid (HS5.out.up hb6)
        clear hb6 HV5 HL5 HS5
        go_wp2_with fail
        refine (refNew_sep HS6.out n HN1.out (by have := HN2.out; omega)).mono ?_
        rintro e w7 ⟨bx, rfl, HS7⟩
        clear HS6 HS
        go_wp2_with fail
        obtain ⟨W4, rfl⟩ : ∃ W4 : World, W4 = wr := ⟨_, rfl⟩
        go_loopw [15] (fun i wr => ∃ m : Nat, m ≤ kk ∧ i = .int .i64 m ∧ Hid (Sep w [OldA w, IntsA (.slice op (ordI l).length oc) ((ordI l).map fun i : Nat => (i : Int)), RefA (.pointer (some ⟨bm, 0, none⟩)) (refAll (List.replicate n []) ((ordP l).take k)), RefA (.pointer (some ⟨bx, 0, none⟩)) (refAll (List.replicate n []) ((ordP l).take m))] wr)) (fun i _ => kk - (intOf i).toNat)
        case atStart => exact ⟨0, Nat.zero_le _, rfl, HS7⟩
        case round =>
          obtain ⟨m, hm, rfl, HS⟩ := hrel
          clear HS7
          by_cases hlt2 : m < kk
          case pos =>
            have hml : m < (ordI l).length := by omega
            obtain ⟨hxl, hpk, hpe⟩ := ordP_get hml
            obtain ⟨ob, oo, rfl, hoc⟩ := ord_cell HS.out 1 rfl hml
            obtain ⟨rfl, hGb, _, _, _, _, _, _, _, pv, hc6, hpd⟩ := HC.out _ hxl
            replace hc6 := cell_up HS.out.old hc6
            replace hpd := PutsAt.up hpd HS.out.old
            have htk := take_snoc (ordP l) m hpk
            have hcode : runCode n (ordP l)[m] = 0 := HOK.out _ (by rw [List.mem_take_iff_getElem]; exact ⟨m, by omega, rfl⟩)
            rw [hpe] at htk hcode
            have hpd0 := hpd
            obtain ⟨pp, pcx, rfl, hp1, hp2, hp3, hp4⟩ := hpd0
            clear hp1 hp2 hp3 hp4
            generalize l[(ordI l)[m]].puts = ps at *
            generalize (ordI l)[m] = x at *
            have hlen2 : (refAll (List.replicate n []) ((ordP l).take m)).length = n := by rw [refAll_len, List.length_replicate]
            have hrun := refRun_sep (tv := .agg #[.int .i64 0, .slice pp ps.length pcx]) HS.out 3 rfl (by rw [hlen2]; have := HN2.out; omega) ⟨0, ps⟩ (fun G hR => by
              obtain ⟨F0, hF0, hO⟩ := hR 0 _ (by decide) rfl
              exact ⟨_, rfl, i64_zero, hpd.mono fun q hq => hF0 q (hO.1 q hq)⟩)
            rw [hlen2] at hrun
            have hxz : (x : Int) < (l.length : Int) := by omega
            have hx0 : ¬ (x : Int) < 0 := by omega
            have HRUN := Lib.hid hrun
            have HTK := Lib.hid htk
            clear hrun htk
            clear hpd hpe hpk hlen2
            go_wp2_with fail
            refine (HRUN.out).mono ?_
            rintro e w8 ⟨rfl, HS8⟩
            have hs8 := HS8.out
            simp only [hcode, if_true] at hs8 ⊢
            rw [← refAll_snoc, ← HTK.out] at hs8
            have HS9 := Lib.hid hs8
            clear hs8 HS8 HRUN
            go_wp2_with fail
            go_roundw
            case rel => exact ⟨m + 1, by omega, by go_num, HS9⟩
            case measure => simp [intOf]; omega
          case neg =>
            obtain rfl : m = kk := by omega
            have HALL2 := Lib.hid ((RelM.start n).all_runs HOK.out).all
            have HLN2 : Hid ((refAll (List.replicate n []) ((ordP l).take m)).length = n) := by show _ = _; rw [refAll_len, List.length_replicate]
            obtain ⟨F3, hF3, hD3⟩ := HS.out.get 3 rfl
            go_wp2_with fail
            refine (Go.Proofs.refAll_any F3 _ _ _ hF3 hD3 (by rw [HLN2.out]; have := HN2.out; omega)).mono ?_
            rintro e w8 ⟨v8, rfl, hv8, hb8⟩
            rw [← HALL2.out, HSM.out] at hv8
            have HS8 := Lib.hid (HS.out.up hb8)
            have HV8 := Lib.hid hv8
            clear hv8 hb8 hF3 hD3
            obtain ⟨F2, hF2, hD2⟩ := HS8.out.get 2 rfl
            go_wp2_with fail
            refine (Go.Proofs.refAll_any F2 _ _ _ hF2 hD2 (by rw [HLN.out]; have := HN2.out; omega)).mono ?_
            rintro e w9 ⟨v9, rfl, hv9, hb9⟩
            rw [← HALL.out] at hv9
            have HS9 := Lib.hid (HS8.out.up hb9)
            have HV9 := Lib.hid hv9
            have HV8' := Lib.hid ((HV8.out.up hb9).mono fun q hq => Nat.lt_of_lt_of_le hq hb9.size)
            clear hv9 hb9 hF2 hD2
            go_wp2_with fail
            refine (samePuts_any (Old w9) _ _ _ _ _ (fun k hk => hk) HV8'.out HV9.out).mono ?_
            rintro e w10 ⟨rfl, hb10⟩
            rw [samePuts_iff.2 rfl]
            have HS10 := Lib.hid (HS9.out.up hb10)
            clear hb10
            go_wp2_with fail
            refine (awake28 _).mono ?_
            rintro e w11 ⟨rfl, hb11⟩
            have HS11 := Lib.hid (HS10.out.up hb11)
            clear hb11
            go_wp2
            go_ret
            exact ⟨rfl, HS11.out.old⟩
end Go.Proofs
