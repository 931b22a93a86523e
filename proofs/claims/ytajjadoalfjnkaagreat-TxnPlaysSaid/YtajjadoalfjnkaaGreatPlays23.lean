/- TxnPlays. -/
import Derived.Test.YtajjadoalfjnkaaGreatPl13
namespace Go.Proofs
open Go.RowKit Sc
theorem readsW_reads {F : Nat → Prop} {w : World} {v : Value} {l : List Sc.Read} (h : ReadsW F w v l) : ReadsAt F w v l := SlAt.mono h (fun _ h => h) fun _ _ _ ⟨h1, h2, ⟨v, h3, h4⟩, h5⟩ => ⟨h1, h2, ⟨v, h3, h4.bytes⟩, h5⟩
theorem ssz_at {l : List Step23} {k : Nat} (h : k < l.length) : l[k].puts.length ≤ ssz23 l := by
  have h1 : ssz23 (l.take (k + 1)) = ssz23 (l.take k) + (psz l[k].puts + 3) := by
    unfold ssz23
    rw [take_snoc l k h, List.map_append, List.sum_append]; simp
  have h2 : ssz23 l = ssz23 (l.take (k + 1)) + ssz23 (l.drop (k + 1)) := by
    unfold ssz23
    rw [← List.sum_append, ← List.map_append, List.take_append_drop]
  have h3 : l[k].puts.length ≤ psz l[k].puts := by unfold psz; omega
  omega
set_option maxRecDepth 100000 in
set_option maxHeartbeats 16000000 in
theorem plays23_any (blocks last : Int) (v0 v : Value) (l0 : List Put) (l : List Step23) (w : World) (hv0 : PutsAt (Old w) w v0 l0) (hv : Steps23 (Old w) w v l) : Calls Tryz.prog 16 #[.int .i64 blocks, .int .i64 last, v0, v] w (Tru w) := by
  have hsm := small23_any (Old w) v l w (fun _ h => h) hv
  obtain ⟨p, c, rfl, _, _, _, g4⟩ := hv
  have hpz := fun (w1 : World) (hb : Below w.heap.size w w1) => puts_any (Old w) v0 l0 5000 w1 (hv0.up hb) (by omega) (by omega)
  obtain ⟨lp, lc, rfl⟩ := putsAt_shape hv0
  have HSM := Lib.hid hsm
  have HPZ := Lib.hid hpz
  have HG4 := Lib.hid g4
  have HV0 := Lib.hid hv0
  clear hsm hpz g4 hv0
  go_enter Tryz.func16, Tryz.ntmps16
  go_wp2_with fail
  refine (HSM.out).mono ?_
  rintro e w1 ⟨q, rfl, hq, hb1⟩
  have HB1 := Lib.hid hb1
  clear hb1
  cases q with
  | false =>
    go_wp2_with fail
    refine (awake23 _).mono ?_
    rintro e w2 ⟨rfl, hb2⟩
    have HB2 := Lib.hid (Below.up HB1.out hb2)
    go_wp2
    go_ret
    exact ⟨rfl, HB2.out⟩
  | true =>
  have hlen := (hq rfl).2
  have HQ := Lib.hid hq
  clear hq HSM
  by_cases hbl : 1000 < blocks
  case pos =>
    go_wp2_with fail
    refine (awake23 _).mono ?_
    rintro e w2 ⟨rfl, hb2⟩
    have HB2 := Lib.hid (Below.up HB1.out hb2)
    go_wp2
    go_ret
    exact ⟨rfl, HB2.out⟩
  case neg =>
  go_wp2_with fail
  refine (HPZ.out w1 HB1.out).mono ?_
  rintro e w2 ⟨n2, rfl, _, _, hn2, hb2⟩
  have HB2 := Lib.hid (Below.up HB1.out hb2)
  clear hb2 HPZ
  by_cases hn5 : 5000 < n2
  case pos =>
    go_wp2_with fail
    refine (awake23 _).mono ?_
    rintro e w3 ⟨rfl, hb3⟩
    have HB3 := Lib.hid (Below.up HB2.out hb3)
    go_wp2
    go_ret
    exact ⟨rfl, HB3.out⟩
  case neg =>
  have hl0 : l0.length ≤ 5000 := by
    have h1 := hn2 (by omega)
    have h2 : l0.length ≤ psz l0 := by unfold psz; omega
    omega
  by_cases hgood : 1 ≤ blocks ∧ blocks ≤ 1048576 ∧ 0 ≤ last ∧ last ≤ 1099511627776
  case neg =>
    have HGD := Lib.hid hgood
    clear hgood
    go_wp2_with fail
    refine (mgrNew_bad blocks last _ HGD.out).mono ?_
    rintro e w3 ⟨rfl, hb3⟩
    have HB3 := Lib.hid (Below.up HB2.out hb3)
    clear hb3
    go_wp2_with fail
    refine (rmgrNew_bad blocks last _ HGD.out).mono ?_
    rintro e w4 ⟨rfl, hb4⟩
    have HB4 := Lib.hid (Below.up HB3.out hb4)
    clear hb4
    go_wp2_with fail
    refine (awake23 _).mono ?_
    rintro e w5 ⟨rfl, hb5⟩
    have HB5 := Lib.hid (Below.up HB4.out hb5)
    go_wp2
    go_ret
    exact ⟨rfl, HB5.out⟩
  case pos =>
  obtain ⟨o1, o2, o3, o4⟩ := hgood
  have HS0 := Lib.hid ((Sep.start w).up HB2.out)
  go_wp2_with fail
  refine (mgrNew_sep HS0 blocks last o1 o2 o3 o4).mono ?_
  rintro e w3 ⟨m, rfl, HS3⟩
  clear HS0
  go_wp2_with fail
  refine (rmgrNew_sep HS3 blocks last o1 o2 o3 o4).mono ?_
  rintro e w4 ⟨r, rfl, HS4⟩
  have HS4 : Hid (Sep w [OldA w, MgrA (pt m) (mgNew blocks last), RMgrA (pt r) (mgNew blocks last)] w4) := HS4
  have g0 : MgG 0 (mgNew blocks last) := MgG.new o1 o2 o3 o4
  have G0 := Lib.hid g0
  have hl1 : l0.length ≤ 1000000 := by omega
  clear HS3
  have hcc : (ldCode (mgNew blocks last) l0 != ldCode (mgNew blocks last) l0) = false := by simp
  go_wp2_with fail
  refine (mgLoad_sep HS4 1 rfl G0.out (by omega) _ l0 (fun G w' hR => rest_oldV (by decide) HV0.out hR) hl1).mono ?_
  rintro e w5 ⟨rfl, HS5⟩
  clear HS4
  go_wp2_with fail
  refine (rmLoad_sep HS5 2 rfl G0.out (by omega) _ l0 (fun G w' hR => rest_oldV (by decide) HV0.out hR) hl1).mono ?_
  rintro e w6 ⟨rfl, HS6⟩
  have HS6 : Hid (Sep w [OldA w, MgrA (pt m) (ldNext (mgNew blocks last) l0), RMgrA (pt r) (ldNext (mgNew blocks last) l0)] w6) := HS6
  have hg1 := (g0.loads l0).mono (m := 5000) (by omega)
  have ho1 : (ldNext (mgNew blocks last) l0).out ≤ 8 := by
    unfold ldNext
    split
    · show (0 : Int) ≤ 8; omega
    · show (0 : Int) ≤ 8; omega
  have HG1 : Hid (MgG 5000 (ldNext (mgNew blocks last) l0) ∧ (ldNext (mgNew blocks last) l0).out ≤ 8) := ⟨hg1, ho1⟩
  clear HS5 hg1 ho1 g0 G0
  generalize ldCode (mgNew blocks last) l0 = lcd at *
  generalize ldNext (mgNew blocks last) l0 = S0 at *
  go_wp2_with fail
  clear hcc
  go_loopw [13] (fun s13 wr => ∃ k : Nat, ∃ s : MgS, k ≤ l.length ∧ s13 = .int .i64 (k : Int) ∧ Hid (MgG (5000 + 128 * k) s ∧ s.out ≤ 8) ∧ Hid (Sep w [OldA w, MgrA (pt m) s, RMgrA (pt r) s] wr)) (fun s13 _ => l.length - (intOf s13).toNat)
  case atStart => exact ⟨0, S0, Nat.zero_le _, by go_num, HG1, HS6⟩
  case round =>
    obtain ⟨k, s, hk, rfl, HG, HS⟩ := hrel
    clear HG1 HS6
    by_cases hlt : k < l.length
    case pos =>
      have hki : (k : Int) < (l.length : Int) := by omega
      obtain ⟨b, o, rfl, hb, hc0, ik, hc1, ih, hc2, hc3, ie1, ie2, ⟨pv, hc4, hp⟩, hc5, in5⟩ := HG4.out k hlt
      have hbw := HS.out.old
      have hc0' := cell_up hbw hc0
      have hc1' := cell_up hbw hc1
      have hc2' := cell_up hbw hc2
      have hc3' := cell_up hbw hc3
      have hc4' := cell_up hbw hc4
      have hc5' := cell_up hbw hc5
      have hpl := ssz_at hlt
      generalize l[k] = x at hpl hc0 ik hc1 ih hc2 hc3 ie1 ie2 hc4 hp hc5 in5 hc0' hc1' hc2' hc3' hc4' hc5'
      obtain ⟨kd, hh, ⟨xf, xl⟩, ps, nn⟩ := x
      clear hc0 hc2 hc3 hc4 hc5 hbw
      obtain ⟨pp, pc, rfl⟩ : ∃ pp pc, pv = .slice pp ps.length pc := putsAt_shape hp
      have hpl' : ps.length ≤ 400000 := by have := (HQ.out trivial).1; exact Nat.le_trans hpl (by omega)
      simp only at hc0' hc1' hc2' hc3' hc4' hc5' hc1
      have HD := Lib.hid (does23_any HS HG.out.1 HG.out.2 (by omega) kd hh xf xl nn pp pc ps hp ih ie1 ie2 hpl')
      have hst := stDo_good HG.out.1 HG.out.2 (by omega) ⟨kd, hh, ⟨xf, xl⟩, ps, nn⟩
      have HST : Hid (MgG (5000 + 128 * (k + 1)) (stDo s ⟨kd, hh, ⟨xf, xl⟩, ps, nn⟩) ∧ (stDo s ⟨kd, hh, ⟨xf, xl⟩, ps, nn⟩).out ≤ 8) := ⟨hst.1.mono (by omega), hst.2⟩
      have HC1 := Lib.hid hc1
      have IH := Lib.hid ih
      clear hp hpl hpl' ik ih ie1 ie2 in5 hst hc1 HS
      go_wp2_with fail
      refine (HD.out).mono ?_
      rintro e w7 ⟨rfl, HS7⟩
      generalize stDo s ⟨kd, hh, ⟨xf, xl⟩, ps, nn⟩ = s2 at *
      have x1 := cell_up HS7.out.old HC1.out
      have HSA := Lib.hid (same23_any HS7 HST.out.1 (by omega) hh IH.out)
      clear HD hc0' hc1' hc2' hc3' hc4' hc5'
      go_wp2_with fail
      refine (HSA.out).mono ?_
      rintro e w8 ⟨rfl, HS8⟩
      clear HSA x1 HS7
      go_wp2_with fail
      go_roundw
      case rel => exact ⟨k + 1, s2, by omega, by go_num, HST, HS8⟩
      case measure => simp [intOf]; omega
    case neg =>
      obtain rfl : k = l.length := by omega
      have hki : ¬ ((l.length : Int) < (l.length : Int)) := by omega
      have HGN : Hid (MgG 40000 s) := HG.out.1.mono (by omega)
      obtain ⟨w9, rfl⟩ : ∃ w9 : World, w9 = wr := ⟨_, rfl⟩
      have HS9 := HS
      clear HG hlt hk HS
      go_wp2_with fail
      go_loopw [14] (fun s14 wr => ∃ j : Nat, j ≤ s.txs.length ∧ s14 = .int .i64 ((j : Int) + 1) ∧ Hid (Sep w [OldA w, MgrA (pt m) s, RMgrA (pt r) s] wr)) (fun s14 _ => s.txs.length + 1 - (intOf s14).toNat)
      case atStart => exact ⟨0, Nat.zero_le _, by go_num, HS9⟩
      case round =>
        clear HS9
        obtain ⟨j, hj, rfl, HS⟩ := hrel
        have hhn := HGN.out.hn
        obtain ⟨_, _, _, ⟨p5, c5, v5⟩, mp, pm, cm, v0, vm⟩ := rm_seen HS 2 rfl HGN.out
        by_cases hlt : j < s.txs.length
        case pos =>
          have hji : (j : Int) + 1 ≤ (s.txs.length : Int) := by omega
          have HH := Lib.hid (mgHistory_sep HS 1 rfl HGN.out (by omega) (hd := (j : Int) + 1) (by omega) (by omega))
          rw [txAt_nat hlt] at HH
          clear v0 vm
          go_wp2_with fail
          refine (HH.out).mono ?_
          rintro e w10 ⟨rp, rc, pp, pc, rfl, HS10⟩
          have HS10 : Hid (Sep w [OldA w, MgrA (pt m) s, RMgrA (pt r) s, ReadsWA (.slice rp s.txs[j].R.length rc) s.txs[j].R, PutsWA (.slice pp s.txs[j].buf.length pc) (bufPuts s.txs[j].buf)] w10) := HS10
          have HRH := Lib.hid (rmHistory_sep HS10 2 rfl HGN.out (by omega) hlt)
          clear HH v5
          go_wp2_with fail
          refine (HRH.out).mono ?_
          rintro e w11 ⟨rp2, rc2, pp2, pc2, rfl, hb11, hr11, hp11⟩
          have HS11 := Lib.hid (HS10.out.up hb11.out)
          obtain ⟨F3, hF3, hD3⟩ := HS11.out.get 3 rfl
          obtain ⟨F4, hF4, hD4⟩ := HS11.out.get 4 rfl
          have hr1 : ReadsAt (fun q => q < w11.heap.size) w11 (.slice rp s.txs[j].R.length rc) s.txs[j].R := readsAt_mono (readsW_reads hF3) hD3
          have hp1 : PutsAt (fun q => q < w11.heap.size) w11 (.slice pp s.txs[j].buf.length pc) (bufPuts s.txs[j].buf) := (PutsW.puts hF4).mono hD4
          have hlp : s.txs[j].buf.length = (bufPuts s.txs[j].buf).length := by
            obtain ⟨_, _, e, _⟩ := id hp1
            exact (Value.slice.inj e).2.1
          have htg := HGN.out.tx _ (List.getElem_mem hlt)
          have hhp := hp11.out
          have hhr := hr11.out
          have htr := htg.rl
          have htb := htg.bl
          have HSH : Hid (Calls Tryz.prog 50 #[histV s.txs[j] rp pp rc pc, histV s.txs[j] rp2 pp2 rc2 pc2] w11 fun e w' => e = .returned (.bool true) ∧ Below w11.heap.size w11 w') := by
            unfold histV
            rw [hlp] at hp1 hhp htb ⊢
            exact sameHistory_eq (fun q => q < w11.heap.size) _ _ _ _ _ rp rp2 pp pp2 rc rc2 pc pc2 w11 (fun _ h => h) hr1 hhr hp1 hhp (by omega) (by omega)
          clear hF3 hF4 hr1 hp1 htg hhp hhr HRH hb11 hr11 hp11 hlp htr htb
          go_wp2_with fail
          refine (HSH.out).mono ?_
          rintro e w12 ⟨rfl, hb12⟩
          have HS12 : Hid (Sep w [OldA w, MgrA (pt m) s, RMgrA (pt r) s] w12) := (HS11.out.up hb12).take 3
          clear HSH HS11 HS10 hb12
          go_wp2_with fail
          go_roundw
          case rel => exact ⟨j + 1, by omega, by go_num, HS12⟩
          case measure => simp [intOf]; omega
        case neg =>
          obtain rfl : j = s.txs.length := by omega
          have hji : ¬ ((s.txs.length : Int) + 1 ≤ (s.txs.length : Int)) := by omega
          clear v0 vm
          go_upto_region 21 with fail
          have hs13 : Sep w [OldA w, MgrA (pt m) s, RMgrA (pt r) s] wr.drew := HS.out.up (below_drewN (Below.refl wr.heap.size wr) 1)
          have HS13 := Lib.hid hs13
          have HDU := Lib.hid (mgDump_sep HS13 1 rfl HGN.out (by omega))
          obtain ⟨mp2, u0, hdu2⟩ := rmDump_sep HS13 2 rfl HGN.out (by omega)
          clear hdu2 hs13 v5
          refine wp_regionG (fun W => W.cell? ⟨r, 0, none⟩ = some (.pointer (some ⟨mp2, 0, none⟩))) (n := 12) (by kernel_rfl) (by kernel_rfl) ?_
          refine wpG.tk 0 ?_
          refine wpG.tk 2 ?_
          refine wpG.tk 3 ?_
          refine wpG.tk 4 ?_
          refine wpG.tk 5 ?_ (hy := by intro W hW; have hld0 := hW; go_simp; try with_reducible rfl)
          generalize wr.drew = w13 at *
          refine wpG.alone 1 rfl (by kernel_rfl) (by kernel_rfl) u0 (fun K hK => ?_)
          go_simp
          go_at_call 30
          refine (HDU.out).mono ?_
          rintro e w14 ⟨dp, dc, rfl, hpw, hb14⟩
          have HS14 := Lib.hid (HS13.out.up hb14.out)
          obtain ⟨mp3, u1, hdu3⟩ := rmDump_sep HS14 2 rfl HGN.out (by omega)
          have u14 := cell_up hb14.out u0
          rw [u14] at u1
          cases u1
          have HDU3 := Lib.hid hdu3
          have hpd : PutsAt (fun q => q < w14.heap.size) w14 (.slice dp (dumpV s.vs).length dc) (dumpV s.vs) := (PutsW.puts hpw.out).mono fun q hq => hq.2
          have HPD := Lib.hid hpd
          clear hdu3 HDU hpw hpd hb14
          try go_simp
          refine hK _ _ ?_
          clear hK K
          refine wpG.alone 6 rfl (by kernel_rfl) (by kernel_rfl) u14 (fun K hK => ?_)
          go_simp
          go_at_call 52
          refine (HDU3.out).mono ?_
          rintro e w15 ⟨pv, rfl, hpv, hb15⟩
          have HS15 := Lib.hid (HS14.out.up hb15.out)
          have u15 := cell_up hb15.out u14
          have hsp := samePuts_any (fun q => q < w15.heap.size) (.slice dp (dumpV s.vs).length dc) pv (dumpV s.vs) (dumpV s.vs) w15 (fun _ h => h) ((HPD.out.up hb15.out).mono fun q hq => Nat.lt_of_lt_of_le hq hb15.out.size) hpv.out
          rw [samePuts_self] at hsp
          have HSP := Lib.hid hsp
          clear hsp HDU3 hpv hb15 HPD
          try go_simp
          refine hK _ _ ?_
          clear hK K
          refine wpG.alone 7 rfl (by kernel_rfl) (by kernel_rfl) u15 (fun K hK => ?_)
          go_simp
          go_at_call 37
          refine (HSP.out).mono ?_
          rintro e w16 ⟨rfl, hb16⟩
          have u16 := cell_up hb16 u15
          have HB16 := Lib.hid ((HS15.out.up hb16).old)
          clear HSP hb16
          try go_simp
          refine hK _ _ ?_
          clear hK K
          refine wpG.tk 8 ?_
          refine wpG.alone 9 rfl (by kernel_rfl) (by kernel_rfl) u16 (fun K hK => ?_)
          go_simp
          go_at_call 17
          refine (awake23 _).mono ?_
          rintro e w17 ⟨rfl, hb17⟩
          have u17 := cell_up hb17 u16
          have HB17 := Lib.hid (Below.up HB16.out hb17)
          clear hb17
          try go_simp
          refine hK _ _ ?_
          clear hK K
          refine wpG.tk 10 ?_
          refine wpG.tk 11 ?_
          refine wpG.done (by kernel_rfl) u17 ?_
          clear u0 u14 u15 u16 u17
          go_wp2
          go_ret
          exact ⟨rfl, HB17.out⟩
end Go.Proofs
