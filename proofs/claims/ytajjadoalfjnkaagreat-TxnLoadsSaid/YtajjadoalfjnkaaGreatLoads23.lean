/- TxnLoads: what is loaded is there, once: for every input the law returns true. -/
import Derived.Test.YtajjadoalfjnkaaGreatLoads23P
import Derived.Test.YtajjadoalfjnkaaGreatSamePuts
import Derived.Test.YtajjadoalfjnkaaGreatTx7
namespace Go.Proofs
open Go.RowKit Sc
theorem ld_bytes {F : Nat → Prop} {w : World} {v : Value} {l : Bytes} (h : (BytesWA v l).P F w) : BytesAt (fun _ => True) w v l := BytesAt.mono (BytesW.bytes h) fun _ _ => trivial
theorem ld_rest {W w0 : World} {L : List Asn} {i : Nat} (hi : 0 ≠ i) {v : Value} {l : List Put} (hp : PutsAt (Old W) W v l) {G : Foot} (hR : Sc.Rest (OldA W :: L) i G w0) : PutsAt G w0 v l := by
  obtain ⟨F0, hF0, hO⟩ := hR 0 _ hi rfl
  exact (hp.same hO.2).mono fun q hq => hF0 q (hO.1 q hq)
set_option maxRecDepth 100000 in
set_option maxHeartbeats 8000000 in
theorem loads23_any (last : Int) (v : Value) (l : List Put) (a c : Int) (w : World) (hv : PutsAt (Old w) w v l) : Calls Tryz.prog 10 #[.int .i64 last, v, .agg #[.int .i64 a, .int .i64 c]] w (Tru w) := by
  obtain ⟨p, cp, rfl, g1, g2, g3, g4⟩ := hv
  have HV := Lib.hid (show PutsAt (Old w) w (.slice p l.length cp) l from ⟨p, cp, rfl, g1, g2, g3, g4⟩)
  have HG4 := Lib.hid g4
  clear g1 g2 g3 g4
  have hbx := below_alloc w (.cells #[.int .i64 a, .int .i64 c] 56)
  have HS0 := Lib.hid ((Sep.start w).up hbx)
  have HP0 := Lib.hid (puts_any (Old w) _ l 5000 _ (HV.out.up hbx) (by omega) (by omega))
  clear hbx
  go_enter Tryz.func10, Tryz.ntmps10
  go_wp2_with fail
  refine (HP0.out).mono ?_
  rintro e w1 ⟨n1, rfl, hn1, hn2, hn3, hb1⟩
  have HS1 := Lib.hid (HS0.out.up hb1)
  have HB1 := Lib.hid HS1.out.old
  have HN := Lib.hid hn3
  clear hb1 hn3 HS0 HP0
  by_cases hbig : 5000 < n1
  case pos =>
    go_wp2_with fail
    refine (awake23 _).mono ?_
    rintro e w2 ⟨rfl, hb2⟩
    have HB2 := Lib.hid (Below.up HB1.out hb2)
    go_wp2
    go_ret
    exact ⟨rfl, HB2.out⟩
  case neg =>
  by_cases h1 : last < 0
  case pos =>
    go_wp2_with fail
    refine (awake23 _).mono ?_
    rintro e w2 ⟨rfl, hb2⟩
    have HB2 := Lib.hid (Below.up HB1.out hb2)
    go_wp2
    go_ret
    exact ⟨rfl, HB2.out⟩
  case neg =>
  by_cases h2 : 1099511627776 ≤ last
  case pos =>
    go_wp2_with fail
    refine (awake23 _).mono ?_
    rintro e w2 ⟨rfl, hb2⟩
    have HB2 := Lib.hid (Below.up HB1.out hb2)
    go_wp2
    go_ret
    exact ⟨rfl, HB2.out⟩
  case neg =>
  have hlen : l.length ≤ 5000 := by
    have hz := HN.out (by omega)
    have : l.length ≤ psz l := Nat.le_add_right _ _
    omega
  have h0 : 0 ≤ last := by omega
  have G0 : MgG 0 (mgNew 20 last) := MgG.new (by omega) (by omega) (by omega) (by omega)
  have HG0 := Lib.hid G0
  clear G0 HN HB1
  go_wp2_with fail
  refine (mgrNew_sep HS1 20 last (by omega) (by omega) (by omega) (by omega)).mono ?_
  rintro e w2 ⟨m, rfl, HS2⟩
  have HS2 : Hid (Sep w [OldA w, MgrA (pt m) (mgNew 20 last)] w2) := HS2
  have HL := Lib.hid (mgLoad_sep HS2 1 rfl HG0.out (by omega) _ l (fun G w' hR => ld_rest (by decide) HV.out hR) (by omega))
  have GL := Lib.hid (HG0.out.loads l)
  clear HS1
  go_wp2_with fail
  refine (HL.out).mono ?_
  rintro e w3 ⟨rfl, HS3⟩
  clear HL HS2
  by_cases hc : ldCode (mgNew 20 last) l = 0
  case neg =>
    obtain ⟨d1, d2⟩ := ld_none l hc
    have HS3 : Hid (Sep w [OldA w, MgrA (pt m) (ldNext (mgNew 20 last) l)] w3) := HS3
    generalize ldNext (mgNew 20 last) l = S at *
    generalize ldCode (mgNew 20 last) l = cc at *
    have hcn : (cc != 0) = true := by simp [hc]
    have hdv : dumpV S.vs = [] := by rw [d1]; unfold dumpV keysUp; simp
    have HD := Lib.hid (mgDump_sep HS3 1 rfl GL.out (by omega))
    rw [hdv] at HD
    have HD2 := Lib.hid d2
    clear d1 d2 hdv
    go_wp2_with fail
    refine (HD.out).mono ?_
    rintro e w4 ⟨p4, c4, rfl, _, HB4⟩
    have HS4 := Lib.hid (HS3.out.up HB4.out)
    have HLa := Lib.hid (mgLast_sep HS4 1 rfl)
    rw [HD2.out] at HLa
    have HB5 := Lib.hid HS4.out.old
    clear HD HS3 HB4
    go_wp2_with fail
    refine (HLa.out).mono ?_
    rintro e w5 ⟨rfl, rfl⟩
    clear HLa HS4
    go_wp2_with fail
    refine (awake23 _).mono ?_
    rintro e w6 ⟨rfl, hb6⟩
    have HB6 := Lib.hid (Below.up HB5.out hb6)
    clear hb6
    go_wp2
    go_ret
    exact ⟨rfl, HB6.out⟩
  case pos =>
  have T := ld_taken h0 hc
  obtain ⟨f1, f2, f3, f4, f5⟩ := T.facts
  obtain ⟨b1, b2, b3, b4, b5⟩ := T.begins GL.out (by omega)
  rw [hc]
  have HS3 : Hid (Sep w [OldA w, MgrA (pt m) (ldNext (mgNew 20 last) l)] w3) := HS3
  generalize ldNext (mgNew 20 last) l = S at *
  have HT0 := Lib.hid T
  have HD := Lib.hid (mgDump_sep HS3 1 rfl GL.out (by omega))
  rw [f1] at HD
  have F2 := Lib.hid f2
  have F3 := Lib.hid f3
  have F4 := Lib.hid f4
  have B1 := Lib.hid b1
  have B2 := Lib.hid b2
  have B3 := Lib.hid b3
  have B4 := Lib.hid b4
  have B5 := Lib.hid b5
  clear T f1 f2 f3 f4 b1 b2 b3 b4 b5 hc HG0
  go_wp2_with fail
  refine (HD.out).mono ?_
  rintro e w4 ⟨p4, c4, rfl, HP4, HB4⟩
  have HS4 := Lib.hid (HS3.out.up HB4.out)
  have hold := HS4.out.old
  have HSP := Lib.hid (samePuts_any (Old w4) (.slice p4 l.length c4) (.slice p l.length cp) l l w4 (fun k hk => hk) (PutsAt.mono HP4.out.puts fun k hk => hk.2) (PutsAt.mono (HV.out.up hold) fun k hk => Nat.lt_of_lt_of_le hk hold.size))
  rw [samePuts_iff.2 rfl] at HSP
  clear HD HS3 HB4 HP4 hold
  go_wp2_with fail
  refine (HSP.out).mono ?_
  rintro e w5 ⟨rfl, hb5⟩
  have HS5 := Lib.hid (HS4.out.up hb5)
  have HLa := Lib.hid (mgLast_sep HS5 1 rfl)
  rw [F2.out] at HLa
  clear hb5 HSP HS4
  go_wp2_with fail
  refine (HLa.out).mono ?_
  rintro e w6' ⟨rfl, rfl⟩
  clear HLa
  by_cases hl0 : l.length = 0
  case' pos =>
    have hl0' : ¬ 0 < ((l.length : Nat) : Int) := by omega
    have HS6 := HS5
    clear HS5 hl0
    obtain ⟨w6, rfl⟩ : ∃ x, x = w6' := ⟨_, rfl⟩
  case' neg =>
    have hne : l ≠ [] := fun e => hl0 (by rw [e]; rfl)
    have hl0' : 0 < ((l.length : Nat) : Int) := by omega
    have HL2 := Lib.hid (mgLoad_sep HS5 1 rfl GL.out (by omega) _ l (fun G w' hR => ld_rest (by decide) HV.out hR) (by omega))
    have hcc := F3.out hne
    rw [F4.out] at HL2
    generalize ldCode S l = cc at *
    have hcn : (cc == 0) = false := by simp [hcc]
    go_wp2_with fail
    refine (HL2.out).mono ?_
    rintro e w6 ⟨rfl, HS6⟩
    clear HL2 HS5 hl0
  all_goals
    have HS6 : Hid (Sep w [OldA w, MgrA (pt m) S] w6) := HS6
    have HBg := Lib.hid (mgBegin_sep HS6 1 rfl GL.out)
    rw [B1.out, B2.out] at HBg
    go_wp2_with fail
    refine (HBg.out).mono ?_
    rintro e w7 ⟨rfl, HS7⟩
    clear HBg HS6 hl0'
    have HS7 : Hid (Sep w [OldA w, MgrA (pt m) (begNext S)] w7) := HS7
    have HL3 := Lib.hid (mgLoad_sep HS7 1 rfl B3.out.g (by omega) _ l (fun G w' hR => ld_rest (by decide) HV.out hR) (by omega))
    rw [B4.out, B5.out] at HL3
    go_wp2_with fail
    refine (HL3.out).mono ?_
    rintro e w8 ⟨rfl, HS8⟩
    have HS8 : Hid (Sep w [OldA w, MgrA (pt m) (begNext S)] w8) := HS8
    clear HL3 HS7
    go_wp2_with fail
    go_loopw [12] (fun s12 wr => ∃ i : Nat, ∃ s : MgS, i ≤ l.length ∧ s12 = .int .i64 i ∧ Hid (LdJ last l i s) ∧ Hid (Sep w [OldA w, MgrA (pt m) s] wr)) (fun s12 _ => l.length - (intOf s12).toNat)
    case atStart => exact ⟨0, _, Nat.zero_le _, by go_num, B3, HS8⟩
    case round =>
      obtain ⟨i, s, hi, rfl, HT, HS⟩ := hrel
      clear HS8
      by_cases hlt : i < l.length
      case pos =>
        have hne' : l ≠ [] := fun e => absurd hlt (by rw [e]; exact Nat.not_lt_zero _)
        first | (exfalso; omega) | exact absurd ‹l = []› hne' | skip
        all_goals
          obtain ⟨b, o, rfl, hb, hc0, ik, dv, hc1, hd⟩ := HG4.out i hlt
          obtain ⟨r1, r2, r3⟩ := HT.out.read HT0.out.p HT0.out.k f5 hlt
          have hbw := HS.out.old
          have hc0' := cell_up hbw hc0
          generalize l[i] = x at r1 r2 r3 hc0 ik hc1 hd hc0'
          have HR := Lib.hid (mgRead_sep HS 1 rfl HT.out.g (by omega) 1 ⟨x.lba, 1⟩ ik (show I64 1 by unfold I64; omega))
          have R1 := Lib.hid r1
          have R3 := Lib.hid r3
          have R2 := Lib.hid r2
          have HC1 := Lib.hid hc1
          have HD1 := Lib.hid hd
          clear r1 r2 r3 hc0 ik hc1 hd hbw
          go_wp2_with fail
          refine (HR.out).mono ?_
          rintro e w9 (⟨h0', _⟩ | ⟨_, gg, oo, cc9, rfl, HS9⟩)
          · exact absurd R1.out h0'
          have hs9 := HS9.out
          rw [R2.out] at hs9
          have HS10 := Lib.hid hs9
          obtain ⟨F9, hF9, _⟩ := HS10.out.get 2 rfl
          have HX : Hid (BytesAt (fun _ => True) w9 (.slice (some ⟨gg, oo, none⟩) 40 cc9) x.data) := Lib.hid (ld_bytes hF9)
          have hb9 := HS10.out.old
          have hc1' := cell_up hb9 HC1.out
          have HY := Lib.hid (BytesAt.mono (HD1.out.up hb9) fun _ _ => trivial : BytesAt (fun _ => True) w9 dv x.data)
          clear HS HR hs9 HS9 hF9 hb9 hc0'
          go_wp2_with fail
          refine (bytes_any (fun _ => True) _ _ x.data x.data _ HX.out HY.out).mono ?_
          rintro e w10 ⟨rfl, hb10⟩
          rw [show (x.data == x.data) = true by simp]
          have HS11 := Lib.hid ((HS10.out.up hb10).take 2)
          clear hb10 hc1'
          go_wp2_with fail
          go_roundw
          case rel => exact ⟨i + 1, _, by omega, by go_num, R3, HS11⟩
          case measure => simp [intOf]; omega
      case neg =>
        have hd40 := data_sz 1
        obtain ⟨x1, x2, x3, x4⟩ := HT.out.fin (by omega) hd40
        have X1 := Lib.hid x1
        have X2 := Lib.hid x2
        have X3 := Lib.hid x3
        have X4 := Lib.hid x4
        have hlt' : ¬ (i : Int) < ((l.length : Nat) : Int) := by omega
        clear x1 x2 x3 x4
        go_wp2_with fail
        refine (data_any 1 _).mono ?_
        rintro e w10 ⟨dv, rfl, hd, hb10⟩
        obtain ⟨dp, dc, rfl⟩ := shape_of hd hd40
        have HS10 := Lib.hid (HS.out.new hb10 (ByA (.slice dp 40 dc) (dataB 1)) (fun _ h => h) hd)
        have HW := Lib.hid (mgWrite_one HS10 1 2 (by decide) rfl rfl HT.out.g 1 3 (by unfold I64; omega) w10.heap.size rfl)
        rw [X1.out] at HW
        clear hd hb10 HS
        go_wp2_with fail
        refine (HW.out).mono ?_
        rintro e w11 ⟨rfl, HS11⟩
        have HC := Lib.hid (mgCommit_sep HS11 1 rfl X2.out X3.out 1)
        rw [X4.out] at HC
        clear HW HS10
        go_wp2_with fail
        refine (HC.out).mono ?_
        rintro e w12 ⟨rfl, HS12⟩
        have HB12 := Lib.hid HS12.out.old
        clear HC HS11
        go_wp2_with fail
        refine (awake23 _).mono ?_
        rintro e w13 ⟨rfl, hb13⟩
        have HB13 := Lib.hid (Below.up HB12.out hb13)
        clear hb13
        go_wp2
        go_ret
        exact ⟨rfl, HB13.out⟩
end Go.Proofs
