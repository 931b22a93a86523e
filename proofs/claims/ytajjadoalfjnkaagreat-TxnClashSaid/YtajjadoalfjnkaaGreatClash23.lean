/- TxnClash: of two that began at one time, and of which one wrote what the other one read or writes, just the first one that commits is committed: for every input the law returns true. -/
import Derived.Test.YtajjadoalfjnkaaGreatClash23P
import Derived.Test.YtajjadoalfjnkaaGreatTx7
namespace Go.Proofs
open Go.RowKit Sc
set_option maxRecDepth 100000 in
set_option maxHeartbeats 8000000 in
theorem clash23_any (a0 b0 c0 d0 : Int) (fl : Bool) (w : World) : Calls Tryz.prog 8 #[.int .i64 a0, .int .i64 b0, .int .i64 c0, .int .i64 d0, .bool fl] w (Tru w) := by
  have ra := roundN_bd a0 (n := 10) (by omega)
  have rb := roundN_bd b0 (n := 10) (by omega)
  have rc := roundN_bd c0 (n := 10) (by omega)
  have rd := roundN_bd d0 (n := 10) (by omega)
  have h1 := data_sz 1
  have h2 := data_sz 2
  go_enter Tryz.func8, Tryz.ntmps8
  go_wp2_with fail
  refine (mgrNew_sep (Lib.hid (Sep.start w)) 10 0 (by omega) (by omega) (by omega) (by omega)).mono ?_
  rintro e w1 ⟨m, rfl, HS1⟩
  go_wp2_with fail
  refine (round_any a0 10 _ (by omega) (by omega)).mono ?_
  rintro e w2 ⟨rfl, rfl⟩
  go_wp2_with fail
  refine (round_any b0 10 _ (by omega) (by omega)).mono ?_
  rintro e w2 ⟨rfl, rfl⟩
  go_wp2_with fail
  refine (round_any c0 10 _ (by omega) (by omega)).mono ?_
  rintro e w2 ⟨rfl, rfl⟩
  go_wp2_with fail
  refine (round_any d0 10 _ (by omega) (by omega)).mono ?_
  rintro e w2 ⟨rfl, rfl⟩
  generalize roundN a0 10 = a at *
  generalize roundN b0 10 = b at *
  generalize roundN c0 10 = c at *
  generalize roundN d0 10 = d at *
  obtain ⟨k1, k2, k3, k4, k5⟩ := cl_beg
  obtain ⟨R1, q1, q2⟩ := cl_rd1 (a := a) (by omega) (clT [] [] [])
  obtain ⟨R2, q3, q4⟩ := cl_rd2 (c := c) (by omega) (clT [⟨a, 1⟩] R1 [])
  obtain ⟨q5, q6⟩ := cl_wr1 (a := a) (b := b) (R1 := R1) (d1 := dataB 1) (by omega) h1 (clT [⟨c, 1⟩] R2 [])
  obtain ⟨q7, q8⟩ := cl_wr2 (c := c) (d := d) (R2 := R2) (d2 := dataB 2) (by omega) h2 (clT [⟨a, 1⟩] R1 [(b, dataB 1)])
  obtain ⟨q9, q10⟩ := cl_cm1 (a := a) (b := b) (R1 := R1) (d1 := dataB 1) (clT [⟨c, 1⟩] R2 [(d, dataB 2)])
  have G0 : MgG 0 (mgNew 10 0) := MgG.new (by omega) (by omega) (by omega) (by omega)
  have G1 := G0.begins (by omega)
  have G2 := G1.begins (by omega)
  rw [k5] at G2
  have G3 := G2.reads 1 ⟨a, 1⟩
  rw [q2] at G3
  have G4 := G3.reads 2 ⟨c, 1⟩
  rw [q4] at G4
  have G5 := G4.writes 1 [⟨b, dataB 1⟩]
  rw [q6] at G5
  have G6 := G5.writes 2 [⟨d, dataB 2⟩]
  rw [q8] at G6
  have G7 := G6.commits 1
  rw [q10] at G7
  have HG0 := Lib.hid G0
  have HG1 := Lib.hid G1
  have HG2 := Lib.hid G2
  have HG3 := Lib.hid G3
  have HG4 := Lib.hid G4
  have HG5 := Lib.hid G5
  have HG6 := Lib.hid G6
  have HG7 := Lib.hid G7
  have HRA := Lib.hid ra
  have HRB := Lib.hid rb
  have HRC := Lib.hid rc
  have HRD := Lib.hid rd
  have ia : I64 a := by unfold I64; omega
  have ib : I64 b := by unfold I64; omega
  have ic : I64 c := by unfold I64; omega
  have id' : I64 d := by unfold I64; omega
  have Q1 := Lib.hid q1
  have Q2 := Lib.hid q2
  have Q3 := Lib.hid q3
  have Q4 := Lib.hid q4
  have Q5 := Lib.hid q5
  have Q6 := Lib.hid q6
  have Q7 := Lib.hid q7
  have Q8 := Lib.hid q8
  have Q9 := Lib.hid q9
  have Q10 := Lib.hid q10
  have K5 := Lib.hid k5
  clear G0 G1 G2 G3 G4 G5 G6 G7 ra rb rc rd q1 q2 q3 q4 q5 q6 q7 q8 q9 q10 k5
  go_wp2_with fail
  refine (mgBegin_sep HS1 1 rfl HG0.out).mono ?_
  rintro e w2 ⟨rfl, HS2⟩
  rw [k1, k2]
  go_wp2_with fail
  refine (mgBegin_sep HS2 1 rfl HG1.out).mono ?_
  rintro e w3 ⟨rfl, HS3⟩
  rw [k3, k4]
  have hs3 := HS3.out
  rw [K5.out] at hs3
  have HS3 := Lib.hid hs3
  have HR1 := Lib.hid (mgRead_sep HS3 1 rfl HG2.out (by omega) 1 ⟨a, 1⟩ ia (show I64 1 by unfold I64; omega))
  clear hs3 HS2 k1 k2 k3 k4
  go_wp2_with fail
  refine (HR1.out).mono ?_
  rintro e w4 (⟨h0, _⟩ | ⟨_, g1, o1, c1, rfl, HS4⟩)
  · exact absurd Q1.out h0
  have hs4 := HS4.out
  rw [Q2.out] at hs4
  have HS4 := Lib.hid hs4
  have HR2 := Lib.hid (mgRead_sep HS4 1 rfl HG3.out (by omega) 2 ⟨c, 1⟩ ic (show I64 1 by unfold I64; omega))
  generalize 40 * (⟨a, 1⟩ : Ext).len.toNat = n1 at *
  clear hs4 HR1 HS3
  go_wp2_with fail
  refine (HR2.out).mono ?_
  rintro e w5 (⟨h0, _⟩ | ⟨_, g2, o2, c2, rfl, HS5⟩)
  · exact absurd Q3.out h0
  have hs5 := HS5.out
  rw [Q4.out] at hs5
  have HS5 := Lib.hid hs5
  generalize 40 * (⟨c, 1⟩ : Ext).len.toNat = n2 at *
  clear hs5 HR2 HS4
  go_wp2_with fail
  refine (data_any 1 _).mono ?_
  rintro e w6 ⟨dv, rfl, hd, hb3⟩
  obtain ⟨dp, dc, rfl⟩ := shape_of hd h1
  have HS6 := Lib.hid (HS5.out.new hb3 (ByA (.slice dp 40 dc) (dataB 1)) (fun _ h => h) hd)
  have HW := Lib.hid (mgWrite_one HS6 1 4 (by decide) rfl rfl HG4.out 1 b ib w6.heap.size rfl)
  rw [Q5.out, Q6.out] at HW
  clear hd hb3 HS5
  go_wp2_with fail
  refine (HW.out).mono ?_
  rintro e w7 ⟨rfl, HS7⟩
  clear HW HS6
  go_wp2_with fail
  refine (data_any 2 _).mono ?_
  rintro e w8 ⟨dv, rfl, hd, hb3⟩
  obtain ⟨ep, ec, rfl⟩ := shape_of hd h2
  have HS8 := Lib.hid (HS7.out.new hb3 (ByA (.slice ep 40 ec) (dataB 2)) (fun _ h => h) hd)
  have HW := Lib.hid (mgWrite_one HS8 1 5 (by decide) rfl rfl HG5.out 2 d id' w8.heap.size rfl)
  rw [Q7.out, Q8.out] at HW
  clear hd hb3 HS7
  go_wp2_with fail
  refine (HW.out).mono ?_
  rintro e w9 ⟨rfl, HS9⟩
  have HC := Lib.hid (mgCommit_sep HS9 1 rfl HG6.out (by show 0 ≤ 1000000; omega) 1)
  rw [Q9.out, Q10.out] at HC
  clear HW HS8
  cases fl with
  | false =>
    obtain ⟨x1, x2⟩ := cl_cm2 (a := a) (b := b) (c := c) (d := d) (R1 := R1) (R2 := R2) (d1 := dataB 1) (d2 := dataB 2) HRC.out HRD.out
    have X2 := Lib.hid x2
    go_wp2_with fail
    refine (HC.out).mono ?_
    rintro e w10 ⟨rfl, HS10⟩
    have HC2 := Lib.hid (mgCommit_sep HS10 1 rfl HG7.out (by show 1 ≤ 1000000; omega) 2)
    clear HC HS9 x2
    by_cases hbc : b = c
    · rw [if_pos (.inl hbc)] at x1
      rw [x1] at HC2
      have hbcz : (b == c) = true := by rw [beq_iff_eq]; exact hbc
      obtain ⟨z1, z2⟩ := X2.out (.inl hbc)
      clear x1 hbc
      go_wp2_with fail
      refine (HC2.out).mono ?_
      rintro e w11 ⟨rfl, HS11⟩
      have HR := Lib.hid (mgResult_sep HS11 1 rfl 2)
      rw [z1, z2] at HR
      clear HC2 HS10 z1 z2
      go_wp2_with fail
      refine (HR.out).mono ?_
      rintro e w12 ⟨rfl, HS12⟩
      generalize (resOf (cmNext (clW (clT [⟨a, 1⟩] R1 [(b, dataB 1)]) (clT [⟨c, 1⟩] R2 [(d, dataB 2)]) 0) 2) 2).2.1 = tt at *
      go_wp2_with fail
      refine (awake23 _).mono ?_
      rintro e w13 ⟨rfl, hb13⟩
      have HB13 := Lib.hid (Below.up HS12.out.old hb13)
      clear hb13
      go_wp2
      go_ret
      exact ⟨rfl, HB13.out⟩
    · by_cases hbd : b = d
      · rw [if_pos (.inr hbd)] at x1
        rw [x1] at HC2
        have hbcz : (b == c) = false := by rw [beq_eq_false_iff_ne]; exact hbc
        have hbdz : (b == d) = true := by rw [beq_iff_eq]; exact hbd
        obtain ⟨z1, z2⟩ := X2.out (.inr hbd)
        clear x1 hbc hbd
        go_wp2_with fail
        refine (HC2.out).mono ?_
        rintro e w11 ⟨rfl, HS11⟩
        have HR := Lib.hid (mgResult_sep HS11 1 rfl 2)
        rw [z1, z2] at HR
        clear HC2 HS10 z1 z2
        go_wp2_with fail
        refine (HR.out).mono ?_
        rintro e w12 ⟨rfl, HS12⟩
        generalize (resOf (cmNext (clW (clT [⟨a, 1⟩] R1 [(b, dataB 1)]) (clT [⟨c, 1⟩] R2 [(d, dataB 2)]) 0) 2) 2).2.1 = tt at *
        go_wp2_with fail
        refine (awake23 _).mono ?_
        rintro e w13 ⟨rfl, hb13⟩
        have HB13 := Lib.hid (Below.up HS12.out.old hb13)
        clear hb13
        go_wp2
        go_ret
        exact ⟨rfl, HB13.out⟩
      · rw [if_neg (by omega)] at x1
        rw [x1] at HC2
        have hbcz : (b == c) = false := by rw [beq_eq_false_iff_ne]; exact hbc
        have hbdz : (b == d) = false := by rw [beq_eq_false_iff_ne]; exact hbd
        clear x1 hbc hbd
        go_wp2_with fail
        refine (HC2.out).mono ?_
        rintro e w11 ⟨rfl, HS11⟩
        have HR := Lib.hid (mgResult_sep HS11 1 rfl 2)
        clear HC2 HS10
        go_wp2_with fail
        refine (HR.out).mono ?_
        rintro e w12 ⟨rfl, HS12⟩
        generalize (resOf (cmNext (clW (clT [⟨a, 1⟩] R1 [(b, dataB 1)]) (clT [⟨c, 1⟩] R2 [(d, dataB 2)]) 0) 2) 2) = rs at *
        go_wp2_with fail
        refine (awake23 _).mono ?_
        rintro e w13 ⟨rfl, hb13⟩
        have HB13 := Lib.hid (Below.up HS12.out.old hb13)
        clear hb13
        go_wp2
        go_ret
        exact ⟨rfl, HB13.out⟩
  | true =>
    obtain ⟨y1, y2⟩ := cl_ba (a := a) (b := b) (R1 := R1) (d1 := dataB 1) (clT [⟨c, 1⟩] R2 [(d, dataB 2)])
    have y3 := cl_do (a := a) (b := b) (R1 := R1) (d1 := dataB 1) HRB.out h1 (clT [⟨c, 1⟩] R2 [(d, dataB 2)])
    obtain ⟨x1, x2⟩ := cl_cm3 (a := a) (b := b) (c := c) (d := d) (R1 := R1) (R2 := R2) (d1 := dataB 1) (d2 := dataB 2) HRC.out HRD.out
    have X2 := Lib.hid x2
    have G8 := HG7.out.batches
    rw [y2] at G8
    have G9 := G8.dones 0 (by show (1 : Int) ≤ 8; omega)
    rw [y3] at G9
    have HG8 := Lib.hid G8
    have HG9 := Lib.hid G9
    have Y1 := Lib.hid y1
    have Y2 := Lib.hid y2
    have Y3 := Lib.hid y3
    clear G8 G9 y1 y2 y3 x2
    go_wp2_with fail
    refine (HC.out).mono ?_
    rintro e w10 ⟨rfl, HS10⟩
    have HBA := Lib.hid (mgBatch_sep HS10 1 rfl HG7.out (by show 1 ≤ 1000000; omega) (by omega))
    clear HC HS9
    go_wp2_with fail
    refine (HBA.out).mono ?_
    rintro e w10 (⟨h0, _⟩ | ⟨_, p, cp, rfl, HS11⟩)
    · exact absurd Y1.out h0
    have hs11 := HS11.out
    rw [Y2.out] at hs11
    have HS11 := Lib.hid hs11
    have HD := Lib.hid (mgDone_sep HS11 1 rfl HG8.out (by show 1 ≤ 1000000; omega) (by omega) (by show (1 : Int) ≤ 8; omega) 0)
    rw [Y3.out] at HD
    generalize formN (waitL (clW (clT [⟨a, 1⟩] R1 [(b, dataB 1)]) (clT [⟨c, 1⟩] R2 [(d, dataB 2)]) 0)) = fl at *
    generalize (clW (clT [⟨a, 1⟩] R1 [(b, dataB 1)]) (clT [⟨c, 1⟩] R2 [(d, dataB 2)]) 0).num + 1 = nn at *
    generalize doneCode (clW (clT [⟨a, 1⟩] R1 [(b, dataB 1)]) (clT [⟨c, 1⟩] R2 [(d, dataB 2)]) 1) = dcd at *
    clear hs11 HBA HS10
    go_wp2_with fail
    refine (HD.out).mono ?_
    rintro e w11 ⟨rfl, HS12⟩
    have HC2 := Lib.hid (mgCommit_sep HS12 1 rfl HG9.out (by show 0 ≤ 1000000; omega) 2)
    clear HD HS11
    by_cases hbc : b = c
    · rw [if_pos (.inl hbc)] at x1
      rw [x1] at HC2
      have hbcz : (b == c) = true := by rw [beq_iff_eq]; exact hbc
      obtain ⟨z1, z2⟩ := X2.out (.inl hbc)
      clear x1 hbc
      go_wp2_with fail
      refine (HC2.out).mono ?_
      rintro e w12 ⟨rfl, HS13⟩
      have HR := Lib.hid (mgResult_sep HS13 1 rfl 2)
      rw [z1, z2] at HR
      clear HC2 HS12 z1 z2
      go_wp2_with fail
      refine (HR.out).mono ?_
      rintro e w13 ⟨rfl, HS14⟩
      generalize (resOf (cmNext (clD (clT [⟨a, 1⟩] R1 [(b, dataB 1)]) (clT [⟨c, 1⟩] R2 [(d, dataB 2)]) b (dataB 1)) 2) 2).2.1 = tt at *
      go_wp2_with fail
      refine (awake23 _).mono ?_
      rintro e w14 ⟨rfl, hb13⟩
      have HB13 := Lib.hid (Below.up HS14.out.old hb13)
      clear hb13
      go_wp2
      go_ret
      exact ⟨rfl, HB13.out⟩
    · by_cases hbd : b = d
      · rw [if_pos (.inr hbd)] at x1
        rw [x1] at HC2
        have hbcz : (b == c) = false := by rw [beq_eq_false_iff_ne]; exact hbc
        have hbdz : (b == d) = true := by rw [beq_iff_eq]; exact hbd
        obtain ⟨z1, z2⟩ := X2.out (.inr hbd)
        clear x1 hbc hbd
        go_wp2_with fail
        refine (HC2.out).mono ?_
        rintro e w12 ⟨rfl, HS13⟩
        have HR := Lib.hid (mgResult_sep HS13 1 rfl 2)
        rw [z1, z2] at HR
        clear HC2 HS12 z1 z2
        go_wp2_with fail
        refine (HR.out).mono ?_
        rintro e w13 ⟨rfl, HS14⟩
        generalize (resOf (cmNext (clD (clT [⟨a, 1⟩] R1 [(b, dataB 1)]) (clT [⟨c, 1⟩] R2 [(d, dataB 2)]) b (dataB 1)) 2) 2).2.1 = tt at *
        go_wp2_with fail
        refine (awake23 _).mono ?_
        rintro e w14 ⟨rfl, hb13⟩
        have HB13 := Lib.hid (Below.up HS14.out.old hb13)
        clear hb13
        go_wp2
        go_ret
        exact ⟨rfl, HB13.out⟩
      · rw [if_neg (by omega)] at x1
        rw [x1] at HC2
        have hbcz : (b == c) = false := by rw [beq_eq_false_iff_ne]; exact hbc
        have hbdz : (b == d) = false := by rw [beq_eq_false_iff_ne]; exact hbd
        clear x1 hbc hbd
        go_wp2_with fail
        refine (HC2.out).mono ?_
        rintro e w12 ⟨rfl, HS13⟩
        have HR := Lib.hid (mgResult_sep HS13 1 rfl 2)
        clear HC2 HS12
        go_wp2_with fail
        refine (HR.out).mono ?_
        rintro e w13 ⟨rfl, HS14⟩
        generalize (resOf (cmNext (clD (clT [⟨a, 1⟩] R1 [(b, dataB 1)]) (clT [⟨c, 1⟩] R2 [(d, dataB 2)]) b (dataB 1)) 2) 2) = rs at *
        go_wp2_with fail
        refine (awake23 _).mono ?_
        rintro e w14 ⟨rfl, hb13⟩
        have HB13 := Lib.hid (Below.up HS14.out.old hb13)
        clear hb13
        go_wp2
        go_ret
        exact ⟨rfl, HB13.out⟩
end Go.Proofs
