/- TxnOwn: what one wrote is read in it at once, and by nobody else till it is committed; aborted it never is: for every input the law returns true. -/
import Derived.Test.YtajjadoalfjnkaaGreatOwn23P
import Derived.Test.YtajjadoalfjnkaaGreatTx7
namespace Go.Proofs
open Go.RowKit Sc
theorem wpList_make_wanted {P : Program} (w : World) {ops : Array Oper} {rest : List Oper} {o : Oper} {a : Act} {Q : Exit → Act → World → Prop}
    (hg : Region.wanted o (yielded ops a.tmps) = true) (l c : Operand) (t : TypeId) (hop : o.op = Op.makeSlice t l c)
    (base : Nat) (e : TypeId) (i : TypeInfo) (z : Value) (size : Nat) (h1 : P.underlying t = some (.slice e)) (h2 : P.info? e = some i) (h3 : i.zero = some z) (h4 : i.size = size)
    (kl kc : IntKind) (L C : Int) (n : Nat) (hl : a.eval l = .int kl L) (hc : a.eval c = .int kc C) (hL : L = (n : Int)) (hC : C = (n : Int)) (b2 : i.bytes * n ≤ 281474976710656) (b3 : n ≤ maxLen) (b4 : base ≤ w.heap.size)
    (hK : ∀ w', w'.ownsRow base e size (.slice (some ⟨w.heap.size, 0, none⟩) n n) n (madeCells z.cells (n * size)).toList → w.grownBy w' none → wpList P ops Q rest (a.put o.dst (.slice (some ⟨w.heap.size, 0, none⟩) n n)) w') :
    wpList P ops Q (o :: rest) a w := by
  refine wpList_step fun K hK' => ?_
  rw [if_pos hg]
  obtain ⟨w', hrun, r1, r2⟩ := run_make_full (P := P) w base t e i z size h1 h2 h3 h4 kl kc n b2 b3 b4
  subst hL
  subst hC
  unfold Oper.wp
  simp [execOp, hop, hl, hc, hrun, Result.andThen]
  exact hK' _ _ (hK w' r1 r2)
theorem bytesW_at {F : Nat → Prop} {w : World} {v : Value} {l : Bytes} (h : (BytesWA v l).P F w) : BytesAt (fun _ => True) w v l := BytesAt.mono (BytesW.bytes h) fun _ _ => trivial
set_option maxRecDepth 100000 in
set_option maxHeartbeats 8000000 in
theorem own23_any (lba0 n : Int) (ab : Bool) (w : World) : Calls Tryz.prog 9 #[.int .i64 lba0, .int .i64 n, .bool ab] w (Tru w) := by
  by_cases h1 : n < 1
  case pos =>
    go_enter Tryz.func9, Tryz.ntmps9
    go_wp2_with fail
    refine (awake23 _).mono ?_
    rintro e w1 ⟨rfl, hb1⟩
    go_wp2
    go_ret
    exact ⟨rfl, hb1⟩
  case neg =>
  by_cases h2 : 8 < n
  case pos =>
    go_enter Tryz.func9, Tryz.ntmps9
    go_wp2_with fail
    refine (awake23 _).mono ?_
    rintro e w1 ⟨rfl, hb1⟩
    go_wp2
    go_ret
    exact ⟨rfl, hb1⟩
  case neg =>
  obtain ⟨N, rfl⟩ := Int.eq_ofNat_of_zero_le (show 0 ≤ n by omega)
  have rl := roundN_bd lba0 (n := 20) (by omega)
  have hN1 : 1 ≤ N := by omega
  have hN8 : N ≤ 8 := by omega
  go_enter Tryz.func9, Tryz.ntmps9
  go_wp2_with fail
  refine (mgrNew_sep (Lib.hid (Sep.start w)) 20 0 (by omega) (by omega) (by omega) (by omega)).mono ?_
  rintro e w1 ⟨m, rfl, HS1⟩
  go_wp2_with fail
  refine (round_any lba0 20 _ (by omega) (by omega)).mono ?_
  rintro e w2 ⟨rfl, rfl⟩
  generalize roundN lba0 20 = lba at *
  have HRL := Lib.hid rl
  have il : I64 lba := by unfold I64; omega
  have HS2 := Lib.hid (HS1.out.new (below_alloc w1 (.cells #[.int .i64 lba, .int .i64 1] 56)) (BoxA w1.heap.size #[.int .i64 lba, .int .i64 1] 56) (F := New w1 (w1.alloc (.cells #[.int .i64 lba, .int .i64 1] 56))) (fun _ h => h) ⟨⟨Nat.le_refl _, by simp⟩, heap_alloc_new w1 _⟩)
  obtain ⟨k1, k2, k3, k4⟩ := ow_beg
  obtain ⟨G0, G1, GI⟩ := OwI.start lba
  have HGI := Lib.hid GI
  have HG0 := Lib.hid G0
  have HG1 := Lib.hid G1
  clear rl HS1 G0 G1 GI
  go_wp2_with fail
  refine (mgBegin_sep HS2 1 rfl HG0.out).mono ?_
  rintro e w3 ⟨rfl, HS3⟩
  rw [k1, k2]
  go_wp2_with fail
  refine (mgBegin_sep HS3 1 rfl HG1.out).mono ?_
  rintro e w4 ⟨rfl, HS4⟩
  rw [k3, k4]
  clear HS2 HS3 k1 k2 k3 k4
  go_wp2_with fail
  go_loopw [14] (fun s14 wr => ∃ i : Nat, ∃ s : MgS, ∃ bf, i ≤ N ∧ s14 = .int .i64 i ∧ Hid (OwI lba (2 + 32 * i) bf s) ∧ Hid (bf = if i = 0 then [] else [(lba, dataB ((i : Int) - 1))]) ∧ Hid (Sep w [OldA w, MgrA (pt m) s, BoxA w1.heap.size #[.int .i64 lba, .int .i64 1] 56] wr)) (fun s14 _ => N - (intOf s14).toNat)
  case atStart => exact ⟨0, _, [], Nat.zero_le _, by go_num, HGI, rfl, HS4⟩
  case round =>
    obtain ⟨i, s, bf, hi, rfl, HT, HBF, HS⟩ := hrel
    clear HGI HS4
    have z0 : wr.cell? ⟨w1.heap.size, 0, none⟩ = some (.int .i64 lba) := by
      obtain ⟨F, hF, _⟩ := HS.out.get 2 rfl
      rw [cell_row hF.2]; rfl
    have z1 : wr.cell? ⟨w1.heap.size, 1, none⟩ = some (.int .i64 1) := by
      obtain ⟨F, hF, _⟩ := HS.out.get 2 rfl
      rw [cell_row hF.2]; rfl
    by_cases hlt : i < N
    case pos =>
      have hd40 := data_sz (i : Int)
      obtain ⟨f1, f2⟩ := ow_bf HBF.out
      obtain ⟨p1, p2, p3, p4, p5, p6, p7, p8⟩ := HT.out.step HRL.out f1 f2 hd40
      clear f1 f2
      have P1 := Lib.hid p1
      have P2 := Lib.hid p2
      have P3 := Lib.hid p3
      have P4 := Lib.hid p4
      have P5 := Lib.hid p5
      have P6 := Lib.hid p6
      have P7 := Lib.hid p7
      have P8 := Lib.hid p8
      clear p1 p2 p3 p4 p5 p6 p7 p8 z0 z1
      go_wp2_with fail
      refine (data_any i _).mono ?_
      rintro e w5 ⟨dv, rfl, hd, hb3⟩
      obtain ⟨dp, dc, rfl⟩ := shape_of hd hd40
      have HS5 := Lib.hid (HS.out.new hb3 (ByA (.slice dp 40 dc) (dataB i)) (fun _ h => h) hd)
      have HW := Lib.hid (mgWrite_one HS5 1 3 (by decide) rfl rfl HT.out.g 1 lba il w5.heap.size rfl)
      rw [P1.out] at HW
      clear hd hb3
      go_wp2_with fail
      refine (HW.out).mono ?_
      rintro e w6 ⟨rfl, HS6⟩
      have z0 : w6.cell? ⟨w1.heap.size, 0, none⟩ = some (.int .i64 lba) := by
        obtain ⟨F, hF, _⟩ := HS6.out.get 2 rfl
        rw [cell_row hF.2]; rfl
      have z1 : w6.cell? ⟨w1.heap.size, 1, none⟩ = some (.int .i64 1) := by
        obtain ⟨F, hF, _⟩ := HS6.out.get 2 rfl
        rw [cell_row hF.2]; rfl
      have HR1 := Lib.hid (mgRead_sep HS6 1 rfl P2.out (by omega) 1 ⟨lba, 1⟩ il (show I64 1 by unfold I64; omega))
      clear HW HS5
      go_wp2_with fail
      refine (HR1.out).mono ?_
      rintro e w7 (⟨h0, _⟩ | ⟨_, g1, o1, c1, rfl, HS7⟩)
      · exact absurd P3.out h0
      have hs7 := HS7.out
      rw [P4.out] at hs7
      have HS7 := Lib.hid hs7
      have z0 : w7.cell? ⟨w1.heap.size, 0, none⟩ = some (.int .i64 lba) := by
        obtain ⟨F, hF, _⟩ := HS7.out.get 2 rfl
        rw [cell_row hF.2]; rfl
      have z1 : w7.cell? ⟨w1.heap.size, 1, none⟩ = some (.int .i64 1) := by
        obtain ⟨F, hF, _⟩ := HS7.out.get 2 rfl
        rw [cell_row hF.2]; rfl
      have HR2 := Lib.hid (mgRead_sep HS7 1 rfl P5.out (by omega) 2 ⟨lba, 1⟩ il (show I64 1 by unfold I64; omega))
      clear hs7 HR1 HS6
      go_wp2_with fail
      refine (HR2.out).mono ?_
      rintro e w8 (⟨h0, _⟩ | ⟨_, g2, o2, c2, rfl, HS8⟩)
      · exact absurd P6.out h0
      have hs8 := HS8.out
      rw [P7.out] at hs8
      have HS8 := Lib.hid hs8
      obtain ⟨F4, hF4, _⟩ := HS8.out.get 4 rfl
      obtain ⟨F5, hF5, _⟩ := HS8.out.get 5 rfl
      have HX4 : Hid (BytesAt (fun _ => True) _ (.slice (some ⟨g1, o1, none⟩) 40 c1) (dataB (i : Int))) := Lib.hid (bytesW_at hF4)
      have HX5 : Hid (BytesAt (fun _ => True) _ (.slice (some ⟨g2, o2, none⟩) 40 c2) (zeroB)) := Lib.hid (bytesW_at hF5)
      clear hs8 HR2 HS7 hF4 hF5 z0 z1
      go_wp2_with fail
      refine (data_any i _).mono ?_
      rintro e w9 ⟨dv, rfl, hd, hb9⟩
      have HS9 := Lib.hid (HS8.out.up hb9)
      have HY9 := Lib.hid (BytesAt.mono hd fun _ _ => trivial : BytesAt (fun _ => True) w9 dv (dataB i))
      have HX4' := Lib.hid (BytesAt.up HX4.out hb9)
      have HX5' := Lib.hid (BytesAt.up HX5.out hb9)
      clear hd hb9
      go_wp2_with fail
      refine (bytes_any (fun _ => True) _ _ (dataB i) (dataB i) _ HX4'.out HY9.out).mono ?_
      rintro e w10 ⟨rfl, hb10⟩
      rw [show (dataB (i : Int) == dataB (i : Int)) = true by simp]
      have HS10 := Lib.hid (HS9.out.up hb10)
      have HX5'' := Lib.hid (BytesAt.up HX5'.out hb10)
      clear hb10
      obtain ⟨iiM, hiiM, hizM, hiyM, hixM⟩ := info_parts infoU8
      go_wp2_with (at_make; refine wpList_make_wanted _ (by kernel_rfl) _ _ 30 rfl w10.heap.size 5 iiM (.int .u8 0) 1 Tryz.underlying30 hiiM hizM hiyM _ _ _ _ 40 rfl rfl rfl rfl (by rw [hixM]; omega) (by unfold maxLen; omega) (Nat.le_refl _) ?_; intro w11 hownM hgrowM)
      have HDM : Hid (BytesAt (New w10 w11) w11 (.slice (some ⟨w10.heap.size, 0, none⟩) 40 40) zeroB) := bytesAt_row (B := w10.heap.size) (l := zeroB) _ ⟨Nat.le_refl _, (hownM.lt w10.heap.size rfl).2⟩ (by decide) (Nat.le_refl _) (by omega) (by rw [made_u8] at hownM; exact hownM)
      have HBM : Hid (Below w10.heap.size w10 w11) := (Below.refl _ _).grown hgrowM (Nat.le_refl _) (fun j hj => by cases hj)
      clear hownM hgrowM hiiM hizM hiyM hixM
      have HS11 := Lib.hid (HS10.out.up HBM.out)
      have HX5''' := Lib.hid (BytesAt.up HX5''.out HBM.out)
      have HM' := Lib.hid (BytesAt.mono HDM.out fun _ _ => trivial : BytesAt (fun _ => True) w11 _ zeroB)
      go_wp2_with fail
      refine (bytes_any (fun _ => True) _ _ zeroB zeroB _ HX5'''.out HM'.out).mono ?_
      rintro e w12 ⟨rfl, hb12⟩
      rw [show (zeroB == zeroB) = true by simp]
      have HS12 := Lib.hid ((HS11.out.up hb12).take 3)
      have P8' : Hid (OwI lba (2 + 32 * (i + 1)) [(lba, dataB i)] _) := P8.out
      clear hb12
      go_wp2_with fail
      go_roundw
      case rel => exact ⟨i + 1, _, _, by omega, by go_num, P8', by show [(lba, dataB (i : Int))] = _; rw [if_neg (by omega)]; congr 3; omega, HS12⟩
      case measure => simp [intOf]; omega
    case neg =>
      obtain rfl : i = N := by omega
      have hbf := HBF.out
      rw [if_neg (by omega)] at hbf
      have HBF2 := Lib.hid hbf
      have hd40 := data_sz ((i : Int) - 1)
      have hi1 : (1 : Int) ≤ (i : Int) := by omega
      have hiw : IntKind.i64.wrap ((i : Int) - 1) = (i : Int) - 1 := IntWalk.i64_in _ (by omega)
      clear hlt hbf z0 z1
      cases ab with
      | true =>
        obtain ⟨x1, x2, x3, x4, x5, x6, x7⟩ := HT.out.abort
        obtain ⟨q1, q2, q3, q4, q5, q6, q7, q8⟩ := x7.fin HRL.out (by omega)
        have X2 := Lib.hid x2
        have X3 := Lib.hid x3
        have X4 := Lib.hid x4
        have X5 := Lib.hid x5
        have X6 := Lib.hid x6
        have Q3 := Lib.hid q3
        have Q4 := Lib.hid q4
        have Q5 := Lib.hid q5
        have Q6 := Lib.hid q6
        have Q7 := Lib.hid q7
        have Q8 := Lib.hid q8
        have HA := Lib.hid (mgAbort_sep HS 1 rfl 1)
        rw [x1] at HA
        have HBG := fun (L' : List Asn) (wz : World) (hh : Hid (Sep w (OldA w :: MgrA (pt m) (abNext s 1) :: L') wz)) => mgBegin_sep hh 1 rfl x7.g
        rw [q1, q2] at HBG
        have HBGH := Lib.hid HBG
        clear x1 x2 x3 x4 x5 x6 x7 q1 q2 q3 q4 q5 q6 q7 q8 HBG
        go_wp2_with fail
        refine (HA.out).mono ?_
        rintro e u5 ⟨rfl, HS5⟩
        have HBA := Lib.hid (mgBatch_sep HS5 1 rfl X2.out X4.out (by omega))
        rw [X3.out] at HBA
        clear HA HS
        go_wp2_with fail
        refine (HBA.out).mono ?_
        rintro e u6 (⟨_, rfl, HS6⟩ | ⟨h0, _⟩)
        case inr => exact absurd h0 (by decide)
        have HDN := Lib.hid (mgDone_sep HS6 1 rfl X2.out X4.out (by omega) X5.out 0)
        rw [X6.out] at HDN
        generalize doneCode (abNext s 1) = dcd at *
        clear HBA HS5
        go_wp2_with fail
        refine (HDN.out).mono ?_
        rintro e u7 ⟨rfl, HS7'⟩
        clear HDN HS6
        go_wp2_with fail
        refine (HBGH.out _ _ HS7').mono ?_
        rintro e u8 ⟨rfl, HSa⟩
        clear HS7'
        have z0 : u8.cell? ⟨w1.heap.size, 0, none⟩ = some (.int .i64 lba) := by
          obtain ⟨F, hF, _⟩ := HSa.out.get 2 rfl
          rw [cell_row hF.2]; rfl
        have z1 : u8.cell? ⟨w1.heap.size, 1, none⟩ = some (.int .i64 1) := by
          obtain ⟨F, hF, _⟩ := HSa.out.get 2 rfl
          rw [cell_row hF.2]; rfl
        have HR1 := Lib.hid (mgRead_sep HSa 1 rfl Q3.out (by omega) 3 ⟨lba, 1⟩ il (show I64 1 by unfold I64; omega))
        go_wp2_with fail
        refine (HR1.out).mono ?_
        rintro e v7 (⟨h0, _⟩ | ⟨_, g1, o1, c1, rfl, HS7⟩)
        · exact absurd Q4.out h0
        have hs7 := HS7.out
        rw [Q5.out, blkV_nil] at hs7
        have HS7 := Lib.hid hs7
        have z0 : v7.cell? ⟨w1.heap.size, 0, none⟩ = some (.int .i64 lba) := by
          obtain ⟨F, hF, _⟩ := HS7.out.get 2 rfl
          rw [cell_row hF.2]; rfl
        have z1 : v7.cell? ⟨w1.heap.size, 1, none⟩ = some (.int .i64 1) := by
          obtain ⟨F, hF, _⟩ := HS7.out.get 2 rfl
          rw [cell_row hF.2]; rfl
        have HR2 := Lib.hid (mgRead_sep HS7 1 rfl Q6.out (by omega) 2 ⟨lba, 1⟩ il (show I64 1 by unfold I64; omega))
        clear hs7 HR1
        go_wp2_with fail
        refine (HR2.out).mono ?_
        rintro e v8 (⟨h0, _⟩ | ⟨_, g2, o2, c2, rfl, HS8⟩)
        · exact absurd Q7.out h0
        have hs8 := HS8.out
        rw [Q8.out, blkV_nil] at hs8
        have HS8 := Lib.hid hs8
        obtain ⟨F4, hF4, _⟩ := HS8.out.get 3 rfl
        obtain ⟨F5, hF5, _⟩ := HS8.out.get 4 rfl
        have HX4 : Hid (BytesAt (fun _ => True) _ (.slice (some ⟨g1, o1, none⟩) 40 c1) (zeroB)) := Lib.hid (bytesW_at hF4)
        have HX5 : Hid (BytesAt (fun _ => True) _ (.slice (some ⟨g2, o2, none⟩) 40 c2) (zeroB)) := Lib.hid (bytesW_at hF5)
        clear hs8 HR2 HS7 hF4 hF5 z0 z1 HSa
        go_wp2_with fail
        refine (data_any ((i : Int) - 1) _).mono ?_
        rintro e v9 ⟨dv, rfl, hd, hb9⟩
        have HS9 := Lib.hid (HS8.out.up hb9)
        have HX4' := Lib.hid (BytesAt.up HX4.out hb9)
        have HX5' := Lib.hid (BytesAt.up HX5.out hb9)
        have HY9 := Lib.hid (BytesAt.mono hd fun _ _ => trivial : BytesAt (fun _ => True) v9 dv (dataB ((i : Int) - 1)))
        clear hd hb9
        obtain ⟨iiP, hiiP, hizP, hiyP, hixP⟩ := info_parts infoU8
        go_wp2_with (at_make; refine wpList_make_wanted _ (by kernel_rfl) _ _ 30 rfl v9.heap.size 5 iiP (.int .u8 0) 1 Tryz.underlying30 hiiP hizP hiyP _ _ _ _ 40 rfl rfl rfl rfl (by rw [hixP]; omega) (by unfold maxLen; omega) (Nat.le_refl _) ?_; intro v10 hownP hgrowP)
        have HDP : Hid (BytesAt (New v9 v10) v10 (.slice (some ⟨v9.heap.size, 0, none⟩) 40 40) zeroB) := bytesAt_row (B := v9.heap.size) (l := zeroB) _ ⟨Nat.le_refl _, (hownP.lt v9.heap.size rfl).2⟩ (by decide) (Nat.le_refl _) (by omega) (by rw [made_u8] at hownP; exact hownP)
        have HBP : Hid (Below v9.heap.size v9 v10) := (Below.refl _ _).grown hgrowP (Nat.le_refl _) (fun j hj => by cases hj)
        clear hownP hgrowP hiiP hizP hiyP hixP
        have HS10 := Lib.hid (HS9.out.up HBP.out)
        have HX4a := Lib.hid (BytesAt.up HX4'.out HBP.out)
        have HX5a := Lib.hid (BytesAt.up HX5'.out HBP.out)
        have HPa := Lib.hid (BytesAt.mono HDP.out fun _ _ => trivial : BytesAt (fun _ => True) v10 _ zeroB)
        go_wp2_with fail
        refine (bytes_any (fun _ => True) _ _ zeroB zeroB _ HX4a.out HPa.out).mono ?_
        rintro e v11 ⟨rfl, hb11⟩
        rw [show (zeroB == zeroB) = true by simp]
        have HS11 := Lib.hid (HS10.out.up hb11)
        have HX5b := Lib.hid (BytesAt.up HX5a.out hb11)
        clear hb11
        obtain ⟨iiQ, hiiQ, hizQ, hiyQ, hixQ⟩ := info_parts infoU8
        go_wp2_with (at_make; refine wpList_make_wanted _ (by kernel_rfl) _ _ 30 rfl v11.heap.size 5 iiQ (.int .u8 0) 1 Tryz.underlying30 hiiQ hizQ hiyQ _ _ _ _ 40 rfl rfl rfl rfl (by rw [hixQ]; omega) (by unfold maxLen; omega) (Nat.le_refl _) ?_; intro v12 hownQ hgrowQ)
        have HDQ : Hid (BytesAt (New v11 v12) v12 (.slice (some ⟨v11.heap.size, 0, none⟩) 40 40) zeroB) := bytesAt_row (B := v11.heap.size) (l := zeroB) _ ⟨Nat.le_refl _, (hownQ.lt v11.heap.size rfl).2⟩ (by decide) (Nat.le_refl _) (by omega) (by rw [made_u8] at hownQ; exact hownQ)
        have HBQ : Hid (Below v11.heap.size v11 v12) := (Below.refl _ _).grown hgrowQ (Nat.le_refl _) (fun j hj => by cases hj)
        clear hownQ hgrowQ hiiQ hizQ hiyQ hixQ
        have HS12 := Lib.hid (HS11.out.up HBQ.out)
        have HX5c := Lib.hid (BytesAt.up HX5b.out HBQ.out)
        have HQa := Lib.hid (BytesAt.mono HDQ.out fun _ _ => trivial : BytesAt (fun _ => True) v12 _ zeroB)
        go_wp2_with fail
        refine (bytes_any (fun _ => True) _ _ zeroB zeroB _ HX5c.out HQa.out).mono ?_
        rintro e v13 ⟨rfl, hb13⟩
        rw [show (zeroB == zeroB) = true by simp]
        have HB13 := Lib.hid (HS12.out.up hb13).old
        clear hb13
        go_wp2_with fail
        refine (awake23 _).mono ?_
        rintro e v14 ⟨rfl, hb14⟩
        have HB14 := Lib.hid (Below.up HB13.out hb14)
        clear hb14
        go_wp2
        go_ret
        exact ⟨rfl, HB14.out⟩
      | false =>
        obtain ⟨x1, x2, x3, x4, x5, x6, x7, x8, x9⟩ := HT.out.commit HRL.out hd40 HBF2.out
        obtain ⟨q1, q2, q3, q4, q5, q6, q7, q8⟩ := x9.fin HRL.out (by omega)
        have X3 := Lib.hid x3
        have X4 := Lib.hid x4
        have X5 := Lib.hid x5
        have X6 := Lib.hid x6
        have X7 := Lib.hid x7
        have X8 := Lib.hid x8
        have X9 := Lib.hid x9
        have Q3 := Lib.hid q3
        have Q4 := Lib.hid q4
        have Q5 := Lib.hid q5
        have Q6 := Lib.hid q6
        have Q7 := Lib.hid q7
        have Q8 := Lib.hid q8
        have Q1 := Lib.hid q1
        have Q2 := Lib.hid q2
        have HA := Lib.hid (mgCommit_sep HS 1 rfl HT.out.g x1 1)
        rw [x2] at HA
        have hv3 : blkV [(lba, [⟨1, dataB ((i : Int) - 1)⟩])] [] 1 lba = dataB ((i : Int) - 1) := by rw [blkV_at, if_pos (by omega)]
        have hv2 : blkV [(lba, [⟨1, dataB ((i : Int) - 1)⟩])] [] 0 lba = zeroB := by rw [blkV_at, if_neg (by omega)]
        have HV3 := Lib.hid hv3
        have HV2 := Lib.hid hv2
        clear x1 x2 x3 x4 x5 x6 x7 x8 x9 q1 q2 q3 q4 q5 q6 q7 q8 hv3 hv2
        go_wp2_with fail
        refine (HA.out).mono ?_
        rintro e u5 ⟨rfl, HS5⟩
        have HBA := Lib.hid (mgBatch_sep HS5 1 rfl X3.out X4.out (by omega))
        clear HA HS
        go_wp2_with fail
        refine (HBA.out).mono ?_
        rintro e u6 (⟨h0, _⟩ | ⟨_, p, cp, rfl, HS6⟩)
        · exact absurd X5.out h0
        have HDN := Lib.hid (mgDone_sep HS6 1 rfl X6.out X7.out (by omega) X8.out 0)
        generalize doneCode (baNext (cmNext s 1)) = dcd at *
        generalize formN (waitL (cmNext s 1)) = fl at *
        generalize (cmNext s 1).num + 1 = nu at *
        clear HBA HS5
        go_wp2_with fail
        refine (HDN.out).mono ?_
        rintro e u7 ⟨rfl, HS7'⟩
        have HBG := Lib.hid (mgBegin_sep HS7' 1 rfl X9.out.g)
        rw [Q1.out, Q2.out] at HBG
        clear HDN HS6
        go_wp2_with fail
        refine (HBG.out).mono ?_
        rintro e u8 ⟨rfl, HSa⟩
        clear HS7' HBG
        have z0 : u8.cell? ⟨w1.heap.size, 0, none⟩ = some (.int .i64 lba) := by
          obtain ⟨F, hF, _⟩ := HSa.out.get 2 rfl
          rw [cell_row hF.2]; rfl
        have z1 : u8.cell? ⟨w1.heap.size, 1, none⟩ = some (.int .i64 1) := by
          obtain ⟨F, hF, _⟩ := HSa.out.get 2 rfl
          rw [cell_row hF.2]; rfl
        have HR1 := Lib.hid (mgRead_sep HSa 1 rfl Q3.out (by omega) 3 ⟨lba, 1⟩ il (show I64 1 by unfold I64; omega))
        go_wp2_with fail
        refine (HR1.out).mono ?_
        rintro e v7 (⟨h0, _⟩ | ⟨_, g1, o1, c1, rfl, HS7⟩)
        · exact absurd Q4.out h0
        have hs7 := HS7.out
        rw [Q5.out, HV3.out] at hs7
        have HS7 := Lib.hid hs7
        have z0 : v7.cell? ⟨w1.heap.size, 0, none⟩ = some (.int .i64 lba) := by
          obtain ⟨F, hF, _⟩ := HS7.out.get 2 rfl
          rw [cell_row hF.2]; rfl
        have z1 : v7.cell? ⟨w1.heap.size, 1, none⟩ = some (.int .i64 1) := by
          obtain ⟨F, hF, _⟩ := HS7.out.get 2 rfl
          rw [cell_row hF.2]; rfl
        have HR2 := Lib.hid (mgRead_sep HS7 1 rfl Q6.out (by omega) 2 ⟨lba, 1⟩ il (show I64 1 by unfold I64; omega))
        clear hs7 HR1
        go_wp2_with fail
        refine (HR2.out).mono ?_
        rintro e v8 (⟨h0, _⟩ | ⟨_, g2, o2, c2, rfl, HS8⟩)
        · exact absurd Q7.out h0
        have hs8 := HS8.out
        rw [Q8.out, HV2.out] at hs8
        have HS8 := Lib.hid hs8
        obtain ⟨F4, hF4, _⟩ := HS8.out.get 4 rfl
        obtain ⟨F5, hF5, _⟩ := HS8.out.get 5 rfl
        have HX4 : Hid (BytesAt (fun _ => True) _ (.slice (some ⟨g1, o1, none⟩) 40 c1) (dataB ((i : Int) - 1))) := Lib.hid (bytesW_at hF4)
        have HX5 : Hid (BytesAt (fun _ => True) _ (.slice (some ⟨g2, o2, none⟩) 40 c2) (zeroB)) := Lib.hid (bytesW_at hF5)
        clear hs8 HR2 HS7 hF4 hF5 z0 z1 HSa
        go_wp2_with fail
        refine (data_any ((i : Int) - 1) _).mono ?_
        rintro e v9 ⟨dv, rfl, hd, hb9⟩
        have HS9 := Lib.hid (HS8.out.up hb9)
        have HX4' := Lib.hid (BytesAt.up HX4.out hb9)
        have HX5' := Lib.hid (BytesAt.up HX5.out hb9)
        have HY9 := Lib.hid (BytesAt.mono hd fun _ _ => trivial : BytesAt (fun _ => True) v9 dv (dataB ((i : Int) - 1)))
        clear hd hb9
        go_wp2_with fail
        refine (bytes_any (fun _ => True) _ _ (dataB ((i : Int) - 1)) (dataB ((i : Int) - 1)) _ HX4'.out HY9.out).mono ?_
        rintro e v11 ⟨rfl, hb11⟩
        rw [show (dataB ((i : Int) - 1) == dataB ((i : Int) - 1)) = true by simp]
        have HS11 := Lib.hid (HS9.out.up hb11)
        have HX5b := Lib.hid (BytesAt.up HX5'.out hb11)
        clear hb11
        obtain ⟨iiQ, hiiQ, hizQ, hiyQ, hixQ⟩ := info_parts infoU8
        go_wp2_with (at_make; refine wpList_make_wanted _ (by kernel_rfl) _ _ 30 rfl v11.heap.size 5 iiQ (.int .u8 0) 1 Tryz.underlying30 hiiQ hizQ hiyQ _ _ _ _ 40 rfl rfl rfl rfl (by rw [hixQ]; omega) (by unfold maxLen; omega) (Nat.le_refl _) ?_; intro v12 hownQ hgrowQ)
        have HDQ : Hid (BytesAt (New v11 v12) v12 (.slice (some ⟨v11.heap.size, 0, none⟩) 40 40) zeroB) := bytesAt_row (B := v11.heap.size) (l := zeroB) _ ⟨Nat.le_refl _, (hownQ.lt v11.heap.size rfl).2⟩ (by decide) (Nat.le_refl _) (by omega) (by rw [made_u8] at hownQ; exact hownQ)
        have HBQ : Hid (Below v11.heap.size v11 v12) := (Below.refl _ _).grown hgrowQ (Nat.le_refl _) (fun j hj => by cases hj)
        clear hownQ hgrowQ hiiQ hizQ hiyQ hixQ
        have HS12 := Lib.hid (HS11.out.up HBQ.out)
        have HX5c := Lib.hid (BytesAt.up HX5b.out HBQ.out)
        have HQa := Lib.hid (BytesAt.mono HDQ.out fun _ _ => trivial : BytesAt (fun _ => True) v12 _ zeroB)
        go_wp2_with fail
        refine (bytes_any (fun _ => True) _ _ zeroB zeroB _ HX5c.out HQa.out).mono ?_
        rintro e v13 ⟨rfl, hb13⟩
        rw [show (zeroB == zeroB) = true by simp]
        have HB13 := Lib.hid (HS12.out.up hb13).old
        clear hb13
        go_wp2_with fail
        refine (awake23 _).mono ?_
        rintro e v14 ⟨rfl, hb14⟩
        have HB14 := Lib.hid (Below.up HB13.out hb14)
        clear hb14
        go_wp2
        go_ret
        exact ⟨rfl, HB14.out⟩
end Go.Proofs
