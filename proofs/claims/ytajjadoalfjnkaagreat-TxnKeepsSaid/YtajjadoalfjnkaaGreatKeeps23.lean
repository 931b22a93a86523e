/- TxnKeeps: what was handed in may be changed behind it, and what was answered too: for every input the law returns true. -/
import Derived.Test.YtajjadoalfjnkaaGreatKeeps23P
import Derived.Test.YtajjadoalfjnkaaGreatMgr16
import Derived.Test.YtajjadoalfjnkaaGreatTx7
namespace Go.Proofs
open Go.RowKit Sc
theorem bytesW_told {F : Nat → Prop} {w : World} {v : Value} {d : Bytes} (h : BytesW F w v d) (hd : d.length = 40) : ∃ b o c, v = .slice (some ⟨b, o, none⟩) 40 c ∧ BytesAt (fun _ => True) w v d ∧ (∀ j, j < 40 → (∃ x : UInt8, w.cell? ⟨b, o + j, none⟩ = some (.int .u8 (x.toNat : Int))) ∧ w.frozen? ⟨b, o + j, none⟩ = false) ∧ ∀ F', BytesW F' w v d → F' b := by
  obtain ⟨b, o, c, rfl, _, _⟩ := h.base (by omega)
  rw [hd] at h ⊢
  refine ⟨b, o, c, rfl, (BytesW.bytes h).mono fun _ _ => trivial, fun j hj => ?_, fun F' h' => ?_⟩
  · obtain ⟨h1, h2, _⟩ := h.at j (by omega)
    exact ⟨h1, h2⟩
  · exact (h'.at 0 (by omega)).2.2
theorem readsW_told {F : Nat → Prop} {w : World} {p : Option Addr} {c : Nat} {k : Int} {d : Bytes} {own : Bool} (h : ReadsW F w (.slice p 1 c) [⟨k, d, own⟩]) (hd : d.length = 40) :
    ∃ b o g q e, p = some ⟨b, o, none⟩ ∧ w.cell? ⟨b, o + 1, none⟩ = some (.slice (some ⟨g, q, none⟩) 40 e) ∧ BytesAt (fun _ => True) w (.slice (some ⟨g, q, none⟩) 40 e) d ∧ (∀ j, j < 40 → (∃ x : UInt8, w.cell? ⟨g, q + j, none⟩ = some (.int .u8 (x.toNat : Int))) ∧ w.frozen? ⟨g, q + j, none⟩ = false) ∧ ∀ F', ReadsW F' w (.slice p 1 c) [⟨k, d, own⟩] → F' g := by
  obtain ⟨p', c', e, _, _, _, h4⟩ := h
  cases e
  obtain ⟨b, o, rfl, _, _, _, ⟨v, h5, h6⟩, _⟩ := h4 0 (by simp)
  rw [Nat.zero_mul, Nat.add_zero] at h5
  change BytesW F w v d at h6
  obtain ⟨g, q, e, rfl, k1, k2, k3⟩ := bytesW_told h6 hd
  refine ⟨b, o, g, q, e, rfl, h5, k1, k2, fun F' h' => ?_⟩
  obtain ⟨p', c', e', _, _, _, z4⟩ := h'
  cases e'
  obtain ⟨_, _, e2, _, _, _, ⟨v', z5, z6⟩, _⟩ := z4 0 (by simp)
  cases e2
  rw [Nat.zero_mul, Nat.add_zero, h5] at z5
  cases z5
  exact k3 F' z6
theorem putsW_told {F : Nat → Prop} {w : World} {p : Option Addr} {c : Nat} {k : Int} {d : Bytes} (h : PutsW F w (.slice p 1 c) [⟨k, d⟩]) (hd : d.length = 40) :
    ∃ b o g q e, p = some ⟨b, o, none⟩ ∧ w.cell? ⟨b, o, none⟩ = some (.int .i64 k) ∧ w.cell? ⟨b, o + 1, none⟩ = some (.slice (some ⟨g, q, none⟩) 40 e) ∧ BytesAt (fun _ => True) w (.slice (some ⟨g, q, none⟩) 40 e) d ∧ (∀ j, j < 40 → (∃ x : UInt8, w.cell? ⟨g, q + j, none⟩ = some (.int .u8 (x.toNat : Int))) ∧ w.frozen? ⟨g, q + j, none⟩ = false) ∧ ∀ F', PutsW F' w (.slice p 1 c) [⟨k, d⟩] → F' g := by
  obtain ⟨p', c', e, _, _, _, h4⟩ := h
  cases e
  obtain ⟨b, o, rfl, _, h0, _, _, v, h5, h6⟩ := h4 0 (by simp)
  rw [Nat.zero_mul, Nat.add_zero] at h0 h5
  change BytesW F w v d at h6
  obtain ⟨g, q, e, rfl, k1, k2, k3⟩ := bytesW_told h6 hd
  refine ⟨b, o, g, q, e, rfl, h0, h5, k1, k2, fun F' h' => ?_⟩
  obtain ⟨p', c', e', _, _, _, z4⟩ := h'
  cases e'
  obtain ⟨_, _, e2, _, _, _, _, v', z5, z6⟩ := z4 0 (by simp)
  cases e2
  rw [Nat.zero_mul, Nat.add_zero, h5] at z5
  cases z5
  exact k3 F' z6
theorem txsW_told {F : Nat → Prop} {w : World} {p : Option Addr} {c : Nat} {t k : Int} {d : Bytes} (h : TxsW F w (.slice p 1 c) [⟨t, [⟨k, d⟩]⟩]) (hd : d.length = 40) :
    ∃ b o pb po pc g q e, p = some ⟨b, o, none⟩ ∧ w.cell? ⟨b, o + 1, none⟩ = some (.slice (some ⟨pb, po, none⟩) 1 pc) ∧ w.cell? ⟨pb, po + 1, none⟩ = some (.slice (some ⟨g, q, none⟩) 40 e) ∧ BytesAt (fun _ => True) w (.slice (some ⟨g, q, none⟩) 40 e) d ∧ (∀ j, j < 40 → (∃ x : UInt8, w.cell? ⟨g, q + j, none⟩ = some (.int .u8 (x.toNat : Int))) ∧ w.frozen? ⟨g, q + j, none⟩ = false) ∧ ∀ F', TxsW F' w (.slice p 1 c) [⟨t, [⟨k, d⟩]⟩] → F' g := by
  obtain ⟨p', c', e, _, _, _, h4⟩ := h
  cases e
  obtain ⟨b, o, rfl, _, _, _, v, h5, h6⟩ := h4 0 (by simp)
  rw [Nat.zero_mul, Nat.add_zero] at h5
  change PutsW F w v [⟨k, d⟩] at h6
  obtain ⟨pp, pc, rfl⟩ := putsW_shape h6
  obtain ⟨pb, po, g, q, e, rfl, _, k0, k1, k2, k3⟩ := putsW_told h6 hd
  refine ⟨b, o, pb, po, pc, g, q, e, rfl, h5, k0, k1, k2, fun F' h' => ?_⟩
  obtain ⟨p', c', e', _, _, _, z4⟩ := h'
  cases e'
  obtain ⟨_, _, e2, _, _, _, v', z5, z6⟩ := z4 0 (by simp)
  cases e2
  rw [Nat.zero_mul, Nat.add_zero, h5] at z5
  cases z5
  exact k3 F' z6
theorem ke_box {W w : World} {L : List Asn} (h : Hid (Sep W L w)) (i : Nat) {bx : Nat} {cs : Array Value} {T : TypeId} (hi : L[i]? = some (BoxA bx cs T)) (j : Nat) : w.cell? ⟨bx, j, none⟩ = cs[j]? := by
  obtain ⟨F, hF, _⟩ := h.out.get i hi
  rw [cell_row hF.2]
theorem ke_new {W w : World} {L : List Asn} (h : Hid (Sep W L w)) (cs : Array Value) (T : TypeId) : Hid (Sep W (L ++ [BoxA w.heap.size cs T]) (w.alloc (.cells cs T (0, 0)))) :=
  Lib.hid (h.out.new (below_alloc w _) (BoxA w.heap.size cs T) (F := New w (w.alloc (.cells cs T (0, 0)))) (fun _ h => h) ⟨⟨Nat.le_refl _, by simp⟩, heap_alloc_new w _⟩)
theorem ke_hist {W w : World} {L : List Asn} (h : Hid (Sep W L w)) (i : Nat) {b : Nat} {s : MgS} (hi : L[i]? = some (MgrA (pt b) s)) {n : Nat} (g : MgG n s) (hn : n ≤ 1000000) {st tm cd k : Int} {d : Bytes} {S : List Ext} (h2 : 1 ≤ s.txs.length) (he : txAt s.txs 1 = ⟨st, tm, cd, 0, [(k, d)], S, keR k d⟩) :
    Calls Tryz.prog 40 #[.pointer (some ⟨b, 0, none⟩), .int .i64 1] w fun e w' => ∃ rp rc pp pc, e = .returned (.agg #[.int .i64 st, .int .i64 0, .int .i64 tm, .int .i64 0, .int .i64 0, .slice rp 1 rc, .slice pp 1 pc]) ∧
      Hid (Sep W ((L ++ [ReadsWA (.slice rp 1 rc) [⟨k, d, true⟩], PutsWA (.slice pp 1 pc) [⟨k, d⟩]]).set i (MgrA (pt b) s)) w') := by
  have h1 := mgHistory_sep h i hi g hn (hd := 1) (by omega) (by omega)
  rw [he] at h1
  refine h1.mono ?_
  rintro e w' ⟨rp, rc, pp, pc, rfl, hS⟩
  simp only at hS
  rw [bufPuts_one] at hS
  exact ⟨rp, rc, pp, pc, rfl, hS⟩
theorem ke_batch {W w : World} {L : List Asn} (h : Hid (Sep W L w)) (i : Nat) {b : Nat} {k : Int} {d : Bytes} (hi : L[i]? = some (MgrA (pt b) (ke4 k d))) {n : Nat} (g : MgG n (ke4 k d)) (hn : n ≤ 1000000) :
    Calls Tryz.prog 27 #[.pointer (some ⟨b, 0, none⟩)] w fun e w' => ∃ p cp, e = .returned (.tuple #[.agg #[.int .i64 1, .slice p 1 cp], .int .i64 0]) ∧ Hid (Sep W ((L ++ [TxsWA (.slice p 1 cp) [⟨1, [⟨k, d⟩]⟩]]).set i (MgrA (pt b) (ke5 k d))) w') := by
  have h1 := mgBatch_w h i hi g (by show 1 ≤ 1000000; omega) hn
  rw [ke_form, ke_wait, ke_ba.2] at h1
  refine h1.mono ?_
  rintro e w' (⟨h0, _⟩ | ⟨_, p, cp, rfl, hS⟩)
  · exact absurd ke_ba.1 h0
  · exact ⟨p, cp, rfl, hS⟩
set_option maxRecDepth 100000 in
set_option maxHeartbeats 8000000 in
theorem keeps23_any (lba0 kk : Int) (w : World) : Calls Tryz.prog 12 #[.int .i64 lba0, .int .i64 kk] w (Tru w) := by
  have rl := roundN_bd lba0 (n := 19) (by omega)
  have hd40 := data_sz kk
  go_enter Tryz.func12, Tryz.ntmps12
  go_wp2_with fail
  refine (round_any lba0 19 _ (by omega) (by omega)).mono ?_
  rintro e w0 ⟨rfl, rfl⟩
  generalize roundN lba0 19 = lba at *
  have hk20 : 0 ≤ lba ∧ lba < 20 := by omega
  have il : I64 lba := by unfold I64; omega
  obtain ⟨g0, g1, g2, g3, g4, g5, g6, g7, g8⟩ := ke_good (k := lba) (d := dataB kk) hk20 hd40
  obtain ⟨w1, w2⟩ := ke_wr (k := lba) (d := dataB kk) hk20 hd40
  obtain ⟨r1, r2, r3⟩ := ke_rd (k := lba) (d := dataB kk) hk20
  obtain ⟨c1, c2⟩ := ke_cm (k := lba) (d := dataB kk)
  obtain ⟨b1, b2⟩ := ke_ba (k := lba) (d := dataB kk)
  obtain ⟨d1, d2⟩ := ke_dn (k := lba) (d := dataB kk) hk20 hd40
  have hdu := ke_dump (k := lba) (d := dataB kk)
  obtain ⟨q1, q2, q3⟩ := ke_beg2 (k := lba) (d := dataB kk)
  obtain ⟨s1, s2, s3, s4⟩ := ke_rd2 (k := lba) (d := dataB kk) hk20
  obtain ⟨n1, n2⟩ := ke_beg
  have hwt := ke_wait (k := lba) (d := dataB kk)
  have hfm := ke_form (k := lba) (d := dataB kk)
  have HG0 := Lib.hid g0
  have HG1 := Lib.hid g1
  have HG2 := Lib.hid g2
  have HG3 := Lib.hid g3
  have HG4 := Lib.hid g4
  have HG5 := Lib.hid g5
  have HG6 := Lib.hid g6
  have HG7 := Lib.hid g7
  have HG8 := Lib.hid g8
  have HW1 := Lib.hid w1
  have HW2 := Lib.hid w2
  have HR1 := Lib.hid r1
  have HR2 := Lib.hid r2
  have HR3 := Lib.hid r3
  have HC1 := Lib.hid c1
  have HC2 := Lib.hid c2
  have HB1 := Lib.hid b1
  have HB2 := Lib.hid b2
  have HD1 := Lib.hid d1
  have HD2 := Lib.hid d2
  have HDU := Lib.hid hdu
  have HQ1 := Lib.hid q1
  have HQ2 := Lib.hid q2
  have HQ3 := Lib.hid q3
  have HX1 := Lib.hid s1
  have HX2 := Lib.hid s2
  have HX3 := Lib.hid s3
  have HX4 := Lib.hid s4
  have HN1 := Lib.hid n1
  have HN2 := Lib.hid n2
  have HWT := Lib.hid hwt
  have HFM := Lib.hid hfm
  have HRL := Lib.hid hk20
  clear g0 g1 g2 g3 g4 g5 g6 g7 g8 w1 w2 r1 r2 r3 c1 c2 b1 b2 d1 d2 hdu q1 q2 q3 s1 s2 s3 s4 n1 n2 hwt hfm rl hk20
  go_wp2_with fail
  refine (mgrNew_sep (Lib.hid (Sep.start w)) 20 0 (by omega) (by omega) (by omega) (by omega)).mono ?_
  rintro e w1 ⟨m, rfl, HS1⟩
  have HS1 : Hid (Sep w [OldA w, MgrA (pt m) (mgNew 20 0)] w1) := HS1
  go_wp2_with fail
  refine (data_any kk _).mono ?_
  rintro e w2 ⟨vv, rfl, hv2, hb2⟩
  obtain ⟨vp, vc, rfl⟩ := shape_of hv2 hd40
  have HS2 := Lib.hid (HS1.out.new hb2 (ByA (.slice vp 40 vc) (dataB kk)) (fun _ h => h) hv2)
  have HS2 : Hid (Sep w [OldA w, MgrA (pt m) (mgNew 20 0), ByA (.slice vp 40 vc) (dataB kk)] w2) := HS2
  clear hv2 hb2 HS1
  go_wp2_with fail
  refine (mgBegin_sep HS2 1 rfl HG0.out).mono ?_
  rintro e w3 ⟨rfl, HS3⟩
  rw [HN1.out, HN2.out]
  have HS3 : Hid (Sep w [OldA w, MgrA (pt m) (begNext (mgNew 20 0)), ByA (.slice vp 40 vc) (dataB kk)] w3) := HS3
  clear HS2
  go_wp2_with fail
  refine (data_w kk _).mono ?_
  rintro e w4 ⟨dv, rfl, hd, hb4⟩
  obtain ⟨dg, dq, dc, rfl, _, dcell, dF⟩ := bytesW_told hd hd40
  have HS4 := Lib.hid (HS3.out.new hb4 (BytesWA (.slice (some ⟨dg, dq, none⟩) 40 dc) (dataB kk)) (F := New w3 w4) (fun _ h => h) hd)
  have HS4 : Hid (Sep w [OldA w, MgrA (pt m) (begNext (mgNew 20 0)), ByA (.slice vp 40 vc) (dataB kk), BytesWA (.slice (some ⟨dg, dq, none⟩) 40 dc) (dataB kk)] w4) := HS4
  clear hd hb4 HS3 dcell dF
  have HS5 := ke_new HS4 #[.int .i64 lba, .slice (some ⟨dg, dq, none⟩) 40 dc] 33
  have HS5 : Hid (Sep w [OldA w, MgrA (pt m) (begNext (mgNew 20 0)), ByA (.slice vp 40 vc) (dataB kk), BytesWA (.slice (some ⟨dg, dq, none⟩) 40 dc) (dataB kk), BoxA w4.heap.size #[.int .i64 lba, .slice (some ⟨dg, dq, none⟩) 40 dc] 33] _) := HS5
  have HW := Lib.hid (mgWrite_sep HS5 1 rfl HG1.out 1 (.slice (some ⟨w4.heap.size, 0, none⟩) 1 1) [⟨lba, dataB kk⟩] (fun G hR => by
    obtain ⟨F1, a1, a2⟩ := hR 3 _ (by decide) rfl
    obtain ⟨F2, b1, b2⟩ := hR 4 _ (by decide) rfl
    exact puts_box1 b2.2 (b1 _ b2.1) il (BytesAt.mono (BytesW.bytes a2) a1)) (by simp))
  rw [HW1.out, HW2.out] at HW
  generalize hzz : w4.heap.size = pz at *
  clear HS4
  go_wp2_with fail
  (try rw [hzz])
  refine (HW.out).mono ?_
  rintro e w5 ⟨rfl, HS6⟩
  have HS6 : Hid (Sep w [OldA w, MgrA (pt m) (ke2 lba (dataB kk)), ByA (.slice vp 40 vc) (dataB kk), BytesWA (.slice (some ⟨dg, dq, none⟩) 40 dc) (dataB kk), BoxA pz #[.int .i64 lba, .slice (some ⟨dg, dq, none⟩) 40 dc] 33] w5) := HS6
  clear HW HS5
  obtain ⟨F3, hF3, _⟩ := HS6.out.get 3 rfl
  obtain ⟨_, _, _, e3, _, dcell, dF⟩ := bytesW_told (F := F3) hF3 hd40
  cases e3
  obtain ⟨⟨x0, hx0⟩, hf0⟩ := dcell 0 (by omega)
  have z0 := ke_box HS6 4 rfl 0
  change _ = some (Value.int .i64 lba) at z0
  obtain ⟨F4, hF4, _⟩ := HS6.out.get 4 rfl
  have zf : w5.frozen? ⟨pz, 0, none⟩ = false := fz_row hF4.2 0
  have hgz : dg ≠ pz := by
    obtain ⟨F, G, h1, h2, h3, _⟩ := HS6.out.two 3 4 (by decide) rfl rfl
    intro e
    exact h3 dg (dF F h1) (by rw [e]; exact h2.1)
  rw [Nat.add_zero] at hx0 hf0
  have hs7 := (HS6.out.poke 3 rfl dg dq dF (.int .u8 (((x0.toNat : Int) + 1) % 256))).poke 4 rfl pz 0 (fun F h => h.1) (.int .i64 (lba + 1))
  clear hF3 hF4 dcell dF
  have HS7 := Lib.hid hs7
  have HS7 : Hid (Sep w [OldA w, MgrA (pt m) (ke2 lba (dataB kk)), ByA (.slice vp 40 vc) (dataB kk), TrueA, TrueA] _) := HS7
  have hlw : IntKind.i64.wrap (lba + 1) = lba + 1 := IntWalk.i64_in _ (by have := HRL.out; omega)
  have HS8 := ke_new HS7 #[.int .i64 lba, .int .i64 1] 56
  have hz8 : ((w5.setCell ⟨dg, dq, none⟩ (.int .u8 (((x0.toNat : Int) + 1) % 256))).setCell ⟨pz, 0, none⟩ (.int .i64 (lba + 1))).heap.size = w5.heap.size := by simp [World.setCell]
  rw [hz8] at HS8
  clear hz8
  generalize hxz : w5.heap.size = xz at HS8
  have HS8 : Hid (Sep w [OldA w, MgrA (pt m) (ke2 lba (dataB kk)), ByA (.slice vp 40 vc) (dataB kk), TrueA, TrueA, BoxA xz #[.int .i64 lba, .int .i64 1] 56] _) := HS8
  have HRD := Lib.hid (mgRead_sep HS8 1 rfl HG2.out (by omega) 1 ⟨lba, 1⟩ il (show I64 1 by unfold I64; omega))
  clear hs7 HS7 HS6
  go_wp2_with fail
  (try rw [hxz])
  refine (HRD.out).mono ?_
  rintro e w6 (⟨h0, _⟩ | ⟨_, bg, bo, bc, rfl, HS9⟩)
  · exact absurd HR1.out h0
  have hs9 := HS9.out
  rw [HR2.out, HR3.out] at hs9
  (try rw [hxz])
  have HS9 : Hid (Sep w [OldA w, MgrA (pt m) (ke3 lba (dataB kk)), ByA (.slice vp 40 vc) (dataB kk), TrueA, TrueA, BoxA xz #[.int .i64 lba, .int .i64 1] 56, BytesWA (.slice (some ⟨bg, bo, none⟩) 40 bc) (dataB kk)] w6) := hs9
  clear HRD HS8 hs9
  obtain ⟨F6, hF6, _⟩ := HS9.out.get 6 rfl
  obtain ⟨_, _, _, e6, hB6, _, _⟩ := bytesW_told (F := F6) hF6 hd40
  obtain ⟨F2, hF2, _⟩ := HS9.out.get 2 rfl
  have HB6 := Lib.hid hB6
  have HV6 := Lib.hid (BytesAt.mono hF2 fun _ _ => trivial : BytesAt (fun _ => True) w6 (.slice vp 40 vc) (dataB kk))
  clear hF6 hF2 hB6 e6
  go_wp2_with fail
  refine (bytes_any (fun _ => True) _ _ (dataB kk) (dataB kk) _ HB6.out HV6.out).mono ?_
  rintro e w7 ⟨rfl, hb7⟩
  rw [show (dataB kk == dataB kk) = true by simp]
  have HS10 := Lib.hid (HS9.out.up hb7)
  clear hb7 HS9 HB6 HV6
  obtain ⟨F6, hF6, _⟩ := HS10.out.get 6 rfl
  obtain ⟨_, _, _, e6, _, bcell, bF⟩ := bytesW_told (F := F6) hF6 hd40
  cases e6
  obtain ⟨⟨x1, hx1⟩, hf1⟩ := bcell 1 (by omega)
  have HS11 := Lib.hid (HS10.out.poke 6 rfl bg (bo + 1) bF (.int .u8 (((x1.toNat : Int) + 1) % 256)))
  have HS11 : Hid (Sep w [OldA w, MgrA (pt m) (ke3 lba (dataB kk)), ByA (.slice vp 40 vc) (dataB kk), TrueA, TrueA, BoxA xz #[.int .i64 lba, .int .i64 1] 56, TrueA] _) := HS11
  have HH := Lib.hid (ke_hist HS11 1 rfl HG3.out (by omega) (st := 1) (tm := 0) (cd := 0) (k := lba) (d := dataB kk) (S := [⟨lba, 1⟩]) (by show 1 ≤ 1; omega) rfl)
  clear hF6 bcell bF HS10
  go_wp2_with fail
  refine (HH.out).mono ?_
  rintro e w8 ⟨rp, rc, pp, pc, rfl, HS12⟩
  have HS13 := ke_new HS12 #[.int .i64 1, .int .i64 0, .int .i64 0, .int .i64 0, .int .i64 0, .slice rp 1 rc, .slice pp 1 pc] 73
  generalize hyz : w8.heap.size = yz at *
  have HS13 : Hid (Sep w [OldA w, MgrA (pt m) (ke3 lba (dataB kk)), ByA (.slice vp 40 vc) (dataB kk), TrueA, TrueA, BoxA xz #[.int .i64 lba, .int .i64 1] 56, TrueA, ReadsWA (.slice rp 1 rc) [⟨lba, dataB kk, true⟩], PutsWA (.slice pp 1 pc) [⟨lba, dataB kk⟩], BoxA yz #[.int .i64 1, .int .i64 0, .int .i64 0, .int .i64 0, .int .i64 0, .slice rp 1 rc, .slice pp 1 pc] 73] _) := HS13
  have y5 := ke_box HS13 9 rfl 5
  have y6 := ke_box HS13 9 rfl 6
  change _ = some (Value.slice rp 1 rc) at y5
  change _ = some (Value.slice pp 1 pc) at y6
  obtain ⟨F7, hF7, _⟩ := HS13.out.get 7 rfl
  obtain ⟨rb, ro, rg, rq, re, rfl, rc1, rB, _, _⟩ := readsW_told (F := F7) hF7 hd40
  obtain ⟨F2, hF2, _⟩ := HS13.out.get 2 rfl
  have HRB := Lib.hid rB
  have HV8 := Lib.hid (BytesAt.mono hF2 fun _ _ => trivial : BytesAt (fun _ => True) _ (.slice vp 40 vc) (dataB kk))
  clear hF7 hF2 rB HH HS12 HS11 hx1 hf1
  go_wp2_with fail
  (try rw [hyz])
  refine (bytes_any (fun _ => True) _ _ (dataB kk) (dataB kk) _ HRB.out HV8.out).mono ?_
  rintro e w9 ⟨rfl, hb9⟩
  rw [show (dataB kk == dataB kk) = true by simp]
  have HS14 := Lib.hid (HS13.out.up hb9)
  clear hb9 HRB HV8 HS13 y5 y6 rc1
  have y5 := ke_box HS14 9 rfl 5
  have y6 := ke_box HS14 9 rfl 6
  change _ = some (Value.slice (some ⟨rb, ro, none⟩) 1 rc) at y5
  change _ = some (Value.slice pp 1 pc) at y6
  obtain ⟨F7, hF7, _⟩ := HS14.out.get 7 rfl
  obtain ⟨_, _, rg7, rq7, re7, e7, rc1, _, rcell, rF⟩ := readsW_told (F := F7) hF7 hd40
  cases e7
  obtain ⟨⟨x2, hx2⟩, hf2⟩ := rcell 2 (by omega)
  clear hF7 rcell
  go_upto_region 22 with fail
  have hs15 := HS14.out.poke 7 rfl rg7 (rq7 + 2) rF (.int .u8 (((x2.toNat : Int) + 1) % 256))
  generalize w9.setCell ⟨rg7, rq7 + 2, none⟩ (.int .u8 (((x2.toNat : Int) + 1) % 256)) = w10 at *
  have HS15 : Hid (Sep w [OldA w, MgrA (pt m) (ke3 lba (dataB kk)), ByA (.slice vp 40 vc) (dataB kk), TrueA, TrueA, BoxA xz #[.int .i64 lba, .int .i64 1] 56, TrueA, TrueA, PutsWA (.slice pp 1 pc) [⟨lba, dataB kk⟩], BoxA yz #[.int .i64 1, .int .i64 0, .int .i64 0, .int .i64 0, .int .i64 0, .slice (some ⟨rb, ro, none⟩) 1 rc, .slice pp 1 pc] 73] w10) := hs15
  clear hs15 HS14 y5 y6 rc1 hx2 hf2 rF
  have y6 := ke_box HS15 9 rfl 6
  change _ = some (Value.slice pp 1 pc) at y6
  obtain ⟨F8, hF8, _⟩ := HS15.out.get 8 rfl
  obtain ⟨pb, po, pg, pq, pe, rfl, pc0, pc1, _, pcell, pF⟩ := putsW_told (F := F8) hF8 hd40
  obtain ⟨⟨x3, hx3⟩, hf3⟩ := pcell 3 (by omega)
  have hs16 := HS15.out.poke 8 rfl pg (pq + 3) pF (.int .u8 (((x3.toNat : Int) + 1) % 256))
  have HS16 : Hid (Sep w [OldA w, MgrA (pt m) (ke3 lba (dataB kk)), ByA (.slice vp 40 vc) (dataB kk), TrueA, TrueA, BoxA xz #[.int .i64 lba, .int .i64 1] 56, TrueA, TrueA, TrueA, BoxA yz #[.int .i64 1, .int .i64 0, .int .i64 0, .int .i64 0, .int .i64 0, .slice (some ⟨rb, ro, none⟩) 1 rc, .slice (some ⟨pb, po, none⟩) 1 pc] 73] (w10.setCell ⟨pg, pq + 3, none⟩ (.int .u8 (((x3.toNat : Int) + 1) % 256)))) := hs16
  have HC := Lib.hid (mgCommit_sep HS16 1 rfl HG3.out (by show 0 ≤ 1000000; omega) 1)
  rw [HC1.out, HC2.out] at HC
  clear hs16 HS15 hF8 pcell pF pc0
  go_wp2_with fail
  refine (HC.out).mono ?_
  rintro e w11 ⟨rfl, HS17⟩
  have HS17 : Hid (Sep w [OldA w, MgrA (pt m) (ke4 lba (dataB kk)), ByA (.slice vp 40 vc) (dataB kk), TrueA, TrueA, BoxA xz #[.int .i64 lba, .int .i64 1] 56, TrueA, TrueA, TrueA, BoxA yz #[.int .i64 1, .int .i64 0, .int .i64 0, .int .i64 0, .int .i64 0, .slice (some ⟨rb, ro, none⟩) 1 rc, .slice (some ⟨pb, po, none⟩) 1 pc] 73] w11) := HS17
  have HBA := Lib.hid (ke_batch HS17 1 rfl HG4.out (by omega))
  clear HC HS16 y6 pc1 hx3 hf3
  go_wp2_with fail
  refine (HBA.out).mono ?_
  rintro e w12 ⟨tp, tc, rfl, HS18⟩
  have HS19 := ke_new HS18 #[.int .i64 1, .slice tp 1 tc] 42
  generalize hcz : w12.heap.size = cz at *
  have HS19 : Hid (Sep w [OldA w, MgrA (pt m) (ke5 lba (dataB kk)), ByA (.slice vp 40 vc) (dataB kk), TrueA, TrueA, BoxA xz #[.int .i64 lba, .int .i64 1] 56, TrueA, TrueA, TrueA, BoxA yz #[.int .i64 1, .int .i64 0, .int .i64 0, .int .i64 0, .int .i64 0, .slice (some ⟨rb, ro, none⟩) 1 rc, .slice (some ⟨pb, po, none⟩) 1 pc] 73, TxsWA (.slice tp 1 tc) [⟨1, [⟨lba, dataB kk⟩]⟩], BoxA cz #[.int .i64 1, .slice tp 1 tc] 42] _) := HS19
  have c1 := ke_box HS19 11 rfl 1
  change _ = some (Value.slice tp 1 tc) at c1
  obtain ⟨F10, hF10, _⟩ := HS19.out.get 10 rfl
  obtain ⟨tb, tO, qb, qo, qc, tg, tq, te, rfl, t1, t2, tB, _, _⟩ := txsW_told (F := F10) hF10 hd40
  obtain ⟨F2, hF2, _⟩ := HS19.out.get 2 rfl
  have HTB := Lib.hid tB
  have HV12 := Lib.hid (BytesAt.mono hF2 fun _ _ => trivial : BytesAt (fun _ => True) _ (.slice vp 40 vc) (dataB kk))
  clear hF10 hF2 tB HBA HS18 HS17
  go_wp2_with fail
  (try rw [hcz])
  refine (bytes_any (fun _ => True) _ _ (dataB kk) (dataB kk) _ HTB.out HV12.out).mono ?_
  rintro e w13 ⟨rfl, hb13⟩
  rw [show (dataB kk == dataB kk) = true by simp]
  have HS20 := Lib.hid (HS19.out.up hb13)
  clear hb13 HTB HV12 HS19 c1 t1 t2
  have c1 := ke_box HS20 11 rfl 1
  change _ = some (Value.slice (some ⟨tb, tO, none⟩) 1 tc) at c1
  obtain ⟨F10, hF10, _⟩ := HS20.out.get 10 rfl
  obtain ⟨_, _, qb4, qo4, qc4, tg4, tq4, te4, e10, t1, t2, _, tcell, tF⟩ := txsW_told (F := F10) hF10 hd40
  cases e10
  obtain ⟨⟨x4, hx4⟩, hf4⟩ := tcell 4 (by omega)
  have hs21 := HS20.out.poke 10 rfl tg4 (tq4 + 4) tF (.int .u8 (((x4.toNat : Int) + 1) % 256))
  have HS21 : Hid (Sep w [OldA w, MgrA (pt m) (ke5 lba (dataB kk)), ByA (.slice vp 40 vc) (dataB kk), TrueA, TrueA, BoxA xz #[.int .i64 lba, .int .i64 1] 56, TrueA, TrueA, TrueA, BoxA yz #[.int .i64 1, .int .i64 0, .int .i64 0, .int .i64 0, .int .i64 0, .slice (some ⟨rb, ro, none⟩) 1 rc, .slice (some ⟨pb, po, none⟩) 1 pc] 73, TrueA, BoxA cz #[.int .i64 1, .slice (some ⟨tb, tO, none⟩) 1 tc] 42] (w13.setCell ⟨tg4, tq4 + 4, none⟩ (.int .u8 (((x4.toNat : Int) + 1) % 256)))) := hs21
  have HDN := Lib.hid (mgDone_sep HS21 1 rfl HG5.out (by show 1 ≤ 1000000; omega) (by omega) (by show (1 : Int) ≤ 8; omega) 0)
  rw [HD1.out, HD2.out] at HDN
  clear hs21 HS20 hF10 tcell tF
  go_wp2_with fail
  refine (HDN.out).mono ?_
  rintro e w14 ⟨rfl, HS22⟩
  have HS22 : Hid (Sep w [OldA w, MgrA (pt m) (ke6 lba (dataB kk)), ByA (.slice vp 40 vc) (dataB kk), TrueA, TrueA, BoxA xz #[.int .i64 lba, .int .i64 1] 56, TrueA, TrueA, TrueA, BoxA yz #[.int .i64 1, .int .i64 0, .int .i64 0, .int .i64 0, .int .i64 0, .slice (some ⟨rb, ro, none⟩) 1 rc, .slice (some ⟨pb, po, none⟩) 1 pc] 73, TrueA, BoxA cz #[.int .i64 1, .slice (some ⟨tb, tO, none⟩) 1 tc] 42] w14) := HS22
  have HDM := Lib.hid (mgDump_sep HS22 1 rfl HG6.out (by omega))
  rw [HDU.out] at HDM
  clear HDN HS21 c1 t1 t2 hx4 hf4
  go_wp2_with fail
  refine (HDM.out).mono ?_
  rintro e w15 ⟨up, uc, rfl, HPW, HB15⟩
  have HS23 : Hid (Sep w [OldA w, MgrA (pt m) (ke6 lba (dataB kk)), ByA (.slice vp 40 vc) (dataB kk), TrueA, TrueA, BoxA xz #[.int .i64 lba, .int .i64 1] 56, TrueA, TrueA, TrueA, BoxA yz #[.int .i64 1, .int .i64 0, .int .i64 0, .int .i64 0, .int .i64 0, .slice (some ⟨rb, ro, none⟩) 1 rc, .slice (some ⟨pb, po, none⟩) 1 pc] 73, TrueA, BoxA cz #[.int .i64 1, .slice (some ⟨tb, tO, none⟩) 1 tc] 42, PutsWA (.slice up 1 uc) [⟨lba, dataB kk⟩]] w15) := HS22.out.new HB15.out (PutsWA (.slice up 1 uc) [⟨lba, dataB kk⟩]) (fun _ h => h) HPW.out
  obtain ⟨ub, uo, ug, uq, ue, rfl, u0, u1, uB, ucell, uF⟩ := putsW_told HPW.out hd40
  obtain ⟨F2, hF2, _⟩ := HS23.out.get 2 rfl
  have HUB := Lib.hid uB
  have HV15 := Lib.hid (BytesAt.mono hF2 fun _ _ => trivial : BytesAt (fun _ => True) w15 (.slice vp 40 vc) (dataB kk))
  clear hF2 uB ucell uF HDM HB15 HPW HS22
  have hll : (lba != lba) = false := by simp
  go_wp2_with fail
  refine (bytes_any (fun _ => True) _ _ (dataB kk) (dataB kk) _ HUB.out HV15.out).mono ?_
  rintro e w16 ⟨rfl, hb16⟩
  rw [show (dataB kk == dataB kk) = true by simp]
  have HS24 := Lib.hid (HS23.out.up hb16)
  clear hb16 HUB HV15 HS23 u0 u1 hll
  obtain ⟨F12, hF12, _⟩ := HS24.out.get 12 rfl
  obtain ⟨_, _, ug4, uq4, ue4, e12, _, u1, _, ucell, uF⟩ := putsW_told (F := F12) hF12 hd40
  cases e12
  obtain ⟨⟨x5, hx5⟩, hf5⟩ := ucell 5 (by omega)
  have hs25 := HS24.out.poke 12 rfl ug4 (uq4 + 5) uF (.int .u8 (((x5.toNat : Int) + 1) % 256))
  have HS25 : Hid (Sep w [OldA w, MgrA (pt m) (ke6 lba (dataB kk)), ByA (.slice vp 40 vc) (dataB kk), TrueA, TrueA, BoxA xz #[.int .i64 lba, .int .i64 1] 56, TrueA, TrueA, TrueA, BoxA yz #[.int .i64 1, .int .i64 0, .int .i64 0, .int .i64 0, .int .i64 0, .slice (some ⟨rb, ro, none⟩) 1 rc, .slice (some ⟨pb, po, none⟩) 1 pc] 73, TrueA, BoxA cz #[.int .i64 1, .slice (some ⟨tb, tO, none⟩) 1 tc] 42, TrueA] (w16.setCell ⟨ug4, uq4 + 5, none⟩ (.int .u8 (((x5.toNat : Int) + 1) % 256)))) := hs25
  have HBG := Lib.hid (mgBegin_sep HS25 1 rfl HG6.out)
  rw [HQ1.out, HQ2.out, HQ3.out] at HBG
  clear hs25 HS24 hF12 ucell uF
  go_wp2_with fail
  refine (HBG.out).mono ?_
  rintro e w17 ⟨rfl, HS26⟩
  have HS26 : Hid (Sep w [OldA w, MgrA (pt m) (ke7 lba (dataB kk)), ByA (.slice vp 40 vc) (dataB kk), TrueA, TrueA, BoxA xz #[.int .i64 lba, .int .i64 1] 56, TrueA, TrueA, TrueA, BoxA yz #[.int .i64 1, .int .i64 0, .int .i64 0, .int .i64 0, .int .i64 0, .slice (some ⟨rb, ro, none⟩) 1 rc, .slice (some ⟨pb, po, none⟩) 1 pc] 73, TrueA, BoxA cz #[.int .i64 1, .slice (some ⟨tb, tO, none⟩) 1 tc] 42, TrueA] w17) := HS26
  have z0 := ke_box HS26 5 rfl 0
  have z1 := ke_box HS26 5 rfl 1
  change _ = some (Value.int .i64 lba) at z0
  change _ = some (Value.int .i64 1) at z1
  have HRD := Lib.hid (mgRead_sep HS26 1 rfl HG7.out (by omega) 2 ⟨lba, 1⟩ il (show I64 1 by unfold I64; omega))
  clear HBG HS25 u1 hx5 hf5
  go_wp2_with fail
  refine (HRD.out).mono ?_
  rintro e w18 (⟨h0, _⟩ | ⟨_, zg, zo, zc, rfl, HS27⟩)
  · exact absurd HX1.out h0
  have hs27 := HS27.out
  rw [HX2.out] at hs27
  generalize rdNext (ke7 lba (dataB kk)) 2 ⟨lba, 1⟩ = S8 at *
  have HS27 : Hid (Sep w [OldA w, MgrA (pt m) S8, ByA (.slice vp 40 vc) (dataB kk), TrueA, TrueA, BoxA xz #[.int .i64 lba, .int .i64 1] 56, TrueA, TrueA, TrueA, BoxA yz #[.int .i64 1, .int .i64 0, .int .i64 0, .int .i64 0, .int .i64 0, .slice (some ⟨rb, ro, none⟩) 1 rc, .slice (some ⟨pb, po, none⟩) 1 pc] 73, TrueA, BoxA cz #[.int .i64 1, .slice (some ⟨tb, tO, none⟩) 1 tc] 42, TrueA, BytesWA (.slice (some ⟨zg, zo, none⟩) 40 zc) (dataB kk)] w18) := hs27
  have HH := Lib.hid (ke_hist HS27 1 rfl HG8.out (by omega) (st := 3) (tm := 1) (cd := 0) (k := lba) (d := dataB kk) (S := [⟨lba, 1⟩]) (by rw [HX3.out]; omega) HX4.out)
  clear HRD HS26 hs27 z0 z1
  go_wp2_with fail
  refine (HH.out).mono ?_
  rintro e w19 ⟨op, oc, sp, sc, rfl, HS28⟩
  have HS29 := ke_new HS28 #[.int .i64 3, .int .i64 0, .int .i64 1, .int .i64 0, .int .i64 0, .slice op 1 oc, .slice sp 1 sc] 73
  generalize hoz : w19.heap.size = oz at *
  have HS29 : Hid (Sep w [OldA w, MgrA (pt m) S8, ByA (.slice vp 40 vc) (dataB kk), TrueA, TrueA, BoxA xz #[.int .i64 lba, .int .i64 1] 56, TrueA, TrueA, TrueA, BoxA yz #[.int .i64 1, .int .i64 0, .int .i64 0, .int .i64 0, .int .i64 0, .slice (some ⟨rb, ro, none⟩) 1 rc, .slice (some ⟨pb, po, none⟩) 1 pc] 73, TrueA, BoxA cz #[.int .i64 1, .slice (some ⟨tb, tO, none⟩) 1 tc] 42, TrueA, BytesWA (.slice (some ⟨zg, zo, none⟩) 40 zc) (dataB kk), ReadsWA (.slice op 1 oc) [⟨lba, dataB kk, true⟩], PutsWA (.slice sp 1 sc) [⟨lba, dataB kk⟩], BoxA oz #[.int .i64 3, .int .i64 0, .int .i64 1, .int .i64 0, .int .i64 0, .slice op 1 oc, .slice sp 1 sc] 73] _) := HS29
  obtain ⟨F13, hF13, _⟩ := HS29.out.get 13 rfl
  obtain ⟨_, _, _, _, zB, _, _⟩ := bytesW_told (F := F13) hF13 hd40
  obtain ⟨F2, hF2, _⟩ := HS29.out.get 2 rfl
  have HZB := Lib.hid zB
  have HV19 := Lib.hid (BytesAt.mono hF2 fun _ _ => trivial : BytesAt (fun _ => True) _ (.slice vp 40 vc) (dataB kk))
  clear hF13 hF2 zB HH HS28 HS27
  go_wp2_with fail
  refine (bytes_any (fun _ => True) _ _ (dataB kk) (dataB kk) _ HZB.out HV19.out).mono ?_
  rintro e w20 ⟨rfl, hb20⟩
  rw [show (dataB kk == dataB kk) = true by simp]
  have HS30 := Lib.hid (HS29.out.up hb20)
  clear hb20 HZB HV19 HS29
  have o5 := ke_box HS30 16 rfl 5
  change _ = some (Value.slice op 1 oc) at o5
  obtain ⟨F14, hF14, _⟩ := HS30.out.get 14 rfl
  obtain ⟨ob, oo, og, oq, oe, rfl, o1, oB, _, _⟩ := readsW_told (F := F14) hF14 hd40
  obtain ⟨F2, hF2, _⟩ := HS30.out.get 2 rfl
  have HOB := Lib.hid oB
  have HV20 := Lib.hid (BytesAt.mono hF2 fun _ _ => trivial : BytesAt (fun _ => True) _ (.slice vp 40 vc) (dataB kk))
  clear hF14 hF2 oB
  go_wp2_with fail
  (try rw [hoz])
  refine (bytes_any (fun _ => True) _ _ (dataB kk) (dataB kk) _ HOB.out HV20.out).mono ?_
  rintro e w21 ⟨rfl, hb21⟩
  rw [show (dataB kk == dataB kk) = true by simp]
  have HS31 := Lib.hid (HS30.out.up hb21)
  clear hb21 HOB HV20 HS30 o5 o1
  have o6 := ke_box HS31 16 rfl 6
  change _ = some (Value.slice sp 1 sc) at o6
  obtain ⟨F15, hF15, _⟩ := HS31.out.get 15 rfl
  obtain ⟨sb, so, sg, sq, se, rfl, _, s1, sB, _, _⟩ := putsW_told (F := F15) hF15 hd40
  obtain ⟨F2, hF2, _⟩ := HS31.out.get 2 rfl
  have HSB := Lib.hid sB
  have HV21 := Lib.hid (BytesAt.mono hF2 fun _ _ => trivial : BytesAt (fun _ => True) _ (.slice vp 40 vc) (dataB kk))
  clear hF15 hF2 sB
  go_wp2_with fail
  refine (bytes_any (fun _ => True) _ _ (dataB kk) (dataB kk) _ HSB.out HV21.out).mono ?_
  rintro e w22 ⟨rfl, hb22⟩
  rw [show (dataB kk == dataB kk) = true by simp]
  have HB22 := Lib.hid (HS31.out.up hb22).old
  clear hb22 HSB HV21 HS31 o6 s1
  go_wp2_with fail
  refine (awake23 _).mono ?_
  rintro e w23 ⟨rfl, hb23⟩
  have HB23 := Lib.hid (Below.up HB22.out hb23)
  clear hb23
  go_wp2
  go_ret
  exact ⟨rfl, HB23.out⟩
end Go.Proofs
