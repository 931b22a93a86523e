/- Texts of this claim, one behind the other: Mgr14, Rm11, Rm12, RmPruneP, RmPrune, Rm13, Ext10, RmDumpP, RmDump, Rm14, MgrSep, Mgr15. -/
import Derived.Deep.RegionLaw
import Derived.Deep.DeepCutAuto
import Derived.Deep.CutRange
import Derived.BigQuiet
import Derived.Deep.QuietTactic
import Derived.Test.YtajjadoalfjnkaaGreatRp10
namespace Go.Proofs
open Go.RowKit Sc
set_option maxHeartbeats 400000 in
theorem cloneI_some (a : Addr) (n c : Nat) (news : List Value) (w : World) (hlen : Hid (news.length = n * 1)) (hcell : Hid (∀ j u, news[j]? = some u → w.cell? (a.add j) = some u)) (hone : Hid (∀ u ∈ news, u.oneCell' = true)) (hn : Hid (n ≤ 1000000)) :
  Calls Tryz.prog 69 #[.slice (some a) n c] w fun e w' => ∃ v', e = .returned v' ∧ Hid (w'.ownsRow w.heap.size 3 1 v' n news) ∧ Hid (Below w.heap.size w w') := by
 obtain ⟨i0, hi, hz0, hz1, hz2⟩ := info_parts infoInt64
 have heq := fun (W : World) => Lib.run_eql_slice_nil (P := Tryz.prog) W 91 3 (some a) n c 0 0 Tryz.underlying91
 go_enter Tryz.func69, Tryz.ntmps69
 go_wp2_with (at_builtin; refine wpList_append_own _ rfl _ _ 91 rfl w.heap.size 3 i0 (.int .i64 0) 1 8 Tryz.underlying91 hi hz0 hz1 hz2 rfl (by decide) _ 0 [] rfl (World.ownsRow_made w _ 0 (Nat.le_refl _) (by decide) rfl) a n c news rfl hlen.out (fun j u hj => cell_alloc_old (hcell.out j u hj)) hone.out (by have := hn.out; unfold maxLen; omega) (by have := hn.out; omega) (by simp) ?_; intro v' w1 hown hgrow hnil)
 go_ret
 refine ⟨v', rfl, by unfold Hid; simpa using hown, ?_⟩
 refine ((Below.refl _ _).alloc (Nat.le_refl _) _).grown hgrow (by simp) (fun k hk => ?_)
 cases hk; exact Nat.le_refl _
theorem doStep_more (code : Int) (s : MgS) (h : Int) : (doStep code s h).num = s.num ∧ (doStep code s h).out = s.out := by
 unfold doStep
 split <;> exact ⟨rfl, rfl⟩
theorem doneTo_more (code : Int) (s : MgS) : ∀ j, j ≤ s.queue.length → (doneTo code s j).num = s.num ∧ (doneTo code s j).out = s.out
 | 0, _ => by rw [doneTo_zero]; exact ⟨rfl, rfl⟩
 | j + 1, h => by
  obtain ⟨h1, h2⟩ := doneTo_more code s j (by omega)
  obtain ⟨k1, k2⟩ := doStep_more code (doneTo code s j) s.queue[j]
  rw [doneTo_succ code s (by omega)]
  exact ⟨k1.trans h1, k2.trans h2⟩
def TxVA (b o : Nat) (pv : Nat → Value) (l : List Tx) : Asn := ⟨fun F w => F b ∧ ∀ i (h : i < l.length), w.cell? ⟨b, o + i * 2, none⟩ = some (.int .i64 l[i].time) ∧ w.cell? ⟨b, o + i * 2 + 1, none⟩ = some (pv i) ∧ I64 l[i].time ∧ PutsAt F w (pv i) l[i].puts,
 fun F w w' hs _ h => ⟨h.1, fun i hi => by
  obtain ⟨h1, h2, h3, h4⟩ := h.2 i hi
  exact ⟨by rw [hs.cell h.1]; exact h1, by rw [hs.cell h.1]; exact h2, h3, h4.same hs⟩⟩⟩
theorem TxsAt.told {F : Nat → Prop} {w : World} {A : Option Addr} {n c : Nat} {l : List Tx} (h : TxsAt F w (.slice A n c) l) (hl : 0 < l.length) : ∃ b o pv, A = some ⟨b, o, none⟩ ∧ (TxVA b o pv l).P F w := by
 obtain ⟨p', c', e, _, _, _, a4⟩ := h
 cases e
 obtain ⟨b, o, rfl, hg, _⟩ := a4 0 hl
 have hx : ∀ i, ∃ v, ∀ hi : i < l.length, w.cell? ⟨b, o + i * 2 + 1, none⟩ = some v ∧ PutsAt F w v l[i].puts := fun i => by
  by_cases hi : i < l.length
  ·obtain ⟨b', o', e', _, _, _, v, h1, h2⟩ := a4 i hi
   cases e'
   exact ⟨v, fun _ => ⟨h1, h2⟩⟩
  ·exact ⟨undef, fun h => absurd h hi⟩
 obtain ⟨pv, hpv⟩ := Classical.axiomOfChoice hx
 refine ⟨b, o, pv, rfl, hg, fun i hi => ?_⟩
 obtain ⟨b', o', e', _, h1, h2, _⟩ := a4 i hi
 cases e'
 exact ⟨h1, (hpv i hi).1, h2, (hpv i hi).2⟩
section
variable {W w : World} {L : List Asn} {i : Nat} {c : MgC} {s : MgS}
theorem items_ext (last0' : Int) (vs' : Vers) : (mgrItems c s).set 1 (ExtA (pt c.m) s.blocks last0' vs') = mgrItems c { s with last0 := last0', vs := vs' } := rfl
theorem queue_items {q : Value} {qu : List Int} {B R : Asn} (hB : B = BoxA c.mb (mgrRow { c with qv := q } { s with queue := qu }) 106) (hR : R = RowA 3 1 q qu.length (qu.map (Value.int .i64))) :
  ((mgrItems c s).set 4 R).set 0 B = mgrItems { c with qv := q } { s with queue := qu } := by
 subst hB
 subst hR
 rfl
theorem ints_at {W w : World} {L : List Asn} {j g cap : Nat} {l : List Int} {n : Nat} (h : Sep W L w) (hj : L[j]? = some (RowA 3 1 (.slice (some ⟨g, 0, none⟩) n cap) n (l.map (Value.int .i64)))) {k : Nat} (hk : k < n) (hl : l.length = n) : w.cell? ⟨g, k, none⟩ = some (.int .i64 (l[k]'(by omega))) := by
 have := (h.row_cell j hj k (by omega)).1
 rw [this, List.getElem?_map, List.getElem?_eq_getElem (by omega)]; rfl
set_option maxRecDepth 100000 in
set_option maxHeartbeats 8000000 in
theorem done_core (h : Hid (Sep W (OL L i (mgrItems c s)) w)) (hc : c.cs.length = s.txs.length) {n : Nat} (g : MgG n s) (hn : s.queue.length ≤ 1000000) (hnn : n ≤ 900000) (h8 : s.out ≤ 8) (hi : i < L.length) (code : Int) :
  Calls Tryz.prog 28 #[.pointer (some ⟨c.mb, 0, none⟩), .int .i64 code] w fun e w' => e = .returned (.int .i64 (doneCode s)) ∧ ∃ q : Value, Hid (Sep W (OL L i (mgrItems { c with qv := q } (doneNext s code))) w') := by
 have HG : Hid (MgG n s) := g
 have HI := Lib.hid hi
 obtain ⟨c0, _, _, c3, c4, _⟩ := mgr_cells h.out
 obtain ⟨ho1, ho2⟩ := g.o1
 clear g hi
 by_cases ho : s.out = 0
 case pos =>
  have HC : Hid (doneCode s = 14 ∧ doneNext s code = s) := ⟨if_pos ho, if_pos ho⟩
  rw [ho] at c4
  go_enter Tryz.func28, Tryz.ntmps28
  go_wp2_with fail
  refine (gone_any c.mb c.m _ c0).mono ?_
  rintro e w1 ⟨rfl, rfl⟩
  go_wp2
  go_ret
  exact ⟨by rw [HC.out.1]; rfl, c.qv, by rw [HC.out.2]; exact h⟩
 case neg =>
 obtain ⟨j, hj⟩ : ∃ j : Nat, s.out = (j : Int) + 1 := ⟨(s.out - 1).toNat, by omega⟩
 have hjq : j + 1 ≤ s.queue.length := by omega
 have hj8 : j + 1 ≤ 8 := by omega
 have hoz : (s.out == 0) = false := by rw [beq_eq_false_iff_ne]; exact ho
 have HC : Hid (doneCode s = 0 ∧ doneNext s code = { doneTo code s (j + 1) with num := if code = 0 then s.num + 1 else s.num, queue := s.queue.drop (j + 1), out := 0 }) := by
  have e : s.out.toNat = j + 1 := by omega
  refine ⟨if_neg ho, ?_⟩
  unfold doneNext doneTo
  rw [if_neg ho, e]
 rw [hj] at c4 hoz
 have HJ := Lib.hid hj
 have hd : Hid (Sep W (OL L i (mgrItems c s)) w.drew) := h.out.up (below_drewN (Below.refl w.heap.size w) 1)
 have HWT := Lib.hid (waiting_core hd hc HG.out hn)
 obtain ⟨d0, _, _, _, d4, _⟩ := mgr_cells hd.out
 rw [hj] at d4
 clear ho hj ho1 ho2
 go_enter Tryz.func28, Tryz.ntmps28
 go_wp2_with fail
 refine (gone_any c.mb c.m _ c0).mono ?_
 rintro e w1 ⟨rfl, rfl⟩
 go_upto_region 3 with fail
 refine wp_regionG (fun W => W.cell? ⟨c.mb, 4, none⟩ = some (.int .i64 ((j : Int) + 1))) (n := 8) (by kernel_rfl) (by kernel_rfl) ?_
 refine wpG.tk 0 ?_
 refine wpG.tk 2 ?_
 refine wpG.tk 3 ?_
 refine wpG.tk 4 ?_
 refine wpG.tk 5 ?_ (hy := by intro W hW; have hld0 := hW; go_simp; try with_reducible rfl)
 refine wpG.alone 1 rfl (by kernel_rfl) (by kernel_rfl) (d4) (fun K hK => ?_)
 go_simp
 go_at_call 67
 refine (HWT.out).mono ?_
 rintro e w2 ⟨p, cp, rfl, hcp, HT2, HB2⟩
 have e4 := cell_up HB2.out d4
 obtain ⟨A, hA1, hA2, hA3⟩ := txCut_to p s.queue.length cp (j + 1) (by omega)
 obtain ⟨xb, xo, pv, rfl, hxv⟩ := TxsAt.told (TxsAt.take (l := waitL s) (by rw [waitL_len]; exact HT2.out) (j + 1) (by rw [waitL_len]; omega) hA2 hA3) (by rw [List.length_take, waitL_len]; omega)
 have hS2 := hd.out.new HB2.out (TxVA xb xo pv ((waitL s).take (j + 1))) (fun _ h => h) hxv
 have HS2 := Lib.hid (hS2.shift HI.out)
 have hA1' : ∀ W, (Instr.slice 40 (.slice p s.queue.length cp) none (some (.int .i64 ((j : Int) + 1))) none).run Tryz.prog W = .ok (.slice (some ⟨xb, xo, none⟩) (j + 1) cp) W := hA1
 clear hS2 hA1 hA2 hA3 HWT d0 hxv
 try go_simp
 refine hK _ _ ?_
 clear hK K
 refine wpG.tk 6 ?_
 refine wpG.tk 7 ?_
 refine wpG.done (by kernel_rfl) e4 ?_
 have HS3 := Lib.hid (HS2.out.up (below_drewN (Below.refl w2.heap.size w2) 1))
 obtain ⟨_, _, _, g3, g4, _⟩ := mgr_cells HS3.out
 rw [HJ.out] at g4
 obtain ⟨gq, cq, hqv, _⟩ := mgr_qcell HS3.out (show 0 < s.queue.length by omega)
 rw [hqv] at g3
 have hqc : s.queue.length ≤ cq := by
  obtain ⟨qp', cq', e', hle⟩ := mgr_queue HS3.out
  rw [hqv] at e'
  cases e'
  exact hle
 have hcut : ∀ W, (Instr.slice 91 (.slice (some ⟨gq, 0, none⟩) s.queue.length cq) none (some (.int .i64 ((j : Int) + 1))) none).run Tryz.prog W = .ok (.slice (some ⟨gq, 0, none⟩) (j + 1) cq) W := slice_to gq s.queue.length cq (j + 1) (by omega)
 have hcl := cloneI_some ⟨gq, 0, none⟩ (j + 1) cq ((s.queue.take (j + 1)).map (Value.int .i64)) w2.drew (Lib.hid (by simp; omega)) (by
  refine Lib.hid fun q u hu => ?_
  rw [List.getElem?_map] at hu
  obtain ⟨x, hx, rfl⟩ := Option.map_eq_some_iff.1 hu
  rw [List.getElem?_take] at hx
  split at hx
  ·obtain ⟨hq1, hq2⟩ := List.getElem?_eq_some_iff.1 hx
   obtain ⟨g', c', e', hcell⟩ := mgr_qcell HS3.out hq1
   rw [hqv] at e'
   cases e'
   rw [addr_add, Nat.zero_add]
   exact hcell.trans (by rw [hq2])
  ·cases hx) (Lib.hid (by intro u hu; obtain ⟨x, _, rfl⟩ := List.mem_map.1 hu; rfl)) (Lib.hid (by omega))
 have HCL := Lib.hid hcl
 clear hcl c0 c3 c4 d4 e4
 go_upto_region 4 with fail
 refine wp_regionG (fun W => W.cell? ⟨c.mb, 3, none⟩ = some (.slice (some ⟨gq, 0, none⟩) s.queue.length cq) ∧ W.cell? ⟨c.mb, 4, none⟩ = some (.int .i64 ((j : Int) + 1))) (n := 12) (by kernel_rfl) (by kernel_rfl) ?_
 refine wpG.tk 0 ?_
 refine wpG.tk 1 ?_
 refine wpG.tk 2 ?_
 refine wpG.tk 3 ?_ (hy := by intro W hW; have hld0 := hW.1; go_simp; try with_reducible rfl)
 refine wpG.tk 4 ?_
 refine wpG.tk 5 ?_
 refine wpG.tk 6 ?_
 refine wpG.tk 7 ?_ (hy := by intro W hW; have hld0 := hW.2; go_simp; try with_reducible rfl)
 refine wpG.tk 8 ?_
 refine wpG.tk 11 ?_
 refine wpG.alone 9 rfl (by kernel_rfl) (by kernel_rfl) (⟨g3, g4⟩) (fun K hK => ?_)
 go_simp
 go_at_call 69
 refine (HCL.out).mono ?_
 rintro e w3 ⟨cv, rfl, HO3, HB3⟩
 have hS4 := (HS3.out.row_new HB3.out HO3.out).shift (by simp; have := HI.out; omega)
 rw [List.append_assoc] at hS4
 obtain ⟨gc, cc, rfl⟩ : ∃ gc cc, cv = .slice (some ⟨gc, 0, none⟩) (j + 1) cc := by
  obtain ⟨_, ⟨_, h0⟩ | ⟨g', cap', _, e', _⟩⟩ := HO3.out
  ·omega
  ·exact ⟨g', cap', e'⟩
 have k3 := cell_up HB3.out g3
 have k4 := cell_up HB3.out g4
 have HS4 := Lib.hid hS4
 clear hS4 HCL g3 g4 HS3 HS2
 try go_simp
 refine hK _ _ ?_
 clear hK K
 refine wpG.tk 10 ?_
 refine wpG.done (by kernel_rfl) ⟨k3, k4⟩ ?_
 have hlt : (waitL s).length = s.queue.length := waitL_len s
 have htk : (s.queue.take (j + 1)).length = j + 1 := by rw [List.length_take]; omega
 go_wp2_with fail
 go_loopw [35] (fun s35 wr => ∃ m : Nat, m ≤ j + 1 ∧ s35 = .int .i64 m ∧ Hid (Sep W (OL (L ++ ([TxVA xb xo pv ((waitL s).take (j + 1))] ++ [RowA 3 1 (.slice (some ⟨gc, 0, none⟩) (j + 1) cc) (j + 1) ((s.queue.take (j + 1)).map (Value.int .i64))])) i (mgrItems c (doneTo code s m))) wr)) (fun s35 _ => j + 1 - (intOf s35).toNat)
 case atStart => exact ⟨0, Nat.zero_le _, by go_num, by rw [doneTo_zero]; exact HS4⟩
 case round =>
  obtain ⟨m, hm, rfl, HS⟩ := hrel
  clear HS4 k3 k4
  by_cases hlt2 : m < j + 1
  case neg =>
   obtain rfl : m = j + 1 := by omega
   obtain ⟨y1, y2, y3⟩ := doneTo_same code s (j + 1) (by omega)
   obtain ⟨y4, y5⟩ := doneTo_more code s (j + 1) (by omega)
   obtain ⟨nm, hnm⟩ : ∃ nm : Int, nm = if code = 0 then s.num + 1 else s.num := ⟨_, rfl⟩
   have HFN : Hid (doneNext s code = { doneTo code s (j + 1) with num := nm, queue := s.queue.drop (j + 1), out := 0 }) := by show _ = _; rw [HC.out.2, hnm]
   have HY := Lib.hid y1
   have HY5 := Lib.hid y5
   have hnum := HG.out.nm
   have hll : (L ++ ([TxVA xb xo pv ((waitL s).take (j + 1))] ++ [RowA 3 1 (.slice (some ⟨gc, 0, none⟩) (j + 1) cc) (j + 1) ((s.queue.take (j + 1)).map (Value.int .i64))])).length = L.length + 2 := by simp
   have hcase : ∃ wx, (code = 0 ∧ wx = wr.setCell ⟨c.mb, 5, none⟩ (.int .i64 (s.num + 1)) ∨ code ≠ 0 ∧ wx = wr) ∧ Hid (Sep W (OL (L ++ ([TxVA xb xo pv ((waitL s).take (j + 1))] ++ [RowA 3 1 (.slice (some ⟨gc, 0, none⟩) (j + 1) cc) (j + 1) ((s.queue.take (j + 1)).map (Value.int .i64))])) i (mgrItems c { doneTo code s (j + 1) with num := nm })) wx) := by
    by_cases hcd : code = 0
    ·refine ⟨_, .inl ⟨hcd, rfl⟩, ?_⟩
     rw [if_pos hcd] at hnm
     have := mgr_store HS.out 5 (.int .i64 (s.num + 1)) { doneTo code s (j + 1) with num := nm } (by rw [hnm]; rfl) rfl rfl rfl rfl rfl rfl rfl
     exact this
    ·refine ⟨_, .inr ⟨hcd, rfl⟩, ?_⟩
     rw [if_neg hcd, ← y4] at hnm
     rw [hnm]
     exact HS
   obtain ⟨wx, hwx, HSX⟩ := hcase
   obtain ⟨_, _, _, _, _, s5, _⟩ := mgr_cells HS.out
   rw [y4] at s5
   have f5 := mgr_free HS.out 5
   obtain ⟨_, _, _, x3, x4, _⟩ := mgr_cells HSX.out
   change wx.cell? ⟨c.mb, 4, none⟩ = some (.int .i64 (doneTo code s (j + 1)).out) at x4
   rw [y5, HJ.out] at x4
   rw [hqv] at x3
   have hqc' : s.queue.length ≤ cq := hqc
   obtain ⟨A2, hcut2, hA2⟩ := slice_from gq s.queue.length cq j (by omega) hqc'
   have hcl2 := cloneI_some A2 (s.queue.length - (j + 1)) (cq - (j + 1)) ((s.queue.drop (j + 1)).map (Value.int .i64)) wx.drew (Lib.hid (by simp)) (by
    refine Lib.hid fun q u hu => ?_
    rw [List.getElem?_map] at hu
    obtain ⟨x, hx, rfl⟩ := Option.map_eq_some_iff.1 hu
    rw [List.getElem?_drop] at hx
    obtain ⟨hq1, hq2⟩ := List.getElem?_eq_some_iff.1 hx
    have hSd := HSX.out.up (below_drewN (Below.refl wx.heap.size wx) 1)
    obtain ⟨g', c', e', hcell⟩ := mgr_qcell hSd (j := j + 1 + q) (by show _ < (doneTo code s (j + 1)).queue.length; rw [HY.out]; exact hq1)
    change c.qv = .slice (some ⟨g', 0, none⟩) (doneTo code s (j + 1)).queue.length c' at e'
    rw [hqv, HY.out] at e'
    cases e'
    rcases hA2 with h0 | hA2
    ·omega
    ·rw [hA2]
     refine hcell.trans ?_
     congr 2
     rw [← hq2]
     show (doneTo code s (j + 1)).queue[j + 1 + q]'_ = _
     simp only [HY.out]) (Lib.hid (by intro u hu; obtain ⟨x, _, rfl⟩ := List.mem_map.1 hu; rfl)) (Lib.hid (by omega))
   have HCL2 := Lib.hid hcl2
   have HSD := Lib.hid (HSX.out.up (below_drewN (Below.refl wx.heap.size wx) 1))
   obtain ⟨_, _, _, v3, v4, _⟩ := mgr_cells HSD.out
   change _ = some (Value.int .i64 (doneTo code s (j + 1)).out) at v4
   rw [y5, HJ.out] at v4
   rw [hqv] at v3
   have HYL := Lib.hid hll
   have v3' : wx.drew.cell? ⟨c.mb, 3, none⟩ = some (.slice (some ⟨gq, 0, none⟩) s.queue.length cq) := v3
   have v4' : wx.drew.cell? ⟨c.mb, 4, none⟩ = some (.int .i64 ((j : Int) + 1)) := v4
   have HFIN0 : Hid (∀ w7 np nc, w7.ownsRow wx.drew.heap.size 3 1 (.slice np (s.queue.length - (j + 1)) nc) (s.queue.length - (j + 1)) ((s.queue.drop (j + 1)).map (Value.int .i64)) → Below wx.drew.heap.size wx.drew w7 →
     Sep W (OL (L ++ ([TxVA xb xo pv ((waitL s).take (j + 1))] ++ [RowA 3 1 (.slice (some ⟨gc, 0, none⟩) (j + 1) cc) (j + 1) ((s.queue.take (j + 1)).map (Value.int .i64))])) i (mgrItems { c with qv := .slice np (s.queue.length - (j + 1)) nc } { doneTo code s (j + 1) with num := nm, queue := s.queue.drop (j + 1) })) (w7.setCell ⟨c.mb, 3, none⟩ (.slice np (s.queue.length - (j + 1)) nc))) := fun w7 np nc ho hb => by
    have hi4 : (OL (L ++ ([TxVA xb xo pv ((waitL s).take (j + 1))] ++ [RowA 3 1 (.slice (some ⟨gc, 0, none⟩) (j + 1) cc) (j + 1) ((s.queue.take (j + 1)).map (Value.int .i64))])) i (mgrItems c { doneTo code s (j + 1) with num := nm }))[(L ++ ([TxVA xb xo pv ((waitL s).take (j + 1))] ++ [RowA 3 1 (.slice (some ⟨gc, 0, none⟩) (j + 1) cc) (j + 1) ((s.queue.take (j + 1)).map (Value.int .i64))])).length + 4]? = some (RowA 3 1 c.qv (doneTo code s (j + 1)).queue.length ((doneTo code s (j + 1)).queue.map (Value.int .i64))) := OL_get.trans (items_head 4 (by omega))
    have hS8 := HSD.out.row_put _ hi4 hb ho
    rw [OL_set] at hS8
    have hS9 := hS8.box_store ((L ++ ([TxVA xb xo pv ((waitL s).take (j + 1))] ++ [RowA 3 1 (.slice (some ⟨gc, 0, none⟩) (j + 1) cc) (j + 1) ((s.queue.take (j + 1)).map (Value.int .i64))])).length + 0) (b := c.mb) (cs := mgrRow c { doneTo code s (j + 1) with num := nm }) (T := 106) (OL_get.trans rfl) 3 (.slice np (s.queue.length - (j + 1)) nc)
    rw [OL_set] at hS9
    exact (queue_items (c := c) (s := { doneTo code s (j + 1) with num := nm }) (q := .slice np (s.queue.length - (j + 1)) nc) (qu := s.queue.drop (j + 1)) rfl (by rw [List.length_drop])) ▸ hS9
   clear hcl2 hA2 hnm hqc' hll y1 y2 y3 y4 y5 HSX
   rcases hwx with ⟨hcd, hwx⟩ | ⟨hcd, hwx⟩
   ·have hcz : (code == 0) = true := by rw [beq_iff_eq]; exact hcd
    clear hcd
    obtain ⟨n0, n1⟩ := hnum
    have n2 : s.num + 1 ≤ 9223372036854775807 := by omega
    go_upto_region 15 with fail
    have hwr : IntKind.i64.wrap (s.num + 1) = s.num + 1 := IntWalk.i64_in _ (by omega)
    try rw [hwr]
    rw [← hwx]
    clear hwx
    go_region_law ((first
     | (go_simp
        go_at_call 69
        refine (HCL2.out).mono ?_
        rintro e w7 ⟨nv, rfl, HO7, HB7⟩
        obtain ⟨np, nc, rfl⟩ := ownsRow_shape HO7.out
        have r3 := cell_up HB7.out v3
        have fz := mgr_free (HSD.out.up HB7.out) 3)))
    all_goals
     have HFQ := Lib.hid (HFIN0.out w7 np nc HO7.out HB7.out)
     obtain ⟨_, _, _, _, t4, _⟩ := mgr_cells HFQ.out
     change _ = some (Value.int .i64 (doneTo code s (j + 1)).out) at t4
     rw [HY5.out, HJ.out] at t4
     have f4 := mgr_free HFQ.out 4
     have hlast := mgr_store HFQ.out 4 (.int .i64 0) { doneTo code s (j + 1) with num := nm, queue := s.queue.drop (j + 1), out := 0 } rfl rfl rfl rfl rfl rfl rfl rfl
     have HLAST := Lib.hid ((hlast.unbox HI.out).unbox HI.out)
     rw [List.append_nil] at HLAST
     clear hlast
     go_wp2
     go_ret
     exact ⟨by rw [HC.out.1]; rfl, _, by rw [HFN.out]; exact HLAST⟩
   ·have hcz : (code == 0) = false := by rw [beq_eq_false_iff_ne]; exact hcd
    clear hcd
    subst hwx
    go_upto_region 15 with fail
    go_region_law ((first
     | (go_simp
        go_at_call 69
        refine (HCL2.out).mono ?_
        rintro e w7 ⟨nv, rfl, HO7, HB7⟩
        obtain ⟨np, nc, rfl⟩ := ownsRow_shape HO7.out
        have r3 := cell_up HB7.out v3
        have fz := mgr_free (HSD.out.up HB7.out) 3)))
    all_goals
     have HFQ := Lib.hid (HFIN0.out w7 np nc HO7.out HB7.out)
     obtain ⟨_, _, _, _, t4, _⟩ := mgr_cells HFQ.out
     change _ = some (Value.int .i64 (doneTo code s (j + 1)).out) at t4
     rw [HY5.out, HJ.out] at t4
     have f4 := mgr_free HFQ.out 4
     have hlast := mgr_store HFQ.out 4 (.int .i64 0) { doneTo code s (j + 1) with num := nm, queue := s.queue.drop (j + 1), out := 0 } rfl rfl rfl rfl rfl rfl rfl rfl
     have HLAST := Lib.hid ((hlast.unbox HI.out).unbox HI.out)
     rw [List.append_nil] at HLAST
     clear hlast
     go_wp2
     go_ret
     exact ⟨by rw [HC.out.1]; rfl, _, by rw [HFN.out]; exact HLAST⟩
  case pos =>
   have hmq : m < s.queue.length := by omega
   have hqm := List.getElem_mem hmq
   obtain ⟨hq1, hq2⟩ := HG.out.qr _ hqm
   obtain ⟨q, hq⟩ : ∃ q : Nat, s.queue[m] = (q : Int) + 1 := ⟨(s.queue[m] - 1).toNat, by omega⟩
   obtain ⟨z1, z2, z3⟩ := doneTo_same code s m (by omega)
   have hcm : c.cs.length = (doneTo code s m).txs.length := by rw [z2]; exact hc
   have hqs : q < (doneTo code s m).txs.length := by rw [z2]; omega
   have hri : (OL (L ++ ([TxVA xb xo pv ((waitL s).take (j + 1))] ++ [RowA 3 1 (.slice (some ⟨gc, 0, none⟩) (j + 1) cc) (j + 1) ((s.queue.take (j + 1)).map (Value.int .i64))])) i (mgrItems c (doneTo code s m)))[L.length + 1]? = some (RowA 3 1 (.slice (some ⟨gc, 0, none⟩) (j + 1) cc) (j + 1) ((s.queue.take (j + 1)).map (Value.int .i64))) := by
    rw [OL_old (by simp) (by have := HI.out; omega), List.getElem?_append_right (by omega), show L.length + 1 - L.length = 1 by omega]; rfl
   have hcell := ints_at HS.out hri (k := m) hlt2 htk
   rw [List.getElem_take, hq] at hcell
   have hsucc := doneTo_succ code s hmq
   rw [hq] at hsucc
   clear hri
   by_cases hcd : code = 0
   case neg =>
    have hcz : (code != 0) = true := by rw [bne_iff_ne]; exact hcd
    have HSU : Hid (doneTo code s (m + 1) = endNext (doneTo code s m) ((q : Int) + 1) 4 code) := by
     show _ = _
     rw [hsucc]
     unfold doStep
     rw [if_neg hcd]
    have HE := Lib.hid (end_core HS hcm hqs 4 code)
    clear hcd hsucc
    go_wp2_with fail
    refine (HE.out).mono ?_
    rintro e w5 ⟨rfl, HS5⟩
    rw [← HSU.out] at HS5
    go_wp2_with fail
    go_roundw
    case rel => exact ⟨m + 1, by omega, by go_num, HS5⟩
    case measure => simp [intOf]; omega
   case pos =>
    subst hcd
    have gm := HG.out.doneTo 0 m (by omega)
    have hti : ((waitL s).take (j + 1))[m]'(by rw [List.length_take, waitL_len]; omega) = waitTx (doneTo 0 s m) ((q : Int) + 1) := by
     rw [List.getElem_take]
     unfold waitL
     rw [List.getElem_map, hq]
     have e := doneTo_tx HG.out 0 m (by omega) ((q : Int) + 1) (by rw [List.drop_eq_getElem_cons hmq, hq]; simp)
     unfold waitTx
     rw [txOf_txAt, txOf_txAt, e]
    have hpl : (waitTx (doneTo 0 s m) ((q : Int) + 1)).puts.length ≤ 16 := by
     show (bufPuts (txAt (doneTo 0 s m).txs ((q : Int) + 1)).buf).length ≤ 16
     rw [bufPuts_len]
     exact (gm.tx _ (txAt_mem (by omega) (by show (q : Int) + 1 ≤ (doneTo 0 s m).txs.length; omega))).bl
    have HSU : Hid (doneTo 0 s (m + 1) = endNext { doneTo 0 s m with vs := applyNext (doneTo 0 s m).blocks (doneTo 0 s m).last0 (doneTo 0 s m).vs (waitTx (doneTo 0 s m) ((q : Int) + 1)), last0 := applyLast (doneTo 0 s m).blocks (doneTo 0 s m).last0 (waitTx (doneTo 0 s m) ((q : Int) + 1)), last := (waitTx (doneTo 0 s m) ((q : Int) + 1)).time } ((q : Int) + 1) 3 0) := by
     show _ = _
     rw [hsucc]
     unfold doStep
     rw [if_pos rfl]; rfl
    have hll : (L ++ ([TxVA xb xo pv ((waitL s).take (j + 1))] ++ [RowA 3 1 (.slice (some ⟨gc, 0, none⟩) (j + 1) cc) (j + 1) ((s.queue.take (j + 1)).map (Value.int .i64))])).length = L.length + 2 := by simp
    have hSd := HS.out.up (below_drewN (Below.refl wr.heap.size wr) 1)
    have hxi : ∀ S' : MgS, (OL (L ++ ([TxVA xb xo pv ((waitL s).take (j + 1))] ++ [RowA 3 1 (.slice (some ⟨gc, 0, none⟩) (j + 1) cc) (j + 1) ((s.queue.take (j + 1)).map (Value.int .i64))])) i (mgrItems c S'))[L.length]? = some (TxVA xb xo pv ((waitL s).take (j + 1))) := fun S' => by
     rw [OL_old (by simp) (by have := HI.out; omega), List.getElem?_append_right (Nat.le_refl _), Nat.sub_self]; rfl
    have hmt : m < ((waitL s).take (j + 1)).length := by rw [List.length_take, waitL_len]; omega
    obtain ⟨FX, hFX, _⟩ := hSd.get L.length (hxi _)
    obtain ⟨v0, v1, _, _⟩ := hFX.2 m hmt
    have hap := extApply_sep hSd ((L ++ ([TxVA xb xo pv ((waitL s).take (j + 1))] ++ [RowA 3 1 (.slice (some ⟨gc, 0, none⟩) (j + 1) cc) (j + 1) ((s.queue.take (j + 1)).map (Value.int .i64))])).length + 1) (tv := .agg #[.int .i64 (waitTx (doneTo 0 s m) ((q : Int) + 1)).time, pv m]) (OL_get.trans (items_head 1 (by omega))) gm.b1 (waitTx (doneTo 0 s m) ((q : Int) + 1)) (fun G hR => by
     obtain ⟨F', hF', hX⟩ := hR L.length (TxVA xb xo pv ((waitL s).take (j + 1))) (by rw [hll]; omega) (hxi _)
     obtain ⟨_, _, k3, k4⟩ := hX.2 m hmt
     rw [hti] at k3 k4
     exact ⟨pv m, rfl, k3, PutsAt.mono k4 hF'⟩)
     (fun k l hl => by have h1 := len_nVers hl; have h2 := gm.nv; change nVers (doneTo 0 s m).vs ≤ _ at h2; omega) (by omega)
    rw [OL_set, items_ext] at hap
    obtain ⟨w0, _⟩ := mgr_cells hSd
    rw [hti] at v0
    have HAP := Lib.hid hap
    have HTI := Lib.hid hti
    have HXI := Lib.hid hxi
    have HMT := Lib.hid hmt
    clear hap hsucc hFX hti hxi gm hpl
    generalize hTT : waitTx (doneTo 0 s m) ((q : Int) + 1) = T at *
    go_wp2_with fail
    go_upto_region 9 with fail
    refine wp_regionG (fun W => W.cell? ⟨c.mb, 0, none⟩ = some (.pointer (some ⟨c.m, 0, none⟩)) ∧ W.cell? ⟨xb, xo + m * 2, none⟩ = some (.int .i64 T.time) ∧ W.cell? ⟨xb, xo + m * 2 + 1, none⟩ = some (pv m)) (n := 9) (by kernel_rfl) (by kernel_rfl) ?_
    refine wpG.tk 0 ?_
    refine wpG.tk 1 ?_
    refine wpG.tk 2 ?_
    refine wpG.tk 3 ?_ (hy := by intro W hW; have hld0 := hW.1; go_simp; try with_reducible rfl)
    refine wpG.tk 4 ?_
    refine wpG.tk 5 ?_
    refine wpG.tk 6 ?_
    refine wpG.tk 7 ?_ (hy := by intro W hW; have hld0 := hW.2.1; have hld1 := hW.2.2; go_simp; try with_reducible rfl)
    refine wpG.alone 8 rfl (by kernel_rfl) (by kernel_rfl) (⟨w0, v0, v1⟩) (fun K hK => ?_)
    go_simp
    go_at_call 70
    refine (HAP.out).mono ?_
    rintro e w5 ⟨rfl, hs5⟩
    have HS5 := Lib.hid hs5
    obtain ⟨g0, _, _, _, _, _, _, g7, _⟩ := mgr_cells HS5.out
    obtain ⟨FX, hFX, _⟩ := HS5.out.get L.length (HXI.out _)
    obtain ⟨y0, y1, _, _⟩ := hFX.2 m HMT.out
    rw [HTI.out] at y0
    have f7 := mgr_free HS5.out 7
    have hS6 := mgr_store HS5.out 7 (.int .i64 T.time) { doneTo 0 s m with vs := applyNext (doneTo 0 s m).blocks (doneTo 0 s m).last0 (doneTo 0 s m).vs T, last0 := applyLast (doneTo 0 s m).blocks (doneTo 0 s m).last0 T, last := T.time } rfl rfl rfl rfl rfl rfl rfl rfl
    have HE := Lib.hid (end_core (Lib.hid hS6) hcm (k := q) hqs 3 0)
    clear hs5 hFX hS6 HAP
    generalize applyCode (doneTo 0 s m).blocks (doneTo 0 s m).last0 T = acd
    try go_simp
    refine hK _ _ ?_
    clear hK K
    refine wpG.done (by kernel_rfl) ⟨g0, y0, y1⟩ ?_
    go_wp2_with fail
    refine (HE.out).mono ?_
    rintro e w6 ⟨rfl, HS6⟩
    rw [← HSU.out] at HS6
    go_wp2_with fail
    go_roundw
    case rel => exact ⟨m + 1, by omega, by go_num, HS6⟩
    case measure => simp [intOf]; omega
end
end Go.Proofs
namespace Go.Proofs
open Go.RowKit Sc
theorem cutF_tx (b q n c o : Nat) (ho : o ≤ n) (hc : n ≤ c) (h9 : c ≤ 9223372036854775807) :
  ∃ A : Option Addr, (∀ W, (Instr.slice 40 (.slice (some ⟨b, q, none⟩) n c) (some (.int .i64 (o : Int))) none none).run Tryz.prog W = .ok (.slice A (n - o) (c - o)) W) ∧ ∃ q', A = some ⟨b, q', none⟩ ∧ (o < c → q' = q + o * 2) := by
 obtain ⟨i0, hi0, _⟩ := info_parts infoTx
 have hu : Tryz.prog.underlying 40 = some (.slice (Tryz.prog.elem 40)) := by kernel_rfl
 have he : Tryz.prog.elem 40 = 70 := by kernel_rfl
 have hk : Tryz.prog.cellsOf 70 = 2 := by kernel_rfl
 by_cases h : c = o
 ·refine ⟨some ⟨b, q, none⟩, fun W => ?_, q, rfl, fun hh => by omega⟩
  rw [run_slice_l (P := Tryz.prog) (w := W) 40 _ n c hu .i64 (o : Int) (by omega) (by omega), he, run_sizeOf (P := Tryz.prog) W hi0]
  simp only [Result.andThen, sliced, Int.toNat_natCast, if_pos h]
 ·refine ⟨some ⟨b, q + o * 2, none⟩, fun W => ?_, q + o * 2, rfl, fun _ => rfl⟩
  rw [run_slice_l (P := Tryz.prog) (w := W) 40 _ n c hu .i64 (o : Int) (by omega) (by omega), he, run_sizeOf (P := Tryz.prog) W hi0]
  simp only [Result.andThen, sliced, Int.toNat_natCast, if_neg h, Option.map_some, addr_add, hk]
theorem cutF_int (b q n c o : Nat) (ho : o ≤ n) (hc : n ≤ c) (h9 : c ≤ 9223372036854775807) :
  ∃ A : Option Addr, (∀ W, (Instr.slice 91 (.slice (some ⟨b, q, none⟩) n c) (some (.int .i64 (o : Int))) none none).run Tryz.prog W = .ok (.slice A (n - o) (c - o)) W) ∧ ∃ q', A = some ⟨b, q', none⟩ ∧ (o < c → q' = q + o * 1) := by
 obtain ⟨i0, hi0, _⟩ := info_parts infoInt
 have hu : Tryz.prog.underlying 91 = some (.slice (Tryz.prog.elem 91)) := by kernel_rfl
 have he : Tryz.prog.elem 91 = 3 := by kernel_rfl
 have hk : Tryz.prog.cellsOf 3 = 1 := by kernel_rfl
 by_cases h : c = o
 ·refine ⟨some ⟨b, q, none⟩, fun W => ?_, q, rfl, fun hh => by omega⟩
  rw [run_slice_l (P := Tryz.prog) (w := W) 91 _ n c hu .i64 (o : Int) (by omega) (by omega), he, run_sizeOf (P := Tryz.prog) W hi0]
  simp only [Result.andThen, sliced, Int.toNat_natCast, if_pos h]
 ·refine ⟨some ⟨b, q + o * 1, none⟩, fun W => ?_, q + o * 1, rfl, fun _ => rfl⟩
  rw [run_slice_l (P := Tryz.prog) (w := W) 91 _ n c hu .i64 (o : Int) (by omega) (by omega), he, run_sizeOf (P := Tryz.prog) W hi0]
  simp only [Result.andThen, sliced, Int.toNat_natCast, if_neg h, Option.map_some, addr_add, hk]
theorem slAt_drop {α : Type} {G : Nat → Prop} {k : Nat} {E : Elem α} {w : World} {b q n c o q' : Nat} {l : List α} (h : SlAt G k E w (.slice (some ⟨b, q, none⟩) n c) l) (ho : o ≤ n) (hq : o < c → q' = q + o * k) : SlAt G k E w (.slice (some ⟨b, q', none⟩) (n - o) (c - o)) (l.drop o) := by
 obtain ⟨p, c', e, h1, h2, h3, h4⟩ := h
 cases e
 refine ⟨some ⟨b, q', none⟩, c - o, by rw [List.length_drop], by rw [List.length_drop]; omega, by omega, (by intro h; cases h), fun i hi => ?_⟩
 rw [List.length_drop] at hi
 obtain ⟨b', o', hp, hg, he⟩ := h4 (o + i) (by omega)
 cases hp
 have := hq (by omega)
 subst this
 rw [List.getElem_drop]
 refine ⟨b, q + o * k, rfl, hg, ?_⟩
 rw [show q + o * k + i * k = q + (o + i) * k by rw [Nat.add_mul]; omega]
 exact he
theorem slAt_some {α : Type} {G : Nat → Prop} {k : Nat} {E : Elem α} {w : World} {v : Value} {l : List α} (h : SlAt G k E w v l) (hl : 0 < l.length) : ∃ b q c, v = .slice (some ⟨b, q, none⟩) l.length c ∧ l.length ≤ c ∧ c ≤ 9223372036854775807 := by
 obtain ⟨p, c, e, h1, h2, h3, h4⟩ := h
 obtain ⟨b, o, hp, _⟩ := h4 0 hl
 subst hp
 exact ⟨b, o, c, e, h1, h2⟩
section
variable {W w : World} {L : List Asn} {i : Nat} {c : RmC} {s : MgS}
theorem ritems_map (last0' : Int) (M' : List RVer) (vs' : Vers) : (rmItems c s).set 1 (RMapA (pt c.m) s.blocks last0' M') = rmItems { c with M := M' } { s with last0 := last0', vs := vs' } := rfl
theorem rm_rows (h : Sep W (OL L i (rmItems c s)) w) : QAt (fun q => q < w.heap.size) w c.qv c.ql ∧ IntsAt (fun q => q < w.heap.size) w c.qh s.queue := by
 obtain ⟨F, hF, hd⟩ := h.get (L.length + 2) (OL_get.trans (ritems_head 2 (by omega)))
 exact ⟨SlAt.mono hF.2.2.1 hd (fun _ _ _ h => h), SlAt.mono (E' := intE) hF.2.2.2 hd (fun _ _ _ h => h)⟩
theorem rdo_fail {code : Int} {k : Nat} {x : Int} (hk : k < s.txs.length) (hx : x = (k : Int) + 1) (hc : code ≠ 0) : doStep code s x = rendNext s k (rendTx s.txs[k] 4 0 code) := by
 subst hx
 unfold doStep
 rw [if_neg hc]
 unfold endNext
 rw [txOf_at hk, setTx_at]; rfl
theorem rdo_ok {k : Nat} {x : Int} (hk : k < s.txs.length) (hx : x = (k : Int) + 1) : doStep 0 s x = rendNext { s with vs := applyNext s.blocks s.last0 s.vs (waitTx s x), last0 := applyLast s.blocks s.last0 (waitTx s x), last := s.txs[k].tm } k (rendTx s.txs[k] 3 s.txs[k].tm 0) := by
 subst hx
 unfold doStep
 rw [if_pos rfl]
 unfold endNext
 have hk2 : k < ({ s with vs := applyNext s.blocks s.last0 s.vs (waitTx s ((k : Int) + 1)), last0 := applyLast s.blocks s.last0 (waitTx s ((k : Int) + 1)), last := (txOf s ((k : Int) + 1)).tm } : MgS).txs.length := hk
 rw [txOf_at hk2, txOf_at hk, setTx_at]; rfl
end
end Go.Proofs
namespace Go.Proofs
open Go.RowKit Sc
section
variable {W w : World} {L : List Asn} {i : Nat} {c : RmC} {s : MgS}
theorem rm_qh_at (h : Sep W (OL L i (rmItems c s)) w) {b o n cp : Nat} (hq : c.qh = .slice (some ⟨b, o, none⟩) n cp) {m : Nat} (hm : m < s.queue.length) : w.cell? ⟨b, o + m, none⟩ = some (.int .i64 s.queue[m]) := by
 obtain ⟨p2, cp2, e2, _, _, _, b4⟩ := (rm_rows h).2
 rw [hq] at e2
 cases e2
 obtain ⟨hb, hoo, hp2, _, hcx, _⟩ := b4 m hm
 cases hp2
 rw [Nat.mul_one] at hcx
 exact hcx
theorem rm_cut6 (h : Sep W (OL L i (rmItems c s)) w) (o : Nat) {qb qo qc : Nat} (ho : o ≤ c.ql.length) (hqv : c.qv = .slice (some ⟨qb, qo, none⟩) c.ql.length qc) {q1 : Nat} (hq1 : o < qc → q1 = qo + o * 2) :
  Sep W (OL L i (rmItems { c with qv := .slice (some ⟨qb, q1, none⟩) (c.ql.length - o) (qc - o), ql := c.ql.drop o } s)) (w.setCell ⟨c.mb, 6, none⟩ (.slice (some ⟨qb, q1, none⟩) (c.ql.length - o) (qc - o))) := by
 obtain ⟨G, hbl, hG, h4, h5, h6, h7, K⟩ := rm_book h
 have hC : Chg (fun q => q = c.mb) w (w.setCell ⟨c.mb, 6, none⟩ (.slice (some ⟨qb, q1, none⟩) (c.ql.length - o) (qc - o))) := chg_set w c.mb 6 _ rfl
 have hh := heap_set_same (rm_heap h) (i := 6) (.slice (some ⟨qb, q1, none⟩) (c.ql.length - o) (qc - o))
 have hs : Same G w (w.setCell ⟨c.mb, 6, none⟩ (.slice (some ⟨qb, q1, none⟩) (c.ql.length - o) (qc - o))) := fun q hq => hC.block q (hG q hq).1 (hG q hq).2
 refine K _ { c with qv := .slice (some ⟨qb, q1, none⟩) (c.ql.length - o) (qc - o), ql := c.ql.drop o } s rfl rfl rfl rfl rfl rfl rfl rfl hC hh ?_ ?_ ?_ ?_
 ·exact SlAt.mono (E' := intE) (IntsAt.same h4 hs) (fun q hq => ⟨.inl hq, (hG q hq).2⟩) (fun _ _ _ h => h)
 ·exact SlAt.mono (E' := intE) (IntsAt.same h5 hs) (fun q hq => ⟨.inl hq, (hG q hq).2⟩) (fun _ _ _ h => h)
 ·rw [hqv] at h6
  exact SlAt.mono (E' := qE) (slAt_drop (SlAt.same h6 hs (qE_stable G)) ho hq1) (fun q hq => ⟨.inl hq, (hG q hq).2⟩) (fun _ _ _ h => h)
 ·exact SlAt.mono (E' := intE) (IntsAt.same h7 hs) (fun q hq => ⟨.inl hq, (hG q hq).2⟩) (fun _ _ _ h => h)
theorem rm_cut7 (h : Sep W (OL L i (rmItems c s)) w) (o : Nat) {qb qo qc : Nat} (ho : o ≤ s.queue.length) (hqv : c.qh = .slice (some ⟨qb, qo, none⟩) s.queue.length qc) {q1 : Nat} (hq1 : o < qc → q1 = qo + o * 1) :
  Sep W (OL L i (rmItems { c with qh := .slice (some ⟨qb, q1, none⟩) (s.queue.length - o) (qc - o) } { s with queue := s.queue.drop o })) (w.setCell ⟨c.mb, 7, none⟩ (.slice (some ⟨qb, q1, none⟩) (s.queue.length - o) (qc - o))) := by
 obtain ⟨G, hbl, hG, h4, h5, h6, h7, K⟩ := rm_book h
 have hC : Chg (fun q => q = c.mb) w (w.setCell ⟨c.mb, 7, none⟩ (.slice (some ⟨qb, q1, none⟩) (s.queue.length - o) (qc - o))) := chg_set w c.mb 7 _ rfl
 have hh := heap_set_same (rm_heap h) (i := 7) (.slice (some ⟨qb, q1, none⟩) (s.queue.length - o) (qc - o))
 have hs : Same G w (w.setCell ⟨c.mb, 7, none⟩ (.slice (some ⟨qb, q1, none⟩) (s.queue.length - o) (qc - o))) := fun q hq => hC.block q (hG q hq).1 (hG q hq).2
 refine K _ { c with qh := .slice (some ⟨qb, q1, none⟩) (s.queue.length - o) (qc - o) } { s with queue := s.queue.drop o } rfl rfl rfl rfl rfl rfl rfl rfl hC hh ?_ ?_ ?_ ?_
 ·exact SlAt.mono (E' := intE) (IntsAt.same h4 hs) (fun q hq => ⟨.inl hq, (hG q hq).2⟩) (fun _ _ _ h => h)
 ·exact SlAt.mono (E' := intE) (IntsAt.same h5 hs) (fun q hq => ⟨.inl hq, (hG q hq).2⟩) (fun _ _ _ h => h)
 ·exact SlAt.mono (E' := qE) (SlAt.same h6 hs (qE_stable G)) (fun q hq => ⟨.inl hq, (hG q hq).2⟩) (fun _ _ _ h => h)
 ·rw [hqv] at h7
  exact SlAt.mono (E' := intE) (slAt_drop (IntsAt.same h7 hs) ho hq1) (fun q hq => ⟨.inl hq, (hG q hq).2⟩) (fun _ _ _ h => h)
theorem set_buf (l : List TxS) (j k : Nat) (t : TxS) (h : t.buf = ((l[j]?).getD default).buf) : ((l.set j t)[k]?).map (·.buf) = (l[k]?).map (·.buf) := by
 rw [List.getElem?_set]
 split
 ·rename_i e
  subst e
  split
  ·rename_i hl
   rw [List.getElem?_eq_getElem hl] at h ⊢
   simpa using h
  ·rename_i hl
   rw [List.getElem?_eq_none (by omega)]
 ·rfl
theorem doStep_buf (code : Int) (s : MgS) (x : Int) (k : Nat) : ((doStep code s x).txs[k]?).map (·.buf) = (s.txs[k]?).map (·.buf) := by
 unfold doStep
 split
 ·exact set_buf _ _ _ _ rfl
 ·exact set_buf _ _ _ _ rfl
theorem doneTo_buf0 (code : Int) (s : MgS) : ∀ j, j ≤ s.queue.length → ∀ k : Nat, ((doneTo code s j).txs[k]?).map (·.buf) = (s.txs[k]?).map (·.buf)
 | 0, _, k => by rw [doneTo_zero]
 | j + 1, h, k => by
  rw [doneTo_succ code s (by omega), doStep_buf, doneTo_buf0 code s j (by omega) k]
theorem doneTo_buf (code : Int) (s : MgS) (j : Nat) (hj : j ≤ s.queue.length) (k : Nat) (hk : k < s.txs.length) (hk' : k < (doneTo code s j).txs.length) : ((doneTo code s j).txs[k]'hk').buf = s.txs[k].buf := by
 have := doneTo_buf0 code s j hj k
 rw [List.getElem?_eq_getElem hk, List.getElem?_eq_getElem hk'] at this
 simpa using this
theorem RmOk.doneA (hc : RmOk c s) {N : Nat} (g : MgG N s) (code : Int) {o : Nat} (ho : o ≤ s.queue.length) {M : List RVer} (hM : MapR (doneTo code s o).vs M) (hv tv qv qh : Value) (u : Int) : RmOk { c with hv := hv, tv := tv, M := M, qv := qv, qh := qh, ql := c.ql.drop o } { doneTo code s o with num := u, queue := s.queue.drop o, out := 0 } := by
 have hl := (doneTo_same code s o ho).2.1
 refine ⟨by show c.cs.length = (doneTo code s o).txs.length; rw [hl]; exact hc.len, hM, fun k hk hk' => ?_, ?_⟩
 ·have hks : k < s.txs.length := by rw [← hl]; exact hk
  have e := doneTo_buf code s o ho k hks hk
  show BufR ((doneTo code s o).txs[k]'hk).buf _
  rw [e]
  exact hc.bufr k hks hk'
 ·show c.ql.drop o = (s.queue.drop o).map fun h => ((txAt (doneTo code s o).txs h).tm, (rxAt c.cs h).lv)
  rw [hc.ql, ← List.map_drop]
  apply List.map_congr_left
  intro x hx
  rw [doneTo_tx g code o ho x hx]
set_option maxRecDepth 100000 in
set_option maxHeartbeats 8000000 in
theorem rdone_core (h : Hid (Sep W (OL L i (rmItems c s)) w)) (hc : RmOk c s) {N : Nat} (g : MgG N s) (hN : N ≤ 300000) (h8 : s.out ≤ 8) (hi : i < L.length) (code : Int) :
  Calls Tryz.prog 86 #[.pointer (some ⟨c.mb, 0, none⟩), .int .i64 code] w fun e w' => e = .returned (.int .i64 (doneCode s)) ∧ ∃ c' : RmC, c'.mb = c.mb ∧ RmOk c' (doneNext s code) ∧ Hid (Sep W (OL L i (rmItems c' (doneNext s code))) w') := by
 have HC := Lib.hid hc
 have HG := Lib.hid g
 have HI := Lib.hid hi
 have hfollow : Tryz.prog.follows Departure.mixedOrders = true := by kernel_rfl
 have m8 : w.cell? ⟨c.mb, 8, none⟩ = some (.int .i64 s.out) := by rw [rm_cell h.out]; rfl
 obtain ⟨ho1, ho2⟩ := g.o1
 clear hc g hi
 by_cases ho : s.out = 0
 case pos =>
  have HD : Hid (doneCode s = 14 ∧ doneNext s code = s) := ⟨if_pos ho, if_pos ho⟩
  rw [ho] at m8
  go_enter Tryz.func86, Tryz.ntmps86
  go_wp2
  go_ret
  exact ⟨by rw [HD.out.1]; rfl, c, rfl, by rw [HD.out.2]; exact HC.out, by rw [HD.out.2]; exact h⟩
 case neg =>
 obtain ⟨o, hoN⟩ : ∃ o : Nat, s.out = (o : Int) := ⟨s.out.toNat, by omega⟩
 have hoq : o ≤ s.queue.length := by omega
 have ho8 : o ≤ 8 := by omega
 have hopos : 1 ≤ o := by omega
 have hoz : ((o : Int) == 0) = false := by rw [beq_eq_false_iff_ne]; omega
 have HD : Hid (doneCode s = 0 ∧ doneNext s code = { doneTo code s o with num := if code = 0 then s.num + 1 else s.num, queue := s.queue.drop o, out := 0 }) := by
  have e : s.out.toNat = o := by omega
  refine ⟨if_neg ho, ?_⟩
  unfold doneNext doneTo
  rw [if_neg ho, e]
 rw [hoN] at m8
 have HO := Lib.hid hoN
 clear ho hoN ho1 ho2 h8
 go_enter Tryz.func86, Tryz.ntmps86
 go_wp2_with fail
 go_loopw [5] (fun s5 wr => ∃ m : Nat, ∃ hv tv M, m ≤ o ∧ s5 = .int .i64 m ∧ Hid (MapR (doneTo code s m).vs M) ∧ Hid (Sep W (OL L i (rmItems { c with hv := hv, tv := tv, M := M } (doneTo code s m))) wr)) (fun s5 _ => o - (intOf s5).toNat)
 case atStart => exact ⟨0, c.hv, c.tv, c.M, Nat.zero_le _, by go_num, by rw [doneTo_zero]; exact HC.out.mapr, by rw [doneTo_zero]; exact h⟩
 case round =>
  obtain ⟨m, hv, tv, M, hm, rfl, HM, HS⟩ := hrel
  clear m8 h
  have hqm := (doneTo_same code s m (by omega)).1
  have hlm := (doneTo_same code s m (by omega)).2.1
  have hbm := (doneTo_same code s m (by omega)).2.2
  have hnm := (doneTo_more code s m (by omega)).1
  have hom := (doneTo_more code s m (by omega)).2
  have n8 : wr.cell? ⟨c.mb, 8, none⟩ = some (.int .i64 o) := by rw [rm_cell HS.out]; show some (Value.int .i64 (doneTo code s m).out) = _; rw [hom, HO.out]
  by_cases hlt : m < o
  case neg =>
   obtain rfl : m = o := by omega
   obtain ⟨sm, hsm⟩ : ∃ sm, doneTo code s m = sm := ⟨_, rfl⟩
   have hfinal := fun (qv qh : Value) (u : Int) => HC.out.doneA HG.out code (by omega) HM.out hv tv qv qh u
   rw [hsm] at hqm hlm hbm hnm hom HS HM
   have hll : c.ql.length = s.queue.length := by rw [HC.out.ql, List.length_map]
   obtain ⟨hqa, hqi⟩ := rm_rows HS.out
   rw [hqm] at hqi
   obtain ⟨qb, qo, qc, hqv, hqc, hqc9⟩ := slAt_some hqa (by show 0 < c.ql.length; omega)
   obtain ⟨hb, hoo, hcp, hqh, hhc, hhc9⟩ := slAt_some hqi (by omega)
   change c.qv = .slice (some ⟨qb, qo, none⟩) c.ql.length qc at hqv
   change c.qh = .slice (some ⟨hb, hoo, none⟩) s.queue.length hcp at hqh
   change c.ql.length ≤ qc at hqc
   have hxx : ∃ Wc, ∃ su : MgS, su = { sm with num := if code = 0 then s.num + 1 else s.num } ∧ (Wc = if code = 0 then wr.setCell ⟨c.mb, 9, none⟩ (.int .i64 (s.num + 1)) else wr) ∧ Sep W (OL L i (rmItems { c with hv := hv, tv := tv, M := M } su)) Wc := by
    by_cases hcd : code = 0
    ·refine ⟨_, _, rfl, rfl, ?_⟩
     rw [if_pos hcd, if_pos hcd]
     exact rm_store HS.out 9 (.int .i64 (s.num + 1)) { sm with num := s.num + 1 } rfl rfl rfl rfl rfl rfl
    ·refine ⟨_, _, rfl, rfl, ?_⟩
     rw [if_neg hcd, if_neg hcd]
     have e : ({ sm with num := s.num } : MgS) = sm := by rw [← hnm]
     rw [e]
     exact HS.out
   obtain ⟨Wc, su, hsu, hWc, hSc⟩ := hxx
   have hsq : su.queue = s.queue := by rw [hsu]; exact hqm
   have hso : su.out = m := by rw [hsu]; show sm.out = _; rw [hom, HO.out]
   have hS1 := hSc.up (below_drewN (Below.refl Wc.heap.size Wc) 1)
   obtain ⟨A, hcut, q1, rfl, hq1⟩ := cutF_tx qb qo c.ql.length qc m (by omega) hqc hqc9
   obtain ⟨A2, hcut2, q2, rfl, hq2⟩ := cutF_int hb hoo s.queue.length hcp m (by omega) hhc hhc9
   have u6 := rm_cell hS1 6
   change Wc.drew.cell? ⟨c.mb, 6, none⟩ = some c.qv at u6
   rw [hqv] at u6
   have u8 := rm_cell hS1 8
   change Wc.drew.cell? ⟨c.mb, 8, none⟩ = some (Value.int .i64 su.out) at u8
   rw [hso] at u8
   have f6 := rm_fz hS1 6
   change Wc.drew.frozen? ⟨c.mb, 6, none⟩ = false at f6
   have hS2 : Sep W (OL L i (rmItems { c with hv := hv, tv := tv, M := M, qv := .slice (some ⟨qb, q1, none⟩) (c.ql.length - m) (qc - m), ql := c.ql.drop m } su)) (Wc.drew.setCell ⟨c.mb, 6, none⟩ (.slice (some ⟨qb, q1, none⟩) (c.ql.length - m) (qc - m))) := rm_cut6 hS1 m (by show m ≤ c.ql.length; omega) hqv hq1
   obtain ⟨w2, hw2⟩ : ∃ w2, Wc.drew.setCell ⟨c.mb, 6, none⟩ (.slice (some ⟨qb, q1, none⟩) (c.ql.length - m) (qc - m)) = w2 := ⟨_, rfl⟩
   rw [hw2] at hS2
   have hS3 := hS2.up (below_drewN (Below.refl _ _) 1)
   have u7 := rm_cell hS3 7
   change World.cell? w2.drew ⟨c.mb, 7, none⟩ = some c.qh at u7
   rw [hqh] at u7
   have u8b := rm_cell hS3 8
   change World.cell? w2.drew ⟨c.mb, 8, none⟩ = some (Value.int .i64 su.out) at u8b
   rw [hso] at u8b
   have f7 := rm_fz hS3 7
   change World.frozen? w2.drew ⟨c.mb, 7, none⟩ = false at f7
   have hS4 := rm_cut7 hS3 m (by rw [hsq]; omega) (by rw [hsq]; exact hqh) (q1 := q2) hq2
   rw [hsq] at hS4
   replace hS4 : Sep W (OL L i (rmItems { c with hv := hv, tv := tv, M := M, qv := .slice (some ⟨qb, q1, none⟩) (c.ql.length - m) (qc - m), ql := c.ql.drop m, qh := .slice (some ⟨hb, q2, none⟩) (s.queue.length - m) (hcp - m) } { su with queue := s.queue.drop m })) (w2.drew.setCell ⟨c.mb, 7, none⟩ (.slice (some ⟨hb, q2, none⟩) (s.queue.length - m) (hcp - m))) := hS4
   obtain ⟨w3, hw3⟩ : ∃ w3, w2.drew.setCell ⟨c.mb, 7, none⟩ (.slice (some ⟨hb, q2, none⟩) (s.queue.length - m) (hcp - m)) = w3 := ⟨_, rfl⟩
   rw [hw3] at hS4
   have u8c := rm_cell hS4 8
   change World.cell? w3 ⟨c.mb, 8, none⟩ = some (Value.int .i64 su.out) at u8c
   have f8 := rm_fz hS4 8
   change World.frozen? w3 ⟨c.mb, 8, none⟩ = false at f8
   have hS5 := rm_store hS4 8 (.int .i64 0) { su with queue := s.queue.drop m, out := 0 } rfl rfl rfl rfl rfl rfl
   have hdn : ({ su with queue := s.queue.drop m, out := 0 } : MgS) = doneNext s code := by
    rw [HD.out.2, hsu, hsm]
   have hok := hfinal (.slice (some ⟨qb, q1, none⟩) (c.ql.length - m) (qc - m)) (.slice (some ⟨hb, q2, none⟩) (s.queue.length - m) (hcp - m)) (if code = 0 then s.num + 1 else s.num)
   rw [← HD.out.2] at hok
   rw [hdn] at hS5
   have HOK := Lib.hid hok
   have HS5 := Lib.hid hS5
   have HNM := Lib.hid hnm
   have HSM := Lib.hid hsm
   clear hok hS5 hdn hS4 hS3 hS2 hSc hfinal hsu hso hsq hqa hqi hq1 hq2 hqm hlm hbm hnm hom hqv hqh hll hqc hhc hsm HM
   have n9 : wr.cell? ⟨c.mb, 9, none⟩ = some (.int .i64 s.num) := by rw [rm_cell HS.out]; show some (Value.int .i64 sm.num) = _; rw [HNM.out]
   have g9 := rm_fz HS.out 9
   change wr.frozen? ⟨c.mb, 9, none⟩ = false at g9
   by_cases hcd : code = 0
   case' pos =>
    rw [if_pos hcd] at hWc
    have hcb : (code == 0) = true := by rw [beq_iff_eq]; exact hcd
    have hwn : IntKind.i64.wrap (s.num + 1) = s.num + 1 := by
     have := HG.out.nm
     exact IntWalk.i64_in _ (by omega)
    subst hcd
    go_upto_region 14 with fail
    rw [← hWc]
   case' neg =>
    rw [if_neg hcd] at hWc
    have hcb : (code == 0) = false := by rw [beq_eq_false_iff_ne]; exact hcd
    go_upto_region 14 with fail
    rw [← hWc]
   all_goals
    clear hWc
    refine wp_regionH (fun W => W.cell? ⟨c.mb, 6, none⟩ = some (.slice (some ⟨qb, qo, none⟩) c.ql.length qc) ∧ W.cell? ⟨c.mb, 8, none⟩ = some (.int .i64 m)) (n := 13) (by kernel_rfl) (by kernel_rfl) ?_
    refine wpH.tk 0 ?_
    refine wpH.tk 1 ?_
    refine wpH.tk 2 ?_
    refine wpH.tk 3 ?_
    refine wpH.tk 4 ?_ (hy := by intro W hW; have hld0 := hW.1; go_simp; try with_reducible rfl)
    refine wpH.tk 5 ?_
    refine wpH.tk 6 ?_
    refine wpH.tk 7 ?_
    refine wpH.tk 8 ?_ (hy := by intro W hW; have hld0 := hW.2; go_simp; try with_reducible rfl)
    refine wpH.tk 9 ?_ (hy := by intro W hW; have hld0 := hcut W; go_simp; try with_reducible rfl)
    refine wpH.tk 10 ?_
    refine wpH.tk 11 ?_
    refine wpH.alone 12 rfl (by kernel_rfl) (by kernel_rfl) ⟨u6, u8⟩ (fun K hK => ?_)
    go_simp
    try go_simp
    refine hK _ _ ?_
    clear hK K
    refine wpH.done (by kernel_rfl) (by kernel_rfl) ?_
    try rw [hw2]
    clear hw2 u6 u8 f6
    go_upto_region 15 with fail
    refine wp_regionH (fun W => W.cell? ⟨c.mb, 7, none⟩ = some (.slice (some ⟨hb, hoo, none⟩) s.queue.length hcp) ∧ W.cell? ⟨c.mb, 8, none⟩ = some (.int .i64 m)) (n := 13) (by kernel_rfl) (by kernel_rfl) ?_
    refine wpH.tk 0 ?_
    refine wpH.tk 1 ?_
    refine wpH.tk 2 ?_
    refine wpH.tk 3 ?_
    refine wpH.tk 4 ?_ (hy := by intro W hW; have hld0 := hW.1; go_simp; try with_reducible rfl)
    refine wpH.tk 5 ?_
    refine wpH.tk 6 ?_
    refine wpH.tk 7 ?_
    refine wpH.tk 8 ?_ (hy := by intro W hW; have hld0 := hW.2; go_simp; try with_reducible rfl)
    refine wpH.tk 9 ?_ (hy := by intro W hW; have hld0 := hcut2 W; go_simp; try with_reducible rfl)
    refine wpH.tk 10 ?_
    refine wpH.tk 11 ?_
    refine wpH.alone 12 rfl (by kernel_rfl) (by kernel_rfl) ⟨u7, u8b⟩ (fun K hK => ?_)
    go_simp
    try go_simp
    refine hK _ _ ?_
    clear hK K
    refine wpH.done (by kernel_rfl) (by kernel_rfl) ?_
    try rw [hw3]
    clear hw3
    go_wp2
    go_ret
    exact ⟨by rw [HD.out.1]; rfl, { c with hv := hv, tv := tv, M := M, qv := .slice (some ⟨qb, q1, none⟩) (c.ql.length - m) (qc - m), qh := .slice (some ⟨hb, q2, none⟩) (s.queue.length - m) (hcp - m), ql := c.ql.drop m }, rfl, HOK.out, HS5⟩
  case pos =>
   have hmI : (m : Int) < (o : Int) := by omega
   have hmq : m < s.queue.length := by omega
   obtain ⟨q1, q2⟩ := HG.out.qr _ (List.getElem_mem hmq)
   have hgm := HG.out.doneTo code m (by omega)
   have htx := doneTo_tx HG.out code m (by omega) s.queue[m] (by rw [List.drop_eq_getElem_cons hmq]; exact List.mem_cons_self ..)
   have hqb := HG.out.qb _ (List.getElem_mem hmq)
   have hsucc := doneTo_succ code s hmq
   obtain ⟨k, hxk⟩ : ∃ k : Nat, s.queue[m] = (k : Int) + 1 := ⟨(s.queue[m] - 1).toNat, by omega⟩
   have hks : k < s.txs.length := by omega
   have hkc : k < c.cs.length := by rw [HC.out.len]; exact hks
   have hqe : c.ql[m]'(by rw [HC.out.ql, List.length_map]; exact hmq) = (s.txs[k].tm, c.cs[k].lv) := by
    have e : c.ql[m]'(by rw [HC.out.ql, List.length_map]; exact hmq) = (s.queue.map fun h => ((txAt s.txs h).tm, (rxAt c.cs h).lv))[m]'(by rw [List.length_map]; exact hmq) := by simp only [HC.out.ql]
    rw [e, List.getElem_map, hxk, txAt_nat hks, rxAt_at hkc]
   rw [hxk] at htx hqb hsucc
   rw [txAt_nat hks] at htx hqb
   obtain ⟨sm, hsm⟩ : ∃ sm, doneTo code s m = sm := ⟨_, rfl⟩
   rw [hsm] at htx hsucc hgm hqm hlm hbm hnm hom HS HM
   have hksm : k < sm.txs.length := by omega
   rw [txAt_nat hksm] at htx
   have hcl : ({ c with hv := hv, tv := tv, M := M } : RmC).cs.length = sm.txs.length := by rw [hlm]; exact HC.out.len
   obtain ⟨hqa, hqi⟩ := rm_rows HS.out
   rw [hqm] at hqi
   obtain ⟨qp, qc, hqv⟩ := qAt_shape hqa
   obtain ⟨p, cp, e, _, _, _, a4⟩ := id hqa
   obtain ⟨qb, qo, hp, _, l0, l1⟩ := a4 m (by show m < c.ql.length; rw [HC.out.ql, List.length_map]; exact hmq)
   change wr.cell? ⟨qb, qo + m * 2, none⟩ = some (.int .i64 (c.ql[m]'(by rw [HC.out.ql, List.length_map]; exact hmq)).1) at l0
   change wr.cell? ⟨qb, qo + m * 2 + 1, none⟩ = some (c.ql[m]'(by rw [HC.out.ql, List.length_map]; exact hmq)).2 at l1
   rw [hqe] at l0 l1
   subst hp
   obtain ⟨p2, cp2, e2, _, _, _, b4⟩ := id hqi
   obtain ⟨hb, hoo, hp2, _, hcx, _⟩ := b4 m hmq
   subst hp2
   rw [hxk, Nat.mul_one] at hcx
   have n6 : wr.cell? ⟨c.mb, 6, none⟩ = some (.slice (some ⟨qb, qo, none⟩) c.ql.length cp) := by rw [rm_cell HS.out]; show some c.qv = _; rw [e]
   have n7 : wr.cell? ⟨c.mb, 7, none⟩ = some (.slice (some ⟨hb, hoo, none⟩) s.queue.length cp2) := by rw [rm_cell HS.out]; show some c.qh = _; rw [e2]
   have n0 : wr.cell? ⟨c.mb, 0, none⟩ = some (.pointer (some ⟨c.m, 0, none⟩)) := by rw [rm_cell HS.out]; rfl
   have hbuf := (rx_buf HS.out hcl hksm hkc).2
   change PutsAt _ wr c.cs[k].lv c.cs[k].rb at hbuf
   obtain ⟨lp, lc, hlv⟩ := putsAt_shape hbuf
   rw [hlv] at l1
   have hqlI : (m : Int) < (c.ql.length : Int) := by rw [HC.out.ql, List.length_map]; omega
   have hqqI : (m : Int) < (s.queue.length : Int) := by omega
   obtain ⟨tm, htm⟩ : ∃ tm, s.txs[k].tm = tm := ⟨_, rfl⟩
   rw [htm] at l0
   have HSB : Hid (Sep W (OL (L ++ [BoxA wr.heap.size #[.int .i64 tm, .slice lp c.cs[k].rb.length lc] 70]) i (rmItems { c with hv := hv, tv := tv, M := M } sm)) (wr.alloc (.cells #[.int .i64 tm, .slice lp c.cs[k].rb.length lc] 70 (0, 0)))) := Lib.hid (HS.out.boxed HI.out _ _)
   have hkn : (sm.tmb.map (·.1)).Nodup := hgm.kn
   have hk6 : sm.tmb.length ≤ 16 := hgm.k6
   have hkN : k < 1000000 := by have := HG.out.hn; omega
   have HLV := Lib.hid hlv
   have HHQ := Lib.hid (And.intro hqm (And.intro hlm (And.intro hbm (And.intro hnm hom))))
   have HGM := Lib.hid hgm
   have HTX := Lib.hid htx
   have HQB := Lib.hid hqb
   have HTM := Lib.hid htm
   have HSU := Lib.hid hsucc
   have HSM := Lib.hid hsm
   have HCL := Lib.hid hcl
   have HKN := Lib.hid hkn
   have HK6 := Lib.hid hk6
   have HKS := Lib.hid hks
   have HXK := Lib.hid hxk
   have HQH := Lib.hid e2
   have hba := below_alloc wr (.cells #[.int .i64 tm, .slice lp c.cs[k].rb.length lc] 70 (0, 0))
   have o0 := cell_up hba n0
   have o7 := cell_up hba n7
   have ocx := cell_up hba hcx
   have b0 := HSB.out.box_at HI.out 0
   have b1 := HSB.out.box_at HI.out 1
   change _ = some (Value.int .i64 tm) at b0
   change _ = some (Value.slice lp c.cs[k].rb.length lc) at b1
   have HQX : Hid (∀ h : m < sm.queue.length, sm.queue[m] = (k : Int) + 1) := Lib.hid fun h => by
    have e : sm.queue[m] = s.queue[m] := by simp only [hqm]
    rw [e]; exact hxk
   clear hba
   clear hlv hqm hlm hbm hnm hom hgm htx hqb htm hsucc hsm hcl hkn hk6 hqe hqa hqi a4 b4 e e2 hbuf q1 q2 hqv hxk
   by_cases hcd : code = 0
   case neg =>
    have hcb : (code != 0) = true := by rw [bne_iff_ne]; exact hcd
    have hdo := rdo_fail (code := code) hksm rfl hcd
    have HE := Lib.hid (rend_core HSB HCL.out hksm hkN HKN.out HK6.out 4 0 code)
    have HDO := Lib.hid hdo
    clear hdo hcd
    go_wp2_with fail
    refine (HE.out).mono ?_
    rintro e w5 ⟨rfl, hv2, tv2, HS5⟩
    have hs6 := HS5.out.unbox HI.out
    rw [List.append_nil, ← HDO.out, ← HSU.out] at hs6
    have HS6 := Lib.hid hs6
    have HM6 : Hid (MapR (doneTo code s (m + 1)).vs M) := by
     show MapR _ _
     rw [HSU.out, HDO.out]
     exact HM.out
    clear hs6 HS5 HE
    go_wp2_with fail
    go_roundw
    case rel => exact ⟨m + 1, hv2, tv2, M, by omega, by go_num, HM6, HS6⟩
    case measure => simp [intOf]; omega
   case pos =>
    subst hcd
    have hdo := rdo_ok (s := sm) hksm (x := (k : Int) + 1) rfl
    have ht1 : sm.txs[k].tm = tm := by rw [HTX.out]; exact HTM.out
    have hbr := HC.out.bufr k HKS.out hkc
    have htg := HG.out.tx _ (List.getElem_mem HKS.out)
    rw [ht1] at hdo
    have hwt : waitTx sm ((k : Int) + 1) = ⟨tm, c.cs[k].rb⟩ := by
     unfold waitTx
     rw [txOf_at hksm, ht1, HTX.out, hbr.puts]
    rw [hwt] at hdo
    have hML : M.length ≤ 1000000 := by
     rw [HM.out.count HGM.out.ge]
     have := HGM.out.nv
     change nVers sm.vs ≤ _ at this
     omega
    have hRL : c.cs[k].rb.length ≤ 1000000 := by
     have := hbr.len; have := htg.bl; omega
    have hi64 : I64 tm := by
     have := HQB.out; have := HG.out.lt; have := HTM.out
     unfold I64; omega
    have hap := refMapApply_sep (Lib.hid (HSB.out.up (below_drewN (Below.refl _ _) 1))) ((L ++ [BoxA wr.heap.size #[.int .i64 tm, .slice lp c.cs[k].rb.length lc] 70]).length + 1) (OL_get.trans (ritems_head 1 (by omega))) (tv := .agg #[.int .i64 tm, .slice lp c.cs[k].rb.length lc]) ⟨tm, c.cs[k].rb⟩ (fun G hG => by
      obtain ⟨F, hFG, hF⟩ := hG ((L ++ [BoxA wr.heap.size #[.int .i64 tm, .slice lp c.cs[k].rb.length lc] 70]).length + (4 + (3 * k + 2))) _ (by omega) (OL_get.trans (ritems_tx HCL.out hksm 2 (by omega)))
      have h3 : PutsAt G (wr.alloc (.cells #[.int .i64 tm, .slice lp c.cs[k].rb.length lc] 70 (0, 0))).drew c.cs[k].lv c.cs[k].rb := hF.2.2.mono fun q hq => hFG q hq.1
      rw [HLV.out] at h3
      exact ⟨_, rfl, hi64, h3⟩) hML hRL
    have hmr := HM.out.next (blocks := sm.blocks) (last := sm.last0) ⟨tm, c.cs[k].rb⟩
    rw [OL_set] at hap
    change Calls _ _ _ _ fun e w' => e = _ ∧ Hid (Sep W (OL _ i ((rmItems { c with hv := hv, tv := tv, M := M } sm).set 1 (RMapA (pt c.m) sm.blocks (applyLast sm.blocks sm.last0 ⟨tm, c.cs[k].rb⟩) (if applyCode sm.blocks sm.last0 ⟨tm, c.cs[k].rb⟩ = 0 then mergeV tm c.cs[k].rb M else M)))) w') at hap
    change MapR _ (if applyCode sm.blocks sm.last0 ⟨tm, c.cs[k].rb⟩ = 0 then mergeV tm c.cs[k].rb M else M) at hmr
    obtain ⟨vs2, hvs2⟩ : ∃ v, applyNext sm.blocks sm.last0 sm.vs ⟨tm, c.cs[k].rb⟩ = v := ⟨_, rfl⟩
    obtain ⟨la2, hla2⟩ : ∃ v, applyLast sm.blocks sm.last0 ⟨tm, c.cs[k].rb⟩ = v := ⟨_, rfl⟩
    obtain ⟨M2, hM2⟩ : ∃ v, (if applyCode sm.blocks sm.last0 ⟨tm, c.cs[k].rb⟩ = 0 then mergeV tm c.cs[k].rb M else M) = v := ⟨_, rfl⟩
    have hit := ritems_map (c := { c with hv := hv, tv := tv, M := M }) (s := sm) la2 M2 vs2
    simp only [hvs2, hla2] at hdo
    simp only [hla2, hM2] at hap
    change Calls _ _ _ _ fun e w' => e = _ ∧ Hid (Sep W (OL _ i (rmItems { c with hv := hv, tv := tv, M := M2 } { sm with last0 := la2, vs := vs2 })) w') at hap
    rw [hvs2, hM2] at hmr
    have HAP := Lib.hid hap
    have HDO := Lib.hid hdo
    have HMR := Lib.hid hmr
    clear hap hdo hmr hit hvs2 hla2 hM2 hi64 hRL hML hwt htg hbr ht1
    go_upto_region 9 with fail
    refine wp_regionG (fun W => W.cell? ⟨c.mb, 0, none⟩ = some (.pointer (some ⟨c.m, 0, none⟩)) ∧ W.cell? ⟨wr.heap.size, 0, none⟩ = some (.int .i64 tm) ∧ W.cell? ⟨wr.heap.size, 1, none⟩ = some (.slice lp c.cs[k].rb.length lc)) (n := 6) (by kernel_rfl) (by kernel_rfl) ?_
    refine wpG.tk 0 ?_
    refine wpG.tk 1 ?_
    refine wpG.tk 2 ?_
    refine wpG.tk 3 ?_ (hy := by intro W hW; have hld0 := hW.1; go_simp; try with_reducible rfl)
    refine wpG.tk 4 ?_ (hy := by intro W hW; have hld0 := hW.2.1; have hld1 := hW.2.2; go_simp; try with_reducible rfl)
    refine wpG.alone 5 rfl (by kernel_rfl) (by kernel_rfl) ⟨o0, b0, b1⟩ (fun K hK => ?_)
    go_simp
    go_at_call 91
    refine (HAP.out).mono ?_
    rintro e w5 ⟨rfl, HS5⟩
    have q0 := rm_cell HS5.out 0
    change _ = some (Value.pointer (some ⟨c.m, 0, none⟩)) at q0
    have q1 := HS5.out.box_at HI.out 0
    have q2 := HS5.out.box_at HI.out 1
    change _ = some (Value.int .i64 tm) at q1
    change _ = some (Value.slice lp c.cs[k].rb.length lc) at q2
    clear HAP
    try go_simp
    refine hK _ _ ?_
    clear hK K
    refine wpG.done (by kernel_rfl) ⟨q0, q1, q2⟩ ?_
    have f11 := rm_fz HS5.out 11
    have q11 := rm_cell HS5.out 11
    have hS6 := rm_store HS5.out 11 (.int .i64 tm) { sm with last0 := la2, vs := vs2, last := tm } rfl rfl rfl rfl rfl rfl
    have HS6 := Lib.hid hS6
    clear hS6 q0 q2
    go_upto_region 11 with fail
    obtain ⟨w6, hw6⟩ : ∃ w6, w5.setCell ⟨c.mb, 11, none⟩ (.int .i64 tm) = w6 := ⟨_, rfl⟩
    rw [hw6] at HS6 ⊢
    clear hw6 f11 q11 q1 n0 n6 n7 n8 hcx l0 l1 o0 o7 ocx b0 b1
    have hqs : m < ({ sm with last0 := la2, vs := vs2, last := tm } : MgS).queue.length := by show m < sm.queue.length; rw [HHQ.out.1]; exact hmq
    have p7 := rm_cell HS6.out 7
    change _ = some c.qh at p7
    rw [HQH.out] at p7
    have pcx := rm_qh_at HS6.out HQH.out hqs
    change _ = some (Value.int .i64 sm.queue[m]) at pcx
    rw [HQX.out] at pcx
    have p1 := HS6.out.box_at HI.out 0
    change _ = some (Value.int .i64 tm) at p1
    have HE := Lib.hid (rend_core (Lib.hid (HS6.out.up (below_drewN (Below.refl _ _) 1))) HCL.out hksm hkN HKN.out HK6.out 3 tm 0)
    refine wp_regionG (fun W => W.cell? ⟨c.mb, 7, none⟩ = some (.slice (some ⟨hb, hoo, none⟩) s.queue.length cp2) ∧ W.cell? ⟨hb, hoo + m, none⟩ = some (.int .i64 ((k : Int) + 1)) ∧ W.cell? ⟨wr.heap.size, 0, none⟩ = some (.int .i64 tm)) (n := 11) (by kernel_rfl) (by kernel_rfl) ?_
    refine wpG.tk 0 ?_
    refine wpG.tk 1 ?_
    refine wpG.tk 2 ?_
    refine wpG.tk 3 ?_
    refine wpG.tk 4 ?_ (hy := by intro W hW; have hld0 := hW.1; go_simp; try with_reducible rfl)
    refine wpG.tk 5 ?_
    refine wpG.tk 6 ?_
    refine wpG.tk 7 ?_ (hy := by intro W hW; have hld0 := hW.2.1; go_simp; try with_reducible rfl)
    refine wpG.tk 8 ?_
    refine wpG.tk 9 ?_ (hy := by intro W hW; have hld0 := hW.2.2; go_simp; try with_reducible rfl)
    refine wpG.alone 10 rfl (by kernel_rfl) (by kernel_rfl) ⟨p7, pcx, p1⟩ (fun K hK => ?_)
    go_simp
    go_at_call 123
    refine (HE.out).mono ?_
    rintro e w7 ⟨rfl, hv2, tv2, HS7⟩
    have r7 := rm_cell HS7.out 7
    change _ = some c.qh at r7
    rw [HQH.out] at r7
    have rcx := rm_qh_at HS7.out HQH.out hqs
    change _ = some (Value.int .i64 sm.queue[m]) at rcx
    rw [HQX.out] at rcx
    have rb1 := HS7.out.box_at HI.out 0
    change _ = some (Value.int .i64 tm) at rb1
    have hs8 := HS7.out.unbox HI.out
    rw [List.append_nil] at hs8
    have hd8 : rendNext { sm with last0 := la2, vs := vs2, last := tm } k (rendTx sm.txs[k] 3 tm 0) = doneTo 0 s (m + 1) := by rw [HSU.out, HDO.out]
    have hs9 : Sep W (OL L i (rmItems { c with hv := hv2, tv := tv2, M := M2 } (rendNext { sm with last0 := la2, vs := vs2, last := tm } k (rendTx sm.txs[k] 3 tm 0)))) w7 := hs8
    rw [hd8] at hs9
    have HS9 := Lib.hid hs9
    have HM9 : Hid (MapR (doneTo 0 s (m + 1)).vs M2) := by
     show MapR _ _
     rw [← hd8]
     exact HMR.out
    clear hs8 hs9 hd8 HS7 HE HS5 HS6
    try go_simp
    refine hK _ _ ?_
    clear hK K
    refine wpG.done (by kernel_rfl) ⟨r7, rcx, rb1⟩ ?_
    go_wp2_with fail
    go_roundw
    case rel => exact ⟨m + 1, hv2, tv2, M2, by omega, by go_num, HM9, HS9⟩
    case measure => simp [intOf]; omega
end
end Go.Proofs
namespace Go.Proofs
open Go.RowKit Sc
def cutH (h : Int) (v : RVer) (L : List RVer) : Bool := match L.head? with
 | some w => decide (w.lba = v.lba ∧ w.time ≤ h)
 | none => false
def pruneR (h : Int) : List RVer → List RVer
 | [] => []
 | v :: L => if cutH h v L = true then pruneR h L else v :: pruneR h L
theorem pruneR_sub (h : Int) : ∀ L : List RVer, (pruneR h L).Sublist L
 | [] => List.Sublist.refl _
 | v :: L => by
  unfold pruneR
  split
  ·exact (pruneR_sub h L).cons _
  ·exact (pruneR_sub h L).cons_cons _
theorem atN_pos {l : List Put} {h : Int} (hp : 0 < atN l h) : ∃ p ∈ l, p.lba ≤ h := by
 induction l with
 | nil => simp [atN] at hp
 | cons p t ih =>
  unfold atN at hp
  split at hp
  ·rename_i h1
   obtain ⟨q, hq, hl⟩ := ih h1
   exact ⟨q, List.mem_cons_of_mem _ hq, hl⟩
  ·split at hp
   ·exact ⟨p, List.mem_cons_self .., by assumption⟩
   ·omega
theorem pruneOne_cons {h : Int} {p : Put} {l : List Put} : pruneOne h (p :: l) = if 0 < atN l h then pruneOne h l else p :: pruneOne h l := by
 unfold pruneOne
 by_cases h1 : 0 < atN l h
 ·rw [if_pos h1]
  have e : atN (p :: l) h = atN l h + 1 := by rw [atN, if_pos h1]
  rw [e, show atN l h + 1 - 1 = (atN l h - 1) + 1 by omega, List.drop_succ_cons]
 ·rw [if_neg h1]
  have e : atN (p :: l) h - 1 = 0 := by
   rw [atN, if_neg h1]
   split <;> rfl
  have e2 : atN l h - 1 = 0 := by omega
  rw [e, e2, List.drop_zero, List.drop_zero]
theorem grp_cons_eq {v : RVer} {L : List RVer} {k : Int} (h : v.lba = k) : grp (v :: L) k = ⟨v.time, v.data⟩ :: grp L k := by
 unfold grp
 rw [List.filter_cons_of_pos (by simpa using h), List.map_cons]
theorem grp_cons_ne {v : RVer} {L : List RVer} {k : Int} (h : v.lba ≠ k) : grp (v :: L) k = grp L k := by
 unfold grp
 rw [List.filter_cons_of_neg (by simpa using h)]
theorem cut_at {h : Int} {v : RVer} {L : List RVer} (ha : AscV (v :: L)) (hp : (grp L v.lba).Pairwise fun p q => p.lba < q.lba) : cutH h v L = true ↔ 0 < atN (grp L v.lba) h := by
 cases L with
 | nil => simp [cutH, grp, atN]
 | cons u r =>
  unfold cutH
  simp only [List.head?_cons, decide_eq_true_eq]
  by_cases e : u.lba = v.lba
  ·rw [grp_cons_eq e] at hp ⊢
   obtain ⟨h1, _⟩ := List.pairwise_cons.1 hp
   constructor
   ·rintro ⟨_, hu⟩
    rw [atN]
    by_cases h3 : 0 < atN (grp r v.lba) h
    ·rw [if_pos h3]; omega
    ·rw [if_neg h3, if_pos hu]; omega
   ·intro hh
    obtain ⟨p, hm, hl⟩ := atN_pos hh
    refine ⟨e, ?_⟩
    rcases List.mem_cons.1 hm with rfl | hm
    ·exact hl
    ·have := h1 p hm
     simp only at this
     omega
  ·have hgt : v.lba < u.lba := by
    have := (List.pairwise_cons.1 ha).1 u (List.mem_cons_self ..)
    omega
   have hn : grp (u :: r) v.lba = [] := grp_none fun x hx => by
    rcases List.mem_cons.1 hx with rfl | hx
    ·exact e
    ·have := (List.pairwise_cons.1 (List.pairwise_cons.1 ha).2).1 x hx
     omega
   rw [hn]
   simp [e, atN]
theorem grp_prune (h : Int) (k : Int) : ∀ L : List RVer, AscV L → (∀ k, (grp L k).Pairwise fun p q => p.lba < q.lba) → grp (pruneR h L) k = pruneOne h (grp L k)
 | [], _, _ => by simp [pruneR, grp, pruneOne]
 | v :: L, ha, hp => by
  have ha2 : AscV L := (List.pairwise_cons.1 ha).2
  have hp2 : ∀ k, (grp L k).Pairwise fun p q => p.lba < q.lba := fun k => by
   have := hp k
   by_cases e : v.lba = k
   ·rw [grp_cons_eq e] at this; exact (List.pairwise_cons.1 this).2
   ·rw [grp_cons_ne e] at this; exact this
  have ih := grp_prune h k L ha2 hp2
  have hc := cut_at (h := h) ha (hp2 v.lba)
  unfold pruneR
  by_cases e : v.lba = k
  ·rw [grp_cons_eq e, pruneOne_cons]
   rw [e] at hc
   by_cases hh : cutH h v L = true
   ·rw [if_pos hh, if_pos (hc.1 hh), ih]
   ·rw [if_neg hh, if_neg (fun x => hh (hc.2 x)), grp_cons_eq e, ih]
  ·rw [grp_cons_ne e]
   split
   ·exact ih
   ·rw [grp_cons_ne e, ih]
theorem MapR.prune {blocks last : Int} {vs : Vers} {M : List RVer} (h : MapR vs M) (g : GoodE blocks last vs) (t : Int) : MapR (pruneVs t vs) (pruneR t M) := by
 refine ⟨h.asc.sublist (pruneR_sub t M), fun k => ?_⟩
 rw [alook_pruneM, grp_prune t k M h.asc fun k => ?_, ← h.look]
 ·cases alook vs k with
  | none => simp [pruneOne]
  | some l => rfl
 ·rw [← h.look]
  cases ha : alook vs k with
  | none => exact List.Pairwise.nil
  | some l => exact (g.ts k l ha).2.1
theorem MapR.pruned {blocks last : Int} {vs : Vers} {M : List RVer} (h : MapR vs M) (g : GoodE blocks last vs) (t : Int) : M.length - (pruneR t M).length = nVers vs - nVers (pruneVs t vs) := by
 rw [h.count g, (h.prune g t).count (g.prune t)]
theorem prune_cut {h : Int} {M : List RVer} {i : Nat} (hi : i + 1 < M.length) (h1 : M[i + 1].lba = M[i].lba) (h2 : M[i + 1].time ≤ h) : pruneR h (M.drop i) = pruneR h (M.drop (i + 1)) := by
 rw [List.drop_eq_getElem_cons (by omega : i < M.length), List.drop_eq_getElem_cons hi]
 conv => lhs; unfold pruneR
 rw [if_pos]
 unfold cutH
 simp only [List.head?_cons, decide_eq_true_eq]
 exact ⟨h1, h2⟩
theorem prune_keep {h : Int} {M : List RVer} {i : Nat} (hi : i < M.length) (hn : ∀ h2 : i + 1 < M.length, ¬ (M[i + 1].lba = M[i].lba ∧ M[i + 1].time ≤ h)) : pruneR h (M.drop i) = M[i] :: pruneR h (M.drop (i + 1)) := by
 rw [List.drop_eq_getElem_cons hi]
 conv => lhs; unfold pruneR
 rw [if_neg]
 unfold cutH
 by_cases h2 : i + 1 < M.length
 ·rw [List.drop_eq_getElem_cons h2]
  simp only [List.head?_cons, decide_eq_true_eq]
  exact hn h2
 ·rw [List.drop_eq_nil_of_le (by omega)]
  simp
end Go.Proofs
namespace Go.Proofs
open Go.RowKit Sc
theorem rmap_laid {F D : Nat → Prop} {b : Nat} {blocks last : Int} {lv nv : Value} {M : List RVer} {w wr : World} (hF : F b) (hd : Dom F w) (hh : w.heap[b]? = some (.cells #[.int .i64 blocks, lv, .int .i64 last] 147 (0, 0))) (hD : ∀ q, D q → F q ∧ q ≠ b)
  (hwr : Below w.heap.size w wr) (hn : NlIs w.heap.size wr D nv M) :
  Chg F w (wr.setCell ⟨b, 1, none⟩ nv) ∧ RMapIs (fun k => F k ∨ New w (wr.setCell ⟨b, 1, none⟩ nv) k) (wr.setCell ⟨b, 1, none⟩ nv) (.pointer (some ⟨b, 0, none⟩)) blocks last M := by
 have hbl := hd b hF
 have hz1 := hwr.size
 have hz : (wr.setCell ⟨b, 1, none⟩ nv).heap.size = wr.heap.size := by simp [World.setCell]
 have hhr : wr.heap[b]? = _ := (hwr.block b hbl).trans hh
 have hs : Same (fun q => q ≠ b) wr (wr.setCell ⟨b, 1, none⟩ nv) := fun q hq => Below.heap_setCell _ _ _ q hq
 refine ⟨(Chg.of_below hwr fun k h1 h2 => by omega).trans (chg_set wr b 1 _ hF), ?_⟩
 obtain ⟨D2, h1, h2, h3⟩ := hn
 have hlt := h1.own.choose_spec.lt
 obtain ⟨_, _, _, _, _, h5⟩ := id h1
 refine ⟨b, nv, D2, rfl, .inl hF, ?_, h1.same verR_stable hs (by rw [hz]; exact Nat.le_refl _) (fun g hg => by have := h2 g hg; omega) (fun q hq e => ?_), fun g hg => ⟨.inr ⟨by have := h2 g hg; omega, by rw [hz]; exact (hlt g hg).2⟩, by have := h2 g hg; omega⟩, fun q hq => ?_⟩
 ·rw [heap_set_same hhr _]; rfl
 ·rcases h3 q hq with h | h
  ·exact (hD q h).2 e
  ·omega
 ·rcases h3 q hq with h | h
  ·exact ⟨.inl (hD q h).1, (hD q h).2⟩
  ·exact ⟨.inr ⟨by omega, by rw [hz]; exact (h5 q hq).2.1⟩, by omega⟩
set_option maxRecDepth 100000 in
set_option maxHeartbeats 8000000 in
theorem refMapPrune_any (F : Nat → Prop) (v : Value) (blocks last : Int) (L : List RVer) (h : Int) (w : World) (hm : RMapIs F w v blocks last L) (hd : Dom F w) (hL : L.length ≤ 1000000) :
  Calls Tryz.prog 127 #[v, .int .i64 h] w fun e w' => e = .returned (.int .i64 ((L.length - (pruneR h L).length : Nat) : Int)) ∧ Chg F w w' ∧ RMapIs (fun k => F k ∨ New w w' k) w' v blocks last (pruneR h L) := by
 have HDM := Lib.hid hd
 obtain ⟨b, lv, D, rfl, hFb, hh, hO, hg, hD⟩ := hm
 obtain ⟨p, c, rfl, hlc, hcells⟩ := ver_cells hO
 have HC := Lib.hid hcells
 have HDO := Lib.hid hD
 have HHH := Lib.hid hh
 have HFB := Lib.hid hFb
 have hDD : ∀ q, D q → q < w.heap.size := fun q hq => HDM.out q (HDO.out q hq).1
 have HDD := Lib.hid hDD
 have c1 : w.cell? ⟨b, 1, none⟩ = some (.slice p L.length c) := by rw [cell_row hh]; rfl
 clear hDD hh hO hg hcells hD hd hFb
 go_enter Tryz.func127, Tryz.ntmps127
 go_wp2_with fail
 go_loopw [5, 6, 7] (fun s5 s6 s7 wr => ∃ i cc : Nat, ∃ nl op oc, i ≤ L.length ∧ cc + nl.length = i ∧ s7 = .int .i64 (i : Int) ∧ s6 = .int .i64 (cc : Int) ∧ s5 = .slice op nl.length oc ∧ Hid (nl ++ pruneR h (L.drop i) = pruneR h L) ∧ Hid (NlIs w.heap.size wr D (.slice op nl.length oc) nl) ∧ Hid (Below w.heap.size w wr)) (fun _ _ s7 _ => L.length - (intOf s7).toNat)
 case atStart => exact ⟨0, 0, [], _, _, Nat.zero_le _, rfl, by go_num, by go_num, rfl, rfl, NlIs.nil, Below.refl _ _⟩
 case round =>
  obtain ⟨i, cc, nl, op, oc, hi, hcn, rfl, rfl, rfl, HM2, HN, HB⟩ := hrel
  have y1 := cell_up HB.out c1
  have hnl : nl.length ≤ 1000000 := by omega
  by_cases hil : i < L.length
  case neg =>
   obtain rfl : i = L.length := by omega
   have hM := HM2.out
   rw [List.drop_length] at hM
   have hM2 : nl = pruneR h L := by rw [← hM]; simp [pruneR]
   have hcc : (cc : Int) = ((L.length - (pruneR h L).length : Nat) : Int) := by rw [← hM2]; omega
   have HF := Lib.hid (rmap_laid HFB.out HDM.out HHH.out HDO.out HB.out HN.out)
   have HHM := Lib.hid (And.intro hM2 hcc)
   have hhr : wr.heap[b]? = some (.cells #[.int .i64 blocks, .slice p L.length c, .int .i64 last] 147 (0, 0)) := (HB.out.block b (HDM.out b HFB.out)).trans HHH.out
   have f1 := fz_row hhr 1
   clear hM hM2 hcc
   go_wp2
   go_ret
   obtain ⟨q1, q2⟩ := HHM.out
   refine ⟨by rw [← q2]; rfl, HF.out.1, ?_⟩
   rw [← q1]
   exact HF.out.2
  case pos =>
   have hil' : (i : Int) < (L.length : Int) := by omega
   have hw1 : IntKind.i64.wrap ((i : Int) + 1) = (i : Int) + 1 := IntWalk.i64_in _ (by omega)
   obtain ⟨g1, dv1, rfl, k0, k1, k2, kk1, kk2, kk3⟩ := HC.out i hil
   have v0 := cell_up HB.out k0
   have v1 := cell_up HB.out k1
   have HBR := Lib.hid (fun q => below_drewN HB.out q)
   have HNR := Lib.hid (fun q => NlIs.up HN.out (below_drewN (Below.refl wr.heap.size wr) q))
   obtain ⟨dp, dc, rfl⟩ : ∃ dp dc, dv1 = .slice dp L[i].data.length dc := by obtain ⟨dp, dc, e, _⟩ := kk3; exact ⟨dp, dc, e⟩
   have KK3 := Lib.hid kk3
   have HC1 := HC
   clear kk3
   by_cases hcut : ∃ hn : i + 1 < L.length, L[i + 1].lba = L[i].lba ∧ L[i + 1].time ≤ h
   case pos =>
    obtain ⟨hn, hb2, ht⟩ := hcut
    have hg1 : decide ((i : Int) + 1 < (L.length : Int)) = true := decide_eq_true (by omega)
    have hn' : (i : Int) + 1 < (L.length : Int) := by omega
    obtain ⟨g2, dv2, e2, j0, j1, j2, _, _, _⟩ := HC.out (i + 1) hn
    cases e2
    have u0 := cell_up HB.out j0
    have u1 := cell_up HB.out j1
    have hg2 : (L[i + 1].lba == L[i].lba) = true := by rw [beq_iff_eq]; exact hb2
    have hg3 : decide (L[i + 1].time ≤ h) = true := decide_eq_true ht
    have hst := prune_cut (h := h) hn hb2 ht
    have HST := Lib.hid hst
    clear hst ht hb2
    go_wp2_with fail
    go_quiet (fail)
    go_wp2
    go_roundw
    case rel => exact ⟨i + 1, cc + 1, nl, _, _, by omega, by omega, by go_num, by go_num, rfl, by rw [← HST.out]; exact HM2.out, HNR.out _, HBR.out _⟩
    case measure => simp [intOf]; omega
   case neg =>
   have hst := prune_keep (h := h) hil fun h2 hh => hcut ⟨h2, hh⟩
   have HST := Lib.hid hst
   have HCUT := Lib.hid hcut
   clear hst hcut
   by_cases hn : i + 1 < L.length
   case' neg =>
    have hg1 : decide ((i : Int) + 1 < (L.length : Int)) = false := decide_eq_false (by omega)
   case' pos =>
    have hg1 : decide ((i : Int) + 1 < (L.length : Int)) = true := decide_eq_true (by omega)
    have hn' : (i : Int) + 1 < (L.length : Int) := by omega
    obtain ⟨g2, dv2, e2, j0, j1, j2, _, _, _⟩ := HC.out (i + 1) hn
    cases e2
    have u0 := cell_up HB.out j0
    have u1 := cell_up HB.out j1
    by_cases hb2 : L[i + 1].lba = L[i].lba
    case' neg =>
     have hg2 : (L[i + 1].lba == L[i].lba) = false := by rw [beq_eq_false_iff_ne]; exact hb2
    case' pos =>
     have hg2 : (L[i + 1].lba == L[i].lba) = true := by rw [beq_iff_eq]; exact hb2
     have hg3 : decide (L[i + 1].time ≤ h) = false := decide_eq_false fun ht => HCUT.out ⟨hn, hb2, ht⟩
     clear hb2
   all_goals
    go_wp2_with fail
    go_quiet (fail)
    have hbq := HBR.out nq
    have hnq := HNR.out nq
    have HBQ := Lib.hid hbq
    have HNQ := Lib.hid hnq
    clear hbq hnq
    clear HBR HNR HB HN
    generalize wr.drewN nq = wq at *
    have v0 := cell_up HBQ.out k0
    have v1 := cell_up HBQ.out k1
    have v2 := cell_up HBQ.out k2
    have y1 := cell_up HBQ.out c1
    generalize hx : L[i] = x at *
    have hba := below_alloc wq (.cells #[.int .i64 x.lba, .int .i64 x.time, .slice dp x.data.length dc] 161)
    have hA4 := Below.up HBQ.out hba
    have hby4 := BytesAt.up KK3.out hA4
    have hvo : ∀ g, (Value.slice op nl.length oc).ownBlock = some g → w.heap.size ≤ g := fun g hg => by
     obtain ⟨_, _, h2, _⟩ := HNQ.out
     exact h2 g hg
    obtain ⟨gg, cap, w6, hr6, hN6, hB6⟩ := nl_push (HNQ.out.up hba) (B := w.heap.size) hA4.size (cs := [.int .i64 x.lba, .int .i64 x.time, .slice dp x.data.length dc]) (x := x) (D3 := D) rfl ⟨_, rfl, kk1, kk2, hby4⟩ (fun q hq => ⟨by have := HDD.out q hq; have := hA4.size; omega, fun e => by have := hvo q e; have := HDD.out q hq; omega, .inl hq⟩) ⟨wq.heap.size, 0, none⟩ 1 (World.news_of_block (cs := #[.int .i64 x.lba, .int .i64 x.time, .slice dp x.data.length dc]) (heap_alloc_new wq _)) (by simp [Value.oneCell']) (by omega)
    have hA6 := Below.trans hA4 hB6.out
    have HA6 := Lib.hid hA6
    have hlen : (nl ++ [x]).length = nl.length + 1 := by simp
    have hm3 : (nl ++ [x]) ++ pruneR h (L.drop (i + 1)) = pruneR h L := by
     have h := HM2.out
     rw [HST.out] at h
     rw [List.append_assoc]
     exact h
    have HM3 := Lib.hid hm3
    clear hm3
    clear hba hA4 hby4 hvo hA6 hB6 kk1 kk2 k0 k1 k2
    go_wp2_with (at_builtin; refine wpList_append_run rfl (.tmp 60) (.tmp 68) 145 rfl rfl rfl hr6 ?_)
    go_roundw
    case rel => exact ⟨i + 1, cc, nl ++ [x], _, _, by omega, by omega, by go_num, by go_num, by rw [hlen], HM3, by rw [hlen]; exact hN6, HA6⟩
    case measure => simp [intOf]; omega
end Go.Proofs
namespace Go.Proofs
open Go.RowKit Sc
section
variable {W w : World} {L : List Asn} {i : Nat} {c : RmC} {s : MgS}
set_option maxRecDepth 100000 in
set_option maxHeartbeats 2000000 in
theorem rprune_core (h : Hid (Sep W (OL L i (rmItems c s)) w)) (hc : RmOk c s) {N : Nat} (g : MgG N s) (hN : N ≤ 400000) :
  Calls Tryz.prog 87 #[.pointer (some ⟨c.mb, 0, none⟩)] w fun e w' => e = .returned (.int .i64 ((nVers s.vs - nVers (pruneVs (prH s) s.vs) : Nat) : Int)) ∧ ∃ c' : RmC, c'.mb = c.mb ∧ RmOk c' (prNext s) ∧ Hid (Sep W (OL L i (rmItems c' (prNext s))) w') := by
 have hML : c.M.length ≤ 1000000 := by rw [hc.mapr.count g.ge]; have := g.nv; omega
 have hok : RmOk { c with M := pruneR (prH s) c.M } (prNext s) := ⟨hc.len, hc.mapr.prune g.ge (prH s), hc.bufr, hc.ql⟩
 have hcnt := hc.mapr.pruned g.ge (prH s)
 have HOK := Lib.hid hok
 have HCNT := Lib.hid hcnt
 have HMLN := Lib.hid hML
 have hd := h.out.up (below_drewN (Below.refl w.heap.size w) 1)
 have d0 := rm_cell hd 0
 change _ = some (Value.pointer (some ⟨c.m, 0, none⟩)) at d0
 have d11 := rm_cell hd 11
 change _ = some (Value.int .i64 s.last) at d11
 have d3 := rm_cell hd 3
 change _ = some c.tv at d3
 obtain ⟨F, hF, _⟩ := hd.get (L.length + 2) (OL_get.trans (ritems_head 2 (by omega)))
 have HLO := Lib.hid (refLowV s.last d3 hF.2.1)
 have HD := Lib.hid hd
 clear hok hcnt hML hd hF d3 hc g
 go_enter Tryz.func87, Tryz.ntmps87
 go_upto_region 1 with fail
 refine wp_regionG (fun W => W.cell? ⟨c.mb, 0, none⟩ = some (.pointer (some ⟨c.m, 0, none⟩)) ∧ W.cell? ⟨c.mb, 11, none⟩ = some (.int .i64 s.last)) (n := 14) (by kernel_rfl) (by kernel_rfl) ?_
 refine wpG.tk 0 ?_
 refine wpG.tk 1 ?_
 refine wpG.tk 2 ?_
 refine wpG.tk 3 ?_ (hy := by intro W hW; have hld0 := hW.1; go_simp; try with_reducible rfl)
 refine wpG.tk 4 ?_
 refine wpG.tk 5 ?_
 refine wpG.tk 6 ?_
 refine wpG.tk 7 ?_
 refine wpG.tk 8 ?_
 refine wpG.tk 9 ?_
 refine wpG.tk 10 ?_ (hy := by intro W hW; have hld0 := hW.2; go_simp; try with_reducible rfl)
 refine wpG.alone 11 rfl (by kernel_rfl) (by kernel_rfl) (⟨d0, d11⟩) (fun K hK => ?_)
 go_simp
 go_at_call 128
 refine (HLO.out).mono ?_
 rintro e w2 ⟨rfl, hb2⟩
 have hs2 := HD.out.up hb2
 have m0 := cell_up hb2 d0
 have m11 := cell_up hb2 d11
 obtain ⟨F2, G2, hF2, _, _, dF, _, KK⟩ := Sep.at hs2 (L.length + 1) (OL_get.trans (ritems_head 1 (by omega)))
 have HP := Lib.hid (refMapPrune_any F2 (pt c.m) s.blocks s.last0 c.M (lowOf s.last (s.tmb.map (fun x : Int × Int => x.2))) w2 hF2 dF HMLN.out)
 have HKK := Lib.hid KK
 clear KK hF2 hs2 dF
 try go_simp
 refine hK _ _ ?_
 clear hK K
 refine wpG.alone 12 rfl (by kernel_rfl) (by kernel_rfl) (⟨m0, m11⟩) (fun K hK => ?_)
 go_simp
 go_at_call 127
 refine (HP.out).mono ?_
 rintro e w3 ⟨rfl, hch, hx⟩
 have hs3 := HKK.out w3 _ (RMapA (pt c.m) s.blocks s.last0 (pruneR (prH s) c.M)) hch (fun k hk => hk) hx
 rw [OL_set, ritems_map s.last0 (pruneR (prH s) c.M) (pruneVs (prH s) s.vs)] at hs3
 have n0 := rm_cell hs3 0
 change _ = some (Value.pointer (some ⟨c.m, 0, none⟩)) at n0
 have n11 := rm_cell hs3 11
 change _ = some (Value.int .i64 s.last) at n11
 have HS3 := Lib.hid hs3
 clear hs3 hch hx
 try go_simp
 refine hK _ _ ?_
 clear hK K
 refine wpG.tk 13 ?_
 refine wpG.done (by kernel_rfl) ⟨n0, n11⟩ ?_
 go_wp2
 go_ret
 refine ⟨?_, { c with M := pruneR (prH s) c.M }, rfl, HOK.out, HS3⟩
 rw [← HCNT.out]; rfl
end
end Go.Proofs
namespace Go.Proofs
open Go.RowKit Sc
def lastD (l : List Put) : Bytes := ((l.getLast?).map (·.data)).getD []
theorem lastD_get {l : List Put} {j : Nat} (h : l.length = j + 1) : lastD l = (l[j]'(by omega)).data := by
 unfold lastD
 rw [List.getLast?_eq_getElem?, List.getElem?_eq_getElem (by omega)]
 simp [h]
def dumpV (vs : Vers) : List Put := (keysUp (vs.map (·.1))).map fun k => ⟨k, lastD ((alook vs k).getD [])⟩
def DumpSaid (vs : Vers) (w : World) (e : Ending) (w' : World) : Prop := ∃ v, e = .returned v ∧ PutsW (New w w') w' v (dumpV vs) ∧ Below w.heap.size w w'
set_option maxRecDepth 100000 in
set_option maxHeartbeats 2000000 in
theorem extDump_any (F : Nat → Prop) (v : Value) (blocks last : Int) (vs : Vers) (w : World) (h : ExtIs F w v blocks last vs) (h1 : 1 ≤ blocks) (hi : ∀ x ∈ vs, I64 x.1) (hl : vs.length ≤ 1000000) (hne : ∀ x ∈ vs, x.2 ≠ []) (h40 : ∀ k l, alook vs k = some l → ∀ p ∈ l, p.data.length ≤ 1000000) :
  Calls Tryz.prog 71 #[v] w (DumpSaid vs w) := by
 have H := Lib.hid h
 obtain ⟨b, r, ml, rfl, hbl, hc0, hc1, hc2, h5, h6⟩ := h.cells
 obtain ⟨i0, hp0, hp1, hp2, hp3⟩ := info_parts infoPut
 have hkk := AL.keys h6
 have hml := al_len h6
 have hkeysV := keysVer_any r w
 have H5 := Lib.hid h5
 have H6 := Lib.hid h6
 have HKK := Lib.hid hkk
 have HI := Lib.hid hi
 have H40 := Lib.hid h40
 have HL := Lib.hid hl
 have HML := Lib.hid hml
 have HNE := Lib.hid hne
 have HC0 := Lib.hid hc0
 have HC2 := Lib.hid hc2
 clear h5 h6 hkk hi h40 hl hml hne hc0 hc2
 clear h
 go_enter Tryz.func71, Tryz.ntmps71
 go_wp2_with fail
 refine (extGone_any F _ _ _ _ _ H.out h1).mono ?_
 rintro e w1 ⟨rfl, rfl⟩
 go_wp2_with fail
 refine (keysVer_any r _).mono ?_
 rintro e w1 ⟨rfl, rfl⟩
 go_wp2_with fail
 refine (sortedVer_any r w.heap.size ml _ (H5.out.alloc _) (fun x hx => ?_) (by have := HL.out; have := HML.out; omega) (by simp) (by go_simp)).mono ?_
 ·have : x.1 ∈ vs.map (·.1) := by rw [← HKK.out]; exact List.mem_map.2 ⟨x, hx, rfl⟩
  obtain ⟨y, hy, he⟩ := List.mem_map.1 this
  rw [← he]; exact HI.out y hy
 rintro e w2 ⟨kv, rfl, hrow, hb2⟩
 rw [HKK.out] at hrow
 have hlen : (keysUp (vs.map (·.1))).length = (vs.map (·.1)).length := (List.mergeSort_perm _ _).length_eq
 rw [List.length_map] at hlen hrow
 have hb02 := Below.up (below_alloc w _) hb2
 have HLEN := Lib.hid hlen
 have HROW := Lib.hid hrow
 have HB02 := Lib.hid hb02
 clear hlen hrow hb02
 clear hb2
 have hki : ∀ x ∈ keysUp (vs.map (·.1)), I64 x ∧ x ∈ vs.map (·.1) := by
  intro x hx
  have hx' : x ∈ vs.map (·.1) := (List.mergeSort_perm _ _).subset hx
  obtain ⟨y, hy, he⟩ := List.mem_map.1 hx'
  exact ⟨by rw [← he]; exact HI.out y hy, hx'⟩
 have HKI := Lib.hid hki
 have hints := intsAt_own (fun _ => True) HLEN.out (fun x hx => (hki x hx).1) (fun _ _ _ => trivial) HROW.out
 obtain ⟨kp, kc, rfl, hk1, hk2, hk3, hk4⟩ := hints
 rw [HLEN.out] at hk1 ⊢
 have HK4 := Lib.hid hk4
 have hc12 := cell_up HB02.out hc1
 have HAL := Lib.hid (show (dumpV vs).length = vs.length by unfold dumpV; rw [List.length_map]; exact HLEN.out)
 clear hk3 hk4 hki
 go_wp2_with fail
 go_loopw [2, 15] (fun out i wr => ∃ k : Nat, ∃ D, k ≤ vs.length ∧ i = .int .i64 k ∧ Hid (OutS 33 2 putRW w2.heap.size wr out ((dumpV vs).take k) D) ∧ Below w2.heap.size w2 wr) (fun _ i _ => vs.length - (intOf i).toNat)
 case atStart => exact ⟨0, _, by omega, rfl, OutS.nil, Below.refl _ _⟩
 case round =>
  obtain ⟨k, D, hk, rfl, hout, hbk⟩ := hrel
  by_cases hlt : k < vs.length
  ·obtain ⟨g, o, rfl, _, hck, _⟩ := HK4.out k (by rw [HLEN.out]; exact hlt)
   rw [Nat.mul_one] at hck
   have hckr := cell_up hbk hck
   have hc1r := cell_up hbk hc12
   have hmem := (HKI.out _ (List.getElem_mem (show k < (keysUp (vs.map (·.1))).length by rw [HLEN.out]; exact hlt)))
   have htk : (dumpV vs).take (k + 1) = (dumpV vs).take k ++ [⟨(keysUp (vs.map (·.1)))[k]'(by rw [HLEN.out]; exact hlt), lastD ((alook vs ((keysUp (vs.map (·.1)))[k]'(by rw [HLEN.out]; exact hlt))).getD [])⟩] := by
    rw [take_snoc _ k (by rw [HAL.out]; exact hlt)]
    simp [dumpV]
   have hbwr := Below.up HB02.out hbk
   have hmr := H5.out.up hbwr
   generalize (keysUp (vs.map (·.1)))[k]'(by rw [HLEN.out]; exact hlt) = key at hckr hmem htk
   have hlk := hmr.lookup (P := Tryz.prog) Tryz.underlying162 Tryz.underlying3 (Tryz.zeroValue183 _) key false
   have hdat : ∃ u l, alook ml key = some u ∧ alook vs key = some l ∧ PutsAt (Old w) w u l := by
    rcases H6.out.look key with ⟨h, _⟩ | h
    ·exfalso
     rw [← HKK.out] at hmem
     obtain ⟨x, hx, he⟩ := List.mem_map.1 hmem.2
     exact alook_none.1 h x hx he
    ·exact h
   obtain ⟨u, l, hd1, hd2, hd3⟩ := hdat
   rw [hd1] at hlk
   rw [hd2] at htk
   simp only [Option.getD_some, Bool.false_eq_true, if_false] at hlk htk
   have hln := List.length_pos_iff.2 (HNE.out _ (alook_in hd2))
   simp only at hln
   obtain ⟨j, hj⟩ : ∃ j, l.length = j + 1 := ⟨l.length - 1, by omega⟩
   have hdl : (lastD l).length ≤ 1000000 := by rw [lastD_get hj]; exact H40.out _ _ hd2 _ (List.getElem_mem _)
   obtain ⟨p, c, rfl, p1, p2, _, p4⟩ := hd3
   obtain ⟨gq, oq, rfl, e1, e2, e3, dv, hcd, hd3⟩ := p4 j (by omega)
   rw [← lastD_get hj] at hd3
   rw [hj] at hlk
   have hcdr := cell_up hbwr hcd
   generalize lastD l = d at *
   obtain ⟨dp, dc, rfl⟩ := shape_of hd3 rfl
   have hd3' := hd3.up hbwr
   have hmem' := hmem.1
   have hej : (((j + 1 : Nat) : Int) - 1) = (j : Int) := by omega
   have hw2 : IntKind.i64.wrap (((j + 1 : Nat) : Int) - 1) = (j : Int) := by rw [hej]; exact IntWalk.i64_in _ (by omega)
   have hj1 : (j : Int) < ((j + 1 : Nat) : Int) := by omega
   have hjb : (j : Int) ≤ 9223372036854775806 := by omega
   have hzr := hbk.size
   have HOUT := hout
   have HTK := Lib.hid htk
   have HDL := Lib.hid hdl
   have HBK := Lib.hid hbk
   have HD3' := Lib.hid hd3'
   clear htk hdl hbk hd3'
   clear hd1 hd2 hd3 hmr hbwr hout hck hmem p4 hln e1 e2 e3 hj p1 p2 hcd
   go_wp2_with fail
   refine (clone_w (Old w) _ d _ HD3'.out HDL.out).mono ?_
   rintro e w3 ⟨v3, rfl, hnv, hb3⟩
   obtain ⟨np, nc, rfl⟩ := shape_of hnv.bytes rfl
   have hzw3 := hb3.size
   have hownlt : ∀ q, Value.ownBlock u2 = some q → w2.heap.size ≤ q ∧ q < wr.heap.size := by obtain ⟨xs, hx⟩ := HOUT.out.own; exact fun q hq => hx.lt q hq
   obtain ⟨css, q1, q2, q3, q4, q5⟩ := (HOUT.out.up putRW_stable hb3).up putRW_stable (below_alloc w3 (.cells #[.int .i64 key, .slice np d.length nc] 33))
   have HQ1 := Lib.hid q1
   have HQ2 := Lib.hid q2
   have HQ4 := Lib.hid q4
   have HQ5 := Lib.hid q5
   have HNV := Lib.hid hnv
   have HB3 := Lib.hid hb3
   have HOWNLT := Lib.hid hownlt
   clear q1 q2 q4 q5 hnv hb3 hownlt
   generalize hll : ((dumpV vs).take k).length = ll at q3
   have hll2 : ll ≤ 1000000 := by have := HL.out; rw [← hll, List.length_take, HAL.out]; omega
   have HLL := Lib.hid hll
   have HLL2 := Lib.hid hll2
   clear hll hll2
   go_wp2_with (at_builtin; refine wpList_append_lies _ rfl _ _ 46 rfl w2.heap.size 33 i0 (.agg #[.int .i64 0, .slice none 0 0]) 2 32 Tryz.underlying46 hp0 hp1 hp2 hp3 rfl (by decide) _ ll css.flatten rfl q3 ⟨w3.heap.size, 0, none⟩ 1 1 [.int .i64 key, .slice np d.length nc] rfl rfl (World.news_of_block (cs := #[.int .i64 key, .slice np d.length nc]) (heap_alloc_new w3 _)) (by simp [Value.oneCell']) (by decide) (by have := HLL2.out; unfold maxLen; omega) (by have := HLL2.out; omega) (by simp; omega) (w3.heap.size + 1) (by simp) ?_; intro gg cap w5 hown5 hgrow5 hat5 hlt5)
   go_roundw
   case rel =>
    refine ⟨k + 1, fun b => D b ∨ New wr w3 b, by omega, by go_num, ?_, ?_⟩
    ·unfold Hid
     rw [HTK.out]
     have hll := HLL.out
     subst hll
     have hg : w3.heap.size + 1 = (w3.alloc (.cells #[.int .i64 key, .slice np d.length nc] 33)).heap.size := by simp
     refine OutS.snoc (v := u2) (D3 := New wr w3) putRW_stable HQ1.out HQ2.out HQ4.out HQ5.out (cs := [.int .i64 key, .slice np d.length nc]) (x := ⟨key, d⟩) rfl ⟨_, rfl, hmem', HNV.out.up (below_alloc _ _)⟩ (fun q hq => ?_) hown5 hgrow5 (hg ▸ hat5)
     have h1 := hq.1
     have h2 := hq.2
     exact ⟨by omega, by simp; omega, fun e => by have := (HOWNLT.out q e).2; omega⟩
    ·have hb1 : Below w2.heap.size w2 (w3.alloc (.cells #[.int .i64 key, .slice np d.length nc] 33)) := (HBK.out.trans (HB3.out.mono (by omega))).trans ((below_alloc _ _).mono (by omega))
     exact hb1.grown hgrow5 (by simp; omega) (fun q hq => (HOWNLT.out q hq).1)
   case measure => simp [intOf]; omega
  ·have hkl : k = vs.length := by omega
   have HK2 := Lib.hid hkl
   have HBK := Lib.hid hbk
   clear hkl hbk
   go_wp2_with fail
   go_ret
   have hwz : w.heap.size ≤ w2.heap.size := by have := HB02.out.size; omega
   refine ⟨_, rfl, ?_, HB02.out.trans (HBK.out.mono hwz)⟩
   have := hout.out
   rw [List.take_of_length_le (by rw [HAL.out]; have := HK2.out; omega)] at this
   exact this.putsW fun b h1 h2 => ⟨by omega, h2⟩
end Go.Proofs
namespace Go.Proofs
open Go.RowKit Sc
end Go.Proofs
namespace Go.Proofs
open Go.RowKit Sc
end Go.Proofs
namespace Go.Proofs
open Go.RowKit Sc
set_option maxRecDepth 100000 in
set_option maxHeartbeats 2000000 in
theorem rmgrNew_sep {W w : World} {L : List Asn} (h : Hid (Sep W L w)) (blocks last : Int) (h1 : 1 ≤ blocks) (h2 : blocks ≤ 1048576) (h3 : 0 ≤ last) (h4 : last ≤ 1099511627776) :
  Calls Tryz.prog 41 #[.int .i64 blocks, .int .i64 last] w fun e w' => ∃ b : Nat, e = .returned (.tuple #[.pointer (some ⟨b, 0, none⟩), .int .i64 0]) ∧ Hid (Sep W (L ++ [RMgrA (pt b) (mgNew blocks last)]) w') := by
 have hT := h.out.new (Below.refl _ _) TrueA (F := fun _ => False) (fun _ h => h.elim) trivial
 have HE := Lib.hid (refMapNewN hT blocks h1 h2)
 clear hT
 go_enter Tryz.func41, Tryz.ntmps41
 go_wp2_with fail
 refine (HE.out).mono ?_
 rintro e w1 ⟨m, rfl, hs0⟩
 have hil : (L ++ [TrueA] ++ [BoxA m #[.int .i64 blocks, .slice none 0 0, .int .i64 0] 147])[(L ++ [TrueA]).length]? = some (BoxA m #[.int .i64 blocks, .slice none 0 0, .int .i64 0] 147) := by
  rw [List.getElem?_append_right (Nat.le_refl _), Nat.sub_self]; rfl
 have hs1 := hs0.out.imp _ (A' := RMapA (pt m) blocks 0 []) hil fun F _ hP => ⟨m, .slice none 0 0, fun _ => False, rfl, hP.1, hP.2, OutS.nil, fun g hg => by simp [Value.ownBlock] at hg, fun q h => h.elim⟩
 rw [List.set_append_right _ _ (Nat.le_refl _), Nat.sub_self] at hs1
 have HS1 : Hid (Sep W (L ++ [TrueA] ++ [RMapA (pt m) blocks 0 []]) w1) := hs1
 clear HE hs0 hs1 hil
 go_wp2
 go_ret2
 refine ⟨w1.heap.size, rfl, ?_⟩
 let c : RmC := ⟨w1.heap.size, m, .slice none 0 0, .slice none 0 0, .slice none 0 0, .slice none 0 0, .slice none 0 0, [], [], []⟩
 have s2 := HS1.out.new (below_alloc w1 (.cells (rmRow c (mgNew blocks last)) 96)) (BoxA w1.heap.size (rmRow c (mgNew blocks last)) 96) (F := New w1 (w1.alloc (.cells (rmRow c (mgNew blocks last)) 96))) (fun _ h => h) ⟨⟨Nat.le_refl _, by simp⟩, heap_alloc_new _ _⟩
 have s3 := s2.new (Below.refl _ _) TrueA (F := fun _ => False) (fun _ h => h.elim) trivial
 have s3b := s3.new (Below.refl _ _) TrueA (F := fun _ => False) (fun _ h => h.elim) trivial
 have s4 : Sep W (OL (L ++ [TrueA]) L.length [RMapA (pt m) blocks 0 [], BoxA w1.heap.size (rmRow c (mgNew blocks last)) 96, TrueA, TrueA]) (w1.alloc (.cells (rmRow c (mgNew blocks last)) 96)) := by
  have e : OL (L ++ [TrueA]) L.length [RMapA (pt m) blocks 0 [], BoxA w1.heap.size (rmRow c (mgNew blocks last)) 96, TrueA, TrueA] = L ++ [TrueA] ++ [RMapA (pt m) blocks 0 []] ++ [BoxA w1.heap.size (rmRow c (mgNew blocks last)) 96] ++ [TrueA] ++ [TrueA] := by
   unfold OL
   rw [List.set_append_right _ _ (Nat.le_refl _), Nat.sub_self]
   simp
  rw [e]
  exact s3b
 have s5 := s4.closeStar (by simp)
 have hok : RmOk c (mgNew blocks last) := ⟨rfl, MapR.start, fun k hk => by simp [mgNew] at hk, rfl⟩
 have s6 := s5.imp L.length (A' := RMgrA (pt w1.heap.size) (mgNew blocks last)) (List.getElem?_set_self (by simp)) fun F _ hP => by
  refine ⟨c, rfl, hok, StarA.sub (fun i => match i with | 0 => 1 | 1 => 0 | 2 => 2 | 3 => 3 | i + 4 => i + 4) ?_ ?_ hP⟩
  ·intro i j hi hj
   have hi' : i < 4 := hi
   have hj' : j < 4 := hj
   match i, j, hi', hj' with
   | 0, 0, _, _ | 0, 1, _, _ | 0, 2, _, _ | 0, 3, _, _
   | 1, 0, _, _ | 1, 1, _, _ | 1, 2, _, _ | 1, 3, _, _
   | 2, 0, _, _ | 2, 1, _, _ | 2, 2, _, _ | 2, 3, _, _
   | 3, 0, _, _ | 3, 1, _, _ | 3, 2, _, _ | 3, 3, _, _ => intro h; simp at h ⊢
  ·intro i B hB
   match i with
   | 0 => cases hB; exact ⟨_, rfl, fun _ h => h⟩
   | 1 => cases hB; exact ⟨_, rfl, fun _ h => h⟩
   | 2 => cases hB; exact ⟨_, rfl, fun G _ => ⟨SlAt.nil, SlAt.nil, SlAt.nil, SlAt.nil⟩⟩
   | 3 => cases hB; exact ⟨_, rfl, fun G _ => ⟨World.ownsRow_nil _ _ _ _, by simp [Value.ownBlock]⟩⟩
   | i + 4 => cases hB
 rw [List.set_set, List.set_append_right _ _ (Nat.le_refl _), Nat.sub_self] at s6
 exact Lib.hid s6
end Go.Proofs
namespace Go.Proofs
open Go.RowKit Sc
section
variable {W w : World} {L : List Asn}
theorem MgrA.open' (h : Hid (Sep W L w)) (i : Nat) {b : Nat} {s : MgS} (hi : L[i]? = some (MgrA (pt b) s)) : ∃ c : MgC, c.mb = b ∧ c.cs.length = s.txs.length ∧ Hid (Sep W (OL L i (mgrItems c s)) w) ∧ i < L.length := by
 obtain ⟨c, hv, hc, hS⟩ := MgrA.opened h.out i hi
 refine ⟨c, ?_, hc, hS, (List.getElem?_eq_some_iff.1 hi).1⟩
 simp only [Value.pointer.injEq, Option.some.injEq, Addr.mk.injEq] at hv
 exact hv.1.symm
theorem mgBegin_sep (h : Hid (Sep W L w)) (i : Nat) {b : Nat} {s : MgS} (hi : L[i]? = some (MgrA (pt b) s)) {n : Nat} (g : MgG n s) :
  Calls Tryz.prog 19 #[.pointer (some ⟨b, 0, none⟩)] w fun e w' => e = .returned (.tuple #[.int .i64 (begH s), .int .i64 (begC s)]) ∧ Hid (Sep W (L.set i (MgrA (pt b) (begNext s))) w') := by
 obtain ⟨c, rfl, hc, hS, hil⟩ := MgrA.open' h i hi
 refine (begin_core hS hc g.kd g.b1 g.b2 g.hh).mono ?_
 rintro e w' ⟨rfl, c', hmb, hc', hS'⟩
 have := MgrA.closed hS'.out hil hc'
 rw [hmb] at this
 exact ⟨rfl, this⟩
theorem mgWrite_sep (h : Hid (Sep W L w)) (i : Nat) {b : Nat} {s : MgS} (hi : L[i]? = some (MgrA (pt b) s)) {n : Nat} (g : MgG n s) (hd : Int) (lv : Value) (l : List Put) (hl : ∀ G, Sc.Rest L i G w → PutsAt G w lv l) (n1 : l.length ≤ 1000000) :
  Calls Tryz.prog 20 #[.pointer (some ⟨b, 0, none⟩), .int .i64 hd, lv] w fun e w' => e = .returned (.int .i64 (wrCode s hd l)) ∧ Hid (Sep W (L.set i (MgrA (pt b) (wrNext s hd l))) w') := by
 obtain ⟨c, rfl, hc, hS, hil⟩ := MgrA.open' h i hi
 refine (write_core hS hc hd lv l hl (fun t ht => by have := (g.tx t ht).bl; omega) n1).mono ?_
 rintro e w' ⟨rfl, hS'⟩
 refine ⟨rfl, MgrA.closed hS'.out hil ?_⟩
 rw [hc]
 unfold wrNext
 split
 ·exact (setTx_len ..).symm
 ·rfl
theorem mgRead_sep (h : Hid (Sep W L w)) (i : Nat) {b : Nat} {s : MgS} (hi : L[i]? = some (MgrA (pt b) s)) {n : Nat} (g : MgG n s) (hn : n ≤ 1000000) (hd : Int) (e : Ext) (i1 : I64 e.first) (i2 : I64 e.len) :
  Calls Tryz.prog 34 #[.pointer (some ⟨b, 0, none⟩), .int .i64 hd, .agg #[.int .i64 e.first, .int .i64 e.len]] w fun r w' =>
   (rdCode s hd e ≠ 0 ∧ r = .returned (.tuple #[.slice none 0 0, .int .i64 (rdCode s hd e)]) ∧ Hid (Sep W L w')) ∨
   (rdCode s hd e = 0 ∧ ∃ g o cp, r = .returned (.tuple #[.slice (some ⟨g, o, none⟩) (40 * e.len.toNat) cp, .int .i64 0]) ∧
     Hid (Sep W ((L ++ [BytesWA (.slice (some ⟨g, o, none⟩) (40 * e.len.toNat) cp) (rdOut s hd e)]).set i (MgrA (pt b) (rdNext s hd e))) w')) := by
 obtain ⟨c, rfl, hc, hS, hil⟩ := MgrA.open' h i hi
 refine (mread_core hS hc hd e g.ge g.b2 hn g.tx i1 i2 hil).mono ?_
 rintro r w' (⟨h1, rfl, hS'⟩ | ⟨h1, gg, o, cp, rfl, hS'⟩)
 ·refine .inl ⟨h1, rfl, ?_⟩
  have := MgrA.closed hS'.out hil hc
  rwa [set_same hi] at this
 ·refine .inr ⟨h1, gg, o, cp, rfl, MgrA.closed hS'.out (by simp; omega) ?_⟩
  rw [hc]
  unfold rdNext
  rw [if_pos h1]
  exact (setTx_len ..).symm
theorem mgAbort_sep (h : Hid (Sep W L w)) (i : Nat) {b : Nat} {s : MgS} (hi : L[i]? = some (MgrA (pt b) s)) (hd : Int) :
  Calls Tryz.prog 24 #[.pointer (some ⟨b, 0, none⟩), .int .i64 hd] w fun e w' => e = .returned (.int .i64 (abCode s hd)) ∧ Hid (Sep W (L.set i (MgrA (pt b) (abNext s hd))) w') := by
 obtain ⟨c, rfl, hc, hS, hil⟩ := MgrA.open' h i hi
 refine (abort_core hS hc hd).mono ?_
 rintro e w' ⟨rfl, hS'⟩
 refine ⟨rfl, MgrA.closed hS'.out hil ?_⟩
 rw [hc]
 unfold abNext
 split
 ·exact (setTx_len ..).symm
 ·rfl
theorem mgResult_sep (h : Hid (Sep W L w)) (i : Nat) {b : Nat} {s : MgS} (hi : L[i]? = some (MgrA (pt b) s)) (hd : Int) :
  Calls Tryz.prog 23 #[.pointer (some ⟨b, 0, none⟩), .int .i64 hd] w fun e w' => e = .returned (.tuple #[.int .i64 (resOf s hd).1, .int .i64 (resOf s hd).2.1, .int .i64 (resOf s hd).2.2]) ∧ Hid (Sep W L w') := by
 obtain ⟨c, rfl, hc, hS, hil⟩ := MgrA.open' h i hi
 refine (result_core hS hc hd).mono ?_
 rintro e w' ⟨rfl, hb⟩
 exact ⟨rfl, h.out.up hb⟩
theorem mgLast_sep (h : Hid (Sep W L w)) (i : Nat) {b : Nat} {s : MgS} (hi : L[i]? = some (MgrA (pt b) s)) :
  Calls Tryz.prog 29 #[.pointer (some ⟨b, 0, none⟩)] w fun e w' => e = .returned (.int .i64 s.last) ∧ w' = w := by
 obtain ⟨c, rfl, hc, hS, hil⟩ := MgrA.open' h i hi
 exact last_core hS
theorem mgReadOnly_sep (h : Hid (Sep W L w)) (i : Nat) {b : Nat} {s : MgS} (hi : L[i]? = some (MgrA (pt b) s)) (q : Bool) :
  Calls Tryz.prog 33 #[.pointer (some ⟨b, 0, none⟩), .bool q] w fun e w' => e = .returned (.tuple #[]) ∧ Hid (Sep W (L.set i (MgrA (pt b) { s with ro := q })) w') := by
 obtain ⟨c, rfl, hc, hS, hil⟩ := MgrA.open' h i hi
 refine (readOnly_core hS q).mono ?_
 rintro e w' ⟨rfl, hS'⟩
 exact ⟨rfl, MgrA.closed hS'.out hil hc⟩
theorem mgPrune_sep (h : Hid (Sep W L w)) (i : Nat) {b : Nat} {s : MgS} (hi : L[i]? = some (MgrA (pt b) s)) {n : Nat} (g : MgG n s) (hn : n ≤ 1000000) :
  Calls Tryz.prog 39 #[.pointer (some ⟨b, 0, none⟩)] w fun e w' => e = .returned (.int .i64 ((nVers s.vs - nVers (pruneVs (prH s) s.vs) : Nat) : Int)) ∧ Hid (Sep W (L.set i (MgrA (pt b) (prNext s))) w') := by
 obtain ⟨c, rfl, hc, hS, hil⟩ := MgrA.open' h i hi
 refine (prune_core hS g.b1 g.ge.nd (by have := g.nv; omega)).mono ?_
 rintro e w' ⟨rfl, hS'⟩
 exact ⟨rfl, MgrA.closed hS'.out hil hc⟩
end
end Go.Proofs
namespace Go.Proofs
open Go.RowKit Sc
theorem vs_len {vs : Vers} (h : ∀ x ∈ vs, x.2 ≠ []) : vs.length ≤ nVers vs := by
 induction vs with
 | nil => simp
 | cons x t ih =>
  have h1 := ih fun y hy => h y (List.mem_cons_of_mem _ hy)
  have h2 := List.length_pos_iff.2 (h x (by simp))
  show t.length + 1 ≤ x.2.length + nVers t
  omega
section
variable {W w : World} {L : List Asn} {i : Nat} {c : MgC} {s : MgS}
set_option maxRecDepth 100000 in
set_option maxHeartbeats 2000000 in
theorem dump_core (h : Hid (Sep W (OL L i (mgrItems c s)) w)) {n : Nat} (g : MgG n s) (hn : n ≤ 1000000) :
  Calls Tryz.prog 30 #[.pointer (some ⟨c.mb, 0, none⟩)] w fun e w' => ∃ p cp, e = .returned (.slice p (dumpV s.vs).length cp) ∧ Hid (PutsW (New w w') w' (.slice p (dumpV s.vs).length cp) (dumpV s.vs)) ∧ Hid (Below w.heap.size w w') := by
 obtain ⟨c0, _⟩ := mgr_cells h.out
 obtain ⟨F, hF, _⟩ := h.out.get (L.length + 1) (OL_get.trans (items_head 1 (by omega)))
 have hne := good_ne g.ge
 have HK := Lib.hid (extDump_any F (pt c.m) s.blocks s.last0 s.vs w hF g.b1 (fun x hx => (good_key g.ge g.b2 x hx).1) (by have := vs_len hne; have := g.nv; omega) hne g.ge.d40)
 clear hF hne
 go_enter Tryz.func30, Tryz.ntmps30
 go_wp2_with fail
 refine (gone_any c.mb c.m _ c0).mono ?_
 rintro e w1 ⟨rfl, rfl⟩
 go_wp2_with fail
 refine (HK.out).mono ?_
 rintro e w2 ⟨v, rfl, hp, hb⟩
 obtain ⟨p, cp, rfl⟩ := putsW_shape hp
 have HP := Lib.hid hp
 have HB := Lib.hid hb
 clear hp hb
 go_wp2
 go_ret
 exact ⟨p, cp, rfl, HP, HB⟩
theorem cmNext_len (s : MgS) (h : Int) : (cmNext s h).txs.length = s.txs.length := by
 unfold cmNext
 split
 ·split
  ·exact (setTx_len ..).trans (setTx_len ..)
  ·split
   ·exact setTx_len ..
   ·exact setTx_len ..
 ·rfl
theorem baNext_txs (s : MgS) : (baNext s).txs = s.txs := by unfold baNext; split <;> rfl
theorem doneNext_len {n : Nat} {s : MgS} (g : MgG n s) (code : Int) : (doneNext s code).txs.length = s.txs.length := by
 unfold doneNext
 split
 ·rfl
 ·have := g.o1
  exact (doneTo_same code s s.out.toNat (by omega)).2.1
end
section
variable {W w : World} {L : List Asn}
theorem mgCommit_sep (h : Hid (Sep W L w)) (i : Nat) {b : Nat} {s : MgS} (hi : L[i]? = some (MgrA (pt b) s)) {n : Nat} (g : MgG n s) (hn : s.queue.length ≤ 1000000) (hd : Int) :
  Calls Tryz.prog 22 #[.pointer (some ⟨b, 0, none⟩), .int .i64 hd] w fun e w' => e = .returned (.int .i64 (cmCode s hd)) ∧ Hid (Sep W (L.set i (MgrA (pt b) (cmNext s hd))) w') := by
 obtain ⟨c, rfl, hc, hS, hil⟩ := MgrA.open' h i hi
 refine (commit_core hS hc g hn hd).mono ?_
 rintro e w' ⟨rfl, q, hS'⟩
 exact ⟨rfl, MgrA.closed (c := { c with qv := q }) hS'.out hil (hc.trans (cmNext_len s hd).symm)⟩
theorem mgBatch_sep (h : Hid (Sep W L w)) (i : Nat) {b : Nat} {s : MgS} (hi : L[i]? = some (MgrA (pt b) s)) {n : Nat} (g : MgG n s) (hn : s.queue.length ≤ 1000000) (hnn : n ≤ 1000000) :
  Calls Tryz.prog 27 #[.pointer (some ⟨b, 0, none⟩)] w fun e w' =>
   (baCode s ≠ 0 ∧ e = .returned (.tuple #[.agg #[.int .i64 0, .slice none 0 0], .int .i64 (baCode s)]) ∧ Hid (Sep W L w')) ∨
   (baCode s = 0 ∧ ∃ p cp, e = .returned (.tuple #[.agg #[.int .i64 (s.num + 1), .slice p (formN (waitL s)) cp], .int .i64 0]) ∧
     Hid (Sep W ((L ++ [TxsA (.slice p (formN (waitL s)) cp) ((waitL s).take (formN (waitL s)))]).set i (MgrA (pt b) (baNext s))) w')) := by
 obtain ⟨c, rfl, hc, hS, hil⟩ := MgrA.open' h i hi
 refine (batch_core hS hc g hn hnn hil).mono ?_
 rintro e w' (⟨h1, rfl, hS'⟩ | ⟨h1, p, cp, rfl, hS'⟩)
 ·refine .inl ⟨h1, rfl, ?_⟩
  have := MgrA.closed hS'.out hil hc
  rwa [set_same hi] at this
 ·exact .inr ⟨h1, p, cp, rfl, MgrA.closed hS'.out (by simp; omega) (by rw [baNext_txs]; exact hc)⟩
theorem mgDone_sep (h : Hid (Sep W L w)) (i : Nat) {b : Nat} {s : MgS} (hi : L[i]? = some (MgrA (pt b) s)) {n : Nat} (g : MgG n s) (hn : s.queue.length ≤ 1000000) (hnn : n ≤ 900000) (h8 : s.out ≤ 8) (code : Int) :
  Calls Tryz.prog 28 #[.pointer (some ⟨b, 0, none⟩), .int .i64 code] w fun e w' => e = .returned (.int .i64 (doneCode s)) ∧ Hid (Sep W (L.set i (MgrA (pt b) (doneNext s code))) w') := by
 obtain ⟨c, rfl, hc, hS, hil⟩ := MgrA.open' h i hi
 refine (done_core hS hc g hn hnn h8 hil code).mono ?_
 rintro e w' ⟨rfl, q, hS'⟩
 exact ⟨rfl, MgrA.closed (c := { c with qv := q }) hS'.out hil (hc.trans (doneNext_len g code).symm)⟩
theorem mgDump_sep (h : Hid (Sep W L w)) (i : Nat) {b : Nat} {s : MgS} (hi : L[i]? = some (MgrA (pt b) s)) {n : Nat} (g : MgG n s) (hn : n ≤ 1000000) :
  Calls Tryz.prog 30 #[.pointer (some ⟨b, 0, none⟩)] w fun e w' => ∃ p cp, e = .returned (.slice p (dumpV s.vs).length cp) ∧ Hid (PutsW (New w w') w' (.slice p (dumpV s.vs).length cp) (dumpV s.vs)) ∧ Hid (Below w.heap.size w w') := by
 obtain ⟨c, rfl, hc, hS, hil⟩ := MgrA.open' h i hi
 exact dump_core hS g hn
end
end Go.Proofs