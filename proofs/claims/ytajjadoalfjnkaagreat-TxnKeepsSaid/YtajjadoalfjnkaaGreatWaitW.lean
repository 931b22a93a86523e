/- A manager: waiting and Batch, whose Puts may be written. -/
import Derived.Test.YtajjadoalfjnkaaGreatTx7
namespace Sc
open Go Go.RowKit
theorem putW_stable (G : Nat → Prop) : Stable G (putW G) := fun w w' b o x hs hb ⟨h1, h2, h3, v, h4, h5⟩ => ⟨by rw [hs.cell hb]; exact h1, h2, by rw [World.frozen?_of_block (w := w) (hs b hb)]; exact h3, v, by rw [hs.cell hb]; exact h4, h5.same hs⟩
theorem PutsW.same {G : Nat → Prop} {w w' : World} {v : Value} {l : List Put} (h : PutsW G w v l) (hs : Same G w w') : PutsW G w' v l := SlAt.same h hs (putW_stable G)
theorem PutsW.mono {G G' : Nat → Prop} {w : World} {v : Value} {l : List Put} (h : PutsW G w v l) (hg : ∀ b, G b → G' b) : PutsW G' w v l := SlAt.mono h hg fun _ _ _ ⟨h1, h2, h3, v, h4, h5⟩ => ⟨h1, h2, h3, v, h4, h5.mono hg⟩
theorem frozen_up {w w' : World} (hb : Below w.heap.size w w') {b o : Nat} {v : Value} (hc : w.cell? ⟨b, o, none⟩ = some v) (h : w.frozen? ⟨b, o, none⟩ = false) : w'.frozen? ⟨b, o, none⟩ = false := by
  rw [World.frozen?_of_block (w := w) (hb.block b (World.block_lt_of_cell? w _ hc))]; exact h
theorem PutsW.up {G : Nat → Prop} {w w' : World} {v : Value} {l : List Put} (h : PutsW G w v l) (hb : Below w.heap.size w w') : PutsW G w' v l :=
  SlAt.up h fun _ _ _ ⟨h1, h2, h3, v, h4, h5⟩ => ⟨cell_up hb h1, h2, frozen_up hb h1 h3, v, cell_up hb h4, h5.up hb⟩
def PutsWA (v : Value) (l : List Put) : Asn := ⟨fun F w => PutsW F w v l, fun _ _ _ hs _ h => h.same hs⟩
def txW (G : Nat → Prop) : Elem Tx := fun w b o x => w.cell? ⟨b, o, none⟩ = some (.int .i64 x.time) ∧ I64 x.time ∧ ∃ v, w.cell? ⟨b, o + 1, none⟩ = some v ∧ PutsW G w v x.puts
theorem txW_stable (G : Nat → Prop) : Stable G (txW G) := fun w w' b o x hs hb ⟨h1, h2, v, h3, h4⟩ =>
  ⟨by rw [hs.cell hb]; exact h1, h2, v, by rw [hs.cell hb]; exact h3, h4.same hs⟩
def TxsW (G : Nat → Prop) : World → Value → List Tx → Prop := SlAt G 2 (txW G)
theorem TxsW.txs {G : Nat → Prop} {w : World} {v : Value} {l : List Tx} (h : TxsW G w v l) : TxsAt G w v l := SlAt.mono h (fun _ h => h) fun _ _ _ ⟨h1, h2, v, h3, h4⟩ => ⟨h1, h2, v, h3, h4.puts⟩
def TxsWA (v : Value) (l : List Tx) : Asn := ⟨fun F w => TxsW F w v l, fun F _ _ hs _ h => SlAt.same h hs (txW_stable F)⟩
theorem TxsW.take {G : Nat → Prop} {w : World} {p A : Option Addr} {c : Nat} {l : List Tx} (h : TxsW G w (.slice p l.length c) l) (j : Nat) (hj : j ≤ l.length) (h1 : A = none → p = none) (h2 : ∀ b o, p = some ⟨b, o, none⟩ → A = some ⟨b, o, none⟩) : TxsW G w (.slice A j c) (l.take j) := by
  obtain ⟨p', c', e, a1, a2, a3, a4⟩ := h
  cases e
  have hl : (l.take j).length = j := by rw [List.length_take]; omega
  refine ⟨A, c, by rw [hl], by omega, a2, fun e => ?_, fun i hi => ?_⟩
  · have := a3 (h1 e)
    omega
  · rw [hl] at hi
    obtain ⟨b, o, e, hg, hx⟩ := a4 i (by omega)
    rw [List.getElem_take]
    exact ⟨b, o, h2 b o e, hg, hx⟩
def txRW (D : Nat → Prop) (w : World) (cs : List Value) (x : Tx) : Prop := ∃ pv, cs = [.int .i64 x.time, pv] ∧ I64 x.time ∧ PutsW D w pv x.puts
theorem txRW_stable : RStable txRW := fun _D _D' _w _w' _cs _x hd hs ⟨pv, h1, h2, h3⟩ => ⟨pv, h1, h2, (h3.same hs).mono hd⟩
theorem OutS.txsW {T : Nat} {B : Nat} {w : World} {v : Value} {l : List Tx} {D : Nat → Prop} {G : Nat → Prop} (h : OutS T 2 txRW B w v l D) (hG : ∀ b, B ≤ b → b < w.heap.size → G b) : TxsW G w v l := by
  have hD : ∀ b, D b → G b := by obtain ⟨_, _, _, _, _, h5⟩ := h; exact fun b hb => hG b (h5 b hb).1 (h5 b hb).2.1
  refine h.slAt hG fun b o cs x hl hc _ ⟨pv, he, hi, hd⟩ => ?_
  subst he
  exact ⟨by first | (simp; done) | (have := hc 0 (by omega); simpa using this), hi, pv, by first | (simp; done) | (have := hc 1 (by omega); simpa using this), hd.mono hD⟩
end Sc
namespace Go.Proofs
open Go.RowKit Sc
section
variable {W w : World} {L : List Asn}
theorem bufPutsW (h : Hid (Sep W L w)) (i : Nat) {v : Value} {blocks most : Int} {s : List (Int × Bytes)} (hi : L[i]? = some (BufA v blocks most s)) (hg : BufG blocks s) (hb : blocks ≤ 1048576) (hl : s.length ≤ 1000000) :
    Calls Tryz.prog 77 #[v] w fun e w' => ∃ p c, e = .returned (.slice p s.length c) ∧ Hid (PutsW (New w w') w' (.slice p s.length c) (bufPuts s)) ∧ Hid (Below w.heap.size w w') := by
  obtain ⟨F, hF, _⟩ := h.out.get i hi
  refine (bufPuts_any F v blocks most s w hF (hg.i64 hb) hl hg.d40).mono ?_
  rintro e w' ⟨pv, rfl, hp, hb⟩
  obtain ⟨p, c, rfl⟩ := putsW_shape hp
  rw [bufPuts_len] at hp ⊢
  exact ⟨p, c, rfl, hp, hb⟩
end
section
variable {W w : World} {L : List Asn} {i : Nat} {c : MgC} {s : MgS}
set_option maxRecDepth 100000 in
set_option maxHeartbeats 4000000 in
theorem waiting_w (h : Hid (Sep W (OL L i (mgrItems c s)) w)) (hc : c.cs.length = s.txs.length) {n : Nat} (g : MgG n s) (hn : s.queue.length ≤ 1000000) :
    Calls Tryz.prog 67 #[.pointer (some ⟨c.mb, 0, none⟩)] w fun e w' => ∃ p cp, e = .returned (.slice p s.queue.length cp) ∧ s.queue.length ≤ cp ∧ Hid (TxsW (New w w') w' (.slice p s.queue.length cp) (waitL s)) ∧ Hid (Below w.heap.size w w') := by
  obtain ⟨c0, c1, c2, c3, c4, c5, c6, c7, c8, c9⟩ := mgr_cells h.out
  obtain ⟨qp, qc, hq0, hql⟩ := mgr_queue h.out
  rw [hq0] at c3
  obtain ⟨ii, hii, hiz, hiy, hix⟩ := info_parts infoTx
  have HG : Hid (MgG n s) := g
  have HQ0 := Lib.hid hq0
  clear hq0 g c0 c1 c4 c5 c6 c7 c8 c9
  go_enter Tryz.func67, Tryz.ntmps67
  go_wp2_with fail
  go_loopw [2, 11] (fun s2 s11 wr => ∃ k : Nat, ∃ p cp D, k ≤ s.queue.length ∧ s11 = .int .i64 k ∧ s2 = .slice p k cp ∧ Hid (k ≤ cp) ∧ Hid (OutS 70 2 txRW w.heap.size wr (.slice p k cp) ((waitL s).take k) D) ∧ Hid (Below w.heap.size w wr)) (fun _ s11 _ => s.queue.length - (intOf s11).toNat)
  case atStart => exact ⟨0, _, _, _, by omega, by go_num, rfl, Nat.le_refl _, Lib.hid (by rw [List.take_zero]; exact OutS.nil), Lib.hid (Below.refl _ _)⟩
  case round =>
    obtain ⟨k, op, oc, D, hk, rfl, rfl, HOC, HO, HB⟩ := hrel
    by_cases hlt : k < s.queue.length
    case neg =>
      obtain rfl : k = s.queue.length := by omega
      have hO := HO.out
      rw [List.take_of_length_le (by rw [waitL_len]; exact Nat.le_refl _)] at hO
      have hfin : TxsW (New w wr) wr (.slice op s.queue.length oc) (waitL s) := hO.txsW fun b h1 h2 => ⟨h1, h2⟩
      have HFIN := Lib.hid hfin
      clear hfin
      clear hO
      go_wp2
      go_ret
      exact ⟨op, oc, rfl, HOC.out, HFIN, HB⟩
    case pos =>
      have hS := h.out.up HB.out
      obtain ⟨gq, cq, hqv, hcell⟩ := mgr_qcell hS hlt
      rw [HQ0.out] at hqv
      cases hqv
      have hqm := List.getElem_mem hlt
      obtain ⟨hq1, hq2⟩ := HG.out.qr _ hqm
      have hti := tm_i64 HG.out hqm
      obtain ⟨q, hq⟩ : ∃ q : Nat, s.queue[k] = (q : Int) + 1 := ⟨(s.queue[k] - 1).toNat, by omega⟩
      have hqs : q < s.txs.length := by omega
      have hqc : q < c.cs.length := by omega
      have hl := (mgr_map hS).lookup Tryz.underlying104 Tryz.underlying3 (Tryz.zeroValue111 wr) ((q : Int) + 1) false
      rw [look_ml hqc] at hl
      simp only [Option.getD_some, Bool.false_eq_true, if_false] at hl
      have hcl := (tx_cells hS hc hqs).1
      have t1 := hcl 1
      have t4 := hcl 4
      change _ = some (Value.int .i64 s.txs[q].tm) at t1
      change _ = some (Value.pointer (some ⟨(c.cs[q]).bb, 0, none⟩)) at t4
      have m2 := cell_up HB.out c2
      have m3 := cell_up HB.out c3
      have htx := HG.out.tx _ (List.getElem_mem hqs)
      have hwl : (waitL s).take (k + 1) = (waitL s).take k ++ [⟨s.txs[q].tm, bufPuts s.txs[q].buf⟩] := by
        rw [take_snoc _ _ (by rw [waitL_len]; exact hlt)]
        congr 2
        unfold waitL
        rw [List.getElem_map]
        unfold waitTx
        rw [hq, txOf_at hqs]
      rw [hq] at hcell hti
      rw [← txOf_txAt, txOf_at hqs] at hti
      have hPU := bufPutsW (w := wr.drew) (hS.up (below_drewN (Below.refl wr.heap.size wr) 1)) (L.length + (5 + (4 * q + 1))) (OL_get.trans (items_tx hc hqs 1 (by omega))) htx.bg HG.out.b2 (by have := htx.bl; omega)
      have hbl : (bufPuts s.txs[q].buf).length = s.txs[q].buf.length := bufPuts_len _
      have htb : (c.cs[q]).tb < w.heap.size := (Array.getElem?_eq_some_iff.1 (tx_heap h.out hc hqs)).1
      generalize (c.cs[q]).bb = bb at *
      generalize (c.cs[q]).tb = tb at *
      generalize s.txs[q].tm = tm at *
      generalize s.txs[q].buf = bf at *
      have HPU := Lib.hid hPU
      have HWL := Lib.hid hwl
      have HTI := Lib.hid hti
      have HBL := Lib.hid hbl
      clear hPU hwl hti hbl
      clear hS hcl htx hq hq1 hq2 hqm
      go_upto_region 5 with fail
      refine wp_regionG (fun W => W.cell? ⟨tb, 1, none⟩ = some (.int .i64 tm) ∧ W.cell? ⟨tb, 4, none⟩ = some (.pointer (some ⟨bb, 0, none⟩))) (n := 14) (by kernel_rfl) (by kernel_rfl) ?_
      refine wpG.take 0 (v := ?_) (a' := ?_) rfl (by kernel_rfl) (by kernel_rfl) (by kernel_rfl) (by kernel_rfl) (fun _ _ _ h => h) ?_ ?_ ?_
      rotate_left 2
      · intro W hW
        go_simp
        try with_reducible rfl
      · go_simp
        try with_reducible rfl
      refine wpG.take 1 (v := ?_) (a' := ?_) rfl (by kernel_rfl) (by kernel_rfl) (by kernel_rfl) (by kernel_rfl) (fun _ _ _ h => h) ?_ ?_ ?_
      rotate_left 2
      · intro W hW
        go_simp
        try with_reducible rfl
      · go_simp
        try with_reducible rfl
      refine wpG.take 2 (v := ?_) (a' := ?_) rfl (by kernel_rfl) (by kernel_rfl) (by kernel_rfl) (by kernel_rfl) (fun _ _ _ h => h) ?_ ?_ ?_
      rotate_left 2
      · intro W hW
        go_simp
        try with_reducible rfl
      · go_simp
        try with_reducible rfl
      refine wpG.take 3 (v := ?_) (a' := ?_) rfl (by kernel_rfl) (by kernel_rfl) (by kernel_rfl) (by kernel_rfl) (fun _ _ _ h => h) ?_ ?_ ?_
      rotate_left 2
      · intro W hW
        go_simp
        try with_reducible rfl
      · go_simp
        try with_reducible rfl
      refine wpG.take 4 (v := ?_) (a' := ?_) rfl (by kernel_rfl) (by kernel_rfl) (by kernel_rfl) (by kernel_rfl) (fun _ _ _ h => h) ?_ ?_ ?_
      rotate_left 2
      · intro W hW
        have hld0 := hW.1
        go_simp
        try with_reducible rfl
      · go_simp
        try with_reducible rfl
      refine wpG.take 5 (v := ?_) (a' := ?_) rfl (by kernel_rfl) (by kernel_rfl) (by kernel_rfl) (by kernel_rfl) (fun _ _ _ h => h) ?_ ?_ ?_
      rotate_left 2
      · intro W hW
        go_simp
        try with_reducible rfl
      · go_simp
        try with_reducible rfl
      refine wpG.take 6 (v := ?_) (a' := ?_) rfl (by kernel_rfl) (by kernel_rfl) (by kernel_rfl) (by kernel_rfl) (fun _ _ _ h => h) ?_ ?_ ?_
      rotate_left 2
      · intro W hW
        go_simp
        try with_reducible rfl
      · go_simp
        try with_reducible rfl
      refine wpG.take 7 (v := ?_) (a' := ?_) rfl (by kernel_rfl) (by kernel_rfl) (by kernel_rfl) (by kernel_rfl) (fun _ _ _ h => h) ?_ ?_ ?_
      rotate_left 2
      · intro W hW
        go_simp
        try with_reducible rfl
      · go_simp
        try with_reducible rfl
      refine wpG.take 8 (v := ?_) (a' := ?_) rfl (by kernel_rfl) (by kernel_rfl) (by kernel_rfl) (by kernel_rfl) (fun _ _ _ h => h) ?_ ?_ ?_
      rotate_left 2
      · intro W hW
        have hld0 := hW.2
        go_simp
        try with_reducible rfl
      · go_simp
        try with_reducible rfl
      refine wpG.alone 9 rfl (by kernel_rfl) (by kernel_rfl) (⟨t1, t4⟩) (fun K hK => ?_)
      go_simp
      go_at_call 77
      refine (HPU.out).mono ?_
      rintro e w2 ⟨pp, pc, rfl, HP2, HB2⟩
      have n1 := cell_up HB2.out t1
      have n4 := cell_up HB2.out t4
      try go_simp
      refine hK _ _ ?_
      clear hK K
      refine wpG.take 10 (v := ?_) (a' := ?_) rfl (by kernel_rfl) (by kernel_rfl) (by kernel_rfl) (by kernel_rfl) (fun _ _ _ h => h) ?_ ?_ ?_
      rotate_left 2
      · intro W hW
        go_simp
        try with_reducible rfl
      · go_simp
        try with_reducible rfl
      refine wpG.alone 11 rfl (by kernel_rfl) (by kernel_rfl) ⟨n1, n4⟩ (fun K hK => ?_)
      go_simp
      have hA := heap_alloc_new w2 (.cells #[.int .i64 tm, .slice pp bf.length pc] 70)
      have hbA := below_alloc w2 (.cells #[.int .i64 tm, .slice pp bf.length pc] 70)
      have hBA : Below wr.heap.size wr (w2.alloc (.cells #[.int .i64 tm, .slice pp bf.length pc] 70)) := Below.up (Below.up (below_drewN (Below.refl wr.heap.size wr) 1) HB2.out) hbA
      have htl : ((waitL s).take k).length = k := by rw [List.length_take, waitL_len]; omega
      have hz2 : wr.heap.size ≤ w2.heap.size := (Below.up (below_drewN (Below.refl wr.heap.size wr) 1) HB2.out).size
      have hown := (HO.out.own).choose_spec.lt
      have hp3 := PutsW.up HP2.out hbA
      obtain ⟨gg, cap, w6, hr6, hO6, hg6, hlow, hcap⟩ := (HO.out.up txRW_stable hBA).push (P := Tryz.prog) txRW_stable 40 40 ii _ 32 Tryz.underlying40 hii hiz hiy hix rfl (by decide) (D3 := New wr.drew w2) (cs := [.int .i64 tm, .slice pp bf.length pc]) (x := ⟨tm, bufPuts bf⟩) rfl ⟨_, rfl, HTI.out, hp3⟩
        (fun b hb => ⟨by have := hb.1; have := HB.out.size; have e : wr.drew.heap.size = wr.heap.size := rfl; omega, by have := hb.2; have := hbA.size; omega, fun e => by have := (hown b e).2; have := hb.1; have e2 : wr.drew.heap.size = wr.heap.size := rfl; omega⟩) ⟨w2.heap.size, 0, none⟩ 1 (World.news_of_block (cs := #[.int .i64 tm, .slice pp bf.length pc]) hA) (by simp [Value.oneCell']) (by rw [htl]; unfold maxLen; omega) (by rw [htl]; omega) (by have := HB.out.size; have := hbA.size; omega)
      rw [htl] at hr6 hO6 hcap
      have hB6 : Below w.heap.size w w6 := (Below.up HB.out hBA).grown hg6 (by have := HB.out.size; have := hBA.size; omega) hlow
      have z1 : w6.cell? ⟨tb, 1, none⟩ = some (.int .i64 tm) := (World.cell?_of_block (hg6.block tb (by have := HB.out.size; have := hBA.size; omega) (fun e => by have := hlow tb e.symm; omega))).trans (cell_up hbA n1)
      have z4 : w6.cell? ⟨tb, 4, none⟩ = some (.pointer (some ⟨bb, 0, none⟩)) := (World.cell?_of_block (hg6.block tb (by have := HB.out.size; have := hBA.size; omega) (fun e => by have := hlow tb e.symm; omega))).trans (cell_up hbA n4)
      have a1 := cell_up hbA n1
      have a4 := cell_up hbA n4
      rw [← HWL.out] at hO6
      have HO6 := Lib.hid hO6
      have HB6 := Lib.hid hB6
      have HCAP := Lib.hid hcap
      clear hO6 hB6 hcap
      clear hA hBA htl hz2 hown hp3 hg6 hlow hbA
      try go_simp
      refine hK _ _ ?_
      clear hK K
      refine wpG.alone 12 rfl (by kernel_rfl) (by kernel_rfl) ⟨a1, a4⟩ (fun K hK => ?_)
      refine wp_append_run (.tmp 21) (.tmp 32) 40 rfl rfl rfl hr6 ?_
      try go_simp
      refine hK _ _ ?_
      clear hK K
      refine wpG.take 13 (v := ?_) (a' := ?_) rfl (by kernel_rfl) (by kernel_rfl) (by kernel_rfl) (by kernel_rfl) (fun _ _ _ h => h) ?_ ?_ ?_
      rotate_left 2
      · intro W hW
        go_simp
        try with_reducible rfl
      · go_simp
        try with_reducible rfl
      refine wpG.done (by kernel_rfl) ⟨z1, z4⟩ ?_
      go_wp2_with fail
      go_roundw
      case rel => exact ⟨k + 1, _, _, _, by omega, by go_num, rfl, HCAP, HO6, HB6⟩
      case measure => simp [intOf]; omega
end
section
variable {W w : World} {L : List Asn} {i : Nat} {c : MgC} {s : MgS}
set_option maxRecDepth 100000 in
set_option maxHeartbeats 4000000 in
theorem batch_w (h : Hid (Sep W (OL L i (mgrItems c s)) w)) (hc : c.cs.length = s.txs.length) {n : Nat} (g : MgG n s) (hn : s.queue.length ≤ 1000000) (hnn : n ≤ 1000000) (hi : i < L.length) :
    Calls Tryz.prog 27 #[.pointer (some ⟨c.mb, 0, none⟩)] w fun e w' =>
      (baCode s ≠ 0 ∧ e = .returned (.tuple #[.agg #[.int .i64 0, .slice none 0 0], .int .i64 (baCode s)]) ∧ Hid (Sep W (OL L i (mgrItems c s)) w')) ∨
      (baCode s = 0 ∧ ∃ p cp, e = .returned (.tuple #[.agg #[.int .i64 (s.num + 1), .slice p (formN (waitL s)) cp], .int .i64 0]) ∧
        Hid (Sep W (OL (L ++ [TxsWA (.slice p (formN (waitL s)) cp) ((waitL s).take (formN (waitL s)))]) i (mgrItems c (baNext s))) w')) := by
  have HG : Hid (MgG n s) := g
  have h' : Hid (Sep W (OL (L ++ [BoxA w.heap.size #[.int .i64 0, .slice none 0 0] 42]) i (mgrItems c s)) (w.alloc (.cells #[.int .i64 0, .slice none 0 0] 42))) := h.out.boxed hi _ _
  obtain ⟨c0, _, _, c3, c4, c5, _⟩ := mgr_cells h'.out
  obtain ⟨qp, qc, hq0, hql⟩ := mgr_queue h'.out
  rw [hq0] at c3
  have HI := Lib.hid hi
  have HU := Lib.hid (h'.out.unbox hi)
  rw [List.append_nil] at HU
  clear g h hq0 hi
  by_cases ho : 0 < s.out
  case pos =>
    have HC : Hid (baCode s = 16) := if_pos ho
    go_enter Tryz.func27, Tryz.ntmps27
    go_wp2_with fail
    refine (gone_any c.mb c.m _ c0).mono ?_
    rintro e w1 ⟨rfl, rfl⟩
    go_wp2
    (try simp only [Exit.inBlock, Exit.then])
    refine ret_cell_tmp rfl (b := w.heap.size) (t := 42) (fr := (0, 0)) rfl (cs := #[.int .i64 0, .slice none 0 0]) ?_ (Tryz.underlying42) rfl (by kernel_rfl) rfl ?_
    · exact heap_alloc_new w _
    · exact .inl ⟨by rw [HC.out]; decide, by rw [HC.out]; rfl, HU⟩
  case neg =>
  by_cases hq : s.queue.length = 0
  case pos =>
    have HC : Hid (baCode s = 14) := by show _ = _; unfold baCode; rw [if_neg ho, if_pos hq]
    have hqz : ((s.queue.length : Int) == 0) = true := by rw [beq_iff_eq]; omega
    go_enter Tryz.func27, Tryz.ntmps27
    go_wp2_with fail
    refine (gone_any c.mb c.m _ c0).mono ?_
    rintro e w1 ⟨rfl, rfl⟩
    go_wp2
    (try simp only [Exit.inBlock, Exit.then])
    refine ret_cell_tmp rfl (b := w.heap.size) (t := 42) (fr := (0, 0)) rfl (cs := #[.int .i64 0, .slice none 0 0]) ?_ (Tryz.underlying42) rfl (by kernel_rfl) rfl ?_
    · exact heap_alloc_new w _
    · exact .inl ⟨by rw [HC.out]; decide, by rw [HC.out]; rfl, HU⟩
  case neg =>
    have HC : Hid (baCode s = 0) := by show _ = _; unfold baCode; rw [if_neg ho, if_neg hq]
    have hqz : ((s.queue.length : Int) == 0) = false := by rw [beq_eq_false_iff_ne]; omega
    have HN : Hid (baNext s = { s with out := formN (waitL s) }) := if_pos HC.out
    have hfb := formN_bd (waitL s)
    rw [waitL_len] at hfb
    have HFB := Lib.hid hfb
    have HWT := Lib.hid (waiting_w h' hc HG.out hn)
    clear hfb hq
    go_enter Tryz.func27, Tryz.ntmps27
    go_wp2_with fail
    refine (gone_any c.mb c.m _ c0).mono ?_
    rintro e w1 ⟨rfl, rfl⟩
    go_wp2_with fail
    refine (HWT.out).mono ?_
    rintro e w2 ⟨p, cp, rfl, hcp, HT2, HB2⟩
    have hS2 := (h'.out.new HB2.out (TxsWA (.slice p s.queue.length cp) (waitL s)) (fun _ h => h) HT2.out).shift (by simp; have := HI.out; omega)
    rw [List.append_assoc] at hS2
    have HS2 := Lib.hid hS2
    have HT3 : Hid (TxsAt (Old w2) w2 (.slice p s.queue.length cp) (waitL s)) := Go.Proofs.TxsAt.mono (TxsW.txs HT2.out) fun q hq => hq.2
    clear hS2 c3 c4 c5 c0
    go_wp2_with fail
    refine (form_any (Old w2) _ (waitL s) w2 (fun _ h => h) HT3.out).mono ?_
    rintro e w3 ⟨rfl, HB3⟩
    have HS3 := Lib.hid (HS2.out.up HB3.out)
    have f4 := mgr_free HS3.out 4
    obtain ⟨_, _, _, _, d4, d5, _⟩ := mgr_cells HS3.out
    have hS4 := mgr_store HS3.out 4 (.int .i64 (formN (waitL s))) { s with out := formN (waitL s) } rfl rfl rfl rfl rfl rfl rfl rfl
    rw [← HN.out] at hS4
    obtain ⟨hnum0, hnum1⟩ := HG.out.nm
    have hnum2 : s.num + 1 ≤ 9223372036854775807 := by omega
    obtain ⟨A, hA1, hA2, hA3⟩ := txCut_to p s.queue.length cp (formN (waitL s)) (by have := HFB.out; omega)
    have hS5 := hS4.up (below_drewN (Below.refl (w3.setCell ⟨c.mb, 4, none⟩ (.int .i64 (formN (waitL s)))).heap.size (w3.setCell ⟨c.mb, 4, none⟩ (.int .i64 (formN (waitL s))))) 1)
    obtain ⟨_, _, _, _, e4, e5, _⟩ := mgr_cells hS5
    have hbi : (OL (L ++ ([BoxA w.heap.size #[.int .i64 0, .slice none 0 0] 42] ++ [TxsWA (.slice p s.queue.length cp) (waitL s)])) i (mgrItems c (baNext s)))[L.length]? = some (BoxA w.heap.size #[.int .i64 0, .slice none 0 0] 42) := by
      rw [OL_old (by simp) (by have := HI.out; omega), List.getElem?_append_right (Nat.le_refl _), Nat.sub_self]; rfl
    have hti : (OL (L ++ ([BoxA w.heap.size #[.int .i64 0, .slice none 0 0] 42] ++ [TxsWA (.slice p s.queue.length cp) (waitL s)])) i (mgrItems c (baNext s)))[L.length + 1]? = some (TxsWA (.slice p s.queue.length cp) (waitL s)) := by
      rw [OL_old (by simp) (by have := HI.out; omega), List.getElem?_append_right (by omega), show L.length + 1 - L.length = 1 by omega]; rfl
    have hN4 : (baNext s).out = (formN (waitL s) : Int) := by rw [HN.out]
    have hN5 : (baNext s).num = s.num := by rw [HN.out]
    rw [hN4] at e4
    rw [hN5] at e5
    have HS5 := Lib.hid hS5
    have HS4 := Lib.hid hS4
    clear hS4 hS5
    obtain ⟨FB, hFB, _⟩ := HS3.out.get L.length (A := BoxA w.heap.size #[.int .i64 0, .slice none 0 0] 42) (by rw [OL_old (by simp) (by have := HI.out; omega), List.getElem?_append_right (Nat.le_refl _), Nat.sub_self]; rfl)
    have bf0 : w3.frozen? ⟨w.heap.size, 0, none⟩ = false := frozen_row0 hFB.2 0
    have bf1 : w3.frozen? ⟨w.heap.size, 1, none⟩ = false := frozen_row0 hFB.2 1
    have bc0 : w3.cell? ⟨w.heap.size, 0, none⟩ = some (.int .i64 0) := by rw [cell_row hFB.2]; rfl
    have bc1 : w3.cell? ⟨w.heap.size, 1, none⟩ = some (.slice none 0 0) := by rw [cell_row hFB.2]; rfl
    clear hFB
    go_upto_region 9 with fail
    refine wp_regionG (fun W => W.cell? ⟨c.mb, 4, none⟩ = some (.int .i64 (formN (waitL s))) ∧ W.cell? ⟨c.mb, 5, none⟩ = some (.int .i64 s.num)) (n := 14) (by kernel_rfl) (by kernel_rfl) ?_
    refine wpG.take 0 (v := ?_) (a' := ?_) rfl (by kernel_rfl) (by kernel_rfl) (by kernel_rfl) (by kernel_rfl) (fun _ _ _ h => h) ?_ ?_ ?_
    rotate_left 2
    · intro W hW
      go_simp
      try with_reducible rfl
    · go_simp
      try with_reducible rfl
    refine wpG.take 1 (v := ?_) (a' := ?_) rfl (by kernel_rfl) (by kernel_rfl) (by kernel_rfl) (by kernel_rfl) (fun _ _ _ h => h) ?_ ?_ ?_
    rotate_left 2
    · intro W hW
      go_simp
      try with_reducible rfl
    · go_simp
      try with_reducible rfl
    refine wpG.take 2 (v := ?_) (a' := ?_) rfl (by kernel_rfl) (by kernel_rfl) (by kernel_rfl) (by kernel_rfl) (fun _ _ _ h => h) ?_ ?_ ?_
    rotate_left 2
    · intro W hW
      go_simp
      try with_reducible rfl
    · go_simp
      try with_reducible rfl
    refine wpG.take 3 (v := ?_) (a' := ?_) rfl (by kernel_rfl) (by kernel_rfl) (by kernel_rfl) (by kernel_rfl) (fun _ _ _ h => h) ?_ ?_ ?_
    rotate_left 2
    · intro W hW
      have hld0 := hW.2
      go_simp
      try with_reducible rfl
    · go_simp
      try with_reducible rfl
    refine wpG.take 4 (v := ?_) (a' := ?_) rfl (by kernel_rfl) (by kernel_rfl) (by kernel_rfl) (by kernel_rfl) (fun _ _ _ h => h) ?_ ?_ ?_
    rotate_left 2
    · intro W hW
      go_simp
      try with_reducible rfl
    · go_simp
      try with_reducible rfl
    refine wpG.take 5 (v := ?_) (a' := ?_) rfl (by kernel_rfl) (by kernel_rfl) (by kernel_rfl) (by kernel_rfl) (fun _ _ _ h => h) ?_ ?_ ?_
    rotate_left 2
    · intro W hW
      go_simp
      try with_reducible rfl
    · go_simp
      try with_reducible rfl
    refine wpG.take 6 (v := ?_) (a' := ?_) rfl (by kernel_rfl) (by kernel_rfl) (by kernel_rfl) (by kernel_rfl) (fun _ _ _ h => h) ?_ ?_ ?_
    rotate_left 2
    · intro W hW
      go_simp
      try with_reducible rfl
    · go_simp
      try with_reducible rfl
    refine wpG.take 7 (v := ?_) (a' := ?_) rfl (by kernel_rfl) (by kernel_rfl) (by kernel_rfl) (by kernel_rfl) (fun _ _ _ h => h) ?_ ?_ ?_
    rotate_left 2
    · intro W hW
      go_simp
      try with_reducible rfl
    · go_simp
      try with_reducible rfl
    refine wpG.take 8 (v := ?_) (a' := ?_) rfl (by kernel_rfl) (by kernel_rfl) (by kernel_rfl) (by kernel_rfl) (fun _ _ _ h => h) ?_ ?_ ?_
    rotate_left 2
    · intro W hW
      go_simp
      try with_reducible rfl
    · go_simp
      try with_reducible rfl
    refine wpG.take 9 (v := ?_) (a' := ?_) rfl (by kernel_rfl) (by kernel_rfl) (by kernel_rfl) (by kernel_rfl) (fun _ _ _ h => h) ?_ ?_ ?_
    rotate_left 2
    · intro W hW
      have hld0 := hW.1
      go_simp
      try with_reducible rfl
    · go_simp
      try with_reducible rfl
    refine wpG.take 10 (v := ?_) (a' := ?_) rfl (by kernel_rfl) (by kernel_rfl) (by kernel_rfl) (by kernel_rfl) (fun _ _ _ h => h) ?_ ?_ ?_
    rotate_left 2
    · intro W hW
      go_simp
      try with_reducible rfl
    · go_simp
      try with_reducible rfl
    refine wpG.take 11 (v := ?_) (a' := ?_) rfl (by kernel_rfl) (by kernel_rfl) (by kernel_rfl) (by kernel_rfl) (fun _ _ _ h => h) ?_ ?_ ?_
    rotate_left 2
    · intro W hW
      go_simp
      try with_reducible rfl
    · go_simp
      try with_reducible rfl
    refine wpG.alone 12 rfl (by kernel_rfl) (by kernel_rfl) ⟨e4, e5⟩ (fun K hK => ?_)
    go_simp
    have hs6 := HS4.out.box_store L.length hbi 0 (.int .i64 (s.num + 1))
    have hs7 := hs6.box_store L.length (List.getElem?_set_self (List.getElem?_eq_some_iff.1 hbi).1) 1 (.slice A (formN (waitL s)) cp)
    rw [List.set_set] at hs7
    have hs8 := hs7.up (below_drewN (Below.refl _ _) 1)
    have hs9 := hs8.imp (L.length + 1) (A := TxsWA (.slice p s.queue.length cp) (waitL s)) (A' := TxsWA (.slice A (formN (waitL s)) cp) ((waitL s).take (formN (waitL s)))) (by rw [List.getElem?_set_ne (by omega)]; exact hti) fun F _ hF => TxsW.take (l := waitL s) (by rw [waitL_len]; exact hF) _ (formN_bd _).1 hA2 hA3
    have hle : ((OL (L ++ ([BoxA w.heap.size #[.int .i64 0, .slice none 0 0] 42] ++ [TxsWA (.slice p s.queue.length cp) (waitL s)])) i (mgrItems c (baNext s))).set L.length (BoxA w.heap.size #[.int .i64 (s.num + 1), .slice A (formN (waitL s)) cp] 42)).set (L.length + 1) (TxsWA (.slice A (formN (waitL s)) cp) ((waitL s).take (formN (waitL s)))) = OL (L ++ (BoxA w.heap.size #[.int .i64 (s.num + 1), .slice A (formN (waitL s)) cp] 42 :: [TxsWA (.slice A (formN (waitL s)) cp) ((waitL s).take (formN (waitL s)))])) i (mgrItems c (baNext s)) := by
      unfold OL
      have hiL := HI.out
      rw [List.set_append_left _ _ hiL, List.set_append_left _ _ hiL, List.append_assoc, List.append_assoc]
      have e0 : (L.set i TrueA).length = L.length := List.length_set ..
      rw [List.set_append_right _ _ (by rw [e0]; exact Nat.le_refl _), List.set_append_right _ _ (by rw [e0]; omega), e0, Nat.sub_self, show L.length + 1 - L.length = 1 by omega, List.append_assoc (L.set i TrueA)]
      rfl
    have hs10 : Sep W (OL (L ++ (BoxA w.heap.size #[.int .i64 (s.num + 1), .slice A (formN (waitL s)) cp] 42 :: [TxsWA (.slice A (formN (waitL s)) cp) ((waitL s).take (formN (waitL s)))])) i (mgrItems c (baNext s))) _ := hle ▸ hs9
    have HBX : Hid (_ ∧ _) := ⟨hs10.box_at HI.out 0, hs10⟩
    obtain ⟨FX, hFX, _⟩ := hs10.get L.length (A := BoxA w.heap.size #[.int .i64 (s.num + 1), .slice A (formN (waitL s)) cp] 42) (by rw [OL_old (by simp) (by have := HI.out; omega), List.getElem?_append_right (Nat.le_refl _), Nat.sub_self]; rfl)
    have hheap := hFX.2
    obtain ⟨_, _, _, _, g4, g5, _⟩ := mgr_cells hs10
    rw [hN4] at g4
    rw [hN5] at g5
    have HFIN := Lib.hid (hs10.unbox HI.out)
    have HHP := Lib.hid hheap
    have hwr : IntKind.i64.wrap (s.num + 1) = s.num + 1 := IntWalk.i64_in _ (by omega)
    rw [hwr]
    clear hs6 hs7 hs8 hs9 hle hs10 HBX hFX hheap hti hbi bc0 bc1 bf0 bf1 d4 d5 f4
    try go_simp
    refine hK _ _ ?_
    clear hK K
    refine wpG.take 13 (v := ?_) (a' := ?_) rfl (by kernel_rfl) (by kernel_rfl) (by kernel_rfl) (by kernel_rfl) (fun _ _ _ h => h) ?_ ?_ ?_
    rotate_left 2
    · intro W hW
      go_simp
      try with_reducible rfl
    · go_simp
      try with_reducible rfl
    refine wpG.done (by kernel_rfl) ⟨g4, g5⟩ ?_
    go_wp2
    (try simp only [Exit.inBlock, Exit.then])
    refine ret_cell_tmp rfl (b := w.heap.size) (t := 42) (fr := (0, 0)) rfl (cs := #[.int .i64 (s.num + 1), .slice A (formN (waitL s)) cp]) ?_ (Tryz.underlying42) rfl (by kernel_rfl) rfl ?_
    · exact HHP.out
    · exact .inr ⟨HC.out, A, cp, rfl, HFIN⟩
theorem mgBatch_w {W w : World} {L : List Asn} (h : Hid (Sep W L w)) (i : Nat) {b : Nat} {s : MgS} (hi : L[i]? = some (MgrA (pt b) s)) {n : Nat} (g : MgG n s) (hn : s.queue.length ≤ 1000000) (hnn : n ≤ 1000000) :
    Calls Tryz.prog 27 #[.pointer (some ⟨b, 0, none⟩)] w fun e w' =>
      (baCode s ≠ 0 ∧ e = .returned (.tuple #[.agg #[.int .i64 0, .slice none 0 0], .int .i64 (baCode s)]) ∧ Hid (Sep W L w')) ∨
      (baCode s = 0 ∧ ∃ p cp, e = .returned (.tuple #[.agg #[.int .i64 (s.num + 1), .slice p (formN (waitL s)) cp], .int .i64 0]) ∧
        Hid (Sep W ((L ++ [TxsWA (.slice p (formN (waitL s)) cp) ((waitL s).take (formN (waitL s)))]).set i (MgrA (pt b) (baNext s))) w')) := by
  obtain ⟨c, rfl, hc, hS, hil⟩ := MgrA.open' h i hi
  refine (batch_w hS hc g hn hnn hil).mono ?_
  rintro e w' (⟨h1, rfl, hS'⟩ | ⟨h1, p, cp, rfl, hS'⟩)
  · refine .inl ⟨h1, rfl, ?_⟩
    have := MgrA.closed hS'.out hil hc
    rwa [set_same hi] at this
  · exact .inr ⟨h1, p, cp, rfl, MgrA.closed hS'.out (by simp; omega) (by rw [baNext_txs]; exact hc)⟩
end
end Go.Proofs
