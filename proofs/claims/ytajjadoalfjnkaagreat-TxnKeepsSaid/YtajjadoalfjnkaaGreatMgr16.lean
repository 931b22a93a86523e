/- A manager: History, whose reads and Puts may be written. -/
import Derived.Test.YtajjadoalfjnkaaGreatWaitW
import Derived.Test.YtajjadoalfjnkaaGreatReadsW
import Derived.Test.YtajjadoalfjnkaaGreatTx7
namespace Go.Proofs
open Go.RowKit Sc
/-- A result that lies in a cell. -/
theorem ret_cell_one {P : Program} {fn : Func} {R : Ending → World → Prop} {a : Act} {w : World} {p : Tmp} {ty t : TypeId} {b : Nat} {cs : Array Value} {fr : Nat × Nat} {d : TypeDesc}
    (h : fn.results = #[.cell p ty]) (hp : a.tmps.getD p undef = .pointer (some ⟨b, 0, none⟩)) (hg : w.heap[b]? = some (.cells cs t fr))
    (hu : P.underlying ty = some d) (hd : (match d with | .struct _ | .array _ _ => true | _ => false) = true) (hi : (P.info? ty).map (·.size) = some cs.size) (hf : a.defers = [])
    (hR : R (.returned (.agg cs)) w) : bodyPost P fn R .ret a w :=
  ⟨hf, _, results_cell_row h a.tmps w b t cs fr d hp hg hu hd hi, hR⟩
theorem box_fill7 {W w : World} {L : List Asn} {i b : Nat} {u0 u1 u2 u3 u4 u5 u6 : Value} {T : TypeId} (h : Sep W L w) (hi : L[i]? = some (BoxA b #[u0, u1, u2, u3, u4, u5, u6] T)) (v0 v1 v2 v3 v4 v5 v6 : Value) :
    Sep W (L.set i (BoxA b #[v0, v1, v2, v3, v4, v5, v6] T)) (((((((w.setCell ⟨b, 0, none⟩ v0).setCell ⟨b, 1, none⟩ v1).setCell ⟨b, 2, none⟩ v2).setCell ⟨b, 3, none⟩ v3).setCell ⟨b, 4, none⟩ v4).setCell ⟨b, 5, none⟩ v5).setCell ⟨b, 6, none⟩ v6) := by
  have hil := (List.getElem?_eq_some_iff.1 hi).1
  have key : ∀ {w : World} {cs : Array Value} (_ : Sep W (L.set i (BoxA b cs T)) w) (j : Nat) (v : Value), Sep W (L.set i (BoxA b (cs.setIfInBounds j v) T)) (w.setCell ⟨b, j, none⟩ v) := fun hs j v => by
    have := hs.box_store i (List.getElem?_set_self hil) j v
    rwa [List.set_set] at this
  have h0 : Sep W (L.set i (BoxA b #[u0, u1, u2, u3, u4, u5, u6] T)) w := by rw [set_same hi]; exact h
  have h1 : Sep W (L.set i (BoxA b #[v0, u1, u2, u3, u4, u5, u6] T)) (w.setCell ⟨b, 0, none⟩ v0) := key h0 0 v0
  have h2 : Sep W (L.set i (BoxA b #[v0, v1, u2, u3, u4, u5, u6] T)) ((w.setCell ⟨b, 0, none⟩ v0).setCell ⟨b, 1, none⟩ v1) := key h1 1 v1
  have h3 : Sep W (L.set i (BoxA b #[v0, v1, v2, u3, u4, u5, u6] T)) (((w.setCell ⟨b, 0, none⟩ v0).setCell ⟨b, 1, none⟩ v1).setCell ⟨b, 2, none⟩ v2) := key h2 2 v2
  have h4 : Sep W (L.set i (BoxA b #[v0, v1, v2, v3, u4, u5, u6] T)) ((((w.setCell ⟨b, 0, none⟩ v0).setCell ⟨b, 1, none⟩ v1).setCell ⟨b, 2, none⟩ v2).setCell ⟨b, 3, none⟩ v3) := key h3 3 v3
  have h5 : Sep W (L.set i (BoxA b #[v0, v1, v2, v3, v4, u5, u6] T)) (((((w.setCell ⟨b, 0, none⟩ v0).setCell ⟨b, 1, none⟩ v1).setCell ⟨b, 2, none⟩ v2).setCell ⟨b, 3, none⟩ v3).setCell ⟨b, 4, none⟩ v4) := key h4 4 v4
  have h6 : Sep W (L.set i (BoxA b #[v0, v1, v2, v3, v4, v5, u6] T)) ((((((w.setCell ⟨b, 0, none⟩ v0).setCell ⟨b, 1, none⟩ v1).setCell ⟨b, 2, none⟩ v2).setCell ⟨b, 3, none⟩ v3).setCell ⟨b, 4, none⟩ v4).setCell ⟨b, 5, none⟩ v5) := key h5 5 v5
  have h7 : Sep W (L.set i (BoxA b #[v0, v1, v2, v3, v4, v5, v6] T)) (((((((w.setCell ⟨b, 0, none⟩ v0).setCell ⟨b, 1, none⟩ v1).setCell ⟨b, 2, none⟩ v2).setCell ⟨b, 3, none⟩ v3).setCell ⟨b, 4, none⟩ v4).setCell ⟨b, 5, none⟩ v5).setCell ⟨b, 6, none⟩ v6) := key h6 6 v6
  exact h7
def histV (t : TxS) (rp pp : Option Addr) (rc pc : Nat) : Value := .agg #[.int .i64 t.st, .int .i64 t.at', .int .i64 t.tm, .int .i64 0, .int .i64 0, .slice rp t.R.length rc, .slice pp t.buf.length pc]
section
variable {W w : World} {L : List Asn} {i : Nat} {c : MgC} {s : MgS}
set_option maxRecDepth 100000 in
set_option maxHeartbeats 4000000 in
theorem history_core (h : Hid (Sep W (OL L i (mgrItems c s)) w)) (hc : c.cs.length = s.txs.length) {n : Nat} (g : MgG n s) (hn : n ≤ 1000000) (hi : i < L.length) {k : Nat} (hks : k < s.txs.length) :
    Calls Tryz.prog 40 #[.pointer (some ⟨c.mb, 0, none⟩), .int .i64 ((k : Int) + 1)] w fun e w' => ∃ rp rc pp pc, e = .returned (histV s.txs[k] rp pp rc pc) ∧
      Hid (Sep W (OL (L ++ [ReadsWA (.slice rp s.txs[k].R.length rc) s.txs[k].R, PutsWA (.slice pp s.txs[k].buf.length pc) (bufPuts s.txs[k].buf)]) i (mgrItems c s)) w') := by
  have h' : Hid (Sep W (OL (L ++ [BoxA w.heap.size #[.int .i64 0, .int .i64 0, .int .i64 0, .int .i64 0, .int .i64 0, .slice none 0 0, .slice none 0 0] 73]) i (mgrItems c s)) (w.alloc (.cells #[.int .i64 0, .int .i64 0, .int .i64 0, .int .i64 0, .int .i64 0, .slice none 0 0, .slice none 0 0] 73))) := h.out.boxed hi _ _
  obtain ⟨c0, _, c2, _⟩ := mgr_cells h'.out
  have hkc : k < c.cs.length := by omega
  have hl := (mgr_map h'.out).lookup Tryz.underlying104 Tryz.underlying3 (Tryz.zeroValue111 (w.alloc (.cells #[.int .i64 0, .int .i64 0, .int .i64 0, .int .i64 0, .int .i64 0, .slice none 0 0, .slice none 0 0] 73))) ((k : Int) + 1) true
  rw [look_ml hkc] at hl
  simp only [Option.getD_some, Option.isSome_some, if_true] at hl
  have htg := g.tx _ (List.getElem_mem hks)
  have hlL : (L ++ [BoxA w.heap.size #[.int .i64 0, .int .i64 0, .int .i64 0, .int .i64 0, .int .i64 0, .slice none 0 0, .slice none 0 0] 73]).length = L.length + 1 := by simp
  have hd := h'.out.up (below_drewN (Below.refl (w.alloc (.cells #[.int .i64 0, .int .i64 0, .int .i64 0, .int .i64 0, .int .i64 0, .slice none 0 0, .slice none 0 0] 73)).heap.size (w.alloc (.cells #[.int .i64 0, .int .i64 0, .int .i64 0, .int .i64 0, .int .i64 0, .slice none 0 0, .slice none 0 0] 73))) 1)
  have hcl := (tx_cells hd hc hks).1
  have t0 := hcl 0
  have t1 := hcl 1
  have t3 := hcl 3
  have t4 := hcl 4
  have t5 := hcl 5
  change _ = some (Value.int .i64 s.txs[k].st) at t0
  change _ = some (Value.int .i64 s.txs[k].tm) at t1
  change _ = some (Value.int .i64 s.txs[k].at') at t3
  change _ = some (Value.pointer (some ⟨(c.cs[k]).bb, 0, none⟩)) at t4
  change _ = some (Value.pointer (some ⟨(c.cs[k]).vb, 0, none⟩)) at t5
  have hrd := viewReads_sepW (Lib.hid hd) (L.length + 1 + (5 + (4 * k + 3))) (by rw [← hlL]; exact OL_get.trans (items_tx hc hks 3 (by omega))) (fun x hx => by have := htg.rd x hx; omega) (by have := htg.rl; omega)
  have HTG := Lib.hid htg
  have HD := Lib.hid hd
  have HG : Hid (MgG n s) := g
  have HI := Lib.hid hi
  have HRD := Lib.hid hrd
  have HCL := Lib.hid hcl
  clear hrd hcl
  clear htg hd g h hi
  go_enter Tryz.func40, Tryz.ntmps40
  go_wp2_with fail
  refine (gone_any c.mb c.m _ c0).mono ?_
  rintro e w1 ⟨rfl, rfl⟩
  clear c0
  generalize hW1 : w.alloc (.cells #[.int .i64 0, .int .i64 0, .int .i64 0, .int .i64 0, .int .i64 0, .slice none 0 0, .slice none 0 0] 73) = w1 at *
  generalize hwz : w.heap.size = wz at *
  generalize htb : (c.cs[k]).tb = tb at *
  go_upto_region 6 with fail
  refine wp_regionG (fun W => W.cell? ⟨tb, 0, none⟩ = some (.int .i64 s.txs[k].st) ∧ W.cell? ⟨tb, 3, none⟩ = some (.int .i64 s.txs[k].at') ∧ W.cell? ⟨tb, 1, none⟩ = some (.int .i64 s.txs[k].tm) ∧ W.cell? ⟨tb, 5, none⟩ = some (.pointer (some ⟨(c.cs[k]).vb, 0, none⟩)) ∧ W.cell? ⟨tb, 4, none⟩ = some (.pointer (some ⟨(c.cs[k]).bb, 0, none⟩))) (n := 24) (by kernel_rfl) (by kernel_rfl) ?_
  refine wpG.take 0 (v := ?_) (a' := ?_) rfl (by kernel_rfl) (by kernel_rfl) (by kernel_rfl) (by kernel_rfl) (fun _ _ _ h => h) ?_ ?_ ?_
  rotate_left 2
  · intro W hW
    go_simp
    try with_reducible rfl
  · go_simp
    try with_reducible rfl
  refine wpG.take 1 (v := ?_) (a' := ?_) rfl (by kernel_rfl) (by kernel_rfl) (by kernel_rfl) (by kernel_rfl) (fun _ _ _ h => h) ?_ ?_ ?_
  rotate_left 2
  · intro W hW
    go_simp
    try with_reducible rfl
  · go_simp
    try with_reducible rfl
  refine wpG.take 2 (v := ?_) (a' := ?_) rfl (by kernel_rfl) (by kernel_rfl) (by kernel_rfl) (by kernel_rfl) (fun _ _ _ h => h) ?_ ?_ ?_
  rotate_left 2
  · intro W hW
    go_simp
    try with_reducible rfl
  · go_simp
    try with_reducible rfl
  refine wpG.take 3 (v := ?_) (a' := ?_) rfl (by kernel_rfl) (by kernel_rfl) (by kernel_rfl) (by kernel_rfl) (fun _ _ _ h => h) ?_ ?_ ?_
  rotate_left 2
  · intro W hW
    have hld0 := hW.1
    go_simp
    try with_reducible rfl
  · go_simp
    try with_reducible rfl
  refine wpG.take 4 (v := ?_) (a' := ?_) rfl (by kernel_rfl) (by kernel_rfl) (by kernel_rfl) (by kernel_rfl) (fun _ _ _ h => h) ?_ ?_ ?_
  rotate_left 2
  · intro W hW
    go_simp
    try with_reducible rfl
  · go_simp
    try with_reducible rfl
  refine wpG.take 5 (v := ?_) (a' := ?_) rfl (by kernel_rfl) (by kernel_rfl) (by kernel_rfl) (by kernel_rfl) (fun _ _ _ h => h) ?_ ?_ ?_
  rotate_left 2
  · intro W hW
    go_simp
    try with_reducible rfl
  · go_simp
    try with_reducible rfl
  refine wpG.take 6 (v := ?_) (a' := ?_) rfl (by kernel_rfl) (by kernel_rfl) (by kernel_rfl) (by kernel_rfl) (fun _ _ _ h => h) ?_ ?_ ?_
  rotate_left 2
  · intro W hW
    go_simp
    try with_reducible rfl
  · go_simp
    try with_reducible rfl
  refine wpG.take 7 (v := ?_) (a' := ?_) rfl (by kernel_rfl) (by kernel_rfl) (by kernel_rfl) (by kernel_rfl) (fun _ _ _ h => h) ?_ ?_ ?_
  rotate_left 2
  · intro W hW
    have hld0 := hW.2.1
    go_simp
    try with_reducible rfl
  · go_simp
    try with_reducible rfl
  refine wpG.take 8 (v := ?_) (a' := ?_) rfl (by kernel_rfl) (by kernel_rfl) (by kernel_rfl) (by kernel_rfl) (fun _ _ _ h => h) ?_ ?_ ?_
  rotate_left 2
  · intro W hW
    go_simp
    try with_reducible rfl
  · go_simp
    try with_reducible rfl
  refine wpG.take 9 (v := ?_) (a' := ?_) rfl (by kernel_rfl) (by kernel_rfl) (by kernel_rfl) (by kernel_rfl) (fun _ _ _ h => h) ?_ ?_ ?_
  rotate_left 2
  · intro W hW
    go_simp
    try with_reducible rfl
  · go_simp
    try with_reducible rfl
  refine wpG.take 10 (v := ?_) (a' := ?_) rfl (by kernel_rfl) (by kernel_rfl) (by kernel_rfl) (by kernel_rfl) (fun _ _ _ h => h) ?_ ?_ ?_
  rotate_left 2
  · intro W hW
    go_simp
    try with_reducible rfl
  · go_simp
    try with_reducible rfl
  refine wpG.take 11 (v := ?_) (a' := ?_) rfl (by kernel_rfl) (by kernel_rfl) (by kernel_rfl) (by kernel_rfl) (fun _ _ _ h => h) ?_ ?_ ?_
  rotate_left 2
  · intro W hW
    have hld0 := hW.2.2.1
    go_simp
    try with_reducible rfl
  · go_simp
    try with_reducible rfl
  refine wpG.take 12 (v := ?_) (a' := ?_) rfl (by kernel_rfl) (by kernel_rfl) (by kernel_rfl) (by kernel_rfl) (fun _ _ _ h => h) ?_ ?_ ?_
  rotate_left 2
  · intro W hW
    go_simp
    try with_reducible rfl
  · go_simp
    try with_reducible rfl
  refine wpG.take 13 (v := ?_) (a' := ?_) rfl (by kernel_rfl) (by kernel_rfl) (by kernel_rfl) (by kernel_rfl) (fun _ _ _ h => h) ?_ ?_ ?_
  rotate_left 2
  · intro W hW
    go_simp
    try with_reducible rfl
  · go_simp
    try with_reducible rfl
  refine wpG.take 14 (v := ?_) (a' := ?_) rfl (by kernel_rfl) (by kernel_rfl) (by kernel_rfl) (by kernel_rfl) (fun _ _ _ h => h) ?_ ?_ ?_
  rotate_left 2
  · intro W hW
    go_simp
    try with_reducible rfl
  · go_simp
    try with_reducible rfl
  refine wpG.take 15 (v := ?_) (a' := ?_) rfl (by kernel_rfl) (by kernel_rfl) (by kernel_rfl) (by kernel_rfl) (fun _ _ _ h => h) ?_ ?_ ?_
  rotate_left 2
  · intro W hW
    have hld0 := hW.2.2.2.1
    go_simp
    try with_reducible rfl
  · go_simp
    try with_reducible rfl
  refine wpG.take 17 (v := ?_) (a' := ?_) rfl (by kernel_rfl) (by kernel_rfl) (by kernel_rfl) (by kernel_rfl) (fun _ _ _ h => h) ?_ ?_ ?_
  rotate_left 2
  · intro W hW
    go_simp
    try with_reducible rfl
  · go_simp
    try with_reducible rfl
  refine wpG.take 18 (v := ?_) (a' := ?_) rfl (by kernel_rfl) (by kernel_rfl) (by kernel_rfl) (by kernel_rfl) (fun _ _ _ h => h) ?_ ?_ ?_
  rotate_left 2
  · intro W hW
    go_simp
    try with_reducible rfl
  · go_simp
    try with_reducible rfl
  refine wpG.take 19 (v := ?_) (a' := ?_) rfl (by kernel_rfl) (by kernel_rfl) (by kernel_rfl) (by kernel_rfl) (fun _ _ _ h => h) ?_ ?_ ?_
  rotate_left 2
  · intro W hW
    go_simp
    try with_reducible rfl
  · go_simp
    try with_reducible rfl
  refine wpG.take 20 (v := ?_) (a' := ?_) rfl (by kernel_rfl) (by kernel_rfl) (by kernel_rfl) (by kernel_rfl) (fun _ _ _ h => h) ?_ ?_ ?_
  rotate_left 2
  · intro W hW
    have hld0 := hW.2.2.2.2
    go_simp
    try with_reducible rfl
  · go_simp
    try with_reducible rfl
  refine wpG.alone 16 rfl (by kernel_rfl) (by kernel_rfl) (⟨t0, t3, t1, t5, t4⟩) (fun K hK => ?_)
  go_simp
  go_at_call 76
  refine (HRD.out).mono ?_
  rintro e w2 ⟨rp, rc, rfl, HR2, HB2⟩
  have n0 := cell_up HB2.out t0
  have n1 := cell_up HB2.out t1
  have n3 := cell_up HB2.out t3
  have n4 := cell_up HB2.out t4
  have n5 := cell_up HB2.out t5
  have hs2 := (HD.out.new HB2.out (ReadsWA (.slice rp s.txs[k].R.length rc) s.txs[k].R) (fun _ h => h) HR2.out).shift (by simp; have := HI.out; omega)
  have hpu := bufPutsW (Lib.hid hs2) (L.length + 1 + 1 + (5 + (4 * k + 1))) (by rw [← hlL, ← List.length_singleton (a := ReadsWA (.slice rp s.txs[k].R.length rc) s.txs[k].R), ← List.length_append]; exact OL_get.trans (items_tx hc hks 1 (by omega))) HTG.out.bg HG.out.b2 (by have := HTG.out.bl; omega)
  have HPU := Lib.hid hpu
  have HS2 := Lib.hid hs2
  clear hpu hs2 t0 t1 t3 t4 t5
  try go_simp
  refine hK _ _ ?_
  clear hK K
  refine wpG.alone 21 rfl (by kernel_rfl) (by kernel_rfl) (⟨n0, n3, n1, n5, n4⟩) (fun K hK => ?_)
  go_simp
  go_at_call 77
  refine (HPU.out).mono ?_
  rintro e w3 ⟨pp, pc, rfl, HP3, HB3⟩
  have m0 := cell_up HB3.out n0
  have m1 := cell_up HB3.out n1
  have m3 := cell_up HB3.out n3
  have m4 := cell_up HB3.out n4
  have m5 := cell_up HB3.out n5
  have hs3 := (HS2.out.new HB3.out (PutsWA (.slice pp s.txs[k].buf.length pc) (bufPuts s.txs[k].buf)) (fun _ h => h) HP3.out).shift (by simp; have := HI.out; omega)
  rw [List.append_assoc, List.append_assoc] at hs3
  have hbi : (OL (L ++ ([BoxA wz #[.int .i64 0, .int .i64 0, .int .i64 0, .int .i64 0, .int .i64 0, .slice none 0 0, .slice none 0 0] 73] ++ ([ReadsWA (.slice rp s.txs[k].R.length rc) s.txs[k].R] ++ [PutsWA (.slice pp s.txs[k].buf.length pc) (bufPuts s.txs[k].buf)]))) i (mgrItems c s))[L.length]? = some (BoxA wz #[.int .i64 0, .int .i64 0, .int .i64 0, .int .i64 0, .int .i64 0, .slice none 0 0, .slice none 0 0] 73) := by
    rw [OL_old (by simp) (by have := HI.out; omega), List.getElem?_append_right (Nat.le_refl _), Nat.sub_self]; rfl
  obtain ⟨FB, hFB, _⟩ := hs3.get L.length hbi
  have bf0 : w3.frozen? ⟨wz, 0, none⟩ = false := frozen_row0 hFB.2 0
  have bf1 : w3.frozen? ⟨wz, 1, none⟩ = false := frozen_row0 hFB.2 1
  have bf2 : w3.frozen? ⟨wz, 2, none⟩ = false := frozen_row0 hFB.2 2
  have bf3 : w3.frozen? ⟨wz, 3, none⟩ = false := frozen_row0 hFB.2 3
  have bf4 : w3.frozen? ⟨wz, 4, none⟩ = false := frozen_row0 hFB.2 4
  have bf5 : w3.frozen? ⟨wz, 5, none⟩ = false := frozen_row0 hFB.2 5
  have bf6 : w3.frozen? ⟨wz, 6, none⟩ = false := frozen_row0 hFB.2 6
  have bc0 : w3.cell? ⟨wz, 0, none⟩ = some (.int .i64 0) := by rw [cell_row hFB.2]; rfl
  have bc1 : w3.cell? ⟨wz, 1, none⟩ = some (.int .i64 0) := by rw [cell_row hFB.2]; rfl
  have bc2 : w3.cell? ⟨wz, 2, none⟩ = some (.int .i64 0) := by rw [cell_row hFB.2]; rfl
  have bc3 : w3.cell? ⟨wz, 3, none⟩ = some (.int .i64 0) := by rw [cell_row hFB.2]; rfl
  have bc4 : w3.cell? ⟨wz, 4, none⟩ = some (.int .i64 0) := by rw [cell_row hFB.2]; rfl
  have bc5 : w3.cell? ⟨wz, 5, none⟩ = some (.slice none 0 0) := by rw [cell_row hFB.2]; rfl
  have bc6 : w3.cell? ⟨wz, 6, none⟩ = some (.slice none 0 0) := by rw [cell_row hFB.2]; rfl
  have hs4 := box_fill7 hs3 hbi (.int .i64 s.txs[k].st) (.int .i64 s.txs[k].at') (.int .i64 s.txs[k].tm) (.int .i64 0) (.int .i64 0) (.slice rp s.txs[k].R.length rc) (.slice pp s.txs[k].buf.length pc)
  have hle : (OL (L ++ ([BoxA wz #[.int .i64 0, .int .i64 0, .int .i64 0, .int .i64 0, .int .i64 0, .slice none 0 0, .slice none 0 0] 73] ++ ([ReadsWA (.slice rp s.txs[k].R.length rc) s.txs[k].R] ++ [PutsWA (.slice pp s.txs[k].buf.length pc) (bufPuts s.txs[k].buf)]))) i (mgrItems c s)).set L.length (BoxA wz #[.int .i64 s.txs[k].st, .int .i64 s.txs[k].at', .int .i64 s.txs[k].tm, .int .i64 0, .int .i64 0, .slice rp s.txs[k].R.length rc, .slice pp s.txs[k].buf.length pc] 73) =
      OL (L ++ (BoxA wz #[.int .i64 s.txs[k].st, .int .i64 s.txs[k].at', .int .i64 s.txs[k].tm, .int .i64 0, .int .i64 0, .slice rp s.txs[k].R.length rc, .slice pp s.txs[k].buf.length pc] 73 :: [ReadsWA (.slice rp s.txs[k].R.length rc) s.txs[k].R, PutsWA (.slice pp s.txs[k].buf.length pc) (bufPuts s.txs[k].buf)])) i (mgrItems c s) := by
    unfold OL
    have hiL := HI.out
    rw [List.set_append_left _ _ hiL, List.set_append_left _ _ hiL, List.append_assoc, List.append_assoc]
    have e0 : (L.set i TrueA).length = L.length := List.length_set ..
    rw [List.set_append_right _ _ (by rw [e0]; exact Nat.le_refl _), e0, Nat.sub_self, List.append_assoc (L.set i TrueA)]
    rfl
  have hs5 := hle ▸ hs4
  have hz := hs5.box_at HI.out 0
  obtain ⟨FX, hFX, _⟩ := hs5.get L.length (A := BoxA wz #[.int .i64 s.txs[k].st, .int .i64 s.txs[k].at', .int .i64 s.txs[k].tm, .int .i64 0, .int .i64 0, .slice rp s.txs[k].R.length rc, .slice pp s.txs[k].buf.length pc] 73) (by rw [OL_old (by simp) (by have := HI.out; omega), List.getElem?_append_right (Nat.le_refl _), Nat.sub_self]; rfl)
  have HHP := Lib.hid hFX.2
  have hcx := (tx_cells hs5 hc hks).1
  rw [htb] at hcx
  have z0 := hcx 0
  have z1 := hcx 1
  have z3 := hcx 3
  have z4 := hcx 4
  have z5 := hcx 5
  change _ = some (Value.int .i64 s.txs[k].st) at z0
  change _ = some (Value.int .i64 s.txs[k].tm) at z1
  change _ = some (Value.int .i64 s.txs[k].at') at z3
  change _ = some (Value.pointer (some ⟨(c.cs[k]).bb, 0, none⟩)) at z4
  change _ = some (Value.pointer (some ⟨(c.cs[k]).vb, 0, none⟩)) at z5
  have HFIN := Lib.hid (hs5.unbox HI.out)
  clear hs3 hs4 hs5 hle hbi hFB hFX hcx hz n0 n1 n3 n4 n5 HCL
  try go_simp
  refine hK _ _ ?_
  clear hK K
  refine wpG.take 22 (v := ?_) (a' := ?_) rfl (by kernel_rfl) (by kernel_rfl) (by kernel_rfl) (by kernel_rfl) (fun _ _ _ h => h) ?_ ?_ ?_
  rotate_left 2
  · intro W hW
    go_simp
    try with_reducible rfl
  · go_simp
    try with_reducible rfl
  refine wpG.alone 23 rfl (by kernel_rfl) (by kernel_rfl) ⟨m0, m3, m1, m5, m4⟩ (fun K hK => ?_)
  go_simp
  try go_simp
  refine hK _ _ ?_
  clear hK K
  refine wpG.done (by kernel_rfl) ⟨z0, z3, z1, z5, z4⟩ ?_
  go_wp2
  (try simp only [Exit.inBlock, Exit.then])
  refine ret_cell_one rfl (b := wz) (t := 73) (fr := (0, 0)) rfl (cs := #[.int .i64 s.txs[k].st, .int .i64 s.txs[k].at', .int .i64 s.txs[k].tm, .int .i64 0, .int .i64 0, .slice rp s.txs[k].R.length rc, .slice pp s.txs[k].buf.length pc]) ?_ (Tryz.underlying73) rfl (by kernel_rfl) rfl ?_
  · exact HHP.out
  · exact ⟨rp, rc, pp, pc, rfl, HFIN⟩
end
theorem mgHistory_sep {W w : World} {L : List Asn} (h : Hid (Sep W L w)) (i : Nat) {b : Nat} {s : MgS} (hi : L[i]? = some (MgrA (pt b) s)) {n : Nat} (g : MgG n s) (hn : n ≤ 1000000) {hd : Int} (h1 : 1 ≤ hd) (h2 : hd ≤ s.txs.length) :
    Calls Tryz.prog 40 #[.pointer (some ⟨b, 0, none⟩), .int .i64 hd] w fun e w' => ∃ rp rc pp pc, e = .returned (histV (txAt s.txs hd) rp pp rc pc) ∧
      Hid (Sep W ((L ++ [ReadsWA (.slice rp (txAt s.txs hd).R.length rc) (txAt s.txs hd).R, PutsWA (.slice pp (txAt s.txs hd).buf.length pc) (bufPuts (txAt s.txs hd).buf)]).set i (MgrA (pt b) s)) w') := by
  obtain ⟨c, rfl, hc, hS, hil⟩ := MgrA.open' h i hi
  obtain ⟨k, rfl⟩ : ∃ k : Nat, hd = (k : Int) + 1 := ⟨(hd - 1).toNat, by omega⟩
  have hks : k < s.txs.length := by omega
  have e : txAt s.txs ((k : Int) + 1) = s.txs[k] := by rw [← txOf_txAt, txOf_at hks]
  rw [e]
  refine (history_core hS hc g hn hil hks).mono ?_
  rintro r w' ⟨rp, rc, pp, pc, rfl, hS'⟩
  exact ⟨rp, rc, pp, pc, rfl, MgrA.closed hS'.out (by simp; omega) hc⟩
end Go.Proofs
