/- Texts of this claim, one behind the other: Mgr14, Ext10, MgrSep, Mgr15, TxnP, Awake23. -/
import Derived.Deep.RegionLaw
import Derived.BigQuiet
import Derived.Deep.QuietTactic
import Derived.Test.YtajjadoalfjnkaaGreatTx6

/- A manager: Done. -/
namespace Go.Proofs
open Go.RowKit Sc
set_option maxHeartbeats 400000 in
theorem cloneI_nil (w : World) : Calls Tryz.prog 69 #[.slice none 0 0] w fun e w' => e = .returned (.slice none 0 0) ∧ w = w' := by
  have heq := fun (W : World) => Lib.run_eql_slice_nil (P := Tryz.prog) W 91 3 none 0 0 0 0 Tryz.underlying91
  go_enter Tryz.func69, Tryz.ntmps69
  go_wp2
  go_ret
  exact ⟨rfl, rfl⟩
set_option maxHeartbeats 400000 in
theorem cloneI_some (a : Addr) (n c : Nat) (news : List Value) (w : World) (hlen : Hid (news.length = n * 1)) (hcell : Hid (∀ j u, news[j]? = some u → w.cell? (a.add j) = some u)) (hone : Hid (∀ u ∈ news, u.oneCell' = true)) (hn : Hid (n ≤ 1000000)) :
    Calls Tryz.prog 69 #[.slice (some a) n c] w fun e w' => ∃ v', e = .returned v' ∧ Hid (w'.ownsRow w.heap.size 3 1 v' n news) ∧ Hid (Below w.heap.size w w') := by
  obtain ⟨i0, hi, hz0, hz1, hz2⟩ := info_parts infoInt64
  have heq := fun (W : World) => Lib.run_eql_slice_nil (P := Tryz.prog) W 91 3 (some a) n c 0 0 Tryz.underlying91
  go_enter Tryz.func69, Tryz.ntmps69
  go_wp2_with (at_builtin; refine wpList_append_own _ rfl _ _ 91 rfl w.heap.size 3 i0 (.int .i64 0) 1 8 Tryz.underlying91 hi hz0 hz1 hz2 rfl (by decide) _ 0 [] rfl (World.ownsRow_made w _ 0 (Nat.le_refl _) (by decide) rfl) a n c news rfl hlen.out (fun j u hj => cell_alloc_old (hcell.out j u hj)) hone.out (by have := hn.out; unfold maxLen; omega) (by have := hn.out; omega) (by simp) ?_; intro v' w1 hown hgrow hnil)
  go_ret
  refine ⟨v', rfl, by unfold Hid; simpa using hown, ?_⟩
  refine ((Below.refl _ _).alloc (Nat.le_refl _) _).grown hgrow (by simp) (fun k hk => ?_)
  cases hk; exact Nat.le_refl _
theorem doStep_more (code : Int) (s : MgS) (h : Int) : (doStep code s h).num = s.num ∧ (doStep code s h).out = s.out := by
  unfold doStep
  split <;> exact ⟨rfl, rfl⟩
theorem doneTo_more (code : Int) (s : MgS) : ∀ j, j ≤ s.queue.length → (doneTo code s j).num = s.num ∧ (doneTo code s j).out = s.out
  | 0, _ => by rw [doneTo_zero]; exact ⟨rfl, rfl⟩
  | j + 1, h => by
    obtain ⟨h1, h2⟩ := doneTo_more code s j (by omega)
    obtain ⟨k1, k2⟩ := doStep_more code (doneTo code s j) s.queue[j]
    rw [doneTo_succ code s (by omega)]
    exact ⟨k1.trans h1, k2.trans h2⟩
/-- Transactions that lie at a place, each with its Puts' slice told. -/
def TxVA (b o : Nat) (pv : Nat → Value) (l : List Tx) : Asn := ⟨fun F w => F b ∧ ∀ i (h : i < l.length), w.cell? ⟨b, o + i * 2, none⟩ = some (.int .i64 l[i].time) ∧ w.cell? ⟨b, o + i * 2 + 1, none⟩ = some (pv i) ∧ I64 l[i].time ∧ PutsAt F w (pv i) l[i].puts,
  fun F w w' hs _ h => ⟨h.1, fun i hi => by
    obtain ⟨h1, h2, h3, h4⟩ := h.2 i hi
    exact ⟨by rw [hs.cell h.1]; exact h1, by rw [hs.cell h.1]; exact h2, h3, h4.same hs⟩⟩⟩
theorem TxsAt.told {F : Nat → Prop} {w : World} {A : Option Addr} {n c : Nat} {l : List Tx} (h : TxsAt F w (.slice A n c) l) (hl : 0 < l.length) : ∃ b o pv, A = some ⟨b, o, none⟩ ∧ (TxVA b o pv l).P F w := by
  obtain ⟨p', c', e, _, _, _, a4⟩ := h
  cases e
  obtain ⟨b, o, rfl, hg, _⟩ := a4 0 hl
  have hx : ∀ i, ∃ v, ∀ hi : i < l.length, w.cell? ⟨b, o + i * 2 + 1, none⟩ = some v ∧ PutsAt F w v l[i].puts := fun i => by
    by_cases hi : i < l.length
    · obtain ⟨b', o', e', _, _, _, v, h1, h2⟩ := a4 i hi
      cases e'
      exact ⟨v, fun _ => ⟨h1, h2⟩⟩
    · exact ⟨undef, fun h => absurd h hi⟩
  obtain ⟨pv, hpv⟩ := Classical.axiomOfChoice hx
  refine ⟨b, o, pv, rfl, hg, fun i hi => ?_⟩
  obtain ⟨b', o', e', _, h1, h2, _⟩ := a4 i hi
  cases e'
  exact ⟨h1, (hpv i hi).1, h2, (hpv i hi).2⟩
section
variable {W w : World} {L : List Asn} {i : Nat} {c : MgC} {s : MgS}
theorem items_ext (last0' : Int) (vs' : Vers) : (mgrItems c s).set 1 (ExtA (pt c.m) s.blocks last0' vs') = mgrItems c { s with last0 := last0', vs := vs' } := rfl
theorem queue_items {q : Value} {qu : List Int} {B R : Asn} (hB : B = BoxA c.mb (mgrRow { c with qv := q } { s with queue := qu }) 106) (hR : R = RowA 3 1 q qu.length (qu.map (Value.int .i64))) :
    ((mgrItems c s).set 4 R).set 0 B = mgrItems { c with qv := q } { s with queue := qu } := by
  subst hB
  subst hR
  rfl
/-- The clone of a queue's head, read. -/
theorem ints_at {W w : World} {L : List Asn} {j g cap : Nat} {l : List Int} {n : Nat} (h : Sep W L w) (hj : L[j]? = some (RowA 3 1 (.slice (some ⟨g, 0, none⟩) n cap) n (l.map (Value.int .i64)))) {k : Nat} (hk : k < n) (hl : l.length = n) : w.cell? ⟨g, k, none⟩ = some (.int .i64 (l[k]'(by omega))) := by
  have := (h.row_cell j hj k (by omega)).1
  rw [this, List.getElem?_map, List.getElem?_eq_getElem (by omega)]; rfl
set_option maxRecDepth 100000 in
set_option maxHeartbeats 8000000 in
theorem done_core (h : Hid (Sep W (OL L i (mgrItems c s)) w)) (hc : c.cs.length = s.txs.length) {n : Nat} (g : MgG n s) (hn : s.queue.length ≤ 1000000) (hnn : n ≤ 900000) (h8 : s.out ≤ 8) (hi : i < L.length) (code : Int) :
    Calls Tryz.prog 28 #[.pointer (some ⟨c.mb, 0, none⟩), .int .i64 code] w fun e w' => e = .returned (.int .i64 (doneCode s)) ∧ ∃ q : Value, Hid (Sep W (OL L i (mgrItems { c with qv := q } (doneNext s code))) w') := by
  have HG : Hid (MgG n s) := g
  have HI := Lib.hid hi
  obtain ⟨c0, _, _, c3, c4, _⟩ := mgr_cells h.out
  obtain ⟨ho1, ho2⟩ := g.o1
  clear g hi
  by_cases ho : s.out = 0
  case pos =>
    have HC : Hid (doneCode s = 14 ∧ doneNext s code = s) := ⟨if_pos ho, if_pos ho⟩
    rw [ho] at c4
    go_enter Tryz.func28, Tryz.ntmps28
    go_wp2_with fail
    refine (gone_any c.mb c.m _ c0).mono ?_
    rintro e w1 ⟨rfl, rfl⟩
    go_wp2
    go_ret
    exact ⟨by rw [HC.out.1]; rfl, c.qv, by rw [HC.out.2]; exact h⟩
  case neg =>
  obtain ⟨j, hj⟩ : ∃ j : Nat, s.out = (j : Int) + 1 := ⟨(s.out - 1).toNat, by omega⟩
  have hjq : j + 1 ≤ s.queue.length := by omega
  have hj8 : j + 1 ≤ 8 := by omega
  have hoz : (s.out == 0) = false := by rw [beq_eq_false_iff_ne]; exact ho
  have HC : Hid (doneCode s = 0 ∧ doneNext s code = { doneTo code s (j + 1) with num := if code = 0 then s.num + 1 else s.num, queue := s.queue.drop (j + 1), out := 0 }) := by
    have e : s.out.toNat = j + 1 := by omega
    refine ⟨if_neg ho, ?_⟩
    unfold doneNext doneTo
    rw [if_neg ho, e]
  rw [hj] at c4 hoz
  have HJ := Lib.hid hj
  have hd : Hid (Sep W (OL L i (mgrItems c s)) w.drew) := h.out.up (below_drewN (Below.refl w.heap.size w) 1)
  have HWT := Lib.hid (waiting_core hd hc HG.out hn)
  obtain ⟨d0, _, _, _, d4, _⟩ := mgr_cells hd.out
  rw [hj] at d4
  clear ho hj ho1 ho2
  go_enter Tryz.func28, Tryz.ntmps28
  go_wp2_with fail
  refine (gone_any c.mb c.m _ c0).mono ?_
  rintro e w1 ⟨rfl, rfl⟩
  go_upto_region 3 with fail
  refine wp_regionG (fun W => W.cell? ⟨c.mb, 4, none⟩ = some (.int .i64 ((j : Int) + 1))) (n := 8) (by kernel_rfl) (by kernel_rfl) ?_
  refine wpG.take 0 (v := ?_) (a' := ?_) rfl (by kernel_rfl) (by kernel_rfl) (by kernel_rfl) (by kernel_rfl) (fun _ _ _ h => h) ?_ ?_ ?_
  rotate_left 2
  · intro W hW
    go_simp
    try with_reducible rfl
  · go_simp
    try with_reducible rfl
  refine wpG.take 2 (v := ?_) (a' := ?_) rfl (by kernel_rfl) (by kernel_rfl) (by kernel_rfl) (by kernel_rfl) (fun _ _ _ h => h) ?_ ?_ ?_
  rotate_left 2
  · intro W hW
    go_simp
    try with_reducible rfl
  · go_simp
    try with_reducible rfl
  refine wpG.take 3 (v := ?_) (a' := ?_) rfl (by kernel_rfl) (by kernel_rfl) (by kernel_rfl) (by kernel_rfl) (fun _ _ _ h => h) ?_ ?_ ?_
  rotate_left 2
  · intro W hW
    go_simp
    try with_reducible rfl
  · go_simp
    try with_reducible rfl
  refine wpG.take 4 (v := ?_) (a' := ?_) rfl (by kernel_rfl) (by kernel_rfl) (by kernel_rfl) (by kernel_rfl) (fun _ _ _ h => h) ?_ ?_ ?_
  rotate_left 2
  · intro W hW
    go_simp
    try with_reducible rfl
  · go_simp
    try with_reducible rfl
  refine wpG.take 5 (v := ?_) (a' := ?_) rfl (by kernel_rfl) (by kernel_rfl) (by kernel_rfl) (by kernel_rfl) (fun _ _ _ h => h) ?_ ?_ ?_
  rotate_left 2
  · intro W hW
    have hld0 := hW
    go_simp
    try with_reducible rfl
  · go_simp
    try with_reducible rfl
  refine wpG.alone 1 rfl (by kernel_rfl) (by kernel_rfl) (d4) (fun K hK => ?_)
  go_simp
  go_at_call 67
  refine (HWT.out).mono ?_
  rintro e w2 ⟨p, cp, rfl, hcp, HT2, HB2⟩
  have e4 := cell_up HB2.out d4
  obtain ⟨A, hA1, hA2, hA3⟩ := txCut_to p s.queue.length cp (j + 1) (by omega)
  obtain ⟨xb, xo, pv, rfl, hxv⟩ := TxsAt.told (TxsAt.take (l := waitL s) (by rw [waitL_len]; exact HT2.out) (j + 1) (by rw [waitL_len]; omega) hA2 hA3) (by rw [List.length_take, waitL_len]; omega)
  have hS2 := hd.out.new HB2.out (TxVA xb xo pv ((waitL s).take (j + 1))) (fun _ h => h) hxv
  have HS2 := Lib.hid (hS2.shift HI.out)
  have hA1' : ∀ W, (Instr.slice 40 (.slice p s.queue.length cp) none (some (.int .i64 ((j : Int) + 1))) none).run Tryz.prog W = .ok (.slice (some ⟨xb, xo, none⟩) (j + 1) cp) W := hA1
  clear hS2 hA1 hA2 hA3 HWT d0 hxv
  try go_simp
  refine hK _ _ ?_
  clear hK K
  refine wpG.take 6 (v := ?_) (a' := ?_) rfl (by kernel_rfl) (by kernel_rfl) (by kernel_rfl) (by kernel_rfl) (fun _ _ _ h => h) ?_ ?_ ?_
  rotate_left 2
  · intro W hW
    go_simp
    try with_reducible rfl
  · go_simp
    try with_reducible rfl
  refine wpG.take 7 (v := ?_) (a' := ?_) rfl (by kernel_rfl) (by kernel_rfl) (by kernel_rfl) (by kernel_rfl) (fun _ _ _ h => h) ?_ ?_ ?_
  rotate_left 2
  · intro W hW
    go_simp
    try with_reducible rfl
  · go_simp
    try with_reducible rfl
  refine wpG.done (by kernel_rfl) e4 ?_
  have HS3 := Lib.hid (HS2.out.up (below_drewN (Below.refl w2.heap.size w2) 1))
  obtain ⟨_, _, _, g3, g4, _⟩ := mgr_cells HS3.out
  rw [HJ.out] at g4
  obtain ⟨gq, cq, hqv, _⟩ := mgr_qcell HS3.out (show 0 < s.queue.length by omega)
  rw [hqv] at g3
  have hqc : s.queue.length ≤ cq := by
    obtain ⟨qp', cq', e', hle⟩ := mgr_queue HS3.out
    rw [hqv] at e'
    cases e'
    exact hle
  have hcut : ∀ W, (Instr.slice 91 (.slice (some ⟨gq, 0, none⟩) s.queue.length cq) none (some (.int .i64 ((j : Int) + 1))) none).run Tryz.prog W = .ok (.slice (some ⟨gq, 0, none⟩) (j + 1) cq) W := slice_to gq s.queue.length cq (j + 1) (by omega)
  have hcl := cloneI_some ⟨gq, 0, none⟩ (j + 1) cq ((s.queue.take (j + 1)).map (Value.int .i64)) w2.drew (Lib.hid (by simp; omega)) (by
    refine Lib.hid fun q u hu => ?_
    rw [List.getElem?_map] at hu
    obtain ⟨x, hx, rfl⟩ := Option.map_eq_some_iff.1 hu
    rw [List.getElem?_take] at hx
    split at hx
    · obtain ⟨hq1, hq2⟩ := List.getElem?_eq_some_iff.1 hx
      obtain ⟨g', c', e', hcell⟩ := mgr_qcell HS3.out hq1
      rw [hqv] at e'
      cases e'
      rw [addr_add, Nat.zero_add]
      exact hcell.trans (by rw [hq2])
    · cases hx) (Lib.hid (by intro u hu; obtain ⟨x, _, rfl⟩ := List.mem_map.1 hu; rfl)) (Lib.hid (by omega))
  have HCL := Lib.hid hcl
  clear hcl c0 c3 c4 d4 e4
  go_upto_region 4 with fail
  refine wp_regionG (fun W => W.cell? ⟨c.mb, 3, none⟩ = some (.slice (some ⟨gq, 0, none⟩) s.queue.length cq) ∧ W.cell? ⟨c.mb, 4, none⟩ = some (.int .i64 ((j : Int) + 1))) (n := 12) (by kernel_rfl) (by kernel_rfl) ?_
  refine wpG.take 0 (v := ?_) (a' := ?_) rfl (by kernel_rfl) (by kernel_rfl) (by kernel_rfl) (by kernel_rfl) (fun _ _ _ h => h) ?_ ?_ ?_
  rotate_left 2
  · intro W hW
    go_simp
    try with_reducible rfl
  · go_simp
    try with_reducible rfl
  refine wpG.take 1 (v := ?_) (a' := ?_) rfl (by kernel_rfl) (by kernel_rfl) (by kernel_rfl) (by kernel_rfl) (fun _ _ _ h => h) ?_ ?_ ?_
  rotate_left 2
  · intro W hW
    go_simp
    try with_reducible rfl
  · go_simp
    try with_reducible rfl
  refine wpG.take 2 (v := ?_) (a' := ?_) rfl (by kernel_rfl) (by kernel_rfl) (by kernel_rfl) (by kernel_rfl) (fun _ _ _ h => h) ?_ ?_ ?_
  rotate_left 2
  · intro W hW
    go_simp
    try with_reducible rfl
  · go_simp
    try with_reducible rfl
  refine wpG.take 3 (v := ?_) (a' := ?_) rfl (by kernel_rfl) (by kernel_rfl) (by kernel_rfl) (by kernel_rfl) (fun _ _ _ h => h) ?_ ?_ ?_
  rotate_left 2
  · intro W hW
    have hld0 := hW.1
    go_simp
    try with_reducible rfl
  · go_simp
    try with_reducible rfl
  refine wpG.take 4 (v := ?_) (a' := ?_) rfl (by kernel_rfl) (by kernel_rfl) (by kernel_rfl) (by kernel_rfl) (fun _ _ _ h => h) ?_ ?_ ?_
  rotate_left 2
  · intro W hW
    go_simp
    try with_reducible rfl
  · go_simp
    try with_reducible rfl
  refine wpG.take 5 (v := ?_) (a' := ?_) rfl (by kernel_rfl) (by kernel_rfl) (by kernel_rfl) (by kernel_rfl) (fun _ _ _ h => h) ?_ ?_ ?_
  rotate_left 2
  · intro W hW
    go_simp
    try with_reducible rfl
  · go_simp
    try with_reducible rfl
  refine wpG.take 6 (v := ?_) (a' := ?_) rfl (by kernel_rfl) (by kernel_rfl) (by kernel_rfl) (by kernel_rfl) (fun _ _ _ h => h) ?_ ?_ ?_
  rotate_left 2
  · intro W hW
    go_simp
    try with_reducible rfl
  · go_simp
    try with_reducible rfl
  refine wpG.take 7 (v := ?_) (a' := ?_) rfl (by kernel_rfl) (by kernel_rfl) (by kernel_rfl) (by kernel_rfl) (fun _ _ _ h => h) ?_ ?_ ?_
  rotate_left 2
  · intro W hW
    have hld0 := hW.2
    go_simp
    try with_reducible rfl
  · go_simp
    try with_reducible rfl
  refine wpG.take 8 (v := ?_) (a' := ?_) rfl (by kernel_rfl) (by kernel_rfl) (by kernel_rfl) (by kernel_rfl) (fun _ _ _ h => h) ?_ ?_ ?_
  rotate_left 2
  · intro W hW
    go_simp
    try with_reducible rfl
  · go_simp
    try with_reducible rfl
  refine wpG.take 11 (v := ?_) (a' := ?_) rfl (by kernel_rfl) (by kernel_rfl) (by kernel_rfl) (by kernel_rfl) (fun _ _ _ h => h) ?_ ?_ ?_
  rotate_left 2
  · intro W hW
    go_simp
    try with_reducible rfl
  · go_simp
    try with_reducible rfl
  refine wpG.alone 9 rfl (by kernel_rfl) (by kernel_rfl) (⟨g3, g4⟩) (fun K hK => ?_)
  go_simp
  go_at_call 69
  refine (HCL.out).mono ?_
  rintro e w3 ⟨cv, rfl, HO3, HB3⟩
  have hS4 := (HS3.out.row_new HB3.out HO3.out).shift (by simp; have := HI.out; omega)
  rw [List.append_assoc] at hS4
  obtain ⟨gc, cc, rfl⟩ : ∃ gc cc, cv = .slice (some ⟨gc, 0, none⟩) (j + 1) cc := by
    obtain ⟨_, ⟨_, h0⟩ | ⟨g', cap', _, e', _⟩⟩ := HO3.out
    · omega
    · exact ⟨g', cap', e'⟩
  have k3 := cell_up HB3.out g3
  have k4 := cell_up HB3.out g4
  have HS4 := Lib.hid hS4
  clear hS4 HCL g3 g4 HS3 HS2
  try go_simp
  refine hK _ _ ?_
  clear hK K
  refine wpG.take 10 (v := ?_) (a' := ?_) rfl (by kernel_rfl) (by kernel_rfl) (by kernel_rfl) (by kernel_rfl) (fun _ _ _ h => h) ?_ ?_ ?_
  rotate_left 2
  · intro W hW
    go_simp
    try with_reducible rfl
  · go_simp
    try with_reducible rfl
  refine wpG.done (by kernel_rfl) ⟨k3, k4⟩ ?_
  have hlt : (waitL s).length = s.queue.length := waitL_len s
  have htk : (s.queue.take (j + 1)).length = j + 1 := by rw [List.length_take]; omega
  go_wp2_with fail
  go_loopw [35] (fun s35 wr => ∃ m : Nat, m ≤ j + 1 ∧ s35 = .int .i64 m ∧ Hid (Sep W (OL (L ++ ([TxVA xb xo pv ((waitL s).take (j + 1))] ++ [RowA 3 1 (.slice (some ⟨gc, 0, none⟩) (j + 1) cc) (j + 1) ((s.queue.take (j + 1)).map (Value.int .i64))])) i (mgrItems c (doneTo code s m))) wr)) (fun s35 _ => j + 1 - (intOf s35).toNat)
  case atStart => exact ⟨0, Nat.zero_le _, by go_num, by rw [doneTo_zero]; exact HS4⟩
  case round =>
    obtain ⟨m, hm, rfl, HS⟩ := hrel
    clear HS4 k3 k4
    by_cases hlt2 : m < j + 1
    case neg =>
      obtain rfl : m = j + 1 := by omega
      obtain ⟨y1, y2, y3⟩ := doneTo_same code s (j + 1) (by omega)
      obtain ⟨y4, y5⟩ := doneTo_more code s (j + 1) (by omega)
      obtain ⟨nm, hnm⟩ : ∃ nm : Int, nm = if code = 0 then s.num + 1 else s.num := ⟨_, rfl⟩
      have HFN : Hid (doneNext s code = { doneTo code s (j + 1) with num := nm, queue := s.queue.drop (j + 1), out := 0 }) := by show _ = _; rw [HC.out.2, hnm]
      have HY := Lib.hid y1
      have HY5 := Lib.hid y5
      have hnum := HG.out.nm
      have hll : (L ++ ([TxVA xb xo pv ((waitL s).take (j + 1))] ++ [RowA 3 1 (.slice (some ⟨gc, 0, none⟩) (j + 1) cc) (j + 1) ((s.queue.take (j + 1)).map (Value.int .i64))])).length = L.length + 2 := by simp
      have hcase : ∃ wx, (code = 0 ∧ wx = wr.setCell ⟨c.mb, 5, none⟩ (.int .i64 (s.num + 1)) ∨ code ≠ 0 ∧ wx = wr) ∧ Hid (Sep W (OL (L ++ ([TxVA xb xo pv ((waitL s).take (j + 1))] ++ [RowA 3 1 (.slice (some ⟨gc, 0, none⟩) (j + 1) cc) (j + 1) ((s.queue.take (j + 1)).map (Value.int .i64))])) i (mgrItems c { doneTo code s (j + 1) with num := nm })) wx) := by
        by_cases hcd : code = 0
        · refine ⟨_, .inl ⟨hcd, rfl⟩, ?_⟩
          rw [if_pos hcd] at hnm
          have := mgr_store HS.out 5 (.int .i64 (s.num + 1)) { doneTo code s (j + 1) with num := nm } (by rw [hnm]; rfl) rfl rfl rfl rfl rfl rfl rfl
          exact this
        · refine ⟨_, .inr ⟨hcd, rfl⟩, ?_⟩
          rw [if_neg hcd, ← y4] at hnm
          rw [hnm]
          exact HS
      obtain ⟨wx, hwx, HSX⟩ := hcase
      obtain ⟨_, _, _, _, _, s5, _⟩ := mgr_cells HS.out
      rw [y4] at s5
      have f5 := mgr_free HS.out 5
      obtain ⟨_, _, _, x3, x4, _⟩ := mgr_cells HSX.out
      change wx.cell? ⟨c.mb, 4, none⟩ = some (.int .i64 (doneTo code s (j + 1)).out) at x4
      rw [y5, HJ.out] at x4
      rw [hqv] at x3
      have hqc' : s.queue.length ≤ cq := hqc
      obtain ⟨A2, hcut2, hA2⟩ := slice_from gq s.queue.length cq j (by omega) hqc'
      have hcl2 := cloneI_some A2 (s.queue.length - (j + 1)) (cq - (j + 1)) ((s.queue.drop (j + 1)).map (Value.int .i64)) wx.drew (Lib.hid (by simp)) (by
        refine Lib.hid fun q u hu => ?_
        rw [List.getElem?_map] at hu
        obtain ⟨x, hx, rfl⟩ := Option.map_eq_some_iff.1 hu
        rw [List.getElem?_drop] at hx
        obtain ⟨hq1, hq2⟩ := List.getElem?_eq_some_iff.1 hx
        have hSd := HSX.out.up (below_drewN (Below.refl wx.heap.size wx) 1)
        obtain ⟨g', c', e', hcell⟩ := mgr_qcell hSd (j := j + 1 + q) (by show _ < (doneTo code s (j + 1)).queue.length; rw [HY.out]; exact hq1)
        change c.qv = .slice (some ⟨g', 0, none⟩) (doneTo code s (j + 1)).queue.length c' at e'
        rw [hqv, HY.out] at e'
        cases e'
        rcases hA2 with h0 | hA2
        · omega
        · rw [hA2]
          refine hcell.trans ?_
          congr 2
          rw [← hq2]
          show (doneTo code s (j + 1)).queue[j + 1 + q]'_ = _
          simp only [HY.out]) (Lib.hid (by intro u hu; obtain ⟨x, _, rfl⟩ := List.mem_map.1 hu; rfl)) (Lib.hid (by omega))
      have HCL2 := Lib.hid hcl2
      have HSD := Lib.hid (HSX.out.up (below_drewN (Below.refl wx.heap.size wx) 1))
      obtain ⟨_, _, _, v3, v4, _⟩ := mgr_cells HSD.out
      change _ = some (Value.int .i64 (doneTo code s (j + 1)).out) at v4
      rw [y5, HJ.out] at v4
      rw [hqv] at v3
      have HYL := Lib.hid hll
      have v3' : wx.drew.cell? ⟨c.mb, 3, none⟩ = some (.slice (some ⟨gq, 0, none⟩) s.queue.length cq) := v3
      have v4' : wx.drew.cell? ⟨c.mb, 4, none⟩ = some (.int .i64 ((j : Int) + 1)) := v4
      have HFIN0 : Hid (∀ w7 np nc, w7.ownsRow wx.drew.heap.size 3 1 (.slice np (s.queue.length - (j + 1)) nc) (s.queue.length - (j + 1)) ((s.queue.drop (j + 1)).map (Value.int .i64)) → Below wx.drew.heap.size wx.drew w7 →
          Sep W (OL (L ++ ([TxVA xb xo pv ((waitL s).take (j + 1))] ++ [RowA 3 1 (.slice (some ⟨gc, 0, none⟩) (j + 1) cc) (j + 1) ((s.queue.take (j + 1)).map (Value.int .i64))])) i (mgrItems { c with qv := .slice np (s.queue.length - (j + 1)) nc } { doneTo code s (j + 1) with num := nm, queue := s.queue.drop (j + 1) })) (w7.setCell ⟨c.mb, 3, none⟩ (.slice np (s.queue.length - (j + 1)) nc))) := fun w7 np nc ho hb => by
        have hi4 : (OL (L ++ ([TxVA xb xo pv ((waitL s).take (j + 1))] ++ [RowA 3 1 (.slice (some ⟨gc, 0, none⟩) (j + 1) cc) (j + 1) ((s.queue.take (j + 1)).map (Value.int .i64))])) i (mgrItems c { doneTo code s (j + 1) with num := nm }))[(L ++ ([TxVA xb xo pv ((waitL s).take (j + 1))] ++ [RowA 3 1 (.slice (some ⟨gc, 0, none⟩) (j + 1) cc) (j + 1) ((s.queue.take (j + 1)).map (Value.int .i64))])).length + 4]? = some (RowA 3 1 c.qv (doneTo code s (j + 1)).queue.length ((doneTo code s (j + 1)).queue.map (Value.int .i64))) := OL_get.trans (items_head 4 (by omega))
        have hS8 := HSD.out.row_put _ hi4 hb ho
        rw [OL_set] at hS8
        have hS9 := hS8.box_store ((L ++ ([TxVA xb xo pv ((waitL s).take (j + 1))] ++ [RowA 3 1 (.slice (some ⟨gc, 0, none⟩) (j + 1) cc) (j + 1) ((s.queue.take (j + 1)).map (Value.int .i64))])).length + 0) (b := c.mb) (cs := mgrRow c { doneTo code s (j + 1) with num := nm }) (T := 106) (OL_get.trans rfl) 3 (.slice np (s.queue.length - (j + 1)) nc)
        rw [OL_set] at hS9
        exact (queue_items (c := c) (s := { doneTo code s (j + 1) with num := nm }) (q := .slice np (s.queue.length - (j + 1)) nc) (qu := s.queue.drop (j + 1)) rfl (by rw [List.length_drop])) ▸ hS9
      clear hcl2 hA2 hnm hqc' hll y1 y2 y3 y4 y5 HSX
      rcases hwx with ⟨hcd, hwx⟩ | ⟨hcd, hwx⟩
      · have hcz : (code == 0) = true := by rw [beq_iff_eq]; exact hcd
        clear hcd
        obtain ⟨n0, n1⟩ := hnum
        have n2 : s.num + 1 ≤ 9223372036854775807 := by omega
        go_upto_region 15 with fail
        have hwr : IntKind.i64.wrap (s.num + 1) = s.num + 1 := IntWalk.i64_in _ (by omega)
        try rw [hwr]
        rw [← hwx]
        clear hwx
        go_region_law ((first
          | (go_simp
             go_at_call 69
             refine (HCL2.out).mono ?_
             rintro e w7 ⟨nv, rfl, HO7, HB7⟩
             obtain ⟨np, nc, rfl⟩ := ownsRow_shape HO7.out
             have r3 := cell_up HB7.out v3
             have fz := mgr_free (HSD.out.up HB7.out) 3)))
        all_goals
          have HFQ := Lib.hid (HFIN0.out w7 np nc HO7.out HB7.out)
          obtain ⟨_, _, _, _, t4, _⟩ := mgr_cells HFQ.out
          change _ = some (Value.int .i64 (doneTo code s (j + 1)).out) at t4
          rw [HY5.out, HJ.out] at t4
          have f4 := mgr_free HFQ.out 4
          have hlast := mgr_store HFQ.out 4 (.int .i64 0) { doneTo code s (j + 1) with num := nm, queue := s.queue.drop (j + 1), out := 0 } rfl rfl rfl rfl rfl rfl rfl rfl
          have HLAST := Lib.hid ((hlast.unbox HI.out).unbox HI.out)
          rw [List.append_nil] at HLAST
          clear hlast
          go_wp2
          go_ret
          exact ⟨by rw [HC.out.1]; rfl, _, by rw [HFN.out]; exact HLAST⟩
      · have hcz : (code == 0) = false := by rw [beq_eq_false_iff_ne]; exact hcd
        clear hcd
        subst hwx
        go_upto_region 15 with fail
        go_region_law ((first
          | (go_simp
             go_at_call 69
             refine (HCL2.out).mono ?_
             rintro e w7 ⟨nv, rfl, HO7, HB7⟩
             obtain ⟨np, nc, rfl⟩ := ownsRow_shape HO7.out
             have r3 := cell_up HB7.out v3
             have fz := mgr_free (HSD.out.up HB7.out) 3)))
        all_goals
          have HFQ := Lib.hid (HFIN0.out w7 np nc HO7.out HB7.out)
          obtain ⟨_, _, _, _, t4, _⟩ := mgr_cells HFQ.out
          change _ = some (Value.int .i64 (doneTo code s (j + 1)).out) at t4
          rw [HY5.out, HJ.out] at t4
          have f4 := mgr_free HFQ.out 4
          have hlast := mgr_store HFQ.out 4 (.int .i64 0) { doneTo code s (j + 1) with num := nm, queue := s.queue.drop (j + 1), out := 0 } rfl rfl rfl rfl rfl rfl rfl rfl
          have HLAST := Lib.hid ((hlast.unbox HI.out).unbox HI.out)
          rw [List.append_nil] at HLAST
          clear hlast
          go_wp2
          go_ret
          exact ⟨by rw [HC.out.1]; rfl, _, by rw [HFN.out]; exact HLAST⟩
    case pos =>
      have hmq : m < s.queue.length := by omega
      have hqm := List.getElem_mem hmq
      obtain ⟨hq1, hq2⟩ := HG.out.qr _ hqm
      obtain ⟨q, hq⟩ : ∃ q : Nat, s.queue[m] = (q : Int) + 1 := ⟨(s.queue[m] - 1).toNat, by omega⟩
      obtain ⟨z1, z2, z3⟩ := doneTo_same code s m (by omega)
      have hcm : c.cs.length = (doneTo code s m).txs.length := by rw [z2]; exact hc
      have hqs : q < (doneTo code s m).txs.length := by rw [z2]; omega
      have hri : (OL (L ++ ([TxVA xb xo pv ((waitL s).take (j + 1))] ++ [RowA 3 1 (.slice (some ⟨gc, 0, none⟩) (j + 1) cc) (j + 1) ((s.queue.take (j + 1)).map (Value.int .i64))])) i (mgrItems c (doneTo code s m)))[L.length + 1]? = some (RowA 3 1 (.slice (some ⟨gc, 0, none⟩) (j + 1) cc) (j + 1) ((s.queue.take (j + 1)).map (Value.int .i64))) := by
        rw [OL_old (by simp) (by have := HI.out; omega), List.getElem?_append_right (by omega), show L.length + 1 - L.length = 1 by omega]; rfl
      have hcell := ints_at HS.out hri (k := m) hlt2 htk
      rw [List.getElem_take, hq] at hcell
      have hsucc := doneTo_succ code s hmq
      rw [hq] at hsucc
      clear hri
      by_cases hcd : code = 0
      case neg =>
        have hcz : (code != 0) = true := by rw [bne_iff_ne]; exact hcd
        have HSU : Hid (doneTo code s (m + 1) = endNext (doneTo code s m) ((q : Int) + 1) 4 code) := by
          show _ = _
          rw [hsucc]
          unfold doStep
          rw [if_neg hcd]
        have HE := Lib.hid (end_core HS hcm hqs 4 code)
        clear hcd hsucc
        go_wp2_with fail
        refine (HE.out).mono ?_
        rintro e w5 ⟨rfl, HS5⟩
        rw [← HSU.out] at HS5
        go_wp2_with fail
        go_roundw
        case rel => exact ⟨m + 1, by omega, by go_num, HS5⟩
        case measure => simp [intOf]; omega
      case pos =>
        subst hcd
        have gm := HG.out.doneTo 0 m (by omega)
        have hti : ((waitL s).take (j + 1))[m]'(by rw [List.length_take, waitL_len]; omega) = waitTx (doneTo 0 s m) ((q : Int) + 1) := by
          rw [List.getElem_take]
          unfold waitL
          rw [List.getElem_map, hq]
          have e := doneTo_tx HG.out 0 m (by omega) ((q : Int) + 1) (by rw [List.drop_eq_getElem_cons hmq, hq]; simp)
          unfold waitTx
          rw [txOf_txAt, txOf_txAt, e]
        have hpl : (waitTx (doneTo 0 s m) ((q : Int) + 1)).puts.length ≤ 16 := by
          show (bufPuts (txAt (doneTo 0 s m).txs ((q : Int) + 1)).buf).length ≤ 16
          rw [bufPuts_len]
          exact (gm.tx _ (txAt_mem (by omega) (by show (q : Int) + 1 ≤ (doneTo 0 s m).txs.length; omega))).bl
        have HSU : Hid (doneTo 0 s (m + 1) = endNext { doneTo 0 s m with vs := applyNext (doneTo 0 s m).blocks (doneTo 0 s m).last0 (doneTo 0 s m).vs (waitTx (doneTo 0 s m) ((q : Int) + 1)), last0 := applyLast (doneTo 0 s m).blocks (doneTo 0 s m).last0 (waitTx (doneTo 0 s m) ((q : Int) + 1)), last := (waitTx (doneTo 0 s m) ((q : Int) + 1)).time } ((q : Int) + 1) 3 0) := by
          show _ = _
          rw [hsucc]
          unfold doStep
          rw [if_pos rfl]; rfl
        have hll : (L ++ ([TxVA xb xo pv ((waitL s).take (j + 1))] ++ [RowA 3 1 (.slice (some ⟨gc, 0, none⟩) (j + 1) cc) (j + 1) ((s.queue.take (j + 1)).map (Value.int .i64))])).length = L.length + 2 := by simp
        have hSd := HS.out.up (below_drewN (Below.refl wr.heap.size wr) 1)
        have hxi : ∀ S' : MgS, (OL (L ++ ([TxVA xb xo pv ((waitL s).take (j + 1))] ++ [RowA 3 1 (.slice (some ⟨gc, 0, none⟩) (j + 1) cc) (j + 1) ((s.queue.take (j + 1)).map (Value.int .i64))])) i (mgrItems c S'))[L.length]? = some (TxVA xb xo pv ((waitL s).take (j + 1))) := fun S' => by
          rw [OL_old (by simp) (by have := HI.out; omega), List.getElem?_append_right (Nat.le_refl _), Nat.sub_self]; rfl
        have hmt : m < ((waitL s).take (j + 1)).length := by rw [List.length_take, waitL_len]; omega
        obtain ⟨FX, hFX, _⟩ := hSd.get L.length (hxi _)
        obtain ⟨v0, v1, _, _⟩ := hFX.2 m hmt
        have hap := extApply_sep hSd ((L ++ ([TxVA xb xo pv ((waitL s).take (j + 1))] ++ [RowA 3 1 (.slice (some ⟨gc, 0, none⟩) (j + 1) cc) (j + 1) ((s.queue.take (j + 1)).map (Value.int .i64))])).length + 1) (tv := .agg #[.int .i64 (waitTx (doneTo 0 s m) ((q : Int) + 1)).time, pv m]) (OL_get.trans (items_head 1 (by omega))) gm.b1 (waitTx (doneTo 0 s m) ((q : Int) + 1)) (fun G hR => by
          obtain ⟨F', hF', hX⟩ := hR L.length (TxVA xb xo pv ((waitL s).take (j + 1))) (by rw [hll]; omega) (hxi _)
          obtain ⟨_, _, k3, k4⟩ := hX.2 m hmt
          rw [hti] at k3 k4
          exact ⟨pv m, rfl, k3, PutsAt.mono k4 hF'⟩)
          (fun k l hl => by have h1 := len_nVers hl; have h2 := gm.nv; change nVers (doneTo 0 s m).vs ≤ _ at h2; omega) (by omega)
        rw [OL_set, items_ext] at hap
        obtain ⟨w0, _⟩ := mgr_cells hSd
        rw [hti] at v0
        have HAP := Lib.hid hap
        have HTI := Lib.hid hti
        have HXI := Lib.hid hxi
        have HMT := Lib.hid hmt
        clear hap hsucc hFX hti hxi gm hpl
        generalize hTT : waitTx (doneTo 0 s m) ((q : Int) + 1) = T at *
        go_wp2_with fail
        go_upto_region 9 with fail
        refine wp_regionG (fun W => W.cell? ⟨c.mb, 0, none⟩ = some (.pointer (some ⟨c.m, 0, none⟩)) ∧ W.cell? ⟨xb, xo + m * 2, none⟩ = some (.int .i64 T.time) ∧ W.cell? ⟨xb, xo + m * 2 + 1, none⟩ = some (pv m)) (n := 9) (by kernel_rfl) (by kernel_rfl) ?_
        refine wpG.take 0 (v := ?_) (a' := ?_) rfl (by kernel_rfl) (by kernel_rfl) (by kernel_rfl) (by kernel_rfl) (fun _ _ _ h => h) ?_ ?_ ?_
        rotate_left 2
        · intro W hW
          go_simp
          try with_reducible rfl
        · go_simp
          try with_reducible rfl
        refine wpG.take 1 (v := ?_) (a' := ?_) rfl (by kernel_rfl) (by kernel_rfl) (by kernel_rfl) (by kernel_rfl) (fun _ _ _ h => h) ?_ ?_ ?_
        rotate_left 2
        · intro W hW
          go_simp
          try with_reducible rfl
        · go_simp
          try with_reducible rfl
        refine wpG.take 2 (v := ?_) (a' := ?_) rfl (by kernel_rfl) (by kernel_rfl) (by kernel_rfl) (by kernel_rfl) (fun _ _ _ h => h) ?_ ?_ ?_
        rotate_left 2
        · intro W hW
          go_simp
          try with_reducible rfl
        · go_simp
          try with_reducible rfl
        refine wpG.take 3 (v := ?_) (a' := ?_) rfl (by kernel_rfl) (by kernel_rfl) (by kernel_rfl) (by kernel_rfl) (fun _ _ _ h => h) ?_ ?_ ?_
        rotate_left 2
        · intro W hW
          have hld0 := hW.1
          go_simp
          try with_reducible rfl
        · go_simp
          try with_reducible rfl
        refine wpG.take 4 (v := ?_) (a' := ?_) rfl (by kernel_rfl) (by kernel_rfl) (by kernel_rfl) (by kernel_rfl) (fun _ _ _ h => h) ?_ ?_ ?_
        rotate_left 2
        · intro W hW
          go_simp
          try with_reducible rfl
        · go_simp
          try with_reducible rfl
        refine wpG.take 5 (v := ?_) (a' := ?_) rfl (by kernel_rfl) (by kernel_rfl) (by kernel_rfl) (by kernel_rfl) (fun _ _ _ h => h) ?_ ?_ ?_
        rotate_left 2
        · intro W hW
          go_simp
          try with_reducible rfl
        · go_simp
          try with_reducible rfl
        refine wpG.take 6 (v := ?_) (a' := ?_) rfl (by kernel_rfl) (by kernel_rfl) (by kernel_rfl) (by kernel_rfl) (fun _ _ _ h => h) ?_ ?_ ?_
        rotate_left 2
        · intro W hW
          go_simp
          try with_reducible rfl
        · go_simp
          try with_reducible rfl
        refine wpG.take 7 (v := ?_) (a' := ?_) rfl (by kernel_rfl) (by kernel_rfl) (by kernel_rfl) (by kernel_rfl) (fun _ _ _ h => h) ?_ ?_ ?_
        rotate_left 2
        · intro W hW
          have hld0 := hW.2.1
          have hld1 := hW.2.2
          go_simp
          try with_reducible rfl
        · go_simp
          try with_reducible rfl
        refine wpG.alone 8 rfl (by kernel_rfl) (by kernel_rfl) (⟨w0, v0, v1⟩) (fun K hK => ?_)
        go_simp
        go_at_call 70
        refine (HAP.out).mono ?_
        rintro e w5 ⟨rfl, hs5⟩
        have HS5 := Lib.hid hs5
        obtain ⟨g0, _, _, _, _, _, _, g7, _⟩ := mgr_cells HS5.out
        obtain ⟨FX, hFX, _⟩ := HS5.out.get L.length (HXI.out _)
        obtain ⟨y0, y1, _, _⟩ := hFX.2 m HMT.out
        rw [HTI.out] at y0
        have f7 := mgr_free HS5.out 7
        have hS6 := mgr_store HS5.out 7 (.int .i64 T.time) { doneTo 0 s m with vs := applyNext (doneTo 0 s m).blocks (doneTo 0 s m).last0 (doneTo 0 s m).vs T, last0 := applyLast (doneTo 0 s m).blocks (doneTo 0 s m).last0 T, last := T.time } rfl rfl rfl rfl rfl rfl rfl rfl
        have HE := Lib.hid (end_core (Lib.hid hS6) hcm (k := q) hqs 3 0)
        clear hs5 hFX hS6 HAP
        generalize applyCode (doneTo 0 s m).blocks (doneTo 0 s m).last0 T = acd
        try go_simp
        refine hK _ _ ?_
        clear hK K
        refine wpG.done (by kernel_rfl) ⟨g0, y0, y1⟩ ?_
        go_wp2_with fail
        refine (HE.out).mono ?_
        rintro e w6 ⟨rfl, HS6⟩
        rw [← HSU.out] at HS6
        go_wp2_with fail
        go_roundw
        case rel => exact ⟨m + 1, by omega, by go_num, HS6⟩
        case measure => simp [intOf]; omega
end
end Go.Proofs

/- Package extmap: Dump; and what nothing answers. -/
namespace Go.Proofs
open Go.RowKit Sc

/-- The last bytes of some versions. -/
def lastD (l : List Put) : Bytes := ((l.getLast?).map (·.data)).getD []
theorem lastD_get {l : List Put} {j : Nat} (h : l.length = j + 1) : lastD l = (l[j]'(by omega)).data := by
  unfold lastD
  rw [List.getLast?_eq_getElem?, List.getElem?_eq_getElem (by omega)]
  simp [h]
def dumpV (vs : Vers) : List Put := (keysUp (vs.map (·.1))).map fun k => ⟨k, lastD ((alook vs k).getD [])⟩
def DumpSaid (vs : Vers) (w : World) (e : Ending) (w' : World) : Prop := ∃ v, e = .returned v ∧ PutsW (New w w') w' v (dumpV vs) ∧ Below w.heap.size w w'

set_option maxRecDepth 100000 in
set_option maxHeartbeats 2000000 in
theorem extDump_any (F : Nat → Prop) (v : Value) (blocks last : Int) (vs : Vers) (w : World) (h : ExtIs F w v blocks last vs) (h1 : 1 ≤ blocks) (hi : ∀ x ∈ vs, I64 x.1) (hl : vs.length ≤ 1000000) (hne : ∀ x ∈ vs, x.2 ≠ []) (h40 : ∀ k l, alook vs k = some l → ∀ p ∈ l, p.data.length ≤ 1000000) :
    Calls Tryz.prog 71 #[v] w (DumpSaid vs w) := by
  have H := Lib.hid h
  obtain ⟨b, r, ml, rfl, hbl, hc0, hc1, hc2, h5, h6⟩ := h.cells
  obtain ⟨i0, hp0, hp1, hp2, hp3⟩ := info_parts infoPut
  have hkk := AL.keys h6
  have hml := al_len h6
  have hkeysV := keysVer_any r w
  have H5 := Lib.hid h5
  have H6 := Lib.hid h6
  have HKK := Lib.hid hkk
  have HI := Lib.hid hi
  have H40 := Lib.hid h40
  have HL := Lib.hid hl
  have HML := Lib.hid hml
  have HNE := Lib.hid hne
  have HC0 := Lib.hid hc0
  have HC2 := Lib.hid hc2
  clear h5 h6 hkk hi h40 hl hml hne hc0 hc2
  clear h
  go_enter Tryz.func71, Tryz.ntmps71
  go_wp2_with fail
  refine (extGone_any F _ _ _ _ _ H.out h1).mono ?_
  rintro e w1 ⟨rfl, rfl⟩
  go_wp2_with fail
  refine (keysVer_any r _).mono ?_
  rintro e w1 ⟨rfl, rfl⟩
  go_wp2_with fail
  refine (sortedVer_any r w.heap.size ml _ (H5.out.alloc _) (fun x hx => ?_) (by have := HL.out; have := HML.out; omega) (by simp) (by go_simp)).mono ?_
  · have : x.1 ∈ vs.map (·.1) := by rw [← HKK.out]; exact List.mem_map.2 ⟨x, hx, rfl⟩
    obtain ⟨y, hy, he⟩ := List.mem_map.1 this
    rw [← he]; exact HI.out y hy
  rintro e w2 ⟨kv, rfl, hrow, hb2⟩
  rw [HKK.out] at hrow
  have hlen : (keysUp (vs.map (·.1))).length = (vs.map (·.1)).length := (List.mergeSort_perm _ _).length_eq
  rw [List.length_map] at hlen hrow
  have hb02 := Below.up (below_alloc w _) hb2
  have HLEN := Lib.hid hlen
  have HROW := Lib.hid hrow
  have HB02 := Lib.hid hb02
  clear hlen hrow hb02
  clear hb2
  have hki : ∀ x ∈ keysUp (vs.map (·.1)), I64 x ∧ x ∈ vs.map (·.1) := by
    intro x hx
    have hx' : x ∈ vs.map (·.1) := (List.mergeSort_perm _ _).subset hx
    obtain ⟨y, hy, he⟩ := List.mem_map.1 hx'
    exact ⟨by rw [← he]; exact HI.out y hy, hx'⟩
  have HKI := Lib.hid hki
  have hints := intsAt_own (fun _ => True) HLEN.out (fun x hx => (hki x hx).1) (fun _ _ _ => trivial) HROW.out
  obtain ⟨kp, kc, rfl, hk1, hk2, hk3, hk4⟩ := hints
  rw [HLEN.out] at hk1 ⊢
  have HK4 := Lib.hid hk4
  have hc12 := cell_up HB02.out hc1
  have HAL := Lib.hid (show (dumpV vs).length = vs.length by unfold dumpV; rw [List.length_map]; exact HLEN.out)
  clear hk3 hk4 hki
  go_wp2_with fail
  go_loopw [2, 15] (fun out i wr => ∃ k : Nat, ∃ D, k ≤ vs.length ∧ i = .int .i64 k ∧ Hid (OutS 33 2 putRW w2.heap.size wr out ((dumpV vs).take k) D) ∧ Below w2.heap.size w2 wr) (fun _ i _ => vs.length - (intOf i).toNat)
  case atStart => exact ⟨0, _, by omega, rfl, OutS.nil, Below.refl _ _⟩
  case round =>
    obtain ⟨k, D, hk, rfl, hout, hbk⟩ := hrel
    by_cases hlt : k < vs.length
    · obtain ⟨g, o, rfl, _, hck, _⟩ := HK4.out k (by rw [HLEN.out]; exact hlt)
      rw [Nat.mul_one] at hck
      have hckr := cell_up hbk hck
      have hc1r := cell_up hbk hc12
      have hmem := (HKI.out _ (List.getElem_mem (show k < (keysUp (vs.map (·.1))).length by rw [HLEN.out]; exact hlt)))
      have htk : (dumpV vs).take (k + 1) = (dumpV vs).take k ++ [⟨(keysUp (vs.map (·.1)))[k]'(by rw [HLEN.out]; exact hlt), lastD ((alook vs ((keysUp (vs.map (·.1)))[k]'(by rw [HLEN.out]; exact hlt))).getD [])⟩] := by
        rw [take_snoc _ k (by rw [HAL.out]; exact hlt)]
        simp [dumpV]
      have hbwr := Below.up HB02.out hbk
      have hmr := H5.out.up hbwr
      generalize (keysUp (vs.map (·.1)))[k]'(by rw [HLEN.out]; exact hlt) = key at hckr hmem htk
      have hlk := hmr.lookup (P := Tryz.prog) Tryz.underlying162 Tryz.underlying3 (Tryz.zeroValue183 _) key false
      have hdat : ∃ u l, alook ml key = some u ∧ alook vs key = some l ∧ PutsAt (Old w) w u l := by
        rcases H6.out.look key with ⟨h, _⟩ | h
        · exfalso
          rw [← HKK.out] at hmem
          obtain ⟨x, hx, he⟩ := List.mem_map.1 hmem.2
          exact alook_none.1 h x hx he
        · exact h
      obtain ⟨u, l, hd1, hd2, hd3⟩ := hdat
      rw [hd1] at hlk
      rw [hd2] at htk
      simp only [Option.getD_some, Bool.false_eq_true, if_false] at hlk htk
      have hln := List.length_pos_iff.2 (HNE.out _ (alook_in hd2))
      simp only at hln
      obtain ⟨j, hj⟩ : ∃ j, l.length = j + 1 := ⟨l.length - 1, by omega⟩
      have hdl : (lastD l).length ≤ 1000000 := by rw [lastD_get hj]; exact H40.out _ _ hd2 _ (List.getElem_mem _)
      obtain ⟨p, c, rfl, p1, p2, _, p4⟩ := hd3
      obtain ⟨gq, oq, rfl, e1, e2, e3, dv, hcd, hd3⟩ := p4 j (by omega)
      rw [← lastD_get hj] at hd3
      rw [hj] at hlk
      have hcdr := cell_up hbwr hcd
      generalize lastD l = d at *
      obtain ⟨dp, dc, rfl⟩ := shape_of hd3 rfl
      have hd3' := hd3.up hbwr
      have hmem' := hmem.1
      have hej : (((j + 1 : Nat) : Int) - 1) = (j : Int) := by omega
      have hw2 : IntKind.i64.wrap (((j + 1 : Nat) : Int) - 1) = (j : Int) := by rw [hej]; exact IntWalk.i64_in _ (by omega)
      have hj1 : (j : Int) < ((j + 1 : Nat) : Int) := by omega
      have hjb : (j : Int) ≤ 9223372036854775806 := by omega
      have hzr := hbk.size
      have HOUT := hout
      have HTK := Lib.hid htk
      have HDL := Lib.hid hdl
      have HBK := Lib.hid hbk
      have HD3' := Lib.hid hd3'
      clear htk hdl hbk hd3'
      clear hd1 hd2 hd3 hmr hbwr hout hck hmem p4 hln e1 e2 e3 hj p1 p2 hcd
      go_wp2_with fail
      refine (clone_w (Old w) _ d _ HD3'.out HDL.out).mono ?_
      rintro e w3 ⟨v3, rfl, hnv, hb3⟩
      obtain ⟨np, nc, rfl⟩ := shape_of hnv.bytes rfl
      have hzw3 := hb3.size
      have hownlt : ∀ q, Value.ownBlock u2 = some q → w2.heap.size ≤ q ∧ q < wr.heap.size := by obtain ⟨xs, hx⟩ := HOUT.out.own; exact fun q hq => hx.lt q hq
      obtain ⟨css, q1, q2, q3, q4, q5⟩ := (HOUT.out.up putRW_stable hb3).up putRW_stable (below_alloc w3 (.cells #[.int .i64 key, .slice np d.length nc] 33))
      have HQ1 := Lib.hid q1
      have HQ2 := Lib.hid q2
      have HQ4 := Lib.hid q4
      have HQ5 := Lib.hid q5
      have HNV := Lib.hid hnv
      have HB3 := Lib.hid hb3
      have HOWNLT := Lib.hid hownlt
      clear q1 q2 q4 q5 hnv hb3 hownlt
      generalize hll : ((dumpV vs).take k).length = ll at q3
      have hll2 : ll ≤ 1000000 := by have := HL.out; rw [← hll, List.length_take, HAL.out]; omega
      have HLL := Lib.hid hll
      have HLL2 := Lib.hid hll2
      clear hll hll2
      go_wp2_with (at_builtin; refine wpList_append_lies _ rfl _ _ 46 rfl w2.heap.size 33 i0 (.agg #[.int .i64 0, .slice none 0 0]) 2 32 Tryz.underlying46 hp0 hp1 hp2 hp3 rfl (by decide) _ ll css.flatten rfl q3 ⟨w3.heap.size, 0, none⟩ 1 1 [.int .i64 key, .slice np d.length nc] rfl rfl (World.news_of_block (cs := #[.int .i64 key, .slice np d.length nc]) (heap_alloc_new w3 _)) (by simp [Value.oneCell']) (by decide) (by have := HLL2.out; unfold maxLen; omega) (by have := HLL2.out; omega) (by simp; omega) (w3.heap.size + 1) (by simp) ?_; intro gg cap w5 hown5 hgrow5 hat5 hlt5)
      go_roundw
      case rel =>
        refine ⟨k + 1, fun b => D b ∨ New wr w3 b, by omega, by go_num, ?_, ?_⟩
        · unfold Hid
          rw [HTK.out]
          have hll := HLL.out
          subst hll
          have hg : w3.heap.size + 1 = (w3.alloc (.cells #[.int .i64 key, .slice np d.length nc] 33)).heap.size := by simp
          refine OutS.snoc (v := u2) (D3 := New wr w3) putRW_stable HQ1.out HQ2.out HQ4.out HQ5.out (cs := [.int .i64 key, .slice np d.length nc]) (x := ⟨key, d⟩) rfl ⟨_, rfl, hmem', HNV.out.up (below_alloc _ _)⟩ (fun q hq => ?_) hown5 hgrow5 (hg ▸ hat5)
          have h1 := hq.1
          have h2 := hq.2
          exact ⟨by omega, by simp; omega, fun e => by have := (HOWNLT.out q e).2; omega⟩
        · have hb1 : Below w2.heap.size w2 (w3.alloc (.cells #[.int .i64 key, .slice np d.length nc] 33)) := (HBK.out.trans (HB3.out.mono (by omega))).trans ((below_alloc _ _).mono (by omega))
          exact hb1.grown hgrow5 (by simp; omega) (fun q hq => (HOWNLT.out q hq).1)
      case measure => simp [intOf]; omega
    · have hkl : k = vs.length := by omega
      have HK2 := Lib.hid hkl
      have HBK := Lib.hid hbk
      clear hkl hbk
      go_wp2_with fail
      go_ret
      have hwz : w.heap.size ≤ w2.heap.size := by have := HB02.out.size; omega
      refine ⟨_, rfl, ?_, HB02.out.trans (HBK.out.mono hwz)⟩
      have := hout.out
      rw [List.take_of_length_le (by rw [HAL.out]; have := HK2.out; omega)] at this
      exact this.putsW fun b h1 h2 => ⟨by omega, h2⟩

theorem extBlocks_nil (w : World) : Calls Tryz.prog 58 #[.pointer none] w fun e w' => e = .returned (.int .i64 0) ∧ w = w' := by
  go_enter Tryz.func58, Tryz.ntmps58
  go_wp2
  go_ret
  exact ⟨rfl, rfl⟩
theorem extGone_nil (w : World) : Calls Tryz.prog 105 #[.pointer none] w fun e w' => e = .returned (.bool true) ∧ w = w' := by
  go_enter Tryz.func105, Tryz.ntmps105
  go_wp2
  go_ret
  exact ⟨rfl, rfl⟩
theorem extDump_nil (w : World) : Calls Tryz.prog 71 #[.pointer none] w fun e w' => e = .returned (.slice none 0 0) ∧ w = w' := by
  go_enter Tryz.func71, Tryz.ntmps71
  go_wp2_with fail
  refine (extGone_nil _).mono ?_
  rintro e w1 ⟨rfl, rfl⟩
  go_wp2
  go_ret
  exact ⟨rfl, rfl⟩
theorem extPrune_nil (t : Int) (w : World) : Calls Tryz.prog 74 #[.pointer none, .int .i64 t] w fun e w' => e = .returned (.int .i64 0) ∧ w = w' := by
  go_enter Tryz.func74, Tryz.ntmps74
  go_wp2_with fail
  refine (extGone_nil _).mono ?_
  rintro e w1 ⟨rfl, rfl⟩
  go_wp2
  go_ret
  exact ⟨rfl, rfl⟩
theorem extBlock_nil (lba : Int) (w : World) : Calls Tryz.prog 107 #[.pointer none, .int .i64 lba] w fun e w' => e = .returned (.bool false) ∧ w = w' := by
  by_cases h : 0 ≤ lba
  · go_enter Tryz.func107, Tryz.ntmps107
    go_wp2_with fail
    refine (extBlocks_nil _).mono ?_
    rintro e w1 ⟨rfl, rfl⟩
    go_wp2
    go_ret
    refine ⟨congrArg boolRet ?_, rfl⟩
    first | rfl | (simp; omega)
  · have h' : lba < 0 := by omega
    clear h
    go_enter Tryz.func107, Tryz.ntmps107
    go_wp2
    go_ret
    exact ⟨rfl, rfl⟩
theorem extGet_nil (lba t : Int) (w : World) : Calls Tryz.prog 141 #[.pointer none, .int .i64 lba, .int .i64 t] w fun e w' => e = .returned (.tuple #[.slice none 0 0, .int .i64 0]) ∧ w = w' := by
  go_enter Tryz.func141, Tryz.ntmps141
  go_wp2_with fail
  refine (extBlock_nil _ _).mono ?_
  rintro e w1 ⟨rfl, rfl⟩
  go_wp2
  go_ret2
  exact ⟨rfl, rfl⟩
theorem extWithin_nil (a n : Int) (w : World) : Calls Tryz.prog 140 #[.pointer none, .agg #[.int .i64 a, .int .i64 n]] w fun e w' => e = .returned (.bool false) ∧ Below w.heap.size w w' := by
  have hb := below_alloc w (.cells #[.int .i64 a, .int .i64 n] 56)
  have hbk : ∀ W, Calls Tryz.prog 58 #[.pointer none] W fun e w' => e = .returned (.int .i64 0) ∧ w' = W := fun W => (extBlocks_nil W).mono fun _ _ ⟨h1, h2⟩ => ⟨h1, h2.symm⟩
  have HB := Lib.hid hb
  have HBK := Lib.hid hbk
  clear hb hbk
  by_cases h1 : 0 ≤ a
  · by_cases h2 : 1 ≤ n
    · have h3' : decide (n ≤ 0) = false := decide_eq_false (by omega)
      go_enter Tryz.func140, Tryz.ntmps140
      go_wp2
      go_quiet ((go_at_call 58; exact Calls.quiet_of_same (HBK.out _)))
      go_wp2
      go_ret
      exact ⟨rfl, below_drewN HB.out _⟩
    · have h2' : decide (1 ≤ n) = false := decide_eq_false h2
      clear h2 HBK
      go_enter Tryz.func140, Tryz.ntmps140
      go_wp2
      go_quiet (fail)
      go_wp2
      go_ret
      exact ⟨rfl, below_drewN HB.out _⟩
  · have h1' : decide (0 ≤ a) = false := decide_eq_false h1
    clear h1 HBK
    go_enter Tryz.func140, Tryz.ntmps140
    go_wp2
    go_quiet (fail)
    go_wp2
    go_ret
    exact ⟨rfl, below_drewN HB.out _⟩
theorem extRange_nil (a n t : Int) (w : World) : Calls Tryz.prog 111 #[.pointer none, .agg #[.int .i64 a, .int .i64 n], .int .i64 t] w fun e w' => e = .returned (.tuple #[.slice none 0 0, .int .i64 2]) ∧ Below w.heap.size w w' := by
  have hb := below_alloc w (.cells #[.int .i64 a, .int .i64 n] 56)
  have HB := Lib.hid hb
  clear hb
  go_enter Tryz.func111, Tryz.ntmps111
  go_wp2_with fail
  refine (extWithin_nil a n _).mono ?_
  rintro e w1 ⟨rfl, hb1⟩
  have hb2 := Below.up HB.out hb1
  have HB1 := Lib.hid hb1
  have HB2 := Lib.hid hb2
  clear hb1 hb2
  go_wp2
  go_ret2
  exact ⟨rfl, HB2.out⟩
theorem extWritten_nil (a n t : Int) (w : World) : Calls Tryz.prog 134 #[.pointer none, .agg #[.int .i64 a, .int .i64 n], .int .i64 t] w fun e w' => e = .returned (.bool false) ∧ Below w.heap.size w w' := by
  have hb := below_alloc w (.cells #[.int .i64 a, .int .i64 n] 56)
  have HB := Lib.hid hb
  clear hb
  go_enter Tryz.func134, Tryz.ntmps134
  go_wp2_with fail
  refine (extGone_nil _).mono ?_
  rintro e w1 ⟨rfl, rfl⟩
  go_wp2
  go_ret
  exact ⟨rfl, HB.out⟩
theorem extApply_nil (tv : Value) (t : Int) (pv : Value) (w : World) (htv : tv = .agg #[.int .i64 t, pv]) (_hone : pv.oneCell' = true) : Calls Tryz.prog 70 #[.pointer none, tv] w fun e w' => e = .returned (.int .i64 1) ∧ Below w.heap.size w w' := by
  subst htv
  have hb := below_alloc w (.cells #[.int .i64 t, pv] 70)
  have HB := Lib.hid hb
  clear hb
  go_enter Tryz.func70, Tryz.ntmps70
  go_wp2_with fail
  refine (extGone_nil _).mono ?_
  rintro e w1 ⟨rfl, rfl⟩
  go_wp2
  go_ret
  exact ⟨rfl, HB.out⟩
end Go.Proofs

/- A manager among other things: its calls. -/
namespace Go.Proofs
open Go.RowKit Sc
section
variable {W w : World} {L : List Asn}
theorem MgrA.open' (h : Hid (Sep W L w)) (i : Nat) {b : Nat} {s : MgS} (hi : L[i]? = some (MgrA (pt b) s)) : ∃ c : MgC, c.mb = b ∧ c.cs.length = s.txs.length ∧ Hid (Sep W (OL L i (mgrItems c s)) w) ∧ i < L.length := by
  obtain ⟨c, hv, hc, hS⟩ := MgrA.opened h.out i hi
  refine ⟨c, ?_, hc, hS, (List.getElem?_eq_some_iff.1 hi).1⟩
  simp only [Value.pointer.injEq, Option.some.injEq, Addr.mk.injEq] at hv
  exact hv.1.symm
theorem mgBegin_sep (h : Hid (Sep W L w)) (i : Nat) {b : Nat} {s : MgS} (hi : L[i]? = some (MgrA (pt b) s)) {n : Nat} (g : MgG n s) :
    Calls Tryz.prog 19 #[.pointer (some ⟨b, 0, none⟩)] w fun e w' => e = .returned (.tuple #[.int .i64 (begH s), .int .i64 (begC s)]) ∧ Hid (Sep W (L.set i (MgrA (pt b) (begNext s))) w') := by
  obtain ⟨c, rfl, hc, hS, hil⟩ := MgrA.open' h i hi
  refine (begin_core hS hc g.kd g.b1 g.b2 g.hh).mono ?_
  rintro e w' ⟨rfl, c', hmb, hc', hS'⟩
  have := MgrA.closed hS'.out hil hc'
  rw [hmb] at this
  exact ⟨rfl, this⟩
theorem mgWrite_sep (h : Hid (Sep W L w)) (i : Nat) {b : Nat} {s : MgS} (hi : L[i]? = some (MgrA (pt b) s)) {n : Nat} (g : MgG n s) (hd : Int) (lv : Value) (l : List Put) (hl : ∀ G, Sc.Rest L i G w → PutsAt G w lv l) (n1 : l.length ≤ 1000000) :
    Calls Tryz.prog 20 #[.pointer (some ⟨b, 0, none⟩), .int .i64 hd, lv] w fun e w' => e = .returned (.int .i64 (wrCode s hd l)) ∧ Hid (Sep W (L.set i (MgrA (pt b) (wrNext s hd l))) w') := by
  obtain ⟨c, rfl, hc, hS, hil⟩ := MgrA.open' h i hi
  refine (write_core hS hc hd lv l hl (fun t ht => by have := (g.tx t ht).bl; omega) n1).mono ?_
  rintro e w' ⟨rfl, hS'⟩
  refine ⟨rfl, MgrA.closed hS'.out hil ?_⟩
  rw [hc]
  unfold wrNext
  split
  · exact (setTx_len ..).symm
  · rfl
theorem mgRead_sep (h : Hid (Sep W L w)) (i : Nat) {b : Nat} {s : MgS} (hi : L[i]? = some (MgrA (pt b) s)) {n : Nat} (g : MgG n s) (hn : n ≤ 1000000) (hd : Int) (e : Ext) (i1 : I64 e.first) (i2 : I64 e.len) :
    Calls Tryz.prog 34 #[.pointer (some ⟨b, 0, none⟩), .int .i64 hd, .agg #[.int .i64 e.first, .int .i64 e.len]] w fun r w' =>
      (rdCode s hd e ≠ 0 ∧ r = .returned (.tuple #[.slice none 0 0, .int .i64 (rdCode s hd e)]) ∧ Hid (Sep W L w')) ∨
      (rdCode s hd e = 0 ∧ ∃ g o cp, r = .returned (.tuple #[.slice (some ⟨g, o, none⟩) (40 * e.len.toNat) cp, .int .i64 0]) ∧
        Hid (Sep W ((L ++ [BytesWA (.slice (some ⟨g, o, none⟩) (40 * e.len.toNat) cp) (rdOut s hd e)]).set i (MgrA (pt b) (rdNext s hd e))) w')) := by
  obtain ⟨c, rfl, hc, hS, hil⟩ := MgrA.open' h i hi
  refine (mread_core hS hc hd e g.ge g.b2 hn g.tx i1 i2 hil).mono ?_
  rintro r w' (⟨h1, rfl, hS'⟩ | ⟨h1, gg, o, cp, rfl, hS'⟩)
  · refine .inl ⟨h1, rfl, ?_⟩
    have := MgrA.closed hS'.out hil hc
    rwa [set_same hi] at this
  · refine .inr ⟨h1, gg, o, cp, rfl, MgrA.closed hS'.out (by simp; omega) ?_⟩
    rw [hc]
    unfold rdNext
    rw [if_pos h1]
    exact (setTx_len ..).symm
theorem mgAbort_sep (h : Hid (Sep W L w)) (i : Nat) {b : Nat} {s : MgS} (hi : L[i]? = some (MgrA (pt b) s)) (hd : Int) :
    Calls Tryz.prog 24 #[.pointer (some ⟨b, 0, none⟩), .int .i64 hd] w fun e w' => e = .returned (.int .i64 (abCode s hd)) ∧ Hid (Sep W (L.set i (MgrA (pt b) (abNext s hd))) w') := by
  obtain ⟨c, rfl, hc, hS, hil⟩ := MgrA.open' h i hi
  refine (abort_core hS hc hd).mono ?_
  rintro e w' ⟨rfl, hS'⟩
  refine ⟨rfl, MgrA.closed hS'.out hil ?_⟩
  rw [hc]
  unfold abNext
  split
  · exact (setTx_len ..).symm
  · rfl
theorem mgResult_sep (h : Hid (Sep W L w)) (i : Nat) {b : Nat} {s : MgS} (hi : L[i]? = some (MgrA (pt b) s)) (hd : Int) :
    Calls Tryz.prog 23 #[.pointer (some ⟨b, 0, none⟩), .int .i64 hd] w fun e w' => e = .returned (.tuple #[.int .i64 (resOf s hd).1, .int .i64 (resOf s hd).2.1, .int .i64 (resOf s hd).2.2]) ∧ Hid (Sep W L w') := by
  obtain ⟨c, rfl, hc, hS, hil⟩ := MgrA.open' h i hi
  refine (result_core hS hc hd).mono ?_
  rintro e w' ⟨rfl, hb⟩
  exact ⟨rfl, h.out.up hb⟩
theorem mgLast_sep (h : Hid (Sep W L w)) (i : Nat) {b : Nat} {s : MgS} (hi : L[i]? = some (MgrA (pt b) s)) :
    Calls Tryz.prog 29 #[.pointer (some ⟨b, 0, none⟩)] w fun e w' => e = .returned (.int .i64 s.last) ∧ w' = w := by
  obtain ⟨c, rfl, hc, hS, hil⟩ := MgrA.open' h i hi
  exact last_core hS
theorem mgQueue_sep (h : Hid (Sep W L w)) (i : Nat) {b : Nat} {s : MgS} (hi : L[i]? = some (MgrA (pt b) s)) :
    Calls Tryz.prog 31 #[.pointer (some ⟨b, 0, none⟩)] w fun e w' => e = .returned (.int .i64 s.queue.length) ∧ w' = w := by
  obtain ⟨c, rfl, hc, hS, hil⟩ := MgrA.open' h i hi
  exact queue_core hS
theorem mgOpen_sep (h : Hid (Sep W L w)) (i : Nat) {b : Nat} {s : MgS} (hi : L[i]? = some (MgrA (pt b) s)) {n : Nat} (g : MgG n s) :
    Calls Tryz.prog 26 #[.pointer (some ⟨b, 0, none⟩)] w fun e w' => e = .returned (.int .i64 s.tmb.length) ∧ Hid (Sep W L w') := by
  obtain ⟨c, rfl, hc, hS, hil⟩ := MgrA.open' h i hi
  refine (count_core hS g.kd.ln).mono ?_
  rintro e w' ⟨rfl, hb⟩
  exact ⟨rfl, h.out.up hb⟩
theorem mgVersions_sep (h : Hid (Sep W L w)) (i : Nat) {b : Nat} {s : MgS} (hi : L[i]? = some (MgrA (pt b) s)) {n : Nat} (g : MgG n s) (hn : n ≤ 1000000) :
    Calls Tryz.prog 43 #[.pointer (some ⟨b, 0, none⟩)] w fun e w' => e = .returned (.int .i64 (nVers s.vs)) ∧ Hid (Sep W L w') := by
  obtain ⟨c, rfl, hc, hS, hil⟩ := MgrA.open' h i hi
  refine (versions_core hS g.b1 (by have := g.nv; omega)).mono ?_
  rintro e w' ⟨rfl, hb⟩
  exact ⟨rfl, h.out.up hb⟩
theorem mgReadOnly_sep (h : Hid (Sep W L w)) (i : Nat) {b : Nat} {s : MgS} (hi : L[i]? = some (MgrA (pt b) s)) (q : Bool) :
    Calls Tryz.prog 33 #[.pointer (some ⟨b, 0, none⟩), .bool q] w fun e w' => e = .returned (.tuple #[]) ∧ Hid (Sep W (L.set i (MgrA (pt b) { s with ro := q })) w') := by
  obtain ⟨c, rfl, hc, hS, hil⟩ := MgrA.open' h i hi
  refine (readOnly_core hS q).mono ?_
  rintro e w' ⟨rfl, hS'⟩
  exact ⟨rfl, MgrA.closed hS'.out hil hc⟩
theorem mgPrune_sep (h : Hid (Sep W L w)) (i : Nat) {b : Nat} {s : MgS} (hi : L[i]? = some (MgrA (pt b) s)) {n : Nat} (g : MgG n s) (hn : n ≤ 1000000) :
    Calls Tryz.prog 39 #[.pointer (some ⟨b, 0, none⟩)] w fun e w' => e = .returned (.int .i64 ((nVers s.vs - nVers (pruneVs (prH s) s.vs) : Nat) : Int)) ∧ Hid (Sep W (L.set i (MgrA (pt b) (prNext s))) w') := by
  obtain ⟨c, rfl, hc, hS, hil⟩ := MgrA.open' h i hi
  refine (prune_core hS g.b1 g.ge.nd (by have := g.nv; omega)).mono ?_
  rintro e w' ⟨rfl, hS'⟩
  exact ⟨rfl, MgrA.closed hS'.out hil hc⟩
end
end Go.Proofs

/- A manager: Dump, Load. -/
namespace Go.Proofs
open Go.RowKit Sc
theorem vs_len {vs : Vers} (h : ∀ x ∈ vs, x.2 ≠ []) : vs.length ≤ nVers vs := by
  induction vs with
  | nil => simp
  | cons x t ih =>
    have h1 := ih fun y hy => h y (List.mem_cons_of_mem _ hy)
    have h2 := List.length_pos_iff.2 (h x (by simp))
    show t.length + 1 ≤ x.2.length + nVers t
    omega
section
variable {W w : World} {L : List Asn} {i : Nat} {c : MgC} {s : MgS}
set_option maxRecDepth 100000 in
set_option maxHeartbeats 2000000 in
theorem dump_core (h : Hid (Sep W (OL L i (mgrItems c s)) w)) {n : Nat} (g : MgG n s) (hn : n ≤ 1000000) :
    Calls Tryz.prog 30 #[.pointer (some ⟨c.mb, 0, none⟩)] w fun e w' => ∃ p cp, e = .returned (.slice p (dumpV s.vs).length cp) ∧ Hid (PutsW (New w w') w' (.slice p (dumpV s.vs).length cp) (dumpV s.vs)) ∧ Hid (Below w.heap.size w w') := by
  obtain ⟨c0, _⟩ := mgr_cells h.out
  obtain ⟨F, hF, _⟩ := h.out.get (L.length + 1) (OL_get.trans (items_head 1 (by omega)))
  have hne := good_ne g.ge
  have HK := Lib.hid (extDump_any F (pt c.m) s.blocks s.last0 s.vs w hF g.b1 (fun x hx => (good_key g.ge g.b2 x hx).1) (by have := vs_len hne; have := g.nv; omega) hne g.ge.d40)
  clear hF hne
  go_enter Tryz.func30, Tryz.ntmps30
  go_wp2_with fail
  refine (gone_any c.mb c.m _ c0).mono ?_
  rintro e w1 ⟨rfl, rfl⟩
  go_wp2_with fail
  refine (HK.out).mono ?_
  rintro e w2 ⟨v, rfl, hp, hb⟩
  obtain ⟨p, cp, rfl⟩ := putsW_shape hp
  have HP := Lib.hid hp
  have HB := Lib.hid hb
  clear hp hb
  go_wp2
  go_ret
  exact ⟨p, cp, rfl, HP, HB⟩
theorem ml_len (cs : List TxC) : (mlOf cs).length = cs.length := by unfold mlOf; simp
set_option maxRecDepth 100000 in
set_option maxHeartbeats 4000000 in
theorem load_core (h : Hid (Sep W (OL L i (mgrItems c s)) w)) (hc : c.cs.length = s.txs.length) {n : Nat} (g : MgG n s) (hn : n ≤ 1000000) (lv : Value) (l : List Put) (hl : ∀ G w', Sc.Rest L i G w' → PutsAt G w' lv l) (n1 : l.length ≤ 1000000) :
    Calls Tryz.prog 32 #[.pointer (some ⟨c.mb, 0, none⟩), lv] w fun e w' => e = .returned (.int .i64 (ldCode s l)) ∧ Hid (Sep W (OL L i (mgrItems c (ldNext s l))) w') := by
  have hsh : ∃ p cp, lv = .slice p l.length cp := by
    obtain ⟨F, G, _, hR, _⟩ := h.out.at (L.length + 0) (OL_get.trans (items_head 0 (by omega)))
    obtain ⟨p, cp, e, _⟩ := hl G w (Rest_OL hR)
    exact ⟨p, cp, e⟩
  obtain ⟨lp, lc, rfl⟩ := hsh
  obtain ⟨c0, _, c2, _, _, _, c6, _⟩ := mgr_cells h.out
  have hlen := fun ty => (mgr_map h.out).len (P := Tryz.prog) Tryz.underlying104 ty
  rw [ml_len, hc] at hlen
  have HG : Hid (MgG n s) := g
  have HL := Lib.hid hl
  have h6 : (s.base == 0) = decide (s.base = 0) := by by_cases e : s.base = 0 <;> simp [e]
  clear g hl
  by_cases ht : 0 < s.txs.length
  case pos =>
    have HC : Hid (ldCode s l = 1 ∧ ldNext s l = s) := ⟨if_pos (.inl ht), if_pos (.inl ht)⟩
    have ht' : (0 : Int) < (s.txs.length : Int) := by omega
    go_enter Tryz.func32, Tryz.ntmps32
    go_wp2_with fail
    refine (gone_any c.mb c.m _ c0).mono ?_
    rintro e w1 ⟨rfl, rfl⟩
    go_wp2
    go_ret
    exact ⟨by rw [HC.out.1]; rfl, by rw [HC.out.2]; exact h⟩
  case neg =>
  have ht' : ¬ (0 : Int) < (s.txs.length : Int) := by omega
  by_cases hb : s.base = 0 ∧ 0 < l.length
  case pos =>
    have HC : Hid (ldCode s l = 1 ∧ ldNext s l = s) := ⟨if_pos (.inr hb), if_pos (.inr (.inl hb))⟩
    have hb1 : (s.base == 0) = true := by rw [h6, decide_eq_true hb.1]
    have hb2 : (0 : Int) < (l.length : Int) := by omega
    clear h6
    go_enter Tryz.func32, Tryz.ntmps32
    go_wp2_with fail
    refine (gone_any c.mb c.m _ c0).mono ?_
    rintro e w1 ⟨rfl, rfl⟩
    go_wp2
    go_ret
    exact ⟨by rw [HC.out.1]; rfl, by rw [HC.out.2]; exact h⟩
  case neg =>
  by_cases hl0 : l.length = 0
  case pos =>
    have HC : Hid (ldCode s l = 0 ∧ ldNext s l = s) := by
      refine ⟨?_, if_pos (.inr (.inr hl0))⟩
      unfold ldCode
      rw [if_neg (by omega), if_pos hl0]
    have hb2 : ¬ (0 : Int) < (l.length : Int) := by omega
    have hb3 : ((l.length : Int) == 0) = true := by rw [beq_iff_eq]; omega
    by_cases hb1 : s.base = 0
    · rw [hb1] at c6
      clear hb h6 hb1
      go_enter Tryz.func32, Tryz.ntmps32
      go_wp2_with fail
      refine (gone_any c.mb c.m _ c0).mono ?_
      rintro e w1 ⟨rfl, rfl⟩
      go_wp2
      go_ret
      exact ⟨by rw [HC.out.1]; rfl, by rw [HC.out.2]; exact h⟩
    · have hb1' : (s.base == 0) = false := by rw [beq_eq_false_iff_ne]; exact hb1
      clear hb h6 hb1
      go_enter Tryz.func32, Tryz.ntmps32
      go_wp2_with fail
      refine (gone_any c.mb c.m _ c0).mono ?_
      rintro e w1 ⟨rfl, rfl⟩
      go_wp2
      go_ret
      exact ⟨by rw [HC.out.1]; rfl, by rw [HC.out.2]; exact h⟩
  case neg =>
    have hb1 : s.base ≠ 0 := fun e => hb ⟨e, by omega⟩
    have HC : Hid (ldCode s l = applyCode s.blocks s.last0 ⟨s.base, l⟩ ∧ ldNext s l = { s with vs := applyNext s.blocks s.last0 s.vs ⟨s.base, l⟩, last0 := applyLast s.blocks s.last0 ⟨s.base, l⟩ }) := by
      refine ⟨?_, if_neg (by omega)⟩
      unfold ldCode
      rw [if_neg (by omega), if_neg hl0]
    have hb1' : (s.base == 0) = false := by rw [beq_eq_false_iff_ne]; exact hb1
    have hb2 : (0 : Int) < (l.length : Int) := by omega
    have hb3 : ((l.length : Int) == 0) = false := by rw [beq_eq_false_iff_ne]; omega
    have hi64 : I64 s.base := by have := HG.out.lt; unfold I64; omega
    have hSd := h.out.up (below_drewN (Below.refl w.heap.size w) 1)
    have hap := extApply_sep hSd (L.length + 1) (tv := .agg #[.int .i64 s.base, .slice lp l.length lc]) (OL_get.trans (items_head 1 (by omega))) HG.out.b1 ⟨s.base, l⟩ (fun G hR => ⟨_, rfl, hi64, HL.out G _ (Rest_OL hR)⟩)
      (fun k l hl => by have h1 := len_nVers hl; have h2 := HG.out.nv; omega) n1
    rw [OL_set, items_ext] at hap
    obtain ⟨d0, _, _, _, _, _, d6, _⟩ := mgr_cells hSd
    have HAP := Lib.hid hap
    clear hb h6 hb1 hl0 hSd hap
    go_enter Tryz.func32, Tryz.ntmps32
    go_wp2_with fail
    refine (gone_any c.mb c.m _ c0).mono ?_
    rintro e w1 ⟨rfl, rfl⟩
    go_upto_region 5 with fail
    refine wp_regionG (fun W => W.cell? ⟨c.mb, 0, none⟩ = some (.pointer (some ⟨c.m, 0, none⟩)) ∧ W.cell? ⟨c.mb, 6, none⟩ = some (.int .i64 s.base)) (n := 12) (by kernel_rfl) (by kernel_rfl) ?_
    refine wpG.take 0 (v := ?_) (a' := ?_) rfl (by kernel_rfl) (by kernel_rfl) (by kernel_rfl) (by kernel_rfl) (fun _ _ _ h => h) ?_ ?_ ?_
    rotate_left 2
    · intro W hW
      go_simp
      try with_reducible rfl
    · go_simp
      try with_reducible rfl
    refine wpG.take 1 (v := ?_) (a' := ?_) rfl (by kernel_rfl) (by kernel_rfl) (by kernel_rfl) (by kernel_rfl) (fun _ _ _ h => h) ?_ ?_ ?_
    rotate_left 2
    · intro W hW
      go_simp
      try with_reducible rfl
    · go_simp
      try with_reducible rfl
    refine wpG.take 2 (v := ?_) (a' := ?_) rfl (by kernel_rfl) (by kernel_rfl) (by kernel_rfl) (by kernel_rfl) (fun _ _ _ h => h) ?_ ?_ ?_
    rotate_left 2
    · intro W hW
      go_simp
      try with_reducible rfl
    · go_simp
      try with_reducible rfl
    refine wpG.take 3 (v := ?_) (a' := ?_) rfl (by kernel_rfl) (by kernel_rfl) (by kernel_rfl) (by kernel_rfl) (fun _ _ _ h => h) ?_ ?_ ?_
    rotate_left 2
    · intro W hW
      have hld0 := hW.1
      go_simp
      try with_reducible rfl
    · go_simp
      try with_reducible rfl
    refine wpG.take 4 (v := ?_) (a' := ?_) rfl (by kernel_rfl) (by kernel_rfl) (by kernel_rfl) (by kernel_rfl) (fun _ _ _ h => h) ?_ ?_ ?_
    rotate_left 2
    · intro W hW
      go_simp
      try with_reducible rfl
    · go_simp
      try with_reducible rfl
    refine wpG.take 5 (v := ?_) (a' := ?_) rfl (by kernel_rfl) (by kernel_rfl) (by kernel_rfl) (by kernel_rfl) (fun _ _ _ h => h) ?_ ?_ ?_
    rotate_left 2
    · intro W hW
      go_simp
      try with_reducible rfl
    · go_simp
      try with_reducible rfl
    refine wpG.take 6 (v := ?_) (a' := ?_) rfl (by kernel_rfl) (by kernel_rfl) (by kernel_rfl) (by kernel_rfl) (fun _ _ _ h => h) ?_ ?_ ?_
    rotate_left 2
    · intro W hW
      go_simp
      try with_reducible rfl
    · go_simp
      try with_reducible rfl
    refine wpG.take 7 (v := ?_) (a' := ?_) rfl (by kernel_rfl) (by kernel_rfl) (by kernel_rfl) (by kernel_rfl) (fun _ _ _ h => h) ?_ ?_ ?_
    rotate_left 2
    · intro W hW
      have hld0 := hW.2
      go_simp
      try with_reducible rfl
    · go_simp
      try with_reducible rfl
    refine wpG.take 8 (v := ?_) (a' := ?_) rfl (by kernel_rfl) (by kernel_rfl) (by kernel_rfl) (by kernel_rfl) (fun _ _ _ h => h) ?_ ?_ ?_
    rotate_left 2
    · intro W hW
      go_simp
      try with_reducible rfl
    · go_simp
      try with_reducible rfl
    refine wpG.take 9 (v := ?_) (a' := ?_) rfl (by kernel_rfl) (by kernel_rfl) (by kernel_rfl) (by kernel_rfl) (fun _ _ _ h => h) ?_ ?_ ?_
    rotate_left 2
    · intro W hW
      go_simp
      try with_reducible rfl
    · go_simp
      try with_reducible rfl
    refine wpG.alone 10 rfl (by kernel_rfl) (by kernel_rfl) (⟨d0, d6⟩) (fun K hK => ?_)
    go_simp
    go_at_call 70
    refine (HAP.out).mono ?_
    rintro e w5 ⟨rfl, hs5⟩
    have HS5 := Lib.hid hs5
    obtain ⟨g0, _, _, _, _, _, g6, _⟩ := mgr_cells HS5.out
    have HC1 : Hid (ldCode s l = applyCode s.blocks s.last0 ⟨s.base, l⟩) := HC.out.1
    clear hs5 HAP
    generalize applyCode s.blocks s.last0 ⟨s.base, l⟩ = acd at *
    try go_simp
    refine hK _ _ ?_
    clear hK K
    refine wpG.take 11 (v := ?_) (a' := ?_) rfl (by kernel_rfl) (by kernel_rfl) (by kernel_rfl) (by kernel_rfl) (fun _ _ _ h => h) ?_ ?_ ?_
    rotate_left 2
    · intro W hW
      go_simp
      try with_reducible rfl
    · go_simp
      try with_reducible rfl
    refine wpG.done (by kernel_rfl) ⟨g0, g6⟩ ?_
    go_wp2
    go_ret
    exact ⟨by rw [HC1.out]; rfl, by rw [HC.out.2]; exact HS5⟩
theorem ldNext_txs (s : MgS) (l : List Put) : (ldNext s l).txs = s.txs := by unfold ldNext; split <;> rfl
theorem cmNext_len (s : MgS) (h : Int) : (cmNext s h).txs.length = s.txs.length := by
  unfold cmNext
  split
  · split
    · exact (setTx_len ..).trans (setTx_len ..)
    · split
      · exact setTx_len ..
      · exact setTx_len ..
  · rfl
theorem baNext_txs (s : MgS) : (baNext s).txs = s.txs := by unfold baNext; split <;> rfl
theorem doneNext_len {n : Nat} {s : MgS} (g : MgG n s) (code : Int) : (doneNext s code).txs.length = s.txs.length := by
  unfold doneNext
  split
  · rfl
  · have := g.o1
    exact (doneTo_same code s s.out.toNat (by omega)).2.1
end
section
variable {W w : World} {L : List Asn}
theorem mgCommit_sep (h : Hid (Sep W L w)) (i : Nat) {b : Nat} {s : MgS} (hi : L[i]? = some (MgrA (pt b) s)) {n : Nat} (g : MgG n s) (hn : s.queue.length ≤ 1000000) (hd : Int) :
    Calls Tryz.prog 22 #[.pointer (some ⟨b, 0, none⟩), .int .i64 hd] w fun e w' => e = .returned (.int .i64 (cmCode s hd)) ∧ Hid (Sep W (L.set i (MgrA (pt b) (cmNext s hd))) w') := by
  obtain ⟨c, rfl, hc, hS, hil⟩ := MgrA.open' h i hi
  refine (commit_core hS hc g hn hd).mono ?_
  rintro e w' ⟨rfl, q, hS'⟩
  exact ⟨rfl, MgrA.closed (c := { c with qv := q }) hS'.out hil (hc.trans (cmNext_len s hd).symm)⟩
theorem mgBatch_sep (h : Hid (Sep W L w)) (i : Nat) {b : Nat} {s : MgS} (hi : L[i]? = some (MgrA (pt b) s)) {n : Nat} (g : MgG n s) (hn : s.queue.length ≤ 1000000) (hnn : n ≤ 1000000) :
    Calls Tryz.prog 27 #[.pointer (some ⟨b, 0, none⟩)] w fun e w' =>
      (baCode s ≠ 0 ∧ e = .returned (.tuple #[.agg #[.int .i64 0, .slice none 0 0], .int .i64 (baCode s)]) ∧ Hid (Sep W L w')) ∨
      (baCode s = 0 ∧ ∃ p cp, e = .returned (.tuple #[.agg #[.int .i64 (s.num + 1), .slice p (formN (waitL s)) cp], .int .i64 0]) ∧
        Hid (Sep W ((L ++ [TxsA (.slice p (formN (waitL s)) cp) ((waitL s).take (formN (waitL s)))]).set i (MgrA (pt b) (baNext s))) w')) := by
  obtain ⟨c, rfl, hc, hS, hil⟩ := MgrA.open' h i hi
  refine (batch_core hS hc g hn hnn hil).mono ?_
  rintro e w' (⟨h1, rfl, hS'⟩ | ⟨h1, p, cp, rfl, hS'⟩)
  · refine .inl ⟨h1, rfl, ?_⟩
    have := MgrA.closed hS'.out hil hc
    rwa [set_same hi] at this
  · exact .inr ⟨h1, p, cp, rfl, MgrA.closed hS'.out (by simp; omega) (by rw [baNext_txs]; exact hc)⟩
theorem mgDone_sep (h : Hid (Sep W L w)) (i : Nat) {b : Nat} {s : MgS} (hi : L[i]? = some (MgrA (pt b) s)) {n : Nat} (g : MgG n s) (hn : s.queue.length ≤ 1000000) (hnn : n ≤ 900000) (h8 : s.out ≤ 8) (code : Int) :
    Calls Tryz.prog 28 #[.pointer (some ⟨b, 0, none⟩), .int .i64 code] w fun e w' => e = .returned (.int .i64 (doneCode s)) ∧ Hid (Sep W (L.set i (MgrA (pt b) (doneNext s code))) w') := by
  obtain ⟨c, rfl, hc, hS, hil⟩ := MgrA.open' h i hi
  refine (done_core hS hc g hn hnn h8 hil code).mono ?_
  rintro e w' ⟨rfl, q, hS'⟩
  exact ⟨rfl, MgrA.closed (c := { c with qv := q }) hS'.out hil (hc.trans (doneNext_len g code).symm)⟩
theorem mgDump_sep (h : Hid (Sep W L w)) (i : Nat) {b : Nat} {s : MgS} (hi : L[i]? = some (MgrA (pt b) s)) {n : Nat} (g : MgG n s) (hn : n ≤ 1000000) :
    Calls Tryz.prog 30 #[.pointer (some ⟨b, 0, none⟩)] w fun e w' => ∃ p cp, e = .returned (.slice p (dumpV s.vs).length cp) ∧ Hid (PutsW (New w w') w' (.slice p (dumpV s.vs).length cp) (dumpV s.vs)) ∧ Hid (Below w.heap.size w w') := by
  obtain ⟨c, rfl, hc, hS, hil⟩ := MgrA.open' h i hi
  exact dump_core hS g hn
theorem mgLoad_sep (h : Hid (Sep W L w)) (i : Nat) {b : Nat} {s : MgS} (hi : L[i]? = some (MgrA (pt b) s)) {n : Nat} (g : MgG n s) (hn : n ≤ 1000000) (lv : Value) (l : List Put) (hl : ∀ G w', Sc.Rest L i G w' → PutsAt G w' lv l) (n1 : l.length ≤ 1000000) :
    Calls Tryz.prog 32 #[.pointer (some ⟨b, 0, none⟩), lv] w fun e w' => e = .returned (.int .i64 (ldCode s l)) ∧ Hid (Sep W (L.set i (MgrA (pt b) (ldNext s l))) w') := by
  obtain ⟨c, rfl, hc, hS, hil⟩ := MgrA.open' h i hi
  refine (load_core hS hc g hn lv l hl n1).mono ?_
  rintro e w' ⟨rfl, hS'⟩
  exact ⟨rfl, MgrA.closed hS'.out hil (by rw [ldNext_txs]; exact hc)⟩
end
end Go.Proofs

/- The calls of a manager at inputs that are told: plain. -/
namespace Go.Proofs
open Go.RowKit Sc

theorem beg_ok {n : Nat} {s : MgS} (g : MgG n s) (h : s.tmb.length < 16) : begC s = 0 ∧ begH s = s.txs.length + 1 ∧ begNext s = { s with lastH := s.lastH + 1, tmb := s.tmb ++ [(s.lastH + 1, s.last)], txs := s.txs ++ [⟨1, 0, 0, s.last, [], [], []⟩] } := by
  have hl := g.lt
  have hc : begC s = 0 := by
    unfold begC OpenOk
    rw [if_neg (by omega), if_neg (by omega)]
  refine ⟨hc, ?_, if_pos hc⟩
  unfold begH
  rw [if_pos hc, g.hh]
theorem beg_full {n : Nat} {s : MgS} (g : MgG n s) (h : 16 ≤ s.tmb.length) : begC s = 6 ∧ begH s = 0 ∧ begNext s = s := by
  have hl := g.lt
  have hc : begC s = 6 := by
    unfold begC OpenOk
    rw [if_neg (by omega), if_pos (by omega)]
  refine ⟨hc, ?_, ?_⟩
  · unfold begH; rw [if_neg (by omega)]
  · unfold begNext; rw [if_neg (by omega)]
theorem buf_one {blocks most : Int} {s : List (Int × Bytes)} {k : Int} {d : Bytes} (h1 : 0 ≤ k ∧ k < blocks) (h2 : d.length = 40) (h3 : (s.length : Int) < most) : bufCode blocks most s [⟨k, d⟩] = 0 ∧ bufNext blocks most s [⟨k, d⟩] = aset s k d := by
  have hc : bufCode blocks most s [⟨k, d⟩] = 0 := by
    unfold bufCode
    have e1 : ([⟨k, d⟩] : List Put).any (outB blocks) = false := by
      show (outB blocks ⟨k, d⟩ || false) = false
      unfold outB
      rw [decide_eq_false (show ¬ k < 0 by omega), decide_eq_false (show ¬ blocks ≤ k by omega)]; rfl
    have e2 : ([⟨k, d⟩] : List Put).any len40 = false := by
      show (len40 ⟨k, d⟩ || false) = false
      unfold len40
      rw [decide_eq_true h2]; rfl
    have e3 : twiceB [(⟨k, d⟩ : Put)] = false := twiceB_no.2 (by simp)
    have e4 : freshN s [(⟨k, d⟩ : Put)] ≤ 1 := by unfold freshN; exact List.length_filter_le _ _
    rw [if_neg (by simp), e1, e2, e3]
    simp only [Bool.false_eq_true, if_false]
    rw [if_neg (by omega)]
  refine ⟨hc, ?_⟩
  unfold bufNext
  rw [if_pos hc]; rfl
theorem wr_one {s : MgS} {h k : Int} {d : Bytes} (ho : openB s h = true) (h1 : 0 ≤ k ∧ k < s.blocks) (h2 : d.length = 40) (h3 : (txOf s h).buf.length < 16) : wrCode s h [⟨k, d⟩] = 0 ∧ wrNext s h [⟨k, d⟩] = setTx s h { txOf s h with buf := aset (txOf s h).buf k d } := by
  obtain ⟨e1, e2⟩ := buf_one (most := 16) h1 h2 (s := (txOf s h).buf) (by omega)
  unfold wrCode wrNext
  rw [if_pos ho, if_pos ho, e1, e2]
  exact ⟨rfl, rfl⟩
/-- What a row of extents covers was not written later, nor by one that waits: no conflict. -/
theorem check_free {vs : Vers} {queue : List Tx} {t : Int} {r l : List Ext} (h1 : ∀ x ∈ r ++ l, wrB vs x t = false) (h2 : ∀ q ∈ queue, ∀ p ∈ q.puts, hasB r p.lba = false ∧ hasB l p.lba = false) : checkCode vs queue t r l = 0 := by
  unfold checkCode
  split
  · rfl
  · have key : ∀ m, (∀ x ∈ m, wrB vs x t = false) → (∀ q ∈ queue, ∀ p ∈ q.puts, hasB m p.lba = false) → hitsB vs queue t m = false := fun m a b => by
      unfold hitsB
      rw [Bool.or_eq_false_iff]
      refine ⟨List.any_eq_false.2 fun x hx => by rw [a x hx]; simp, List.any_eq_false.2 fun q hq => ?_⟩
      unfold againstB
      rw [Bool.not_eq_true, List.any_eq_false]
      exact fun p hp => by rw [b q hq p hp]; simp
    rw [key r (fun x hx => h1 x (List.mem_append_left _ hx)) (fun q hq p hp => (h2 q hq p hp).1), key l (fun x hx => h1 x (List.mem_append_right _ hx)) (fun q hq p hp => (h2 q hq p hp).2)]
    rfl
theorem wrB_nil (x : Ext) (t : Int) : wrB [] x t = false := by
  unfold wrB writtenB
  simp
theorem check_none (t : Int) (r l : List Ext) : checkCode [] [] t r l = 0 := check_free (fun x _ => wrB_nil x t) (by simp)
theorem cm_ok {s : MgS} {h : Int} (ho : openB s h = true) (hb : 0 < (txOf s h).buf.length) (hm : mayC s (txOf s h) = 0) : cmCode s h = 0 ∧ cmNext s h = cmWait s h := by
  unfold cmCode cmNext
  rw [if_pos ho, if_pos ho, if_neg (by omega), if_neg (by omega), if_neg (by rw [hm]; simp)]
  exact ⟨hm, rfl⟩
theorem may_ok {s : MgS} {t : TxS} (hr : s.ro = false) (hc : checkCode s.vs (waitL s) t.at' t.S (setB t) = 0) (hg : s.given < 1099511627776) : mayC s t = 0 := by
  unfold mayC
  rw [if_neg (by rw [hr]; decide), if_neg (by rw [hc]; simp), if_neg (by omega)]
theorem ba_ok {s : MgS} (h1 : s.out = 0) (h2 : 0 < s.queue.length) : baCode s = 0 ∧ baNext s = { s with out := formN (waitL s) } := by
  have : baCode s = 0 := by unfold baCode; rw [if_neg (by omega), if_neg (by omega)]
  exact ⟨this, if_pos this⟩
end Go.Proofs

/- The laws of chapter 23: a Put that is written; what awake gives. -/
namespace Go.Proofs
open Go.RowKit Sc

/-- Write of one Put that is laid for it. -/
theorem mgWrite_one {W w : World} {L : List Asn} (h : Hid (Sep W L w)) (i j : Nat) (hij : j ≠ i) {b : Nat} {dv : Value} {d : Bytes} {s : MgS} (hi : L[i]? = some (MgrA (pt b) s)) (hj : L[j]? = some (ByA dv d)) {n : Nat} (g : MgG n s) (hd k : Int) (hk : I64 k) (gg : Nat) (hg : w.heap.size = gg) :
    Calls Tryz.prog 20 #[.pointer (some ⟨b, 0, none⟩), .int .i64 hd, .slice (some ⟨gg, 0, none⟩) 1 1] (w.alloc (.cells #[.int .i64 k, dv] 33)) fun e w' => e = .returned (.int .i64 (wrCode s hd [⟨k, d⟩])) ∧ Hid (Sep W (L.set i (MgrA (pt b) (wrNext s hd [⟨k, d⟩]))) w') := by
  subst hg
  have hil : i < L.length := (List.getElem?_eq_some_iff.1 hi).1
  have hjl : j < L.length := (List.getElem?_eq_some_iff.1 hj).1
  have h1 := h.out.new (below_alloc w _) (BoxA w.heap.size #[.int .i64 k, dv] 33) (F := New w (w.alloc (.cells #[.int .i64 k, dv] 33))) (fun _ h => h) ⟨⟨Nat.le_refl _, by simp⟩, heap_alloc_new w _⟩
  refine (mgWrite_sep (Lib.hid h1) i (by rw [List.getElem?_append_left hil]; exact hi) g hd _ [⟨k, d⟩] (fun G hR => ?_) (by simp)).mono ?_
  · obtain ⟨F1, a1, a2⟩ := hR j (ByA dv d) hij (by rw [List.getElem?_append_left hjl]; exact hj)
    obtain ⟨F2, b1, b2⟩ := hR L.length (BoxA w.heap.size #[.int .i64 k, dv] 33) (by omega) (by rw [List.getElem?_append_right (Nat.le_refl _)]; simp)
    exact puts_box1 b2.2 (b1 _ b2.1) hk (BytesAt.mono a2 a1)
  · rintro e w' ⟨rfl, hS⟩
    refine ⟨rfl, ?_⟩
    have := hS.out.take L.length
    rw [List.set_append_left _ _ hil, List.take_left' (by simp)] at this
    exact this
def aw2 (d : Bytes) : MgS := ⟨5, 0, [], 1, [(1, 0)], [⟨1, 0, 0, 0, [(0, d)], [], []⟩], [], 0, 0, 0, 0, 0, false⟩
def aw3 (d : Bytes) : MgS := ⟨5, 0, [], 1, [(1, 0)], [⟨2, 1, 0, 0, [(0, d)], [], []⟩], [1], 0, 0, 0, 0, 1, false⟩
def aw4 (d : Bytes) : MgS := { aw3 d with out := 1 }
theorem aw_beg : begC (mgNew 5 0) = 0 ∧ begH (mgNew 5 0) = 1 ∧ begNext (mgNew 5 0) = ⟨5, 0, [], 1, [(1, 0)], [⟨1, 0, 0, 0, [], [], []⟩], [], 0, 0, 0, 0, 0, false⟩ := ⟨rfl, rfl, rfl⟩
theorem aw_wr {d : Bytes} (hd : d.length = 40) : wrCode (begNext (mgNew 5 0)) 1 [⟨0, d⟩] = 0 ∧ wrNext (begNext (mgNew 5 0)) 1 [⟨0, d⟩] = aw2 d := by
  rw [aw_beg.2.2]
  obtain ⟨h1, h2⟩ := wr_one (s := ⟨5, 0, [], 1, [(1, 0)], [⟨1, 0, 0, 0, [], [], []⟩], [], 0, 0, 0, 0, 0, false⟩) (h := 1) (k := 0) (d := d) rfl (by simp) hd (by show 0 < 16; omega)
  exact ⟨h1, h2.trans rfl⟩
theorem aw_cm (d : Bytes) : cmCode (aw2 d) 1 = 0 ∧ cmNext (aw2 d) 1 = aw3 d := by
  obtain ⟨h1, h2⟩ := cm_ok (s := aw2 d) (h := 1) rfl (by show 0 < 1; omega) (may_ok rfl (check_none _ _ _) (by show (0 : Int) < 1099511627776; omega))
  exact ⟨h1, h2.trans rfl⟩
theorem aw_ba (d : Bytes) : baCode (aw3 d) = 0 ∧ baNext (aw3 d) = aw4 d := by
  obtain ⟨h1, h2⟩ := ba_ok (s := aw3 d) rfl (by show 0 < 1; omega)
  refine ⟨h1, h2.trans ?_⟩
  have hp := formN_pos (l := waitL (aw3 d)) (by show 0 < 1; omega)
  have hb := (formN_bd (waitL (aw3 d))).1
  rw [waitL_len] at hb
  have hb' : formN (waitL (aw3 d)) ≤ 1 := hb
  have e : formN (waitL (aw3 d)) = 1 := by omega
  rw [e]; rfl
set_option maxRecDepth 100000 in
set_option maxHeartbeats 4000000 in
theorem awake23 (w : World) : Calls Tryz.prog 17 #[] w fun e w' => e = .returned (.bool true) ∧ Below w.heap.size w w' := by
  have hd40 : (dataB 1).length = 40 := data_sz 1
  have G0 : MgG 0 (mgNew 5 0) := MgG.new (by omega) (by omega) (by omega) (by omega)
  have G1 : MgG 1 (begNext (mgNew 5 0)) := G0.begins (by omega)
  have G2 : MgG 1 (aw2 (dataB 1)) := by have := G1.writes 1 [⟨0, dataB 1⟩]; rwa [(aw_wr hd40).2] at this
  have G3 : MgG 1 (aw3 (dataB 1)) := by have := G2.commits 1; rwa [(aw_cm _).2] at this
  have G4 : MgG 1 (aw4 (dataB 1)) := by have := G3.batches; rwa [(aw_ba _).2] at this
  have HG0 := Lib.hid G0
  have HG1 := Lib.hid G1
  have HG2 := Lib.hid G2
  have HG3 := Lib.hid G3
  have HG4 := Lib.hid G4
  clear G0 G1 G2 G3 G4
  go_enter Tryz.func17, Tryz.ntmps17
  go_wp2_with fail
  refine (mgrNew_sep (Lib.hid (Sep.start w)) 5 0 (by omega) (by omega) (by omega) (by omega)).mono ?_
  rintro e w1 ⟨b, rfl, HS1⟩
  go_wp2_with fail
  refine (mgBegin_sep HS1 1 rfl HG0.out).mono ?_
  rintro e w2 ⟨rfl, HS2⟩
  rw [aw_beg.1, aw_beg.2.1]
  go_wp2_with fail
  refine (data_any 1 _).mono ?_
  rintro e w3 ⟨dv, rfl, hd, hb3⟩
  obtain ⟨dp, dc, rfl⟩ := shape_of hd hd40
  have HS3 := Lib.hid (HS2.out.new hb3 (ByA (.slice dp 40 dc) (dataB 1)) (fun _ h => h) hd)
  clear hd hb3 HS1 HS2
  have HW := Lib.hid (mgWrite_one HS3 1 2 (by decide) rfl rfl HG1.out 1 0 (by unfold I64; omega) w3.heap.size rfl)
  rw [(aw_wr hd40).1, (aw_wr hd40).2] at HW
  go_wp2_with fail
  refine (HW.out).mono ?_
  rintro e w4 ⟨rfl, HS4⟩
  have HC := Lib.hid (mgCommit_sep HS4 1 rfl HG2.out (by decide) 1)
  rw [(aw_cm _).1, (aw_cm _).2] at HC
  clear HW HS3
  go_wp2_with fail
  refine (HC.out).mono ?_
  rintro e w5 ⟨rfl, HS5⟩
  have HB := Lib.hid (mgBatch_sep HS5 1 rfl HG3.out (by decide) (by decide))
  clear HC HS4
  go_wp2_with fail
  refine (HB.out).mono ?_
  rintro e w6 (⟨h0, _⟩ | ⟨_, p, cp, rfl, HS6⟩)
  · exact absurd (aw_ba _).1 h0
  have hs6 := HS6.out
  rw [(aw_ba _).2] at hs6
  generalize (aw3 (dataB 1)).num + 1 = nn at *
  generalize formN (waitL (aw3 (dataB 1))) = fl at *
  have HS6' := Lib.hid (hs6.up (below_alloc w6 (.cells #[.int .i64 nn, .slice p fl cp] 42)))
  have HR := Lib.hid (mgResult_sep HS6' 1 rfl 1)
  clear hs6 HS6 HB HS5
  go_wp2_with fail
  refine (HR.out).mono ?_
  rintro e w7 ⟨rfl, HS7⟩
  have HDN := Lib.hid (mgDone_sep HS7 1 rfl HG4.out (by decide) (by decide) (by decide) 0)
  rw [show resOf (aw4 (dataB 1)) 1 = (2, 1, 0) from rfl]
  clear HR HS6'
  go_wp2_with fail
  refine (HDN.out).mono ?_
  rintro e w8 ⟨rfl, HS8⟩
  rw [show doneCode (aw4 (dataB 1)) = 0 from rfl]
  have HR := Lib.hid (mgResult_sep HS8 1 rfl 1)
  clear HDN HS7
  go_wp2_with fail
  refine (HR.out).mono ?_
  rintro e w9 ⟨rfl, HS9⟩
  rw [show resOf (doneNext (aw4 (dataB 1)) 0) 1 = (3, 1, 0) from rfl]
  clear HR HS8
  have HL := Lib.hid (mgLast_sep HS9 1 rfl)
  rw [show (doneNext (aw4 (dataB 1)) 0).last = 1 from rfl] at HL
  go_wp2_with fail
  refine (HL.out).mono ?_
  rintro e w10 ⟨rfl, rfl⟩
  have HOL := Lib.hid HS9.out.old
  clear HS9 HL
  go_wp2
  go_ret
  exact ⟨rfl, HOL.out⟩
end Go.Proofs
