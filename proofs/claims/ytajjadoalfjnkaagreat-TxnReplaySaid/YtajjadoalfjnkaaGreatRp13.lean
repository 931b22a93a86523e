/- Texts of this claim, one behind the other: RmDoes, RmSame23, RmPlays, Prunes23P, Replay23P, R20P, Replay23L, HistOut, HistFar, Replay23H. -/
import Derived.Maps.AppendAt
import Derived.Test.YtajjadoalfjnkaaGreatRp12
namespace Go.Proofs
open Go.RowKit Sc
def stDo (s : MgS) (x : Step23) : MgS :=
 if x.kind = 1 then begNext s else if x.kind = 2 then rdNext s x.h x.e else if x.kind = 3 then wrNext s x.h x.puts else if x.kind = 4 then cmNext s x.h else if x.kind = 5 then abNext s x.h else if x.kind = 6 then baNext s else if x.kind = 7 then doneNext s x.n else if x.kind = 8 then { s with ro := (Int.tmod x.n 2 != 0) } else if x.kind = 9 then prNext s else s
theorem rest_oldV {W w0 : World} {L : List Asn} {i : Nat} (hi : 0 ≠ i) {v : Value} {l : List Put} (hp : PutsAt (Old W) W v l) {G : Foot} (hR : Sc.Rest (OldA W :: L) i G w0) : PutsAt G w0 v l := by
 obtain ⟨F0, hF0, hO⟩ := hR 0 _ hi rfl
 exact (hp.same hO.2).mono fun q hq => hF0 q (hO.1 q hq)
theorem box_told {W w : World} {L : List Asn} (h : Hid (Sep W L w)) (i : Nat) {bx : Nat} {cs : Array Value} {T : TypeId} (hi : L[i]? = some (BoxA bx cs T)) (j : Nat) : w.cell? ⟨bx, j, none⟩ = cs[j]? := by
 obtain ⟨F, hF, _⟩ := h.out.get i hi
 rw [cell_row hF.2]
set_option maxRecDepth 100000 in
set_option maxHeartbeats 16000000 in
theorem does23_any {W wr : World} {a b : Nat} {s : MgS} {N : Nat} (HS : Hid (Sep W [OldA W, MgrA (pt a) s, RMgrA (pt b) s] wr)) (hg : MgG N s) (h8 : s.out ≤ 8) (hN : N ≤ 250000) (kd hh xf xl nn : Int) (pp : Option Addr) (pc : Nat) (ps : List Put) (hp : PutsAt (Old W) W (.slice pp ps.length pc) ps) (ih : I64 hh) (i1 : I64 xf) (i2 : I64 xl) (hpl : ps.length ≤ 400000) :
  Calls Tryz.prog 42 #[.pointer (some ⟨a, 0, none⟩), .pointer (some ⟨b, 0, none⟩), .agg #[.int .i64 kd, .int .i64 hh, .int .i64 xf, .int .i64 xl, .slice pp ps.length pc, .int .i64 nn]] wr fun e w' => e = .returned (.bool true) ∧ Hid (Sep W [OldA W, MgrA (pt a) (stDo s ⟨kd, hh, ⟨xf, xl⟩, ps, nn⟩), RMgrA (pt b) (stDo s ⟨kd, hh, ⟨xf, xl⟩, ps, nn⟩)] w') := by
 have HS6 := Lib.hid (HS.out.new (below_alloc wr (.cells #[.int .i64 kd, .int .i64 hh, .int .i64 xf, .int .i64 xl, .slice pp ps.length pc, .int .i64 nn] 68)) (BoxA wr.heap.size #[.int .i64 kd, .int .i64 hh, .int .i64 xf, .int .i64 xl, .slice pp ps.length pc, .int .i64 nn] 68) (F := New wr (wr.alloc (.cells #[.int .i64 kd, .int .i64 hh, .int .i64 xf, .int .i64 xl, .slice pp ps.length pc, .int .i64 nn] 68))) (fun _ h => h) ⟨⟨Nat.le_refl _, by simp⟩, heap_alloc_new wr _⟩)
 have HS6 : Hid (Sep W [OldA W, MgrA (pt a) s, RMgrA (pt b) s, BoxA wr.heap.size #[.int .i64 kd, .int .i64 hh, .int .i64 xf, .int .i64 xl, .slice pp ps.length pc, .int .i64 nn] 68] (wr.alloc (.cells #[.int .i64 kd, .int .i64 hh, .int .i64 xf, .int .i64 xl, .slice pp ps.length pc, .int .i64 nn] 68 (0, 0)))) := HS6
 have z0 := box_told HS6 3 rfl 0
 have z1 := box_told HS6 3 rfl 1
 have z2 := box_told HS6 3 rfl 2
 have z3 := box_told HS6 3 rfl 3
 have z4 := box_told HS6 3 rfl 4
 have z5 := box_told HS6 3 rfl 5
 change _ = some (Value.int .i64 kd) at z0
 change _ = some (Value.int .i64 hh) at z1
 change _ = some (Value.int .i64 xf) at z2
 change _ = some (Value.int .i64 xl) at z3
 change _ = some (Value.slice pp ps.length pc) at z4
 change _ = some (Value.int .i64 nn) at z5
 have HG := Lib.hid hg
 have HP := Lib.hid hp
 have I0 := Lib.hid ih
 have I1 := Lib.hid i1
 have I2 := Lib.hid i2
 have HO := Lib.hid h8
 have hqq := hg.qlenV
 have HQQ := Lib.hid hqq
 clear hg hp ih i1 i2 HS h8 hqq
 by_cases hk1 : kd = 1
 ·have HN : Hid (stDo s ⟨kd, hh, ⟨xf, xl⟩, ps, nn⟩ = begNext s) := by
   show _ = _
   unfold stDo
   rw [if_pos hk1]
  subst hk1
  have HA := Lib.hid (mgBegin_sep HS6 1 rfl HG.out)
  have ha1 : (begH s == begH s) = true := by simp
  have ha2 : (begC s == begC s) = true := by simp
  go_enter Tryz.func42, Tryz.ntmps42
  go_wp2_with fail
  refine (HA.out).mono ?_
  rintro e w7 ⟨rfl, HS7⟩
  have HB := Lib.hid (rmBegin_sep HS7 2 rfl HG.out (by omega))
  clear HA
  go_wp2_with fail
  refine (HB.out).mono ?_
  rintro e w8 ⟨rfl, HS8⟩
  have HS9 : Hid (Sep W [OldA W, MgrA (pt a) (begNext s), RMgrA (pt b) (begNext s)] w8) := HS8.out.take 3
  clear HB HS7 HS8 HS6 z0 z1 z2 z3 z4 z5
  generalize begH s = bh at *
  generalize begC s = bc at *
  go_wp2_with fail
  go_ret
  exact ⟨rfl, by rw [HN.out]; exact HS9⟩
 by_cases hk2 : kd = 2
 ·have HN : Hid (stDo s ⟨kd, hh, ⟨xf, xl⟩, ps, nn⟩ = rdNext s hh ⟨xf, xl⟩) := by
   show _ = _
   unfold stDo
   rw [if_neg hk1]; rw [if_pos hk2]
  subst hk2
  have HA := Lib.hid (mgRead_sep HS6 1 rfl HG.out (by omega) hh ⟨xf, xl⟩ I1.out I2.out)
  have ha1 : (rdCode s hh ⟨xf, xl⟩ == rdCode s hh ⟨xf, xl⟩) = true := by simp
  go_enter Tryz.func42, Tryz.ntmps42
  go_wp2_with fail
  refine (HA.out).mono ?_
  clear HA
  rintro e w7 (⟨hne, rfl, HS7⟩ | ⟨h0, gg, go, gc, rfl, HS7⟩)
  ·have y1 := box_told HS7 3 rfl 1
   have y2 := box_told HS7 3 rfl 2
   have y3 := box_told HS7 3 rfl 3
   change _ = some (Value.int .i64 hh) at y1
   change _ = some (Value.int .i64 xf) at y2
   change _ = some (Value.int .i64 xl) at y3
   have HB := Lib.hid (rmRead_sep HS7 2 rfl HG.out (by omega) hh I0.out ⟨xf, xl⟩ I1.out I2.out)
   have HNE := Lib.hid hne
   clear z0 z1 z2 z3 z4 z5 hne HS6
   go_wp2_with fail
   refine (HB.out).mono ?_
   clear HB
   rintro e w8 (⟨hne, rfl, HS8⟩ | ⟨h0, p, cp, rfl, HS8⟩)
   ·have HBY := Lib.hid (bytes_any (fun _ => True) (.slice none 0 0) (.slice none 0 0) [] [] w8 SlAt.nil SlAt.nil)
    clear hne y1 y2 y3
    go_wp2_with fail
    refine (HBY.out).mono ?_
    rintro e w9 ⟨rfl, hb9⟩
    have hs9 : Sep W [OldA W, MgrA (pt a) s, RMgrA (pt b) s] w9 := (HS8.out.up hb9).take 3
    have hns : rdNext s hh ⟨xf, xl⟩ = s := by unfold rdNext; rw [if_neg HNE.out]
    have HNS := Lib.hid hns
    have HS9 := Lib.hid hs9
    clear hs9
    clear HBY hb9 hns HS7 HS8
    generalize rdCode s hh ⟨xf, xl⟩ = rc at *
    go_wp2_with fail
    go_ret
    exact ⟨rfl, by rw [HN.out, HNS.out]; exact HS9⟩
   ·exact absurd h0 HNE.out
  ·have HS7 : Hid (Sep W [OldA W, MgrA (pt a) (rdNext s hh ⟨xf, xl⟩), RMgrA (pt b) s, BoxA wr.heap.size #[.int .i64 2, .int .i64 hh, .int .i64 xf, .int .i64 xl, .slice pp ps.length pc, .int .i64 nn] 68, BytesWA (.slice (some ⟨gg, go, none⟩) (40 * xl.toNat) gc) (rdOut s hh ⟨xf, xl⟩)] w7) := HS7
   have y1 := box_told HS7 3 rfl 1
   have y2 := box_told HS7 3 rfl 2
   have y3 := box_told HS7 3 rfl 3
   change _ = some (Value.int .i64 hh) at y1
   change _ = some (Value.int .i64 xf) at y2
   change _ = some (Value.int .i64 xl) at y3
   have HB := Lib.hid (rmRead_sep HS7 2 rfl HG.out (by omega) hh I0.out ⟨xf, xl⟩ I1.out I2.out)
   have H0 := Lib.hid h0
   clear z0 z1 z2 z3 z4 z5 h0 HS6
   go_wp2_with fail
   refine (HB.out).mono ?_
   clear HB
   rintro e w8 (⟨hne, rfl, HS8⟩ | ⟨h0, p, cp, rfl, HS8⟩)
   ·exact absurd H0.out hne
   ·have HS8 : Hid (Sep W [OldA W, MgrA (pt a) (rdNext s hh ⟨xf, xl⟩), RMgrA (pt b) (rdNext s hh ⟨xf, xl⟩), BoxA wr.heap.size #[.int .i64 2, .int .i64 hh, .int .i64 xf, .int .i64 xl, .slice pp ps.length pc, .int .i64 nn] 68, BytesWA (.slice (some ⟨gg, go, none⟩) (40 * xl.toNat) gc) (rdOut s hh ⟨xf, xl⟩), ByA (.slice p (rdOut s hh ⟨xf, xl⟩).length cp) (rdOut s hh ⟨xf, xl⟩)] w8) := HS8
    obtain ⟨F4, hF4, _⟩ := HS8.out.get 4 rfl
    obtain ⟨F5, hF5, _⟩ := HS8.out.get 5 rfl
    have HBY := Lib.hid (bytes_any (fun _ => True) _ _ _ _ w8 (BytesAt.mono (BytesW.bytes hF4) fun _ _ => trivial) (BytesAt.mono hF5 fun _ _ => trivial))
    clear h0 y1 y2 y3 hF4 hF5
    go_wp2_with fail
    refine (HBY.out).mono ?_
    rintro e w9 ⟨rfl, hb9⟩
    have hs9 : Sep W [OldA W, MgrA (pt a) (rdNext s hh ⟨xf, xl⟩), RMgrA (pt b) (rdNext s hh ⟨xf, xl⟩)] w9 := (HS8.out.up hb9).take 3
    have HS9 := Lib.hid hs9
    clear hs9
    clear HBY hb9 HS7 HS8
    rw [beq_self_eq_true]
    generalize rdCode s hh ⟨xf, xl⟩ = rc at *
    go_wp2_with fail
    go_ret
    exact ⟨rfl, by rw [HN.out]; exact HS9⟩
 by_cases hk3 : kd = 3
 ·have HN : Hid (stDo s ⟨kd, hh, ⟨xf, xl⟩, ps, nn⟩ = wrNext s hh ps) := by
   show _ = _
   unfold stDo
   rw [if_neg hk1]; rw [if_neg hk2]; rw [if_pos hk3]
  subst hk3
  have hcc : (wrCode s hh ps == wrCode s hh ps) = true := by simp
  have hd := HS6.out.up (below_drewN (Below.refl _ _) 1)
  have HD := Lib.hid hd
  have HA := Lib.hid (mgWrite_sep HD 1 rfl HG.out hh _ ps (fun G hR => rest_oldV (by decide) HP.out hR) (by omega))
  clear hd
  go_enter Tryz.func42, Tryz.ntmps42
  go_upto_region 11 with fail
  refine wp_regionG (fun W => W.cell? ⟨wr.heap.size, 1, none⟩ = some (.int .i64 hh) ∧ W.cell? ⟨wr.heap.size, 4, none⟩ = some (.slice pp ps.length pc)) (n := 14) (by kernel_rfl) (by kernel_rfl) ?_
  refine wpG.tk 0 ?_
  refine wpG.tk 1 ?_
  refine wpG.tk 2 ?_ (hy := by intro W hW; have hld0 := hW.1; go_simp; try with_reducible rfl)
  refine wpG.tk 3 ?_
  refine wpG.tk 4 ?_ (hy := by intro W hW; have hld0 := hW.2; go_simp; try with_reducible rfl)
  refine wpG.tk 6 ?_
  refine wpG.tk 7 ?_
  refine wpG.tk 8 ?_ (hy := by intro W hW; have hld0 := hW.1; go_simp; try with_reducible rfl)
  refine wpG.tk 9 ?_
  refine wpG.tk 10 ?_ (hy := by intro W hW; have hld0 := hW.2; go_simp; try with_reducible rfl)
  refine wpG.alone 5 rfl (by kernel_rfl) (by kernel_rfl) ⟨z1, z4⟩ (fun K hK => ?_)
  go_simp
  go_at_call 20
  refine (HA.out).mono ?_
  rintro e w7 ⟨rfl, HS7⟩
  have y1 := box_told HS7 3 rfl 1
  have y4 := box_told HS7 3 rfl 4
  have y5 := box_told HS7 3 rfl 5
  change _ = some (Value.int .i64 hh) at y1
  change _ = some (Value.slice pp ps.length pc) at y4
  change _ = some (Value.int .i64 nn) at y5
  have HB := Lib.hid (rmWrite_sep HS7 2 rfl HG.out (by omega) hh I0.out _ ps (fun G hR => rest_oldV (by decide) HP.out hR) hpl)
  clear HA HS6 HD z0 z1 z2 z3 z4 z5
  try go_simp
  refine hK _ _ ?_
  clear hK K
  refine wpG.alone 11 rfl (by kernel_rfl) (by kernel_rfl) ⟨y1, y4⟩ (fun K hK => ?_)
  go_simp
  go_at_call 81
  refine (HB.out).mono ?_
  rintro e w8 ⟨rfl, HS8⟩
  have x1 := box_told HS8 3 rfl 1
  have x4 := box_told HS8 3 rfl 4
  have x5 := box_told HS8 3 rfl 5
  change _ = some (Value.int .i64 hh) at x1
  change _ = some (Value.slice pp ps.length pc) at x4
  change _ = some (Value.int .i64 nn) at x5
  have HS9 : Hid (Sep W [OldA W, MgrA (pt a) (wrNext s hh ps), RMgrA (pt b) (wrNext s hh ps)] w8) := HS8.out.take 3
  clear HB HS7 HS8
  generalize wrCode s hh ps = cc at *
  try go_simp
  refine hK _ _ ?_
  clear hK K
  refine wpG.tk 12 ?_
  refine wpG.tk 13 ?_
  refine wpG.done (by kernel_rfl) ⟨x1, x4⟩ ?_
  clear y1 y4 y5 x1 x4 x5
  go_wp2_with fail
  go_ret
  exact ⟨rfl, by rw [HN.out]; exact HS9⟩
 by_cases hk4 : kd = 4
 ·have HN : Hid (stDo s ⟨kd, hh, ⟨xf, xl⟩, ps, nn⟩ = cmNext s hh) := by
   show _ = _
   unfold stDo
   rw [if_neg hk1]; rw [if_neg hk2]; rw [if_neg hk3]; rw [if_pos hk4]
  subst hk4
  have hcc : (cmCode s hh == cmCode s hh) = true := by simp
  have hd := HS6.out.up (below_drewN (Below.refl _ _) 1)
  have HD := Lib.hid hd
  have HA := Lib.hid (mgCommit_sep HD 1 rfl HG.out (by have := HQQ.out; omega) hh)
  clear hd
  go_enter Tryz.func42, Tryz.ntmps42
  go_upto_region 13 with fail
  refine wp_regionG (fun W => W.cell? ⟨wr.heap.size, 1, none⟩ = some (.int .i64 hh)) (n := 10) (by kernel_rfl) (by kernel_rfl) ?_
  refine wpG.tk 0 ?_
  refine wpG.tk 1 ?_
  refine wpG.tk 2 ?_ (hy := by intro W hW; have hld0 := hW; go_simp; try with_reducible rfl)
  refine wpG.tk 4 ?_
  refine wpG.tk 5 ?_
  refine wpG.tk 6 ?_ (hy := by intro W hW; have hld0 := hW; go_simp; try with_reducible rfl)
  refine wpG.alone 3 rfl (by kernel_rfl) (by kernel_rfl) z1 (fun K hK => ?_)
  go_simp
  go_at_call 22
  refine (HA.out).mono ?_
  rintro e w7 ⟨rfl, HS7⟩
  have y1 := box_told HS7 3 rfl 1
  have y4 := box_told HS7 3 rfl 4
  have y5 := box_told HS7 3 rfl 5
  change _ = some (Value.int .i64 hh) at y1
  change _ = some (Value.slice pp ps.length pc) at y4
  change _ = some (Value.int .i64 nn) at y5
  have HB := Lib.hid (rmCommit_sep HS7 2 rfl HG.out (by omega) hh I0.out)
  clear HA HS6 HD z0 z1 z2 z3 z4 z5
  try go_simp
  refine hK _ _ ?_
  clear hK K
  refine wpG.alone 7 rfl (by kernel_rfl) (by kernel_rfl) y1 (fun K hK => ?_)
  go_simp
  go_at_call 82
  refine (HB.out).mono ?_
  rintro e w8 ⟨rfl, HS8⟩
  have x1 := box_told HS8 3 rfl 1
  have x4 := box_told HS8 3 rfl 4
  have x5 := box_told HS8 3 rfl 5
  change _ = some (Value.int .i64 hh) at x1
  change _ = some (Value.slice pp ps.length pc) at x4
  change _ = some (Value.int .i64 nn) at x5
  have HS9 : Hid (Sep W [OldA W, MgrA (pt a) (cmNext s hh), RMgrA (pt b) (cmNext s hh)] w8) := HS8.out.take 3
  clear HB HS7 HS8
  generalize cmCode s hh = cc at *
  try go_simp
  refine hK _ _ ?_
  clear hK K
  refine wpG.tk 8 ?_
  refine wpG.tk 9 ?_
  refine wpG.done (by kernel_rfl) x1 ?_
  clear y1 y4 y5 x1 x4 x5
  go_wp2_with fail
  go_ret
  exact ⟨rfl, by rw [HN.out]; exact HS9⟩
 by_cases hk5 : kd = 5
 ·have HN : Hid (stDo s ⟨kd, hh, ⟨xf, xl⟩, ps, nn⟩ = abNext s hh) := by
   show _ = _
   unfold stDo
   rw [if_neg hk1]; rw [if_neg hk2]; rw [if_neg hk3]; rw [if_neg hk4]; rw [if_pos hk5]
  subst hk5
  have hcc : (abCode s hh == abCode s hh) = true := by simp
  have hd := HS6.out.up (below_drewN (Below.refl _ _) 1)
  have HD := Lib.hid hd
  have HA := Lib.hid (mgAbort_sep HD 1 rfl hh)
  clear hd
  go_enter Tryz.func42, Tryz.ntmps42
  go_upto_region 15 with fail
  refine wp_regionG (fun W => W.cell? ⟨wr.heap.size, 1, none⟩ = some (.int .i64 hh)) (n := 10) (by kernel_rfl) (by kernel_rfl) ?_
  refine wpG.tk 0 ?_
  refine wpG.tk 1 ?_
  refine wpG.tk 2 ?_ (hy := by intro W hW; have hld0 := hW; go_simp; try with_reducible rfl)
  refine wpG.tk 4 ?_
  refine wpG.tk 5 ?_
  refine wpG.tk 6 ?_ (hy := by intro W hW; have hld0 := hW; go_simp; try with_reducible rfl)
  refine wpG.alone 3 rfl (by kernel_rfl) (by kernel_rfl) z1 (fun K hK => ?_)
  go_simp
  go_at_call 24
  refine (HA.out).mono ?_
  rintro e w7 ⟨rfl, HS7⟩
  have y1 := box_told HS7 3 rfl 1
  have y4 := box_told HS7 3 rfl 4
  have y5 := box_told HS7 3 rfl 5
  change _ = some (Value.int .i64 hh) at y1
  change _ = some (Value.slice pp ps.length pc) at y4
  change _ = some (Value.int .i64 nn) at y5
  have HB := Lib.hid (rmAbort_sep HS7 2 rfl HG.out (by omega) hh I0.out)
  clear HA HS6 HD z0 z1 z2 z3 z4 z5
  try go_simp
  refine hK _ _ ?_
  clear hK K
  refine wpG.alone 7 rfl (by kernel_rfl) (by kernel_rfl) y1 (fun K hK => ?_)
  go_simp
  go_at_call 83
  refine (HB.out).mono ?_
  rintro e w8 ⟨rfl, HS8⟩
  have x1 := box_told HS8 3 rfl 1
  have x4 := box_told HS8 3 rfl 4
  have x5 := box_told HS8 3 rfl 5
  change _ = some (Value.int .i64 hh) at x1
  change _ = some (Value.slice pp ps.length pc) at x4
  change _ = some (Value.int .i64 nn) at x5
  have HS9 : Hid (Sep W [OldA W, MgrA (pt a) (abNext s hh), RMgrA (pt b) (abNext s hh)] w8) := HS8.out.take 3
  clear HB HS7 HS8
  generalize abCode s hh = cc at *
  try go_simp
  refine hK _ _ ?_
  clear hK K
  refine wpG.tk 8 ?_
  refine wpG.tk 9 ?_
  refine wpG.done (by kernel_rfl) x1 ?_
  clear y1 y4 y5 x1 x4 x5
  go_wp2_with fail
  go_ret
  exact ⟨rfl, by rw [HN.out]; exact HS9⟩
 by_cases hk6 : kd = 6
 ·have HN : Hid (stDo s ⟨kd, hh, ⟨xf, xl⟩, ps, nn⟩ = baNext s) := by
   show _ = _
   unfold stDo
   rw [if_neg hk1]; rw [if_neg hk2]; rw [if_neg hk3]; rw [if_neg hk4]; rw [if_neg hk5]; rw [if_pos hk6]
  subst hk6
  have HA := Lib.hid (mgBatch_sep HS6 1 rfl HG.out (by have := HQQ.out; omega) (by omega))
  have ha1 : (baCode s == baCode s) = true := by simp
  go_enter Tryz.func42, Tryz.ntmps42
  go_wp2_with fail
  refine (HA.out).mono ?_
  clear HA
  rintro e w7 (⟨hne, rfl, HS7⟩ | ⟨h0, p1, cp1, rfl, HS7⟩)
  ·have hns : baNext s = s := by unfold baNext; rw [if_neg hne]
   have hs8 := HS7.out.new (below_alloc w7 (.cells #[.int .i64 0, .slice none 0 0] 42)) (BoxA w7.heap.size #[.int .i64 0, .slice none 0 0] 42) (F := New w7 (w7.alloc (.cells #[.int .i64 0, .slice none 0 0] 42))) (fun _ h => h) ⟨⟨Nat.le_refl _, by simp⟩, heap_alloc_new w7 _⟩
   have HS8A : Hid (Sep W [OldA W, MgrA (pt a) s, RMgrA (pt b) s, BoxA wr.heap.size #[.int .i64 6, .int .i64 hh, .int .i64 xf, .int .i64 xl, .slice pp ps.length pc, .int .i64 nn] 68, BoxA w7.heap.size #[.int .i64 0, .slice none 0 0] 42] (w7.alloc (.cells #[.int .i64 0, .slice none 0 0] 42 (0, 0)))) := hs8
   have HB := Lib.hid (rmBatch_sep HS8A 2 rfl HG.out (by omega))
   have HNE := Lib.hid hne
   have HNS := Lib.hid hns
   clear z0 z1 z2 z3 z4 z5 hne HS6 hs8 hns
   go_wp2_with fail
   refine (HB.out).mono ?_
   clear HB
   rintro e w8 (⟨hne, rfl, HS8⟩ | ⟨h0, p, cp, rfl, HS8, _⟩)
   ·have hz8 := box_told HS8 4 rfl
    have v0 := hz8 0
    have v1 := hz8 1
    change _ = some (Value.int .i64 0) at v0
    change _ = some (Value.slice none 0 0) at v1
    have hba := below_alloc w8 (.cells #[.int .i64 0, .slice none 0 0] 42 (0, 0))
    have hnw := heap_alloc_new w8 (.cells #[.int .i64 0, .slice none 0 0] 42 (0, 0))
    have u0 := cell_up hba v0
    have u1 := cell_up hba v1
    have t0 : (w8.alloc (.cells #[.int .i64 0, .slice none 0 0] 42 (0, 0))).cell? ⟨w8.heap.size, 0, none⟩ = some (.int .i64 0) := by rw [cell_row hnw]; rfl
    have t1 : (w8.alloc (.cells #[.int .i64 0, .slice none 0 0] 42 (0, 0))).cell? ⟨w8.heap.size, 1, none⟩ = some (.slice none 0 0) := by rw [cell_row hnw]; rfl
    have HSB := Lib.hid (sameBatch_eq (fun _ => False) 0 (.slice none 0 0) (.slice none 0 0) [] (w8.alloc (.cells #[.int .i64 0, .slice none 0 0] 42 (0, 0))) (fun _ h => h.elim) SlAt.nil SlAt.nil (Nat.zero_le _))
    have HBA := Lib.hid hba
    clear hne hz8 v0 v1 hnw hba
    go_wp2_with fail
    refine (HSB.out).mono ?_
    rintro e w9 ⟨rfl, hb9⟩
    have hs9 : Sep W [OldA W, MgrA (pt a) s, RMgrA (pt b) (baNext s)] w9 := (HS8.out.up (Below.up HBA.out hb9)).take 3
    rw [HNS.out] at hs9
    have HS9 := Lib.hid hs9
    clear hs9
    clear HSB hb9 HS7 HS8 HS8A u0 u1 t0 t1
    generalize baCode s = rc at *
    go_wp2_with fail
    go_ret
    exact ⟨rfl, by rw [HN.out, HNS.out]; exact HS9⟩
   ·exact absurd h0 HNE.out
  ·have hs8 := HS7.out.new (below_alloc w7 (.cells #[.int .i64 (s.num + 1), .slice p1 (formN (waitL s)) cp1] 42)) (BoxA w7.heap.size #[.int .i64 (s.num + 1), .slice p1 (formN (waitL s)) cp1] 42) (F := New w7 (w7.alloc (.cells #[.int .i64 (s.num + 1), .slice p1 (formN (waitL s)) cp1] 42))) (fun _ h => h) ⟨⟨Nat.le_refl _, by simp⟩, heap_alloc_new w7 _⟩
   have HS8A : Hid (Sep W [OldA W, MgrA (pt a) (baNext s), RMgrA (pt b) s, BoxA wr.heap.size #[.int .i64 6, .int .i64 hh, .int .i64 xf, .int .i64 xl, .slice pp ps.length pc, .int .i64 nn] 68, TxsA (.slice p1 (formN (waitL s)) cp1) ((waitL s).take (formN (waitL s))), BoxA w7.heap.size #[.int .i64 (s.num + 1), .slice p1 (formN (waitL s)) cp1] 42] (w7.alloc (.cells #[.int .i64 (s.num + 1), .slice p1 (formN (waitL s)) cp1] 42 (0, 0)))) := hs8
   have HB := Lib.hid (rmBatch_sep HS8A 2 rfl HG.out (by omega))
   have H0 := Lib.hid h0
   clear z0 z1 z2 z3 z4 z5 h0 HS6 hs8
   go_wp2_with fail
   refine (HB.out).mono ?_
   clear HB
   rintro e w8 (⟨hne, rfl, HS8⟩ | ⟨h0, p2, cp2, rfl, HS8, HT2⟩)
   ·exact absurd H0.out hne
   ·have HS8 : Hid (Sep W [OldA W, MgrA (pt a) (baNext s), RMgrA (pt b) (baNext s), BoxA wr.heap.size #[.int .i64 6, .int .i64 hh, .int .i64 xf, .int .i64 xl, .slice pp ps.length pc, .int .i64 nn] 68, TxsA (.slice p1 (formN (waitL s)) cp1) ((waitL s).take (formN (waitL s))), BoxA w7.heap.size #[.int .i64 (s.num + 1), .slice p1 (formN (waitL s)) cp1] 42] w8) := HS8
    obtain ⟨F4, hF4, hD4⟩ := HS8.out.get 4 rfl
    have hT1 : TxsAt (fun q => q < w8.heap.size) w8 (.slice p1 (formN (waitL s)) cp1) ((waitL s).take (formN (waitL s))) := TxsAt.mono hF4 hD4
    have hz8 := box_told HS8 5 rfl
    have v0 := hz8 0
    have v1 := hz8 1
    change _ = some (Value.int .i64 (s.num + 1)) at v0
    change _ = some (Value.slice p1 (formN (waitL s)) cp1) at v1
    have hba := below_alloc w8 (.cells #[.int .i64 (s.num + 1), .slice p2 (formN (waitL s)) cp2] 42 (0, 0))
    have hnw := heap_alloc_new w8 (.cells #[.int .i64 (s.num + 1), .slice p2 (formN (waitL s)) cp2] 42 (0, 0))
    have u0 := cell_up hba v0
    have u1 := cell_up hba v1
    have t0 : (w8.alloc (.cells #[.int .i64 (s.num + 1), .slice p2 (formN (waitL s)) cp2] 42 (0, 0))).cell? ⟨w8.heap.size, 0, none⟩ = some (.int .i64 (s.num + 1)) := by rw [cell_row hnw]; rfl
    have t1 : (w8.alloc (.cells #[.int .i64 (s.num + 1), .slice p2 (formN (waitL s)) cp2] 42 (0, 0))).cell? ⟨w8.heap.size, 1, none⟩ = some (.slice p2 (formN (waitL s)) cp2) := by rw [cell_row hnw]; rfl
    have hup : ∀ {v : Value} {l : List Tx}, TxsAt (fun q => q < w8.heap.size) w8 v l → TxsAt (fun q => q < w8.heap.size) (w8.alloc (.cells #[.int .i64 (s.num + 1), .slice p2 (formN (waitL s)) cp2] 42 (0, 0))) v l := fun h => TxsAt.same h fun q hq => hba.block q hq
    have HSB := Lib.hid (sameBatch_eq (fun q => q < w8.heap.size) (s.num + 1) _ _ _ (w8.alloc (.cells #[.int .i64 (s.num + 1), .slice p2 (formN (waitL s)) cp2] 42 (0, 0))) (fun q hq => Nat.lt_of_lt_of_le hq hba.size) (hup hT1) (hup HT2.out) (by rw [List.length_take, waitL_len]; have := HQQ.out; omega))
    have HBA := Lib.hid hba
    clear h0 hz8 v0 v1 hnw hba hup hF4 hD4 hT1 HT2
    go_wp2_with fail
    refine (HSB.out).mono ?_
    rintro e w9 ⟨rfl, hb9⟩
    have hs9 : Sep W [OldA W, MgrA (pt a) (baNext s), RMgrA (pt b) (baNext s)] w9 := (HS8.out.up (Below.up HBA.out hb9)).take 3
    have HS9 := Lib.hid hs9
    clear hs9
    clear HSB hb9 HS7 HS8 HS8A u0 u1 t0 t1
    generalize baCode s = rc at *
    go_wp2_with fail
    go_ret
    exact ⟨rfl, by rw [HN.out]; exact HS9⟩
 by_cases hk7 : kd = 7
 ·have HN : Hid (stDo s ⟨kd, hh, ⟨xf, xl⟩, ps, nn⟩ = doneNext s nn) := by
   show _ = _
   unfold stDo
   rw [if_neg hk1]; rw [if_neg hk2]; rw [if_neg hk3]; rw [if_neg hk4]; rw [if_neg hk5]; rw [if_neg hk6]; rw [if_pos hk7]
  subst hk7
  have hcc : (doneCode s == doneCode s) = true := by simp
  have hd := HS6.out.up (below_drewN (Below.refl _ _) 1)
  have HD := Lib.hid hd
  have HA := Lib.hid (mgDone_sep HD 1 rfl HG.out (by have := HQQ.out; omega) (by omega) HO.out nn)
  clear hd
  go_enter Tryz.func42, Tryz.ntmps42
  go_upto_region 21 with fail
  refine wp_regionG (fun W => W.cell? ⟨wr.heap.size, 5, none⟩ = some (.int .i64 nn)) (n := 10) (by kernel_rfl) (by kernel_rfl) ?_
  refine wpG.tk 0 ?_
  refine wpG.tk 1 ?_
  refine wpG.tk 2 ?_ (hy := by intro W hW; have hld0 := hW; go_simp; try with_reducible rfl)
  refine wpG.tk 4 ?_
  refine wpG.tk 5 ?_
  refine wpG.tk 6 ?_ (hy := by intro W hW; have hld0 := hW; go_simp; try with_reducible rfl)
  refine wpG.alone 3 rfl (by kernel_rfl) (by kernel_rfl) z5 (fun K hK => ?_)
  go_simp
  go_at_call 28
  refine (HA.out).mono ?_
  rintro e w7 ⟨rfl, HS7⟩
  have y1 := box_told HS7 3 rfl 1
  have y4 := box_told HS7 3 rfl 4
  have y5 := box_told HS7 3 rfl 5
  change _ = some (Value.int .i64 hh) at y1
  change _ = some (Value.slice pp ps.length pc) at y4
  change _ = some (Value.int .i64 nn) at y5
  have HB := Lib.hid (rmDone_sep HS7 2 rfl HG.out (by omega) HO.out nn)
  clear HA HS6 HD z0 z1 z2 z3 z4 z5
  try go_simp
  refine hK _ _ ?_
  clear hK K
  refine wpG.alone 7 rfl (by kernel_rfl) (by kernel_rfl) y5 (fun K hK => ?_)
  go_simp
  go_at_call 86
  refine (HB.out).mono ?_
  rintro e w8 ⟨rfl, HS8⟩
  have x1 := box_told HS8 3 rfl 1
  have x4 := box_told HS8 3 rfl 4
  have x5 := box_told HS8 3 rfl 5
  change _ = some (Value.int .i64 hh) at x1
  change _ = some (Value.slice pp ps.length pc) at x4
  change _ = some (Value.int .i64 nn) at x5
  have HS9 : Hid (Sep W [OldA W, MgrA (pt a) (doneNext s nn), RMgrA (pt b) (doneNext s nn)] w8) := HS8.out.take 3
  clear HB HS7 HS8
  generalize doneCode s = cc at *
  try go_simp
  refine hK _ _ ?_
  clear hK K
  refine wpG.tk 8 ?_
  refine wpG.tk 9 ?_
  refine wpG.done (by kernel_rfl) x5 ?_
  clear y1 y4 y5 x1 x4 x5
  go_wp2_with fail
  go_ret
  exact ⟨rfl, by rw [HN.out]; exact HS9⟩
 by_cases hk8 : kd = 8
 ·have HN : Hid (stDo s ⟨kd, hh, ⟨xf, xl⟩, ps, nn⟩ = { s with ro := (Int.tmod nn 2 != 0) }) := by
   show _ = _
   unfold stDo
   rw [if_neg hk1]; rw [if_neg hk2]; rw [if_neg hk3]; rw [if_neg hk4]; rw [if_neg hk5]; rw [if_neg hk6]; rw [if_neg hk7]; rw [if_pos hk8]
  subst hk8
  have HA := Lib.hid (mgReadOnly_sep HS6 1 rfl (Int.tmod nn 2 != 0))
  go_enter Tryz.func42, Tryz.ntmps42
  go_wp2_with fail
  refine (HA.out).mono ?_
  rintro e w7 ⟨rfl, HS7⟩
  have y5 := box_told HS7 3 rfl 5
  change _ = some (Value.int .i64 nn) at y5
  obtain ⟨m12, f12, HS8⟩ := rm_ro HS7 2 rfl (Int.tmod nn 2 != 0)
  have HS9 : Hid (Sep W [OldA W, MgrA (pt a) { s with ro := (Int.tmod nn 2 != 0) }, RMgrA (pt b) { s with ro := (Int.tmod nn 2 != 0) }] (w7.setCell ⟨b, 12, none⟩ (.bool (Int.tmod nn 2 != 0)))) := HS8.out.take 3
  clear HA HS7 HS8 HS6 z0 z1 z2 z3 z4 z5
  go_wp2_with fail
  go_ret
  exact ⟨rfl, by rw [HN.out]; exact HS9⟩
 by_cases hk9 : kd = 9
 ·have HN : Hid (stDo s ⟨kd, hh, ⟨xf, xl⟩, ps, nn⟩ = prNext s) := by
   show _ = _
   unfold stDo
   rw [if_neg hk1]; rw [if_neg hk2]; rw [if_neg hk3]; rw [if_neg hk4]; rw [if_neg hk5]; rw [if_neg hk6]; rw [if_neg hk7]; rw [if_neg hk8]; rw [if_pos hk9]
  subst hk9
  have HA := Lib.hid (mgPrune_sep HS6 1 rfl HG.out (by omega))
  generalize hpv : nVers s.vs - nVers (pruneVs (prH s) s.vs) = pv9 at *
  have ha1 : ((pv9 : Int) == (pv9 : Int)) = true := by simp
  go_enter Tryz.func42, Tryz.ntmps42
  go_wp2_with fail
  refine (HA.out).mono ?_
  rintro e w7 ⟨rfl, HS7⟩
  have HB := Lib.hid (rmPrune_sep HS7 2 rfl HG.out (by omega))
  rw [hpv] at HB
  clear HA
  go_wp2_with fail
  refine (HB.out).mono ?_
  rintro e w8 ⟨rfl, HS8⟩
  have HS9 : Hid (Sep W [OldA W, MgrA (pt a) (prNext s), RMgrA (pt b) (prNext s)] w8) := HS8.out.take 3
  clear HB HS7 HS8 HS6 z0 z1 z2 z3 z4 z5 hpv
  go_wp2_with fail
  go_ret
  exact ⟨rfl, by rw [HN.out]; exact HS9⟩
 have HN : Hid (stDo s ⟨kd, hh, ⟨xf, xl⟩, ps, nn⟩ = s) := by
  show _ = _
  unfold stDo
  rw [if_neg hk1, if_neg hk2, if_neg hk3, if_neg hk4, if_neg hk5, if_neg hk6, if_neg hk7, if_neg hk8, if_neg hk9]
 have hb1 : (kd == 1) = false := by rw [beq_eq_false_iff_ne]; exact hk1
 have hb2 : (kd == 2) = false := by rw [beq_eq_false_iff_ne]; exact hk2
 have hb3 : (kd == 3) = false := by rw [beq_eq_false_iff_ne]; exact hk3
 have hb4 : (kd == 4) = false := by rw [beq_eq_false_iff_ne]; exact hk4
 have hb5 : (kd == 5) = false := by rw [beq_eq_false_iff_ne]; exact hk5
 have hb6 : (kd == 6) = false := by rw [beq_eq_false_iff_ne]; exact hk6
 have hb7 : (kd == 7) = false := by rw [beq_eq_false_iff_ne]; exact hk7
 have hb8 : (kd == 8) = false := by rw [beq_eq_false_iff_ne]; exact hk8
 have hb9 : (kd == 9) = false := by rw [beq_eq_false_iff_ne]; exact hk9
 have HS9 : Hid (Sep W [OldA W, MgrA (pt a) s, RMgrA (pt b) s] (wr.alloc (.cells #[.int .i64 kd, .int .i64 hh, .int .i64 xf, .int .i64 xl, .slice pp ps.length pc, .int .i64 nn] 68 (0, 0)))) := HS6.out.take 3
 clear hk1 hk2 hk3 hk4 hk5 hk6 hk7 hk8 hk9
 go_enter Tryz.func42, Tryz.ntmps42
 go_wp2
 go_ret
 exact ⟨rfl, by rw [HN.out]; exact HS9⟩
end Go.Proofs
namespace Go.Proofs
open Go.RowKit Sc
section
variable {W w : World} {L : List Asn}
end
end Go.Proofs
namespace Go.Proofs
open Go.RowKit Sc
theorem stDo_good {N : Nat} {s : MgS} (g : MgG N s) (h8 : s.out ≤ 8) (hN : N < 1000000) (x : Step23) : MgG (N + 128) (stDo s x) ∧ (stDo s x).out ≤ 8 := by
 have e1 : (begNext s).out = s.out := by
  unfold begNext; split <;> rfl
 have e2 : ∀ h e, (rdNext s h e).out = s.out := fun h e => by unfold rdNext; split <;> rfl
 have e3 : ∀ h l, (wrNext s h l).out = s.out := fun h l => by unfold wrNext; split <;> rfl
 have e4 : ∀ h, (cmNext s h).out = s.out := fun h => by
  unfold cmNext
  split
  ·split
   ·rfl
   ·split <;> rfl
  ·rfl
 have e5 : ∀ h, (abNext s h).out = s.out := fun h => by unfold abNext; split <;> rfl
 have e6 : (baNext s).out ≤ 8 := by
  unfold baNext
  split
  ·have := (formN_bd (waitL s)).2; show (formN (waitL s) : Int) ≤ 8; omega
  ·exact h8
 have e7 : ∀ c, (doneNext s c).out ≤ 8 := fun c => by
  unfold doneNext
  split
  ·exact h8
  ·show (0 : Int) ≤ 8; omega
 unfold stDo
 split
 ·exact ⟨(g.begins hN).mono (by omega), by rw [e1]; exact h8⟩
 split
 ·exact ⟨(g.reads _ _).mono (by omega), by rw [e2]; exact h8⟩
 split
 ·exact ⟨(g.writes _ _).mono (by omega), by rw [e3]; exact h8⟩
 split
 ·exact ⟨(g.commits _).mono (by omega), by rw [e4]; exact h8⟩
 split
 ·exact ⟨(g.aborts _).mono (by omega), by rw [e5]; exact h8⟩
 split
 ·exact ⟨g.batches.mono (by omega), e6⟩
 split
 ·exact ⟨g.dones _ h8, e7 _⟩
 split
 ·exact ⟨(g.reads_only _).mono (by omega), h8⟩
 split
 ·exact ⟨g.prunes.mono (by omega), h8⟩
 ·exact ⟨g.mono (by omega), h8⟩
end Go.Proofs
namespace Go.Proofs
open Go.RowKit Sc
end Go.Proofs
namespace Go.Proofs
open Go.RowKit Sc
def lastO (l : List Put) : Option Bytes := (l.getLast?).map (·.data)
def lastW (rows : List (List Put)) (k : Int) : Option Bytes := ((rows.flatten.filter fun p => p.lba == k).getLast?).map (·.data)
def isDone (t : TxS) : Prop := t.st = 3 ∧ 0 < t.buf.length
structure RpJ (s : MgS) (O : List Int) : Prop where
 mem : ∀ x : Int, x ∈ O ↔ 1 ≤ x ∧ x ≤ s.txs.length ∧ isDone (txAt s.txs x)
 tms : (O.map fun x => (txAt s.txs x).tm).Pairwise (· < ·)
 le : ∀ x ∈ O, (txAt s.txs x).tm ≤ s.last
 vs : ∀ k, lastO ((alook s.vs k).getD []) = lastW (O.map fun x => bufPuts (txAt s.txs x).buf) k
theorem RpJ.frame {s s' : MgS} {O : List Int} (h : RpJ s O) (hv : ∀ k, lastO ((alook s'.vs k).getD []) = lastO ((alook s.vs k).getD [])) (hl : s.last ≤ s'.last) (hn : s.txs.length ≤ s'.txs.length) (hO : ∀ x ∈ O, txAt s'.txs x = txAt s.txs x) (hN : ∀ x : Int, 1 ≤ x → x ≤ s'.txs.length → x ∉ O → ¬ isDone (txAt s'.txs x)) : RpJ s' O := by
 have e1 : (O.map fun x => (txAt s'.txs x).tm) = O.map fun x => (txAt s.txs x).tm := List.map_congr_left fun x hx => by rw [hO x hx]
 have e2 : (O.map fun x => bufPuts (txAt s'.txs x).buf) = O.map fun x => bufPuts (txAt s.txs x).buf := List.map_congr_left fun x hx => by rw [hO x hx]
 refine ⟨fun x => ⟨fun hx => ?_, fun ⟨h1, h2, h3⟩ => ?_⟩, by rw [e1]; exact h.tms, fun x hx => ?_, fun k => by rw [hv, e2]; exact h.vs k⟩
 ·obtain ⟨a1, a2, a3⟩ := (h.mem x).1 hx
  exact ⟨a1, by omega, by rw [hO x hx]; exact a3⟩
 ·by_cases hx : x ∈ O
  ·exact hx
  ·exact absurd h3 (hN x h1 h2 hx)
 ·rw [hO x hx]
  have := h.le x hx
  omega
theorem beg_okR {n : Nat} {s : MgS} (g : MgG n s) (h : s.tmb.length < 16) : begC s = 0 ∧ begH s = s.txs.length + 1 ∧ begNext s = { s with lastH := s.lastH + 1, tmb := s.tmb ++ [(s.lastH + 1, s.last)], txs := s.txs ++ [⟨1, 0, 0, s.last, [], [], []⟩] } := by
 have hl := g.lt
 have hc : begC s = 0 := by
  unfold begC OpenOk
  rw [if_neg (by omega), if_neg (by omega)]
 refine ⟨hc, ?_, if_pos hc⟩
 unfold begH
 rw [if_pos hc, g.hh]
theorem beg_fullR {n : Nat} {s : MgS} (g : MgG n s) (h : 16 ≤ s.tmb.length) : begC s = 6 ∧ begH s = 0 ∧ begNext s = s := by
 have hl := g.lt
 have hc : begC s = 6 := by
  unfold begC OpenOk
  rw [if_neg (by omega), if_pos (by omega)]
 refine ⟨hc, ?_, ?_⟩
 ·unfold begH; rw [if_neg (by omega)]
 ·unfold begNext; rw [if_neg (by omega)]
theorem RpJ.turn {s : MgS} {O : List Int} (h : RpJ s O) {n : Int} (h1 : 1 ≤ n) (h2 : n ≤ s.txs.length) (hd : ¬ isDone (txAt s.txs n)) (t : TxS) (ht : ¬ isDone t) {s' : MgS} (e1 : s'.txs = s.txs.set (n - 1).toNat t) (e2 : s'.vs = s.vs) (e3 : s'.last = s.last) : RpJ s' O := by
 have key : ∀ x : Int, 1 ≤ x → txAt s'.txs x = if x = n then t else txAt s.txs x := fun x hx => by rw [e1]; exact txAt_set t h1 h2 hx
 refine h.frame (fun k => by rw [e2]) (by rw [e3]; exact Int.le_refl _) (by rw [e1, List.length_set]; exact Nat.le_refl _) (fun x hx => ?_) (fun x hx1 hx2 hx => ?_)
 ·obtain ⟨a1, a2, a3⟩ := (h.mem x).1 hx
  rw [key x a1, if_neg]
  intro e
  subst e
  exact hd a3
 ·rw [key x hx1]
  split
  ·exact ht
  ·rw [e1, List.length_set] at hx2
   exact fun hh => hx ((h.mem x).2 ⟨hx1, hx2, hh⟩)
theorem RpJ.start (blocks last : Int) : RpJ (mgNew blocks last) [] := ⟨fun x => by simp [mgNew]; intro a b; omega, List.Pairwise.nil, fun x hx => by simp at hx, fun k => rfl⟩
theorem open_notDone {s : MgS} {n : Int} (ho : openB s n = true) : 1 ≤ n ∧ n ≤ s.txs.length ∧ ¬ isDone (txAt s.txs n) := by
 obtain ⟨o1, o2, o3⟩ := openB_iff.1 ho
 exact ⟨o1, o2, fun h => by have := h.1; omega⟩
theorem RpJ.ends {s : MgS} {O : List Int} (h : RpJ s O) {n : Int} (h1 : 1 ≤ n) (h2 : n ≤ s.txs.length) (hd : ¬ isDone (txAt s.txs n)) {st cd : Int} (hst : st ≠ 3 ∨ (txAt s.txs n).buf.length = 0) : RpJ (endNext s n st cd) O := by
 refine h.turn h1 h2 hd (endTx (txOf s n) st cd) ?_ rfl rfl rfl
 rintro ⟨a, b⟩
 rcases hst with e | e
 ·exact e a
 ·have : 0 < (txAt s.txs n).buf.length := b
  omega
theorem RpJ.same {s s' : MgS} {O : List Int} (h : RpJ s O) (e1 : s'.txs = s.txs) (e2 : s'.vs = s.vs) (e3 : s'.last = s.last) : RpJ s' O := by
 refine ⟨fun x => by rw [e1]; exact h.mem x, by rw [e1]; exact h.tms, by rw [e1, e3]; exact h.le, by rw [e1, e2]; exact h.vs⟩
theorem RpJ.begins {s : MgS} {O : List Int} (h : RpJ s O) {N : Nat} (g : MgG N s) : RpJ (begNext s) O := by
 by_cases hc : s.tmb.length < 16
 ·obtain ⟨_, _, e⟩ := beg_okR g hc
  rw [e]
  have key : ∀ x : Int, 1 ≤ x → txAt (s.txs ++ [(⟨1, 0, 0, s.last, [], [], []⟩ : TxS)]) x = if x ≤ s.txs.length then txAt s.txs x else if x = s.txs.length + 1 then ⟨1, 0, 0, s.last, [], [], []⟩ else default := fun x hx => by
   unfold txAt
   by_cases hl : x ≤ s.txs.length
   ·rw [if_pos hl, List.getElem?_append_left (by omega)]
   ·rw [if_neg hl, List.getElem?_append_right (by omega)]
    by_cases he : x = s.txs.length + 1
    ·rw [if_pos he, show (x - 1).toNat - s.txs.length = 0 by omega]; rfl
    ·rw [if_neg he, List.getElem?_eq_none (by simp; omega)]; rfl
  refine h.frame (fun k => rfl) (Int.le_refl _) (by simp) (fun x hx => ?_) (fun x hx1 hx2 hx => ?_)
  ·obtain ⟨a1, a2, a3⟩ := (h.mem x).1 hx
   exact (key x a1).trans (if_pos a2)
  ·rw [show txAt ({ s with lastH := s.lastH + 1, tmb := s.tmb ++ [(s.lastH + 1, s.last)], txs := s.txs ++ [⟨1, 0, 0, s.last, [], [], []⟩] } : MgS).txs x = _ from key x hx1]
   split
   ·rename_i hl
    exact fun hh => hx ((h.mem x).2 ⟨hx1, hl, hh⟩)
   ·split
    ·exact fun hh => by have := hh.1; simp at this
    ·exact fun hh => by have := hh.2; simp [show (default : TxS).buf = [] from rfl] at this
 ·obtain ⟨_, _, e⟩ := beg_fullR g (by omega)
  rw [e]; exact h
theorem RpJ.writes {s : MgS} {O : List Int} (h : RpJ s O) (n : Int) (l : List Put) : RpJ (wrNext s n l) O := by
 unfold wrNext
 by_cases ho : openB s n = true
 ·rw [if_pos ho]
  obtain ⟨h1, h2, h3⟩ := open_notDone ho
  refine h.turn h1 h2 h3 _ ?_ rfl rfl rfl
  rintro ⟨a, _⟩
  have := (openB_iff.1 ho).2.2
  have e : (txAt s.txs n).st = 3 := a
  omega
 ·rw [if_neg ho]; exact h
theorem RpJ.reads {s : MgS} {O : List Int} (h : RpJ s O) (n : Int) (e : Ext) : RpJ (rdNext s n e) O := by
 unfold rdNext
 by_cases hc : rdCode s n e = 0
 ·rw [if_pos hc]
  have ho : openB s n = true := by
   unfold rdCode at hc
   split at hc
   ·assumption
   ·omega
  obtain ⟨h1, h2, h3⟩ := open_notDone ho
  refine h.turn h1 h2 h3 _ ?_ rfl rfl rfl
  rintro ⟨a, _⟩
  have := (openB_iff.1 ho).2.2
  have e : (txAt s.txs n).st = 3 := a
  omega
 ·rw [if_neg hc]; exact h
theorem RpJ.aborts {s : MgS} {O : List Int} (h : RpJ s O) (n : Int) : RpJ (abNext s n) O := by
 unfold abNext
 by_cases ho : openB s n = true
 ·rw [if_pos ho]
  obtain ⟨h1, h2, h3⟩ := open_notDone ho
  exact h.ends h1 h2 h3 (.inl (by omega))
 ·rw [if_neg ho]; exact h
theorem RpJ.prunes {s : MgS} {O : List Int} (h : RpJ s O) : RpJ (prNext s) O := by
 refine h.frame (fun k => ?_) (Int.le_refl _) (Nat.le_refl _) (fun _ _ => rfl) (fun x h1 h2 hx hh => hx ((h.mem x).2 ⟨h1, h2, hh⟩))
 show lastO ((alook (pruneVs (prH s) s.vs) k).getD []) = _
 rw [alook_pruneM]
 cases alook s.vs k with
 | none => rfl
 | some l =>
  show lastO (pruneOne _ l) = lastO l
  unfold lastO pruneOne
  have hle := atN_le l (prH s)
  by_cases hl : l = []
  ·subst hl; simp
  ·have hp : 0 < l.length := List.length_pos_iff.2 hl
   rw [List.getLast?_drop, if_neg (by omega)]
theorem RpJ.commits {s : MgS} {O : List Int} (h : RpJ s O) (n : Int) : RpJ (cmNext s n) O := by
 unfold cmNext
 by_cases ho : openB s n = true
 ·rw [if_pos ho]
  obtain ⟨h1, h2, h3⟩ := open_notDone ho
  by_cases hb : (txOf s n).buf.length = 0
  ·rw [if_pos hb]
   have ht : RpJ (setTx s n { txOf s n with tm := (txOf s n).at' }) O := by
    refine h.turn h1 h2 h3 _ ?_ rfl rfl rfl
    rintro ⟨_, b⟩
    have b' : 0 < (txOf s n).buf.length := b
    omega
   have hl : (setTx s n { txOf s n with tm := (txOf s n).at' }).txs.length = s.txs.length := setTx_len ..
   have ha : txAt (setTx s n { txOf s n with tm := (txOf s n).at' }).txs n = { txOf s n with tm := (txOf s n).at' } := by
    rw [show (setTx s n { txOf s n with tm := (txOf s n).at' }).txs = s.txs.set (n - 1).toNat { txOf s n with tm := (txOf s n).at' } from rfl, txAt_set _ h1 h2 h1, if_pos rfl]
   refine ht.ends h1 (by rw [hl]; exact h2) ?_ (.inr ?_)
   ·rw [ha]
    rintro ⟨_, b⟩
    have b' : 0 < (txOf s n).buf.length := b
    omega
   ·rw [ha]; exact hb
  ·rw [if_neg hb]
   by_cases hm : mayC s (txOf s n) ≠ 0
   ·rw [if_pos hm]
    exact h.ends h1 h2 h3 (.inl (by omega))
   ·rw [if_neg hm]
    refine h.turn h1 h2 h3 { txOf s n with st := 2, tm := s.given + 1 } ?_ rfl rfl rfl
    rintro ⟨a, _⟩
    have a' : (2 : Int) = 3 := a
    omega
 ·rw [if_neg ho]; exact h
theorem RpJ.batches {s : MgS} {O : List Int} (h : RpJ s O) : RpJ (baNext s) O := by
 unfold baNext
 split
 ·exact h.same rfl rfl rfl
 ·exact h
theorem RpJ.ro {s : MgS} {O : List Int} (h : RpJ s O) (q : Bool) : RpJ { s with ro := q } O := h.same rfl rfl rfl
theorem look_next {blocks last : Int} {vs : Vers} {t : Tx} (hc : applyCode blocks last t = 0) (k : Int) : (alook (applyNext blocks last vs t) k).getD [] = (alook vs k).getD [] ++ putG t.time t.puts k := by
 unfold applyNext
 rw [if_pos hc]
 have hr := riseB_pairwise (code_zero hc).2.2.1
 have hn := pairwise_nodup hr
 by_cases hk : ∃ p ∈ t.puts, p.lba = k
 ·obtain ⟨p, hp, rfl⟩ := hk
  rw [applyVs_mine _ _ _ p hn hp, putG_one hn hp]; rfl
 ·have hno : ∀ p ∈ t.puts, p.lba ≠ k := fun p hp e => hk ⟨p, hp, e⟩
  rw [applyVs_other _ _ _ k hno, putG_none hno, List.append_nil]
theorem last_snoc {l : List Put} {R : List (List Put)} {ps : List Put} {t k : Int} (h : lastO l = lastW R k) : lastO (l ++ putG t ps k) = lastW (R ++ [ps]) k := by
 unfold lastO lastW at *
 rw [List.getLast?_append, List.flatten_append, List.filter_append, List.getLast?_append]
 have e : [ps].flatten = ps := by simp
 rw [e]
 unfold putG
 rw [List.getLast?_map]
 cases hq : (ps.filter fun p => p.lba == k).getLast? with
 | none => simpa using h
 | some q => simp
theorem wait_code {N : Nat} {s : MgS} (g : MgG N s) {n : Int} (hn : n ∈ s.queue) : applyCode s.blocks s.last0 (waitTx s n) = 0 := by
 obtain ⟨o1, o2⟩ := g.qr n hn
 obtain ⟨q1, q2⟩ := g.qp n hn
 obtain ⟨b1, b2⟩ := g.qb n hn
 have htg := g.tx _ (txAt_mem o1 o2)
 have hl0 := g.l0
 have hlt := g.lt
 have hasc := bufPuts_asc htg.bg.nd
 have hlen : (waitTx s n).puts.length = (txAt s.txs n).buf.length := bufPuts_len ..
 have htm : (waitTx s n).time = (txAt s.txs n).tm := rfl
 have hin : ∀ p ∈ (waitTx s n).puts, (0 ≤ p.lba ∧ p.lba < s.blocks) ∧ p.data.length = 40 := fun p hp => by
  obtain ⟨k, hk, rfl⟩ := List.mem_map.1 hp
  have hk' : k ∈ (txAt s.txs n).buf.map (·.1) := (List.mergeSort_perm _ _).subset hk
  obtain ⟨y, hy, rfl⟩ := List.mem_map.1 hk'
  have h1 := htg.bg.ks y hy
  refine ⟨by simp only; omega, ?_⟩
  have ha : alook (txAt s.txs n).buf y.1 = some y.2 := alook_mem htg.bg.nd hy
  show ((alook (txOf s n).buf y.1).getD []).length = 40
  rw [txOf_txAt, ha]
  exact h1.2.2
 refine code_ok (by rw [htm]; omega) ?_ (fun i hi => (hin _ (List.getElem_mem hi)).1) (fun i hi => (hin _ (List.getElem_mem hi)).2)
 refine rise_yes (by rw [hlen]; exact q2) fun j hj => ?_
 exact List.pairwise_iff_getElem.1 hasc j (j + 1) (Nat.lt_of_succ_lt hj) hj (Nat.lt_succ_self j)
theorem RpJ.step {N : Nat} {s : MgS} {O : List Int} (h : RpJ s O) (g : MgG N s) (code : Int) {n : Int} (hn : n ∈ s.queue) : ∃ O', RpJ (doStep code s n) O' := by
 obtain ⟨o1, o2⟩ := g.qr n hn
 obtain ⟨q1, q2⟩ := g.qp n hn
 obtain ⟨b1, b2⟩ := g.qb n hn
 have hnd : ¬ isDone (txAt s.txs n) := fun hh => by have := hh.1; omega
 have hc := wait_code g hn
 unfold doStep
 by_cases h0 : code = 0
 ·rw [if_pos h0]
  refine ⟨O ++ [n], ?_⟩
  have key : ∀ x : Int, 1 ≤ x → txAt (s.txs.set (n - 1).toNat (endTx (txAt s.txs n) 3 0)) x = if x = n then endTx (txAt s.txs n) 3 0 else txAt s.txs x := fun x hx => txAt_set _ o1 o2 hx
  have hO : ∀ x ∈ O, txAt (s.txs.set (n - 1).toNat (endTx (txAt s.txs n) 3 0)) x = txAt s.txs x := fun x hx => by
   obtain ⟨a1, a2, a3⟩ := (h.mem x).1 hx
   rw [key x a1, if_neg]
   intro e
   subst e
   exact hnd a3
  have hnn : txAt (s.txs.set (n - 1).toNat (endTx (txAt s.txs n) 3 0)) n = endTx (txAt s.txs n) 3 0 := by rw [key n o1, if_pos rfl]
  refine ⟨fun x => ?_, ?_, fun x hx => ?_, fun k => ?_⟩
  ·show x ∈ O ++ [n] ↔ 1 ≤ x ∧ x ≤ (s.txs.set (n - 1).toNat (endTx (txAt s.txs n) 3 0)).length ∧ isDone (txAt (s.txs.set (n - 1).toNat (endTx (txAt s.txs n) 3 0)) x)
   rw [List.length_set]
   constructor
   ·intro hx
    rcases List.mem_append.1 hx with hx | hx
    ·obtain ⟨a1, a2, a3⟩ := (h.mem x).1 hx
     exact ⟨a1, a2, by rw [hO x hx]; exact a3⟩
    ·rw [List.mem_singleton] at hx
     subst hx
     exact ⟨o1, o2, by rw [hnn]; exact ⟨rfl, q2⟩⟩
   ·rintro ⟨a1, a2, a3⟩
    by_cases e : x = n
    ·subst e; simp
    ·rw [key x a1, if_neg e] at a3
     exact List.mem_append_left _ ((h.mem x).2 ⟨a1, a2, a3⟩)
  ·show ((O ++ [n]).map fun x => (txAt (s.txs.set (n - 1).toNat (endTx (txAt s.txs n) 3 0)) x).tm).Pairwise (· < ·)
   rw [List.map_append, List.map_congr_left (g := fun x => (txAt s.txs x).tm) fun x hx => by rw [hO x hx]]
   refine List.pairwise_append.2 ⟨h.tms, by simp, fun y hy z hz => ?_⟩
   obtain ⟨x, hx, rfl⟩ := List.mem_map.1 hy
   simp only [List.map_cons, List.map_nil, List.mem_singleton] at hz
   subst hz
   rw [hnn]
   have := h.le x hx
   show (txAt s.txs x).tm < (txAt s.txs n).tm
   omega
  ·show (txAt (s.txs.set (n - 1).toNat (endTx (txAt s.txs n) 3 0)) x).tm ≤ (txAt s.txs n).tm
   rcases List.mem_append.1 hx with hx | hx
   ·rw [hO x hx]
    have := h.le x hx
    omega
   ·rw [List.mem_singleton] at hx
    subst hx
    rw [hnn]
    exact Int.le_refl _
  ·show lastO ((alook (applyNext s.blocks s.last0 s.vs (waitTx s n)) k).getD []) = lastW ((O ++ [n]).map fun x => bufPuts (txAt (s.txs.set (n - 1).toNat (endTx (txAt s.txs n) 3 0)) x).buf) k
   rw [look_next hc, List.map_append, List.map_congr_left (g := fun x => bufPuts (txAt s.txs x).buf) fun x hx => by rw [hO x hx]]
   have e : ([n].map fun x => bufPuts (txAt (s.txs.set (n - 1).toNat (endTx (txAt s.txs n) 3 0)) x).buf) = [(waitTx s n).puts] := by
    simp only [List.map_cons, List.map_nil, hnn]
    rfl
   rw [e]
   exact last_snoc (h.vs k)
 ·rw [if_neg h0]
  exact ⟨O, h.ends o1 o2 hnd (.inl (by omega))⟩
theorem RpJ.doneTo {N : Nat} {s : MgS} {O : List Int} (h : RpJ s O) (g : MgG N s) (code : Int) : ∀ j, j ≤ s.queue.length → ∃ O', RpJ (Go.Proofs.doneTo code s j) O'
 | 0, _ => ⟨O, by rw [doneTo_zero]; exact h⟩
 | j + 1, hj => by
  obtain ⟨O1, h1⟩ := RpJ.doneTo h g code j (by omega)
  have g1 := g.doneTo code j (by omega)
  have h2 : RpJ { Go.Proofs.doneTo code s j with queue := s.queue.drop j, out := 0 } O1 := h1.same rfl rfl rfl
  obtain ⟨O2, h3⟩ := h2.step g1 code (n := s.queue[j]) (by
   show s.queue[j] ∈ s.queue.drop j
   rw [List.drop_eq_getElem_cons (by omega)]
   exact List.mem_cons_self ..)
  refine ⟨O2, ?_⟩
  rw [doneTo_succ code s (by omega)]
  refine h3.same ?_ ?_ ?_
  ·unfold doStep; split <;> rfl
  ·unfold doStep; split <;> rfl
  ·unfold doStep; split <;> rfl
theorem RpJ.dones {N : Nat} {s : MgS} {O : List Int} (h : RpJ s O) (g : MgG N s) (code : Int) : ∃ O', RpJ (doneNext s code) O' := by
 by_cases h0 : s.out = 0
 ·exact ⟨O, by unfold doneNext; rw [if_pos h0]; exact h⟩
 ·obtain ⟨o1, o2⟩ := g.o1
  obtain ⟨O1, h1⟩ := h.doneTo g code s.out.toNat (by omega)
  refine ⟨O1, ?_⟩
  have e : doneNext s code = { Go.Proofs.doneTo code s s.out.toNat with num := if code = 0 then s.num + 1 else s.num, queue := s.queue.drop s.out.toNat, out := 0 } := by
   unfold doneNext Go.Proofs.doneTo
   rw [if_neg h0]
  rw [e]
  exact h1.same rfl rfl rfl
theorem RpJ.stDo {N : Nat} {s : MgS} {O : List Int} (h : RpJ s O) (g : MgG N s) (x : Step23) : ∃ O', RpJ (Go.Proofs.stDo s x) O' := by
 unfold Go.Proofs.stDo
 split
 ·exact ⟨O, h.begins g⟩
 split
 ·exact ⟨O, h.reads _ _⟩
 split
 ·exact ⟨O, h.writes _ _⟩
 split
 ·exact ⟨O, h.commits _⟩
 split
 ·exact ⟨O, h.aborts _⟩
 split
 ·exact ⟨O, h.batches⟩
 split
 ·exact h.dones g _
 split
 ·exact ⟨O, h.ro _⟩
 split
 ·exact ⟨O, h.prunes⟩
 ·exact ⟨O, h⟩
end Go.Proofs
namespace Go.Proofs
open Go.RowKit Sc
def zero40 (d : Bytes) : Bool := d.all (· == 0)
def runCode (n : Int) (l : List Put) : Int :=
 if l.any (fun p => !blk n p.lba) then 2
 else if decide ((l.map (·.lba)).Nodup) && l.all (fun p => decide (p.data.length = 40)) then 0 else 1
theorem code_of_dup {n : Int} {l : List Put} (hq : l.any (fun p => !blk n p.lba) = false) (hd : ¬ ((l.map (·.lba)).Nodup ∧ ∀ p ∈ l, p.data.length = 40)) : runCode n l = 1 := by
 unfold runCode
 rw [hq, if_neg (by simp), if_neg]
 intro h
 simp only [Bool.and_eq_true, decide_eq_true_eq, List.all_eq_true] at h
 exact hd h
theorem code_of_ok {n : Int} {l : List Put} (hq : l.any (fun p => !blk n p.lba) = false) (hd : (l.map (·.lba)).Nodup ∧ ∀ p ∈ l, p.data.length = 40) : runCode n l = 0 := by
 unfold runCode
 rw [hq, if_neg (by simp), if_pos]
 simp only [Bool.and_eq_true, decide_eq_true_eq, List.all_eq_true]
 exact hd
def wroteH (h : Hist) : Bool := decide (h.state = 3) && decide (0 < h.puts.length)
def wroteAt (l : List Hist) (i : Nat) : Bool := (l[i]?).any wroteH
def timeAt (l : List Hist) (i : Nat) : Int := ((l[i]?).map (·.time)).getD 0
def ordIdx (l : List Hist) : List Nat := (List.range l.length).filter (wroteAt l)
def ordLe (l : List Hist) (i j : Nat) : Bool := decide (timeAt l i < timeAt l j ∨ (timeAt l i = timeAt l j ∧ i ≤ j))
def ordI (l : List Hist) : List Nat := (ordIdx l).mergeSort (ordLe l)
theorem ordLe_trans (l : List Hist) (a b c : Nat) (h1 : ordLe l a b = true) (h2 : ordLe l b c = true) : ordLe l a c = true := by
 unfold ordLe at *; simp only [decide_eq_true_eq] at *; omega
theorem ordLe_total (l : List Hist) (a b : Nat) : (ordLe l a b || ordLe l b a) = true := by
 unfold ordLe; simp only [Bool.or_eq_true, decide_eq_true_eq]; omega
theorem ordI_perm (l : List Hist) : (ordI l).Perm (ordIdx l) := List.mergeSort_perm _ _
theorem ordI_pairwise (l : List Hist) : (ordI l).Pairwise (fun i j => ordLe l i j = true) := List.pairwise_mergeSort (ordLe_trans l) (ordLe_total l) _
theorem ordI_unique {l : List Hist} {o : List Nat} (hp : o.Perm (ordIdx l)) (hs : o.Pairwise (fun i j => ordLe l i j = true)) : o = ordI l := by
 refine List.Perm.eq_of_pairwise (le := fun i j : Nat => ordLe l i j = true) (fun x y _ _ h1 h2 => ?_) hs (ordI_pairwise l) (hp.trans (ordI_perm l).symm)
 unfold ordLe at h1 h2; simp only [decide_eq_true_eq] at h1 h2; omega
theorem ordIdx_sorted (l : List Hist) : (ordIdx l).Pairwise (· < ·) := List.pairwise_lt_range.filter _
theorem ordIdx_nodup (l : List Hist) : (ordIdx l).Nodup := (ordIdx_sorted l).imp (fun h => by omega)
theorem mem_ordIdx {l : List Hist} {i : Nat} : i ∈ ordIdx l ↔ ∃ h : i < l.length, wroteH l[i] = true := by
 unfold ordIdx
 rw [List.mem_filter, List.mem_range]
 unfold wroteAt
 constructor
 ·rintro ⟨h, h2⟩
  rw [List.getElem?_eq_getElem h] at h2
  exact ⟨h, h2⟩
 ·rintro ⟨h, h2⟩
  refine ⟨h, ?_⟩
  rw [List.getElem?_eq_getElem h]
  exact h2
theorem mem_ordI {l : List Hist} {i : Nat} : i ∈ ordI l ↔ ∃ h : i < l.length, wroteH l[i] = true := (ordI_perm l).mem_iff.trans mem_ordIdx
theorem timeAt_lt {l : List Hist} {i : Nat} (h : i < l.length) : timeAt l i = l[i].time := by unfold timeAt; rw [List.getElem?_eq_getElem h]; rfl
def hist0 : Hist := ⟨0, 0, 0, 0, 0, [], []⟩
def ordH (l : List Hist) : List Hist := (ordI l).map (fun i => l.getD i hist0)
theorem ordH_len (l : List Hist) : (ordH l).length = (ordI l).length := List.length_map ..
theorem ordI_len (l : List Hist) : (ordI l).length ≤ l.length := by
 rw [(ordI_perm l).length_eq]
 unfold ordIdx
 exact Nat.le_trans (List.length_filter_le _ _) (by simp)
def vN (i : Nat) : Value := .int .i64 (i : Int)
structure OrdTo (l : List Hist) (k : Nat) (o : List Nat) : Prop where
 perm : o.Perm ((List.range k).filter (wroteAt l))
 sorted : o.Pairwise (fun i j => ordLe l i j = true)
theorem OrdTo.start (l : List Hist) : OrdTo l 0 [] := ⟨List.Perm.refl _, List.Pairwise.nil⟩
theorem OrdTo.lt {l : List Hist} {k : Nat} {o : List Nat} (h : OrdTo l k o) : ∀ i ∈ o, i < k := fun i hi => by
 have := h.perm.mem_iff.1 hi
 simpa using (List.mem_filter.1 this).1
theorem OrdTo.skip {l : List Hist} {k : Nat} {o : List Nat} (h : OrdTo l k o) (hw : wroteAt l k = false) : OrdTo l (k + 1) o := by
 refine ⟨?_, h.sorted⟩
 rw [List.range_succ, List.filter_append]
 simpa [hw] using h.perm
theorem OrdTo.put {l : List Hist} {k : Nat} {o : List Nat} (h : OrdTo l k o) (hw : wroteAt l k = true) {a : Nat} (ha : a ≤ o.length)
  (c1 : a = 0 ∨ timeAt l (o.getD (a - 1) 0) ≤ timeAt l k) (c2 : ∀ j, a ≤ j → ∀ hj : j < o.length, timeAt l k < timeAt l o[j]) : OrdTo l (k + 1) (o.take a ++ k :: o.drop a) := by
 refine ⟨?_, ?_⟩
 ·rw [List.range_succ, List.filter_append]
  have e : [k].filter (wroteAt l) = [k] := by simp [hw]
  rw [e]
  refine List.perm_middle.trans ?_
  rw [List.take_append_drop]
  exact (List.perm_append_singleton k o).symm.trans (h.perm.append_right [k])
 ·have hs := h.sorted
  have hs' : (o.take a ++ o.drop a).Pairwise (fun i j => ordLe l i j = true) := by rw [List.take_append_drop]; exact hs
  rw [List.pairwise_append] at hs' ⊢
  obtain ⟨s1, s2, s3⟩ := hs'
  refine ⟨s1, List.pairwise_cons.2 ⟨fun j hj => ?_, s2⟩, fun i hi j hj => ?_⟩
  ·obtain ⟨q, hq, rfl⟩ := List.getElem_of_mem hj
   rw [List.getElem_drop]
   have hq' : a + q < o.length := by rw [List.length_drop] at hq; omega
   have := c2 (a + q) (by omega) hq'
   unfold ordLe; rw [decide_eq_true_eq]; exact Or.inl this
  ·rcases List.mem_cons.1 hj with rfl | hj
   ·obtain ⟨q, hq, rfl⟩ := List.getElem_of_mem hi
    rw [List.getElem_take]
    have hq' : q < a ∧ q < o.length := by rw [List.length_take] at hq; omega
    have hlt : o[q] < j := h.lt _ (List.getElem_mem hq'.2)
    have h1 : timeAt l (o.getD (a - 1) 0) ≤ timeAt l j := c1.resolve_left (by omega)
    have e1 : o.getD (a - 1) 0 = o[a - 1]'(by omega) := by simp [show a - 1 < o.length by omega]
    rw [e1] at h1
    have h2 : timeAt l o[q] ≤ timeAt l (o[a - 1]'(by omega)) := by
     rcases Nat.lt_or_ge q (a - 1) with hh | hh
     ·have := List.pairwise_iff_getElem.1 hs q (a - 1) hq'.2 (by omega) hh
      unfold ordLe at this; rw [decide_eq_true_eq] at this; omega
     ·have hqa : q = a - 1 := by omega
      subst hqa; exact Int.le_refl _
    unfold ordLe; rw [decide_eq_true_eq]; omega
   ·exact s3 i hi j hj
theorem OrdTo.done {l : List Hist} {o : List Nat} (h : OrdTo l l.length o) : o = ordI l := ordI_unique h.perm h.sorted
theorem OrdTo.len {l : List Hist} {k : Nat} {o : List Nat} (h : OrdTo l k o) : o.length ≤ k := by
 rw [h.perm.length_eq]
 exact Nat.le_trans (List.length_filter_le _ _) (by simp)
theorem shift_get (os : List Nat) (q g : Nat) (h : q < os.length) : ((os.take (q + 1) ++ g :: os.drop (q + 1)).map vN)[q]? = some (vN (os[q])) := by
 rw [List.getElem?_map, List.getElem?_append_left (by rw [List.length_take]; omega), List.getElem?_take, if_pos (by omega), List.getElem?_eq_getElem h]; rfl
theorem shift_set (os : List Nat) (q g : Nat) (h : q < os.length) : ((os.take (q + 1) ++ g :: os.drop (q + 1)).map vN).set (q + 1) (vN (os[q])) = (os.take q ++ os[q] :: os.drop q).map vN := by
 rw [← List.map_set]
 congr 1
 rw [List.set_append_right _ _ (by rw [List.length_take]; omega)]
 have e : q + 1 - (os.take (q + 1)).length = 0 := by rw [List.length_take]; omega
 rw [e, List.set_cons_zero, List.take_succ_eq_append_getElem h, List.append_assoc, List.drop_eq_getElem_cons h]
 rfl
theorem end_set (os : List Nat) (a g k : Nat) (h : a ≤ os.length) : ((os.take a ++ g :: os.drop a).map vN).set a (vN k) = (os.take a ++ k :: os.drop a).map vN := by
 rw [← List.map_set]
 congr 1
 rw [List.set_append_right _ _ (by rw [List.length_take]; omega)]
 have e : a - (os.take a).length = 0 := by rw [List.length_take]; omega
 rw [e, List.set_cons_zero]
theorem put_len (os : List Nat) (a k : Nat) (h : a ≤ os.length) : (os.take a ++ k :: os.drop a).length = os.length + 1 := by
 rw [List.length_append, List.length_take, List.length_cons, List.length_drop]; omega
theorem first_row (os : List Nat) : os.map vN ++ [.int .i64 0] = (os.take os.length ++ 0 :: os.drop os.length).map vN := by
 rw [List.take_length, List.drop_length, List.map_append]; rfl
def refPuts (ls : List Bytes) (l : List Put) : List Bytes := l.foldl (fun ls p => ls.set p.lba.toNat p.data) ls
theorem refPuts_length (l : List Put) : ∀ ls : List Bytes, (refPuts ls l).length = ls.length := by
 induction l with
 | nil => intro ls; rfl
 | cons p t ih => intro ls; show (refPuts (ls.set p.lba.toNat p.data) t).length = _; rw [ih, List.length_set]
def replayCode (n : Int) : List (List Put) → Int
 | [] => 0
 | p :: t => if runCode n p = 0 then replayCode n t else runCode n p
def refAll (ls : List Bytes) (l : List (List Put)) : List Bytes := l.foldl refPuts ls
theorem replay_ok {n : Int} : ∀ {l : List (List Put)}, replayCode n l = 0 ↔ ∀ p ∈ l, runCode n p = 0
 | [] => by simp [replayCode]
 | p :: t => by
  unfold replayCode
  split
  ·rename_i h; rw [replay_ok]; simp [h]
  ·rename_i h; simp [h]
theorem replay_drop {n : Int} {l : List (List Put)} {k : Nat} (h : ∀ p ∈ l.take k, runCode n p = 0) : replayCode n l = replayCode n (l.drop k) := by
 induction k generalizing l with
 | zero => rfl
 | succ k ih =>
  cases l with
  | nil => rfl
  | cons p t =>
   rw [List.take_succ_cons] at h
   have e : replayCode n (p :: t) = replayCode n t := by
    show (if runCode n p = 0 then replayCode n t else runCode n p) = _
    rw [if_pos (h p (by simp))]
   rw [e, List.drop_succ_cons]
   exact ih fun q hq => h q (List.mem_cons_of_mem _ hq)
theorem refAll_snoc (s : List Bytes) (l : List (List Put)) (p : List Put) : refAll s (l ++ [p]) = refPuts (refAll s l) p := by unfold refAll; rw [List.foldl_append]; rfl
theorem refAll_len (l : List (List Put)) : ∀ ls : List Bytes, (refAll ls l).length = ls.length := by
 induction l with
 | nil => intro ls; rfl
 | cons p t ih => intro ls; show (refAll (refPuts ls p) t).length = _; rw [ih, refPuts_length]
def ordP (l : List Hist) : List (List Put) := (ordH l).map (·.puts)
theorem ordP_len (l : List Hist) : (ordP l).length = (ordI l).length := by unfold ordP; rw [List.length_map, ordH_len]
theorem ordP_get {l : List Hist} {i : Nat} (h : i < (ordI l).length) : ∃ h' : (ordI l)[i] < l.length, ∃ h2 : i < (ordP l).length, (ordP l)[i] = l[(ordI l)[i]].puts := by
 obtain ⟨h1, _⟩ := mem_ordI.1 (List.getElem_mem h)
 refine ⟨h1, by rw [ordP_len]; exact h, ?_⟩
 unfold ordP ordH
 rw [List.getElem_map, List.getElem_map]
 congr 1
 simp [h1]
def refOne (ls : List Bytes) (i : Nat) : Option Put := if zero40 (ls.getD i []) then none else some ⟨i, ls.getD i []⟩
def refAllTo (ls : List Bytes) (k : Nat) : List Put := (List.range k).filterMap (refOne ls)
theorem refAllTo_succ (ls : List Bytes) (k : Nat) : refAllTo ls (k + 1) = refAllTo ls k ++ (refOne ls k).toList := by
 unfold refAllTo
 rw [List.range_succ, List.filterMap_append]
 cases h : refOne ls k <;> simp [h]
theorem refAllTo_le (ls : List Bytes) (k : Nat) : (refAllTo ls k).length ≤ k := by
 induction k with
 | zero => simp [refAllTo]
 | succ k ih =>
  rw [refAllTo_succ, List.length_append]
  cases refOne ls k <;> simp <;> omega
end Go.Proofs
namespace Go.Proofs
open Go.RowKit Sc
def histOf (t : TxS) : Hist := ⟨t.st, t.at', t.tm, 0, 0, t.R, bufPuts t.buf⟩
def hsL (s : MgS) (n : Nat) : List Hist := (List.range n).map fun i : Nat => histOf (txAt s.txs ((i : Int) + 1))
theorem hsL_succ (s : MgS) (n : Nat) : hsL s (n + 1) = hsL s n ++ [histOf (txAt s.txs ((n : Int) + 1))] := by
 unfold hsL
 rw [List.range_succ, List.map_append]; rfl
theorem hsL_len (s : MgS) (n : Nat) : (hsL s n).length = n := by simp [hsL]
theorem hsL_get (s : MgS) {n i : Nat} (h' : i < (hsL s n).length) : (hsL s n)[i] = histOf (txAt s.txs ((i : Int) + 1)) := by simp [hsL]
theorem wrote_done (t : TxS) : wroteH (histOf t) = true ↔ isDone t := by
 have h := bufPuts_len t.buf
 unfold wroteH histOf isDone
 simp only [Bool.and_eq_true, decide_eq_true_eq, h]
theorem txAt_far {l : List TxS} {x : Int} (h : (l.length : Int) < x) : txAt l x = default := by
 unfold txAt
 rw [List.getElem?_eq_none (by omega)]; rfl
theorem RpJ.pos {s : MgS} {O : List Int} (h : RpJ s O) {n : Nat} (hn : s.txs.length ≤ n) {x : Int} (hx : x ∈ O) : 1 ≤ x ∧ (x - 1).toNat < n ∧ (((x - 1).toNat : Nat) : Int) + 1 = x ∧ isDone (txAt s.txs x) := by
 obtain ⟨a1, a2, a3⟩ := (h.mem x).1 hx
 exact ⟨a1, by omega, by omega, a3⟩
theorem RpJ.time {s : MgS} {O : List Int} (h : RpJ s O) {n : Nat} (hn : s.txs.length ≤ n) {x : Int} (hx : x ∈ O) : timeAt (hsL s n) (x - 1).toNat = (txAt s.txs x).tm := by
 obtain ⟨_, a2, a3, _⟩ := h.pos hn hx
 have hl : (x - 1).toNat < (hsL s n).length := by rw [hsL_len]; exact a2
 rw [timeAt_lt hl, hsL_get s hl, a3]; rfl
theorem RpJ.ordI {s : MgS} {O : List Int} (h : RpJ s O) {n : Nat} (hn : s.txs.length ≤ n) : (O.map fun x => (x - 1).toNat) = Go.Proofs.ordI (hsL s n) := by
 have ht := List.pairwise_map.1 h.tms
 refine ordI_unique ?_ ?_
 ·refine (List.perm_ext_iff_of_nodup ?_ (ordIdx_nodup _)).2 fun i => ?_
  ·unfold List.Nodup
   rw [List.pairwise_map]
   refine (List.Pairwise.and_mem.1 ht).imp ?_
   rintro x y ⟨hx, hy, hlt⟩ e
   obtain ⟨a1, _, a3, _⟩ := h.pos hn hx
   obtain ⟨b1, _, b3, _⟩ := h.pos hn hy
   have : x = y := by omega
   subst this
   omega
  ·rw [List.mem_map, mem_ordIdx]
   constructor
   ·rintro ⟨x, hx, rfl⟩
    obtain ⟨_, a2, a3, a4⟩ := h.pos hn hx
    have hl : (x - 1).toNat < (hsL s n).length := by rw [hsL_len]; exact a2
    refine ⟨hl, ?_⟩
    rw [hsL_get s hl, a3]
    exact (wrote_done _).2 a4
   ·rintro ⟨hl, hw⟩
    rw [hsL_get s hl] at hw
    have hd := (wrote_done _).1 hw
    have hi : (i : Int) + 1 ≤ s.txs.length := by
     refine Int.not_lt.1 fun hlt => ?_
     rw [txAt_far hlt] at hd
     have := hd.2
     simp [show (default : TxS).buf = [] from rfl] at this
    exact ⟨(i : Int) + 1, (h.mem _).2 ⟨by omega, hi, hd⟩, by omega⟩
 ·rw [List.pairwise_map]
  refine (List.Pairwise.and_mem.1 ht).imp ?_
  rintro x y ⟨hx, hy, hlt⟩
  unfold ordLe
  rw [decide_eq_true_eq, h.time hn hx, h.time hn hy]
  exact .inl hlt
theorem RpJ.ordP {s : MgS} {O : List Int} (h : RpJ s O) {n : Nat} (hn : s.txs.length ≤ n) : Go.Proofs.ordP (hsL s n) = O.map fun x => bufPuts (txAt s.txs x).buf := by
 unfold Go.Proofs.ordP ordH
 rw [← h.ordI hn, List.map_map, List.map_map]
 refine List.map_congr_left fun x hx => ?_
 obtain ⟨_, a2, a3, _⟩ := h.pos hn hx
 have hl : (x - 1).toNat < (hsL s n).length := by rw [hsL_len]; exact a2
 show ((hsL s n).getD (x - 1).toNat hist0).puts = _
 rw [List.getD_eq_getElem?_getD, List.getElem?_eq_getElem hl, hsL_get s hl, a3]; rfl
theorem refAll_flat (rows : List (List Put)) : ∀ ls : List Bytes, refAll ls rows = refPuts ls rows.flatten := by
 induction rows with
 | nil => intro ls; rfl
 | cons p t ih =>
  intro ls
  show refAll (refPuts ls p) t = _
  rw [ih, List.flatten_cons]
  unfold refPuts
  rw [List.foldl_append]
theorem refPuts_get (k : Nat) : ∀ (l : List Put) (ls : List Bytes), (∀ p ∈ l, 0 ≤ p.lba) → k < ls.length → (refPuts ls l).getD k [] = (lastO (l.filter fun p => p.lba == (k : Int))).getD (ls.getD k []) := by
 intro l
 induction l with
 | nil => intro ls _ _; rfl
 | cons p t ih =>
  intro ls h0 hk
  have hp := h0 p (by simp)
  show (refPuts (ls.set p.lba.toNat p.data) t).getD k [] = _
  rw [ih _ (fun q hq => h0 q (by simp [hq])) (by rw [List.length_set]; exact hk)]
  by_cases e : p.lba = (k : Int)
  ·have e1 : p.lba.toNat = k := by omega
   have e2 : ((p :: t).filter fun p => p.lba == (k : Int)) = p :: t.filter fun p => p.lba == (k : Int) := List.filter_cons_of_pos (by simpa using e)
   rw [e2, e1]
   unfold lastO
   rw [List.getLast?_cons]
   cases hq : (t.filter fun p => p.lba == (k : Int)).getLast? with
   | none => simp [List.getD, hk]
   | some q => simp
  ·have e1 : p.lba.toNat ≠ k := by omega
   have e2 : ((p :: t).filter fun p => p.lba == (k : Int)) = t.filter fun p => p.lba == (k : Int) := List.filter_cons_of_neg (by simpa using e)
   rw [e2]
   have e3 : (ls.set p.lba.toNat p.data).getD k [] = ls.getD k [] := by simp [List.getD, e1]
   rw [e3]
theorem lastO_putG (t : Int) (l : List Put) (k : Int) : lastO (putG t l k) = lastO (l.filter fun p => p.lba == k) := by
 unfold lastO putG
 rw [List.getLast?_map]
 cases (l.filter fun p => p.lba == k).getLast? <;> rfl
theorem getD_repl (n k : Nat) : (List.replicate n ([] : Bytes)).getD k [] = [] := by
 simp only [List.getD, List.getElem?_replicate]; split <;> rfl
theorem dump_lba {vs : Vers} : (dumpV vs).map (·.lba) = keysUp (vs.map (·.1)) := by
 unfold dumpV
 rw [List.map_map]
 exact List.map_id _
theorem dump_last {blocks last : Int} {vs : Vers} (g : GoodE blocks last vs) (k : Int) : (lastO ((dumpV vs).filter fun p => p.lba == k)).getD [] = (lastO ((alook vs k).getD [])).getD [] := by
 have hp : (keysUp (vs.map (·.1))).Perm (vs.map (·.1)) := List.mergeSort_perm _ _
 have hn : ((dumpV vs).map (·.lba)).Nodup := by rw [dump_lba]; exact hp.nodup_iff.2 g.nd
 rw [← lastO_putG 0]
 by_cases hk : k ∈ vs.map (·.1)
 ·have hm : (⟨k, lastD ((alook vs k).getD [])⟩ : Put) ∈ dumpV vs := List.mem_map.2 ⟨k, hp.mem_iff.2 hk, rfl⟩
  have h1 := putG_one (t := 0) hn hm
  have h2 : putG 0 (dumpV vs) k = [⟨0, lastD ((alook vs k).getD [])⟩] := h1
  rw [h2]; rfl
 ·have hno : ∀ p ∈ dumpV vs, p.lba ≠ k := fun p hpm e => by
   have : p.lba ∈ (dumpV vs).map (·.lba) := List.mem_map.2 ⟨p, hpm, rfl⟩
   rw [dump_lba] at this
   exact hk (e ▸ hp.mem_iff.1 this)
  rw [putG_none hno]
  have ha : alook vs k = none := alook_none.2 fun x hx e => hk (List.mem_map.2 ⟨x, hx, e⟩)
  rw [ha]; rfl
theorem any_blk {n : Int} {l : List Put} (h : ∀ p ∈ l, 0 ≤ p.lba ∧ p.lba < n) : l.any (fun p => !blk n p.lba) = false := by
 rw [List.any_eq_false]
 intro p hp
 have := h p hp
 simp [blk, this.1, this.2]
theorem dump_run {last : Int} {vs : Vers} {n : Nat} (g : GoodE n last vs) : runCode n (dumpV vs) = 0 := by
 have hp : (keysUp (vs.map (·.1))).Perm (vs.map (·.1)) := List.mergeSort_perm _ _
 refine code_of_ok (any_blk fun p hpm => ?_) ⟨by rw [dump_lba]; exact hp.nodup_iff.2 g.nd, fun p hpm => ?_⟩
 ·have : p.lba ∈ (dumpV vs).map (·.lba) := List.mem_map.2 ⟨p, hpm, rfl⟩
  rw [dump_lba] at this
  obtain ⟨x, hx, e⟩ := List.mem_map.1 (hp.mem_iff.1 this)
  rw [← e]
  exact g.ks x hx
 ·obtain ⟨k, hk, rfl⟩ := List.mem_map.1 hpm
  obtain ⟨x, hx, e⟩ := List.mem_map.1 (hp.mem_iff.1 hk)
  have ha : alook vs k = some x.2 := alook_mem g.nd (by rw [← e]; exact hx)
  obtain ⟨h1, _, h3⟩ := g.ts k _ ha
  show (lastD ((alook vs k).getD [])).length = 40
  rw [ha, Option.getD_some]
  unfold lastD
  cases hq : x.2.getLast? with
  | none => exact absurd (List.getLast?_eq_none_iff.1 hq) h1
  | some q => exact (h3 q (List.mem_of_getLast? hq)).1
theorem buf_run {n : Nat} {b : List (Int × Bytes)} (g : BufG n b) : runCode n (bufPuts b) = 0 ∧ ∀ p ∈ bufPuts b, 0 ≤ p.lba := by
 have hin : ∀ p ∈ bufPuts b, (0 ≤ p.lba ∧ p.lba < n) ∧ p.data.length = 40 := fun p hp => by
  obtain ⟨k, hk, rfl⟩ := List.mem_map.1 hp
  have hk' : k ∈ b.map (·.1) := (List.mergeSort_perm _ _).subset hk
  obtain ⟨y, hy, rfl⟩ := List.mem_map.1 hk'
  have h1 := g.ks y hy
  refine ⟨by simp only; omega, ?_⟩
  have ha : alook b y.1 = some y.2 := alook_mem g.nd hy
  show ((alook b y.1).getD []).length = 40
  rw [ha]
  exact h1.2.2
 refine ⟨code_of_ok (any_blk fun p hp => (hin p hp).1) ⟨?_, fun p hp => (hin p hp).2⟩, fun p hp => (hin p hp).1.1⟩
 have e : (bufPuts b).map (·.lba) = keysUp (b.map (·.1)) := by
  unfold bufPuts
  rw [List.map_map]
  exact List.map_id _
 rw [e]
 exact (List.mergeSort_perm _ _).nodup_iff.2 g.nd
theorem refAllTo_same {a b : List Bytes} {n : Nat} (h : ∀ k, k < n → a.getD k [] = b.getD k []) : refAllTo a n = refAllTo b n := by
 unfold refAllTo
 have key : ∀ l : List Nat, (∀ k ∈ l, k < n) → l.filterMap (refOne a) = l.filterMap (refOne b) := by
  intro l
  induction l with
  | nil => intro _; rfl
  | cons k t ih =>
   intro hl
   have e : refOne a k = refOne b k := by unfold refOne; rw [h k (hl k (by simp))]
   rw [List.filterMap_cons, List.filterMap_cons, e, ih fun j hj => hl j (by simp [hj])]
 exact key _ fun k hk => List.mem_range.1 hk
theorem RpJ.law {N : Nat} {s : MgS} {O : List Int} (h : RpJ s O) (g : MgG N s) (h20 : s.blocks = 20) {n : Nat} (hn : s.txs.length ≤ n) :
  replayCode (20 : Nat) (Go.Proofs.ordP (hsL s n)) = 0 ∧ runCode (20 : Nat) (dumpV s.vs) = 0 ∧
  refAllTo (refPuts (List.replicate 20 []) (dumpV s.vs)) 20 = refAllTo (refAll (List.replicate 20 []) (Go.Proofs.ordP (hsL s n))) 20 := by
 have hge : GoodE ((20 : Nat) : Int) s.last0 s.vs := by have := g.ge; rw [h20] at this; exact this
 have hbuf : ∀ x ∈ O, BufG ((20 : Nat) : Int) (txAt s.txs x).buf := fun x hx => by
  obtain ⟨a1, a2, _⟩ := (h.mem x).1 hx
  have := (g.tx _ (txAt_mem a1 a2)).bg
  rw [h20] at this
  exact this
 rw [h.ordP hn]
 refine ⟨replay_ok.2 fun p hp => ?_, dump_run hge, refAllTo_same fun k hk => ?_⟩
 ·obtain ⟨x, hx, rfl⟩ := List.mem_map.1 hp
  exact (buf_run (hbuf x hx)).1
 ·rw [refAll_flat, refPuts_get k _ _ (fun p hp => ?_) (by rw [List.length_replicate]; exact hk), refPuts_get k _ _ (fun p hp => ?_) (by rw [List.length_replicate]; exact hk), getD_repl, dump_last hge, h.vs k]
  ·rfl
  ·obtain ⟨l, hl, hpl⟩ := List.mem_flatten.1 hp
   obtain ⟨x, hx, rfl⟩ := List.mem_map.1 hl
   exact (buf_run (hbuf x hx)).2 p hpl
  ·have : p.lba ∈ (dumpV s.vs).map (·.lba) := List.mem_map.2 ⟨p, hp, rfl⟩
   rw [dump_lba] at this
   obtain ⟨x, hx, e⟩ := List.mem_map.1 ((List.mergeSort_perm _ _).subset this)
   rw [← e]
   exact (hge.ks x hx).1
theorem stDo_count {N : Nat} {s : MgS} (g : MgG N s) (x : Step23) : (stDo s x).blocks = s.blocks ∧ (stDo s x).txs.length ≤ s.txs.length + (if x.kind = 1 then 1 else 0) := by
 unfold stDo
 by_cases h1 : x.kind = 1
 ·rw [if_pos h1, if_pos h1]
  unfold begNext
  split
  ·exact ⟨rfl, by simp⟩
  ·exact ⟨rfl, by omega⟩
 rw [if_neg h1, if_neg h1]
 split
 ·unfold rdNext; split
  ·exact ⟨rfl, by rw [setTx_len]; omega⟩
  ·exact ⟨rfl, by omega⟩
 split
 ·unfold wrNext; split
  ·exact ⟨rfl, by rw [setTx_len]; omega⟩
  ·exact ⟨rfl, by omega⟩
 split
 ·unfold cmNext; split
  ·split
   ·refine ⟨rfl, ?_⟩
    unfold endNext
    show (setTx _ _ _).txs.length ≤ _
    rw [setTx_len, setTx_len]; omega
   ·split
    ·refine ⟨rfl, ?_⟩
     unfold endNext
     show (setTx _ _ _).txs.length ≤ _
     rw [setTx_len]; omega
    ·refine ⟨rfl, ?_⟩
     show (s.txs.set _ _).length ≤ _
     rw [List.length_set]; omega
  ·exact ⟨rfl, by omega⟩
 split
 ·unfold abNext; split
  ·refine ⟨rfl, ?_⟩
   unfold endNext
   show (setTx _ _ _).txs.length ≤ _
   rw [setTx_len]; omega
  ·exact ⟨rfl, by omega⟩
 split
 ·unfold baNext; split
  ·exact ⟨rfl, by simp⟩
  ·exact ⟨rfl, by omega⟩
 split
 ·have e : doneNext s x.n = if s.out = 0 then s else { Go.Proofs.doneTo x.n s s.out.toNat with num := if x.n = 0 then s.num + 1 else s.num, queue := s.queue.drop s.out.toNat, out := 0 } := rfl
  rw [e]
  split
  ·exact ⟨rfl, by omega⟩
  ·obtain ⟨o1, o2⟩ := g.o1
   obtain ⟨a1, a2, a3⟩ := doneTo_same x.n s s.out.toNat (by omega)
   exact ⟨a3, by show (doneTo x.n s s.out.toNat).txs.length ≤ _; rw [a2]; omega⟩
 split
 ·exact ⟨rfl, by simp⟩
 split
 ·exact ⟨rfl, by show s.txs.length ≤ _; omega⟩
 ·exact ⟨rfl, by omega⟩
def TmOk (s : MgS) : Prop := ∀ t ∈ s.txs, I64 t.st ∧ I64 t.tm
theorem TmOk.at {s : MgS} (h : TmOk s) (x : Int) : I64 (txAt s.txs x).st ∧ I64 (txAt s.txs x).tm := by
 unfold txAt
 cases hq : s.txs[(x - 1).toNat]? with
 | none =>
  show I64 (0 : Int) ∧ I64 (0 : Int)
  unfold I64; omega
 | some t => exact h t (List.mem_of_getElem? hq)
theorem TmOk.put {s s' : MgS} (h : TmOk s) {n : Int} {t : TxS} (ht : I64 t.st ∧ I64 t.tm) (e : s'.txs = s.txs.set (n - 1).toNat t) : TmOk s' := by
 intro y hy
 rw [e] at hy
 rcases List.mem_or_eq_of_mem_set hy with hy | rfl
 ·exact h y hy
 ·exact ht
theorem TmOk.ends {s : MgS} (h : TmOk s) (n : Int) {st cd : Int} (h1 : I64 st) : TmOk (endNext s n st cd) := h.put (n := n) (t := endTx (txOf s n) st cd) ⟨h1, by
 show I64 (if st = 4 then 0 else (txAt s.txs n).tm)
 split
 ·exact i64_zero
 ·exact (TmOk.at h n).2⟩ rfl
theorem TmOk.doSteps (code : Int) : ∀ (l : List Int) (s : MgS), TmOk s → TmOk (l.foldl (doStep code) s)
 | [], _, h => h
 | x :: l, s, h => TmOk.doSteps code l (doStep code s x) (by
  unfold doStep
  split
  ·exact TmOk.ends (s := { s with vs := applyNext s.blocks s.last0 s.vs (waitTx s x), last0 := applyLast s.blocks s.last0 (waitTx s x), last := (txOf s x).tm }) h x (by unfold I64; omega)
  ·exact h.ends x (by unfold I64; omega))
theorem TmOk.step {N : Nat} {s : MgS} (h : TmOk s) (g : MgG N s) (x : Step23) : TmOk (stDo s x) := by
 unfold stDo
 split
 ·unfold begNext; split
  ·intro t ht
   rcases List.mem_append.1 ht with ht | ht
   ·exact h t ht
   ·rw [List.mem_singleton] at ht
    subst ht
    show I64 (1 : Int) ∧ I64 (0 : Int)
    unfold I64; omega
  ·exact h
 split
 ·unfold rdNext; split
  ·exact h.put (n := x.h) (t := rdTx s (txOf s x.h) x.e) (h.at x.h) rfl
  ·exact h
 split
 ·unfold wrNext; split
  ·exact h.put (n := x.h) (t := { txOf s x.h with buf := bufNext s.blocks 16 (txOf s x.h).buf x.puts }) (h.at x.h) rfl
  ·exact h
 split
 ·unfold cmNext
  by_cases ho : openB s x.h = true
  ·rw [if_pos ho]
   obtain ⟨o1, o2, _⟩ := openB_iff.1 ho
   have hta := g.ta _ (txAt_mem o1 o2)
   have hlt := g.lt
   split
   ·exact TmOk.ends (s := setTx s x.h { txOf s x.h with tm := (txOf s x.h).at' }) (h.put (n := x.h) (t := { txOf s x.h with tm := (txOf s x.h).at' }) ⟨(h.at x.h).1, by
     show I64 (txAt s.txs x.h).at'
     unfold I64; omega⟩ rfl) x.h (by unfold I64; omega)
   ·split
    ·exact h.ends x.h (by unfold I64; omega)
    ·exact h.put (n := x.h) (t := { txOf s x.h with st := 2, tm := s.given + 1 }) ⟨by show I64 (2 : Int); unfold I64; omega, by show I64 (s.given + 1); unfold I64; omega⟩ rfl
  ·rw [if_neg ho]; exact h
 split
 ·unfold abNext; split
  ·exact h.ends x.h (by unfold I64; omega)
  ·exact h
 split
 ·unfold baNext; split <;> exact h
 split
 ·unfold doneNext; split
  ·exact h
  ·exact TmOk.doSteps x.n (s.queue.take s.out.toNat) s h
 split
 ·exact h
 split <;> exact h
theorem hist_i64 {N : Nat} {s : MgS} (h : TmOk s) (g : MgG N s) (x : Int) : I64 (histOf (txAt s.txs x)).state ∧ I64 (histOf (txAt s.txs x)).begun ∧ I64 (histOf (txAt s.txs x)).time ∧ I64 (histOf (txAt s.txs x)).since ∧ I64 (histOf (txAt s.txs x)).upto := by
 refine ⟨(h.at x).1, ?_, (h.at x).2, i64_zero, i64_zero⟩
 show I64 (txAt s.txs x).at'
 unfold txAt
 have hlt := g.lt
 cases hq : s.txs[(x - 1).toNat]? with
 | none => exact i64_zero
 | some t =>
  have := g.ta t (List.mem_of_getElem? hq)
  show I64 t.at'
  unfold I64; omega
end Go.Proofs
namespace Sc
open Go Go.RowKit
section
variable {α : Type} {T k : Nat} {R : (Nat → Prop) → World → List Value → α → Prop}
def OutA (T k : Nat) (R : (Nat → Prop) → World → List Value → α → Prop) (hR : RStable R) (v : Value) (l : List α) : Asn :=
 ⟨fun F w => ∃ D, OutS T k R 0 w v l D ∧ (∀ g, v.ownBlock = some g → F g) ∧ (∀ b, D b → F b), fun _ _ _ hs hz ⟨D, h1, h2, h3⟩ => ⟨D, h1.same hR hs hz h2 h3, h2, h3⟩⟩
end
def histR (D : Nat → Prop) (w : World) (cs : List Value) (x : Hist) : Prop := ∃ rv pv, cs = [.int .i64 x.state, .int .i64 x.begun, .int .i64 x.time, .int .i64 x.since, .int .i64 x.upto, rv, pv] ∧ (I64 x.state ∧ I64 x.begun ∧ I64 x.time ∧ I64 x.since ∧ I64 x.upto) ∧ ReadsAt D w rv x.reads ∧ PutsAt D w pv x.puts
theorem histR_stable : RStable histR := fun _ _ _ _ _ _ hd hs ⟨rv, pv, h1, h2, h3, h4⟩ => ⟨rv, pv, h1, h2, SlAt.mono (h3.same hs) hd (fun _ _ _ ⟨a1, a2, ⟨v, a3, a4⟩, a5⟩ => ⟨a1, a2, ⟨v, a3, a4.mono hd⟩, a5⟩), (h4.same hs).mono hd⟩
end Sc
namespace Go.Proofs
open Go.RowKit Sc
section
variable {W w : World} {L : List Asn} {i : Nat} {c : MgC} {s : MgS}
set_option maxRecDepth 100000 in
set_option maxHeartbeats 1000000 in
theorem history_far (h : Hid (Sep W (OL L i (mgrItems c s)) w)) (hc : c.cs.length = s.txs.length) (hi : i < L.length) {n : Int} (hn : ¬ (1 ≤ n ∧ n ≤ s.txs.length)) :
  Calls Tryz.prog 40 #[.pointer (some ⟨c.mb, 0, none⟩), .int .i64 n] w fun e w' => e = .returned (histV default none none 0 0) ∧ Hid (Below w.heap.size w w') := by
 have h' : Hid (Sep W (OL (L ++ [BoxA w.heap.size #[.int .i64 0, .int .i64 0, .int .i64 0, .int .i64 0, .int .i64 0, .slice none 0 0, .slice none 0 0] 73]) i (mgrItems c s)) (w.alloc (.cells #[.int .i64 0, .int .i64 0, .int .i64 0, .int .i64 0, .int .i64 0, .slice none 0 0, .slice none 0 0] 73))) := h.out.boxed hi _ _
 obtain ⟨c0, _, c2, _⟩ := mgr_cells h'.out
 have hl := (mgr_map h'.out).lookup Tryz.underlying104 Tryz.underlying3 (Tryz.zeroValue111 (w.alloc (.cells #[.int .i64 0, .int .i64 0, .int .i64 0, .int .i64 0, .int .i64 0, .slice none 0 0, .slice none 0 0] 73))) n true
 rw [look_ml_no (by rw [hc]; exact hn)] at hl
 simp only [Option.getD_none, Option.isSome_none, if_true] at hl
 have hnw := heap_alloc_new w (.cells #[.int .i64 0, .int .i64 0, .int .i64 0, .int .i64 0, .int .i64 0, .slice none 0 0, .slice none 0 0] 73)
 have HB := Lib.hid (below_alloc w (.cells #[.int .i64 0, .int .i64 0, .int .i64 0, .int .i64 0, .int .i64 0, .slice none 0 0, .slice none 0 0] 73))
 have HNW := Lib.hid hnw
 clear h h' hi hn hc hnw
 go_enter Tryz.func40, Tryz.ntmps40
 go_wp2_with fail
 refine (gone_any c.mb c.m _ c0).mono ?_
 rintro e w1 ⟨rfl, rfl⟩
 clear c0
 go_wp2_with fail
 (try simp only [Exit.inBlock, Exit.then])
 refine ret_cell_one rfl (b := w.heap.size) (t := 73) (fr := (0, 0)) rfl (cs := #[.int .i64 0, .int .i64 0, .int .i64 0, .int .i64 0, .int .i64 0, .slice none 0 0, .slice none 0 0]) ?_ (Tryz.underlying73) rfl (by kernel_rfl) rfl ?_
 ·exact HNW.out
 ·exact ⟨rfl, HB.out⟩
end
theorem mgHistory_all {W w : World} {L : List Asn} (h : Hid (Sep W L w)) (i : Nat) {b : Nat} {s : MgS} (hi : L[i]? = some (MgrA (pt b) s)) {n : Nat} (g : MgG n s) (hn : n ≤ 1000000) {hd : Int} (h1 : 1 ≤ hd) :
  Calls Tryz.prog 40 #[.pointer (some ⟨b, 0, none⟩), .int .i64 hd] w fun e w' => ∃ rp rc pp pc, e = .returned (histV (txAt s.txs hd) rp pp rc pc) ∧
   Hid (Sep W (L ++ [ReadsWA (.slice rp (txAt s.txs hd).R.length rc) (txAt s.txs hd).R, PutsWA (.slice pp (txAt s.txs hd).buf.length pc) (bufPuts (txAt s.txs hd).buf)]) w') := by
 have hil := (List.getElem?_eq_some_iff.1 hi).1
 by_cases h2 : hd ≤ s.txs.length
 ·refine (mgHistory_sep h i hi g hn h1 h2).mono ?_
  rintro e w' ⟨rp, rc, pp, pc, rfl, hS⟩
  rw [set_same (by rw [List.getElem?_append_left hil]; exact hi)] at hS
  exact ⟨rp, rc, pp, pc, rfl, hS⟩
 ·obtain ⟨c, e1, hc, hS, _⟩ := MgrA.open' h i hi
  cases e1
  have e0 : txAt s.txs hd = default := by
   unfold txAt
   rw [List.getElem?_eq_none (by omega)]; rfl
  rw [e0]
  refine (history_far hS hc hil (n := hd) (fun hh => h2 hh.2)).mono ?_
  rintro e w' ⟨rfl, hb⟩
  refine ⟨none, 0, none, 0, rfl, ?_⟩
  have h3 := (h.out.up hb.out).new (Below.refl _ _) (ReadsWA (.slice none 0 0) []) (F := fun _ => False) (fun _ h => h.elim) SlAt.nil
  have h4 := h3.new (Below.refl _ _) (PutsWA (.slice none 0 0) []) (F := fun _ => False) (fun _ h => h.elim) SlAt.nil
  rw [List.append_assoc] at h4
  have e1 : (bufPuts (default : TxS).buf) = [] := by show bufPuts [] = []; unfold bufPuts keysUp; simp
  rw [e1]
  exact h4
end Go.Proofs
namespace Sc
open Go Go.RowKit
theorem ReadsW.reads {G : Nat → Prop} {w : World} {v : Value} {l : List Sc.Read} (h : Go.Proofs.ReadsW G w v l) : ReadsAt G w v l :=
 SlAt.mono h (fun _ h => h) (fun _ _ _ ⟨h1, h2, ⟨v, h3, h4⟩, h5⟩ => ⟨h1, h2, ⟨v, h3, h4.bytes⟩, h5⟩)
theorem histR_mono {D D' : Nat → Prop} {w : World} {cs : List Value} {x : Hist} (h : histR D w cs x) (hd : ∀ k, D k → D' k) : histR D' w cs x := histR_stable D D' w w cs x hd (Same.refl _ _) h
def DatHs (css : List (List Value)) (l : List Hist) : Asn := ⟨fun F w => All2 (histR F w) css l, fun F w w' hs _ h => h.imp fun _ _ hb => histR_stable F F w w' _ _ (fun _ h => h) hs hb⟩
def PenHs (css : List (List Value)) (l : List Hist) (rv : Value) (rs : List Sc.Read) : Asn := ⟨fun F w => All2 (histR F w) css l ∧ ReadsAt F w rv rs, fun F w w' hs _ h => ⟨h.1.imp fun _ _ hb => histR_stable F F w w' _ _ (fun _ h => h) hs hb, h.2.same hs⟩⟩
theorem all2_snocH {α β : Type} {R : α → β → Prop} {a : α} {b : β} (h : R a b) : ∀ {l : List α} {m : List β}, All2 R l m → All2 R (l ++ [a]) (m ++ [b])
 | [], [], _ => ⟨h, trivial⟩
 | _ :: _, _ :: _, ⟨h1, h2⟩ => ⟨h1, all2_snocH h h2⟩
 | [], _ :: _, h' => h'.elim
 | _ :: _, [], h' => h'.elim
theorem Sep.hist_join {W w : World} {L : List Asn} {rv pv : Value} {rs : List Sc.Read} {ps : List Put} (h : Sep W (L ++ [Go.Proofs.ReadsWA rv rs, PutsWA pv ps]) w) (i : Nat) {css : List (List Value)} {l : List Hist} (hi : L[i]? = some (DatHs css l)) (x : Hist) (h1 : x.reads = rs) (h2 : x.puts = ps) (h3 : I64 x.state ∧ I64 x.begun ∧ I64 x.time ∧ I64 x.since ∧ I64 x.upto) :
  Sep W (L.set i (DatHs (css ++ [[.int .i64 x.state, .int .i64 x.begun, .int .i64 x.time, .int .i64 x.since, .int .i64 x.upto, rv, pv]]) (l ++ [x]))) w := by
 subst h1 h2
 have hil := (List.getElem?_eq_some_iff.1 hi).1
 have e1 : (L ++ [Go.Proofs.ReadsWA rv x.reads, PutsWA pv x.puts])[i]? = some (DatHs css l) := by rw [List.getElem?_append_left hil]; exact hi
 have e2 : (L ++ [Go.Proofs.ReadsWA rv x.reads, PutsWA pv x.puts])[L.length]? = some (Go.Proofs.ReadsWA rv x.reads) := by rw [List.getElem?_append_right (Nat.le_refl _), Nat.sub_self]; rfl
 obtain ⟨F, F2, G, hA, hB, _, _, _, _, _, _, K⟩ := h.both i L.length (by omega) e1 e2
 have k1 := K w (fun k => F k ∨ F2 k) (PenHs css l rv x.reads) (Chg.refl _ _) (fun k hk => .inl hk) ⟨All2.imp (fun _ _ (h : histR F w _ _) => histR_mono h fun _ h => .inl h) hA, SlAt.mono (ReadsW.reads hB) (fun _ h => .inr h) (fun _ _ _ ⟨a1, a2, ⟨v, a3, a4⟩, a5⟩ => ⟨a1, a2, ⟨v, a3, a4.mono fun _ h => .inr h⟩, a5⟩)⟩
 rw [List.set_append_right _ _ (Nat.le_refl _), Nat.sub_self] at k1
 change Sep W ((L ++ [TrueA, PutsWA pv x.puts]).set i (PenHs css l rv x.reads)) w at k1
 rw [List.set_append_left _ _ hil] at k1
 have hsl : (L.set i (PenHs css l rv x.reads)).length = L.length := List.length_set ..
 have e3 : (L.set i (PenHs css l rv x.reads) ++ [TrueA, PutsWA pv x.puts])[i]? = some (PenHs css l rv x.reads) := by rw [List.getElem?_append_left (by omega), List.getElem?_set_self hil]
 have e4 : (L.set i (PenHs css l rv x.reads) ++ [TrueA, PutsWA pv x.puts])[L.length + 1]? = some (PutsWA pv x.puts) := by
  rw [List.getElem?_append_right (by omega), hsl, show L.length + 1 - L.length = 1 by omega]; rfl
 obtain ⟨F3, F4, G', ⟨hC1, hC2⟩, hD, _, _, _, _, _, _, K'⟩ := k1.both i (L.length + 1) (by omega) e3 e4
 have k2 := K' w (fun k => F3 k ∨ F4 k) (DatHs (css ++ [[.int .i64 x.state, .int .i64 x.begun, .int .i64 x.time, .int .i64 x.since, .int .i64 x.upto, rv, pv]]) (l ++ [x])) (Chg.refl _ _) (fun k hk => .inl hk) (all2_snocH ⟨rv, pv, rfl, h3, SlAt.mono hC2 (fun _ h => .inl h) (fun _ _ _ ⟨a1, a2, ⟨v, a3, a4⟩, a5⟩ => ⟨a1, a2, ⟨v, a3, a4.mono fun _ h => .inl h⟩, a5⟩), PutsAt.mono (PutsW.puts hD) fun _ h => .inr h⟩ (All2.imp (fun _ _ (h : histR F3 w _ _) => histR_mono h fun _ h => .inl h) hC1))
 have k3 := k2.take L.length
 rw [List.set_append_right _ _ (by omega), hsl, show L.length + 1 - L.length = 1 by omega] at k3
 change Sep W (((L.set i (PenHs css l rv x.reads) ++ [TrueA, TrueA]).set i (DatHs (css ++ [[.int .i64 x.state, .int .i64 x.begun, .int .i64 x.time, .int .i64 x.since, .int .i64 x.upto, rv, pv]]) (l ++ [x]))).take L.length) w at k3
 rw [List.set_append_left _ _ (by omega), List.set_set, List.take_left' (by simp)] at k3
 exact k3
theorem hists_row {T n c : Nat} {p : Option Addr} {css : List (List Value)} {l : List Hist} {F D G : Foot} {w : World} (hr : (RowA T 7 (.slice p n c) n css.flatten).P F w) (hd : All2 (histR D w) css l) (hn : l.length = n) (hF : ∀ k, F k → G k) (hD : ∀ k, D k → G k) : HistsAt G w (.slice p n c) l := by
 subst hn
 have hc7 : ∀ cs ∈ css, cs.length = 7 := by
  intro cs hcs
  obtain ⟨i, hi, rfl⟩ := List.getElem_of_mem hcs
  obtain ⟨rv, pv, e, _⟩ := All2.get hd i hi (by rw [← All2.length hd]; exact hi)
  rw [e]; rfl
 obtain ⟨a3, h2⟩ := hr
 have hrow := a3
 have hll := All2.length hd
 obtain ⟨hx, hc | ⟨g, cap, cur, e, hb, hg, hnc, hcm, hcs, htake⟩⟩ := a3
 ·obtain ⟨e, hl0⟩ := hc
  obtain rfl : l = [] := List.length_eq_zero_iff.1 hl0
  rw [e]
  exact SlAt.nil
 ·cases e
  refine ⟨_, c, rfl, hnc, by unfold maxLen at hcm; omega, (by intro hh; cases hh), fun i hi => ⟨g, 0, rfl, hF _ (h2 g rfl), ?_⟩⟩
  have hi' : i < css.length := by omega
  obtain ⟨rv, pv, e1, e2, e3, e4⟩ := All2.get hd i hi' hi
  have hf : ∀ j, j < 7 → w.cell? ⟨g, 0 + i * 7 + j, none⟩ = css[i][j]? := fun j hj => by
   rw [Nat.zero_add, hrow.cellAt (i * 7 + j) (by omega)]
   exact flat_get hc7 i hi' j hj
  have f0 := hf 0 (by omega)
  rw [Nat.add_zero] at f0
  rw [e1] at hf f0
  have hr' : ReadsAt G w rv l[i].reads := SlAt.mono e3 hD (fun _ _ _ ⟨a1, a2, ⟨v, a3, a4⟩, a5⟩ => ⟨a1, a2, ⟨v, a3, a4.mono hD⟩, a5⟩)
  exact ⟨f0, hf 1 (by omega), hf 2 (by omega), hf 3 (by omega), hf 4 (by omega), e2, ⟨rv, hf 5 (by omega), hr'⟩, pv, hf 6 (by omega), e4.mono hD⟩
end Sc
namespace Go.Proofs
theorem infoHistR : (Tryz.prog.info? 73).map (fun i => (i.zero, i.size, i.bytes)) = some (some (.agg #[.int .i64 0, .int .i64 0, .int .i64 0, .int .i64 0, .int .i64 0, .slice none 0 0, .slice none 0 0]), 7, 88) := by kernel_rfl
end Go.Proofs