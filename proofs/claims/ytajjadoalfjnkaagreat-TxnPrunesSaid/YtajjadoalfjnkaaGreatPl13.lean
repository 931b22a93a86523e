/- Texts of this claim, one behind the other: RmDoes, RmSame23, RmPlays. -/
import Derived.Test.YtajjadoalfjnkaaGreatPl12

/- 'does': a step of both, which answer alike. -/
namespace Go.Proofs
open Go.RowKit Sc
def stDo (s : MgS) (x : Step23) : MgS :=
 if x.kind = 1 then begNext s else if x.kind = 2 then rdNext s x.h x.e else if x.kind = 3 then wrNext s x.h x.puts else if x.kind = 4 then cmNext s x.h else if x.kind = 5 then abNext s x.h else if x.kind = 6 then baNext s else if x.kind = 7 then doneNext s x.n else if x.kind = 8 then { s with ro := (Int.tmod x.n 2 != 0) } else if x.kind = 9 then prNext s else s
theorem rest_oldV {W w0 : World} {L : List Asn} {i : Nat} (hi : 0 ≠ i) {v : Value} {l : List Put} (hp : PutsAt (Old W) W v l) {G : Foot} (hR : Sc.Rest (OldA W :: L) i G w0) : PutsAt G w0 v l := by
 obtain ⟨F0, hF0, hO⟩ := hR 0 _ hi rfl
 exact (hp.same hO.2).mono fun q hq => hF0 q (hO.1 q hq)
theorem box_told {W w : World} {L : List Asn} (h : Hid (Sep W L w)) (i : Nat) {bx : Nat} {cs : Array Value} {T : TypeId} (hi : L[i]? = some (BoxA bx cs T)) (j : Nat) : w.cell? ⟨bx, j, none⟩ = cs[j]? := by
 obtain ⟨F, hF, _⟩ := h.out.get i hi
 rw [cell_row hF.2]
set_option maxRecDepth 100000 in
set_option maxHeartbeats 16000000 in
theorem does23_any {W wr : World} {a b : Nat} {s : MgS} {N : Nat} (HS : Hid (Sep W [OldA W, MgrA (pt a) s, RMgrA (pt b) s] wr)) (hg : MgG N s) (h8 : s.out ≤ 8) (hN : N ≤ 250000) (kd hh xf xl nn : Int) (pp : Option Addr) (pc : Nat) (ps : List Put) (hp : PutsAt (Old W) W (.slice pp ps.length pc) ps) (ih : I64 hh) (i1 : I64 xf) (i2 : I64 xl) (hpl : ps.length ≤ 400000) :
  Calls Tryz.prog 42 #[.pointer (some ⟨a, 0, none⟩), .pointer (some ⟨b, 0, none⟩), .agg #[.int .i64 kd, .int .i64 hh, .int .i64 xf, .int .i64 xl, .slice pp ps.length pc, .int .i64 nn]] wr fun e w' => e = .returned (.bool true) ∧ Hid (Sep W [OldA W, MgrA (pt a) (stDo s ⟨kd, hh, ⟨xf, xl⟩, ps, nn⟩), RMgrA (pt b) (stDo s ⟨kd, hh, ⟨xf, xl⟩, ps, nn⟩)] w') := by
 have HS6 := Lib.hid (HS.out.new (below_alloc wr (.cells #[.int .i64 kd, .int .i64 hh, .int .i64 xf, .int .i64 xl, .slice pp ps.length pc, .int .i64 nn] 68)) (BoxA wr.heap.size #[.int .i64 kd, .int .i64 hh, .int .i64 xf, .int .i64 xl, .slice pp ps.length pc, .int .i64 nn] 68) (F := New wr (wr.alloc (.cells #[.int .i64 kd, .int .i64 hh, .int .i64 xf, .int .i64 xl, .slice pp ps.length pc, .int .i64 nn] 68))) (fun _ h => h) ⟨⟨Nat.le_refl _, by simp⟩, heap_alloc_new wr _⟩)
 have HS6 : Hid (Sep W [OldA W, MgrA (pt a) s, RMgrA (pt b) s, BoxA wr.heap.size #[.int .i64 kd, .int .i64 hh, .int .i64 xf, .int .i64 xl, .slice pp ps.length pc, .int .i64 nn] 68] (wr.alloc (.cells #[.int .i64 kd, .int .i64 hh, .int .i64 xf, .int .i64 xl, .slice pp ps.length pc, .int .i64 nn] 68 (0, 0)))) := HS6
 have z0 := box_told HS6 3 rfl 0
 have z1 := box_told HS6 3 rfl 1
 have z2 := box_told HS6 3 rfl 2
 have z3 := box_told HS6 3 rfl 3
 have z4 := box_told HS6 3 rfl 4
 have z5 := box_told HS6 3 rfl 5
 change _ = some (Value.int .i64 kd) at z0
 change _ = some (Value.int .i64 hh) at z1
 change _ = some (Value.int .i64 xf) at z2
 change _ = some (Value.int .i64 xl) at z3
 change _ = some (Value.slice pp ps.length pc) at z4
 change _ = some (Value.int .i64 nn) at z5
 have HG := Lib.hid hg
 have HP := Lib.hid hp
 have I0 := Lib.hid ih
 have I1 := Lib.hid i1
 have I2 := Lib.hid i2
 have HO := Lib.hid h8
 have hqq := hg.qlenV
 have HQQ := Lib.hid hqq
 clear hg hp ih i1 i2 HS h8 hqq
 by_cases hk1 : kd = 1
 ·have HN : Hid (stDo s ⟨kd, hh, ⟨xf, xl⟩, ps, nn⟩ = begNext s) := by
   show _ = _
   unfold stDo
   rw [if_pos hk1]
  subst hk1
  have HA := Lib.hid (mgBegin_sep HS6 1 rfl HG.out)
  have ha1 : (begH s == begH s) = true := by simp
  have ha2 : (begC s == begC s) = true := by simp
  go_enter Tryz.func42, Tryz.ntmps42
  go_wp2_with fail
  refine (HA.out).mono ?_
  rintro e w7 ⟨rfl, HS7⟩
  have HB := Lib.hid (rmBegin_sep HS7 2 rfl HG.out (by omega))
  clear HA
  go_wp2_with fail
  refine (HB.out).mono ?_
  rintro e w8 ⟨rfl, HS8⟩
  have HS9 : Hid (Sep W [OldA W, MgrA (pt a) (begNext s), RMgrA (pt b) (begNext s)] w8) := HS8.out.take 3
  clear HB HS7 HS8 HS6 z0 z1 z2 z3 z4 z5
  generalize begH s = bh at *
  generalize begC s = bc at *
  go_wp2_with fail
  go_ret
  exact ⟨rfl, by rw [HN.out]; exact HS9⟩
 by_cases hk2 : kd = 2
 ·have HN : Hid (stDo s ⟨kd, hh, ⟨xf, xl⟩, ps, nn⟩ = rdNext s hh ⟨xf, xl⟩) := by
   show _ = _
   unfold stDo
   rw [if_neg hk1]; rw [if_pos hk2]
  subst hk2
  have HA := Lib.hid (mgRead_sep HS6 1 rfl HG.out (by omega) hh ⟨xf, xl⟩ I1.out I2.out)
  have ha1 : (rdCode s hh ⟨xf, xl⟩ == rdCode s hh ⟨xf, xl⟩) = true := by simp
  go_enter Tryz.func42, Tryz.ntmps42
  go_wp2_with fail
  refine (HA.out).mono ?_
  clear HA
  rintro e w7 (⟨hne, rfl, HS7⟩ | ⟨h0, gg, go, gc, rfl, HS7⟩)
  ·have y1 := box_told HS7 3 rfl 1
   have y2 := box_told HS7 3 rfl 2
   have y3 := box_told HS7 3 rfl 3
   change _ = some (Value.int .i64 hh) at y1
   change _ = some (Value.int .i64 xf) at y2
   change _ = some (Value.int .i64 xl) at y3
   have HB := Lib.hid (rmRead_sep HS7 2 rfl HG.out (by omega) hh I0.out ⟨xf, xl⟩ I1.out I2.out)
   have HNE := Lib.hid hne
   clear z0 z1 z2 z3 z4 z5 hne HS6
   go_wp2_with fail
   refine (HB.out).mono ?_
   clear HB
   rintro e w8 (⟨hne, rfl, HS8⟩ | ⟨h0, p, cp, rfl, HS8⟩)
   ·have HBY := Lib.hid (bytes_any (fun _ => True) (.slice none 0 0) (.slice none 0 0) [] [] w8 SlAt.nil SlAt.nil)
    clear hne y1 y2 y3
    go_wp2_with fail
    refine (HBY.out).mono ?_
    rintro e w9 ⟨rfl, hb9⟩
    have hs9 : Sep W [OldA W, MgrA (pt a) s, RMgrA (pt b) s] w9 := (HS8.out.up hb9).take 3
    have hns : rdNext s hh ⟨xf, xl⟩ = s := by unfold rdNext; rw [if_neg HNE.out]
    have HNS := Lib.hid hns
    have HS9 := Lib.hid hs9
    clear hs9
    clear HBY hb9 hns HS7 HS8
    generalize rdCode s hh ⟨xf, xl⟩ = rc at *
    go_wp2_with fail
    go_ret
    exact ⟨rfl, by rw [HN.out, HNS.out]; exact HS9⟩
   ·exact absurd h0 HNE.out
  ·have HS7 : Hid (Sep W [OldA W, MgrA (pt a) (rdNext s hh ⟨xf, xl⟩), RMgrA (pt b) s, BoxA wr.heap.size #[.int .i64 2, .int .i64 hh, .int .i64 xf, .int .i64 xl, .slice pp ps.length pc, .int .i64 nn] 68, BytesWA (.slice (some ⟨gg, go, none⟩) (40 * xl.toNat) gc) (rdOut s hh ⟨xf, xl⟩)] w7) := HS7
   have y1 := box_told HS7 3 rfl 1
   have y2 := box_told HS7 3 rfl 2
   have y3 := box_told HS7 3 rfl 3
   change _ = some (Value.int .i64 hh) at y1
   change _ = some (Value.int .i64 xf) at y2
   change _ = some (Value.int .i64 xl) at y3
   have HB := Lib.hid (rmRead_sep HS7 2 rfl HG.out (by omega) hh I0.out ⟨xf, xl⟩ I1.out I2.out)
   have H0 := Lib.hid h0
   clear z0 z1 z2 z3 z4 z5 h0 HS6
   go_wp2_with fail
   refine (HB.out).mono ?_
   clear HB
   rintro e w8 (⟨hne, rfl, HS8⟩ | ⟨h0, p, cp, rfl, HS8⟩)
   ·exact absurd H0.out hne
   ·have HS8 : Hid (Sep W [OldA W, MgrA (pt a) (rdNext s hh ⟨xf, xl⟩), RMgrA (pt b) (rdNext s hh ⟨xf, xl⟩), BoxA wr.heap.size #[.int .i64 2, .int .i64 hh, .int .i64 xf, .int .i64 xl, .slice pp ps.length pc, .int .i64 nn] 68, BytesWA (.slice (some ⟨gg, go, none⟩) (40 * xl.toNat) gc) (rdOut s hh ⟨xf, xl⟩), ByA (.slice p (rdOut s hh ⟨xf, xl⟩).length cp) (rdOut s hh ⟨xf, xl⟩)] w8) := HS8
    obtain ⟨F4, hF4, _⟩ := HS8.out.get 4 rfl
    obtain ⟨F5, hF5, _⟩ := HS8.out.get 5 rfl
    have HBY := Lib.hid (bytes_any (fun _ => True) _ _ _ _ w8 (BytesAt.mono (BytesW.bytes hF4) fun _ _ => trivial) (BytesAt.mono hF5 fun _ _ => trivial))
    clear h0 y1 y2 y3 hF4 hF5
    go_wp2_with fail
    refine (HBY.out).mono ?_
    rintro e w9 ⟨rfl, hb9⟩
    have hs9 : Sep W [OldA W, MgrA (pt a) (rdNext s hh ⟨xf, xl⟩), RMgrA (pt b) (rdNext s hh ⟨xf, xl⟩)] w9 := (HS8.out.up hb9).take 3
    have HS9 := Lib.hid hs9
    clear hs9
    clear HBY hb9 HS7 HS8
    rw [beq_self_eq_true]
    generalize rdCode s hh ⟨xf, xl⟩ = rc at *
    go_wp2_with fail
    go_ret
    exact ⟨rfl, by rw [HN.out]; exact HS9⟩
 by_cases hk3 : kd = 3
 ·have HN : Hid (stDo s ⟨kd, hh, ⟨xf, xl⟩, ps, nn⟩ = wrNext s hh ps) := by
   show _ = _
   unfold stDo
   rw [if_neg hk1]; rw [if_neg hk2]; rw [if_pos hk3]
  subst hk3
  have hcc : (wrCode s hh ps == wrCode s hh ps) = true := by simp
  have hd := HS6.out.up (below_drewN (Below.refl _ _) 1)
  have HD := Lib.hid hd
  have HA := Lib.hid (mgWrite_sep HD 1 rfl HG.out hh _ ps (fun G hR => rest_oldV (by decide) HP.out hR) (by omega))
  clear hd
  go_enter Tryz.func42, Tryz.ntmps42
  go_upto_region 11 with fail
  refine wp_regionG (fun W => W.cell? ⟨wr.heap.size, 1, none⟩ = some (.int .i64 hh) ∧ W.cell? ⟨wr.heap.size, 4, none⟩ = some (.slice pp ps.length pc)) (n := 14) (by kernel_rfl) (by kernel_rfl) ?_
  refine wpG.tk 0 ?_
  refine wpG.tk 1 ?_
  refine wpG.tk 2 ?_ (hy := by intro W hW; have hld0 := hW.1; go_simp; try with_reducible rfl)
  refine wpG.tk 3 ?_
  refine wpG.tk 4 ?_ (hy := by intro W hW; have hld0 := hW.2; go_simp; try with_reducible rfl)
  refine wpG.tk 6 ?_
  refine wpG.tk 7 ?_
  refine wpG.tk 8 ?_ (hy := by intro W hW; have hld0 := hW.1; go_simp; try with_reducible rfl)
  refine wpG.tk 9 ?_
  refine wpG.tk 10 ?_ (hy := by intro W hW; have hld0 := hW.2; go_simp; try with_reducible rfl)
  refine wpG.alone 5 rfl (by kernel_rfl) (by kernel_rfl) ⟨z1, z4⟩ (fun K hK => ?_)
  go_simp
  go_at_call 20
  refine (HA.out).mono ?_
  rintro e w7 ⟨rfl, HS7⟩
  have y1 := box_told HS7 3 rfl 1
  have y4 := box_told HS7 3 rfl 4
  have y5 := box_told HS7 3 rfl 5
  change _ = some (Value.int .i64 hh) at y1
  change _ = some (Value.slice pp ps.length pc) at y4
  change _ = some (Value.int .i64 nn) at y5
  have HB := Lib.hid (rmWrite_sep HS7 2 rfl HG.out (by omega) hh I0.out _ ps (fun G hR => rest_oldV (by decide) HP.out hR) hpl)
  clear HA HS6 HD z0 z1 z2 z3 z4 z5
  try go_simp
  refine hK _ _ ?_
  clear hK K
  refine wpG.alone 11 rfl (by kernel_rfl) (by kernel_rfl) ⟨y1, y4⟩ (fun K hK => ?_)
  go_simp
  go_at_call 81
  refine (HB.out).mono ?_
  rintro e w8 ⟨rfl, HS8⟩
  have x1 := box_told HS8 3 rfl 1
  have x4 := box_told HS8 3 rfl 4
  have x5 := box_told HS8 3 rfl 5
  change _ = some (Value.int .i64 hh) at x1
  change _ = some (Value.slice pp ps.length pc) at x4
  change _ = some (Value.int .i64 nn) at x5
  have HS9 : Hid (Sep W [OldA W, MgrA (pt a) (wrNext s hh ps), RMgrA (pt b) (wrNext s hh ps)] w8) := HS8.out.take 3
  clear HB HS7 HS8
  generalize wrCode s hh ps = cc at *
  try go_simp
  refine hK _ _ ?_
  clear hK K
  refine wpG.tk 12 ?_
  refine wpG.tk 13 ?_
  refine wpG.done (by kernel_rfl) ⟨x1, x4⟩ ?_
  clear y1 y4 y5 x1 x4 x5
  go_wp2_with fail
  go_ret
  exact ⟨rfl, by rw [HN.out]; exact HS9⟩
 by_cases hk4 : kd = 4
 ·have HN : Hid (stDo s ⟨kd, hh, ⟨xf, xl⟩, ps, nn⟩ = cmNext s hh) := by
   show _ = _
   unfold stDo
   rw [if_neg hk1]; rw [if_neg hk2]; rw [if_neg hk3]; rw [if_pos hk4]
  subst hk4
  have hcc : (cmCode s hh == cmCode s hh) = true := by simp
  have hd := HS6.out.up (below_drewN (Below.refl _ _) 1)
  have HD := Lib.hid hd
  have HA := Lib.hid (mgCommit_sep HD 1 rfl HG.out (by have := HQQ.out; omega) hh)
  clear hd
  go_enter Tryz.func42, Tryz.ntmps42
  go_upto_region 13 with fail
  refine wp_regionG (fun W => W.cell? ⟨wr.heap.size, 1, none⟩ = some (.int .i64 hh)) (n := 10) (by kernel_rfl) (by kernel_rfl) ?_
  refine wpG.tk 0 ?_
  refine wpG.tk 1 ?_
  refine wpG.tk 2 ?_ (hy := by intro W hW; have hld0 := hW; go_simp; try with_reducible rfl)
  refine wpG.tk 4 ?_
  refine wpG.tk 5 ?_
  refine wpG.tk 6 ?_ (hy := by intro W hW; have hld0 := hW; go_simp; try with_reducible rfl)
  refine wpG.alone 3 rfl (by kernel_rfl) (by kernel_rfl) z1 (fun K hK => ?_)
  go_simp
  go_at_call 22
  refine (HA.out).mono ?_
  rintro e w7 ⟨rfl, HS7⟩
  have y1 := box_told HS7 3 rfl 1
  have y4 := box_told HS7 3 rfl 4
  have y5 := box_told HS7 3 rfl 5
  change _ = some (Value.int .i64 hh) at y1
  change _ = some (Value.slice pp ps.length pc) at y4
  change _ = some (Value.int .i64 nn) at y5
  have HB := Lib.hid (rmCommit_sep HS7 2 rfl HG.out (by omega) hh I0.out)
  clear HA HS6 HD z0 z1 z2 z3 z4 z5
  try go_simp
  refine hK _ _ ?_
  clear hK K
  refine wpG.alone 7 rfl (by kernel_rfl) (by kernel_rfl) y1 (fun K hK => ?_)
  go_simp
  go_at_call 82
  refine (HB.out).mono ?_
  rintro e w8 ⟨rfl, HS8⟩
  have x1 := box_told HS8 3 rfl 1
  have x4 := box_told HS8 3 rfl 4
  have x5 := box_told HS8 3 rfl 5
  change _ = some (Value.int .i64 hh) at x1
  change _ = some (Value.slice pp ps.length pc) at x4
  change _ = some (Value.int .i64 nn) at x5
  have HS9 : Hid (Sep W [OldA W, MgrA (pt a) (cmNext s hh), RMgrA (pt b) (cmNext s hh)] w8) := HS8.out.take 3
  clear HB HS7 HS8
  generalize cmCode s hh = cc at *
  try go_simp
  refine hK _ _ ?_
  clear hK K
  refine wpG.tk 8 ?_
  refine wpG.tk 9 ?_
  refine wpG.done (by kernel_rfl) x1 ?_
  clear y1 y4 y5 x1 x4 x5
  go_wp2_with fail
  go_ret
  exact ⟨rfl, by rw [HN.out]; exact HS9⟩
 by_cases hk5 : kd = 5
 ·have HN : Hid (stDo s ⟨kd, hh, ⟨xf, xl⟩, ps, nn⟩ = abNext s hh) := by
   show _ = _
   unfold stDo
   rw [if_neg hk1]; rw [if_neg hk2]; rw [if_neg hk3]; rw [if_neg hk4]; rw [if_pos hk5]
  subst hk5
  have hcc : (abCode s hh == abCode s hh) = true := by simp
  have hd := HS6.out.up (below_drewN (Below.refl _ _) 1)
  have HD := Lib.hid hd
  have HA := Lib.hid (mgAbort_sep HD 1 rfl hh)
  clear hd
  go_enter Tryz.func42, Tryz.ntmps42
  go_upto_region 15 with fail
  refine wp_regionG (fun W => W.cell? ⟨wr.heap.size, 1, none⟩ = some (.int .i64 hh)) (n := 10) (by kernel_rfl) (by kernel_rfl) ?_
  refine wpG.tk 0 ?_
  refine wpG.tk 1 ?_
  refine wpG.tk 2 ?_ (hy := by intro W hW; have hld0 := hW; go_simp; try with_reducible rfl)
  refine wpG.tk 4 ?_
  refine wpG.tk 5 ?_
  refine wpG.tk 6 ?_ (hy := by intro W hW; have hld0 := hW; go_simp; try with_reducible rfl)
  refine wpG.alone 3 rfl (by kernel_rfl) (by kernel_rfl) z1 (fun K hK => ?_)
  go_simp
  go_at_call 24
  refine (HA.out).mono ?_
  rintro e w7 ⟨rfl, HS7⟩
  have y1 := box_told HS7 3 rfl 1
  have y4 := box_told HS7 3 rfl 4
  have y5 := box_told HS7 3 rfl 5
  change _ = some (Value.int .i64 hh) at y1
  change _ = some (Value.slice pp ps.length pc) at y4
  change _ = some (Value.int .i64 nn) at y5
  have HB := Lib.hid (rmAbort_sep HS7 2 rfl HG.out (by omega) hh I0.out)
  clear HA HS6 HD z0 z1 z2 z3 z4 z5
  try go_simp
  refine hK _ _ ?_
  clear hK K
  refine wpG.alone 7 rfl (by kernel_rfl) (by kernel_rfl) y1 (fun K hK => ?_)
  go_simp
  go_at_call 83
  refine (HB.out).mono ?_
  rintro e w8 ⟨rfl, HS8⟩
  have x1 := box_told HS8 3 rfl 1
  have x4 := box_told HS8 3 rfl 4
  have x5 := box_told HS8 3 rfl 5
  change _ = some (Value.int .i64 hh) at x1
  change _ = some (Value.slice pp ps.length pc) at x4
  change _ = some (Value.int .i64 nn) at x5
  have HS9 : Hid (Sep W [OldA W, MgrA (pt a) (abNext s hh), RMgrA (pt b) (abNext s hh)] w8) := HS8.out.take 3
  clear HB HS7 HS8
  generalize abCode s hh = cc at *
  try go_simp
  refine hK _ _ ?_
  clear hK K
  refine wpG.tk 8 ?_
  refine wpG.tk 9 ?_
  refine wpG.done (by kernel_rfl) x1 ?_
  clear y1 y4 y5 x1 x4 x5
  go_wp2_with fail
  go_ret
  exact ⟨rfl, by rw [HN.out]; exact HS9⟩
 by_cases hk6 : kd = 6
 ·have HN : Hid (stDo s ⟨kd, hh, ⟨xf, xl⟩, ps, nn⟩ = baNext s) := by
   show _ = _
   unfold stDo
   rw [if_neg hk1]; rw [if_neg hk2]; rw [if_neg hk3]; rw [if_neg hk4]; rw [if_neg hk5]; rw [if_pos hk6]
  subst hk6
  have HA := Lib.hid (mgBatch_sep HS6 1 rfl HG.out (by have := HQQ.out; omega) (by omega))
  have ha1 : (baCode s == baCode s) = true := by simp
  go_enter Tryz.func42, Tryz.ntmps42
  go_wp2_with fail
  refine (HA.out).mono ?_
  clear HA
  rintro e w7 (⟨hne, rfl, HS7⟩ | ⟨h0, p1, cp1, rfl, HS7⟩)
  ·have hns : baNext s = s := by unfold baNext; rw [if_neg hne]
   have hs8 := HS7.out.new (below_alloc w7 (.cells #[.int .i64 0, .slice none 0 0] 42)) (BoxA w7.heap.size #[.int .i64 0, .slice none 0 0] 42) (F := New w7 (w7.alloc (.cells #[.int .i64 0, .slice none 0 0] 42))) (fun _ h => h) ⟨⟨Nat.le_refl _, by simp⟩, heap_alloc_new w7 _⟩
   have HS8A : Hid (Sep W [OldA W, MgrA (pt a) s, RMgrA (pt b) s, BoxA wr.heap.size #[.int .i64 6, .int .i64 hh, .int .i64 xf, .int .i64 xl, .slice pp ps.length pc, .int .i64 nn] 68, BoxA w7.heap.size #[.int .i64 0, .slice none 0 0] 42] (w7.alloc (.cells #[.int .i64 0, .slice none 0 0] 42 (0, 0)))) := hs8
   have HB := Lib.hid (rmBatch_sep HS8A 2 rfl HG.out (by omega))
   have HNE := Lib.hid hne
   have HNS := Lib.hid hns
   clear z0 z1 z2 z3 z4 z5 hne HS6 hs8 hns
   go_wp2_with fail
   refine (HB.out).mono ?_
   clear HB
   rintro e w8 (⟨hne, rfl, HS8⟩ | ⟨h0, p, cp, rfl, HS8, _⟩)
   ·have hz8 := box_told HS8 4 rfl
    have v0 := hz8 0
    have v1 := hz8 1
    change _ = some (Value.int .i64 0) at v0
    change _ = some (Value.slice none 0 0) at v1
    have hba := below_alloc w8 (.cells #[.int .i64 0, .slice none 0 0] 42 (0, 0))
    have hnw := heap_alloc_new w8 (.cells #[.int .i64 0, .slice none 0 0] 42 (0, 0))
    have u0 := cell_up hba v0
    have u1 := cell_up hba v1
    have t0 : (w8.alloc (.cells #[.int .i64 0, .slice none 0 0] 42 (0, 0))).cell? ⟨w8.heap.size, 0, none⟩ = some (.int .i64 0) := by rw [cell_row hnw]; rfl
    have t1 : (w8.alloc (.cells #[.int .i64 0, .slice none 0 0] 42 (0, 0))).cell? ⟨w8.heap.size, 1, none⟩ = some (.slice none 0 0) := by rw [cell_row hnw]; rfl
    have HSB := Lib.hid (sameBatch_eq (fun _ => False) 0 (.slice none 0 0) (.slice none 0 0) [] (w8.alloc (.cells #[.int .i64 0, .slice none 0 0] 42 (0, 0))) (fun _ h => h.elim) SlAt.nil SlAt.nil (Nat.zero_le _))
    have HBA := Lib.hid hba
    clear hne hz8 v0 v1 hnw hba
    go_wp2_with fail
    refine (HSB.out).mono ?_
    rintro e w9 ⟨rfl, hb9⟩
    have hs9 : Sep W [OldA W, MgrA (pt a) s, RMgrA (pt b) (baNext s)] w9 := (HS8.out.up (Below.up HBA.out hb9)).take 3
    rw [HNS.out] at hs9
    have HS9 := Lib.hid hs9
    clear hs9
    clear HSB hb9 HS7 HS8 HS8A u0 u1 t0 t1
    generalize baCode s = rc at *
    go_wp2_with fail
    go_ret
    exact ⟨rfl, by rw [HN.out, HNS.out]; exact HS9⟩
   ·exact absurd h0 HNE.out
  ·have hs8 := HS7.out.new (below_alloc w7 (.cells #[.int .i64 (s.num + 1), .slice p1 (formN (waitL s)) cp1] 42)) (BoxA w7.heap.size #[.int .i64 (s.num + 1), .slice p1 (formN (waitL s)) cp1] 42) (F := New w7 (w7.alloc (.cells #[.int .i64 (s.num + 1), .slice p1 (formN (waitL s)) cp1] 42))) (fun _ h => h) ⟨⟨Nat.le_refl _, by simp⟩, heap_alloc_new w7 _⟩
   have HS8A : Hid (Sep W [OldA W, MgrA (pt a) (baNext s), RMgrA (pt b) s, BoxA wr.heap.size #[.int .i64 6, .int .i64 hh, .int .i64 xf, .int .i64 xl, .slice pp ps.length pc, .int .i64 nn] 68, TxsA (.slice p1 (formN (waitL s)) cp1) ((waitL s).take (formN (waitL s))), BoxA w7.heap.size #[.int .i64 (s.num + 1), .slice p1 (formN (waitL s)) cp1] 42] (w7.alloc (.cells #[.int .i64 (s.num + 1), .slice p1 (formN (waitL s)) cp1] 42 (0, 0)))) := hs8
   have HB := Lib.hid (rmBatch_sep HS8A 2 rfl HG.out (by omega))
   have H0 := Lib.hid h0
   clear z0 z1 z2 z3 z4 z5 h0 HS6 hs8
   go_wp2_with fail
   refine (HB.out).mono ?_
   clear HB
   rintro e w8 (⟨hne, rfl, HS8⟩ | ⟨h0, p2, cp2, rfl, HS8, HT2⟩)
   ·exact absurd H0.out hne
   ·have HS8 : Hid (Sep W [OldA W, MgrA (pt a) (baNext s), RMgrA (pt b) (baNext s), BoxA wr.heap.size #[.int .i64 6, .int .i64 hh, .int .i64 xf, .int .i64 xl, .slice pp ps.length pc, .int .i64 nn] 68, TxsA (.slice p1 (formN (waitL s)) cp1) ((waitL s).take (formN (waitL s))), BoxA w7.heap.size #[.int .i64 (s.num + 1), .slice p1 (formN (waitL s)) cp1] 42] w8) := HS8
    obtain ⟨F4, hF4, hD4⟩ := HS8.out.get 4 rfl
    have hT1 : TxsAt (fun q => q < w8.heap.size) w8 (.slice p1 (formN (waitL s)) cp1) ((waitL s).take (formN (waitL s))) := TxsAt.mono hF4 hD4
    have hz8 := box_told HS8 5 rfl
    have v0 := hz8 0
    have v1 := hz8 1
    change _ = some (Value.int .i64 (s.num + 1)) at v0
    change _ = some (Value.slice p1 (formN (waitL s)) cp1) at v1
    have hba := below_alloc w8 (.cells #[.int .i64 (s.num + 1), .slice p2 (formN (waitL s)) cp2] 42 (0, 0))
    have hnw := heap_alloc_new w8 (.cells #[.int .i64 (s.num + 1), .slice p2 (formN (waitL s)) cp2] 42 (0, 0))
    have u0 := cell_up hba v0
    have u1 := cell_up hba v1
    have t0 : (w8.alloc (.cells #[.int .i64 (s.num + 1), .slice p2 (formN (waitL s)) cp2] 42 (0, 0))).cell? ⟨w8.heap.size, 0, none⟩ = some (.int .i64 (s.num + 1)) := by rw [cell_row hnw]; rfl
    have t1 : (w8.alloc (.cells #[.int .i64 (s.num + 1), .slice p2 (formN (waitL s)) cp2] 42 (0, 0))).cell? ⟨w8.heap.size, 1, none⟩ = some (.slice p2 (formN (waitL s)) cp2) := by rw [cell_row hnw]; rfl
    have hup : ∀ {v : Value} {l : List Tx}, TxsAt (fun q => q < w8.heap.size) w8 v l → TxsAt (fun q => q < w8.heap.size) (w8.alloc (.cells #[.int .i64 (s.num + 1), .slice p2 (formN (waitL s)) cp2] 42 (0, 0))) v l := fun h => TxsAt.same h fun q hq => hba.block q hq
    have HSB := Lib.hid (sameBatch_eq (fun q => q < w8.heap.size) (s.num + 1) _ _ _ (w8.alloc (.cells #[.int .i64 (s.num + 1), .slice p2 (formN (waitL s)) cp2] 42 (0, 0))) (fun q hq => Nat.lt_of_lt_of_le hq hba.size) (hup hT1) (hup HT2.out) (by rw [List.length_take, waitL_len]; have := HQQ.out; omega))
    have HBA := Lib.hid hba
    clear h0 hz8 v0 v1 hnw hba hup hF4 hD4 hT1 HT2
    go_wp2_with fail
    refine (HSB.out).mono ?_
    rintro e w9 ⟨rfl, hb9⟩
    have hs9 : Sep W [OldA W, MgrA (pt a) (baNext s), RMgrA (pt b) (baNext s)] w9 := (HS8.out.up (Below.up HBA.out hb9)).take 3
    have HS9 := Lib.hid hs9
    clear hs9
    clear HSB hb9 HS7 HS8 HS8A u0 u1 t0 t1
    generalize baCode s = rc at *
    go_wp2_with fail
    go_ret
    exact ⟨rfl, by rw [HN.out]; exact HS9⟩
 by_cases hk7 : kd = 7
 ·have HN : Hid (stDo s ⟨kd, hh, ⟨xf, xl⟩, ps, nn⟩ = doneNext s nn) := by
   show _ = _
   unfold stDo
   rw [if_neg hk1]; rw [if_neg hk2]; rw [if_neg hk3]; rw [if_neg hk4]; rw [if_neg hk5]; rw [if_neg hk6]; rw [if_pos hk7]
  subst hk7
  have hcc : (doneCode s == doneCode s) = true := by simp
  have hd := HS6.out.up (below_drewN (Below.refl _ _) 1)
  have HD := Lib.hid hd
  have HA := Lib.hid (mgDone_sep HD 1 rfl HG.out (by have := HQQ.out; omega) (by omega) HO.out nn)
  clear hd
  go_enter Tryz.func42, Tryz.ntmps42
  go_upto_region 21 with fail
  refine wp_regionG (fun W => W.cell? ⟨wr.heap.size, 5, none⟩ = some (.int .i64 nn)) (n := 10) (by kernel_rfl) (by kernel_rfl) ?_
  refine wpG.tk 0 ?_
  refine wpG.tk 1 ?_
  refine wpG.tk 2 ?_ (hy := by intro W hW; have hld0 := hW; go_simp; try with_reducible rfl)
  refine wpG.tk 4 ?_
  refine wpG.tk 5 ?_
  refine wpG.tk 6 ?_ (hy := by intro W hW; have hld0 := hW; go_simp; try with_reducible rfl)
  refine wpG.alone 3 rfl (by kernel_rfl) (by kernel_rfl) z5 (fun K hK => ?_)
  go_simp
  go_at_call 28
  refine (HA.out).mono ?_
  rintro e w7 ⟨rfl, HS7⟩
  have y1 := box_told HS7 3 rfl 1
  have y4 := box_told HS7 3 rfl 4
  have y5 := box_told HS7 3 rfl 5
  change _ = some (Value.int .i64 hh) at y1
  change _ = some (Value.slice pp ps.length pc) at y4
  change _ = some (Value.int .i64 nn) at y5
  have HB := Lib.hid (rmDone_sep HS7 2 rfl HG.out (by omega) HO.out nn)
  clear HA HS6 HD z0 z1 z2 z3 z4 z5
  try go_simp
  refine hK _ _ ?_
  clear hK K
  refine wpG.alone 7 rfl (by kernel_rfl) (by kernel_rfl) y5 (fun K hK => ?_)
  go_simp
  go_at_call 86
  refine (HB.out).mono ?_
  rintro e w8 ⟨rfl, HS8⟩
  have x1 := box_told HS8 3 rfl 1
  have x4 := box_told HS8 3 rfl 4
  have x5 := box_told HS8 3 rfl 5
  change _ = some (Value.int .i64 hh) at x1
  change _ = some (Value.slice pp ps.length pc) at x4
  change _ = some (Value.int .i64 nn) at x5
  have HS9 : Hid (Sep W [OldA W, MgrA (pt a) (doneNext s nn), RMgrA (pt b) (doneNext s nn)] w8) := HS8.out.take 3
  clear HB HS7 HS8
  generalize doneCode s = cc at *
  try go_simp
  refine hK _ _ ?_
  clear hK K
  refine wpG.tk 8 ?_
  refine wpG.tk 9 ?_
  refine wpG.done (by kernel_rfl) x5 ?_
  clear y1 y4 y5 x1 x4 x5
  go_wp2_with fail
  go_ret
  exact ⟨rfl, by rw [HN.out]; exact HS9⟩
 by_cases hk8 : kd = 8
 ·have HN : Hid (stDo s ⟨kd, hh, ⟨xf, xl⟩, ps, nn⟩ = { s with ro := (Int.tmod nn 2 != 0) }) := by
   show _ = _
   unfold stDo
   rw [if_neg hk1]; rw [if_neg hk2]; rw [if_neg hk3]; rw [if_neg hk4]; rw [if_neg hk5]; rw [if_neg hk6]; rw [if_neg hk7]; rw [if_pos hk8]
  subst hk8
  have HA := Lib.hid (mgReadOnly_sep HS6 1 rfl (Int.tmod nn 2 != 0))
  go_enter Tryz.func42, Tryz.ntmps42
  go_wp2_with fail
  refine (HA.out).mono ?_
  rintro e w7 ⟨rfl, HS7⟩
  have y5 := box_told HS7 3 rfl 5
  change _ = some (Value.int .i64 nn) at y5
  obtain ⟨m12, f12, HS8⟩ := rm_ro HS7 2 rfl (Int.tmod nn 2 != 0)
  have HS9 : Hid (Sep W [OldA W, MgrA (pt a) { s with ro := (Int.tmod nn 2 != 0) }, RMgrA (pt b) { s with ro := (Int.tmod nn 2 != 0) }] (w7.setCell ⟨b, 12, none⟩ (.bool (Int.tmod nn 2 != 0)))) := HS8.out.take 3
  clear HA HS7 HS8 HS6 z0 z1 z2 z3 z4 z5
  go_wp2_with fail
  go_ret
  exact ⟨rfl, by rw [HN.out]; exact HS9⟩
 by_cases hk9 : kd = 9
 ·have HN : Hid (stDo s ⟨kd, hh, ⟨xf, xl⟩, ps, nn⟩ = prNext s) := by
   show _ = _
   unfold stDo
   rw [if_neg hk1]; rw [if_neg hk2]; rw [if_neg hk3]; rw [if_neg hk4]; rw [if_neg hk5]; rw [if_neg hk6]; rw [if_neg hk7]; rw [if_neg hk8]; rw [if_pos hk9]
  subst hk9
  have HA := Lib.hid (mgPrune_sep HS6 1 rfl HG.out (by omega))
  generalize hpv : nVers s.vs - nVers (pruneVs (prH s) s.vs) = pv9 at *
  have ha1 : ((pv9 : Int) == (pv9 : Int)) = true := by simp
  go_enter Tryz.func42, Tryz.ntmps42
  go_wp2_with fail
  refine (HA.out).mono ?_
  rintro e w7 ⟨rfl, HS7⟩
  have HB := Lib.hid (rmPrune_sep HS7 2 rfl HG.out (by omega))
  rw [hpv] at HB
  clear HA
  go_wp2_with fail
  refine (HB.out).mono ?_
  rintro e w8 ⟨rfl, HS8⟩
  have HS9 : Hid (Sep W [OldA W, MgrA (pt a) (prNext s), RMgrA (pt b) (prNext s)] w8) := HS8.out.take 3
  clear HB HS7 HS8 HS6 z0 z1 z2 z3 z4 z5 hpv
  go_wp2_with fail
  go_ret
  exact ⟨rfl, by rw [HN.out]; exact HS9⟩
 have HN : Hid (stDo s ⟨kd, hh, ⟨xf, xl⟩, ps, nn⟩ = s) := by
  show _ = _
  unfold stDo
  rw [if_neg hk1, if_neg hk2, if_neg hk3, if_neg hk4, if_neg hk5, if_neg hk6, if_neg hk7, if_neg hk8, if_neg hk9]
 have hb1 : (kd == 1) = false := by rw [beq_eq_false_iff_ne]; exact hk1
 have hb2 : (kd == 2) = false := by rw [beq_eq_false_iff_ne]; exact hk2
 have hb3 : (kd == 3) = false := by rw [beq_eq_false_iff_ne]; exact hk3
 have hb4 : (kd == 4) = false := by rw [beq_eq_false_iff_ne]; exact hk4
 have hb5 : (kd == 5) = false := by rw [beq_eq_false_iff_ne]; exact hk5
 have hb6 : (kd == 6) = false := by rw [beq_eq_false_iff_ne]; exact hk6
 have hb7 : (kd == 7) = false := by rw [beq_eq_false_iff_ne]; exact hk7
 have hb8 : (kd == 8) = false := by rw [beq_eq_false_iff_ne]; exact hk8
 have hb9 : (kd == 9) = false := by rw [beq_eq_false_iff_ne]; exact hk9
 have HS9 : Hid (Sep W [OldA W, MgrA (pt a) s, RMgrA (pt b) s] (wr.alloc (.cells #[.int .i64 kd, .int .i64 hh, .int .i64 xf, .int .i64 xl, .slice pp ps.length pc, .int .i64 nn] 68 (0, 0)))) := HS6.out.take 3
 clear hk1 hk2 hk3 hk4 hk5 hk6 hk7 hk8 hk9
 go_enter Tryz.func42, Tryz.ntmps42
 go_wp2
 go_ret
 exact ⟨rfl, by rw [HN.out]; exact HS9⟩
end Go.Proofs

/- 'same': both answer alike. -/
namespace Go.Proofs
open Go.RowKit Sc
section
variable {W w : World} {L : List Asn}
theorem mgOpen_below (h : Hid (Sep W L w)) (i : Nat) {b : Nat} {s : MgS} (hi : L[i]? = some (MgrA (pt b) s)) {n : Nat} (g : MgG n s) :
  Calls Tryz.prog 26 #[.pointer (some ⟨b, 0, none⟩)] w fun e w' => e = .returned (.int .i64 s.tmb.length) ∧ Hid (Below w.heap.size w w') := by
 obtain ⟨c, rfl, hc, hS, hil⟩ := MgrA.open' h i hi
 refine (count_core hS g.kd.ln).mono ?_
 rintro e w' ⟨rfl, hb⟩
 exact ⟨rfl, Lib.hid hb⟩
theorem mgVersions_below (h : Hid (Sep W L w)) (i : Nat) {b : Nat} {s : MgS} (hi : L[i]? = some (MgrA (pt b) s)) {n : Nat} (g : MgG n s) (hn : n ≤ 1000000) :
  Calls Tryz.prog 43 #[.pointer (some ⟨b, 0, none⟩)] w fun e w' => e = .returned (.int .i64 (nVers s.vs)) ∧ Hid (Below w.heap.size w w') := by
 obtain ⟨c, rfl, hc, hS, hil⟩ := MgrA.open' h i hi
 refine (versions_core hS g.b1 (by have := g.nv; omega)).mono ?_
 rintro e w' ⟨rfl, hb⟩
 exact ⟨rfl, Lib.hid hb⟩
theorem mgResult_below (h : Hid (Sep W L w)) (i : Nat) {b : Nat} {s : MgS} (hi : L[i]? = some (MgrA (pt b) s)) (hd : Int) :
  Calls Tryz.prog 23 #[.pointer (some ⟨b, 0, none⟩), .int .i64 hd] w fun e w' => e = .returned (.tuple #[.int .i64 (resOf s hd).1, .int .i64 (resOf s hd).2.1, .int .i64 (resOf s hd).2.2]) ∧ Hid (Below w.heap.size w w') := by
 obtain ⟨c, rfl, hc, hS, hil⟩ := MgrA.open' h i hi
 refine (result_core hS hc hd).mono ?_
 rintro e w' ⟨rfl, hb⟩
 exact ⟨rfl, Lib.hid hb⟩
end
set_option maxRecDepth 100000 in
set_option maxHeartbeats 8000000 in
theorem same23_any {W wr : World} {a b : Nat} {s : MgS} {N : Nat} (HS : Hid (Sep W [OldA W, MgrA (pt a) s, RMgrA (pt b) s] wr)) (hg : MgG N s) (hN : N ≤ 250000) (hh : Int) (ih : I64 hh) :
  Calls Tryz.prog 49 #[.pointer (some ⟨a, 0, none⟩), .pointer (some ⟨b, 0, none⟩), .int .i64 hh] wr fun e w' => e = .returned (.bool true) ∧ Hid (Sep W [OldA W, MgrA (pt a) s, RMgrA (pt b) s] w') := by
 have HR := Lib.hid (mgResult_below HS 1 rfl hh)
 have HG := Lib.hid hg
 clear hg
 obtain ⟨⟨r1, r2, r3⟩, hr⟩ : ∃ r, resOf s hh = r := ⟨_, rfl⟩
 rw [hr] at HR
 have q1 : (r1 == r1) = true := by simp
 have q2 : (r2 == r2) = true := by simp
 have q3 : (r3 == r3) = true := by simp
 have q4 : (s.last == s.last) = true := by simp
 have q5 : ((s.tmb.length : Int) == (s.tmb.length : Int)) = true := by simp
 have q6 : ((s.queue.length : Int) == (s.queue.length : Int)) = true := by simp
 have q7 : ((nVers s.vs : Int) == (nVers s.vs : Int)) = true := by simp
 go_enter Tryz.func49, Tryz.ntmps49
 go_wp2_with fail
 refine (HR.out).mono ?_
 rintro e w1 ⟨rfl, hb1⟩
 have HS1 := Lib.hid (HS.out.up hb1.out)
 have HR2 := Lib.hid (rmResult_sep HS1 2 rfl HG.out (by omega) hh ih)
 rw [hr] at HR2
 clear HR HS hb1
 go_wp2_with fail
 refine (HR2.out).mono ?_
 rintro e w2 ⟨rfl, hb2⟩
 have HS2 := Lib.hid (HS1.out.up hb2.out)
 clear HR2 HS1 hb2 hr
 go_upto_region 3 with fail
 have hs3 : Sep W [OldA W, MgrA (pt a) s, RMgrA (pt b) s] w2.drew := HS2.out.up (below_drewN (Below.refl w2.heap.size w2) 1)
 obtain ⟨v11, ⟨p2, c2, v2⟩, ⟨p6, c6, v6⟩, _, m, pm, cm, v0, vm⟩ := rm_seen (Lib.hid hs3) 2 rfl HG.out
 have HL := Lib.hid (mgLast_sep (Lib.hid hs3) 1 rfl)
 have HO := Lib.hid (mgOpen_below (Lib.hid hs3) 1 rfl HG.out)
 have HS3 := Lib.hid hs3
 clear hs3 HS2
 refine wp_regionG (fun W => Below w2.drew.heap.size w2.drew W) (n := 57) (by kernel_rfl) (by kernel_rfl) ?_
 generalize w2.drew = w3 at *
 refine wpG.tk 0 ?_
 refine wpG.tk 1 ?_
 refine wpG.tk 2 ?_
 refine wpG.tk 3 ?_
 refine wpG.tk 4 ?_
 refine wpG.tk 5 ?_
 refine wpG.tk 6 ?_
 refine wpG.tk 7 ?_
 refine wpG.tk 8 ?_
 refine wpG.tk 9 ?_
 refine wpG.tk 10 ?_
 refine wpG.tk 11 ?_
 refine wpG.tk 12 ?_
 refine wpG.tk 13 ?_
 refine wpG.tk 14 ?_
 refine wpG.tk 16 ?_
 refine wpG.tk 17 ?_
 refine wpG.tk 18 ?_
 refine wpG.tk 19 ?_ (hy := by intro W hW; have hld0 := cell_up hW v11; go_simp; try with_reducible rfl)
 refine wpG.alone 15 rfl (by kernel_rfl) (by kernel_rfl) (Below.refl _ _) (fun K hK => ?_)
 go_simp
 go_at_call 29
 refine (HL.out).mono ?_
 rintro e w4 ⟨rfl, rfl⟩
 clear HL
 try go_simp
 refine hK _ _ ?_
 clear hK K
 refine wpG.tk 20 ?_
 refine wpG.tk 21 ?_
 refine wpG.tk 22 ?_
 refine wpG.tk 23 ?_
 refine wpG.tk 25 ?_
 refine wpG.tk 26 ?_
 refine wpG.tk 27 ?_
 refine wpG.tk 28 ?_
 refine wpG.tk 29 ?_ (hy := by intro W hW; have hld0 := cell_up hW v2; go_simp; try with_reducible rfl)
 refine wpG.tk 30 ?_
 refine wpG.alone 24 rfl (by kernel_rfl) (by kernel_rfl) (Below.refl _ _) (fun K hK => ?_)
 go_simp
 go_at_call 26
 refine (HO.out).mono ?_
 rintro e w5 ⟨rfl, hb5⟩
 have hs5 := Lib.hid (HS3.out.up hb5.out)
 have HQ := Lib.hid (mgQueue_sep hs5 1 rfl)
 have HV := Lib.hid (mgVersions_below hs5 1 rfl HG.out (by omega))
 have HS5 := Lib.hid hs5
 clear HO hs5
 try go_simp
 refine hK _ _ ?_
 clear hK K
 refine wpG.tk 31 ?_
 refine wpG.tk 32 ?_
 refine wpG.tk 33 ?_
 refine wpG.tk 34 ?_
 refine wpG.tk 36 ?_
 refine wpG.tk 37 ?_
 refine wpG.tk 38 ?_
 refine wpG.tk 39 ?_ (hy := by intro W hW; have hld0 := cell_up hW v6; go_simp; try with_reducible rfl)
 refine wpG.tk 40 ?_
 refine wpG.alone 35 rfl (by kernel_rfl) (by kernel_rfl) hb5.out (fun K hK => ?_)
 go_simp
 go_at_call 31
 refine (HQ.out).mono ?_
 rintro e w6 ⟨rfl, rfl⟩
 clear HQ
 try go_simp
 refine hK _ _ ?_
 clear hK K
 refine wpG.tk 41 ?_
 refine wpG.tk 42 ?_
 refine wpG.tk 43 ?_
 refine wpG.tk 44 ?_
 refine wpG.tk 46 ?_
 refine wpG.tk 47 ?_
 refine wpG.tk 48 ?_
 refine wpG.tk 49 ?_ (hy := by intro W hW; have hld0 := cell_up hW v0; go_simp; try with_reducible rfl)
 refine wpG.tk 50 ?_
 refine wpG.tk 51 ?_
 refine wpG.tk 52 ?_ (hy := by intro W hW; have hld0 := cell_up hW vm; go_simp; try with_reducible rfl)
 refine wpG.tk 53 ?_
 refine wpG.alone 45 rfl (by kernel_rfl) (by kernel_rfl) hb5.out (fun K hK => ?_)
 go_simp
 go_at_call 43
 refine (HV.out).mono ?_
 rintro e w7 ⟨rfl, hb7⟩
 have HB7 := Lib.hid (Below.up hb5.out hb7.out)
 have HS7 := Lib.hid (HS3.out.up HB7.out)
 clear HV HS5 hb7 hb5
 try go_simp
 refine hK _ _ ?_
 clear hK K
 refine wpG.tk 54 ?_
 refine wpG.tk 55 ?_
 refine wpG.tk 56 ?_
 refine wpG.done (by kernel_rfl) HB7.out ?_
 clear v11 v2 v6 v0 vm
 go_wp2
 go_ret
 exact ⟨rfl, HS7⟩
end Go.Proofs

/- TxnPlays: both managers play alike. -/
namespace Go.Proofs
open Go.RowKit Sc
theorem stDo_good {N : Nat} {s : MgS} (g : MgG N s) (h8 : s.out ≤ 8) (hN : N < 1000000) (x : Step23) : MgG (N + 128) (stDo s x) ∧ (stDo s x).out ≤ 8 := by
 have e1 : (begNext s).out = s.out := by
  unfold begNext; split <;> rfl
 have e2 : ∀ h e, (rdNext s h e).out = s.out := fun h e => by unfold rdNext; split <;> rfl
 have e3 : ∀ h l, (wrNext s h l).out = s.out := fun h l => by unfold wrNext; split <;> rfl
 have e4 : ∀ h, (cmNext s h).out = s.out := fun h => by
  unfold cmNext
  split
  ·split
   ·rfl
   ·split <;> rfl
  ·rfl
 have e5 : ∀ h, (abNext s h).out = s.out := fun h => by unfold abNext; split <;> rfl
 have e6 : (baNext s).out ≤ 8 := by
  unfold baNext
  split
  ·have := (formN_bd (waitL s)).2; show (formN (waitL s) : Int) ≤ 8; omega
  ·exact h8
 have e7 : ∀ c, (doneNext s c).out ≤ 8 := fun c => by
  unfold doneNext
  split
  ·exact h8
  ·show (0 : Int) ≤ 8; omega
 unfold stDo
 split
 ·exact ⟨(g.begins hN).mono (by omega), by rw [e1]; exact h8⟩
 split
 ·exact ⟨(g.reads _ _).mono (by omega), by rw [e2]; exact h8⟩
 split
 ·exact ⟨(g.writes _ _).mono (by omega), by rw [e3]; exact h8⟩
 split
 ·exact ⟨(g.commits _).mono (by omega), by rw [e4]; exact h8⟩
 split
 ·exact ⟨(g.aborts _).mono (by omega), by rw [e5]; exact h8⟩
 split
 ·exact ⟨g.batches.mono (by omega), e6⟩
 split
 ·exact ⟨g.dones _ h8, e7 _⟩
 split
 ·exact ⟨(g.reads_only _).mono (by omega), h8⟩
 split
 ·exact ⟨g.prunes.mono (by omega), h8⟩
 ·exact ⟨g.mono (by omega), h8⟩
theorem extNew_bad (n : Int) (w : World) (h : n < 1 ∨ 1048576 < n) : Calls Tryz.prog 53 #[.int .i64 n] w fun e w' => e = .returned (.tuple #[.pointer none, .int .i64 1]) ∧ w' = w := by
 rcases (show n < 1 ∨ (¬ n < 1 ∧ 1048576 < n) by omega) with a | ⟨a, b⟩
 ·go_enter Tryz.func53, Tryz.ntmps53
  go_wp2
  go_ret2
  exact ⟨rfl, rfl⟩
 ·go_enter Tryz.func53, Tryz.ntmps53
  go_wp2
  go_ret2
  exact ⟨rfl, rfl⟩
set_option maxRecDepth 100000 in
theorem mgrNew_bad (blocks last : Int) (w : World) (h : ¬ (1 ≤ blocks ∧ blocks ≤ 1048576 ∧ 0 ≤ last ∧ last ≤ 1099511627776)) :
  Calls Tryz.prog 18 #[.int .i64 blocks, .int .i64 last] w fun e w' => e = .returned (.tuple #[.pointer none, .int .i64 1]) ∧ Below w.heap.size w w' := by
 by_cases hb : blocks < 1 ∨ 1048576 < blocks
 case pos =>
  go_enter Tryz.func18, Tryz.ntmps18
  go_wp2_with fail
  refine (extNew_bad blocks w hb).mono ?_
  rintro e w1 ⟨rfl, rfl⟩
  go_wp2
  go_ret2
  exact ⟨rfl, Below.refl _ _⟩
 case neg =>
  rcases (show last < 0 ∨ (¬ last < 0 ∧ 1099511627776 < last) by omega) with a | ⟨a, a2⟩
  ·go_enter Tryz.func18, Tryz.ntmps18
   go_wp2_with fail
   refine (extNew_any blocks w (by omega) (by omega)).mono ?_
   rintro e w1 ⟨v, rfl, _, hb1⟩
   have HB := Lib.hid hb1
   clear hb1
   go_wp2
   go_ret2
   exact ⟨rfl, HB.out⟩
  ·go_enter Tryz.func18, Tryz.ntmps18
   go_wp2_with fail
   refine (extNew_any blocks w (by omega) (by omega)).mono ?_
   rintro e w1 ⟨v, rfl, _, hb1⟩
   have HB := Lib.hid hb1
   clear hb1
   go_wp2
   go_ret2
   exact ⟨rfl, HB.out⟩
end Go.Proofs
