/- Package ival: Cut. -/
import Derived.Test.YteodkepnalhceaaIval5
import Derived.Test.YteodkepnalhceaaPlainCut
import Derived.BigQuiet
import Derived.Deep.DeepCutAuto
import Derived.Deep.CutRange
namespace Go.Proofs
open Go.RowKit Sc

/-- Extents that are read. -/
def ExtsA (v : Value) (l : List Ext) : Asn := ⟨fun F w => ExtsAt F w v l, fun _ _ _ hs _ h => h.same hs⟩
theorem cutGo_step {fin a : Int} {l : List Ext} {k : Nat} (h : k < l.length) : cutGo fin a (l.drop k) = if fin ≤ l[k].first then cutEnd fin a else (if a < l[k].first then [⟨a, l[k].first - a⟩] else []) ++ cutGo fin (max a (l[k].first + l[k].len)) (l.drop (k + 1)) := by
  rw [List.drop_eq_getElem_cons h]; rfl
theorem flatE_one1 (a : List Ext) (x n : Int) : flatE (a ++ [⟨x, n⟩]) = flatE a ++ [.int .i64 x, .int .i64 n] := by rw [flatE_append]; rfl
def CutSaid (l : List Ext) (w : World) (e : Ending) (w' : World) : Prop := ∃ v, e = .returned v ∧ w'.ownsRow w.heap.size 28 2 v l.length (flatE l) ∧ Below w.heap.size w w'

set_option maxRecDepth 100000 in
set_option maxHeartbeats 4000000 in
theorem cut_any (G : Nat → Prop) (vt : Value) (e : Ext) (t : List Ext) (w : World) (hv : ExtsAt G w vt t) (he : mayB e = true) (ht : allB t = true) (hl : t.length ≤ 100000) :
    Calls Try.prog 25 #[extV e, vt] w (CutSaid (cutL e (normE t)) w) := by
  obtain ⟨e1, e2, e3, e4, e5⟩ := mayB_iff.1 he
  have hoke : ∀ x ∈ t, Oke x := fun x hx => mayB_oke (allB_mem ht x hx)
  obtain ⟨hN1, hN2, hN3, _⟩ := normE_good (fun x hx => (hoke x hx).2.2.1)
  have hN4 := normE_oke hoke
  obtain ⟨ep, ec, rfl⟩ := extsAt_shape hv
  have hfw : IntKind.i64.wrap (e.first + e.len) = e.first + e.len := IntWalk.i64_in _ (by omega)
  have hb0 := below_alloc w (.cells #[.int .i64 e.first, .int .i64 e.len] 28)
  have he0 : (w.alloc (.cells #[.int .i64 e.first, .int .i64 e.len] 28)).cell? ⟨w.heap.size, 0, none⟩ = some (.int .i64 e.first) := by rw [cell_row (heap_alloc_new w _)]; rfl
  have he1' : (w.alloc (.cells #[.int .i64 e.first, .int .i64 e.len] 28)).cell? ⟨w.heap.size, 1, none⟩ = some (.int .i64 e.len) := by rw [cell_row (heap_alloc_new w _)]; rfl
  have hv0 := ExtsAt.up hv hb0
  have HV := Lib.hid hv
  have HB0 := Lib.hid hb0
  have HV0 := Lib.hid hv0
  have HE := Lib.hid he
  have HT := Lib.hid ht
  have HOKE := Lib.hid hoke
  have HN1 := Lib.hid hN1
  have HN3 := Lib.hid hN3
  have HN4 := Lib.hid hN4
  clear hv hb0 hv0 he ht hoke hN1 hN3 hN4
  clear hN2
  go_enter Try.func25, Try.ntmps25
  go_wp2_with fail
  refine (may_any e _ (by unfold I64; omega) (by unfold I64; omega)).mono ?_
  rintro r w1 ⟨rfl, hb1⟩
  rw [HE.out]
  have hd0 := cell_up hb1 he0
  have hd1 := cell_up hb1 he1'
  have hb01 := Below.up HB0.out hb1
  have hv1 := ExtsAt.up HV0.out hb1
  have HB1 := Lib.hid hb1
  have HB01 := Lib.hid hb01
  have HV1 := Lib.hid hv1
  clear hb1 hb01 hv1
  clear he0 he1'
  go_wp2_with fail
  refine (all_any G _ t _ HV1.out).mono ?_
  rintro r w2 ⟨rfl, hb2⟩
  rw [HT.out]
  have hd0' := cell_up hb2 hd0
  have hd1' := cell_up hb2 hd1
  have hb02 := Below.up HB01.out hb2
  have hv2 := ExtsAt.up HV1.out hb2
  have HB2 := Lib.hid hb2
  have HB02 := Lib.hid hb02
  have HV2 := Lib.hid hv2
  clear hb2 hb02 hv2
  clear hd0 hd1
  go_wp2_with fail
  go_quiet (fail)
  have hbq := below_drewN (Below.refl w2.heap.size w2) nq
  have hvq := ExtsAt.up HV2.out hbq
  have hb03 := Below.up HB02.out hbq
  generalize w2.drewN nq = w3 at *
  have HBQ := Lib.hid hbq
  have HVQ := Lib.hid hvq
  have HB03 := Lib.hid hb03
  clear hbq hvq hb03
  clear hd0' hd1'
  go_wp2_with fail
  refine (joined_any G _ t _ HVQ.out HOKE.out hl).mono ?_
  rintro r w4 ⟨v4, rfl, ho4, hb4⟩
  have hx4 := row_extsAt (New w3 w4) rfl (fun e he => by have := HN4.out e he; unfold Oke at this; unfold I64; omega) (fun k h1 h2 => ⟨h1, h2⟩) ho4
  have hS3 := (Sep.start w).up HB03.out
  have hS4 := hS3.new hb4 (ExtsA v4 (normE t)) (F := New w3 w4) (fun _ h => h) hx4
  have hS5 := hS4.new (Below.refl _ _) (OutEA (.slice none 0 0) []) (F := fun _ => False) (fun _ h => h.elim) ⟨World.ownsRow_nil _ _ _ _, by simp [Value.ownBlock]⟩
  obtain ⟨p4, c4, rfl⟩ := extsAt_shape hx4
  have hnl : (normE t).length ≤ 100000 := by have := HN3.out; omega
  have hgo : ([] : List Ext) ++ cutGo (e.first + e.len) e.first ((normE t).drop 0) = cutL e (normE t) := rfl
  generalize cutL e (normE t) = goal at *
  generalize normE t = l at *
  have HS5 := Lib.hid hS5
  have HGO := Lib.hid hgo
  clear hS5 hgo
  clear hS3 hS4 hx4 ho4 hb4
  have hfin0 : 0 ≤ e.first + e.len := by omega
  have hfin1 : e.first + e.len ≤ 1048577 := by omega
  have ha0 : 0 ≤ e.first := e1
  have ha1 : e.first ≤ 1048577 := by omega
  generalize e.first + e.len = fin at *
  generalize e.first = at0 at *
  clear e1 e2 e3 e4 e5 HE HT
  go_wp2_with fail
  go_loopw [4, 5, 27] (fun vo va i wr => ∃ k : Nat, ∃ po co a out, k ≤ l.length ∧ i = .int .i64 k ∧ va = .int .i64 a ∧ 0 ≤ a ∧ a ≤ 1048577 ∧ vo = .slice po out.length co ∧ Hid (Sep w [OldA w, ExtsA (.slice p4 l.length c4) l, OutEA (.slice po out.length co) out] wr) ∧ Hid (out ++ cutGo fin a (l.drop k) = goal) ∧ out.length ≤ k) (fun _ _ i _ => l.length - (intOf i).toNat)
  case atStart => exact ⟨0, none, 0, at0, [], by omega, rfl, rfl, ha0, ha1, rfl, HS5.out, HGO.out, Nat.le_refl _⟩
  case round =>
    obtain ⟨k, po, co, a, out, hk, rfl, rfl, ha2, ha3, rfl, HS, HG, hol⟩ := hrel
    by_cases hlt : k < l.length
    case neg =>
      obtain rfl : k = l.length := by omega
      have hg := HG.out
      rw [List.drop_length] at hg
      replace hg : out ++ cutEnd fin a = goal := hg
      unfold cutEnd at hg
      by_cases haf : a < fin
      case pos =>
        rw [if_pos haf] at hg
        have HG := Lib.hid hg
        clear hg
        obtain ⟨FA, hFA, _⟩ := HS.out.get 2 rfl
        have hrowA := hFA.1
        obtain ⟨iiA, hiiA, hizA, hiyA, hixA⟩ := info_parts infoExt
        have HROWA := Lib.hid hrowA
        clear hFA hrowA
        go_wp2_with (at_builtin; refine wpList_append_lies _ rfl _ _ 29 rfl 0 28 iiA (.agg #[.int .i64 0, .int .i64 0]) 2 16 Try.underlying29 hiiA hizA hiyA hixA rfl (by decide) _ (out.length) (flatE out) rfl (HROWA.out.alloc _) ⟨wr.heap.size, 0, none⟩ 1 1 [.int .i64 a, .int .i64 (fin - a)] rfl rfl (World.news_of_block (cs := #[.int .i64 a, .int .i64 (fin - a)]) (heap_alloc_new wr _)) (by simp [Value.oneCell']) (by decide) (by unfold maxLen; omega) (by omega) (Nat.zero_le _) (wr.heap.size + 1) (by simp) ?_; intro gA cA wA hownA hgrowA hatA hltA)
        have hSA := HS.out.row_app 2 rfl (below_alloc _ _) hownA hgrowA hatA (by simp) hltA
        clear hownA hgrowA hatA hltA hiiA hizA hiyA hixA
        have hmine := hSA.row_mine 2 (by decide) rfl
        have HSA := Lib.hid hSA
        have HMINE := Lib.hid hmine
        clear hSA hmine
        go_wp2_with fail
        go_ret
        have e1 : goal.length = out.length + 1 := by rw [← HG.out]; simp
        refine ⟨_, rfl, ?_, HSA.out.old⟩
        rw [e1, ← HG.out, flatE_one1]
        exact HMINE.out
      case neg =>
        rw [if_neg haf, List.append_nil] at hg
        have hmine := HS.out.row_mine 2 (by decide) rfl
        have HG := Lib.hid hg
        have HMINE := Lib.hid hmine
        clear hg hmine
        go_wp2_with fail
        go_ret
        refine ⟨_, rfl, ?_, HS.out.old⟩
        rw [← HG.out]
        exact HMINE.out
    case pos =>
      obtain ⟨F1, hF1, _⟩ := HS.out.get 1 rfl
      obtain ⟨p', c', hv', _, _, _, g4⟩ := hF1
      cases hv'
      obtain ⟨g, o, rfl, _, hc0, hc1, _⟩ := g4 k hlt
      have hst := cutGo_step (fin := fin) (a := a) hlt
      have hme := HN4.out _ (List.getElem_mem hlt)
      generalize l[k] = x at hc0 hc1 hst hme
      obtain ⟨b1, b2, b3, b4⟩ := hme
      have hw1 : IntKind.i64.wrap (x.first + x.len) = x.first + x.len := IntWalk.i64_in _ (by omega)
      have k0 : (0 : Int) ≤ (k : Int) := by omega
      have k1 : (k : Int) < (l.length : Int) := by omega
      have hg := HG.out
      rw [hst] at hg
      have HG := Lib.hid hg
      clear hg
      clear g4 hst
      have hba := below_alloc wr (.cells #[.int .i64 x.first, .int .i64 x.len] 28)
      have hea : (wr.alloc (.cells #[.int .i64 x.first, .int .i64 x.len] 28)).cell? ⟨wr.heap.size, 0, none⟩ = some (.int .i64 x.first) := by rw [cell_row (heap_alloc_new wr _)]; rfl
      have heb : (wr.alloc (.cells #[.int .i64 x.first, .int .i64 x.len] 28)).cell? ⟨wr.heap.size, 1, none⟩ = some (.int .i64 x.len) := by rw [cell_row (heap_alloc_new wr _)]; rfl
      have hSb := HS.out.new hba (BoxA wr.heap.size #[.int .i64 x.first, .int .i64 x.len] 28) (F := New wr (wr.alloc (.cells #[.int .i64 x.first, .int .i64 x.len] 28))) (fun _ h => h) ⟨⟨Nat.le_refl _, by simp⟩, heap_alloc_new wr _⟩
      have HBA := Lib.hid hba
      have HSB := Lib.hid hSb
      clear hba hSb
      by_cases hbr : fin ≤ x.first
      case pos =>
        have hg := HG.out
        rw [if_pos hbr] at hg
        unfold cutEnd at hg
        by_cases haf : a < fin
        case pos =>
          rw [if_pos haf] at hg
          have HG := Lib.hid hg
          clear hg
          go_upto_region 13 with fail
          generalize (wr.alloc (.cells #[.int .i64 x.first, .int .i64 x.len] 28)) = wq at *
          obtain ⟨FA, hFA, _⟩ := HSB.out.get 2 rfl
          have hrowA := hFA.1
          obtain ⟨iiA, hiiA, hizA, hiyA, hixA⟩ := info_parts infoExt
          have HROWA := Lib.hid hrowA
          clear hFA hrowA
          go_wp2_with (at_builtin; refine wpList_append_lies _ rfl _ _ 29 rfl 0 28 iiA (.agg #[.int .i64 0, .int .i64 0]) 2 16 Try.underlying29 hiiA hizA hiyA hixA rfl (by decide) _ (out.length) (flatE out) rfl (HROWA.out.alloc _) ⟨wq.heap.size, 0, none⟩ 1 1 [.int .i64 a, .int .i64 (fin - a)] rfl rfl (World.news_of_block (cs := #[.int .i64 a, .int .i64 (fin - a)]) (heap_alloc_new wq _)) (by simp [Value.oneCell']) (by decide) (by unfold maxLen; omega) (by omega) (Nat.zero_le _) (wq.heap.size + 1) (by simp) ?_; intro gA cA wA hownA hgrowA hatA hltA)
          have hSA := HSB.out.row_app 2 rfl (below_alloc _ _) hownA hgrowA hatA (by simp) hltA
          clear hownA hgrowA hatA hltA hiiA hizA hiyA hixA
          have hmine := hSA.row_mine 2 (by decide) rfl
          have HSA := Lib.hid hSA
          have HMINE := Lib.hid hmine
          clear hSA hmine
          go_wp2_with fail
          go_ret
          have e1 : goal.length = out.length + 1 := by rw [← HG.out]; simp
          refine ⟨_, rfl, ?_, HSA.out.old⟩
          rw [e1, ← HG.out, flatE_one1]
          exact HMINE.out
        case neg =>
          rw [if_neg haf, List.append_nil] at hg
          have hmine := HSB.out.row_mine 2 (by decide) rfl
          have HG := Lib.hid hg
          have HMINE := Lib.hid hmine
          clear hg hmine
          go_wp2_with fail
          go_ret
          refine ⟨_, rfl, ?_, HSB.out.old⟩
          rw [← HG.out]
          exact HMINE.out
      case neg =>
        have hg := HG.out
        rw [if_neg hbr] at hg
        by_cases hax : a < x.first
        case pos =>
          rw [if_pos hax, ← List.append_assoc] at hg
          have HG := Lib.hid hg
          clear hg
          go_upto_region 9 with fail
          generalize (wr.alloc (.cells #[.int .i64 x.first, .int .i64 x.len] 28)) = wq at *
          obtain ⟨FA, hFA, _⟩ := HSB.out.get 2 rfl
          have hrowA := hFA.1
          obtain ⟨iiA, hiiA, hizA, hiyA, hixA⟩ := info_parts infoExt
          have HROWA := Lib.hid hrowA
          clear hFA hrowA
          go_upto_region 10 with (at_builtin; refine wpList_append_lies _ rfl _ _ 29 rfl 0 28 iiA (.agg #[.int .i64 0, .int .i64 0]) 2 16 Try.underlying29 hiiA hizA hiyA hixA rfl (by decide) _ (out.length) (flatE out) rfl (HROWA.out.alloc _) ⟨wq.heap.size, 0, none⟩ 1 1 [.int .i64 a, .int .i64 (x.first - a)] rfl rfl (World.news_of_block (cs := #[.int .i64 a, .int .i64 (x.first - a)]) (heap_alloc_new wq _)) (by simp [Value.oneCell']) (by decide) (by unfold maxLen; omega) (by omega) (Nat.zero_le _) (wq.heap.size + 1) (by simp) ?_; intro gA cA wA hownA hgrowA hatA hltA)
          have hSA := HSB.out.row_app 2 rfl (below_alloc _ _) hownA hgrowA hatA (by simp) hltA
          clear hownA hgrowA hatA hltA hiiA hizA hiyA hixA
          obtain ⟨FB, hFB, _⟩ := hSA.get 3 rfl
          have hqa : wA.cell? ⟨wr.heap.size, 0, none⟩ = some (.int .i64 x.first) := by rw [cell_row hFB.2]; rfl
          have hqb : wA.cell? ⟨wr.heap.size, 1, none⟩ = some (.int .i64 x.len) := by rw [cell_row hFB.2]; rfl
          have hSA3 := hSA.take 3
          have HSA := Lib.hid hSA
          have HSA3 := Lib.hid hSA3
          clear hSA hSA3
          clear hea heb hFB
          go_wp2_with fail
          go_roundw
          case rel =>
            have e1 : (out ++ [(⟨a, x.first - a⟩ : Ext)]).length = out.length + 1 := by simp
            refine ⟨k + 1, _, cA, max a (x.first + x.len), out ++ [(⟨a, x.first - a⟩ : Ext)], by omega, by go_num, rfl, by omega, by omega, by rw [e1], ?_, HG.out, by omega⟩
            unfold Hid
            rw [e1]
            show Sep w [OldA w, _, RowA 28 2 _ (out ++ [(⟨a, x.first - a⟩ : Ext)]).length (flatE (out ++ [⟨a, x.first - a⟩]))] _
            rw [e1, flatE_one1]
            exact HSA3.out
          case measure => simp [intOf]; omega
        case neg =>
          rw [if_neg hax, List.nil_append] at hg
          have HG := Lib.hid hg
          clear hg
          go_wp2_with fail
          go_roundw
          case rel => exact ⟨k + 1, po, co, max a (x.first + x.len), out, by omega, by go_num, rfl, by omega, by omega, rfl, HSB.out.take 3, HG.out, by omega⟩
          case measure => simp [intOf]; omega
end Go.Proofs
