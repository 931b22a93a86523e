/- scarpref11's Set: May, put, Add. -/
import Derived.Test.YteodkepnalhceaaSetSep
import Derived.Test.YteodkepnalhceaaPlainPut
import Derived.Test.YteodkepnalhceaaAppend
import Derived.Deep.DeepCutAuto
import Derived.Deep.CutRange
namespace Go.Proofs
open Go.RowKit Sc

set_option maxHeartbeats 400000 in
theorem refMayE_any (x : Ext) (w : World) (h1 : I64 x.first) (h2 : I64 x.len) : Calls Try.prog 22 #[extV x] w fun e w' => e = .returned (.bool (mayB x)) ∧ Below w.heap.size w w' := by
  unfold I64 at h1 h2
  cases hq : mayB x with
  | true =>
    obtain ⟨a1, a2, a3, a4, a5⟩ := mayB_iff.1 hq
    have a6 : x.first ≤ 1048577 - x.len := by omega
    have HQ := Lib.hid hq
    clear hq
    go_enter Try.func22, Try.ntmps22
    go_wp2
    go_ret
    refine ⟨congrArg boolRet ?_, below_alloc _ _⟩
    first | rfl | (simp; omega)
  | false =>
    have h := mayB_no.1 hq
    rcases (show x.first < 0 ∨ (0 ≤ x.first ∧ 1048576 < x.first) ∨ (0 ≤ x.first ∧ x.first ≤ 1048576 ∧ x.len < 1) ∨ (0 ≤ x.first ∧ x.first ≤ 1048576 ∧ 1 ≤ x.len ∧ 1048576 < x.len) ∨ (0 ≤ x.first ∧ x.first ≤ 1048576 ∧ 1 ≤ x.len ∧ x.len ≤ 1048576 ∧ 1048577 - x.len < x.first) by omega) with a | ⟨a1, a⟩ | ⟨a1, a2, a⟩ | ⟨a1, a2, a3, a⟩ | ⟨a1, a2, a3, a4, a⟩
    all_goals
      clear h
      have HQ := Lib.hid hq
      clear hq
      go_enter Try.func22, Try.ntmps22
      go_wp2
      go_ret
      refine ⟨congrArg boolRet ?_, below_alloc _ _⟩
      first | rfl | (simp; omega)

theorem putGo_step {f e : Int} {d : Bool} {l : List Ext} {k : Nat} (h : k < l.length) : putGo f e d (l.drop k) = if l[k].first + l[k].len < f then l[k] :: putGo f e d (l.drop (k + 1)) else if e < l[k].first then (if d then [] else [⟨f, e - f⟩]) ++ l[k] :: putGo f e true (l.drop (k + 1)) else putGo (min f l[k].first) (max e (l[k].first + l[k].len)) d (l.drop (k + 1)) := by
  rw [List.drop_eq_getElem_cons h]; rfl
theorem flatE_more (a : List Ext) (x n : Int) : flatE (a ++ [⟨x, n⟩]) = flatE a ++ [.int .i64 x, .int .i64 n] := by rw [flatE_append]; rfl
/-- A list of extents that a call builds. -/
def NewRowE (l : List Ext) (w : World) (e : Ending) (w' : World) : Prop := ∃ v, e = .returned v ∧ w'.ownsRow w.heap.size 28 2 v l.length (flatE l) ∧ Below w.heap.size w w'
theorem outE_eq {v : Value} {l m : List Ext} (h : l = m) : RowA 28 2 v l.length (flatE l) = RowA 28 2 v m.length (flatE m) := by rw [h]

set_option maxRecDepth 100000 in
set_option maxHeartbeats 4000000 in
theorem refPut_any (G : Nat → Prop) (vl : Value) (l : List Ext) (e : Ext) (w : World) (hv : ExtsAt G w vl l) (hok : ∀ x ∈ l, Oke x) (he : Oke e) (hl : l.length ≤ 100000) :
    Calls Try.prog 72 #[vl, extV e] w (NewRowE (putX l e) w) := by
  obtain ⟨p, c, rfl⟩ := extsAt_shape hv
  obtain ⟨e1, e2, e3, e4⟩ := he
  have hfw : IntKind.i64.wrap (e.first + e.len) = e.first + e.len := IntWalk.i64_in _ (by omega)
  have hS0 := ((Sep.start w).up (below_alloc w (.cells #[.int .i64 e.first, .int .i64 e.len] 28))).new (Below.refl _ _) (OutEA (.slice none 0 0) []) (F := fun _ => False) (fun _ h => h.elim) ⟨World.ownsRow_nil _ _ _ _, by simp [Value.ownBlock]⟩
  have hgo : ([] : List Ext) ++ putGo e.first (e.first + e.len) false (l.drop 0) = putX l e := rfl
  generalize putX l e = goal at *
  have HV := Lib.hid hv
  have HOK := Lib.hid hok
  have HS0 := Lib.hid hS0
  have HGO := Lib.hid hgo
  clear hv hok hS0 hgo
  go_enter Try.func72, Try.ntmps72
  go_wp2_with fail
  go_loopw [5, 6, 7, 8, 9] (fun vf ve vo vd i wr => ∃ k : Nat, ∃ po co f en d out, k ≤ l.length ∧ i = .int .i64 k ∧ vf = .int .i64 f ∧ ve = .int .i64 en ∧ vd = .bool d ∧ vo = .slice po out.length co ∧ 0 ≤ f ∧ f < en ∧ en ≤ 1048577 ∧ Hid (Sep w [OldA w, RowA 28 2 (.slice po out.length co) out.length (flatE out)] wr) ∧ Hid (out ++ putGo f en d (l.drop k) = goal) ∧ out.length ≤ 2 * k) (fun _ _ _ _ i _ => l.length - (intOf i).toNat)
  case atStart => exact ⟨0, none, 0, e.first, e.first + e.len, false, [], by omega, rfl, rfl, rfl, rfl, rfl, e1, by omega, by omega, HS0.out, HGO.out, by simp⟩
  case round =>
    obtain ⟨k, po, co, f, en, d, out, hk, rfl, rfl, rfl, rfl, rfl, f0, f1, f2, HS, HG, hol⟩ := hrel
    by_cases hlt : k < l.length
    case neg =>
      have hg := HG.out
      rw [show k = l.length by omega, List.drop_length] at hg
      replace hg : out ++ (if d then [] else [⟨f, en - f⟩]) = goal := hg
      cases d with
      | true =>
        simp only [if_true, List.append_nil] at hg
        subst hg
        have hmine := HS.out.row_mine 1 (by decide) rfl
        have HMINE := Lib.hid hmine
        clear hmine
        go_wp2_with fail
        go_ret
        exact ⟨_, rfl, HMINE.out, HS.out.old⟩
      | false =>
        simp only [Bool.false_eq_true, if_false] at hg
        have hw2 : IntKind.i64.wrap (en - f) = en - f := IntWalk.i64_in _ (by omega)
        have HG := Lib.hid hg
        clear hg
        obtain ⟨FA, hFA, _⟩ := HS.out.get 1 rfl
        have hrowA := hFA.1
        obtain ⟨iiA, hiiA, hizA, hiyA, hixA⟩ := info_parts infoExt
        have HROWA := Lib.hid hrowA
        clear hFA hrowA
        go_wp2_with (at_builtin; refine wpList_append_lies _ rfl _ _ 29 rfl 0 28 iiA (.agg #[.int .i64 0, .int .i64 0]) 2 16 Try.underlying29 hiiA hizA hiyA hixA rfl (by decide) _ (out.length) (flatE out) rfl (HROWA.out.alloc _) ⟨wr.heap.size, 0, none⟩ 1 1 [.int .i64 f, .int .i64 (en - f)] rfl rfl (World.news_of_block (cs := #[.int .i64 f, .int .i64 (en - f)]) (heap_alloc_new wr _)) (by simp [Value.oneCell']) (by decide) (by unfold maxLen; omega) (by omega) (Nat.zero_le _) (wr.heap.size + 1) (by simp) ?_; intro gA cA wA hownA hgrowA hatA hltA)
        have hSA := HS.out.row_app 1 rfl (below_alloc _ _) hownA hgrowA hatA (by simp) hltA
        clear hownA hgrowA hatA hltA hiiA hizA hiyA hixA
        have hmine := hSA.row_mine 1 (by decide) rfl
        have HSA := Lib.hid hSA
        have HMINE := Lib.hid hmine
        clear hSA hmine
        go_wp2_with fail
        go_ret
        have q1 : goal.length = out.length + 1 := by rw [← HG.out]; simp
        refine ⟨_, rfl, ?_, HSA.out.old⟩
        rw [q1, ← HG.out, flatE_more]
        exact HMINE.out
    case pos =>
      obtain ⟨p', c', hv', _, _, _, g4⟩ := ExtsAt.up HV.out HS.out.old
      cases hv'
      obtain ⟨g, o, rfl, _, hc0, hc1, _⟩ := g4 k hlt
      have hst := putGo_step (f := f) (e := en) (d := d) hlt
      have hme := HOK.out _ (List.getElem_mem hlt)
      generalize l[k] = x at hc0 hc1 hst hme
      obtain ⟨b1, b2, b3, b4⟩ := hme
      have hw1 : IntKind.i64.wrap (x.first + x.len) = x.first + x.len := IntWalk.i64_in _ (by omega)
      have hw2 : IntKind.i64.wrap (en - f) = en - f := IntWalk.i64_in _ (by omega)
      have k0 : (0 : Int) ≤ (k : Int) := by omega
      have k1 : (k : Int) < (l.length : Int) := by omega
      have hg := HG.out
      rw [hst] at hg
      clear g4 hst
      have hba := below_alloc wr (.cells #[.int .i64 x.first, .int .i64 x.len] 28)
      have hea : (wr.alloc (.cells #[.int .i64 x.first, .int .i64 x.len] 28)).cell? ⟨wr.heap.size, 0, none⟩ = some (.int .i64 x.first) := by rw [cell_row (heap_alloc_new wr _)]; rfl
      have heb : (wr.alloc (.cells #[.int .i64 x.first, .int .i64 x.len] 28)).cell? ⟨wr.heap.size, 1, none⟩ = some (.int .i64 x.len) := by rw [cell_row (heap_alloc_new wr _)]; rfl
      have hSb := HS.out.new hba (BoxA wr.heap.size #[.int .i64 x.first, .int .i64 x.len] 28) (F := New wr (wr.alloc (.cells #[.int .i64 x.first, .int .i64 x.len] 28))) (fun _ h => h) ⟨⟨Nat.le_refl _, by simp⟩, heap_alloc_new wr _⟩
      have HBA := Lib.hid hba
      have HSB := Lib.hid hSb
      clear hba hSb
      by_cases hA : x.first + x.len < f
      case pos =>
        rw [if_pos hA] at hg
        have HG := Lib.hid hg
        clear hg
        go_upto_region 12 with fail
        generalize (wr.alloc (.cells #[.int .i64 x.first, .int .i64 x.len] 28)) = wq at *
        obtain ⟨FA, hFA, _⟩ := HSB.out.get 1 rfl
        have hrowA := hFA.1
        obtain ⟨iiA, hiiA, hizA, hiyA, hixA⟩ := info_parts infoExt
        have HROWA := Lib.hid hrowA
        clear hFA hrowA
        go_wp2_with (at_builtin; refine wpList_append_lies _ rfl _ _ 29 rfl 0 28 iiA (.agg #[.int .i64 0, .int .i64 0]) 2 16 Try.underlying29 hiiA hizA hiyA hixA rfl (by decide) _ (out.length) (flatE out) rfl (HROWA.out.alloc _) ⟨wq.heap.size, 0, none⟩ 1 1 [.int .i64 x.first, .int .i64 x.len] rfl rfl (World.news_of_block (cs := #[.int .i64 x.first, .int .i64 x.len]) (heap_alloc_new wq _)) (by simp [Value.oneCell']) (by decide) (by unfold maxLen; omega) (by omega) (Nat.zero_le _) (wq.heap.size + 1) (by simp) ?_; intro gA cA wA hownA hgrowA hatA hltA)
        have hSA := HSB.out.row_app 1 rfl (below_alloc _ _) hownA hgrowA hatA (by simp) hltA
        clear hownA hgrowA hatA hltA hiiA hizA hiyA hixA
        have hSA2 := hSA.take 2
        have HSA := Lib.hid hSA
        have HSA2 := Lib.hid hSA2
        clear hSA hSA2
        clear hea heb
        go_wp2_with fail
        go_roundw
        case rel =>
          have q1 : (out ++ [x]).length = out.length + 1 := by simp
          refine ⟨k + 1, _, cA, f, en, d, out ++ [x], by omega, by go_num, rfl, rfl, rfl, by rw [q1], f0, f1, f2, ?_, ?_, by omega⟩
          · unfold Hid
            rw [q1]
            show Sep w [OldA w, RowA 28 2 _ (out.length + 1) (flatE (out ++ [⟨x.first, x.len⟩]))] _
            rw [flatE_more]
            exact HSA2.out
          · unfold Hid; rw [List.append_assoc]; exact HG.out
        case measure => simp [intOf]; omega
      case neg =>
        rw [if_neg hA] at hg
        by_cases hB : en < x.first
        case pos =>
          rw [if_pos hB] at hg
          cases d with
          | true =>
            simp only [if_true, List.nil_append] at hg
            have HG := Lib.hid hg
            clear hg
            go_upto_region 17 with fail
            generalize (wr.alloc (.cells #[.int .i64 x.first, .int .i64 x.len] 28)) = wq at *
            obtain ⟨FA, hFA, _⟩ := HSB.out.get 1 rfl
            have hrowA := hFA.1
            obtain ⟨iiA, hiiA, hizA, hiyA, hixA⟩ := info_parts infoExt
            have HROWA := Lib.hid hrowA
            clear hFA hrowA
            go_wp2_with (at_builtin; refine wpList_append_lies _ rfl _ _ 29 rfl 0 28 iiA (.agg #[.int .i64 0, .int .i64 0]) 2 16 Try.underlying29 hiiA hizA hiyA hixA rfl (by decide) _ (out.length) (flatE out) rfl (HROWA.out.alloc _) ⟨wq.heap.size, 0, none⟩ 1 1 [.int .i64 x.first, .int .i64 x.len] rfl rfl (World.news_of_block (cs := #[.int .i64 x.first, .int .i64 x.len]) (heap_alloc_new wq _)) (by simp [Value.oneCell']) (by decide) (by unfold maxLen; omega) (by omega) (Nat.zero_le _) (wq.heap.size + 1) (by simp) ?_; intro gA cA wA hownA hgrowA hatA hltA)
            have hSA := HSB.out.row_app 1 rfl (below_alloc _ _) hownA hgrowA hatA (by simp) hltA
            clear hownA hgrowA hatA hltA hiiA hizA hiyA hixA
            have hSA2 := hSA.take 2
            have HSA := Lib.hid hSA
            have HSA2 := Lib.hid hSA2
            clear hSA hSA2
            clear hea heb
            go_wp2_with fail
            go_roundw
            case rel =>
              have q1 : (out ++ [x]).length = out.length + 1 := by simp
              refine ⟨k + 1, _, cA, f, en, true, out ++ [x], by omega, by go_num, rfl, rfl, rfl, by rw [q1], f0, f1, f2, ?_, ?_, by omega⟩
              · unfold Hid
                rw [q1]
                show Sep w [OldA w, RowA 28 2 _ (out.length + 1) (flatE (out ++ [⟨x.first, x.len⟩]))] _
                rw [flatE_more]
                exact HSA2.out
              · unfold Hid; rw [List.append_assoc]; exact HG.out
            case measure => simp [intOf]; omega
          | false =>
            simp only [Bool.false_eq_true, if_false] at hg
            have HG := Lib.hid hg
            clear hg
            go_upto_region 15 with fail
            generalize (wr.alloc (.cells #[.int .i64 x.first, .int .i64 x.len] 28)) = wq at *
            obtain ⟨FA, hFA, _⟩ := HSB.out.get 1 rfl
            have hrowA := hFA.1
            obtain ⟨iiA, hiiA, hizA, hiyA, hixA⟩ := info_parts infoExt
            have HROWA := Lib.hid hrowA
            clear hFA hrowA
            go_upto_region 16 with (at_builtin; refine wpList_append_lies _ rfl _ _ 29 rfl 0 28 iiA (.agg #[.int .i64 0, .int .i64 0]) 2 16 Try.underlying29 hiiA hizA hiyA hixA rfl (by decide) _ (out.length) (flatE out) rfl (HROWA.out.alloc _) ⟨wq.heap.size, 0, none⟩ 1 1 [.int .i64 f, .int .i64 (en - f)] rfl rfl (World.news_of_block (cs := #[.int .i64 f, .int .i64 (en - f)]) (heap_alloc_new wq _)) (by simp [Value.oneCell']) (by decide) (by unfold maxLen; omega) (by omega) (Nat.zero_le _) (wq.heap.size + 1) (by simp) ?_; intro gA cA wA hownA hgrowA hatA hltA)
            have hSA := HSB.out.row_app 1 rfl (below_alloc _ _) hownA hgrowA hatA (by simp) hltA
            clear hownA hgrowA hatA hltA hiiA hizA hiyA hixA
            obtain ⟨FB, hFB, _⟩ := hSA.get 2 rfl
            have hqa : wA.cell? ⟨wr.heap.size, 0, none⟩ = some (.int .i64 x.first) := by rw [cell_row hFB.2]; rfl
            have hqb : wA.cell? ⟨wr.heap.size, 1, none⟩ = some (.int .i64 x.len) := by rw [cell_row hFB.2]; rfl
            have HSA := Lib.hid hSA
            clear hSA
            clear hea heb hFB
            obtain ⟨FB, hFB, _⟩ := HSA.out.get 1 rfl
            have hrowB := hFB.1
            obtain ⟨iiB, hiiB, hizB, hiyB, hixB⟩ := info_parts infoExt
            have HROWB := Lib.hid hrowB
            clear hFB hrowB
            go_wp2_with (at_builtin; refine wpList_append_lies _ rfl _ _ 29 rfl 0 28 iiB (.agg #[.int .i64 0, .int .i64 0]) 2 16 Try.underlying29 hiiB hizB hiyB hixB rfl (by decide) _ (out.length + 1) (flatE out ++ [.int .i64 f, .int .i64 (en - f)]) rfl (HROWB.out.alloc _) ⟨wA.heap.size, 0, none⟩ 1 1 [.int .i64 x.first, .int .i64 x.len] rfl rfl (World.news_of_block (cs := #[.int .i64 x.first, .int .i64 x.len]) (heap_alloc_new wA _)) (by simp [Value.oneCell']) (by decide) (by unfold maxLen; omega) (by omega) (Nat.zero_le _) (wA.heap.size + 1) (by simp) ?_; intro gB cB wB hownB hgrowB hatB hltB)
            have hSB := HSA.out.row_app 1 rfl (below_alloc _ _) hownB hgrowB hatB (by simp) hltB
            clear hownB hgrowB hatB hltB hiiB hizB hiyB hixB
            have hSA2 := hSB.take 2
            have HSA2 := Lib.hid hSA2
            clear hSA2
            clear hSB
            go_wp2_with fail
            go_roundw
            case rel =>
              have q1 : (out ++ [(⟨f, en - f⟩ : Ext)] ++ [x]).length = out.length + 1 + 1 := by simp
              refine ⟨k + 1, _, cB, f, en, true, out ++ [(⟨f, en - f⟩ : Ext)] ++ [x], by omega, by go_num, rfl, rfl, rfl, by rw [q1], f0, f1, f2, ?_, ?_, by omega⟩
              · unfold Hid
                rw [q1]
                show Sep w [OldA w, RowA 28 2 _ (out.length + 1 + 1) (flatE (out ++ [(⟨f, en - f⟩ : Ext)] ++ [⟨x.first, x.len⟩]))] _
                rw [flatE_more, flatE_more]
                exact HSA2.out
              · unfold Hid; rw [List.append_assoc, List.append_assoc]; exact HG.out
            case measure => simp [intOf]; omega
        case neg =>
          rw [if_neg hB] at hg
          have hSA2 := HSB.out.take 2
          have HG := Lib.hid hg
          have HSA2 := Lib.hid hSA2
          clear hg hSA2
          go_wp2_with fail
          go_roundw
          case rel => exact ⟨k + 1, po, co, min f x.first, max en (x.first + x.len), d, out, by omega, by go_num, rfl, rfl, rfl, rfl, by omega, by omega, by omega, HSA2.out, HG.out, by omega⟩
          case measure => simp [intOf]; omega
/-- A Set of the reference's. -/
structure RSetIs (F : Nat → Prop) (w : World) (v : Value) (most : Int) (l : List Ext) : Prop where
  out : ∃ b sv, v = .pointer (some ⟨b, 0, none⟩) ∧ F b ∧ w.heap[b]? = some (.cells #[.int .i64 most, sv] 76 (0, 0)) ∧ ExtsAt F w sv l
theorem RSetIs.same {F : Nat → Prop} {w w' : World} {v : Value} {most : Int} {l : List Ext} (h : RSetIs F w v most l) (hs : Same F w w') : RSetIs F w' v most l := by
  obtain ⟨⟨b, sv, h1, h2, h3, h4⟩⟩ := h
  exact ⟨⟨b, sv, h1, h2, (hs b h2).trans h3, h4.same hs⟩⟩
def RSetA (v : Value) (most : Int) (l : List Ext) : Asn := ⟨fun F w => RSetIs F w v most l, fun _ _ _ hs _ h => h.same hs⟩
/-- What its Add answers, and leaves. -/
def radd (most : Int) (l0 l : List Ext) : Int := if allB l = false then 1 else if max most 0 < ((normE (l0 ++ l)).length : Int) then 7 else 0
def raddNext (most : Int) (l0 l : List Ext) : List Ext := if radd most l0 l = 0 then normE (l0 ++ l) else l0
theorem foldl_take_succ {α β : Type} (f : β → α → β) (b : β) (l : List α) (k : Nat) (h : k < l.length) : (l.take (k + 1)).foldl f b = f ((l.take k).foldl f b) l[k] := by
  rw [take_snoc l k h, List.foldl_append]; rfl

set_option maxRecDepth 100000 in
set_option maxHeartbeats 4000000 in
theorem refAdd_sep {W w : World} {L : List Asn} (h : Sep W L w) (i : Nat) {v lv : Value} {most : Int} {l0 : List Ext} (hi : L[i]? = some (RSetA v most l0)) (l : List Ext) (hl : ExtsAt (fun _ => True) w lv l) (hl64 : ∀ e ∈ l, I64 e.first ∧ I64 e.len) (hg : SetG l0) (im : I64 most) (n0 : l0.length ≤ 40000) (n1 : l.length ≤ 40000) :
    Calls Try.prog 61 #[v, lv] w fun e w' => e = .returned (.int .i64 (radd most l0 l)) ∧ Hid (Sep W (L.set i (RSetA v most (raddNext most l0 l))) w') := by
  obtain ⟨F, G, hF, hR, hFG, hdF, hdG, K⟩ := h.at i hi
  obtain ⟨⟨b, sv, rfl, hFb, hh, hsv⟩⟩ := hF
  obtain ⟨p, c, rfl⟩ := extsAt_shape hl
  obtain ⟨p0, c0, rfl⟩ := extsAt_shape hsv
  have hK := fun w' F' A' => K w' F' A'
  have hbl := hdF b hFb
  have hc0 : w.cell? ⟨b, 0, none⟩ = some (.int .i64 most) := by rw [cell_row hh]; rfl
  have hc1 : w.cell? ⟨b, 1, none⟩ = some (.slice p0 l0.length c0) := by rw [cell_row hh]; rfl
  have HL := Lib.hid hl
  have HSV := Lib.hid hsv
  have HK := Lib.hid hK
  have HH := Lib.hid hh
  have HL64 := Lib.hid hl64
  have HG := Lib.hid hg
  clear hl hsv hK hh hl64 hg
  clear K hR hFG hdG h
  go_enter Try.func61, Try.ntmps61
  go_wp2_with fail
  go_loopw [5] (fun i wr => ∃ k : Nat, k ≤ l.length ∧ i = .int .i64 k ∧ Hid (Below w.heap.size w wr) ∧ Hid (allB (l.take k) = true)) (fun i _ => l.length - (intOf i).toNat)
  case atStart => exact ⟨0, by omega, rfl, Below.refl _ _, rfl⟩
  case round =>
    obtain ⟨k, hk, rfl, HB, HA⟩ := hrel
    by_cases hlt : k < l.length
    case pos =>
      obtain ⟨p', c', he', _, _, _, h4⟩ := ExtsAt.up HL.out HB.out
      cases he'
      obtain ⟨g, o, rfl, _, hca, hcb, hia, hib⟩ := h4 k hlt
      have hmay := refMayE_any l[k] wr hia hib
      have hbad : mayB l[k] = false → radd most l0 l = 1 := fun hq => by
        unfold radd
        rw [if_pos]
        unfold allB
        rw [List.all_eq_false]
        exact ⟨_, List.getElem_mem hlt, by rw [hq]; decide⟩
      have hnext : mayB l[k] = true → allB (l.take (k + 1)) = true := fun hq => by
        rw [take_snoc l k hlt]
        unfold allB
        rw [List.all_append, show (l.take k).all mayB = true from HA.out]
        simp [hq]
      generalize l[k] = x at *
      have hkI : (k : Int) < (l.length : Int) := by omega
      have HMAY := Lib.hid hmay
      have HBAD := Lib.hid hbad
      have HNEXT := Lib.hid hnext
      have HIA := Lib.hid hia
      have HIB := Lib.hid hib
      clear hmay hbad hnext hia hib
      clear h4
      go_wp2_with fail
      refine (HMAY.out).mono ?_
      rintro r w2 ⟨rfl, hb2⟩
      have hb02 := Below.up HB.out hb2
      have HB2 := Lib.hid hb2
      have HB02 := Lib.hid hb02
      clear hb2 hb02
      cases hq : mayB x with
      | false =>
        have hcode := HBAD.out hq
        have hnx : raddNext most l0 l = l0 := by unfold raddNext; rw [if_neg (by rw [hcode]; decide)]
        have HQ := Lib.hid hq
        have HCODE := Lib.hid hcode
        have HNX := Lib.hid hnx
        clear hq hcode hnx
        go_wp2_with fail
        go_ret
        refine ⟨by rw [HCODE.out]; rfl, ?_⟩
        unfold Hid
        rw [HNX.out]
        exact HK.out w2 F (RSetA _ most l0) (Chg.of_below HB02.out fun k h1 h2 => by omega) (fun k hk => .inl hk) (RSetIs.same ⟨⟨b, _, rfl, hFb, HH.out, HSV.out⟩⟩ (Dom.same hdF HB02.out))
      | true =>
        have hnx := HNEXT.out hq
        have HQ := Lib.hid hq
        have HNX := Lib.hid hnx
        clear hq hnx
        go_wp2_with fail
        go_roundw
        case rel => exact ⟨k + 1, by omega, by go_num, HB02.out, HNX.out⟩
        case measure => simp [intOf]; omega
    case neg =>
      have hall := HA.out
      rw [show k = l.length by omega, List.take_length] at hall
      have hoke : ∀ x ∈ l, Oke x := fun x hx => mayB_oke (allB_mem hall x hx)
      have hcode0 : radd most l0 l = if max most 0 < ((normE (l0 ++ l)).length : Int) then 7 else 0 := by unfold radd; rw [if_neg (by rw [hall]; decide)]
      have hput := putAll HG.out.1 HG.out.2 l hoke
      have hsv1 := ExtsAt.up HSV.out HB.out
      have hlv1 := ExtsAt.up HL.out HB.out
      have hc01 := cell_up HB.out hc0
      have hc11 := cell_up HB.out hc1
      obtain ⟨i0, hi0, hz0, hz1, hz2⟩ := info_parts infoExt
      have hown := owns_empty wr 28 2
      have hc12 := cell_up (below_alloc wr (.cells #[] 28 (0, 0))) hc11
      have hsv2 := ExtsAt.up hsv1 (below_alloc wr (.cells #[] 28 (0, 0)))
      have hp0 : p0 = none → l0.length = 0 ∧ c0 = 0 := fun hp => by
        obtain ⟨p', c', he, h1, h2, h3, _⟩ := hsv1
        cases he
        have := h3 hp
        omega
      have hnews : ∀ a, p0 = some a → ∀ j u, (flatE l0)[j]? = some u → (wr.alloc (.cells #[] 28 (0, 0))).cell? (a.add j) = some u := fun a ha j u hu => by
        subst ha
        exact extsAt_news hsv2 j u hu
      obtain ⟨v6, w6, hr6, ho6, hg6, hor6⟩ := run_append_any (P := Try.prog) (wr.alloc (.cells #[] 28 (0, 0))) 29 29 wr.heap.size 28 i0 (.agg #[.int .i64 0, .int .i64 0]) 2 16 Try.underlying29 hi0 hz0 hz1 hz2 rfl (by decide) _ 0 [] hown p0 l0.length c0 hp0 (flatE l0) (flatE_length l0) hnews (flatE_one l0) (by unfold maxLen; omega) (by omega) (by simp)
      have hb6 : Below wr.heap.size wr w6 := (below_alloc wr _).grown hg6 (by simp) (fun q hq => by cases hq; exact Nat.le_refl _)
      rw [Nat.zero_add, List.nil_append] at ho6
      have hx6 := row_extsAt (New w w6) rfl (fun e he => by have := HG.out.2 e he; unfold Oke at this; unfold I64; omega) (fun k h1 h2 => ⟨Nat.le_trans HB.out.size h1, h2⟩) ho6
      obtain ⟨p6, c6, rfl⟩ := extsAt_shape hx6
      have hb06 := Below.up HB.out hb6
      have hn0 : normE (l0 ++ l.take 0) = l0 := normE_self HG.out.1
      have hst : ∀ j (hj : j < l.length), putX (normE (l0 ++ l.take j)) l[j] = normE (l0 ++ l.take (j + 1)) := fun j hj => by
        rw [← putAll HG.out.1 HG.out.2 (l.take (j + 1)) (fun e he => hoke e (List.mem_of_mem_take he)), foldl_take_succ _ _ _ _ hj, putAll HG.out.1 HG.out.2 (l.take j) (fun e he => hoke e (List.mem_of_mem_take he))]
      have hgd : ∀ j, SetG (normE (l0 ++ l.take j)) ∧ (normE (l0 ++ l.take j)).length ≤ l0.length + l.length := fun j => by
        have ho : ∀ e ∈ l0 ++ l.take j, Oke e := fun e he => (List.mem_append.1 he).elim (HG.out.2 e) fun h => hoke e (List.mem_of_mem_take h)
        obtain ⟨g1, _, g3⟩ := normE_good' ho
        rw [List.length_append, List.length_take] at g3
        exact ⟨g1, by omega⟩
      have HALL := Lib.hid hall
      have HOKE := Lib.hid hoke
      have HCODE0 := Lib.hid hcode0
      have HPUT := Lib.hid hput
      have HX6 := Lib.hid hx6
      have HB06 := Lib.hid hb06
      have HN0 := Lib.hid hn0
      have HST := Lib.hid hst
      have HGD := Lib.hid hgd
      have HSV1 := Lib.hid hsv1
      have HLV1 := Lib.hid hlv1
      have HSV2 := Lib.hid hsv2
      have HP0 := Lib.hid hp0
      have HNEWS := Lib.hid hnews
      have HR6 := Lib.hid hr6
      clear hall hoke hcode0 hput hx6 hb06 hn0 hst hgd hsv1 hlv1 hsv2 hp0 hnews hr6
      clear hown ho6 hg6 hor6 hi0 hz0 hz1 hz2 hb6
      go_wp2_with (at_builtin; refine Lib.wpList_append_run _ rfl _ _ _ _ rfl _ _ rfl rfl _ _ HR6.out ?_)
      clear hlt hk
      go_loopw [6, 7] (fun vo i wr => ∃ k : Nat, ∃ po co X, k ≤ l.length ∧ i = .int .i64 k ∧ vo = .slice po X.length co ∧ Hid (X = normE (l0 ++ l.take k)) ∧ Hid (Below w.heap.size w wr) ∧ Hid (ExtsAt (New w wr) wr (.slice po X.length co) X)) (fun _ i _ => l.length - (intOf i).toNat)
      case atStart => exact ⟨0, p6, c6, l0, by omega, rfl, rfl, HN0.out.symm, HB06.out, HX6.out⟩
      case round =>
        obtain ⟨k, po, co, X, hk, rfl, rfl, HXE, HB, HX⟩ := hrel
        obtain ⟨hgx, hgl⟩ := HGD.out k
        rw [← HXE.out] at hgx hgl
        by_cases hlt : k < l.length
        case pos =>
          obtain ⟨p', c', he', _, _, _, h4⟩ := ExtsAt.up HL.out HB.out
          cases he'
          obtain ⟨g, o, rfl, _, hca, hcb, hia, hib⟩ := h4 k hlt
          have hok := HOKE.out _ (List.getElem_mem hlt)
          have hstk := HST.out k hlt
          rw [← HXE.out] at hstk
          have hpt := refPut_any _ _ X l[k] wr HX.out hgx.2 hok (by omega)
          rw [hstk] at hpt
          obtain ⟨hgy, hgyl⟩ := HGD.out (k + 1)
          generalize l[k] = x at *
          obtain ⟨Y, hY⟩ : ∃ Y, Y = normE (l0 ++ l.take (k + 1)) := ⟨_, rfl⟩
          rw [← hY] at hpt hgy hgyl
          have hkI : (k : Int) < (l.length : Int) := by omega
          have HPT := Lib.hid hpt
          have HOK := Lib.hid hok
          have HIA := Lib.hid hia
          have HIB := Lib.hid hib
          have HGY := Lib.hid hgy
          have HY := Lib.hid hY
          clear hpt hok hia hib hgy hY
          clear h4 hstk hgx hgl
          go_wp2_with fail
          refine (HPT.out).mono ?_
          rintro r w8 ⟨v8, rfl, ho8, hb8⟩
          have hb08 := Below.up HB.out hb8
          have hx8 := row_extsAt (New w w8) rfl (fun e he => by have := HGY.out.2 e he; unfold Oke at this; unfold I64; omega) (fun k h1 h2 => ⟨Nat.le_trans HB.out.size h1, h2⟩) ho8
          obtain ⟨p8, c8, rfl⟩ := extsAt_shape hx8
          have HB8 := Lib.hid hb8
          have HB08 := Lib.hid hb08
          have HX8 := Lib.hid hx8
          clear hb8 hb08 hx8
          clear ho8
          go_wp2_with fail
          go_roundw
          case rel => exact ⟨k + 1, p8, c8, Y, by omega, by go_num, rfl, HY.out, HB08.out, HX8.out⟩
          case measure => simp [intOf]; omega
        case neg =>
          have hxe := HXE.out
          rw [show k = l.length by omega, List.take_length] at hxe
          have hcode := HCODE0.out
          rw [← hxe] at hcode
          have hcc0 := cell_up HB.out hc0
          have hcc1 := cell_up HB.out hc1
          have hhb : wr.heap[b]? = some (.cells #[.int .i64 most, .slice p0 l0.length c0] 76 (0, 0)) := (HB.out.block b hbl).trans HH.out
          have hfz : wr.frozen? ⟨b, 1, none⟩ = false := fz_row hhb 1
          have HXE := Lib.hid hxe
          have HGX := Lib.hid hgx
          have HHB := Lib.hid hhb
          clear hxe hgx hhb
          clear hc01 hc11 hc12
          by_cases hbig : max most 0 < (X.length : Int)
          case pos =>
            rw [if_pos hbig] at hcode
            have hnx : raddNext most l0 l = l0 := by unfold raddNext; rw [if_neg (by rw [hcode]; decide)]
            have HCODE := Lib.hid hcode
            have HNX := Lib.hid hnx
            clear hcode hnx
            go_wp2_with fail
            go_ret
            refine ⟨by rw [HCODE.out]; rfl, ?_⟩
            unfold Hid
            rw [HNX.out]
            exact HK.out _ F (RSetA _ most l0) (Chg.of_below HB.out fun k h1 h2 => by omega) (fun k hk => .inl hk) (RSetIs.same ⟨⟨b, _, rfl, hFb, HH.out, HSV.out⟩⟩ (Dom.same hdF HB.out))
          case neg =>
            rw [if_neg hbig] at hcode
            have hnx : raddNext most l0 l = X := by unfold raddNext; rw [if_pos hcode, HXE.out]
            have hbig' : (X.length : Int) ≤ max most 0 := by omega
            have HCODE := Lib.hid hcode
            have HNX := Lib.hid hnx
            clear hcode hnx
            clear hbig
            go_wp2_with fail
            go_ret
            refine ⟨by rw [HCODE.out]; rfl, ?_⟩
            unfold Hid
            rw [HNX.out]
            refine HK.out _ (fun q => F q ∨ New w (wr.setCell ⟨b, 1, none⟩ (.slice po X.length co)) q) (RSetA _ most X) ((Chg.of_below HB.out fun k h1 h2 => by omega).trans (chg_set wr b 1 _ hFb)) (fun q hq => hq) ⟨⟨b, .slice po X.length co, rfl, .inl hFb, by rw [heap_set_same HHB.out]; rfl, ?_⟩⟩
            refine SlAt.mono (ExtsAt.same HX.out (w' := wr.setCell ⟨b, 1, none⟩ (.slice po X.length co)) fun k hk => ?_) (fun k hk => .inr ?_) (fun _ _ _ h => h)
            · exact Below.heap_setCell _ _ _ k (fun e => by have := hk.1; simp at e; omega)
            · exact ⟨hk.1, by have := hk.2; simpa [World.setCell] using this⟩
end Go.Proofs
