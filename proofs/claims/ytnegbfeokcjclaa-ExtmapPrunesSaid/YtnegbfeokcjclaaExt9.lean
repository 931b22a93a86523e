/- Package extmap: Prune. -/
import Derived.Test.YtnegbfeokcjclaaExt8
import Derived.Test.YtnegbfeokcjclaaExt4
import Derived.Test.YtnegbfeokcjclaaCuts
namespace Go.Proofs
open Go.RowKit Sc

set_option maxHeartbeats 400000 in
theorem cloneVer_nil (w : World) : Calls Try.prog 53 #[.slice none 0 0] w fun e w' => e = .returned (.slice none 0 0) ∧ w = w' := by
  have heq := fun (W : World) => Lib.run_eql_slice_nil (P := Try.prog) W 88 91 none 0 0 0 0 Try.underlying88
  go_enter Try.func53, Try.ntmps53
  go_wp2
  go_ret
  exact ⟨rfl, rfl⟩
set_option maxHeartbeats 400000 in
theorem cloneVer_some (a : Addr) (n c : Nat) (news : List Value) (w : World) (hlen : Hid (news.length = n * 2)) (hcell : Hid (∀ j u, news[j]? = some u → w.cell? (a.add j) = some u)) (hone : Hid (∀ u ∈ news, u.oneCell' = true)) (hn : Hid (n ≤ 1000000)) :
    Calls Try.prog 53 #[.slice (some a) n c] w fun e w' => ∃ v', e = .returned v' ∧ Hid (w'.ownsRow w.heap.size 91 2 v' n news) ∧ Hid (Below w.heap.size w w') := by
  obtain ⟨i0, hi, hz0, hz1, hz2⟩ := info_parts infoVer
  have heq := fun (W : World) => Lib.run_eql_slice_nil (P := Try.prog) W 88 91 (some a) n c 0 0 Try.underlying88
  go_enter Try.func53, Try.ntmps53
  go_wp2_with (at_builtin; refine wpList_append_own _ rfl _ _ 88 rfl w.heap.size 91 i0 (.agg #[.int .i64 0, .slice none 0 0]) 2 32 Try.underlying88 hi hz0 hz1 hz2 rfl (by decide) _ 0 [] rfl (World.ownsRow_made w _ 0 (Nat.le_refl _) (by decide) rfl) a n c news rfl hlen.out (fun j u hj => cell_alloc_old (hcell.out j u hj)) hone.out (by have := hn.out; unfold maxLen; omega) (by have := hn.out; omega) (by simp) ?_; intro v' w1 hown hgrow hnil)
  go_ret
  refine ⟨v', rfl, by unfold Hid; simpa using hown, ?_⟩
  refine ((Below.refl _ _).alloc (Nat.le_refl _) _).grown hgrow (by simp) (fun k hk => ?_)
  cases hk; exact Nat.le_refl _

/-- What Prune leaves of a block. -/
def pruneOne (h : Int) (l : List Put) : List Put := l.drop (atN l h - 1)
def pruneVs (h : Int) (vs : Vers) : Vers := vs.map fun x => (x.1, pruneOne h x.2)
theorem nVers_set (vs : Vers) (k : Int) (l : List Put) : nVers (aset vs k l) = nVers vs + l.length - ((alook vs k).getD []).length ∧ ((alook vs k).getD []).length ≤ nVers vs := by
  induction vs with
  | nil => simp [aset, alook, nVers]
  | cons x t ih =>
    obtain ⟨n, y⟩ := x
    unfold nVers at *
    by_cases h : n = k
    · subst h; simp [aset, alook]; omega
    · simp [aset, alook, h]; omega
theorem al_ext {α : Type} : ∀ {a b : List (Int × α)}, a.map (·.1) = b.map (·.1) → (b.map (·.1)).Nodup → (∀ x ∈ b, alook a x.1 = some x.2) → a = b
  | [], [], _, _, _ => rfl
  | (k, x) :: a, (k', y) :: b, h1, h2, h3 => by
    simp only [List.map_cons, List.cons.injEq] at h1
    obtain ⟨rfl, h1⟩ := h1
    simp only [List.map_cons, List.nodup_cons] at h2
    have hx : x = y := by
      have := h3 (k, y) (by simp)
      simpa [alook] using this
    rw [hx, al_ext h1 h2.2 (fun z hz => ?_)]
    have := h3 z (by simp [hz])
    have hne : k ≠ z.1 := fun e => h2.1 (e ▸ List.mem_map.2 ⟨z, hz, rfl⟩)
    simpa [alook, hne] using this
  | [], _ :: _, h, _, _ => by simp at h
  | _ :: _, [], h, _, _ => by simp at h
theorem grownBy_refl (w : World) (row : Option Nat) : w.grownBy w row := ⟨rfl, rfl, rfl, Nat.le_refl _, fun _ _ _ => rfl⟩
theorem ExtB.wider {F F' : Nat → Prop} {w : World} {b r : Nat} {ml : List (Int × Value)} {D : Nat → Prop} {blocks last : Int} {vs : Vers} (q : ExtB F w b r ml D blocks last vs) (up : ∀ k, F k → F' k) (hd : Dom F' w) : ExtB F' w b r ml D blocks last vs :=
  ⟨up _ q.fb, up _ q.fr, q.hb, q.hm, q.ha.imp fun _ _ ⟨a, c⟩ => ⟨a, fun g hg => ⟨up _ (c g hg).1, (c g hg).2⟩⟩, q.ho, fun k hk => ⟨up _ (q.hD k hk).1, (q.hD k hk).2⟩, hd⟩
theorem ExtB.same {F : Nat → Prop} {w w' : World} {b r : Nat} {ml : List (Int × Value)} {D : Nat → Prop} {blocks last : Int} {vs : Vers} (h : ExtB F w b r ml D blocks last vs) (hs : Same F w w') (hz : w.heap.size ≤ w'.heap.size) : ExtB F w' b r ml D blocks last vs :=
  ⟨h.fb, h.fr, by rw [hs b h.fb]; exact h.hb, h.hm.same hs h.fr, h.ha.imp fun _ _ ⟨a, c⟩ => ⟨a.same putR_stable hs hz (fun g hg => (c g hg).1) (fun k hk => (h.hD k hk).1), c⟩, h.ho, h.hD, h.dom.of_size hz⟩
/-- What Prune has left behind some rounds. -/
def Pruned (h : Int) (vs vs' : Vers) (left : List (Int × Value)) : Prop :=
  vs'.map (·.1) = vs.map (·.1) ∧ ∀ k l, alook vs k = some l → (k ∈ left.map (·.1) → alook vs' k = some l) ∧ (k ∉ left.map (·.1) → alook vs' k = some (pruneOne h l))
theorem Pruned.fin {h : Int} {vs vs' : Vers} (hp : Pruned h vs vs' []) (hn : (vs.map (·.1)).Nodup) : vs' = pruneVs h vs := by
  refine al_ext ?_ ?_ fun x hx => ?_
  · rw [hp.1]; unfold pruneVs; simp [Function.comp_def]
  · unfold pruneVs; simpa [Function.comp_def] using hn
  · unfold pruneVs at hx
    obtain ⟨y, hy, rfl⟩ := List.mem_map.1 hx
    exact (hp.2 y.1 y.2 (alook_mem hn hy)).2 (by simp)
theorem Pruned.keep {h : Int} {vs vs' : Vers} {n0 : Int} {v : Value} {left left' : List (Int × Value)} (hp : Pruned h vs vs' left) (hperm : left.Perm ((n0, v) :: left')) (hnd : (left.map (·.1)).Nodup) {l : List Put} (hl : (alook vs' n0).getD [] = l) (hq : atN l h ≤ 1) : Pruned h vs vs' left' := by
  have hm := (hperm.map (·.1))
  refine ⟨hp.1, fun k l1 hk => ?_⟩
  obtain ⟨h1, h2⟩ := hp.2 k l1 hk
  have hmem : ∀ k, k ∈ left.map (·.1) ↔ k = n0 ∨ k ∈ left'.map (·.1) := fun k => by rw [hm.mem_iff]; simp
  refine ⟨fun hin => h1 ((hmem k).2 (.inr hin)), fun hout => ?_⟩
  by_cases e : k = n0
  · subst e
    have := h1 ((hmem k).2 (.inl rfl))
    rw [this] at hl
    simp only [Option.getD_some] at hl
    subst hl
    rw [this]
    unfold pruneOne
    rw [show atN l1 h - 1 = 0 by omega]; rfl
  · exact h2 (fun hin => by rcases (hmem k).1 hin with h' | h' <;> contradiction)
theorem Pruned.cut {h : Int} {vs vs' : Vers} {n0 : Int} {v : Value} {left left' : List (Int × Value)} (hp : Pruned h vs vs' left) (hperm : left.Perm ((n0, v) :: left')) (hnd : (left.map (·.1)).Nodup) (hin0 : n0 ∈ vs'.map (·.1)) {l : List Put} (hl : (alook vs' n0).getD [] = l) :
    Pruned h vs (aset vs' n0 (pruneOne h l)) left' := by
  have hm := (hperm.map (·.1))
  rw [hm.nodup_iff, List.map_cons, List.nodup_cons] at hnd
  have hmem : ∀ k, k ∈ left.map (·.1) ↔ k = n0 ∨ k ∈ left'.map (·.1) := fun k => by rw [hm.mem_iff]; simp
  refine ⟨by rw [keys_aset, if_pos hin0, hp.1], fun k l1 hk => ?_⟩
  obtain ⟨h1, h2⟩ := hp.2 k l1 hk
  rw [alook_aset]
  by_cases e : k = n0
  · subst e
    rw [if_pos rfl]
    have := h1 ((hmem k).2 (.inl rfl))
    rw [this] at hl
    simp only [Option.getD_some] at hl
    subst hl
    exact ⟨fun hin => absurd hin hnd.1, fun _ => rfl⟩
  · rw [if_neg e]
    refine ⟨fun hin => h1 ((hmem k).2 (.inr hin)), fun hout => h2 (fun hin => by rcases (hmem k).1 hin with h' | h' <;> contradiction)⟩
def PruneSaid (F : Nat → Prop) (v : Value) (blocks last : Int) (vs : Vers) (h : Int) (w : World) (e : Ending) (w' : World) : Prop :=
  e = .returned (.int .i64 ((nVers vs - nVers (pruneVs h vs) : Nat) : Int)) ∧ nVers (pruneVs h vs) ≤ nVers vs ∧ Chg F w w' ∧ ExtIs (fun k => F k ∨ New w w' k) w' v blocks last (pruneVs h vs)

set_option maxRecDepth 100000 in
set_option maxHeartbeats 4000000 in
theorem extPrune_any (F : Nat → Prop) (v : Value) (blocks last : Int) (vs : Vers) (h : Int) (w : World) (hx : ExtIs F w v blocks last vs) (h1 : 1 ≤ blocks) (hnd : (vs.map (·.1)).Nodup) (hn : nVers vs ≤ 1000000) :
    Calls Try.prog 23 #[v, .int .i64 h] w (PruneSaid F v blocks last vs h w) := by
  have H := Lib.hid hx
  obtain ⟨b, r, ml, D, rfl, hB⟩ := hx.parts
  have hbl := hB.dom b hB.fb
  have hc1 : w.cell? ⟨b, 1, none⟩ = some (.map (some r)) := by rw [cell_row hB.hb]; rfl
  obtain ⟨o, hrg, hR⟩ := hB.hm.range (P := Try.prog) Try.underlying81
  have HR := Lib.hid hR
  have hB1 := (hB.up (below_alloc w o)).wider (F' := fun q => F q ∨ (w.heap.size < q ∧ q < (w.alloc o).heap.size)) (fun _ h => .inl h) (fun k hk => hk.elim (fun hf => by have := hB.dom k hf; simp; omega) (fun h => h.2))
  have hFd := hB.dom
  have hbb := hB.hb
  have hF0 : F b := hB.fb
  have hmn : ml.map (·.1) = vs.map (·.1) := AL.keys hB.ha
  have HB1 := Lib.hid hB1
  have HND := Lib.hid hnd
  have HN := Lib.hid hn
  have HFD := Lib.hid hFd
  have HBB := Lib.hid hbb
  have HF0 := Lib.hid hF0
  have HMN := Lib.hid hmn
  clear hB1 hnd hn hFd hbb hF0 hmn
  clear hx hR hB
  go_enter Try.func23, Try.ntmps23
  go_wp2_with fail
  refine (extGone_any F _ _ _ _ _ H.out h1).mono ?_
  rintro e w1 ⟨rfl, rfl⟩
  go_wp2_with fail
  go_loopg [4] ml.length (fun gg s4 wr => ∃ left ml' vs' D', left.length ≤ gg ∧ s4 = .int .i64 ((nVers vs - nVers vs' : Nat) : Int) ∧ Ranges wr w.heap.size r ml' left ∧ Hid (ExtB (fun q => F q ∨ (w.heap.size < q ∧ q < wr.heap.size)) wr b r ml' D' blocks last vs') ∧ Hid (Chg F w wr) ∧ Hid (nVers vs' ≤ nVers vs ∧ w.heap.size < wr.heap.size) ∧ Hid (Pruned h vs vs' left) ∧ Hid ((left.map (·.1)).Nodup))
  case atStart =>
    refine ⟨ml, ml, vs, D, Nat.le_refl _, by simp, HR.out, HB1.out, (Chg.refl F w).then_up (below_alloc w o), ⟨Nat.le_refl _, by simp⟩, ⟨rfl, fun k l hk => ⟨fun _ => hk, fun hk' => ?_⟩⟩, by unfold Hid; rw [HMN.out]; exact HND.out⟩
    exact absurd (by rw [HMN.out]; exact List.mem_map.2 ⟨_, alook_in hk, rfl⟩) hk'
  case round =>
    obtain ⟨left, ml', vs', D', hg, rfl, hR, HB, HC, HV, HP, HLN⟩ := hrel
    rcases hR.next (P := Try.prog) 0 with ⟨rfl, hnx⟩ | ⟨n0, v, left', w', hp, hmem, hnx, hen, hR', hst⟩
    · have hfin := HP.out.fin HND.out
      subst hfin
      clear hR hrg
      go_wp2
      go_ret
      refine ⟨?_, HV.out.1, HC.out, ?_⟩
      · first | rfl | (simp; done) | trace_state
      · exact (HB.out.wider (fun k hk => hk.imp id fun h => ⟨by omega, h.2⟩) (fun k hk => hk.elim (fun hf => by have := HFD.out k hf; have := HV.out.2; omega) (fun h => h.2))).is
    · have hF0' := HF0.out
      have hB' := HB.out.same (w' := w') (fun q hq => hst.block q (fun e => hq.elim (fun hf => by have := HFD.out q hf; omega) (fun h => by have := h.1; omega))) (by rw [hst.size]; exact Nat.le_refl _)
      rw [← hst.size] at hB'
      have hext := hB'.is
      obtain ⟨u, l, hu, hl, hout, hown, hud⟩ := hB'.look n0
      have hnd' : (ml'.map (·.1)).Nodup := by obtain ⟨_, _, _, _, hq, _⟩ := hR'.mapIs; exact hq
      have hv : alook ml' n0 = some v := alook_mem hnd' hmem
      have huv : v = u := by rw [hv] at hu; exact hu
      subst huv
      have hin0 : n0 ∈ vs'.map (·.1) := by rw [← AL.keys hB'.ha]; exact List.mem_map.2 ⟨_, hmem, rfl⟩
      have hat := extAt_any _ _ _ _ _ n0 h w' hext
      rw [hl] at hat
      have hcell : w'.cell? ⟨b, 1, none⟩ = some (.map (some r)) := by rw [cell_row hB'.hb]; rfl
      have hlen := hp.length_eq
      rw [List.length_cons] at hlen
      have hln' : (left'.map (·.1)).Nodup ∧ ∀ x ∈ left', x.1 ≠ n0 := by
        have := HLN.out
        rw [(hp.map (·.1)).nodup_iff, List.map_cons, List.nodup_cons] at this
        exact ⟨this.2, fun x hx e => this.1 (e ▸ List.mem_map.2 ⟨x, hx, rfl⟩)⟩
      have hc' : Chg F w w' := HC.out.trans' (hst.chg (S := fun q => q = w.heap.size) rfl) (fun i hi e => by omega)
      have hz' : w.heap.size < w'.heap.size := by rw [hst.size]; exact HV.out.2
      have hatle := atN_le l h
      obtain ⟨hns1, hns2⟩ := nVers_set vs' n0 (pruneOne h l)
      rw [hl] at hns1 hns2
      have hlm : l.length ≤ 1000000 := by have := HV.out.1; have := HN.out; omega
      have hnv := HV.out.1
      by_cases hq : atN l h ≤ 1
      case pos =>
        have hkeep := HP.out.keep hp HLN.out hl hq
        have hq0 : ((atN l h : Int) - 1) ≤ 0 := by omega
        generalize ((atN l h : Int) - 1) = iv at hat hq0
        have HB' := Lib.hid hB'
        have HAT := Lib.hid hat
        have HLEN := Lib.hid hlen
        have HLN' := Lib.hid hln'
        have HC' := Lib.hid hc'
        have HZ' := Lib.hid hz'
        have HKEEP := Lib.hid hkeep
        have HG := Lib.hid hg
        have HNV := Lib.hid hnv
        clear hB' hat hlen hln' hc' hz' hkeep hg hnv
        clear hst hmem hrg hu hl hout hown hud hnd' hv hin0 hatle hns1 hns2 hlm hR hext hp
        go_wp2_with fail
        refine (HAT.out).mono ?_
        rintro e w7 ⟨rfl, rfl⟩
        go_wp2_with fail
        go_roundg left'.length
        case measure => have := HLEN.out; have := HG.out; omega
        case rel => exact ⟨left', ml', vs', D', Nat.le_refl _, rfl, hR', HB'.out, HC'.out, ⟨HNV.out, HZ'.out⟩, HKEEP.out, HLN'.out.1⟩
      case neg =>
        obtain ⟨j, hj⟩ : ∃ j, atN l h = j + 1 := ⟨atN l h - 1, by omega⟩
        have hj1 : 1 ≤ j := by omega
        have hjl : j < l.length := by omega
        have hmem0 := Lib.hid hmem
        have hcut := HP.out.cut hp HLN.out hin0 hl
        have hpo : pruneOne h l = l.drop j := by unfold pruneOne; rw [hj]; rfl
        rw [hpo] at hcut hns1
        rw [List.length_drop] at hns1
        rw [hj, show (((j + 1 : Nat) : Int) - 1) = (j : Int) by omega] at hat
        obtain ⟨css, q1, q2, q3, q4, q5⟩ := hout
        obtain ⟨gq, cq, rfl, _, hgq⟩ := q3.form (by omega)
        have hcq : l.length ≤ cq ∧ cq ≤ 9223372036854775807 := by
          obtain ⟨_, ⟨hno, _⟩ | ⟨_, _, _, he, _, _, a1, a2, _⟩⟩ := q3
          · cases hno
          · cases he; unfold maxLen at a2; omega
        have hfl : css.flatten.length = l.length * 2 := q3.1
        have hnl : ((css.flatten.drop (j * 2))).length = (l.length - j) * 2 := by rw [List.length_drop, hfl]; omega
        have hnc : ∀ i u, (css.flatten.drop (j * 2))[i]? = some u → w'.cell? ((⟨gq, j * 2, none⟩ : Addr).add i) = some u := by
          intro i u hi
          rw [List.getElem?_drop] at hi
          have hlt := (List.getElem?_eq_some_iff.1 hi).1
          rw [addr_plus, q3.cellAt (j * 2 + i) (by rw [← hfl]; exact hlt)]
          exact hi
        have hone : ∀ u ∈ css.flatten.drop (j * 2), u.oneCell' = true := by
          intro u hu
          obtain ⟨cs, hcs, hu⟩ := List.mem_flatten.1 (List.mem_of_mem_drop hu)
          obtain ⟨i, hi, rfl⟩ := List.getElem_of_mem hcs
          obtain ⟨dv, e1, e2, e3⟩ := q4 i hi (by omega)
          rw [e1] at hu
          obtain ⟨_, _, rfl, _⟩ := e3
          simp at hu
          rcases hu with rfl | rfl <;> rfl
        have hflt : (css.drop j).flatten = css.flatten.drop (j * 2) := flatten_drop css q2 j
        have hslice := cut_from (P := Try.prog) (t := 88) (e := 91) (k := 2) (by kernel_rfl) (by kernel_rfl) (by kernel_rfl) (info_parts infoVer).choose_spec.1 gq 0 l.length cq j (by omega) (by omega)
        have hgl : gq < w'.heap.size := hgq
        have hjI : (0 : Int) < (j : Int) := by omega
        have hlj : l.length - j ≤ 1000000 := by omega
        have hcl := fun (W : World) (hW : Below w'.heap.size w' W) => cloneVer_some ⟨gq, j * 2, none⟩ (l.length - j) (cq - j) (css.flatten.drop (j * 2)) W hnl (fun i u hi => by have := hnc i u hi; rw [addr_plus] at this ⊢; exact cell_up hW this) hone hlj
        obtain ⟨qv, hqv⟩ : ∃ q, nVers vs - nVers vs' = q := ⟨_, rfl⟩
        have hqs : nVers vs - nVers (aset vs' n0 (l.drop j)) = qv + j ∧ nVers (aset vs' n0 (l.drop j)) ≤ nVers vs := by omega
        have hq2 : qv + j ≤ 1000000 := by have := HN.out; omega
        have hput := fun (w7 w8 : World) (v' : Value) (gg : Nat) => hB'.put (w4 := w7) (w5 := w7) (w6 := w8) (k := n0) (v' := v') (gg := gg) (l' := l.drop j) (D5 := D') hown hud
        rw [hqv]
        have hbb' : b < w'.heap.size := hB'.dom b hB'.fb
        have HB' := Lib.hid hB'
        have HAT := Lib.hid hat
        have HLEN := Lib.hid hlen
        have HLN' := Lib.hid hln'
        have HC' := Lib.hid hc'
        have HZ' := Lib.hid hz'
        have HCUT := Lib.hid hcut
        have HG := Lib.hid hg
        have HNV := Lib.hid hnv
        have HQ1 := Lib.hid q1
        have HQ2 := Lib.hid q2
        have HQ3 := Lib.hid q3
        have HQ4 := Lib.hid q4
        have HQ5 := Lib.hid q5
        have HNC := Lib.hid hnc
        have HONE := Lib.hid hone
        have HNL := Lib.hid hnl
        have HFLT := Lib.hid hflt
        have HCL := Lib.hid hcl
        have HQS := Lib.hid hqs
        have HQV := Lib.hid hqv
        have HPUT := Lib.hid hput
        have HOWN := Lib.hid hown
        have HUD := Lib.hid hud
        clear hB' hat hlen hln' hc' hz' hcut hg hnv q1 q2 q3 q4 q5 hnc hone hnl hflt hcl hqs hqv hput hown hud
        clear hst hmem hrg hu hl hnd' hv hin0 hatle hns1 hns2 hlm hR hext hp hq hj hpo hfl
        go_wp2_with fail
        refine (HAT.out).mono ?_
        rintro e w7 ⟨rfl, rfl⟩
        go_wp2_with fail
        go_region_held3 (fun W => W.cell? ⟨b, 1, none⟩ = some (.map (some r)))
          (first
            | go_keep
            | exact cell_up hb8 (by assumption)
            | exact (hT9.cell _).trans (by assumption))
          ((first
            | (go_at_call 53
               refine (HCL.out _ (by exact below_drewN (Below.refl _ _) 1)).mono ?_
               rintro e w8 ⟨v8, rfl, HO8, HB8⟩
               have hb8 := HB8.out
               have hR8 := hR'.up (Below.up (below_drewN (Below.refl _ w') 1) hb8)
               obtain ⟨w9, hu9, hR9, hT9⟩ := hR8.update (P := Try.prog) Try.underlying81 Try.underlying3 n0 v8 ⟨_, hmem0.out⟩ HLN'.out.2)))
        all_goals
          have hb78 : Below w'.heap.size w' w8 := Below.up (below_drewN (Below.refl _ w') 1) hb8
          have hO8 := HO8.out
          obtain ⟨gg, cg, rfl, hgg, hgg2⟩ := hO8.form (by omega)
          have hgg' : w'.heap.size ≤ gg := hgg
          rw [← HFLT.out] at hO8
          have hdl : (css.drop j).length = (l.drop j).length := by rw [List.length_drop, List.length_drop, HQ1.out]
          have hll : l.length - j = (l.drop j).length := by rw [List.length_drop]
          have hDlt : ∀ q, D' q → q < w'.heap.size := fun q hq => (HQ5.out q hq).2.1
          have hn8 : OutS 91 2 putR 0 w8 (.slice (some ⟨gg, 0, none⟩) (l.length - j) cg) (l.drop j) D' := by
            refine ⟨css.drop j, hdl, fun cs hcs => HQ2.out cs (List.mem_of_mem_drop hcs), ?_, fun i a c => ?_, fun q hq => ⟨Nat.zero_le _, by have := hDlt q hq; have := hb78.size; omega, fun e => ?_⟩⟩
            · rw [← hll]; exact ownsRow_lower' hO8 (Nat.zero_le _)
            · rw [List.getElem_drop, List.getElem_drop]
              exact putR_stable _ _ _ _ _ _ (fun _ h => h) (fun q hq => hb78.block q (hDlt q hq)) (HQ4.out (j + i) (by rw [List.length_drop] at a; omega) (by rw [List.length_drop] at c; omega))
            · have e' : gg = q := by simpa [Value.ownBlock] using e
              have := hDlt q hq; omega
          have hput := HPUT.out w8 w9 (.slice (some ⟨gg, 0, none⟩) (l.length - j) cg) gg (fun g hg hd => (HQ5.out g hd).2.2 hg) hb78 (grownBy_refl w8 _) rfl (.inr hgg') hgg2 hn8 (fun q h => .inl h) (fun q h => h) hR9.mapIs hT9
          obtain ⟨hp1, hp2⟩ := hput
          have hz9 := hp2.size
          have hB9 := hp1.wider (F' := fun q => F q ∨ (w.heap.size < q ∧ q < w9.heap.size)) (fun q hq => by
            rcases hq with (h | h) | h
            · exact .inl h
            · exact .inr ⟨h.1, by omega⟩
            · exact .inr ⟨by have := h.1; have := HZ'.out; omega, h.2⟩) (fun k hk => hk.elim (fun hf => by have := HFD.out k hf; have := HZ'.out; omega) (fun h => h.2))
          have hc9 : Chg F w w9 := HC'.out.trans' hp2 (fun i hi h => h.elim id fun h => by have := h.1; omega)
          have hz99 : w.heap.size < w9.heap.size := by have := HZ'.out; omega
          have HB9 := Lib.hid hB9
          have HC9 := Lib.hid hc9
          have HZ99 := Lib.hid hz99
          clear hB9 hc9 hz99
          clear hp1 hp2 hn8 hR8 hT9 hb78 hO8 hu9 hDlt hll hdl hgg hgg2 hgg'
          go_wp2_with fail
          go_roundg left'.length
          case measure => have := HLEN.out; have := HG.out; omega
          case rel => exact ⟨left', _, _, D', Nat.le_refl _, by rw [HQS.out.1]; go_num, hR9, HB9.out, HC9.out, ⟨HQS.out.2, HZ99.out⟩, HCUT.out, HLN'.out.1⟩
end Go.Proofs
