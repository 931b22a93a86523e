/- Package ival: Meets, Has, Crosses, Add. -/
import Derived.Test.YteodkepnalhceaaIval4
import Derived.Test.YteodkepnalhceaaConcat
namespace Go.Proofs
open Go.RowKit Sc

theorem meetsC_any (x e : Ext) (b : Nat) (W : World) (h0 : W.cell? ⟨b, 0, none⟩ = some (.int .i64 e.first)) (h1 : W.cell? ⟨b, 1, none⟩ = some (.int .i64 e.len)) (hx : Sml x) (he : Sml e) :
    Calls Try.prog 52 #[extV x, .pointer (some ⟨b, 0, none⟩)] W fun r w' => r = .returned (.bool (meetB x e)) ∧ Below W.heap.size W w' := by
  have hb0 := below_alloc W (.cells #[.int .i64 x.first, .int .i64 x.len] 28)
  have h0' := cell_up hb0 h0
  have h1' := cell_up hb0 h1
  have HB0 := Lib.hid hb0
  clear hb0
  clear h0 h1
  go_enter Try.func52, Try.ntmps52
  go_wp2_with fail
  refine (meet_any x e _ hx he).mono ?_
  rintro r w1 ⟨rfl, hb1⟩
  have hb2 := Below.up HB0.out hb1
  have HB1 := Lib.hid hb1
  have HB2 := Lib.hid hb2
  clear hb1 hb2
  go_wp2
  go_ret
  exact ⟨rfl, HB2.out⟩
/-- Has a set a block of an extent? -/
def meetsB (l : List Ext) (e : Ext) : Bool := mayB e && l.any fun x => meetB x e
set_option maxHeartbeats 400000 in
theorem setMeets_any (F : Nat → Prop) (v : Value) (most : Int) (l : List Ext) (e : Ext) (w : World) (h : SetIs F w v most l) (hs : ∀ x ∈ l, Oke x) (i1 : I64 e.first) (i2 : I64 e.len) :
    Calls Try.prog 23 #[v, extV e] w fun r w' => r = .returned (.bool (meetsB l e)) ∧ Below w.heap.size w w' := by
  have hb0 := below_alloc w (.cells #[.int .i64 e.first, .int .i64 e.len] 28)
  have he0 : (w.alloc (.cells #[.int .i64 e.first, .int .i64 e.len] 28)).cell? ⟨w.heap.size, 0, none⟩ = some (.int .i64 e.first) := by rw [cell_row (heap_alloc_new w _)]; rfl
  have he1 : (w.alloc (.cells #[.int .i64 e.first, .int .i64 e.len] 28)).cell? ⟨w.heap.size, 1, none⟩ = some (.int .i64 e.len) := by rw [cell_row (heap_alloc_new w _)]; rfl
  obtain ⟨b, p, c, rfl, _, hb, hc0, hc1, hx⟩ := (h.up hb0).cells
  have HB0 := Lib.hid hb0
  have HX := Lib.hid hx
  have HS := Lib.hid hs
  clear hb0 hx hs
  clear h
  cases hq : mayB e with
  | false =>
    have hm : meetsB l e = false := by unfold meetsB; rw [hq]; rfl
    have HM := Lib.hid hm
    have HQ := Lib.hid hq
    clear hm hq
    clear he0 he1
    go_enter Try.func23, Try.ntmps23
    go_wp2_with fail
    refine (may_any e _ i1 i2).mono ?_
    rintro r w1 ⟨rfl, hb1⟩
    rw [HQ.out]
    have hb2 := Below.up HB0.out hb1
    have HB1 := Lib.hid hb1
    have HB2 := Lib.hid hb2
    clear hb1 hb2
    go_wp2
    go_ret
    exact ⟨congrArg boolRet HM.out.symm, HB2.out⟩
  | true =>
    have hm : meetsB l e = l.any fun x => meetB x e := by unfold meetsB; rw [hq]; rfl
    have hsm := mayB_sml hq
    have HM := Lib.hid hm
    have HQ := Lib.hid hq
    have HSM := Lib.hid hsm
    clear hm hq hsm
    go_enter Try.func23, Try.ntmps23
    go_wp2_with fail
    refine (may_any e _ i1 i2).mono ?_
    rintro r w1 ⟨rfl, hb1⟩
    rw [HQ.out]
    have hc11 := cell_up hb1 hc1
    have hd0 := cell_up hb1 he0
    have hd1 := cell_up hb1 he1
    have hb2 := Below.up HB0.out hb1
    have hx1 := ExtsAt.up HX.out hb1
    have HB1 := Lib.hid hb1
    have HB2 := Lib.hid hb2
    have HX1 := Lib.hid hx1
    have HD0 := Lib.hid hd0
    have HD1 := Lib.hid hd1
    clear hb1 hb2 hx1 hd0 hd1
    clear hc0 hc1 he0 he1
    go_wp2_with fail
    refine (anyExt_any F _ l (fun x => meetB x e) 52 #[.pointer (some ⟨w.heap.size, 0, none⟩)] (by go_simp) _ HX1.out (fun i hi W hW => meetsC_any l[i] e w.heap.size W (cell_up hW HD0.out) (cell_up hW HD1.out) (HS.out _ (List.getElem_mem hi)).sml HSM.out)).mono ?_
    rintro r w2 ⟨rfl, hb3⟩
    have hb4 := Below.up HB2.out hb3
    have HB3 := Lib.hid hb3
    have HB4 := Lib.hid hb4
    clear hb3 hb4
    go_wp2
    go_ret
    exact ⟨congrArg boolRet HM.out.symm, HB4.out⟩
def hasB (l : List Ext) (x : Int) : Bool := meetsB l ⟨x, 1⟩
theorem setHas_any (F : Nat → Prop) (v : Value) (most : Int) (l : List Ext) (x : Int) (w : World) (h : SetIs F w v most l) (hs : ∀ x ∈ l, Oke x) (i1 : I64 x) :
    Calls Try.prog 20 #[v, .int .i64 x] w fun r w' => r = .returned (.bool (hasB l x)) ∧ Below w.heap.size w w' := by
  have hme := setMeets_any F v most l ⟨x, 1⟩ w h hs i1 (by unfold I64; simp only; omega)
  obtain ⟨b, p, c, rfl, _⟩ := h.cells
  have HME := Lib.hid hme
  clear hme
  clear h
  go_enter Try.func20, Try.ntmps20
  go_wp2_with fail
  refine (HME.out).mono ?_
  rintro r w1 ⟨rfl, hb1⟩
  have HB1 := Lib.hid hb1
  clear hb1
  go_wp2
  go_ret
  exact ⟨rfl, HB1.out⟩
theorem hasB_iff {l : List Ext} {x : Int} (h : ∀ e ∈ l, Oke e) : hasB l x = true ↔ cov l x := by
  unfold hasB meetsB
  rw [Bool.and_eq_true, List.any_eq_true]
  constructor
  · rintro ⟨_, e, he, hm⟩
    unfold meetB at hm
    simp only [Bool.and_eq_true, decide_eq_true_eq] at hm
    exact ⟨e, he, by omega, by omega⟩
  · rintro ⟨e, he, h1, h2⟩
    have ho := h e he
    unfold Oke at ho
    refine ⟨mayB_iff.2 (by simp only; omega), e, he, ?_⟩
    unfold meetB
    simp only [Bool.and_eq_true, decide_eq_true_eq]
    omega
theorem crossCC_any (x a : Ext) (b : Nat) (W : World) (h0 : W.cell? ⟨b, 0, none⟩ = some (.int .i64 a.first)) (h1 : W.cell? ⟨b, 1, none⟩ = some (.int .i64 a.len)) (hx : Sml x) (ha : Sml a) :
    Calls Try.prog 49 #[extV x, .pointer (some ⟨b, 0, none⟩)] W fun r w' => r = .returned (.bool (meetB a x)) ∧ Below W.heap.size W w' := by
  have hb0 := below_alloc W (.cells #[.int .i64 x.first, .int .i64 x.len] 28)
  have h0' := cell_up hb0 h0
  have h1' := cell_up hb0 h1
  have HB0 := Lib.hid hb0
  clear hb0
  clear h0 h1
  go_enter Try.func49, Try.ntmps49
  go_wp2_with fail
  refine (meet_any a x _ ha hx).mono ?_
  rintro r w1 ⟨rfl, hb1⟩
  have hb2 := Below.up HB0.out hb1
  have HB1 := Lib.hid hb1
  have HB2 := Lib.hid hb2
  clear hb1 hb2
  go_wp2
  go_ret
  exact ⟨rfl, HB2.out⟩
theorem crossC_any (a : Ext) (m : List Ext) (b : Nat) (vt : Value) (one : vt.oneCell' = true) (W : World) (hc : W.cell? ⟨b, 0, none⟩ = some vt) (ha : Sml a) (hm : ∀ x ∈ m, Oke x)
    (hE : ∀ W', Below W.heap.size W W' → Calls Try.prog 16 #[vt] W' (ExtsSaid m W')) :
    Calls Try.prog 48 #[extV a, .pointer (some ⟨b, 0, none⟩)] W fun r w' => r = .returned (.bool (m.any fun x => meetB a x)) ∧ Below W.heap.size W w' := by
  have hb0 := below_alloc W (.cells #[.int .i64 a.first, .int .i64 a.len] 28)
  have he0 : (W.alloc (.cells #[.int .i64 a.first, .int .i64 a.len] 28)).cell? ⟨W.heap.size, 0, none⟩ = some (.int .i64 a.first) := by rw [cell_row (heap_alloc_new W _)]; rfl
  have he1 : (W.alloc (.cells #[.int .i64 a.first, .int .i64 a.len] 28)).cell? ⟨W.heap.size, 1, none⟩ = some (.int .i64 a.len) := by rw [cell_row (heap_alloc_new W _)]; rfl
  have hc' := cell_up hb0 hc
  have HB0 := Lib.hid hb0
  have HE := Lib.hid hE
  have HM := Lib.hid hm
  have HA := Lib.hid ha
  have HE0 := Lib.hid he0
  have HE1 := Lib.hid he1
  clear hb0 hE hm ha he0 he1
  clear hc
  go_enter Try.func48, Try.ntmps48
  go_wp2_with fail
  refine (HE.out _ HB0.out).mono ?_
  rintro r w1 ⟨p, c, rfl, hx, hb1⟩
  have hd0 := cell_up hb1 HE0.out
  have hd1 := cell_up hb1 HE1.out
  have hb2 := Below.up HB0.out hb1
  have HB1 := Lib.hid hb1
  have HB2 := Lib.hid hb2
  have HX := Lib.hid hx
  have HD0 := Lib.hid hd0
  have HD1 := Lib.hid hd1
  clear hb1 hb2 hx hd0 hd1
  go_wp2_with fail
  refine (anyExt_any _ _ m (fun x => meetB a x) 49 #[.pointer (some ⟨W.heap.size, 0, none⟩)] (by go_simp) _ HX.out (fun i hi W' hW => crossCC_any m[i] a W.heap.size W' (cell_up hW HD0.out) (cell_up hW HD1.out) (HM.out _ (List.getElem_mem hi)).sml HA.out)).mono ?_
  rintro r w2 ⟨rfl, hb3⟩
  have hb4 := Below.up HB2.out hb3
  have HB3 := Lib.hid hb3
  have HB4 := Lib.hid hb4
  clear hb3 hb4
  go_wp2
  go_ret
  exact ⟨rfl, HB4.out⟩
def crossB (l m : List Ext) : Bool := l.any fun a => m.any fun x => meetB a x
theorem setCrosses_any (l m : List Ext) (ps pt : Option Addr) (w : World) (hl : ∀ x ∈ l, Oke x) (hm : ∀ x ∈ m, Oke x)
    (hE1 : ∀ W', Below w.heap.size w W' → Calls Try.prog 16 #[.pointer ps] W' (ExtsSaid l W')) (hE2 : ∀ W', Below w.heap.size w W' → Calls Try.prog 16 #[.pointer pt] W' (ExtsSaid m W')) :
    Calls Try.prog 21 #[.pointer ps, .pointer pt] w fun r w' => r = .returned (.bool (crossB l m)) ∧ Below w.heap.size w w' := by
  have hb0 := below_alloc w (.cells #[.pointer pt] 23)
  have he0 : (w.alloc (.cells #[.pointer pt] 23)).cell? ⟨w.heap.size, 0, none⟩ = some (.pointer pt) := by rw [cell_row (heap_alloc_new w _)]; rfl
  have HB0 := Lib.hid hb0
  have HE0 := Lib.hid he0
  have HE1 := Lib.hid hE1
  have HE2 := Lib.hid hE2
  have HL := Lib.hid hl
  have HM := Lib.hid hm
  clear hb0 he0 hE1 hE2 hl hm
  go_enter Try.func21, Try.ntmps21
  go_wp2_with fail
  refine (HE1.out _ HB0.out).mono ?_
  rintro r w1 ⟨p, c, rfl, hx, hb1⟩
  have hd0 := cell_up hb1 HE0.out
  have hb2 := Below.up HB0.out hb1
  have HB1 := Lib.hid hb1
  have HB2 := Lib.hid hb2
  have HX := Lib.hid hx
  have HD0 := Lib.hid hd0
  clear hb1 hb2 hx hd0
  go_wp2_with fail
  refine (anyExt_any _ _ l (fun a => m.any fun x => meetB a x) 48 #[.pointer (some ⟨w.heap.size, 0, none⟩)] (by go_simp) _ HX.out (fun i hi W' hW => crossC_any l[i] m w.heap.size (.pointer pt) rfl W' (cell_up hW HD0.out) (HL.out _ (List.getElem_mem hi)).sml HM.out (fun W2 hW2 => HE2.out W2 (Below.up (Below.up HB2.out hW) hW2)))).mono ?_
  rintro r w2 ⟨rfl, hb3⟩
  have hb4 := Below.up HB2.out hb3
  have HB3 := Lib.hid hb3
  have HB4 := Lib.hid hb4
  clear hb3 hb4
  go_wp2
  go_ret
  exact ⟨rfl, HB4.out⟩

/-- What Add answers, and leaves. -/
def addCode (most : Int) (l0 l : List Ext) : Int := if allB l = false then 1 else if l = [] then 0 else if most < ((normE (l0 ++ l)).length : Int) then 7 else 0
def addNext (most : Int) (l0 l : List Ext) : List Ext := if addCode most l0 l = 0 then normE (l0 ++ l) else l0
theorem allB_mem {l : List Ext} (h : allB l = true) : ∀ e ∈ l, mayB e = true := by unfold allB at h; rwa [List.all_eq_true] at h
/-- What Add answers of nothing. -/
def nilCode (l : List Ext) : Int := if allB l = false then 1 else if l = [] then 0 else 7
theorem addNil (v lv : Value) (l : List Ext) (G : Nat → Prop) (w : World) (hv : v = .pointer none) (hl : ExtsAt G w lv l) : Calls Try.prog 15 #[v, lv] w fun r w' => r = .returned (.int .i64 (nilCode l)) ∧ Below w.heap.size w w' := by
  subst hv
  unfold nilCode
  have H := Lib.hid hl
  obtain ⟨p, c, rfl⟩ := extsAt_shape hl
  clear hl
  cases hq : allB l with
  | false =>
    have HQ := Lib.hid hq
    clear hq
    go_enter Try.func15, Try.ntmps15
    go_wp2_with fail
    refine (all_any G _ l _ H.out).mono ?_
    rintro r w1 ⟨rfl, hb1⟩
    rw [HQ.out]
    have HB1 := Lib.hid hb1
    clear hb1
    go_wp2
    go_ret
    exact ⟨rfl, HB1.out⟩
  | true =>
    by_cases hn : l = []
    · subst hn
      have HQ := Lib.hid hq
      clear hq
      go_enter Try.func15, Try.ntmps15
      go_wp2_with fail
      refine (all_any G _ [] _ H.out).mono ?_
      rintro r w1 ⟨rfl, hb1⟩
      rw [HQ.out]
      have HB1 := Lib.hid hb1
      clear hb1
      go_wp2
      go_ret
      exact ⟨rfl, HB1.out⟩
    · have hlen : ((l.length : Nat) : Int) ≠ 0 := by have := List.length_pos_iff.2 hn; omega
      have hl0 : ((l.length : Int) == 0) = false := by rw [beq_eq_false_iff_ne]; exact hlen
      have hf : (if true = false then (1 : Int) else if l = [] then 0 else 7) = 7 := by simp [hn]
      have HQ := Lib.hid hq
      have HF := Lib.hid hf
      clear hq hf
      clear hlen
      go_enter Try.func15, Try.ntmps15
      go_wp2_with fail
      refine (all_any G _ l _ H.out).mono ?_
      rintro r w1 ⟨rfl, hb1⟩
      rw [HQ.out]
      have HB1 := Lib.hid hb1
      clear hb1
      go_wp2
      go_ret
      exact ⟨rfl, HB1.out⟩
def AddSaid (F : Nat → Prop) (v : Value) (most : Int) (l0 l : List Ext) (w : World) (r : Ending) (w' : World) : Prop :=
  r = .returned (.int .i64 (addCode most l0 l)) ∧ Chg F w w' ∧ SetIs (fun k => F k ∨ New w w' k) w' v most (addNext most l0 l)
theorem SetIs.more {F : Nat → Prop} {w w' : World} {v : Value} {most : Int} {l : List Ext} (h : SetIs F w v most l) (hb : Below w.heap.size w w') : SetIs (fun k => F k ∨ New w w' k) w' v most l := by
  obtain ⟨⟨b, sv, h1, h2, h3, h4⟩, hd⟩ := h.up hb
  refine ⟨⟨b, sv, h1, .inl h2, h3, SlAt.mono h4 (fun _ h => .inl h) (fun _ _ _ h => h)⟩, fun k hk => hk.elim (hd k) fun h => h.2⟩
theorem normE_self {l : List Ext} (h : Canon l) : normE (l ++ []) = l := by
  rw [List.append_nil]
  exact normE_ext h.1 h fun _ => Iff.rfl

set_option maxRecDepth 100000 in
set_option maxHeartbeats 2000000 in
theorem setAdd_any (F G : Nat → Prop) (v lv : Value) (most : Int) (l0 l : List Ext) (w : World) (h : SetIs F w v most l0) (hl : ExtsAt G w lv l) (ho : ∀ e ∈ l0, Oke e) (hc : Canon l0) (n0 : l0.length ≤ 50000) (n1 : l.length ≤ 50000) :
    Calls Try.prog 15 #[v, lv] w (AddSaid F v most l0 l w) := by
  have H := Lib.hid hl
  have HS := Lib.hid h
  obtain ⟨p, c, rfl⟩ := extsAt_shape hl
  obtain ⟨b, p0, c0, rfl, hFb, hb, hc0, hc1, hx⟩ := h.cells
  have hheap := h.out
  clear hl
  cases hq : allB l with
  | false =>
    have hcode : addCode most l0 l = 1 := by unfold addCode; rw [if_pos hq]
    have hnext : addNext most l0 l = l0 := by unfold addNext; rw [if_neg (by rw [hcode]; decide)]
    have HQ := Lib.hid hq
    have HCODE := Lib.hid hcode
    have HNEXT := Lib.hid hnext
    clear hq hcode hnext
    clear hx hheap
    go_enter Try.func15, Try.ntmps15
    go_wp2_with fail
    refine (all_any G _ l _ H.out).mono ?_
    rintro r w1 ⟨rfl, hb1⟩
    rw [HQ.out]
    have HB1 := Lib.hid hb1
    clear hb1
    go_wp2
    go_ret
    refine ⟨?_, Chg.of_below HB1.out (fun k h1 h2 => by omega), ?_⟩
    · rw [HCODE.out]; rfl
    · rw [HNEXT.out]; exact HS.out.more HB1.out
  | true =>
    by_cases hn : l = []
    · subst hn
      have hcode : addCode most l0 [] = 0 := by unfold addCode; rw [if_neg (by rw [hq]; decide), if_pos rfl]
      have hnext : addNext most l0 [] = l0 := by unfold addNext; rw [if_pos hcode, normE_self hc]
      have HQ := Lib.hid hq
      have HCODE := Lib.hid hcode
      have HNEXT := Lib.hid hnext
      clear hq hcode hnext
      clear hx hheap
      go_enter Try.func15, Try.ntmps15
      go_wp2_with fail
      refine (all_any G _ [] _ H.out).mono ?_
      rintro r w1 ⟨rfl, hb1⟩
      rw [HQ.out]
      have HB1 := Lib.hid hb1
      clear hb1
      go_wp2
      go_ret
      refine ⟨?_, Chg.of_below HB1.out (fun k h1 h2 => by omega), ?_⟩
      · rw [HCODE.out]; rfl
      · rw [HNEXT.out]; exact HS.out.more HB1.out
    · have hlen : ((l.length : Nat) : Int) ≠ 0 := by have := List.length_pos_iff.2 hn; omega
      have hl0 : ((l.length : Int) == 0) = false := by rw [beq_eq_false_iff_ne]; exact hlen
      have hall : ∀ e ∈ l0 ++ l, Oke e := fun e he => (List.mem_append.1 he).elim (ho e) fun h => mayB_oke (allB_mem hq e h)
      have hcd : addCode most l0 l = if most < ((normE (l0 ++ l)).length : Int) then 7 else 0 := by unfold addCode; rw [if_neg (by rw [hq]; decide), if_neg hn]
      have HQ := Lib.hid hq
      have HCD := Lib.hid hcd
      have HALL := Lib.hid hall
      have HX := Lib.hid hx
      have HHEAP := Lib.hid hheap
      clear hq hcd hall hx hheap
      clear hlen
      go_enter Try.func15, Try.ntmps15
      go_wp2_with fail
      refine (all_any G _ l _ H.out).mono ?_
      rintro r w1 ⟨rfl, hb1⟩
      rw [HQ.out]
      have hc11 := cell_up hb1 hc1
      have hc01 := cell_up hb1 hc0
      have hx1 := (ExtsAt.up HX.out hb1)
      have hl1 := ExtsAt.up H.out hb1
      have HB1 := Lib.hid hb1
      have HX1 := Lib.hid hx1
      have HL1 := Lib.hid hl1
      clear hb1 hx1 hl1
      clear hc0 hc1
      have hA := below_alloc w1 (.cells #[.slice p0 l0.length c0, .slice p l.length c] 29)
      have hr0 : (w1.alloc (.cells #[.slice p0 l0.length c0, .slice p l.length c] 29)).cell? ⟨w1.heap.size, 0, none⟩ = some (.slice p0 l0.length c0) := by rw [cell_row (heap_alloc_new w1 _)]; rfl
      have hr1 : (w1.alloc (.cells #[.slice p0 l0.length c0, .slice p l.length c] 29)).cell? ⟨w1.heap.size, 1, none⟩ = some (.slice p l.length c) := by rw [cell_row (heap_alloc_new w1 _)]; rfl
      have hcon := concatExt_any (fun _ => True) w1.heap.size p0 p c0 c l0 l _ hr0 hr1 (SlAt.mono (ExtsAt.up HX1.out hA) (fun _ _ => trivial) (fun _ _ _ h => h)) (SlAt.mono (ExtsAt.up HL1.out hA) (fun _ _ => trivial) (fun _ _ _ h => h)) (by omega) (by omega)
      have hB := cell_up hA hc11
      have hC := cell_up hA hc01
      have hD := Below.up HB1.out hA
      have hlll : (l0 ++ l).length ≤ 100000 := by simp; omega
      generalize hll : l0 ++ l = ll at *
      have HA := Lib.hid hA
      have HCON := Lib.hid hcon
      have HB := Lib.hid hB
      have HC := Lib.hid hC
      have HD := Lib.hid hD
      have HLL := Lib.hid hll
      clear hA hcon hB hC hD hll
      clear hr0 hr1 hc01
      go_wp2_with fail
      refine (HCON.out).mono ?_
      rintro r w2 ⟨v2, rfl, HO2, HB2⟩
      have hx2 := row_extsAt (fun _ => True) rfl (fun e he => by have := HALL.out e he; unfold Oke at this; unfold I64; omega) (fun _ _ _ => trivial) HO2.out
      obtain ⟨p2, c2, rfl⟩ := extsAt_shape hx2
      have hB2 := cell_up HB2.out HB.out
      have hC2 := cell_up HB2.out HC.out
      have hD2 := Below.up HD.out HB2.out
      have HX2 := Lib.hid hx2
      have HD2 := Lib.hid hD2
      clear hx2 hD2
      go_wp2_with fail
      refine (joined_any _ _ ll _ HX2.out HALL.out hlll).mono ?_
      rintro r w3 ⟨v3, rfl, ho3, hb3⟩
      have hnoke := normE_oke HALL.out
      have hx3 := row_extsAt (New w w3) rfl (fun e he => by have := hnoke e he; unfold Oke at this; unfold I64; omega) (fun k h1 h2 => ⟨by have := HD2.out.size; omega, h2⟩) ho3
      have hD3 := Below.up HD2.out hb3
      have hB3 := cell_up hb3 hB2
      have hC3 := cell_up hb3 hC2
      generalize hxx : normE ll = x at *
      obtain ⟨p3, c3, rfl⟩ := extsAt_shape hx3
      have HX3 := Lib.hid hx3
      have HD3 := Lib.hid hD3
      have HNOKE := Lib.hid hnoke
      have HXX := Lib.hid hxx
      clear hx3 hD3 hnoke hxx
      clear ho3 hb3 hB2 hC2 hc11
      by_cases hbig : most < (x.length : Int)
      · have hcode : addCode most l0 l = 7 := by rw [HCD.out, if_pos hbig]
        have hnext : addNext most l0 l = l0 := by unfold addNext; rw [if_neg (by rw [hcode]; decide)]
        have HCODE := Lib.hid hcode
        have HNEXT := Lib.hid hnext
        clear hcode hnext
        go_wp2_with fail
        go_ret
        refine ⟨?_, Chg.of_below HD3.out (fun k h1 h2 => by omega), ?_⟩
        · rw [HCODE.out]; rfl
        · rw [HNEXT.out]; exact HS.out.more HD3.out
      · have hcode : addCode most l0 l = 0 := by rw [HCD.out, if_neg hbig]
        have hnext : addNext most l0 l = x := by unfold addNext; rw [if_pos hcode, HLL.out, HXX.out]
        have hbig' : (x.length : Int) ≤ most := by omega
        obtain ⟨b', sv, he, _, hh, hsv⟩ := HHEAP.out
        cases he
        have hfz : w3.frozen? ⟨b, 1, none⟩ = false := by rw [HD3.out.frozen (p := ⟨b, 1, none⟩) hb]; exact fz_row hh 1
        have hh3 : w3.heap[b]? = some (.cells #[.int .i64 most, sv] 41 (0, 0)) := by rw [HD3.out.block b hb]; exact hh
        have HCODE := Lib.hid hcode
        have HNEXT := Lib.hid hnext
        have HH := Lib.hid hh
        have HH3 := Lib.hid hh3
        have HSV := Lib.hid hsv
        clear hcode hnext hh hh3 hsv
        clear hbig
        go_wp2_with fail
        go_ret
        have hdz := HD3.out.size
        refine ⟨?_, ?_, ?_⟩
        · rw [HCODE.out]; rfl
        · exact (Chg.of_below HD3.out (fun k h1 h2 => by omega)).trans (chg_set w3 b 1 _ hFb)
        · rw [HNEXT.out]
          refine ⟨⟨b, .slice p3 x.length c3, rfl, .inl hFb, by rw [heap_set_same HH3.out]; rfl, ?_⟩, fun k hk => ?_⟩
          · refine SlAt.mono (ExtsAt.same HX3.out (w' := w3.setCell ⟨b, 1, none⟩ (.slice p3 x.length c3)) fun k hk => ?_) (fun k hk => .inr ?_) (fun _ _ _ h => h)
            · exact Below.heap_setCell _ _ _ k (fun e => by have := hk.1; simp at e; omega)
            · exact ⟨hk.1, by have := hk.2; simpa [World.setCell] using this⟩
          · rcases hk with hk | hk
            · have := HS.out.dom k hk
              simp [World.setCell]; omega
            · exact hk.2
end Go.Proofs
