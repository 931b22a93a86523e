/- Package ival: New, Extents, Count, Meets, Has, Crosses. -/
import Derived.Test.YteodkepnalhceaaIval3
namespace Go.Proofs
open Go.RowKit Sc

/-- A Set, in the blocks F. -/
structure SetIs (F : Nat → Prop) (w : World) (v : Value) (most : Int) (l : List Ext) : Prop where
  out : ∃ b sv, v = .pointer (some ⟨b, 0, none⟩) ∧ F b ∧ w.heap[b]? = some (.cells #[.int .i64 most, sv] 41 (0, 0)) ∧ ExtsAt F w sv l
  dom : Dom F w
theorem SetIs.same {F : Nat → Prop} {w w' : World} {v : Value} {most : Int} {l : List Ext} (h : SetIs F w v most l) (hs : Same F w w') (hz : w.heap.size ≤ w'.heap.size) : SetIs F w' v most l := by
  obtain ⟨⟨b, sv, h1, h2, h3, h4⟩, hd⟩ := h
  exact ⟨⟨b, sv, h1, h2, by rw [hs b h2]; exact h3, h4.same hs⟩, hd.of_size hz⟩
theorem SetIs.up {F : Nat → Prop} {w w' : World} {v : Value} {most : Int} {l : List Ext} (h : SetIs F w v most l) (hb : Below w.heap.size w w') : SetIs F w' v most l := h.same (h.dom.same hb) hb.size
def SetA (v : Value) (most : Int) (l : List Ext) : Asn := ⟨fun F w => SetIs F w v most l, fun _ _ _ hs hz h => h.same hs hz⟩
theorem SetIs.cells {F : Nat → Prop} {w : World} {v : Value} {most : Int} {l : List Ext} (h : SetIs F w v most l) :
    ∃ b p c, v = .pointer (some ⟨b, 0, none⟩) ∧ F b ∧ b < w.heap.size ∧ w.cell? ⟨b, 0, none⟩ = some (.int .i64 most) ∧ w.cell? ⟨b, 1, none⟩ = some (.slice p l.length c) ∧ ExtsAt F w (.slice p l.length c) l := by
  obtain ⟨⟨b, sv, h1, h2, h3, h4⟩, hd⟩ := h
  obtain ⟨p, c, rfl⟩ := extsAt_shape h4
  exact ⟨b, p, c, h1, h2, hd b h2, by rw [cell_row h3]; rfl, by rw [cell_row h3]; rfl, h4⟩

def SetNew (n : Int) (w : World) (e : Ending) (w' : World) : Prop := ∃ b : Nat, e = .returned (.pointer (some ⟨b, 0, none⟩)) ∧ SetIs (New w w') w' (.pointer (some ⟨b, 0, none⟩)) n [] ∧ Below w.heap.size w w'
theorem setNew_any (n : Int) (w : World) : Calls Try.prog 14 #[.int .i64 n] w (SetNew n w) := by
  go_enter Try.func14, Try.ntmps14
  go_wp2
  go_ret
  exact ⟨w.heap.size, rfl, ⟨⟨w.heap.size, .slice none 0 0, rfl, ⟨Nat.le_refl _, by simp⟩, heap_alloc_new w _, SlAt.nil⟩, fun k hk => hk.2⟩, below_alloc w _⟩

/-- Cells of extents, freshly laid, or none. -/
def ExtsSaid (l : List Ext) (w : World) (e : Ending) (w' : World) : Prop := ∃ p c, e = .returned (.slice p l.length c) ∧ ExtsAt (New w w') w' (.slice p l.length c) l ∧ Below w.heap.size w w'
theorem cloneExt_any (G : Nat → Prop) (v : Value) (l : List Ext) (w : World) (hv : ExtsAt G w v l) (hi : ∀ e ∈ l, I64 e.first ∧ I64 e.len) (hl : l.length ≤ 1000000) :
    Calls Try.prog 46 #[v] w (ExtsSaid l w) := by
  obtain ⟨p, c, rfl, h1, h2, h3, h4⟩ := hv
  cases p with
  | none =>
    obtain rfl := h3 rfl
    obtain rfl : l = [] := List.length_eq_zero_iff.1 (by omega)
    refine (cloneExt_nil w).mono ?_
    rintro e w' ⟨rfl, rfl⟩
    exact ⟨none, 0, rfl, SlAt.nil, Below.refl _ _⟩
  | some a =>
    refine (cloneExt_some a l.length c (flatE l) w (flatE_length l) ?_ (flatE_one l) hl).mono ?_
    · exact extsAt_news (G := G) (w := w) (a := a) (n := l.length) (c := c) (l := l) ⟨_, c, rfl, h1, h2, h3, h4⟩
    · rintro e w' ⟨v', rfl, ho, hb⟩
      have := row_extsAt (New w w') rfl hi (fun k a b => ⟨a, b⟩) ho.out
      obtain ⟨p', c', rfl⟩ := extsAt_shape this
      exact ⟨p', c', rfl, this, hb.out⟩
theorem extsAt_i64 {G : Nat → Prop} {w : World} {v : Value} {l : List Ext} (h : ExtsAt G w v l) : ∀ e ∈ l, I64 e.first ∧ I64 e.len := by
  obtain ⟨p, c, rfl, _, _, _, h4⟩ := h
  intro e he
  obtain ⟨i, hi, rfl⟩ := List.getElem_of_mem he
  obtain ⟨_, _, _, _, _, _, q⟩ := h4 i hi
  exact q
theorem setExtents_any (F : Nat → Prop) (v : Value) (most : Int) (l : List Ext) (w : World) (h : SetIs F w v most l) (hl : l.length ≤ 1000000) :
    Calls Try.prog 16 #[v] w (ExtsSaid l w) := by
  obtain ⟨b, p, c, rfl, _, hb, hc0, hc1, hx⟩ := h.cells
  have hcl := cloneExt_any F _ l w hx (extsAt_i64 hx) hl
  have HCL := Lib.hid hcl
  clear hcl
  clear hx
  go_enter Try.func16, Try.ntmps16
  go_wp2_with fail
  refine (HCL.out).mono ?_
  rintro e w1 ⟨p', c', rfl, hx1, hb1⟩
  have HX1 := Lib.hid hx1
  have HB1 := Lib.hid hb1
  clear hx1 hb1
  go_wp2
  go_ret
  exact ⟨p', c', rfl, HX1.out, HB1.out⟩
theorem setExtents_nil (w : World) : Calls Try.prog 16 #[.pointer none] w fun e w' => e = .returned (.slice none 0 0) ∧ w = w' := by
  go_enter Try.func16, Try.ntmps16
  go_wp2
  go_ret
  exact ⟨rfl, rfl⟩
/-- How many blocks. -/
def cntE (l : List Ext) : Int := (l.map (·.len)).sum
theorem cntE_take (l : List Ext) (k : Nat) (h : k < l.length) : cntE (l.take (k + 1)) = cntE (l.take k) + l[k].len := by
  unfold cntE; rw [take_snoc l k h, List.map_append, List.sum_append]; simp only [List.map_cons, List.map_nil, List.sum_cons, List.sum_nil]; omega
theorem cntE_bd (l : List Ext) (h : ∀ e ∈ l, Oke e) : ∀ k, 0 ≤ cntE (l.take k) ∧ cntE (l.take k) ≤ 1048577 * l.length := by
  have : ∀ m : List Ext, (∀ e ∈ m, Oke e) → 0 ≤ cntE m ∧ cntE m ≤ 1048577 * m.length := by
    intro m
    induction m with
    | nil => intro _; simp [cntE]
    | cons e m ih =>
      intro h
      have h1 := ih fun x hx => h x (by simp [hx])
      have h2 := h e (by simp)
      unfold Oke at h2
      unfold cntE at *
      simp only [List.map_cons, List.sum_cons, List.length_cons]
      omega
  intro k
  have h1 := this (l.take k) fun e he => h e (List.mem_of_mem_take he)
  rw [List.length_take] at h1
  have : min k l.length ≤ l.length := Nat.min_le_right _ _
  omega
set_option maxHeartbeats 1000000 in
theorem countLoop_any (l : List Ext) (h : ∀ e ∈ l, Oke e) (hl : l.length ≤ 1000000) (v : Value) (w : World) (hv : Calls Try.prog 16 #[v] w (ExtsSaid l w)) :
    Calls Try.prog 17 #[v] w fun e w' => e = .returned (.int .i64 (cntE l)) ∧ Below w.heap.size w w' := by
  have HV := Lib.hid hv
  have H := Lib.hid h
  clear hv h
  go_enter Try.func17, Try.ntmps17
  go_wp2_with fail
  refine (HV.out).mono ?_
  rintro e w1 ⟨p, c, rfl, hx, hb1⟩
  obtain ⟨p', c', he, h1, h2, _, h4⟩ := hx
  cases he
  have H4 := Lib.hid h4
  have HB1 := Lib.hid hb1
  clear h4 hb1
  go_wp2_with fail
  go_loopw [2, 8] (fun s i wr => ∃ k : Nat, k ≤ l.length ∧ i = .int .i64 k ∧ s = .int .i64 (cntE (l.take k)) ∧ Hid (Below w1.heap.size w1 wr)) (fun _ i _ => l.length - (intOf i).toNat)
  case atStart => exact ⟨0, by omega, rfl, by simp [cntE], Below.refl _ _⟩
  case round =>
    obtain ⟨k, hk, rfl, rfl, HB⟩ := hrel
    by_cases hlt : k < l.length
    · obtain ⟨b, o, rfl, hb, hc0, hc1, _, _⟩ := H4.out k hlt
      have hc0' := cell_up HB.out hc0
      have hc1' := cell_up HB.out hc1
      have hsu := cntE_take l k hlt
      have hbd := cntE_bd l H.out k
      have hok := H.out _ (List.getElem_mem hlt)
      unfold Oke at hok
      generalize l[k] = e at *
      generalize cntE (l.take k) = q at *
      have hb2 := Below.up HB.out (below_alloc wr (.cells #[.int .i64 e.first, .int .i64 e.len] 28))
      obtain ⟨hbd1, hbd2⟩ := hbd
      obtain ⟨ok1, ok2, ok3, ok4⟩ := hok
      have hq : q ≤ 1048577 * 1000000 := by omega
      have hw1 : IntKind.i64.wrap (q + e.len) = q + e.len := IntWalk.i64_in _ (by omega)
      have HSU := Lib.hid hsu
      have HB2 := Lib.hid hb2
      clear hsu hb2
      clear hc0 hc1 hbd2
      go_wp2_with fail
      go_roundw
      case rel => exact ⟨k + 1, by omega, by go_num, by rw [HSU.out], HB2.out⟩
      case measure => simp [intOf]; omega
    · obtain rfl : k = l.length := by omega
      have hb2 := Below.up HB1.out HB.out
      have HB2 := Lib.hid hb2
      clear hb2
      go_wp2
      go_ret
      refine ⟨?_, HB2.out⟩
      rw [List.take_length]
      rfl
theorem setCount_any (F : Nat → Prop) (v : Value) (most : Int) (l : List Ext) (w : World) (h : SetIs F w v most l) (ho : ∀ e ∈ l, Oke e) (hl : l.length ≤ 1000000) :
    Calls Try.prog 17 #[v] w fun e w' => e = .returned (.int .i64 (cntE l)) ∧ Below w.heap.size w w' := countLoop_any l ho hl v w (setExtents_any F v most l w h hl)
theorem setCount_nil (w : World) : Calls Try.prog 17 #[.pointer none] w fun e w' => e = .returned (.int .i64 0) ∧ Below w.heap.size w w' :=
  countLoop_any [] (by simp) (by simp) _ w ((setExtents_nil w).mono fun _ _ ⟨h1, h2⟩ => ⟨none, 0, h1, SlAt.nil, by subst h2; exact Below.refl _ _⟩)
end Go.Proofs
