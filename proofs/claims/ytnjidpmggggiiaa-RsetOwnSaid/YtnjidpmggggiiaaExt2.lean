/- Package extmap: Get, within, Range. -/
import Derived.Test.YtnjidpmggggiiaaExt1
namespace Go.Proofs
open Go.RowKit Sc

/-- What a block was at a time, and since when. -/
def getV (vs : Vers) (lba t : Int) : Bytes × Int :=
  let l := (alook vs lba).getD []
  match l[atN l t - 1]? with
  | some p => if atN l t = 0 then (zeroB, 0) else (p.data, p.lba)
  | none => (zeroB, 0)
def ExtGetSaid (blocks : Int) (vs : Vers) (lba t : Int) (w : World) (e : Ending) (w' : World) : Prop :=
  (blk blocks lba = false ∧ e = .returned (.tuple #[.slice none 0 0, .int .i64 0]) ∧ Below w.heap.size w w') ∨
  (blk blocks lba = true ∧ ∃ v, e = .returned (.tuple #[v, .int .i64 (getV vs lba t).2]) ∧ BytesW (New w w') w' v (getV vs lba t).1 ∧ Below w.heap.size w w')

set_option maxRecDepth 100000 in
set_option maxHeartbeats 1000000 in
theorem extGet_any (F : Nat → Prop) (v : Value) (blocks last : Int) (vs : Vers) (lba t : Int) (w : World) (h : ExtIs F w v blocks last vs) (hs : ∀ k l, alook vs k = some l → ∀ p ∈ l, p.data.length ≤ 1000000) :
    Calls Try.prog 68 #[v, .int .i64 lba, .int .i64 t] w (ExtGetSaid blocks vs lba t w) := by
  have H := Lib.hid h
  obtain ⟨b, r, ml, rfl, hb, hc0, hc1, hc2, hm, ha⟩ := h.cells
  clear h
  cases hq : blk blocks lba with
  | false =>
    have HQ := Lib.hid hq
    clear hm ha hq
    go_enter Try.func68, Try.ntmps68
    go_wp2_with fail
    refine (extBlock_any F _ _ _ _ _ _ H.out).mono ?_
    rintro e w1 ⟨rfl, rfl⟩
    rw [HQ.out]
    go_wp2
    go_ret2
    exact .inl ⟨HQ.out, rfl, Below.refl _ _⟩
  | true =>
    have HQ := Lib.hid hq
    have hl := hm.lookup (P := Try.prog) Try.underlying106 Try.underlying3 (Try.zeroValue113 _) lba false
    have hval : ∃ u l, (alook ml lba).getD (.slice none 0 0) = u ∧ (alook vs lba).getD [] = l ∧ PutsAt (Old w) w u l ∧ ∀ p ∈ l, p.data.length ≤ 1000000 := by
      rcases ha.look lba with ⟨h1, h2⟩ | ⟨u, l, h1, h2, h3⟩
      · exact ⟨_, _, by rw [h1]; rfl, by rw [h2]; rfl, SlAt.nil, by simp⟩
      · exact ⟨u, l, by rw [h1]; rfl, by rw [h2]; rfl, h3, hs _ _ h2⟩
    obtain ⟨u, l, hu, hvl, hp, hs40⟩ := hval
    simp only [hu, Bool.false_eq_true, if_false] at hl
    have hat := extAt_any F _ _ _ _ lba t _ H.out
    rw [hvl] at hat
    have hgv : getV vs lba t = match l[atN l t - 1]? with
      | some p => if atN l t = 0 then (zeroB, 0) else (p.data, p.lba)
      | none => (zeroB, 0) := by unfold getV; rw [hvl]
    have hle := atN_le l t
    obtain ⟨p, c, rfl, h1, h2, h3, h4⟩ := hp
    have H4 := Lib.hid h4
    have HGV := Lib.hid hgv
    have HAT := Lib.hid hat
    clear h4 hgv hat
    clear hm ha hq h3 hu hvl hs
    cases hn : atN l t with
    | zero =>
      have hg2 : getV vs lba t = (zeroB, 0) := by
        rw [HGV.out, hn]
        split <;> rfl
      rw [hn] at HAT
      obtain ⟨i0, hi, hz0, hz1, hz2⟩ := info_parts infoU8
      have HG2 := Lib.hid hg2
      clear hg2
      clear hn hle
      go_enter Try.func68, Try.ntmps68
      go_wp2_with fail
      refine (extBlock_any F _ _ _ _ _ _ H.out).mono ?_
      rintro e w1 ⟨rfl, rfl⟩
      rw [HQ.out]
      go_wp2_with fail
      refine (HAT.out).mono ?_
      rintro e w1 ⟨rfl, rfl⟩
      go_wp2_with (at_make; refine wpList_make_full _ rfl _ _ 26 rfl w.heap.size 5 i0 (.int .u8 0) 1 Try.underlying26 hi hz0 hz1 _ _ _ _ 40 rfl rfl rfl rfl (by rw [hz2]; omega) (by unfold maxLen; omega) (Nat.le_refl _) ?_; intro w0 hown0 hgrow0)
      go_ret2
      have hlt := hown0.lt w.heap.size rfl
      refine .inr ⟨HQ.out, _, by rw [HG2.out]; rfl, ?_, (Below.refl _ _).grown hgrow0 (Nat.le_refl _) (fun j hj => by cases hj)⟩
      rw [HG2.out]
      exact bytesW_row (B := w.heap.size) (l := zeroB) _ ⟨Nat.le_refl _, hlt.2⟩ (by decide) (Nat.le_refl _) (by omega) (by rw [made_u8] at hown0; exact hown0)
    | succ j =>
      have hj : j < l.length := by omega
      have hg2 : getV vs lba t = (l[j].data, l[j].lba) := by
        rw [HGV.out, hn]
        simp [hj]
      rw [hn] at HAT
      have hej : (((j + 1 : Nat) : Int) - 1) = (j : Int) := by omega
      rw [hej] at HAT
      obtain ⟨g, o, rfl, hg, hct, hti, dv, hcd, hd⟩ := H4.out j hj
      have hd40 := hs40 _ (List.getElem_mem hj)
      generalize l[j] = x at hct hti hcd hd hd40 hg2
      have hd' := BytesAt.up hd (below_alloc w (.cells #[.int .i64 x.lba, dv] 115))
      obtain ⟨dp, dc, rfl⟩ := shape_of hd rfl
      have hjl : (j : Int) < (l.length : Int) := by omega
      have HG2 := Lib.hid hg2
      have HD' := Lib.hid hd'
      have HD40 := Lib.hid hd40
      clear hg2 hd' hd40
      clear hn hle hej hd hs40
      go_enter Try.func68, Try.ntmps68
      go_wp2_with fail
      refine (extBlock_any F _ _ _ _ _ _ H.out).mono ?_
      rintro e w1 ⟨rfl, rfl⟩
      rw [HQ.out]
      go_wp2_with fail
      refine (HAT.out).mono ?_
      rintro e w1 ⟨rfl, rfl⟩
      go_wp2_with fail
      go_region_held3 (fun W => W.cell? ⟨w.heap.size, 0, none⟩ = some (.int .i64 x.lba) ∧ W.cell? ⟨w.heap.size, 1, none⟩ = some (.slice dp x.data.length dc))
        (first
          | go_keep
          | (go_split_ands
             exact ⟨cell_up hb3 (by assumption), cell_up hb3 (by assumption)⟩))
        ((first
          | (go_at_call 46; refine (clone_w (Old w) _ x.data _ (by exact BytesAt.up HD'.out (below_drewN (Below.refl _ _) 1)) HD40.out).mono ?_; rintro e w3 ⟨v3, rfl, hnv, hb3⟩)))
      have hz := hb3.size
      simp at hz
      go_wp2
      go_ret2
      refine .inr ⟨HQ.out, _, by rw [HG2.out]; rfl, ?_, Below.up (below_drewN (below_alloc w _) 1) hb3⟩
      rw [HG2.out]
      exact BytesW.mono hnv fun q hq => ⟨by have := hq.1; simp at this; omega, hq.2⟩
end Go.Proofs
