/- Package horizon: Open, and what nil answers; the law's awake. -/
import Derived.Test.YtnegbfeokcjclaaHorizon2
namespace Go.Proofs
open Go.RowKit Sc

/-- What the handles that are given look like. -/
structure Keyed (last : Int) (tm : List (Int × Int)) : Prop where
  lo : 0 ≤ last
  hi : last ≤ 1000000
  ks : ∀ x ∈ tm, 1 ≤ x.1 ∧ x.1 ≤ last
  ln : tm.length ≤ 1000000
theorem Keyed.fresh {last : Int} {tm : List (Int × Int)} (h : Keyed last tm) : ∀ x ∈ tm, x.1 ≠ last + 1 := fun x hx e => by have := (h.ks x hx).2; omega

def OpenOk (most : Int) (tm : List (Int × Int)) (t : Int) : Int := if t < 0 ∨ 1099511627776 < t then 1 else if most ≤ tm.length then 6 else 0
def OpenSaid (F : Nat → Prop) (v : Value) (most last : Int) (tm : List (Int × Int)) (t : Int) (w : World) (e : Ending) (w' : World) : Prop :=
  (OpenOk most tm t ≠ 0 ∧ e = .returned (.tuple #[.int .i64 0, .int .i64 (OpenOk most tm t)]) ∧ Below w.heap.size w w') ∨
  (OpenOk most tm t = 0 ∧ e = .returned (.tuple #[.int .i64 (last + 1), .int .i64 0]) ∧ BookIs F w' v most (last + 1) (tm ++ [(last + 1, t)]) ∧ Chg F w w')

set_option maxHeartbeats 1000000 in
theorem bookOpen_any (F : Nat → Prop) (v : Value) (most last : Int) (tm : List (Int × Int)) (t : Int) (w : World) (hb : BookIs F w v most last tm) (hk : Keyed last tm) :
    Calls Try.prog 31 #[v, .int .i64 t] w (OpenSaid F v most last tm t w) := by
  have HB := Lib.hid hb
  have HK := Lib.hid hk
  have HL := Lib.hid hk.ln
  obtain ⟨k1, k2, k3, k4⟩ := hk
  clear k3 k4
  obtain ⟨⟨b, r, rfl, h2, h3, h4, h5⟩, hd, hr⟩ := hb
  by_cases hrange : t < 0 ∨ 1099511627776 < t
  · have hok : OpenOk most tm t = 1 := if_pos hrange
    clear h4 h5 hr
    have HOK := Lib.hid hok
    clear hok
    rcases hrange with h | h
    all_goals
      go_enter Try.func31, Try.ntmps31
      go_wp2
      go_ret2
      exact .inl ⟨by rw [HOK.out]; decide, by rw [HOK.out]; rfl, Below.refl _ _⟩
  · obtain ⟨g1, g2⟩ := not_or.1 hrange
    have hg1 : 0 ≤ t := by omega
    have hg2 : t ≤ 1099511627776 := by omega
    have HR := Lib.hid hr
    have hbr : b ≠ r := by intro e; obtain ⟨es, c, hh, _⟩ := h5; rw [← e, h4] at hh; cases hh
    by_cases hroom : most ≤ tm.length
    · have hok : OpenOk most tm t = 6 := by rw [OpenOk, if_neg hrange, if_pos hroom]
      have HOK := Lib.hid hok
      clear hok h4 h5 hr hrange g1 g2
      go_enter Try.func31, Try.ntmps31
      go_wp2_with fail
      refine (bookCount_any F _ most last tm _ HB.out HL.out).mono ?_
      rintro e w1 ⟨rfl, hb1⟩
      go_wp2_with fail
      refine (bookRoom_any F _ most last tm _ (HB.out.up hb1)).mono ?_
      rintro e w2 ⟨rfl, rfl⟩
      go_wp2_with fail
      go_ret2
      exact .inl ⟨by rw [HOK.out]; decide, by rw [HOK.out]; rfl, hb1⟩
    · have hok : OpenOk most tm t = 0 := by rw [OpenOk, if_neg hrange, if_neg hroom]
      have hroom' : (tm.length : Int) < most := by omega
      have HOK := Lib.hid hok
      have H4 := Lib.hid h4
      have H5 := Lib.hid h5
      have hbs := hd b h2
      clear hok h4 h5 hr hrange g1 g2 hroom
      go_enter Try.func31, Try.ntmps31
      go_wp2_with fail
      refine (bookCount_any F _ most last tm _ HB.out HL.out).mono ?_
      rintro e w1 ⟨rfl, hb1⟩
      go_wp2_with fail
      refine (bookRoom_any F _ most last tm _ (HB.out.up hb1)).mono ?_
      rintro e w2 ⟨rfl, rfl⟩
      have h4 := (hb1.block b hbs).trans H4.out
      have hc1 : w1.cell? ⟨b, 1, none⟩ = some (.int .i64 last) := by rw [cell_row h4]; rfl
      have hc2 : w1.cell? ⟨b, 2, none⟩ = some (.map (some r)) := by rw [cell_row h4]; rfl
      have hf1 : w1.frozen? ⟨b, 1, none⟩ = false := fz_row h4 1
      have h6 := heap_set_same (i := 1) h4 (.int .i64 (last + 1))
      have hm : MapIs (w1.setCell ⟨b, 1, none⟩ (.int .i64 (last + 1))) r (ivs tm) := (H5.out.up hb1).same (G := (· ≠ b)) (fun k hk => Below.heap_setCell _ _ _ k hk) (fun e => hbr e.symm)
      have hch := (chg_set w1 b 1 (.int .i64 (last + 1)) (S := F) h2)
      go_wp2_with fail
      generalize hW : w1.setCell ⟨b, 1, none⟩ (.int .i64 (last + 1)) = W2 at hm h6 hch ⊢
      obtain ⟨w3, hu, hm3, hT⟩ := (hm.up (w' := W2.drew) (below_drewN (Below.refl _ _) 1)).update (P := Try.prog) Try.underlying98 Try.underlying3 (last + 1) (.int .i64 t)
      have hd1 : W2.cell? ⟨b, 1, none⟩ = some (.int .i64 (last + 1)) := by rw [cell_row h6]; rfl
      have hd2 : W2.cell? ⟨b, 2, none⟩ = some (.map (some r)) := by rw [cell_row h6]; rfl
      have hd3 : w3.cell? ⟨b, 1, none⟩ = some (.int .i64 (last + 1)) := (hT.cell _).trans hd1
      have HM3 := Lib.hid hm3
      have HT := Lib.hid hT
      have H6 := Lib.hid h6
      have HCH := Lib.hid hch
      have HB1 := Lib.hid hb1
      clear hm hm3 hT h6 hch hb1 h4 hc1 hc2 hf1 hW
      go_region
      all_goals go_wp2
      go_ret2
      rw [ivs_set, aset_new HK.out.fresh] at HM3
      have hb6 : w3.heap[b]? = some (.cells #[.int .i64 most, .int .i64 (last + 1), .map (some r)] 100 (0, 0)) := by
        rw [HT.out.block b hbr]; exact H6.out
      refine .inr ⟨HOK.out, rfl, ⟨⟨b, r, rfl, h2, h3, hb6, HM3.out⟩, ?_, ?_⟩, ?_⟩
      · refine hd.of_size ?_
        have z1 := HB1.out.size
        have z2 := HCH.out.size
        have z3 := HT.out.size
        simp at z3
        omega
      · intro x hx
        rcases List.mem_append.1 hx with hx | hx
        · exact HR.out x hx
        · obtain rfl := List.mem_singleton.1 hx
          simp only [I64]
          omega
      · exact ((Chg.of_below HB1.out (fun k h1 h2 => by omega)).trans HCH.out).trans (Chg.after_up (below_drewN (Below.refl _ _) 1) (HT.out.chg (S := F) h3))
end Go.Proofs
