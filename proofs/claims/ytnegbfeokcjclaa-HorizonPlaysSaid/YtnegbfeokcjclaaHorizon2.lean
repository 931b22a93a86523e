/- Package horizon: room, List, Count, Low, Open. -/
import Derived.Test.YtnegbfeokcjclaaHorizon
namespace Go.Proofs
open Go.RowKit Sc

theorem bookRoom_any (F : Nat → Prop) (v : Value) (most last : Int) (tm : List (Int × Int)) (w : World) (hb : BookIs F w v most last tm) :
    Calls Try.prog 56 #[v] w fun e w' => e = .returned (.int .i64 most) ∧ w = w' := by
  obtain ⟨⟨b, r, rfl, h2, h3, h4, h5⟩, hd, _⟩ := hb
  have hc0 : w.cell? ⟨b, 0, none⟩ = some (.int .i64 most) := by rw [cell_row h4]; rfl
  clear h4 h5
  go_enter Try.func56, Try.ntmps56
  go_wp2
  go_ret
  exact ⟨rfl, rfl⟩

set_option maxHeartbeats 400000 in
theorem bookList_any (F : Nat → Prop) (v : Value) (most last : Int) (tm : List (Int × Int)) (w : World) (hb : BookIs F w v most last tm) (hl : tm.length ≤ 1000000) :
    Calls Try.prog 41 #[v] w (SortedKeys (tm.map (·.1)) w) := by
  obtain ⟨⟨b, r, rfl, h2, h3, h4, h5⟩, hd, hr⟩ := hb
  have hc2 : w.cell? ⟨b, 2, none⟩ = some (.map (some r)) := by rw [cell_row h4]; rfl
  have H5 := Lib.hid h5
  have HL := Lib.hid hl
  have HR := Lib.hid hr
  clear h4 h5 hl hr
  go_enter Try.func41, Try.ntmps41
  go_wp2_with fail
  refine (keysInt_any r _).mono ?_
  rintro e w1 ⟨rfl, rfl⟩
  go_wp2_with fail
  refine (sortedInt_any r w.heap.size (ivs tm) _ (H5.out.alloc _) (fun x hx => ?_) (by simp only [ivs, List.length_map]; exact HL.out) (by simp) (by go_simp)).mono ?_
  · obtain ⟨y, hy, rfl⟩ := List.mem_map.1 hx
    exact (HR.out y hy).1
  rintro e w2 ⟨kv, rfl, hrow, hb2⟩
  rw [ivs_keys] at hrow
  have HROW := Lib.hid hrow
  clear hrow
  go_wp2_with fail
  go_ret
  obtain ⟨g1, g2⟩ := HROW.out
  exact ⟨kv, rfl, ownsRow_lower HROW.out (by simp), Below.up (below_alloc _ _) hb2⟩

theorem shape_row {w : World} {B T : Nat} {v : Value} {n : Nat} {xs : List Value} (h : w.ownsRow B T 1 v n xs) : ∃ p c, v = .slice p n c := by
  obtain ⟨_, hc | ⟨g, cap, cur, rfl, _⟩⟩ := h
  · obtain ⟨rfl, rfl⟩ := hc; exact ⟨_, _, rfl⟩
  · exact ⟨_, _, rfl⟩
set_option maxHeartbeats 400000 in
theorem bookCount_any (F : Nat → Prop) (v : Value) (most last : Int) (tm : List (Int × Int)) (w : World) (hb : BookIs F w v most last tm) (hl : tm.length ≤ 1000000) :
    Calls Try.prog 39 #[v] w fun e w' => e = .returned (.int .i64 tm.length) ∧ Below w.heap.size w w' := by
  have HB := Lib.hid hb
  have HL := Lib.hid hl
  obtain ⟨⟨b, r, rfl, _⟩, _, _⟩ := hb
  clear hl
  go_enter Try.func39, Try.ntmps39
  go_wp2_with fail
  refine (bookList_any F _ most last tm _ HB.out HL.out).mono ?_
  rintro e w1 ⟨kv, rfl, hrow, hb1⟩
  rw [List.length_map] at hrow
  obtain ⟨p, c, rfl⟩ := shape_row hrow
  clear hrow
  go_wp2_with fail
  go_ret
  exact ⟨rfl, hb1⟩

/-- The least of them and now. -/
def lowOf (now : Int) (l : List Int) : Int := l.foldl min now
theorem lowOf_perm {l m : List Int} (h : l.Perm m) : ∀ now, lowOf now l = lowOf now m := by
  induction h with
  | nil => exact fun _ => rfl
  | cons x _ ih => exact fun now => ih (min now x)
  | swap x y l =>
    intro now
    show lowOf (min (min now y) x) l = lowOf (min (min now x) y) l
    congr 1; omega
  | trans _ _ ih1 ih2 => exact fun now => (ih1 now).trans (ih2 now)
def vals (l : List (Int × Value)) : List Int := l.map fun x => intOf x.2
theorem vals_ivs (tm : List (Int × Int)) : vals (ivs tm) = tm.map (·.2) := by simp [vals, ivs, intOf]

set_option maxHeartbeats 1000000 in
theorem bookLow_any (F : Nat → Prop) (v : Value) (most last : Int) (tm : List (Int × Int)) (now : Int) (w : World) (hb : BookIs F w v most last tm) :
    Calls Try.prog 37 #[v, .int .i64 now] w fun e w' => e = .returned (.int .i64 (lowOf now (tm.map (·.2)))) ∧ Below w.heap.size w w' := by
  obtain ⟨⟨b, r, rfl, h2, h3, h4, h5⟩, hd, hr⟩ := hb
  have hc2 : w.cell? ⟨b, 2, none⟩ = some (.map (some r)) := by rw [cell_row h4]; rfl
  obtain ⟨o, hrg, hR⟩ := h5.range (P := Try.prog) Try.underlying98
  have HR := Lib.hid hR
  clear h4 h5 hR hr
  go_enter Try.func37, Try.ntmps37
  go_wp2
  go_loopg [1] tm.length (fun gg s1 wr => ∃ left q, left.length ≤ gg ∧ s1 = .int .i64 q ∧ Hid (lowOf q (vals left) = lowOf now (tm.map (·.2))) ∧ Ranges wr w.heap.size r (ivs tm) left ∧ Hid (Below w.heap.size w wr))
  case atStart => exact ⟨ivs tm, now, by simp [ivs], rfl, by unfold Hid; rw [vals_ivs], HR.out, below_alloc w o⟩
  case round =>
    obtain ⟨left, q, hg, rfl, hq, hR, hb⟩ := hrel
    rcases hR.next (P := Try.prog) 0 with ⟨rfl, hn⟩ | ⟨n, v, left', w', hp, hmem, hn, hen, hR', hst⟩
    · clear hR hrg
      go_wp2
      go_ret
      exact ⟨by rw [← hq.out]; rfl, hb.out⟩
    · obtain ⟨y, hy, hye⟩ := List.mem_map.1 hmem
      obtain ⟨y1, t⟩ := y
      simp only [Prod.mk.injEq] at hye
      obtain ⟨rfl, rfl⟩ := hye
      have hb' := hb.out.trans (hst.below (Nat.le_refl _))
      have HB' := Lib.hid hb'
      have HP := Lib.hid hp
      have HR' := Lib.hid hR'
      have HG := Lib.hid hg
      clear hb' hp hR' hR hst hmem hrg hg hy
      go_wp2
      go_roundg left'.length
      case measure =>
        have hl := HP.out.length_eq
        have h2 := HG.out
        simp at hl
        omega
      case rel =>
        refine ⟨left', min q t, Nat.le_refl _, ?_, ?_, HR'.out, HB'.out⟩
        · first | rfl | (congr 2; done) | (congr 2; omega)
        · unfold Hid
          rw [← hq.out]
          have hq2 : lowOf q (vals left) = lowOf (min q t) (vals left') := lowOf_perm (HP.out.map (fun x : Int × Value => intOf x.2)) q
          exact hq2.symm
end Go.Proofs
