/- scarpref11's Book: At, Low. -/
import Derived.Test.YtnegbfeokcjclaaRefBook3
namespace Go.Proofs
open Go.RowKit Sc

/-- What At answers. -/
def rAt (hs ts : List Int) (h : Int) : Int × Int := if placeI hs h < 0 then (0, 14) else (ts.getD (placeI hs h).toNat 0, 0)
set_option maxRecDepth 100000 in
set_option maxHeartbeats 1000000 in
theorem refAt_any (F : Nat → Prop) (v : Value) (most : Int) (hs ts : List Int) (last h : Int) (w : World) (hd : Dom F w) (hp : RBookP v most hs ts last F w) (hl : ts.length = hs.length) :
    Calls Try.prog 36 #[v, .int .i64 h] w fun e w' => e = .returned (.tuple #[.int .i64 (rAt hs ts h).1, .int .i64 (rAt hs ts h).2]) ∧ Below w.heap.size w w' := by
  have hpl := refPlace_any F v most hs ts last h w hd hp
  obtain ⟨b, hv, tv, rfl, hFb, hh, h4, h5⟩ := hp
  have hbl := hd b hFb
  have hdef : rAt hs ts h = if placeI hs h < 0 then (0, 14) else (ts.getD (placeI hs h).toNat 0, 0) := rfl
  have hlt := placeI_lt (hs := hs) (h := h)
  generalize placeI hs h = P at *
  obtain ⟨tp, tc, rfl⟩ := intsAt_shape h5
  have hc2 : w.cell? ⟨b, 2, none⟩ = some (.slice tp ts.length tc) := by rw [cell_row hh]; rfl
  have HPL := Lib.hid hpl
  have H5 := Lib.hid h5
  have HH := Lib.hid hh
  clear hpl h5 hh
  clear h4
  rcases hlt with rfl | ⟨k, rfl, hk⟩
  case inl =>
    rw [if_pos (by omega)] at hdef
    rw [hdef]
    have HDEF := Lib.hid hdef
    clear hdef
    go_enter Try.func36, Try.ntmps36
    go_wp2_with fail
    refine (HPL.out).mono ?_
    rintro e w1 ⟨rfl, hb1⟩
    have HB1 := Lib.hid hb1
    clear hb1
    go_wp2
    go_ret2
    exact ⟨rfl, HB1.out⟩
  case inr =>
    rw [if_neg (by omega)] at hdef
    rw [hdef]
    have hk0 : ¬ (k : Int) < 0 := by omega
    have hk1 : (k : Int) < (ts.length : Int) := by omega
    have hk2 : k < ts.length := by omega
    have hgd : ts.getD (k : Int).toNat 0 = ts[k] := by rw [Int.toNat_natCast, List.getD_eq_getElem?_getD, List.getElem?_eq_getElem hk2]; rfl
    obtain ⟨x, hx⟩ : ∃ x, ts[k] = x := ⟨_, rfl⟩
    rw [hgd, hx]
    have HGD := Lib.hid hgd
    have HDEF := Lib.hid hdef
    clear hgd hdef
    go_enter Try.func36, Try.ntmps36
    go_wp2_with fail
    refine (HPL.out).mono ?_
    rintro e w1 ⟨rfl, hb1⟩
    obtain ⟨_, _, hv, _, _, _, g4⟩ := IntsAt.up H5.out hb1
    cases hv
    obtain ⟨g, o, rfl, _, hck, hi⟩ := g4 k hk2
    rw [Nat.mul_one] at hck
    have hc2' := cell_up hb1 hc2
    rw [hx] at hck hi
    have HB1 := Lib.hid hb1
    have HI := Lib.hid hi
    have HX := Lib.hid hx
    clear hb1 hi hx
    clear g4 hl
    go_wp2
    go_ret2
    exact ⟨rfl, HB1.out⟩

set_option maxRecDepth 100000 in
set_option maxHeartbeats 1000000 in
theorem refLow_any (F : Nat → Prop) (v : Value) (most : Int) (hs ts : List Int) (last now : Int) (w : World) (hd : Dom F w) (hp : RBookP v most hs ts last F w) :
    Calls Try.prog 38 #[v, .int .i64 now] w fun e w' => e = .returned (.int .i64 (lowOf now ts)) ∧ Below w.heap.size w w' := by
  obtain ⟨b, hv, tv, rfl, hFb, hh, h4, h5⟩ := hp
  obtain ⟨tp, tc, rfl⟩ := intsAt_shape h5
  have hc2 : w.cell? ⟨b, 2, none⟩ = some (.slice tp ts.length tc) := by rw [cell_row hh]; rfl
  have H5 := Lib.hid h5
  have HH := Lib.hid hh
  clear h5 hh
  clear h4
  go_enter Try.func38, Try.ntmps38
  go_wp2_with fail
  go_loopw [1, 5] (fun nv i wr => ∃ k : Nat, ∃ q : Int, k ≤ ts.length ∧ i = .int .i64 k ∧ nv = .int .i64 q ∧ Hid (q = lowOf now (ts.take k)) ∧ Hid (Below w.heap.size w wr)) (fun _ i _ => ts.length - (intOf i).toNat)
  case atStart => exact ⟨0, now, by omega, rfl, rfl, Lib.hid rfl, Lib.hid (Below.refl _ _)⟩
  case round =>
    obtain ⟨k, q, hk, rfl, rfl, HQ, HB⟩ := hrel
    have hc2' := cell_up HB.out hc2
    by_cases hlt : k < ts.length
    case pos =>
      obtain ⟨_, _, hv, _, _, _, g4⟩ := IntsAt.up H5.out HB.out
      cases hv
      obtain ⟨g, o, rfl, _, hck, hi⟩ := g4 k hlt
      rw [Nat.mul_one] at hck
      have hnx : lowOf now (ts.take (k + 1)) = min q ts[k] := by
        rw [take_snoc _ _ hlt, HQ.out]
        unfold lowOf
        rw [List.foldl_append]; rfl
      have hkI : (k : Int) < (ts.length : Int) := by omega
      generalize ts[k] = x at *
      have HNX := Lib.hid hnx
      have HI := Lib.hid hi
      clear hnx hi
      clear g4
      go_wp2_with fail
      go_roundw
      case rel => exact ⟨k + 1, min q x, by omega, by go_num, rfl, Lib.hid HNX.out.symm, HB⟩
      case measure => simp [intOf]; omega
    case neg =>
      have hq : q = lowOf now ts := by rw [HQ.out, List.take_of_length_le (by omega)]
      have HQ := Lib.hid hq
      clear hq
      go_wp2_with fail
      go_ret
      exact ⟨by rw [HQ.out]; rfl, HB.out⟩
end Go.Proofs
