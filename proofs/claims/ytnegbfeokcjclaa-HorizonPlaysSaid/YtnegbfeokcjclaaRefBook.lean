/- scarpref11's Book: place, At, Low. -/
import Derived.Test.YtnegbfeokcjclaaBookSep
import Derived.Test.YtnegbfeokcjclaaInts
import Derived.Test.YtnegbfeokcjclaaStepRun
import Derived.BigQuiet
namespace Go.Proofs
open Go.RowKit Sc

def RBookP (v : Value) (most : Int) (hs ts : List Int) (last : Int) (F : Nat → Prop) (w : World) : Prop :=
  ∃ b hv tv, v = .pointer (some ⟨b, 0, none⟩) ∧ F b ∧ w.heap[b]? = some (.cells #[.int .i64 most, hv, tv, .int .i64 last] 63 (0, 0)) ∧ IntsAt (fun q => F q ∧ q ≠ b) w hv hs ∧ IntsAt (fun q => F q ∧ q ≠ b) w tv ts
def RBookA (v : Value) (most : Int) (hs ts : List Int) (last : Int) : Asn := ⟨fun F w => RBookP v most hs ts last F w, fun F w w' hsm hz ⟨b, hv, tv, h1, h2, h3, h4, h5⟩ => ⟨b, hv, tv, h1, h2, (hsm b h2).trans h3, h4.same (fun q hq => hsm q hq.1), h5.same (fun q hq => hsm q hq.1)⟩⟩
def placeI (hs : List Int) (h : Int) : Int := match hs.findIdx? (· == h) with
  | some i => i
  | none => -1
theorem intsAt_shape {G : Nat → Prop} {w : World} {v : Value} {l : List Int} (h : IntsAt G w v l) : ∃ p c, v = .slice p l.length c := by
  obtain ⟨p, c, rfl, _⟩ := h; exact ⟨p, c, rfl⟩
theorem RBookP.same {v : Value} {most : Int} {hs ts : List Int} {last : Int} {F : Nat → Prop} {w w' : World} (h : RBookP v most hs ts last F w) (hsm : Same F w w') : RBookP v most hs ts last F w' := by
  obtain ⟨b, hv, tv, h1, h2, h3, h4, h5⟩ := h
  exact ⟨b, hv, tv, h1, h2, (hsm b h2).trans h3, h4.same (fun q hq => hsm q hq.1), h5.same (fun q hq => hsm q hq.1)⟩

set_option maxRecDepth 100000 in
set_option maxHeartbeats 1000000 in
theorem refPlace_any (F : Nat → Prop) (v : Value) (most : Int) (hs ts : List Int) (last h : Int) (w : World) (hd : Dom F w) (hp : RBookP v most hs ts last F w) :
    Calls Try.prog 57 #[v, .int .i64 h] w fun e w' => e = .returned (.int .i64 (placeI hs h)) ∧ Below w.heap.size w w' := by
  obtain ⟨b, hv, tv, rfl, hFb, hh, h4, h5⟩ := hp
  obtain ⟨p, c, rfl⟩ := intsAt_shape h4
  have hc1 : w.cell? ⟨b, 1, none⟩ = some (.slice p hs.length c) := by rw [cell_row hh]; rfl
  have H4 := Lib.hid h4
  have HH := Lib.hid hh
  clear h4 hh
  clear h5
  go_enter Try.func57, Try.ntmps57
  go_wp2_with fail
  go_loopw [5] (fun i wr => ∃ k : Nat, k ≤ hs.length ∧ i = .int .i64 k ∧ Hid (Below w.heap.size w wr) ∧ Hid (∀ j (hj : j < hs.length), j < k → hs[j] ≠ h)) (fun i _ => hs.length - (intOf i).toNat)
  case atStart => exact ⟨0, by omega, rfl, Below.refl _ _, fun j hj h0 => absurd h0 (by omega)⟩
  case round =>
    obtain ⟨k, hk, rfl, HB, HN⟩ := hrel
    have hc1' := cell_up HB.out hc1
    by_cases hlt : k < hs.length
    case pos =>
      obtain ⟨p', c', he, _, _, _, g4⟩ := IntsAt.same H4.out (fun q hq => Dom.same hd HB.out q hq.1)
      cases he
      obtain ⟨g, o, rfl, _, hck, _⟩ := g4 k hlt
      rw [Nat.mul_one] at hck
      have hhit : hs[k] = h → placeI hs h = k := fun e => by
        unfold placeI
        have : hs.findIdx? (· == h) = some k := by
          rw [List.findIdx?_eq_some_iff_getElem]
          exact ⟨hlt, by simpa using e, fun j hj => by simpa using HN.out j (by omega) hj⟩
        rw [this]
      have hnx : hs[k] ≠ h → ∀ j (hj : j < hs.length), j < k + 1 → hs[j] ≠ h := fun e j hj h1 => by
        by_cases hjk : j = k
        · subst hjk; exact e
        · exact HN.out j hj (by omega)
      generalize hs[k] = x at *
      have hkI : (k : Int) < (hs.length : Int) := by omega
      have HHIT := Lib.hid hhit
      have HNX := Lib.hid hnx
      clear hhit hnx
      clear g4
      by_cases hx : x = h
      case pos =>
        have hxb : (x == h) = true := by rw [beq_iff_eq]; exact hx
        have hpl := HHIT.out hx
        have HPL := Lib.hid hpl
        have HX := Lib.hid hx
        clear hpl hx
        go_wp2_with fail
        go_ret
        rw [HPL.out]
        exact ⟨rfl, HB.out⟩
      case neg =>
        have hxb : (x == h) = false := by rw [beq_eq_false_iff_ne]; exact hx
        have hn2 := HNX.out hx
        have HN2 := Lib.hid hn2
        have HX := Lib.hid hx
        clear hn2 hx
        go_wp2_with fail
        go_roundw
        case rel => exact ⟨k + 1, by omega, by go_num, HB.out, HN2.out⟩
        case measure => simp [intOf]; omega
    case neg =>
      have hpl : placeI hs h = -1 := by
        unfold placeI
        have : hs.findIdx? (· == h) = none := by
          rw [List.findIdx?_eq_none_iff]
          intro x hx
          obtain ⟨j, hj, rfl⟩ := List.mem_iff_getElem.1 hx
          simpa using HN.out j hj (by omega)
        rw [this]
      have HPL := Lib.hid hpl
      clear hpl
      go_wp2_with fail
      go_ret
      rw [HPL.out]
      exact ⟨rfl, HB.out⟩
end Go.Proofs
