/- slices.rotateCmpFunc over scarp/api.History: two blocks exchanged. -/
import Derived.Test.YtjomlcemnbfnfaaSwapRangeK
namespace Go.Proofs
open Go.RowKit Go.Lib Go.Sort Go.Shelf
variable {α : Type} [Inhabited α]

set_option maxHeartbeats 4000000 in
set_option maxRecDepth 1000000 in
theorem rotateK {P : Program} {k : Nat} (L : StabK P k) (enc : α → List Value) (blk off cap a m b : Nat) (d0 d : Array α) (w0 w : World) (fv : Value) (R : RowK enc k w0 blk off d0) (hs : d0.size = d.size) (S : SWK enc k w0 blk off (d) (w)) (ham : a < m) (hmb : m < b) (hb : b ≤ d.size) (hsz : d.size < 4611686018427387904) :
    Calls P 95 #[.slice (some ⟨blk, off, none⟩) d.size cap, .int .i64 a, .int .i64 m, .int .i64 b, fv] w fun e w' => e = .returned (.tuple #[]) ∧ ∃ d', Rot a m b d d' ∧ SWK enc k w0 blk off (d') (w') := by
  have mixed : P.follows Departure.mixedOrders = true := L.mixed
  have t0 := L.t0
  have a0 := L.a0
  have z0 := L.z0
  have v0 := L.v0
  have t3 := L.t3
  have a3 := L.a3
  have z3 := L.z3
  have v3 := L.v3
  have t4 := L.t4
  have a4 := L.a4
  have z4 := L.z4
  have v4 := L.v4
  have t5 := L.t5
  have a5 := L.a5
  have z5 := L.z5
  have v5 := L.v5
  have t6 := L.t6
  have a6 := L.a6
  have z6 := L.z6
  have v6 := L.v6
  have t7 := L.t7
  have a7 := L.a7
  have z7 := L.z7
  have v7 := L.v7
  have aE := L.aE
  have zE := L.zE
  have u5 := run_underlying L.t5
  have cSwap := L.cSwap
  have S0 : Aside (SWK enc k w0 blk off (d) (w)) := S
  clear S
  go_enter L.fRot, Try.ntmps95
  go_wp2_with fail
  go_loopg [10, 11] (b - a) (fun kx s10 s11 wr => ∃ (i j : Nat) (dk : Array α), s10 = .int .i64 i ∧ s11 = .int .i64 j ∧ 0 < i ∧ 0 < j ∧ i ≤ m - a ∧ j ≤ b - m ∧ i + j ≤ kx ∧ dk.size = d.size ∧ Aside (SWK enc k w0 blk off (dk) (wr)) ∧ Aside (∀ d', Rot (m - i) m (m + j) dk d' → Rot a m b d d'))
  case atStart => exact ⟨m - a, b - m, d, by rw [show (m : Int) - (a : Int) = ((m - a : Nat) : Int) by omega], by rw [show (b : Int) - (m : Int) = ((b - m : Nat) : Int) by omega], by omega, by omega, Nat.le_refl _, Nat.le_refl _, by omega, rfl, S0, fun d' h => by rwa [show m - (m - a) = a by omega, show m + (b - m) = b by omega] at h⟩
  case round =>
    clear S0
    obtain ⟨i, j, dk, rfl, rfl, hi0, hj0, him, hjm, hkx, hds, S1, HR⟩ := hrel
    by_cases hij : i = j
    · obtain rfl := hij
      have hc := swapRangeK L enc blk off cap (m - i) m i d0 dk w0 wr fv R (by omega) S1.out (by omega) (by omega) (by omega)
      rw [show ((m - i : Nat) : Int) = (m : Int) - (i : Int) by omega, hds] at hc
      go_wp2_with fail
      refine hc.mono ?_
      rintro e w2 ⟨rfl, d2, h2, S2⟩
      have HS2 : Aside _ := S2
      have H2 : Aside _ := h2
      clear S2 h2 hc
      go_wp2
      go_end0
      exact ⟨rfl, d2, HR.out _ (rot_eq (by omega) H2.out), HS2.out⟩
    · have hijz : ¬ (i : Int) = (j : Int) := by omega
      by_cases hgt : j < i
      · have hgtz : (j : Int) < (i : Int) := by omega
        have hc := swapRangeK L enc blk off cap (m - i) m j d0 dk w0 wr fv R (by omega) S1.out (by omega) (by omega) (by omega)
        rw [show ((m - i : Nat) : Int) = (m : Int) - (i : Int) by omega, hds] at hc
        go_wp2_with fail
        refine hc.mono ?_
        rintro e w2 ⟨rfl, d2, h2, S2⟩
        have HS2 : Aside _ := S2
        have H2 : Aside _ := h2
        clear S2 h2 hc
        go_wp2
        go_roundg (i - j + j)
        case measure => omega
        case rel => exact ⟨i - j, j, d2, by rw [show (i : Int) - (j : Int) = ((i - j : Nat) : Int) by omega], rfl, by omega, hj0, by omega, hjm, Nat.le_refl _, by rw [H2.out.perm.1]; exact hds, HS2, fun d' h => HR.out d' (rot_left (by omega) hgt (by omega) H2.out h)⟩
      · have hgtz : ¬ (j : Int) < (i : Int) := by omega
        have hc := swapRangeK L enc blk off cap (m - i) (m + j - i) i d0 dk w0 wr fv R (by omega) S1.out (by omega) (by omega) (by omega)
        rw [show ((m - i : Nat) : Int) = (m : Int) - (i : Int) by omega, show ((m + j - i : Nat) : Int) = (m : Int) + (j : Int) - (i : Int) by omega, hds] at hc
        go_wp2_with fail
        refine hc.mono ?_
        rintro e w2 ⟨rfl, d2, h2, S2⟩
        have HS2 : Aside _ := S2
        have H2 : Aside _ := h2
        clear S2 h2 hc
        go_wp2
        go_roundg (i + (j - i))
        case measure => omega
        case rel => exact ⟨i, j - i, d2, rfl, by rw [show (j : Int) - (i : Int) = ((j - i : Nat) : Int) by omega], hi0, by omega, him, by omega, Nat.le_refl _, by rw [H2.out.perm.1]; exact hds, HS2, fun d' h => HR.out d' (rot_right (by omega) (by omega) (by omega) H2.out h)⟩
end Go.Proofs
