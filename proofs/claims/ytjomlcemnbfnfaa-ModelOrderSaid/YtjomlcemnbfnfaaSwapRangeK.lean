/- slices.swapRangeCmpFunc over scarp/api.History: two ranges exchanged. -/
import Derived.Shelf.SlSortCmp.KitK
import Derived.Sort.WalkB2
import Derived.Sort.WalkB12
import Derived.Deep.LoopGhost
import Derived.Test.YtjomlcemnbfnfaaStabLay
import Derived.Test.YtjomlcemnbfnfaaStablePlain
namespace Go.Proofs
open Go.RowKit Go.Lib Go.Sort Go.Shelf
variable {α : Type} [Inhabited α]

set_option maxHeartbeats 4000000 in
set_option maxRecDepth 1000000 in
theorem swapRangeK {P : Program} {k : Nat} (L : StabK P k) (enc : α → List Value) (blk off cap a b n : Nat) (d0 d : Array α) (w0 w : World) (fv : Value) (R : RowK enc k w0 blk off d0) (hs : d0.size = d.size) (S : SWK enc k w0 blk off (d) (w)) (hab : a + n ≤ b) (hb : b + n ≤ d.size) (hsz : d.size < 4611686018427387904) :
    Calls P 109 #[.slice (some ⟨blk, off, none⟩) d.size cap, .int .i64 a, .int .i64 b, .int .i64 n, fv] w fun e w' => e = .returned (.tuple #[]) ∧ ∃ d', SwR a b n d d' ∧ SWK enc k w0 blk off (d') (w') := by
  have mixed : P.follows Departure.mixedOrders = true := L.mixed
  have t0 := L.t0
  have a0 := L.a0
  have z0 := L.z0
  have v0 := L.v0
  have t3 := L.t3
  have a3 := L.a3
  have z3 := L.z3
  have v3 := L.v3
  have t4 := L.t4
  have a4 := L.a4
  have z4 := L.z4
  have v4 := L.v4
  have t5 := L.t5
  have a5 := L.a5
  have z5 := L.z5
  have v5 := L.v5
  have t6 := L.t6
  have a6 := L.a6
  have z6 := L.z6
  have v6 := L.v6
  have t7 := L.t7
  have a7 := L.a7
  have z7 := L.z7
  have v7 := L.v7
  have aE := L.aE
  have zE := L.zE
  have u5 := run_underlying L.t5
  have S0 : Aside (SWK enc k w0 blk off (d) (w)) := S
  clear S
  go_enter L.fSwap, Try.ntmps109
  go_wp2
  go_loopg [10] n (fun kx s10 wr => ∃ (i : Nat) (dk : Array α), s10 = .int .i64 i ∧ i ≤ n ∧ n - i ≤ kx ∧ dk.size = d.size ∧ Aside (SWK enc k w0 blk off (dk) (wr)) ∧ Aside (SwR a b i d dk))
  case atStart => exact ⟨0, d, rfl, by omega, by omega, rfl, S0, SwR.zero a b d⟩
  case round =>
    clear S0
    obtain ⟨i, dk, rfl, hin, hkx, hds, S1, HR⟩ := hrel
    by_cases hlt : i < n
    · have hltz : (i : Int) < (n : Int) := by omega
      have ea100 : ((a : Int) + (i : Int)).toNat = a + i := by omega
      have ec100 : ((b : Int) + (i : Int)).toNat = b + i := by omega
      have pa100 : (0 : Int) ≤ (a : Int) + (i : Int) := by omega
      have ba100 : (a : Int) + (i : Int) < (d.size : Int) := by omega
      have ra100 : IntKind.i64.wrap ((a : Int) + (i : Int)) = (a : Int) + (i : Int) := by rw [IntKind.wrap_i64]; omega
      have pc100 : (0 : Int) ≤ (b : Int) + (i : Int) := by omega
      have bc100 : (b : Int) + (i : Int) < (d.size : Int) := by omega
      have rc100 : IntKind.i64.wrap ((b : Int) + (i : Int)) = (b : Int) + (i : Int) := by rw [IntKind.wrap_i64]; omega
      have S2 : Aside (SWK enc k w0 blk off (swp dk (a + i) (b + i)) (((wr).drew.setCells blk (off + (a + i) * k) (enc dk[b + i]!)).setCells blk (off + (b + i) * k) (enc dk[a + i]!))) := S1.out.swapped R (a + i) (b + i) (by omega) (by omega)
      have l100a := S1.out.ld1 R (by omega) P (a + i) (by omega)
      have l100b := S1.out.ld1 R (by omega) P (b + i) (by omega)
      have s100a := S1.out.st1 R (by omega) P (a + i) (by omega) dk[b + i]!
      have s100b := S1.out.st2 R (by omega) P (a + i) (b + i) (by omega) (by omega) dk[b + i]! dk[a + i]!
      have n100a : (enc dk[a + i]!).length = k := R.hk _
      have n100b : (enc dk[b + i]!).length = k := R.hk _
      generalize enc dk[a + i]! = cI100 at S2 l100a s100b n100a
      generalize enc dk[b + i]! = cJ100 at S2 l100b s100a s100b n100b
      clear S1
      go_wp2_with fail
      go_big_region_o
      clear l100a l100b s100a s100b
      generalize ((wr).drew.setCells blk (off + (a + i) * k) cJ100).setCells blk (off + (b + i) * k) cI100 = w2 at S2 ⊢
      go_wp2
      go_roundg (n - (i + 1))
      case measure => omega
      case rel => exact ⟨i + 1, swp dk (a + i) (b + i), by go_num, by omega, Nat.le_refl _, by rw [size_swp]; exact hds, S2, HR.out.step (by omega) (by omega)⟩
    · have hltz : ¬ (i : Int) < (n : Int) := by omega
      go_wp2
      go_end0
      obtain rfl : i = n := by omega
      exact ⟨rfl, dk, HR.out, S1.out⟩
end Go.Proofs
