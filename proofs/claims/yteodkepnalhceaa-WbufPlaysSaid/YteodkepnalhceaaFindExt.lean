/- slices.IndexFunc, slices.ContainsFunc over extents. -/
import Derived.Test.YteodkepnalhceaaFind
import Derived.Deep.LoopGhost
namespace Go.Proofs
open Go.RowKit Sc

abbrev extV (x : Ext) : Value := .agg #[.int .i64 x.first, .int .i64 x.len]
set_option maxHeartbeats 1000000 in
theorem idxExt_any (G : Nat → Prop) (v : Value) (l : List Ext) (p : Ext → Bool) (g : Nat) (cb : Array Value) (eg : ∀ args w, (callFunc g args).run Try.prog w = .ok (.enter g args) w) (w : World)
    (hv : ExtsAt G w v l)
    (hf : ∀ i (h : i < l.length) W, Below w.heap.size w W → Calls Try.prog g (#[extV l[i]] ++ cb) W fun e w' => e = .returned (.bool (p l[i])) ∧ Below W.heap.size W w') :
    Calls Try.prog 67 #[v, .func (.func g) #[] cb] w fun e w' => e = .returned (.int .i64 (idxOf p l)) ∧ Below w.heap.size w w' := by
  obtain ⟨ptr, c, rfl, h1, h2, h3, h4⟩ := hv
  have H4 := Lib.hid h4
  have HF := Lib.hid hf
  clear h4 hf h3
  go_enter Try.func67, Try.ntmps67
  go_wp2
  go_loopg [5, 8] l.length (fun gg _ s8 wr => ∃ k : Nat, k ≤ l.length ∧ l.length - k ≤ gg ∧ s8 = .int .i64 k ∧ Hid (Below w.heap.size w wr) ∧ Hid (∀ j (h : j < k) (h' : j < l.length), p l[j] = false))
  case atStart => exact ⟨0, Nat.zero_le _, by omega, rfl, Below.refl _ w, fun j hj => absurd hj (Nat.not_lt_zero _)⟩
  case round =>
    obtain ⟨k, hk, hg, rfl, BW, A⟩ := hrel
    by_cases hlt : k < l.length
    · obtain ⟨b, o, rfl, hb, hc1, hc2, hi, hi2⟩ := H4.out k hlt
      have hbl := World.block_lt_of_cell? w _ hc1
      have hc1' := (BW.out.cell (p := ⟨b, o + k * 2, none⟩) hbl).trans hc1
      have hc2' := (BW.out.cell (p := ⟨b, o + k * 2 + 1, none⟩) hbl).trans hc2
      have hcall := HF.out k hlt wr BW.out
      generalize hy : l[k] = y at hc1' hc2' hcall
      have B := Lib.hid hy
      clear hy hc1 hc2 hi hi2 hb
      cases hq : p y with
      | true =>
        rw [hq] at hcall
        have HQ := Lib.hid hq
        have HC := Lib.hid hcall
        clear hq hcall
        go_wp2_with (go_at_fn g; refine (HC.out).mono ?_; rintro e w' ⟨rfl, hb'⟩)
        go_ret
        refine ⟨?_, BW.out.trans (hb'.mono BW.out.size)⟩
        rw [idxOf_hit hlt (by rw [B.out]; exact HQ.out) (fun j hj => A.out j hj (by omega))]
        rfl
      | false =>
        rw [hq] at hcall
        have HQ := Lib.hid hq
        have HC := Lib.hid hcall
        clear hq hcall
        go_wp2_with (go_at_fn g; refine (HC.out).mono ?_; rintro e w' ⟨rfl, hb'⟩)
        go_roundg (l.length - (k + 1))
        case measure => omega
        case rel =>
          refine ⟨k + 1, by omega, by omega, by go_num, BW.out.trans (hb'.mono BW.out.size), fun j hj hj' => ?_⟩
          by_cases e : j = k
          · subst e; rw [B.out]; exact HQ.out
          · exact A.out j (by omega) hj'
    · have hkl : k = l.length := by omega
      have HK := Lib.hid hkl
      clear hkl
      go_wp2
      go_ret
      refine ⟨?_, BW.out⟩
      rw [idxOf_miss (fun j hj => A.out j (by have := HK.out; omega) hj)]
      rfl

set_option maxHeartbeats 400000 in
theorem anyExt_any (G : Nat → Prop) (v : Value) (l : List Ext) (p : Ext → Bool) (g : Nat) (cb : Array Value) (eg : ∀ args w, (callFunc g args).run Try.prog w = .ok (.enter g args) w) (w : World)
    (hv : ExtsAt G w v l)
    (hf : ∀ i (h : i < l.length) W, Below w.heap.size w W → Calls Try.prog g (#[extV l[i]] ++ cb) W fun e w' => e = .returned (.bool (p l[i])) ∧ Below W.heap.size W w') :
    Calls Try.prog 47 #[v, .func (.func g) #[] cb] w fun e w' => e = .returned (.bool (l.any p)) ∧ Below w.heap.size w w' := by
  rw [← idxOf_nonneg]
  go_enter Try.func47, Try.ntmps47
  go_wp2_with (go_at_call 67; refine (idxExt_any G v l p g cb eg _ hv hf).mono ?_; rintro e w' ⟨rfl, hb'⟩)
  go_ret
  exact ⟨rfl, hb'⟩
end Go.Proofs
