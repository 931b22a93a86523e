/- IvalNothing: nothing is no set, and takes nothing in: for every input the law returns true. -/
import Derived.Test.YteodkepnalhceaaLaw11
namespace Go.Proofs
open Go.RowKit Sc

theorem setMeets_nil (e : Ext) (w : World) : Calls Try.prog 23 #[.pointer none, extV e] w fun r w' => r = .returned (.bool false) ∧ Below w.heap.size w w' := by
  have hb0 := below_alloc w (.cells #[.int .i64 e.first, .int .i64 e.len] 28)
  have HB0 := Lib.hid hb0
  clear hb0
  go_enter Try.func23, Try.ntmps23
  go_wp2
  go_ret
  exact ⟨rfl, HB0.out⟩
theorem setHas_nil (x : Int) (w : World) : Calls Try.prog 20 #[.pointer none, .int .i64 x] w fun r w' => r = .returned (.bool false) ∧ Below w.heap.size w w' := by
  go_enter Try.func20, Try.ntmps20
  go_wp2_with fail
  refine (setMeets_nil ⟨x, 1⟩ _).mono ?_
  rintro r w1 ⟨rfl, hb1⟩
  have HB1 := Lib.hid hb1
  clear hb1
  go_wp2
  go_ret
  exact ⟨rfl, HB1.out⟩
set_option maxHeartbeats 400000 in
theorem refMay_any (x : Ext) (w : World) (h1 : I64 x.first) (h2 : I64 x.len) : Calls Try.prog 22 #[extV x] w fun e w' => e = .returned (.bool (mayB x)) ∧ Below w.heap.size w w' := by
  unfold I64 at h1 h2
  cases hq : mayB x with
  | true =>
    obtain ⟨a1, a2, a3, a4, a5⟩ := mayB_iff.1 hq
    have a6 : x.first ≤ 1048577 - x.len := by omega
    have HQ := Lib.hid hq
    clear hq
    go_enter Try.func22, Try.ntmps22
    go_wp2
    go_ret
    refine ⟨congrArg boolRet ?_, below_alloc _ _⟩
    first | rfl | (simp; omega)
  | false =>
    have h := mayB_no.1 hq
    rcases (show x.first < 0 ∨ (0 ≤ x.first ∧ 1048576 < x.first) ∨ (0 ≤ x.first ∧ x.first ≤ 1048576 ∧ x.len < 1) ∨ (0 ≤ x.first ∧ x.first ≤ 1048576 ∧ 1 ≤ x.len ∧ 1048576 < x.len) ∨ (0 ≤ x.first ∧ x.first ≤ 1048576 ∧ 1 ≤ x.len ∧ x.len ≤ 1048576 ∧ 1048577 - x.len < x.first) by omega) with a | ⟨a1, a⟩ | ⟨a1, a2, a⟩ | ⟨a1, a2, a3, a⟩ | ⟨a1, a2, a3, a4, a⟩
    all_goals
      clear h
      have HQ := Lib.hid hq
      clear hq
      go_enter Try.func22, Try.ntmps22
      go_wp2
      go_ret
      refine ⟨congrArg boolRet ?_, below_alloc _ _⟩
      first | rfl | (simp; omega)

set_option maxRecDepth 100000 in
set_option maxHeartbeats 4000000 in
theorem nothing11_any (a n lba : Int) (w : World) (ia : I64 a) (inn : I64 n) : Calls Try.prog 6 #[.agg #[.int .i64 a, .int .i64 n], .int .i64 lba] w (Tru w) := by
  have hb0 := below_alloc w (.cells #[.int .i64 a, .int .i64 n] 28)
  obtain ⟨W0, hW0⟩ : ∃ W0, w.alloc (.cells #[.int .i64 a, .int .i64 n] 28) = W0 := ⟨_, rfl⟩
  have hca : W0.cell? ⟨w.heap.size, 0, none⟩ = some (.int .i64 a) := by rw [← hW0, cell_row (heap_alloc_new w _)]; rfl
  have hcn : W0.cell? ⟨w.heap.size, 1, none⟩ = some (.int .i64 n) := by rw [← hW0, cell_row (heap_alloc_new w _)]; rfl
  have hz0 : w.heap.size < W0.heap.size := by rw [← hW0]; simp
  have hS0 : Sep W0 ([OldA W0] ++ [SetA (.pointer (some ⟨W0.heap.size, 0, none⟩)) 0 []]) (W0.alloc (.cells #[.int .i64 0, .slice none 0 0] 41)) :=
    (Sep.start W0).new (below_alloc W0 _) (SetA (.pointer (some ⟨W0.heap.size, 0, none⟩)) 0 []) (fun _ h => h) ⟨⟨W0.heap.size, .slice none 0 0, rfl, ⟨Nat.le_refl _, by simp⟩, heap_alloc_new W0 _, SlAt.nil⟩, fun k hk => hk.2⟩
  have hz1 : W0.heap.size = w.heap.size + 1 := by rw [← hW0]; simp
  rw [hz1] at hS0
  rw [hW0] at hb0
  have hfin : ∀ (w2 w3 : World) (L : List Asn), Hid (Sep W0 (OldA W0 :: L) w2) → Below w2.heap.size w2 w3 → Below w.heap.size w w3 := fun _ _ _ h1 h2 => hb0.trans (((h1.out.up h2).old).mono (by omega))
  have hbx : ∀ (w2 : World) (L : List Asn), Hid (Sep W0 (OldA W0 :: L) w2) → w2.cell? ⟨w.heap.size, 0, none⟩ = some (.int .i64 a) ∧ w2.cell? ⟨w.heap.size, 1, none⟩ = some (.int .i64 n) := fun _ _ h =>
    ⟨(h.out.old.cell (p := ⟨w.heap.size, 0, none⟩) hz0).trans hca, (h.out.old.cell (p := ⟨w.heap.size, 1, none⟩) hz0).trans hcn⟩
  obtain ⟨hx1, hx2⟩ := hbx _ _ hS0
  have hall : allB [⟨a, n⟩] = mayB ⟨a, n⟩ := by unfold allB; simp
  have hkeep : addNext 0 [] [⟨a, n⟩] = [] ∧ addCode 0 [] [⟨a, n⟩] = if mayB ⟨a, n⟩ = false then 1 else 7 := by
    cases hq : mayB ⟨a, n⟩ with
    | false =>
      have hc : addCode 0 [] [⟨a, n⟩] = 1 := by unfold addCode; rw [if_pos (by rw [hall]; exact hq)]
      exact ⟨by unfold addNext; rw [if_neg (by rw [hc]; decide)], hc⟩
    | true =>
      have hs : normE ([] ++ [⟨a, n⟩]) = [⟨a, n⟩] := normE_ext (by have := mayB_iff.1 hq; simpa using this.2.2.1) (Canon.mk1 (mayB_iff.1 hq).2.2.1) fun _ => Iff.rfl
      obtain ⟨h1, h2⟩ := addCode_is (most := 0) SetG.nil (l := [⟨a, n⟩]) (by rw [hall]; exact hq) (by simp) hs
      exact ⟨h2.trans (if_pos (by simp)), h1.trans (if_pos (by simp))⟩
  obtain ⟨hkeep1, hkeep2⟩ := hkeep
  have hnil : nilCode [⟨a, n⟩] = if mayB ⟨a, n⟩ = false then 1 else 7 := by unfold nilCode; rw [hall]; simp
  have HW0 := Lib.hid hW0
  have HZ1 := Lib.hid hz1
  have HS0 := Lib.hid hS0
  have HFIN := Lib.hid hfin
  have HBX := Lib.hid hbx
  have HB0 := Lib.hid hb0
  have HKEEP1 := Lib.hid hkeep1
  have HKEEP2 := Lib.hid hkeep2
  have HNIL := Lib.hid hnil
  clear hW0 hz1 hS0 hfin hbx hb0 hkeep1 hkeep2 hnil
  clear hca hcn
  cases hq : mayB ⟨a, n⟩
  all_goals
    have hk2 := HKEEP2.out
    have hk3 := HNIL.out
    rw [hq] at hk2 hk3
    simp only [Bool.true_eq_false, if_true, if_false] at hk2 hk3
    have HQ := Lib.hid hq
    have HK2 := Lib.hid hk2
    have HK3 := Lib.hid hk3
    clear hq hk2 hk3
    go_enter Try.func6, Try.ntmps6
    go_wp2_with fail
    rw [HW0.out]
    refine (refMay_any ⟨a, n⟩ _ ia inn).mono ?_
    rintro r w1 ⟨rfl, hb1⟩
    rw [HQ.out]
    have hS1 := HS0.out.up hb1
    obtain ⟨hx3, hx4⟩ := HBX.out _ _ hS1
    have hA1 := exts_one w1 a n ia inn
    have HB1 := Lib.hid hb1
    have HS1 := Lib.hid hS1
    have HA1 := Lib.hid hA1
    clear hb1 hS1 hA1
    clear hx1 hx2
    go_wp2_with fail
    refine (addNil _ _ [⟨a, n⟩] _ _ rfl HA1.out).mono ?_
    rintro r w2 ⟨rfl, hb2⟩
    rw [HK3.out]
    have hS2 := HS1.out.up (Below.up (below_alloc w1 _) hb2)
    obtain ⟨hx1, hx2⟩ := HBX.out _ _ hS2
    have HB2 := Lib.hid hb2
    have HS2 := Lib.hid hS2
    clear hb2 hS2
    clear hx3 hx4
    go_wp2_with fail
    refine (setAdd_one HS2 1 rfl a n ia inn SetG.nil (by simp)).mono ?_
    rintro r w3 ⟨rfl, HS3⟩
    rw [HK2.out]
    rw [HKEEP1.out] at HS3
    obtain ⟨hx3, hx4⟩ := HBX.out _ _ HS3
    clear hx1 hx2
    go_wp2_with fail
    refine (addNil _ _ [] (fun _ => True) _ rfl SlAt.nil).mono ?_
    rintro r w4 ⟨rfl, hb4⟩
    have hS4 := HS3.out.up hb4
    obtain ⟨hx1, hx2⟩ := HBX.out _ _ hS4
    have HB4 := Lib.hid hb4
    have HS4 := Lib.hid hS4
    clear hb4 hS4
    clear hx3 hx4
    rw [show nilCode [] = 0 from rfl]
    go_wp2_with fail
    refine (setHas_nil lba _).mono ?_
    rintro r w5 ⟨rfl, hb5⟩
    have hS5 := HS4.out.up hb5
    obtain ⟨hx3, hx4⟩ := HBX.out _ _ hS5
    have HB5 := Lib.hid hb5
    have HS5 := Lib.hid hS5
    clear hb5 hS5
    clear hx1 hx2
    go_wp2_with fail
    refine (setMeets_nil ⟨a, n⟩ _).mono ?_
    rintro r w6 ⟨rfl, hb6⟩
    have hS6 := HS5.out.up hb6
    have HB6 := Lib.hid hb6
    have HS6 := Lib.hid hS6
    clear hb6 hS6
    clear hx3 hx4
    obtain ⟨F6, hF6, _⟩ := HS6.out.get 1 rfl
    have hcr := setCrosses_any [] [] none (some ⟨w.heap.size + 1, 0, none⟩) w6 (by simp) (by simp) (fun W' _ => (setExtents_nil W').mono fun _ _ ⟨h1, h2⟩ => ⟨none, 0, h1, SlAt.nil, by subst h2; exact Below.refl _ _⟩) (fun W' h => setExtents_any F6 _ _ _ W' (SetIs.up hF6 h) (by simp))
    have HCR := Lib.hid hcr
    clear hcr
    clear hF6
    go_wp2_with fail
    refine (HCR.out).mono ?_
    rintro r w7 ⟨rfl, hb7⟩
    have hS7 := HS6.out.up hb7
    have HB7 := Lib.hid hb7
    have HS7 := Lib.hid hS7
    clear hb7 hS7
    rw [show crossB [] [] = false from rfl]
    go_wp2_with fail
    refine (setCount_nil _).mono ?_
    rintro r w8 ⟨rfl, hb8⟩
    have hS8 := HS7.out.up hb8
    have HB8 := Lib.hid hb8
    have HS8 := Lib.hid hS8
    clear hb8 hS8
    go_wp2_with fail
    refine (setExtents_sep HS8 1 rfl (by simp)).mono ?_
    rintro r w9 ⟨p, c, rfl, HX, HB, HS9⟩
    go_wp2_with fail
    refine (awake11 _).mono ?_
    rintro r w10 ⟨rfl, hb10⟩
    have hbf := HFIN.out _ _ _ HS9 hb10
    have HBF := Lib.hid hbf
    clear hbf
    go_wp2
    go_ret
    exact ⟨rfl, HBF.out⟩
end Go.Proofs
