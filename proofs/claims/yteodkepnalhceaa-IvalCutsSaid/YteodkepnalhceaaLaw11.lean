/- Laws of ival: what the document fixes. -/
import Derived.Test.YteodkepnalhceaaSetSep
namespace Go.Proofs
open Go.RowKit Sc

set_option maxRecDepth 100000 in
set_option maxHeartbeats 2000000 in
theorem awake11 (w : World) : Calls Try.prog 13 #[] w fun e w' => e = .returned (.bool true) ∧ Below w.heap.size w w' := by
  have hn : normE ([] ++ [⟨1, 2⟩, ⟨3, 1⟩]) = [⟨1, 3⟩] := by
    refine normE_ext (by simp) (Canon.mk1 (by simp)) fun x => ?_
    simp only [List.nil_append, cov_cons]
    have := cov_nil x
    constructor
    · rintro (h | h)
      · by_cases hx : x < 3
        · exact .inl (by omega)
        · exact .inr (.inl (by omega))
      · exact absurd h this
    · rintro (h | h | h)
      · exact .inl (by omega)
      · exact .inl (by omega)
      · exact absurd h this
  obtain ⟨hcd, hnx⟩ := addCode_is (most := 5) SetG.nil (l := [⟨1, 2⟩, ⟨3, 1⟩]) (by decide) (by simp) hn
  have hcd' : addCode 5 [] [⟨1, 2⟩, ⟨3, 1⟩] = 0 := hcd.trans (by decide)
  have hnx' : addNext 5 [] [⟨1, 2⟩, ⟨3, 1⟩] = [⟨1, 3⟩] := hnx.trans (if_neg (by decide))
  have HCD' := Lib.hid hcd'
  have HNX' := Lib.hid hnx'
  clear hcd' hnx'
  clear hn hcd hnx
  go_enter Try.func13, Try.ntmps13
  go_wp2_with fail
  refine (setNew_sep (Sep.start w) 5).mono ?_
  rintro e w1 ⟨b, rfl, HS1⟩
  go_wp2_with fail
  refine (setAdd_sep (HS1.out.up (below_alloc w1 _)) 1 rfl [⟨1, 2⟩, ⟨3, 1⟩] (exts_two w1 1 2 3 1 (i64_small (by omega)) (i64_small (by omega)) (i64_small (by omega)) (i64_small (by omega))) SetG.nil (by simp) (by simp)).mono ?_
  rintro e w2 ⟨rfl, HS2⟩
  rw [HCD'.out]
  rw [HNX'.out] at HS2
  go_wp2_with fail
  refine (setExtents_sep HS2 1 rfl (by simp)).mono ?_
  rintro e w3 ⟨p, c, rfl, HX, HB, HS3⟩
  obtain ⟨_, _, he, _, _, _, h4⟩ := HX.out
  cases he
  obtain ⟨g, o, rfl, _, hc0, hc1, _⟩ := h4 0 (by simp)
  simp only [List.getElem_cons_zero] at hc0 hc1
  rw [Nat.zero_mul, Nat.add_zero] at hc0 hc1
  clear h4
  go_wp2
  go_ret
  exact ⟨rfl, HS3.out.old⟩
end Go.Proofs
