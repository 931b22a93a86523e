/- AuditReal: one that ended ahead of another one's begin, and is behind it in the order, is found: for every input the law returns true. -/
import Derived.Test.YtjomlcemnbfnfaaAu6
namespace Go.Proofs
open Go.RowKit Sc Go.Sort

def realA (fr upt : Int) : Hist := ⟨3, 0, 5, fr, upt, [], [⟨1, dataB 1⟩]⟩
def realB (begun other : Int) : Hist := ⟨4, begun, 0, other, 0, [], []⟩
theorem real_ord (fr upt begun other : Int) : ordI [realA fr upt, realB begun other] = [0] := by
  have h : ordIdx [realA fr upt, realB begun other] = [0] := rfl
  refine (ordI_unique ?_ ?_).symm
  · rw [h]
  · simp
theorem oneCode_o (l : List Hist) (i : Nat) (h : Hist) : oneCode l i h = oneO l (ordI l) i h := rfl
theorem real0 {fr upt begun other : Int} (h : fr ≤ upt) : oneCode [realA fr upt, realB begun other] 0 (realA fr upt) = 0 := by
  rw [oneCode_o, real_ord]
  unfold oneO
  have e1 : (wroteH (realA fr upt) && ([0].map fun k : Nat => (k : Int)).any (sameB [realA fr upt, realB begun other] 0 (realA fr upt).time)) = false := rfl
  have e2 : sawB [realA fr upt, realB begun other] (realA fr upt) = true := rfl
  have e3 : (wroteH (realA fr upt) && [0].any (hitC [realA fr upt, realB begun other] (realA fr upt))) = false := rfl
  have e4 : [0].any (hitT [realA fr upt, realB begun other] (realA fr upt)) = false := by
    show ((decide (0 < upt) && (decide (upt < fr) && _)) || false) = false
    rw [decide_eq_false (show ¬ upt < fr by omega)]; simp
  rw [e1, e2, e3, e4]
  rfl
theorem real1 {fr upt begun other : Int} (h1 : 1 ≤ fr) (h : fr ≤ upt) : oneCode [realA fr upt, realB begun other] 1 (realB begun other) = if upt < other ∧ begun < 5 then 11 else 0 := by
  rw [oneCode_o, real_ord]
  unfold oneO
  have e1 : (wroteH (realB begun other) && ([0].map fun k : Nat => (k : Int)).any (sameB [realA fr upt, realB begun other] 1 (realB begun other).time)) = false := rfl
  have e2 : sawB [realA fr upt, realB begun other] (realB begun other) = true := rfl
  have e3 : (wroteH (realB begun other) && [0].any (hitC [realA fr upt, realB begun other] (realB begun other))) = false := rfl
  have e4 : [0].any (hitT [realA fr upt, realB begun other] (realB begun other)) = (decide (upt < other) && decide (begun < 5)) := by
    show ((decide (0 < upt) && (decide (upt < other) && decide (begun < 5))) || false) = _
    rw [decide_eq_true (show 0 < upt by omega)]; simp
  rw [e1, e2, e3, e4]
  by_cases c : upt < other ∧ begun < 5
  · rw [if_pos c, decide_eq_true c.1, decide_eq_true c.2]; rfl
  · rw [if_neg c]
    by_cases c1 : upt < other
    · rw [decide_eq_false (show ¬ begun < 5 from fun e => c ⟨c1, e⟩)]; simp
    · rw [decide_eq_false c1]; simp
theorem real_res {fr upt begun other : Int} (h1 : 1 ≤ fr) (h : fr ≤ upt) (b1 : 0 ≤ begun) (b2 : begun ≤ 20) : checkRes 5 [realA fr upt, realB begun other] = if upt < other ∧ begun < 5 then (1, 11) else (-1, 0) := by
  have hmA : mayB 5 (realA fr upt) = true := rfl
  have hmB : mayB 5 (realB begun other) = true := by
    have hh : mayHead (realB begun other) = true := by
      show (true && true && decide (0 ≤ begun) && decide (begun ≤ 1099511627776) && true) = true
      rw [decide_eq_true b1, decide_eq_true (show begun ≤ 1099511627776 by omega)]; rfl
    exact mayB_iff.2 ⟨hh, rfl, List.nodup_nil, rfl⟩
  have hidx : ¬ 0 ≤ idxOf (fun h => !mayB 5 h) [realA fr upt, realB begun other] := by
    rw [idxOf_miss]
    · decide
    · intro j hj
      rcases (show j = 0 ∨ j = 1 by simp at hj; omega) with rfl | rfl
      · show (!mayB 5 (realA fr upt)) = false; rw [hmA]; rfl
      · show (!mayB 5 (realB begun other)) = false; rw [hmB]; rfl
  have r0 := real0 (begun := begun) (other := other) h
  have r1 := real1 (begun := begun) (other := other) h1 h
  by_cases c : upt < other ∧ begun < 5
  · rw [if_pos c] at r1 ⊢
    have := checkRes_hit (n := 5) (l := [realA fr upt, realB begun other]) (i := 1) (by omega) hidx (show 1 < 2 by omega) (by show oneCode _ 1 (realB begun other) ≠ 0; rw [r1]; decide) (fun m hm hm2 => by
      obtain rfl : m = 0 := by omega
      exact r0)
    rw [this]
    show ((1 : Int), oneCode _ 1 (realB begun other)) = _
    rw [r1]
  · rw [if_neg c] at r1 ⊢
    exact checkRes_ok (by omega) hidx fun m hm => by
      rcases (show m = 0 ∨ m = 1 by simp at hm; omega) with rfl | rfl
      · exact r0
      · exact r1
set_option maxRecDepth 100000 in
set_option maxHeartbeats 4000000 in
theorem real_any (fr upt begun other : Int) (w : World) (i1 : I64 fr) (i2 : I64 upt) (i3 : I64 begun) (i4 : I64 other) : Calls Try.prog 11 #[.int .i64 fr, .int .i64 upt, .int .i64 begun, .int .i64 other] w (Tru w) := by
  by_cases h1 : fr < 1
  case pos =>
    go_enter Try.func11, Try.ntmps11
    go_wp2_with fail
    refine (awake28 _).mono ?_
    rintro e w1 ⟨rfl, hb1⟩
    go_wp2
    go_ret
    exact ⟨rfl, hb1⟩
  case neg =>
  by_cases h2 : upt < fr
  case pos =>
    go_enter Try.func11, Try.ntmps11
    go_wp2_with fail
    refine (awake28 _).mono ?_
    rintro e w1 ⟨rfl, hb1⟩
    go_wp2
    go_ret
    exact ⟨rfl, hb1⟩
  case neg =>
  by_cases h3 : 1000 < upt
  case pos =>
    go_enter Try.func11, Try.ntmps11
    go_wp2_with fail
    refine (awake28 _).mono ?_
    rintro e w1 ⟨rfl, hb1⟩
    go_wp2
    go_ret
    exact ⟨rfl, hb1⟩
  case neg =>
  by_cases h4 : begun < 0
  case pos =>
    go_enter Try.func11, Try.ntmps11
    go_wp2_with fail
    refine (awake28 _).mono ?_
    rintro e w1 ⟨rfl, hb1⟩
    go_wp2
    go_ret
    exact ⟨rfl, hb1⟩
  case neg =>
  by_cases h5 : 20 < begun
  case pos =>
    go_enter Try.func11, Try.ntmps11
    go_wp2_with fail
    refine (awake28 _).mono ?_
    rintro e w1 ⟨rfl, hb1⟩
    go_wp2
    go_ret
    exact ⟨rfl, hb1⟩
  case neg =>
  by_cases h6 : other < 1
  case pos =>
    go_enter Try.func11, Try.ntmps11
    go_wp2_with fail
    refine (awake28 _).mono ?_
    rintro e w1 ⟨rfl, hb1⟩
    go_wp2
    go_ret
    exact ⟨rfl, hb1⟩
  case neg =>
  by_cases h7 : 1000 < other
  case pos =>
    go_enter Try.func11, Try.ntmps11
    go_wp2_with fail
    refine (awake28 _).mono ?_
    rintro e w1 ⟨rfl, hb1⟩
    go_wp2
    go_ret
    exact ⟨rfl, hb1⟩
  case neg =>
  have hres := real_res (fr := fr) (upt := upt) (begun := begun) (other := other) (by omega) (by omega) (by omega) (by omega)
  have HRES := Lib.hid hres
  clear hres
  go_enter Try.func11, Try.ntmps11
  go_wp2_with fail
  refine (data_any 1 _).mono ?_
  rintro e w1 ⟨dv, rfl, hd, hb1⟩
  obtain ⟨dp, dc, rfl⟩ := shape_of hd (dataB_len 1)
  have hp := putsAt_one (n := 1) (by unfold I64; omega) hd hb1.size 39
  have hbp := Below.up hb1 (below_alloc w1 (.cells #[.int .i64 1, .slice dp 40 dc] 39))
  have HP := Lib.hid hp
  have HBP := Lib.hid hbp
  have HB1 := Lib.hid hb1
  have HD := Lib.hid hd
  clear hp hbp hb1 hd
  have hz : (((w1.alloc (.cells #[.int .i64 1, .slice dp 40 dc] 39)).alloc (.cells #[.int .i64 3, .int .i64 0, .int .i64 5, .int .i64 fr, .int .i64 upt, .slice none 0 0, .slice (some ⟨w1.heap.size, 0, none⟩) 1 1] 45)).alloc (.cells #[.int .i64 4, .int .i64 begun, .int .i64 0, .int .i64 other, .int .i64 0, .slice none 0 0, .slice none 0 0] 45)).heap.size = w1.heap.size + 1 + 1 + 1 := by simp
  have hba := Below.up (Below.up (below_alloc (w1.alloc (.cells #[.int .i64 1, .slice dp 40 dc] 39)) (.cells #[.int .i64 3, .int .i64 0, .int .i64 5, .int .i64 fr, .int .i64 upt, .slice none 0 0, .slice (some ⟨w1.heap.size, 0, none⟩) 1 1] 45)) (below_alloc _ (.cells #[.int .i64 4, .int .i64 begun, .int .i64 0, .int .i64 other, .int .i64 0, .slice none 0 0, .slice none 0 0] 45))) (below_alloc (((w1.alloc (.cells #[.int .i64 1, .slice dp 40 dc] 39)).alloc (.cells #[.int .i64 3, .int .i64 0, .int .i64 5, .int .i64 fr, .int .i64 upt, .slice none 0 0, .slice (some ⟨w1.heap.size, 0, none⟩) 1 1] 45)).alloc (.cells #[.int .i64 4, .int .i64 begun, .int .i64 0, .int .i64 other, .int .i64 0, .slice none 0 0, .slice none 0 0] 45)) (.cells #[.int .i64 3, .int .i64 0, .int .i64 5, .int .i64 fr, .int .i64 upt, .slice none 0 0, .slice (some ⟨w1.heap.size, 0, none⟩) 1 1, .int .i64 4, .int .i64 begun, .int .i64 0, .int .i64 other, .int .i64 0, .slice none 0 0, .slice none 0 0] 45))
  have hnew := heap_alloc_new (((w1.alloc (.cells #[.int .i64 1, .slice dp 40 dc] 39)).alloc (.cells #[.int .i64 3, .int .i64 0, .int .i64 5, .int .i64 fr, .int .i64 upt, .slice none 0 0, .slice (some ⟨w1.heap.size, 0, none⟩) 1 1] 45)).alloc (.cells #[.int .i64 4, .int .i64 begun, .int .i64 0, .int .i64 other, .int .i64 0, .slice none 0 0, .slice none 0 0] 45)) (.cells #[.int .i64 3, .int .i64 0, .int .i64 5, .int .i64 fr, .int .i64 upt, .slice none 0 0, .slice (some ⟨w1.heap.size, 0, none⟩) 1 1, .int .i64 4, .int .i64 begun, .int .i64 0, .int .i64 other, .int .i64 0, .slice none 0 0, .slice none 0 0] 45)
  rw [hz] at hnew
  have hgz : w1.heap.size + 1 + 1 + 1 < ((((w1.alloc (.cells #[.int .i64 1, .slice dp 40 dc] 39)).alloc (.cells #[.int .i64 3, .int .i64 0, .int .i64 5, .int .i64 fr, .int .i64 upt, .slice none 0 0, .slice (some ⟨w1.heap.size, 0, none⟩) 1 1] 45)).alloc (.cells #[.int .i64 4, .int .i64 begun, .int .i64 0, .int .i64 other, .int .i64 0, .slice none 0 0, .slice none 0 0] 45)).alloc (.cells #[.int .i64 3, .int .i64 0, .int .i64 5, .int .i64 fr, .int .i64 upt, .slice none 0 0, .slice (some ⟨w1.heap.size, 0, none⟩) 1 1, .int .i64 4, .int .i64 begun, .int .i64 0, .int .i64 other, .int .i64 0, .slice none 0 0, .slice none 0 0] 45)).heap.size := by simp
  have hpw := (PutsAt.up HP.out hba).mono (fun q hq => Nat.lt_of_lt_of_le hq.2 hba.size : ∀ q, _ → Old ((((w1.alloc (.cells #[.int .i64 1, .slice dp 40 dc] 39)).alloc (.cells #[.int .i64 3, .int .i64 0, .int .i64 5, .int .i64 fr, .int .i64 upt, .slice none 0 0, .slice (some ⟨w1.heap.size, 0, none⟩) 1 1] 45)).alloc (.cells #[.int .i64 4, .int .i64 begun, .int .i64 0, .int .i64 other, .int .i64 0, .slice none 0 0, .slice none 0 0] 45)).alloc (.cells #[.int .i64 3, .int .i64 0, .int .i64 5, .int .i64 fr, .int .i64 upt, .slice none 0 0, .slice (some ⟨w1.heap.size, 0, none⟩) 1 1, .int .i64 4, .int .i64 begun, .int .i64 0, .int .i64 other, .int .i64 0, .slice none 0 0, .slice none 0 0] 45)) q)
  have hh := hists_box2 (x := realA fr upt) (y := realB begun other) hnew (show Old _ _ from hgz) ⟨by unfold I64 realA; simp, by unfold I64 realA; simp, by unfold I64 realA; simp, i1, i2⟩ ⟨by unfold I64 realB; simp, i3, by unfold I64 realB; simp, i4, by unfold I64 realB; simp⟩ SlAt.nil hpw SlAt.nil SlAt.nil
  have hck := check_any _ 5 _ _ _ (fun _ h => h) hh (show 2 ≤ 1000 by omega) (by omega)
  rw [HRES.out] at hck
  have HB3 := Lib.hid (Below.up HBP.out hba)
  have HCK := Lib.hid hck
  clear hck
  clear hh hpw hba hnew hz hgz
  by_cases c1 : upt < other
  case neg =>
    have hc : ¬ (upt < other ∧ begun < 5) := fun e => c1 e.1
    rw [if_neg hc] at HCK
    clear hc
    go_wp2_with fail
    refine (HCK.out).mono ?_
    rintro e w4 ⟨rfl, hb4⟩
    have HB4 := Lib.hid (Below.up HB3.out hb4)
    clear hb4
    go_wp2_with fail
    refine (awake28 _).mono ?_
    rintro e w5 ⟨rfl, hb5⟩
    have HB5 := Lib.hid (Below.up HB4.out hb5)
    go_wp2
    go_ret
    exact ⟨rfl, HB5.out⟩
  case pos =>
    by_cases c2 : begun < 5
    case neg =>
      have hc : ¬ (upt < other ∧ begun < 5) := fun e => c2 e.2
      rw [if_neg hc] at HCK
      clear hc
      go_wp2_with fail
      refine (HCK.out).mono ?_
      rintro e w4 ⟨rfl, hb4⟩
      have HB4 := Lib.hid (Below.up HB3.out hb4)
      clear hb4
      go_wp2_with fail
      refine (awake28 _).mono ?_
      rintro e w5 ⟨rfl, hb5⟩
      have HB5 := Lib.hid (Below.up HB4.out hb5)
      go_wp2
      go_ret
      exact ⟨rfl, HB5.out⟩
    case pos =>
      have hc : upt < other ∧ begun < 5 := ⟨c1, c2⟩
      rw [if_pos hc] at HCK
      clear hc
      go_wp2_with fail
      refine (HCK.out).mono ?_
      rintro e w4 ⟨rfl, hb4⟩
      have HB4 := Lib.hid (Below.up HB3.out hb4)
      clear hb4
      go_wp2_with fail
      refine (awake28 _).mono ?_
      rintro e w5 ⟨rfl, hb5⟩
      have HB5 := Lib.hid (Below.up HB4.out hb5)
      go_wp2
      go_ret
      exact ⟨rfl, HB5.out⟩
end Go.Proofs
