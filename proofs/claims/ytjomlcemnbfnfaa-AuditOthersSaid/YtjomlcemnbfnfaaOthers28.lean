/- AuditOthers: what was aborted, what is open and what waits writes nothing, whatever it put; its reads are asked all the same: for every input the law returns true. -/
import Derived.Test.YtjomlcemnbfnfaaAu6
namespace Go.Proofs
open Go.RowKit Sc Go.Sort

def othA (st lba : Int) : Hist := ⟨st, 0, 0, 1, 0, [], [⟨lba, dataB 1⟩]⟩
def othB (st lba : Int) (d : Bytes) : Hist := ⟨st, 9, 0, 2, 0, [⟨lba, d, false⟩], []⟩
section
variable {st lba : Int} {d : Bytes}
theorem oth_idx (h3 : st ≠ 3) : ordIdx [othA st lba, othB st lba d] = [] := by
  show [0, 1].filter (wroteAt [othA st lba, othB st lba d]) = []
  have e0 : wroteAt [othA st lba, othB st lba d] 0 = false := by
    show (decide (st = 3) && _) = false
    rw [decide_eq_false h3]; rfl
  have e1 : wroteAt [othA st lba, othB st lba d] 1 = false := by
    show (decide (st = 3) && _) = false
    rw [decide_eq_false h3]; rfl
  rw [List.filter_cons_of_neg (by rw [e0]; decide), List.filter_cons_of_neg (by rw [e1]; decide)]; rfl
theorem oth_ord (h3 : st ≠ 3) : ordI [othA st lba, othB st lba d] = [] := ordI_nil (oth_idx h3)
theorem ordP_none {l : List Hist} (h : ordI l = []) : ordP l = [] := by unfold ordP ordH; rw [h]; rfl
theorem oth0 (h3 : st ≠ 3) : oneCode [othA st lba, othB st lba d] 0 (othA st lba) = 0 := by
  unfold oneCode
  rw [oth_ord h3]
  have hw : wroteH (othA st lba) = false := by
    show (decide (st = 3) && _) = false
    rw [decide_eq_false h3]; rfl
  rw [hw]
  have e2 : sawB [othA st lba, othB st lba d] (othA st lba) = true := rfl
  rw [e2]; rfl
theorem oth_saw (h3 : st ≠ 3) : sawB [othA st lba, othB st lba d] (othB st lba d) = (zeroB == d) := by
  show ((false || ((alook (runAll [] (ordP (aheadH [othA st lba, othB st lba d] (othB st lba d) (ordI [othA st lba, othB st lba d])))) lba).getD zeroB == d)) && true) = _
  rw [oth_ord h3]
  have e : aheadH [othA st lba, othB st lba d] (othB st lba d) [] = [] := rfl
  rw [e, ordP_none (ordI_nil rfl)]
  simp [runAll, alook]
theorem oth1 (h3 : st ≠ 3) : oneCode [othA st lba, othB st lba d] 1 (othB st lba d) = if (zeroB == d) = true then 0 else 13 := by
  unfold oneCode
  rw [oth_ord h3, oth_saw h3]
  have hw : wroteH (othB st lba d) = false := by
    show (decide (st = 3) && _) = false
    rw [decide_eq_false h3]; rfl
  rw [hw]
  cases (zeroB == d) <;> rfl
theorem oth_may (h1 : 1 ≤ st) (h2 : st ≤ 4) (h3 : st ≠ 3) (hl : 0 ≤ lba) (hl2 : lba < 5) (hd : d.length = 40) : mayB 5 (othA st lba) = true ∧ mayB 5 (othB st lba d) = true := by
  have hwA : wroteH (othA st lba) = false := by
    show (decide (st = 3) && _) = false
    rw [decide_eq_false h3]; rfl
  have hwB : wroteH (othB st lba d) = false := by
    show (decide (st = 3) && _) = false
    rw [decide_eq_false h3]; rfl
  have hA : mayHead (othA st lba) = true := by
    unfold mayHead; rw [hwA]
    show (decide (1 ≤ st) && decide (st ≤ 4) && true && true && true) = true
    rw [decide_eq_true h1, decide_eq_true h2]; rfl
  have hB : mayHead (othB st lba d) = true := by
    unfold mayHead; rw [hwB]
    show (decide (1 ≤ st) && decide (st ≤ 4) && true && true && true) = true
    rw [decide_eq_true h1, decide_eq_true h2]; rfl
  have hk : ∀ x : Bytes, x.length = 40 → blkA 5 lba x = true := fun x hx => by unfold blkA; rw [decide_eq_true hl, decide_eq_true hl2, decide_eq_true hx]; rfl
  refine ⟨mayB_iff.2 ⟨hA, rfl, by simp [othA], ?_⟩, mayB_iff.2 ⟨hB, ?_, List.nodup_nil, rfl⟩⟩
  · show (blkA 5 lba (dataB 1) && true) = true
    rw [hk _ (dataB_len 1)]; rfl
  · show (blkA 5 lba d && true) = true
    rw [hk _ hd]; rfl
theorem oth_res (h1 : 1 ≤ st) (h2 : st ≤ 4) (h3 : st ≠ 3) (hl : 0 ≤ lba) (hl2 : lba < 5) (hd : d.length = 40) : checkRes 5 [othA st lba, othB st lba d] = if (zeroB == d) = true then (-1, 0) else (1, 13) := by
  obtain ⟨mA, mB⟩ := oth_may h1 h2 h3 hl hl2 hd
  have hidx : ¬ 0 ≤ idxOf (fun h => !mayB 5 h) [othA st lba, othB st lba d] := by
    rw [idxOf_miss]
    · decide
    · intro j hj
      rcases (show j = 0 ∨ j = 1 by simp at hj; omega) with rfl | rfl
      · show (!mayB 5 (othA st lba)) = false; rw [mA]; rfl
      · show (!mayB 5 (othB st lba d)) = false; rw [mB]; rfl
  have r0 := oth0 (lba := lba) (d := d) h3
  have r1 := oth1 (lba := lba) (d := d) h3
  by_cases c : (zeroB == d) = true
  · rw [if_pos c] at r1 ⊢
    exact checkRes_ok (by omega) hidx fun m hm => by
      rcases (show m = 0 ∨ m = 1 by simp at hm; omega) with rfl | rfl
      · exact r0
      · exact r1
  · rw [if_neg c] at r1 ⊢
    have := checkRes_hit (n := 5) (l := [othA st lba, othB st lba d]) (i := 1) (by omega) hidx (show 1 < 2 by omega) (by show oneCode _ 1 (othB st lba d) ≠ 0; rw [r1]; decide) (fun m hm hm2 => by
      obtain rfl : m = 0 := by omega
      exact r0)
    rw [this]
    show ((1 : Int), oneCode _ 1 (othB st lba d)) = _
    rw [r1]
theorem allPuts_nil : allPuts [] = [] := by
  have h : keysUp ([] : List Int) = [] := List.eq_nil_of_length_eq_zero (List.mergeSort_perm _ _).length_eq
  unfold allPuts
  rw [show ([] : List (Int × Bytes)).map (·.1) = [] from rfl, h]; rfl
theorem oth_pre (h3 : st ≠ 3) : prefixRes 5 [othA st lba, othB st lba d] [] = (0, true) := by
  unfold prefixRes
  rw [ordP_none (oth_ord h3)]
  have e : prefBest [] [] (okLen 5 []) = 0 := by
    show (if samePuts (allPuts []) [] then (0 : Int) else -1) = 0
    rw [allPuts_nil]; rfl
  rw [e]; rfl
end
theorem cells7 {w : World} {b : Nat} {T : TypeId} {v0 v1 v2 v3 v4 v5 v6 : Value} (h : w.heap[b]? = some (.cells #[v0, v1, v2, v3, v4, v5, v6] T (0, 0))) :
    w.cell? ⟨b, 0, none⟩ = some v0 ∧ w.cell? ⟨b, 1, none⟩ = some v1 ∧ w.cell? ⟨b, 2, none⟩ = some v2 ∧ w.cell? ⟨b, 3, none⟩ = some v3 ∧ w.cell? ⟨b, 4, none⟩ = some v4 ∧ w.cell? ⟨b, 5, none⟩ = some v5 ∧ w.cell? ⟨b, 6, none⟩ = some v6 := by
  refine ⟨?_, ?_, ?_, ?_, ?_, ?_, ?_⟩ <;> rw [cell_row h] <;> rfl
theorem readsAt_one {G : Nat → Prop} {w : World} {g : Nat} {n : Int} {dv : Value} {d : Bytes} {q : Bool} {T : TypeId} (hh : w.heap[g]? = some (.cells #[.int .i64 n, dv, .bool q] T (0, 0))) (hg : G g) (hn : I64 n) (hd : BytesAt G w dv d) : ReadsAt G w (.slice (some ⟨g, 0, none⟩) 1 1) [⟨n, d, q⟩] := by
  refine ⟨_, 1, rfl, Nat.le_refl _, by omega, (by intro h; cases h), fun i hi => ?_⟩
  simp only [List.length_cons, List.length_nil] at hi
  obtain rfl : i = 0 := by omega
  exact ⟨g, 0, rfl, hg, by rw [cell_row hh]; rfl, hn, ⟨dv, by rw [cell_row hh]; rfl, hd⟩, by rw [cell_row hh]; rfl⟩
theorem turned_u8 : ((List.replicate 40 (0 : UInt8)).map fun x => Value.int .u8 (x.toNat : Int)).set 7 (.int .u8 1) = (zeroB.set 7 1).map fun x => .int .u8 (x.toNat : Int) := by rfl
set_option maxRecDepth 100000 in
set_option maxHeartbeats 4000000 in
theorem others_any (st lba0 : Int) (turned : Bool) (w : World) (i1 : I64 st) : Calls Try.prog 14 #[.int .i64 st, .int .i64 lba0, .bool turned] w (Tru w) := by
  by_cases h1 : st < 1
  case pos =>
    go_enter Try.func14, Try.ntmps14
    go_wp2_with fail
    refine (awake28 _).mono ?_
    rintro e w1 ⟨rfl, hb1⟩
    go_wp2
    go_ret
    exact ⟨rfl, hb1⟩
  case neg =>
  by_cases h2 : 4 < st
  case pos =>
    go_enter Try.func14, Try.ntmps14
    go_wp2_with fail
    refine (awake28 _).mono ?_
    rintro e w1 ⟨rfl, hb1⟩
    go_wp2
    go_ret
    exact ⟨rfl, hb1⟩
  case neg =>
  by_cases h3 : st = 3
  case pos =>
    subst h3
    go_enter Try.func14, Try.ntmps14
    go_wp2_with fail
    refine (awake28 _).mono ?_
    rintro e w1 ⟨rfl, hb1⟩
    go_wp2
    go_ret
    exact ⟨rfl, hb1⟩
  case neg =>
  have h3b : (st == 3) = false := by rw [beq_eq_false_iff_ne]; exact h3
  obtain ⟨hk0, hk1⟩ := roundN_bd lba0 (n := 5) (by omega)
  obtain ⟨lba, hlb⟩ : ∃ lba, roundN lba0 5 = lba := ⟨_, rfl⟩
  rw [hlb] at hk0 hk1
  obtain ⟨i0, hi, hz0, hz1, hz2⟩ := info_parts infoU8
  have hres := fun d hd => oth_res (st := st) (lba := lba) (d := d) (by omega) (by omega) h3 hk0 hk1 hd
  have hpre := fun d => oth_pre (st := st) (lba := lba) (d := d) h3
  have hord := fun d => oth_ord (st := st) (lba := lba) (d := d) h3
  have HLB := Lib.hid hlb
  have HRES := Lib.hid hres
  have HPRE := Lib.hid hpre
  have HORD := Lib.hid hord
  clear hres hpre hord
  clear hlb h3
  go_enter Try.func14, Try.ntmps14
  go_wp2_with fail
  refine (round_any lba0 5 _ (by omega) (by omega)).mono ?_
  rintro e w1 ⟨rfl, rfl⟩
  rw [HLB.out]
  go_upto_region 5 with (at_make; refine wpList_make_full _ rfl _ _ 35 rfl w.heap.size 5 i0 (.int .u8 0) 1 Try.underlying35 hi hz0 hz1 _ _ _ _ 40 rfl rfl rfl rfl (by rw [hz2]; omega) (by unfold maxLen; omega) (Nat.le_refl _) ?_; intro w2 hown2 hgrow2)
  have hlt2 := hown2.lt w.heap.size rfl
  have hb2 : Below w.heap.size w w2 := (Below.refl _ _).grown hgrow2 (Nat.le_refl _) (fun j hj => by cases hj)
  have hrd : ∃ W3 d, d.length = 40 ∧ (d == d) = true ∧ ((turned = false ∧ W3 = w2 ∧ (zeroB == d) = true) ∨ (turned = true ∧ W3 = w2.setCell ⟨w.heap.size, 7, none⟩ (.int .u8 1) ∧ (zeroB == d) = false)) ∧ Below w.heap.size w W3 ∧ BytesAt (New w W3) W3 (.slice (some ⟨w.heap.size, 0, none⟩) 40 40) d := by
    cases turned with
    | false =>
      exact ⟨w2, zeroB, rfl, by simp, .inl ⟨rfl, rfl, by simp⟩, hb2, bytesAt_row (B := w.heap.size) (l := zeroB) _ ⟨Nat.le_refl _, hlt2.2⟩ rfl (Nat.le_refl _) (by omega) (by rw [made_u8] at hown2; exact hown2)⟩
    | true =>
      rw [made_u8] at hown2
      obtain ⟨s1, s2⟩ := hown2.stored 7 (.int .u8 1)
      rw [turned_u8] at s1
      have hb3 := hb2.grown s2 hb2.size (fun q hq => by cases hq; exact Nat.le_refl _)
      exact ⟨_, zeroB.set 7 1, rfl, by simp, .inr ⟨rfl, rfl, by decide⟩, hb3, bytesAt_row (B := w.heap.size) (l := zeroB.set 7 1) _ ⟨Nat.le_refl _, (s1.lt w.heap.size rfl).2⟩ rfl (Nat.le_refl _) (by omega) s1⟩
  have hc7 : w2.cell? ⟨w.heap.size, 7, none⟩ = some (.int .u8 0) := by
    have h := hown2
    rw [made_u8] at h
    exact h.cellAt 7 (by omega)
  have hf7 : w2.frozen? ⟨w.heap.size, 7, none⟩ = false := hown2.frozenAt 7
  obtain ⟨W3, d, hd40, hdd, htn, hb3, hd3⟩ := hrd
  have hr := HRES.out d hd40
  have hp0 := HPRE.out d
  have ho0 := HORD.out d
  have HR := Lib.hid hr
  have HP0 := Lib.hid hp0
  have HO0 := Lib.hid ho0
  have HB3 := Lib.hid hb3
  have HD3 := Lib.hid hd3
  have HD40 := Lib.hid hd40
  have HB2 := Lib.hid hb2
  clear hr hp0 ho0 hb3 hd3 hd40 hb2
  clear hown2 hgrow2 hdd hi hz0 hz1 hz2
  rcases htn with ⟨rfl, rfl, hz⟩ | ⟨rfl, rfl, hz⟩
  all_goals
    rw [hz] at HR
    clear hz
    go_wp2_with fail
    refine (data_any 1 _).mono ?_
    rintro e w4 ⟨dv, rfl, hd, hb4⟩
    obtain ⟨dp, dc, rfl⟩ := shape_of hd (dataB_len 1)
    have hp := putsAt_one (n := lba) (by unfold I64; omega) hd hb4.size 39
    have hB04 := Below.up HB3.out hb4
    have hd4 := BytesAt.up HD3.out hb4
    have HB4 := Lib.hid hB04
    have HB4S : Hid _ := hb4.size
    have HP := Lib.hid hp
    have HD := Lib.hid hd
    have HD4 := Lib.hid hd4
    have HB4 := Lib.hid hb4
    clear hp hd hd4 hb4
    clear hB04
    have z1 : ((w4.alloc (.cells #[.int .i64 lba, .slice dp 40 dc] 39))).heap.size = w4.heap.size + 1 := by simp
    have z2 : (((w4.alloc (.cells #[.int .i64 lba, .slice dp 40 dc] 39)).alloc (.cells #[.int .i64 st, .int .i64 0, .int .i64 0, .int .i64 1, .int .i64 0, .slice none 0 0, .slice (some ⟨w4.heap.size, 0, none⟩) 1 1] 45))).heap.size = w4.heap.size + 1 + 1 := by simp
    have z3 : ((((w4.alloc (.cells #[.int .i64 lba, .slice dp 40 dc] 39)).alloc (.cells #[.int .i64 st, .int .i64 0, .int .i64 0, .int .i64 1, .int .i64 0, .slice none 0 0, .slice (some ⟨w4.heap.size, 0, none⟩) 1 1] 45)).alloc (.cells #[.int .i64 lba, .slice (some ⟨w.heap.size, 0, none⟩) 40 40, .bool false] 70))).heap.size = w4.heap.size + 1 + 1 + 1 := by simp
    have z5 : w4.heap.size + 1 + 1 + 1 < (((((w4.alloc (.cells #[.int .i64 lba, .slice dp 40 dc] 39)).alloc (.cells #[.int .i64 st, .int .i64 0, .int .i64 0, .int .i64 1, .int .i64 0, .slice none 0 0, .slice (some ⟨w4.heap.size, 0, none⟩) 1 1] 45)).alloc (.cells #[.int .i64 lba, .slice (some ⟨w.heap.size, 0, none⟩) 40 40, .bool false] 70)).alloc (.cells #[.int .i64 st, .int .i64 9, .int .i64 0, .int .i64 2, .int .i64 0, .slice (some ⟨w4.heap.size + 1 + 1, 0, none⟩) 1 1, .slice none 0 0] 45))).heap.size := by simp
    have hA0 := heap_alloc_new (w4.alloc (.cells #[.int .i64 lba, .slice dp 40 dc] 39)) (.cells #[.int .i64 st, .int .i64 0, .int .i64 0, .int .i64 1, .int .i64 0, .slice none 0 0, .slice (some ⟨w4.heap.size, 0, none⟩) 1 1] 45)
    rw [z1] at hA0
    have hR0 := heap_alloc_new ((w4.alloc (.cells #[.int .i64 lba, .slice dp 40 dc] 39)).alloc (.cells #[.int .i64 st, .int .i64 0, .int .i64 0, .int .i64 1, .int .i64 0, .slice none 0 0, .slice (some ⟨w4.heap.size, 0, none⟩) 1 1] 45)) (.cells #[.int .i64 lba, .slice (some ⟨w.heap.size, 0, none⟩) 40 40, .bool false] 70)
    rw [z2] at hR0
    have hB1 := heap_alloc_new (((w4.alloc (.cells #[.int .i64 lba, .slice dp 40 dc] 39)).alloc (.cells #[.int .i64 st, .int .i64 0, .int .i64 0, .int .i64 1, .int .i64 0, .slice none 0 0, .slice (some ⟨w4.heap.size, 0, none⟩) 1 1] 45)).alloc (.cells #[.int .i64 lba, .slice (some ⟨w.heap.size, 0, none⟩) 40 40, .bool false] 70)) (.cells #[.int .i64 st, .int .i64 9, .int .i64 0, .int .i64 2, .int .i64 0, .slice (some ⟨w4.heap.size + 1 + 1, 0, none⟩) 1 1, .slice none 0 0] 45)
    rw [z3] at hB1
    have hA1 := ((Below.up (below_alloc ((w4.alloc (.cells #[.int .i64 lba, .slice dp 40 dc] 39)).alloc (.cells #[.int .i64 st, .int .i64 0, .int .i64 0, .int .i64 1, .int .i64 0, .slice none 0 0, .slice (some ⟨w4.heap.size, 0, none⟩) 1 1] 45)) (.cells #[.int .i64 lba, .slice (some ⟨w.heap.size, 0, none⟩) 40 40, .bool false] 70)) (below_alloc (((w4.alloc (.cells #[.int .i64 lba, .slice dp 40 dc] 39)).alloc (.cells #[.int .i64 st, .int .i64 0, .int .i64 0, .int .i64 1, .int .i64 0, .slice none 0 0, .slice (some ⟨w4.heap.size, 0, none⟩) 1 1] 45)).alloc (.cells #[.int .i64 lba, .slice (some ⟨w.heap.size, 0, none⟩) 40 40, .bool false] 70)) (.cells #[.int .i64 st, .int .i64 9, .int .i64 0, .int .i64 2, .int .i64 0, .slice (some ⟨w4.heap.size + 1 + 1, 0, none⟩) 1 1, .slice none 0 0] 45))).block (w4.heap.size + 1) (by rw [z2]; omega)).trans hA0
    have hR1 := ((below_alloc (((w4.alloc (.cells #[.int .i64 lba, .slice dp 40 dc] 39)).alloc (.cells #[.int .i64 st, .int .i64 0, .int .i64 0, .int .i64 1, .int .i64 0, .slice none 0 0, .slice (some ⟨w4.heap.size, 0, none⟩) 1 1] 45)).alloc (.cells #[.int .i64 lba, .slice (some ⟨w.heap.size, 0, none⟩) 40 40, .bool false] 70)) (.cells #[.int .i64 st, .int .i64 9, .int .i64 0, .int .i64 2, .int .i64 0, .slice (some ⟨w4.heap.size + 1 + 1, 0, none⟩) 1 1, .slice none 0 0] 45)).block (w4.heap.size + 1 + 1) (by rw [z3]; omega)).trans hR0
    have hb15 := Below.up (Below.up (below_alloc (w4.alloc (.cells #[.int .i64 lba, .slice dp 40 dc] 39)) (.cells #[.int .i64 st, .int .i64 0, .int .i64 0, .int .i64 1, .int .i64 0, .slice none 0 0, .slice (some ⟨w4.heap.size, 0, none⟩) 1 1] 45)) (below_alloc ((w4.alloc (.cells #[.int .i64 lba, .slice dp 40 dc] 39)).alloc (.cells #[.int .i64 st, .int .i64 0, .int .i64 0, .int .i64 1, .int .i64 0, .slice none 0 0, .slice (some ⟨w4.heap.size, 0, none⟩) 1 1] 45)) (.cells #[.int .i64 lba, .slice (some ⟨w.heap.size, 0, none⟩) 40 40, .bool false] 70))) (below_alloc (((w4.alloc (.cells #[.int .i64 lba, .slice dp 40 dc] 39)).alloc (.cells #[.int .i64 st, .int .i64 0, .int .i64 0, .int .i64 1, .int .i64 0, .slice none 0 0, .slice (some ⟨w4.heap.size, 0, none⟩) 1 1] 45)).alloc (.cells #[.int .i64 lba, .slice (some ⟨w.heap.size, 0, none⟩) 40 40, .bool false] 70)) (.cells #[.int .i64 st, .int .i64 9, .int .i64 0, .int .i64 2, .int .i64 0, .slice (some ⟨w4.heap.size + 1 + 1, 0, none⟩) 1 1, .slice none 0 0] 45))
    have hb45 := Below.up (below_alloc w4 (.cells #[.int .i64 lba, .slice dp 40 dc] 39)) hb15
    have hp5 := PutsAt.up HP.out hb15
    have hd5 := BytesAt.up HD4.out hb45
    have hW5 := Below.up HB4.out hb45
    have hz15 := hb15.size
    have hz35 := Nat.le_trans (HB4S.out) hb45.size
    go_upto_region 9 with fail
    generalize ((((w4.alloc (.cells #[.int .i64 lba, .slice dp 40 dc] 39)).alloc (.cells #[.int .i64 st, .int .i64 0, .int .i64 0, .int .i64 1, .int .i64 0, .slice none 0 0, .slice (some ⟨w4.heap.size, 0, none⟩) 1 1] 45)).alloc (.cells #[.int .i64 lba, .slice (some ⟨w.heap.size, 0, none⟩) 40 40, .bool false] 70)).alloc (.cells #[.int .i64 st, .int .i64 9, .int .i64 0, .int .i64 2, .int .i64 0, .slice (some ⟨w4.heap.size + 1 + 1, 0, none⟩) 1 1, .slice none 0 0] 45)) = W5 at *
    generalize w4.heap.size + 1 + 1 + 1 = b3 at *
    generalize w4.heap.size + 1 + 1 = b2 at *
    generalize w4.heap.size + 1 = b1 at *
    generalize w4.heap.size = b0 at *
    clear z1 z2 z3 hA0 hR0 hb15 hb45
    have HZA : Hid (b1 < W5.heap.size) := by
      refine Classical.byContradiction fun h => ?_
      rw [Array.getElem?_eq_none (Nat.le_of_not_lt h)] at hA1; cases hA1
    have hzr : b2 < W5.heap.size := Classical.byContradiction fun h => by
      rw [Array.getElem?_eq_none (Nat.le_of_not_lt h)] at hR1; cases hR1
    have HZB := Lib.hid z5
    have hp6 : PutsAt (Old W5) W5 (.slice (some ⟨b0, 0, none⟩) 1 1) [⟨lba, dataB 1⟩] := PutsAt.mono hp5 fun q hq => Nat.lt_of_lt_of_le hq.2 hz15
    have hd6 : BytesAt (Old W5) W5 (.slice (some ⟨w.heap.size, 0, none⟩) 40 40) d := BytesAt.mono hd5 fun q hq => Nat.lt_of_lt_of_le hq.2 hz35
    have hr6 := readsAt_one (G := Old W5) hR1 hzr (show I64 lba by unfold I64; omega) hd6
    have hHH : ∀ W, Below W5.heap.size W5 W → HistsAt (Old (W.alloc (.cells #[.int .i64 st, .int .i64 0, .int .i64 0, .int .i64 1, .int .i64 0, .slice none 0 0, .slice (some ⟨b0, 0, none⟩) 1 1, .int .i64 st, .int .i64 9, .int .i64 0, .int .i64 2, .int .i64 0, .slice (some ⟨b2, 0, none⟩) 1 1, .slice none 0 0] 45))) (W.alloc (.cells #[.int .i64 st, .int .i64 0, .int .i64 0, .int .i64 1, .int .i64 0, .slice none 0 0, .slice (some ⟨b0, 0, none⟩) 1 1, .int .i64 st, .int .i64 9, .int .i64 0, .int .i64 2, .int .i64 0, .slice (some ⟨b2, 0, none⟩) 1 1, .slice none 0 0] 45)) (.slice (some ⟨W.heap.size, 0, none⟩) 2 2) [othA st lba, othB st lba d] := fun W hW => by
      have hba := Below.up hW (below_alloc W (.cells #[.int .i64 st, .int .i64 0, .int .i64 0, .int .i64 1, .int .i64 0, .slice none 0 0, .slice (some ⟨b0, 0, none⟩) 1 1, .int .i64 st, .int .i64 9, .int .i64 0, .int .i64 2, .int .i64 0, .slice (some ⟨b2, 0, none⟩) 1 1, .slice none 0 0] 45))
      have up : ∀ q, Old W5 q → Old (W.alloc (.cells #[.int .i64 st, .int .i64 0, .int .i64 0, .int .i64 1, .int .i64 0, .slice none 0 0, .slice (some ⟨b0, 0, none⟩) 1 1, .int .i64 st, .int .i64 9, .int .i64 0, .int .i64 2, .int .i64 0, .slice (some ⟨b2, 0, none⟩) 1 1, .slice none 0 0] 45)) q := fun q hq => Nat.lt_of_lt_of_le hq hba.size
      exact hists_box2 (x := othA st lba) (y := othB st lba d) (heap_alloc_new W _) (show Old _ _ by show _ < _; simp) ⟨i1, by unfold I64 othA; simp, by unfold I64 othA; simp, by unfold I64 othA; simp, by unfold I64 othA; simp⟩ ⟨i1, by unfold I64 othB; simp, by unfold I64 othB; simp, by unfold I64 othB; simp, by unfold I64 othB; simp⟩ SlAt.nil ((PutsAt.up hp6 hba).mono up) ((ReadsAt.same hr6 fun q hq => hba.block q hq).mono up fun _ _ _ h => ⟨h.1, h.2.1, (let ⟨v, a, b⟩ := h.2.2.1; ⟨v, a, b.mono up⟩), h.2.2.2⟩) SlAt.nil
    have HHH := Lib.hid hHH
    have HA1 := Lib.hid hA1
    have HB1 := Lib.hid hB1
    have HW5 := Lib.hid hW5
    have HR5 : Hid (Below W5.heap.size W5 W5) := Below.refl _ _
    clear hHH hA1 hB1 hW5 hR1 hr6 hd6 hp6 hp5 hd5 hzr z5 hz15 hz35
    obtain ⟨ca0, ca1, ca2, ca3, ca4, ca5, ca6⟩ := cells7 ((HR5.out.block _ HZA.out).trans HA1.out)
    obtain ⟨cb0, cb1, cb2, cb3, cb4, cb5, cb6⟩ := cells7 ((HR5.out.block _ HZB.out).trans HB1.out)
    have hcal := check_any _ 5 _ _ _ (fun _ h => h) (HHH.out W5 HR5.out) (show 2 ≤ 1000 by omega) (by omega)
    rw [HR.out] at hcal
    have HCAL := Lib.hid hcal
    clear hcal
    go_wp2_with fail
    refine (HCAL.out).mono ?_
    rintro e w6 ⟨rfl, hbx⟩
    have HB6 := Lib.hid (Below.up (Below.up HR5.out (below_alloc _ _)) hbx)
    clear hbx HCAL ca0 ca1 ca2 ca3 ca4 ca5 ca6 cb0 cb1 cb2 cb3 cb4 cb5 cb6
    obtain ⟨ca0, ca1, ca2, ca3, ca4, ca5, ca6⟩ := cells7 ((HB6.out.block _ HZA.out).trans HA1.out)
    obtain ⟨cb0, cb1, cb2, cb3, cb4, cb5, cb6⟩ := cells7 ((HB6.out.block _ HZB.out).trans HB1.out)
    have hcal := prefix_any _ 5 _ (.slice none 0 0) _ [] _ (by omega) (by omega) (fun _ h => h) (HHH.out w6 HB6.out) SlAt.nil (show 2 ≤ 1000 by omega)
    rw [show ((5 : Nat) : Int) = 5 from rfl, HP0.out] at hcal
    have HCAL := Lib.hid hcal
    clear hcal
    go_wp2_with fail
    refine (HCAL.out).mono ?_
    rintro e w7 ⟨rfl, hbx⟩
    have HB7 := Lib.hid (Below.up (Below.up HB6.out (below_alloc _ _)) hbx)
    clear hbx HCAL ca0 ca1 ca2 ca3 ca4 ca5 ca6 cb0 cb1 cb2 cb3 cb4 cb5 cb6
    obtain ⟨ca0, ca1, ca2, ca3, ca4, ca5, ca6⟩ := cells7 ((HB7.out.block _ HZA.out).trans HA1.out)
    obtain ⟨cb0, cb1, cb2, cb3, cb4, cb5, cb6⟩ := cells7 ((HB7.out.block _ HZB.out).trans HB1.out)
    have HCAL := Lib.hid (auditOrder_any _ _ _ _ (fun _ h => h) (HHH.out w7 HB7.out) (show 2 ≤ 1000 by omega))
    go_wp2_with fail
    refine (HCAL.out).mono ?_
    rintro e w8 ⟨vo, rfl, hvo, hbx⟩
    rw [HO0.out] at hvo
    obtain ⟨op, oc, rfl, -⟩ := hvo
    have HB8 := Lib.hid (Below.up (Below.up HB7.out (below_alloc _ _)) hbx)
    clear hbx HCAL ca0 ca1 ca2 ca3 ca4 ca5 ca6 cb0 cb1 cb2 cb3 cb4 cb5 cb6
    go_wp2_with fail
    refine (awake28 _).mono ?_
    rintro e w9 ⟨rfl, hb9⟩
    have HB9 := Lib.hid (Below.up HW5.out (Below.up HB8.out hb9))
    clear hb9
    go_wp2
    go_ret
    exact ⟨rfl, Below.up HB3.out HB9.out⟩
end Go.Proofs
