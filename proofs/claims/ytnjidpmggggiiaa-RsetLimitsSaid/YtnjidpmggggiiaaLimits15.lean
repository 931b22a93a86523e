/- RsetLimits: a read may have so many blocks, and a transaction read so many extents, and not one more; one that joins them needs no room: for every input the law returns true. -/
import Derived.Test.YtnjidpmggggiiaaLaw15
import Derived.Test.YtnjidpmggggiiaaEvens
namespace Go.Proofs
open Go.RowKit Sc

theorem one_code {n : Int} (h : 1 ≤ n ∧ n ≤ 16) : readCode 200 [] ⟨0, n⟩ = 0 := by
  obtain ⟨h1, _⟩ := addCode_is (most := 64) SetG.nil (l := [⟨0, n⟩]) (may_one (by omega)) (by simp) (normE_ext (l := [] ++ [⟨0, n⟩]) (m := [⟨0, n⟩]) (by simpa using h.1) (Canon.mk1 h.1) fun _ => Iff.rfl)
  have ha : addCode 64 [] [⟨0, n⟩] = 0 := h1.trans (if_neg (by simp))
  unfold readCode
  rw [if_neg (by simp only; omega), if_neg (by rw [withinB_yes (by simp only; omega)]; decide), if_neg (by rw [ha]; decide)]
theorem long_code {n : Int} (h : n < 1 ∨ 16 < n) : readCode 200 [] ⟨0, n⟩ = 3 := by unfold readCode; exact if_pos h
theorem even_code {i : Nat} (hi : i ≤ 70) : readCode 200 (evens (min i 64)) ⟨2 * i, 1⟩ = (if i < 64 then 0 else 7) ∧ addNext 64 (evens (min i 64)) [⟨2 * i, 1⟩] = evens (min (i + 1) 64) := by
  obtain ⟨h1, h2⟩ := room_step 64 i (by omega) (by omega)
  refine ⟨?_, h2⟩
  unfold readCode
  rw [if_neg (by simp only; omega), if_neg (by rw [withinB_yes (by simp only; omega)]; decide)]
  have h1' : addCode 64 (evens (min i 64)) [⟨2 * i, 1⟩] = (if i < 64 then 0 else 7) := h1
  rw [h1']
  by_cases h : i < 64
  · rw [if_pos h, if_neg (by decide)]
  · rw [if_neg h, if_pos (by decide)]
theorem three_code {k : Nat} (hk : k ≤ 64) : readCode 200 (evens k) ⟨0, 3⟩ = 0 := by
  unfold readCode
  rw [if_neg (by simp only; omega), if_neg (by rw [withinB_yes (by simp only; omega)]; decide), if_neg (by rw [evens_three hk]; decide)]
theorem far_code (S : List Ext) : readCode 200 S ⟨190, 16⟩ = 2 := by
  unfold readCode
  rw [if_neg (by simp only; omega), if_pos (by rfl)]

set_option maxRecDepth 100000 in
set_option maxHeartbeats 3000000 in
theorem limits15_any (n k : Int) (w : World) : Calls Try.prog 3 #[.int .i64 n, .int .i64 k] w (Tru w) := by
  by_cases hok : -1 ≤ n ∧ n ≤ 20 ∧ 0 ≤ k ∧ k ≤ 70
  case neg =>
    rcases (show n < -1 ∨ (-1 ≤ n ∧ 20 < n) ∨ (-1 ≤ n ∧ n ≤ 20 ∧ k < 0) ∨ (-1 ≤ n ∧ n ≤ 20 ∧ 0 ≤ k ∧ 70 < k) by omega) with h | ⟨h0, h⟩ | ⟨h0, h1, h⟩ | ⟨h0, h1, h2, h⟩
    all_goals
      clear hok
      go_enter Try.func3, Try.ntmps3
      go_wp2_with fail
      refine (awake15 _).mono ?_
      rintro e w2 ⟨rfl, hb2⟩
      have HB2 := Lib.hid hb2
      clear hb2
      go_wp2
      go_ret
      exact ⟨rfl, HB2.out⟩
  case pos =>
    obtain ⟨h0, h1, h2, h3⟩ := hok
    obtain ⟨K, rfl⟩ := Int.eq_ofNat_of_zero_le h2
    have hK : K ≤ 70 := by omega
    have hin : I64 n := i64_small (by omega)
    have hgz := good_zero 200
    have hbz := BufG.start 200
    have hrest : ∀ (w1 : World) (m b s v x y z q : Nat), Hid (Sep w (OldA w :: freshL 200 0 m b s v x y z q) w1) → w1.cell? ⟨q, 2, none⟩ = some (.pointer (some ⟨v, 0, none⟩)) := fun w1 m b s v x y z q h => fresh_cells h.out 8 rfl 2 (by simp)
    have HIN := Lib.hid hin
    have HGZ := Lib.hid hgz
    have HBZ := Lib.hid hbz
    have HREST := Lib.hid hrest
    clear hin hgz hbz hrest
    go_enter Try.func3, Try.ntmps3
    go_wp2_with fail
    refine (fresh_any 200 0 w (by omega) (by omega)).mono ?_
    rintro e w1 ⟨m, b, s, v, x, y, z, q, rfl, HS1⟩
    have hqv := HREST.out _ _ _ _ _ _ _ _ _ HS1
    go_wp2_with fail
    refine (viewRead_sep HS1 1 2 5 6 (by decide) rfl rfl rfl rfl HGZ.out (by omega) HBZ.out SetG.nil (by simp) (by simp) ⟨0, n⟩ (i64_small (by simp only; omega)) HIN.out).mono ?_
    have hcode := fun h => one_code (n := n) h
    have hlong := fun h => long_code (n := n) h
    rintro r w2 hr
    have hread : ∃ (c : Int) (ov : Value), r = .returned (.tuple #[ov, .int .i64 c]) ∧ ((1 ≤ n ∧ n ≤ 16) ∧ c = 0 ∨ (n < 1 ∨ 16 < n) ∧ c = 3) ∧ Hid (Below w.heap.size w w2) := by
      rcases hr with ⟨q1, rfl, q3⟩ | ⟨q1, g, o, c, rfl, q3⟩
      · by_cases hb : n < 1 ∨ 16 < n
        · exact ⟨_, _, rfl, .inr ⟨hb, hlong hb⟩, q3.out.old⟩
        · exact absurd (hcode (by omega)) q1
      · by_cases hb : n < 1 ∨ 16 < n
        · rw [hlong hb] at q1; cases q1
        · exact ⟨0, _, rfl, .inl ⟨by omega, rfl⟩, q3.out.old⟩
    clear hr hcode hlong hqv HS1
    obtain ⟨c, ov, rfl, hcc, HB2⟩ := hread
    have hnn : (n < 1 ∧ c = 3) ∨ (1 ≤ n ∧ 16 < n ∧ c = 3) ∨ (1 ≤ n ∧ n ≤ 16 ∧ c = 0) := by omega
    clear hcc
    rcases hnn with ⟨g1, rfl⟩ | ⟨g1, g2, rfl⟩ | ⟨g1, g2, rfl⟩
    all_goals
      go_wp2_with fail
      refine (fresh_any 200 0 w2 (by omega) (by omega)).mono ?_
      rintro e w3 ⟨m', b', s', v', x', y', z', q', rfl, HS3⟩
      go_wp2_with fail
      go_loopw [12] (fun i wr => ∃ j : Nat, ∃ R, j ≤ K ∧ i = .int .i64 j ∧ Hid (Sep w2 [OldA w2, ExtA (.pointer (some ⟨m', 0, none⟩)) 200 0 [], BufA (.pointer (some ⟨b', 0, none⟩)) 200 16 [], TrueA, TrueA, SetA (.pointer (some ⟨s', 0, none⟩)) 64 (evens (min j 64)), ViewA (.pointer (some ⟨v', 0, none⟩)) (.pointer (some ⟨m', 0, none⟩)) (.pointer (some ⟨b', 0, none⟩)) 0 (.pointer (some ⟨s', 0, none⟩)) R, TrueA, BoxA q' #[.pointer (some ⟨m', 0, none⟩), .pointer (some ⟨b', 0, none⟩), .pointer (some ⟨v', 0, none⟩), .pointer (some ⟨x', 0, none⟩), .pointer (some ⟨y', 0, none⟩), .pointer (some ⟨z', 0, none⟩)] 36] wr) ∧ Hid (R.length ≤ j)) (fun i _ => K - (intOf i).toNat)
      case atStart => exact ⟨0, [], by omega, rfl, ((HS3.out.imp 3 (A' := TrueA) rfl (fun _ _ _ => trivial)).imp 4 (A' := TrueA) rfl (fun _ _ _ => trivial)).imp 7 (A' := TrueA) rfl (fun _ _ _ => trivial), Lib.hid (Nat.le_refl 0)⟩
      case round =>
        obtain ⟨j, R, hj, rfl, HS, HR⟩ := hrel
        have hqv : wr.cell? ⟨q', 2, none⟩ = some (.pointer (some ⟨v', 0, none⟩)) := fresh_cells HS.out 8 rfl 2 (by simp)
        have hgood := evens_good (min j 64) (by omega)
        have hel := evens_len (min j 64)
        have hRl := HR.out
        by_cases hlt : j < K
        case pos =>
          obtain ⟨hc1, hn1⟩ := even_code (i := j) (by omega)
          have hw1 : IntKind.i64.wrap (2 * (j : Int)) = 2 * (j : Int) := IntWalk.i64_in _ (by omega)
          have hi64 : I64 (2 * (j : Int)) := i64_small (by omega)
          by_cases hj6 : j < 64
          case pos =>
            rw [if_pos hj6] at hc1
            have hj6' : (j : Int) < 64 := by omega
            have hd6 : decide ((j : Int) < 64) = true := decide_eq_true hj6'
            have HC1 := Lib.hid hc1
            have HN1 := Lib.hid hn1
            have HI64 := Lib.hid hi64
            have HGOOD := Lib.hid hgood
            have HEL := Lib.hid hel
            have HRL := Lib.hid hRl
            clear hc1 hn1 hi64 hgood hel hRl
            go_wp2_with fail
            refine (viewRead_sep HS 1 2 5 6 (by decide) rfl rfl rfl rfl HGZ.out (by omega) HBZ.out HGOOD.out (by rw [HEL.out]; omega) (by have := HRL.out; omega) ⟨2 * (j : Int), 1⟩ HI64.out (i64_small (by simp only; omega))).mono ?_
            rintro r w4 (⟨hno, _⟩ | ⟨_, g, o, c, rfl, HS4⟩)
            · exact absurd HC1.out hno
            have hS5 := HS4.out.take 9
            have HS5 := Lib.hid hS5
            clear hS5
            clear HS4
            go_wp2_with fail
            go_roundw
            case rel =>
              refine ⟨j + 1, R ++ readsV [] [] 0 (2 * (j : Int)) 1, by omega, by go_num, ?_, ?_⟩
              · unfold Hid
                rw [← HN1.out]
                exact HS5.out
              · unfold Hid
                rw [List.length_append, readsV_length]
                have := HRL.out
                omega
            case measure => simp [intOf]; omega
          case neg =>
            rw [if_neg hj6] at hc1
            have hj6' : ¬ (j : Int) < 64 := by omega
            have hd6 : decide ((j : Int) < 64) = false := decide_eq_false hj6'
            have hmm : evens (min (j + 1) 64) = evens (min j 64) := by rw [Nat.min_eq_right (by omega), Nat.min_eq_right (by omega)]
            have HC1 := Lib.hid hc1
            have HN1 := Lib.hid hn1
            have HI64 := Lib.hid hi64
            have HGOOD := Lib.hid hgood
            have HEL := Lib.hid hel
            have HRL := Lib.hid hRl
            have HMM := Lib.hid hmm
            clear hc1 hn1 hi64 hgood hel hRl hmm
            go_wp2_with fail
            refine (viewRead_sep HS 1 2 5 6 (by decide) rfl rfl rfl rfl HGZ.out (by omega) HBZ.out HGOOD.out (by rw [HEL.out]; omega) (by have := HRL.out; omega) ⟨2 * (j : Int), 1⟩ HI64.out (i64_small (by simp only; omega))).mono ?_
            rintro r w4 (⟨_, rfl, HS4⟩ | ⟨hz, _⟩)
            case inr => rw [HC1.out] at hz; cases hz
            rw [HC1.out]
            go_wp2_with fail
            go_roundw
            case rel =>
              refine ⟨j + 1, R, by omega, by go_num, ?_, by have := HRL.out; unfold Hid; omega⟩
              unfold Hid
              rw [HMM.out]
              exact HS4.out
            case measure => simp [intOf]; omega
        case neg =>
          have hc3 := three_code (k := min j 64) (by omega)
          have HC3 := Lib.hid hc3
          have HGOOD := Lib.hid hgood
          have HEL := Lib.hid hel
          have HRL := Lib.hid hRl
          clear hc3 hgood hel hRl
          go_wp2_with fail
          refine (viewRead_sep HS 1 2 5 6 (by decide) rfl rfl rfl rfl HGZ.out (by omega) HBZ.out HGOOD.out (by rw [HEL.out]; omega) (by have := HRL.out; omega) ⟨0, 3⟩ (i64_small (by simp only; omega)) (i64_small (by simp only; omega))).mono ?_
          rintro r w4 (⟨hno, _⟩ | ⟨_, g, o, c, rfl, HS4⟩)
          · exact absurd HC3.out hno
          have hS5 := HS4.out.take 9
          have hqv4 : w4.cell? ⟨q', 2, none⟩ = some (.pointer (some ⟨v', 0, none⟩)) := fresh_cells HS4.out 8 rfl 2 (by simp)
          have hgn := addNext_good (most := 64) (l := [⟨0, 3⟩]) HGOOD.out
          have hln := addNext_len (most := 64) (l := [⟨0, 3⟩]) HGOOD.out
          rw [HEL.out] at hln
          simp only [List.length_cons, List.length_nil] at hln
          have hfar := far_code (addNext 64 (evens (min j 64)) [⟨0, 3⟩])
          have hS5' : Hid (Sep w2 [OldA w2, ExtA (.pointer (some ⟨m', 0, none⟩)) 200 0 [], BufA (.pointer (some ⟨b', 0, none⟩)) 200 16 [], TrueA, TrueA, SetA (.pointer (some ⟨s', 0, none⟩)) 64 (addNext 64 (evens (min j 64)) [⟨0, 3⟩]), ViewA (.pointer (some ⟨v', 0, none⟩)) (.pointer (some ⟨m', 0, none⟩)) (.pointer (some ⟨b', 0, none⟩)) 0 (.pointer (some ⟨s', 0, none⟩)) (R ++ readsV [] [] 0 0 3), TrueA, BoxA q' #[.pointer (some ⟨m', 0, none⟩), .pointer (some ⟨b', 0, none⟩), .pointer (some ⟨v', 0, none⟩), .pointer (some ⟨x', 0, none⟩), .pointer (some ⟨y', 0, none⟩), .pointer (some ⟨z', 0, none⟩)] 36] w4) := hS5
          generalize addNext 64 (evens (min j 64)) [⟨0, 3⟩] = S5 at *
          have HGN := Lib.hid hgn
          have HLN := Lib.hid hln
          have HFAR := Lib.hid hfar
          clear hgn hln hfar
          clear hS5 HS4 hqv
          go_wp2_with fail
          refine (viewRead_sep hS5' 1 2 5 6 (by decide) rfl rfl rfl rfl HGZ.out (by omega) HBZ.out HGN.out (by have := HLN.out; omega) (by have := HRL.out; rw [List.length_append, readsV_length]; omega) ⟨190, 16⟩ (i64_small (by simp only; omega)) (i64_small (by simp only; omega))).mono ?_
          rintro r w5 (⟨_, rfl, HS5⟩ | ⟨hz, _⟩)
          case inr => rw [HFAR.out] at hz; cases hz
          rw [HFAR.out]
          have hb5 := HS5.out.old
          have hb25 : Below w.heap.size w w5 := HB2.out.trans (hb5.mono HB2.out.size)
          have HB25 := Lib.hid hb25
          have HB5 := Lib.hid hb5
          clear hb25 hb5
          go_wp2_with fail
          refine (awake15 _).mono ?_
          rintro r w6 ⟨rfl, hb6⟩
          have hb26 := Below.up HB25.out hb6
          have HB26 := Lib.hid hb26
          have HB6 := Lib.hid hb6
          clear hb26 hb6
          go_wp2
          go_ret
          exact ⟨rfl, HB26.out⟩
end Go.Proofs
