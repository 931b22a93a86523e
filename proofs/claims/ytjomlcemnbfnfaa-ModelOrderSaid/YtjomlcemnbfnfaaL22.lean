/- The laws of chapter 22: what small and awake give. -/
import Derived.Test.YtjomlcemnbfnfaaRun
import Derived.Test.YtjomlcemnbfnfaaSame
namespace Go.Proofs
open Go.RowKit Sc

theorem dataB_len (k : Int) : (dataB k).length = 40 := dataB_length k
theorem data1_not : zero40 (dataB 1) = false := by decide +kernel

set_option maxRecDepth 100000 in
set_option maxHeartbeats 1000000 in
theorem awake22 (w : World) : Calls Try.prog 17 #[] w fun e w' => e = .returned (.bool true) ∧ Below w.heap.size w w' := by
  go_enter Try.func17, Try.ntmps17
  go_wp2_with fail
  refine (modelNew_any 3 _ (by omega) (by omega)).mono ?_
  rintro e w1 ⟨v, rfl, hm, hb1⟩
  have HM := Lib.hid hm
  obtain ⟨⟨b, r, ml, rfl, _⟩, _⟩ := hm
  have HB1 := Lib.hid hb1
  clear hb1
  go_wp2_with fail
  refine (data_any 1 _).mono ?_
  rintro e w2 ⟨dv, rfl, hd, hb2⟩
  obtain ⟨dp, dc, rfl⟩ := shape_of hd (dataB_len 1)
  have HD := Lib.hid hd
  have HB2 := Lib.hid hb2
  clear hd hb2
  go_wp2_with fail
  have hp := putsAt_one (n := 0) (by unfold I64; omega) HD.out HB2.out.size 39
  have ht : TxAt (New w1 (w2.alloc (.cells #[.int .i64 0, .slice dp 40 dc] 39))) (w2.alloc (.cells #[.int .i64 0, .slice dp 40 dc] 39)) _ ⟨0, _⟩ := ⟨_, rfl, i64_zero, hp⟩
  have hw1 : Below w1.heap.size w1 (w2.alloc (.cells #[.int .i64 0, .slice dp 40 dc] 39)) := Below.up HB2.out (below_alloc _ _)
  refine (modelRun_any (New w w1) _ _ _ 3 [] _ _ (by omega) (HM.out.same (HM.out.dom.same hw1)) ht (fun k hk => hk.2) (fun k h1 h2 => by have := h1.2; have := h2.1; omega)).mono ?_
  rintro e w3 ⟨rfl, hc3, hm3⟩
  have hrc : runCode 3 [(⟨0, dataB 1⟩ : Put)] = 0 := by decide +kernel
  have hrp : runPuts [] [(⟨0, dataB 1⟩ : Put)] = [(0, dataB 1)] := by
    simp only [runPuts, List.foldl, runStep, data1_not]; rfl
  simp only [hrc, hrp, if_true] at hm3
  rw [hrc]
  have HM3 := Lib.hid hm3
  have HC3 := Lib.hid hc3
  clear hm3 hc3 hrc hrp ht hp
  go_wp2_with fail
  refine (modelGet_any _ _ 3 0 _ _ HM3.out (fun k d h => ?_)).mono ?_
  · simp only [alook] at h; split at h
    · cases h; exact dataB_len 1
    · cases h
  rintro e w4 (⟨h0, _⟩ | ⟨_, v4, rfl, hv4, hb4⟩)
  · exact absurd h0 (by decide)
  have HV4 := Lib.hid hv4
  have HB4 := Lib.hid hb4
  clear hv4 hb4
  go_wp2_with fail
  refine (modelGet_any _ _ 3 3 _ _ (HM3.out.same (HM3.out.dom.same HB4.out)) (fun k d h => ?_)).mono ?_
  · simp only [alook] at h; split at h
    · cases h; exact dataB_len 1
    · cases h
  rintro e w5 (⟨_, rfl, hb5⟩ | ⟨h0, _⟩)
  case inr => exact absurd h0 (by decide)
  have HB5 := Lib.hid hb5
  clear hb5
  go_wp2_with fail
  refine (data_any 1 _).mono ?_
  rintro e w6 ⟨dv6, rfl, hd6, hb6⟩
  have HD6 := Lib.hid hd6
  have HB6 := Lib.hid hb6
  clear hd6 hb6
  go_wp2_with fail
  refine (bytes_any (fun _ => True) _ _ (dataB 1) (dataB 1) _ (BytesAt.mono (HV4.out.up (Below.up HB5.out HB6.out)) fun _ _ => trivial) (BytesAt.mono HD6.out fun _ _ => trivial)).mono ?_
  rintro e w7 ⟨rfl, hb7⟩
  have HB7 := Lib.hid hb7
  clear hb7
  rw [show (dataB 1 == dataB 1) = true by simp]
  go_wp2_with fail
  go_ret
  refine ⟨rfl, ?_⟩
  have h47 := Below.up HB4.out (Below.up HB5.out (Below.up HB6.out HB7.out))
  have hz := HB1.out.size
  have h3 : Below w.heap.size _ w3 := HC3.out.below (by have := hw1.size; omega) (fun k hk h => by have := h.1; omega)
  exact ((HB1.out.trans (hw1.mono hz)).trans h3).trans (h47.mono (by have := h3.size; have := hw1.size; omega))

set_option maxHeartbeats 400000 in
theorem hists_nil (w : World) : Calls Try.prog 39 #[.slice none 0 0, .int .i64 10000] w fun e w' => e = .returned (.int .i64 0) ∧ Below w.heap.size w w' := by
  go_enter Try.func39, Try.ntmps39
  go_wp2_with (go_at_call 40; refine (sum_one 0 0 _ _ _ (by omega) (by omega) (by omega) (by omega) (by go_simp)).mono ?_; rintro e w' ⟨rfl, rfl⟩; rw [show sat 0 0 = (0 : Int) from by decide])
  go_loop [5, 6] (fun n i => n = .int .i64 0 ∧ i = .int .i64 0) (fun _ _ => 0)
  case atStart => exact ⟨rfl, rfl⟩
  case round =>
    obtain ⟨rfl, rfl⟩ := hrel
    go_wp2
    go_ret
    exact ⟨rfl, below_alloc _ _⟩

/-- What small says of transactions: if yes, there are few. -/
def Small22 (l : List Tx) (w : World) (e : Ending) (w' : World) : Prop := ∃ q : Bool, e = .returned (.bool q) ∧ (q = true → tsz l ≤ 10000 ∧ l.length ≤ 100) ∧ Below w.heap.size w w'
set_option maxHeartbeats 400000 in
theorem small22_any (G : Nat → Prop) (v : Value) (l : List Tx) (w : World) (hG : Dom G w) (hv : TxsAt G w v l) :
    Calls Try.prog 15 #[v, .slice none 0 0] w (Small22 l w) := by
  have hlen : ∃ p c, v = .slice p l.length c ∧ l.length ≤ 9223372036854775807 := by obtain ⟨p, c, rfl, h1, h2, _⟩ := hv; exact ⟨p, c, rfl, by omega⟩
  obtain ⟨p, c, rfl, hl⟩ := hlen
  have HV := Lib.hid hv
  clear hv
  go_enter Try.func15, Try.ntmps15
  go_wp2_with fail
  refine (txs_any G _ l 10000 _ hG HV.out (by omega) (by omega)).mono ?_
  rintro e w1 ⟨n, rfl, hn0, hn1, hn2, hb1⟩
  have HN := Lib.hid hn2
  have HB1 := Lib.hid hb1
  clear hn2 hb1
  by_cases h1 : n ≤ 10000
  · by_cases h2 : l.length ≤ 100
    · have h2' : ((l.length : Nat) : Int) ≤ 100 := by omega
      go_wp2_with fail
      refine (hists_nil _).mono ?_
      rintro e w2 ⟨rfl, hb2⟩
      have HB2 := Lib.hid hb2
      clear hb2
      go_wp2
      go_ret
      exact ⟨true, rfl, fun _ => ⟨by have := HN.out h1; omega, h2⟩, Below.up HB1.out HB2.out⟩
    · have h2' : ¬ ((l.length : Nat) : Int) ≤ 100 := by omega
      go_wp2
      go_ret
      exact ⟨false, rfl, fun h => (by cases h), HB1.out⟩
  · go_wp2
    go_ret
    exact ⟨false, rfl, fun h => (by cases h), HB1.out⟩
end Go.Proofs
