/- The laws of chapter 22: what small says of histories. -/
import Derived.Test.YtjomlcemnbfnfaaL22
import Derived.Test.YtjomlcemnbfnfaaHists
namespace Go.Proofs
open Go.RowKit Sc

def Small22h (l : List Hist) (w : World) (e : Ending) (w' : World) : Prop := ∃ q : Bool, e = .returned (.bool q) ∧ (q = true → hsz l ≤ 10000 ∧ l.length ≤ 60) ∧ Below w.heap.size w w'
set_option maxHeartbeats 400000 in
theorem small22h_any (G : Nat → Prop) (v : Value) (l : List Hist) (w : World) (hG : Dom G w) (hv : HistsAt G w v l) :
    Calls Try.prog 15 #[.slice none 0 0, v] w (Small22h l w) := by
  have hlen : ∃ p c, v = .slice p l.length c ∧ l.length ≤ 9223372036854775807 := by obtain ⟨p, c, rfl, h1, h2, _⟩ := hv; exact ⟨p, c, rfl, by omega⟩
  obtain ⟨p, c, rfl, hl⟩ := hlen
  have HV := Lib.hid hv
  clear hv
  go_enter Try.func15, Try.ntmps15
  go_wp2_with fail
  refine (txs_any G (.slice none 0 0) [] 10000 _ hG SlAt.nil (by omega) (by omega)).mono ?_
  rintro e w1 ⟨n, rfl, hn0, hn1, hn2, hb1⟩
  have HB1 := Lib.hid hb1
  have HV1 := Lib.hid (HistsAt.up HV.out hb1)
  have HG1 : Hid (Dom G w1) := fun k hk => Nat.lt_of_lt_of_le (hG k hk) hb1.size
  clear hn2 hb1
  by_cases h1 : n ≤ 10000
  case neg =>
    go_wp2
    go_ret
    exact ⟨false, rfl, fun h => absurd h (by decide), HB1.out⟩
  case pos =>
    go_wp2_with fail
    refine (hists_any G _ l 10000 _ HG1.out HV1.out (by omega) (by omega)).mono ?_
    rintro e w2 ⟨m, rfl, hm0, hm1, hm2, hb2⟩
    have HM := Lib.hid hm2
    have HB2 := Lib.hid (Below.up HB1.out hb2)
    clear hm2 hb2
    by_cases h2 : m ≤ 10000
    case neg =>
      go_wp2
      go_ret
      exact ⟨false, rfl, fun h => absurd h (by decide), HB2.out⟩
    case pos =>
      by_cases h3 : l.length ≤ 60
      · have h3' : ((l.length : Nat) : Int) ≤ 60 := by omega
        go_wp2
        go_ret
        exact ⟨true, rfl, fun _ => ⟨by have := HM.out h2; omega, h3⟩, HB2.out⟩
      · have h3' : ¬ ((l.length : Nat) : Int) ≤ 60 := by omega
        go_wp2
        go_ret
        exact ⟨_, rfl, fun h => absurd (of_decide_eq_true h) (by omega), HB2.out⟩
end Go.Proofs
