/- The laws of chapter 16: are things looked at? -/
import Derived.Test.YtnjidpmggggiiaaAlike
import Derived.Test.YtnjidpmggggiiaaSep
namespace Go.Proofs
open Go.RowKit Sc

def Small16 (a b : List Tx) (n1 n2 : Nat) (w : World) (e : Ending) (w' : World) : Prop := ∃ q : Bool, e = .returned (.bool q) ∧ (q = true → tsz a ≤ 10000 ∧ tsz b ≤ 10000 ∧ n1 ≤ 60 ∧ n2 ≤ 60) ∧ Below w.heap.size w w'
theorem sat_le {n x : Int} (hn : 0 ≤ n) (hx : 0 ≤ x) (h : sat n x ≤ 10000) : n ≤ 10000 ∧ x ≤ 10000 := by
  unfold sat at h; split at h <;> omega
set_option maxHeartbeats 1000000 in
theorem small16_any (Ga Gb : Nat → Prop) (va vb : Value) (a b : List Tx) (p1 p2 : Option Addr) (n1 c1 n2 c2 : Nat) (w : World) (ga : Dom Ga w) (gb : Dom Gb w) (ha : TxsAt Ga w va a) (hb : TxsAt Gb w vb b) :
    Calls Try.prog 31 #[va, vb, .slice p1 n1 c1, .slice p2 n2 c2] w (Small16 a b n1 n2 w) := by
  have h1 := txs_any Ga va a 10000 w ga ha (by omega) (by omega)
  have H1 := Lib.hid h1
  have HB := Lib.hid hb
  clear h1 hb
  clear ha ga
  go_enter Try.func31, Try.ntmps31
  go_wp2_with fail
  refine (H1.out).mono ?_
  rintro e w1 ⟨n, rfl, hn0, hn1, hn2, hb1⟩
  have h2 := txs_any Gb vb b 10000 w1 (gb.below hb1) (TxsAt.up HB.out hb1) (by omega) (by omega)
  have H2 := Lib.hid h2
  have HN2 := Lib.hid hn2
  have HB1 := Lib.hid hb1
  clear h2 hn2 hb1
  clear gb
  go_wp2_with fail
  refine (H2.out).mono ?_
  rintro e w2 ⟨m, rfl, hm0, hm1, hm2, hb2⟩
  have hb02 := Below.up HB1.out hb2
  have hcell : (w2.alloc (.cells #[.int .i64 m] 3)).cell? ⟨w2.heap.size, 0, none⟩ = some (.int .i64 m) := by rw [cell_row (heap_alloc_new w2 _)]; rfl
  have hb03 := Below.up hb02 (below_alloc w2 (.cells #[.int .i64 m] 3))
  have hsum := sum_one n m w2.heap.size 1 (w2.alloc (.cells #[.int .i64 m] 3)) hn0 hn1 hm0 (by omega) hcell
  have hbd := sat_bd hn0 hn1 hm0
  have hle := sat_le hn0 hm0
  generalize sat n m = s at *
  have HB2 := Lib.hid hb2
  have HB02 := Lib.hid hb02
  have HB03 := Lib.hid hb03
  have HSUM := Lib.hid hsum
  have HLE := Lib.hid hle
  have HM2 := Lib.hid hm2
  clear hb2 hb02 hb03 hsum hle hm2
  clear hcell
  go_wp2_with fail
  refine (HSUM.out).mono ?_
  rintro e w3 ⟨rfl, rfl⟩
  by_cases hs : s ≤ 10000
  case neg =>
    have hs' : 10000 < s := by omega
    clear hs
    go_wp2
    go_ret
    exact ⟨false, rfl, fun h => (by cases h), HB03.out⟩
  case pos =>
    obtain ⟨q1, q2⟩ := HLE.out hs
    have z1 := HN2.out q1
    have z2 := HM2.out q2
    have HZ1 := Lib.hid z1
    have HZ2 := Lib.hid z2
    clear z1 z2
    by_cases hr : n1 ≤ 60
    case neg =>
      have hr' : 60 < (n1 : Int) := by omega
      clear hr
      go_wp2
      go_ret
      exact ⟨false, rfl, fun h => (by cases h), HB03.out⟩
    case pos =>
      have hr' : (n1 : Int) ≤ 60 := by omega
      by_cases hw : n2 ≤ 60
      case neg =>
        have hw' : 60 < (n2 : Int) := by omega
        have hwd : decide ((n2 : Int) ≤ 60) = false := decide_eq_false (by omega)
        clear hw
        go_wp2
        go_ret
        exact ⟨false, rfl, fun h => (by cases h), HB03.out⟩
      case pos =>
        have hw' : (n2 : Int) ≤ 60 := by omega
        go_wp2
        go_ret
        exact ⟨true, rfl, fun _ => ⟨by have := HZ1.out; omega, by have := HZ2.out; omega, hr, hw⟩, HB03.out⟩
end Go.Proofs
