/- scarpalike's Ints: two lists of ints, alike. -/
import Derived.Test.YtnegbfeokcjclaaAlike
import Derived.Test.YtnegbfeokcjclaaInfo
namespace Go.Proofs
open Go.RowKit Sc

set_option maxHeartbeats 400000 in
theorem ints_any (G : Nat → Prop) (va vb : Value) (a b : List Int) (w : World) (ha : IntsAt G w va a) (hb : IntsAt G w vb b) :
    Calls Try.prog 40 #[va, vb] w fun e w' => e = .returned (.bool (a == b)) ∧ Below w.heap.size w w' := by
  obtain ⟨pa, ca, rfl, ha1, ha2, ha3, ha4⟩ := ha
  obtain ⟨pb, cb, rfl, hb1, hb2, hb3, hb4⟩ := hb
  by_cases hlen : a.length = b.length
  case neg =>
    have hne : (((a.length : Nat) : Int) != ((b.length : Nat) : Int)) = true := by rw [bne_iff_ne]; omega
    have hne2 : (a == b) = false := by rw [beq_eq_false_iff_ne]; intro h; exact hlen (by rw [h])
    have HNE2 := Lib.hid hne2
    clear hne2
    clear ha4 hb4 ha3 hb3 hlen
    go_enter Try.func40, Try.ntmps40
    go_wp2
    go_ret
    rw [HNE2.out]
    exact ⟨rfl, Below.refl _ _⟩
  case pos =>
    have heq : (((a.length : Nat) : Int) != ((b.length : Nat) : Int)) = false := by rw [bne_eq_false_iff_eq]; omega
    have HA := Lib.hid ha4
    have HB := Lib.hid hb4
    have HL := Lib.hid hlen
    clear ha4 hb4 ha3 hb3 hlen
    go_enter Try.func40, Try.ntmps40
    go_wp2
    go_loopw [5] (fun i wr => ∃ k : Nat, k ≤ a.length ∧ i = .int .i64 k ∧ Hid (a.take k = b.take k) ∧ Below w.heap.size w wr) (fun i _ => a.length - (intOf i).toNat)
    case atStart => exact ⟨0, by omega, rfl, rfl, Below.refl _ _⟩
    case round =>
      obtain ⟨k, hk, rfl, HT, hbw⟩ := hrel
      by_cases hlt : k < a.length
      · have hltb : k < b.length := by rw [← HL.out]; exact hlt
        obtain ⟨g1, o1, rfl, _, hc1, _⟩ := HA.out k hlt
        obtain ⟨g2, o2, rfl, _, hc2, _⟩ := HB.out k hltb
        rw [Nat.mul_one] at hc1 hc2
        have hc1' := cell_up hbw hc1
        have hc2' := cell_up hbw hc2
        have hta := take_snoc a k hlt
        have htb := take_snoc b k hltb
        generalize a[k] = x at hc1 hc1' hta
        generalize b[k] = y at hc2 hc2' htb
        have HTA := Lib.hid hta
        have HTB := Lib.hid htb
        clear hta htb hc1 hc2
        by_cases hxy : x = y
        · subst hxy
          have hd : (x != x) = false := by simp
          go_wp2
          go_quiet (fail)
          go_wp2
          go_roundw
          case rel => exact ⟨k + 1, by omega, by go_num, by unfold Hid; rw [HTA.out, HTB.out, HT.out], below_drewN hbw _⟩
          case measure => simp [intOf]; omega
        · have hd : (x != y) = true := by rw [bne_iff_ne]; exact hxy
          have HXY := Lib.hid hxy
          clear hxy
          go_wp2
          go_quiet (fail)
          go_wp2
          go_ret
          refine ⟨?_, below_drewN hbw _⟩
          have : (a == b) = false := by
            rw [beq_eq_false_iff_ne]; intro h
            have h1 := HTA.out; rw [h, HTB.out] at h1
            have h2 := (List.append_inj' h1 rfl).2
            exact HXY.out (by simpa using h2.symm)
          exact congrArg boolRet this.symm
      · have HK := Lib.hid (show k = a.length by omega)
        go_wp2
        go_ret
        refine ⟨?_, hbw⟩
        have : (a == b) = true := by
          have h := HT.out
          rw [HK.out, List.take_length, HL.out, List.take_length] at h
          rw [h]; simp
        exact congrArg boolRet this.symm
end Go.Proofs
