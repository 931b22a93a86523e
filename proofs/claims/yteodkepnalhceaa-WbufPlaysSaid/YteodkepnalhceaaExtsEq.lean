/- scarpalike.Extents: two lists of extents. -/
import Derived.Test.YteodkepnalhceaaIval1
import Derived.BigQuiet
namespace Go.Proofs
open Go.RowKit Sc

def ekey (e : Ext) : Int × Int := (e.first, e.len)
theorem ekey_inj {a b : Ext} (h : ekey a = ekey b) : a = b := by
  unfold ekey at h
  exact ext_eta (congrArg Prod.fst h) (congrArg Prod.snd h)
def sameE (a b : List Ext) : Bool := a.map ekey == b.map ekey
theorem sameE_iff {a b : List Ext} : sameE a b = true ↔ a = b := by
  unfold sameE
  rw [beq_iff_eq]
  constructor
  · intro h
    exact List.map_inj_right (fun x y h => ekey_inj h) |>.1 h
  · rintro rfl; rfl
theorem sameE_no {a b : List Ext} (h : a ≠ b) : sameE a b = false := by
  cases hq : sameE a b with
  | false => rfl
  | true => exact absurd (sameE_iff.1 hq) h
set_option maxHeartbeats 1000000 in
theorem exts_any (Ga Gb : Nat → Prop) (va vb : Value) (a b : List Ext) (w : World) (ha : ExtsAt Ga w va a) (hb : ExtsAt Gb w vb b) :
    Calls Try.prog 19 #[va, vb] w fun e w' => e = .returned (.bool (sameE a b)) ∧ Below w.heap.size w w' := by
  obtain ⟨pa, ca, rfl, ha1, ha2, ha3, ha4⟩ := ha
  obtain ⟨pb, cb, rfl, hb1, hb2, hb3, hb4⟩ := hb
  by_cases hlen : a.length = b.length
  case neg =>
    have hne : (((a.length : Nat) : Int) != ((b.length : Nat) : Int)) = true := by rw [bne_iff_ne]; omega
    have hne2 : sameE a b = false := sameE_no fun h => hlen (by rw [h])
    have HNE2 := Lib.hid hne2
    clear hne2
    clear ha4 hb4 ha3 hb3 hlen
    go_enter Try.func19, Try.ntmps19
    go_wp2
    go_ret
    rw [HNE2.out]
    exact ⟨rfl, Below.refl _ _⟩
  case pos =>
    have heq : (((a.length : Nat) : Int) != ((b.length : Nat) : Int)) = false := by rw [bne_eq_false_iff_eq]; omega
    have HA := Lib.hid ha4
    have HB := Lib.hid hb4
    have HL := Lib.hid hlen
    clear ha4 hb4 ha3 hb3 hlen
    go_enter Try.func19, Try.ntmps19
    go_wp2
    go_loopw [5] (fun i wr => ∃ k : Nat, k ≤ a.length ∧ i = .int .i64 k ∧ Hid (a.take k = b.take k) ∧ Below w.heap.size w wr) (fun i _ => a.length - (intOf i).toNat)
    case atStart => exact ⟨0, by omega, rfl, rfl, Below.refl _ _⟩
    case round =>
      obtain ⟨k, hk, rfl, HT, hbw⟩ := hrel
      by_cases hlt : k < a.length
      · have hltb : k < b.length := by rw [← HL.out]; exact hlt
        obtain ⟨g1, o1, rfl, _, hc1, hd1, _⟩ := HA.out k hlt
        obtain ⟨g2, o2, rfl, _, hc2, hd2, _⟩ := HB.out k hltb
        have hc1' := cell_up hbw hc1
        have hc2' := cell_up hbw hc2
        have hd1' := cell_up hbw hd1
        have hd2' := cell_up hbw hd2
        have hta := take_snoc a k hlt
        have htb := take_snoc b k hltb
        have hend : a[k] ≠ b[k] → sameE a b = false := fun hne => sameE_no fun h => hne (by subst h; rfl)
        generalize a[k] = x at *
        generalize b[k] = y at *
        have hkI : (k : Int) < (b.length : Int) := by omega
        have HTA := Lib.hid hta
        have HTB := Lib.hid htb
        have HEND := Lib.hid hend
        clear hta htb hend
        clear hc1 hc2 hd1 hd2
        by_cases hx1 : x.first = y.first
        · by_cases hx2 : x.len = y.len
          · have hxy : x = y := ext_eta hx1 hx2
            subst hxy
            clear hx1 hx2
            go_wp2
            go_quiet (fail)
            go_wp2
            go_roundw
            case rel => exact ⟨k + 1, by omega, by go_num, by unfold Hid; rw [HTA.out, HTB.out, HT.out], below_drewN hbw _⟩
            case measure => simp [intOf]; omega
          · have hfl := HEND.out (fun e => hx2 (by rw [e]))
            rw [← hx1] at hc2'
            have hq2 : (x.len == y.len) = false := by rw [beq_eq_false_iff_ne]; exact hx2
            have hq3 : (x.len != y.len) = true := by rw [bne_iff_ne]; exact hx2
            have HFL := Lib.hid hfl
            clear hfl
            clear hx1 
            go_wp2
            go_quiet (fail)
            go_wp2
            go_ret
            exact ⟨congrArg boolRet HFL.out.symm, below_drewN hbw _⟩
        · have hfl := HEND.out (fun e => hx1 (by rw [e]))
          have hq2 : (x.first == y.first) = false := by rw [beq_eq_false_iff_ne]; exact hx1
          have hq3 : (x.first != y.first) = true := by rw [bne_iff_ne]; exact hx1
          have HFL := Lib.hid hfl
          clear hfl
          go_wp2
          go_quiet (fail)
          go_wp2
          go_ret
          exact ⟨congrArg boolRet HFL.out.symm, below_drewN hbw _⟩
      · have hkl : k = a.length := by omega
        have hs : sameE a b = true := sameE_iff.2 (by
          have := HT.out
          rw [hkl, List.take_length, HL.out, List.take_length] at this; exact this)
        have HS := Lib.hid hs
        have HKL := Lib.hid hkl
        clear hs hkl
        go_wp2
        go_ret
        exact ⟨congrArg boolRet HS.out.symm, hbw⟩
end Go.Proofs
