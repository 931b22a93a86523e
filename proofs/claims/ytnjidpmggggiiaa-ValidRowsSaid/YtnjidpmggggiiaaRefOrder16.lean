/- scarpref11's Order. -/
import Derived.Test.YtnjidpmggggiiaaOrder16
namespace Go.Proofs
open Go.RowKit Sc

set_option maxRecDepth 100000 in
set_option maxHeartbeats 2000000 in
theorem refOrder_any (G : Nat → Prop) (v : Value) (l : List Tx) (w : World) (hG : Dom G w) (hv : TxsAt G w v l) : Calls Try.prog 38 #[v] w fun e w' => e = .returned (.bool (ordFrom 0 l)) ∧ Below w.heap.size w w' := by
  obtain ⟨p, c, rfl, h1, h2, h3, h4⟩ := hv
  have H4 := Lib.hid h4
  clear h4
  clear h3
  go_enter Try.func38, Try.ntmps38
  go_wp2_with fail
  go_loopw [3, 4] (fun lv i wr => ∃ k : Nat, ∃ last : Int, k ≤ l.length ∧ i = .int .i64 k ∧ lv = .int .i64 last ∧ Hid (ordFrom 0 l = ordFrom last (l.drop k)) ∧ Hid (Below w.heap.size w wr)) (fun _ i _ => l.length - (intOf i).toNat)
  case atStart => exact ⟨0, 0, by omega, rfl, rfl, rfl, Below.refl _ _⟩
  case round =>
    obtain ⟨k, last, hk, rfl, rfl, HO, HB⟩ := hrel
    by_cases hlt : k < l.length
    case neg =>
      obtain rfl : k = l.length := by omega
      have ho := HO.out
      rw [List.drop_length] at ho
      have ho' : ordFrom 0 l = true := ho
      have HO := Lib.hid ho
      have HO' := Lib.hid ho'
      clear ho ho'
      go_wp2_with fail
      go_ret
      exact ⟨congrArg boolRet HO'.out.symm, HB.out⟩
    case pos =>
      obtain ⟨g, o, rfl, hg, hte⟩ := H4.out k hlt
      obtain ⟨pv, hct, hcp, ⟨_, he, hti, hpu⟩, _⟩ := txE_txAt hte
      cases he
      obtain ⟨pp, pc, rfl, q1, q2, _, q4⟩ := hpu
      have hct' := (HB.out.cell (p := ⟨g, o + k * 2, none⟩) (hG g hg)).trans hct
      have hcp' := (HB.out.cell (p := ⟨g, o + k * 2 + 1, none⟩) (hG g hg)).trans hcp
      have ho := HO.out
      rw [List.drop_eq_getElem_cons hlt] at ho
      generalize l[k] = t at *
      have hstep : ordFrom last (t :: l.drop (k + 1)) = (decide (last < t.time) && decide (t.time ≤ 1099511627776) && riseB t.puts && ordFrom t.time (l.drop (k + 1))) := rfl
      rw [hstep] at ho
      have HWA := HB
      have hkI : (k : Int) < (l.length : Int) := by omega
      have HQ4 := Lib.hid q4
      clear q4
      clear hstep hct hcp hte
      by_cases c1 : last < t.time
      case neg =>
        rw [decide_eq_false c1, Bool.false_and, Bool.false_and, Bool.false_and] at ho
        have c1' : t.time ≤ last := by omega
        have HO := Lib.hid ho
        clear ho
        clear c1
        go_wp2_with fail
        go_ret
        exact ⟨congrArg boolRet HO.out.symm, HWA.out⟩
      by_cases c2 : t.time ≤ 1099511627776
      case neg =>
        rw [decide_eq_false c2, Bool.and_false, Bool.false_and, Bool.false_and] at ho
        have c2' : 1099511627776 < t.time := by omega
        have HO := Lib.hid ho
        clear ho
        clear c2
        go_wp2_with fail
        go_ret
        exact ⟨congrArg boolRet HO.out.symm, HWA.out⟩
      rw [decide_eq_true c1, decide_eq_true c2, Bool.true_and, Bool.true_and] at ho
      by_cases hz : t.puts.length = 0
      case pos =>
        rw [riseB_empty hz, Bool.false_and] at ho
        have hz0 : ((t.puts.length : Int) == 0) = true := by rw [beq_iff_eq]; omega
        have HO := Lib.hid ho
        have HZ := Lib.hid hz
        clear ho hz
        go_wp2_with fail
        go_ret
        exact ⟨congrArg boolRet HO.out.symm, HWA.out⟩
      case neg =>
        have hz0 : ((t.puts.length : Int) == 0) = false := by rw [beq_eq_false_iff_ne]; omega
        have hpos : 1 ≤ t.puts.length := by omega
        have hgd : ∀ i (h : i < t.puts.length), (t.puts.map (·.lba)).getD i 0 = t.puts[i].lba := fun i h => by simp [List.getD, h]
        have hge := fun j => riseB_ge (l := t.puts) (j := j)
        have hal := riseB_all (l := t.puts) (by omega)
        have HO := Lib.hid ho
        have HGD := Lib.hid hgd
        have HGE := Lib.hid hge
        have HAL := Lib.hid hal
        clear ho hgd hge hal
        obtain ⟨W4, rfl⟩ : ∃ W4 : World, W4 = wr := ⟨_, rfl⟩
        go_wp2_with fail
        go_loopw [5] (fun jv wr => ∃ m : Nat, 1 ≤ m ∧ m ≤ t.puts.length ∧ jv = .int .i64 m ∧ Hid (Below W4.heap.size W4 wr) ∧ Hid (∀ i, i + 1 < m → (t.puts.map (·.lba)).getD i 0 < (t.puts.map (·.lba)).getD (i + 1) 0)) (fun jv _ => t.puts.length - (intOf jv).toNat)
        case atStart => exact ⟨1, by omega, by omega, rfl, Below.refl _ _, fun i hi => by omega⟩
        case round =>
          obtain ⟨m, hm1, hm2, rfl, HB2, HA⟩ := hrel
          have hct2 := cell_up HB2.out hct'
          have hcp2 := cell_up HB2.out hcp'
          have hbe := Below.up HWA.out HB2.out
          by_cases hlt2 : m < t.puts.length
          case neg =>
            obtain rfl : m = t.puts.length := by omega
            have ho := HO.out
            rw [HAL.out HA.out, Bool.true_and] at ho
            have HO := Lib.hid ho
            have HBE := Lib.hid hbe
            clear ho hbe
            go_wp2_with fail
            go_roundw
            case rel => exact ⟨k + 1, t.time, by omega, by go_num, rfl, HO.out, HBE.out⟩
            case measure => simp [intOf]; omega
          case pos =>
            obtain ⟨j, rfl⟩ : ∃ j, m = j + 1 := ⟨m - 1, by omega⟩
            obtain ⟨b1, o1, rfl, hb1, hc1, _⟩ := HQ4.out (j + 1) hlt2
            obtain ⟨_, _, hp, _, hc0, _⟩ := HQ4.out j (by omega)
            cases hp
            have hc1' := (hbe.cell (p := ⟨b1, o1 + (j + 1) * 2, none⟩) (hG b1 hb1)).trans hc1
            have hc0' := (hbe.cell (p := ⟨b1, o1 + j * 2, none⟩) (hG b1 hb1)).trans hc0
            rw [← HGD.out (j + 1) hlt2] at hc1'
            rw [← HGD.out j (by omega)] at hc0'
            have hno := HGE.out j hlt2
            have ha := HA.out
            have hst : (t.puts.map (·.lba)).getD j 0 < (t.puts.map (·.lba)).getD (j + 1) 0 → ∀ i, i + 1 < j + 1 + 1 → (t.puts.map (·.lba)).getD i 0 < (t.puts.map (·.lba)).getD (i + 1) 0 := by
              intro h i hi
              by_cases e : i = j
              · subst e; exact h
              · exact ha i (by omega)
            have ho := HO.out
            generalize (t.puts.map (·.lba)).getD j 0 = x at hc0' hno hst
            generalize (t.puts.map (·.lba)).getD (j + 1) 0 = y at hc1' hno hst
            have hej : (((j + 1 : Nat) : Int) - 1) = (j : Int) := by omega
            have hw1 : IntKind.i64.wrap (((j + 1 : Nat) : Int) - 1) = (j : Int) := by rw [hej]; exact IntWalk.i64_in _ (by omega)
            have HNO := Lib.hid hno
            have HST := Lib.hid hst
            have HO := Lib.hid ho
            have HBE := Lib.hid hbe
            clear hno hst ho hbe
            clear hc1 hc0 ha
            by_cases hle : y ≤ x
            · have hf := HO.out
              rw [HNO.out hle, Bool.false_and] at hf
              have HF := Lib.hid hf
              clear hf
              go_wp2
              go_quiet (fail)
              go_wp2
              go_ret
              exact ⟨congrArg boolRet HF.out.symm, below_drewN HBE.out _⟩
            · have hle2 : x < y := by omega
              clear hle
              go_wp2
              go_quiet (fail)
              go_wp2
              go_roundw
              case rel => exact ⟨j + 1 + 1, by omega, by omega, by go_num, below_drewN HB2.out _, HST.out hle2⟩
              case measure => simp [intOf]; omega
end Go.Proofs
