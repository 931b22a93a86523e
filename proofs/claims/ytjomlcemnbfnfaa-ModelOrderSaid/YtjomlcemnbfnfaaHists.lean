/- scarpalike.Histories: how much there is. -/
import Derived.Test.YtjomlcemnbfnfaaAlike
import Derived.Test.YtjomlcemnbfnfaaSep
import Derived.Deep.RegionLaw
namespace Go.Proofs
open Go.RowKit Sc

def rsz (l : List Sc.Read) : Nat := (l.map fun r => r.data.length).sum
def h1sz (h : Hist) : Nat := psz h.puts + h.reads.length + rsz h.reads
def hsz (l : List Hist) : Nat := l.length + (l.map h1sz).sum
/-- Of two more numbers. -/
theorem sum_two (n x y : Int) (b c : Nat) (w : World) (hn : 0 ≤ n) (hn2 : n ≤ 1099511627776) (hx : 0 ≤ x) (hx2 : x ≤ 9223372036854775807) (hy : 0 ≤ y) (hy2 : y ≤ 9223372036854775807)
    (h0 : w.cell? ⟨b, 0, none⟩ = some (.int .i64 x)) (h1 : w.cell? ⟨b, 1, none⟩ = some (.int .i64 y)) :
    Calls Try.prog 40 #[.int .i64 n, .slice (some ⟨b, 0, none⟩) 2 c] w fun e w' => (∃ s : Int, e = .returned (.int .i64 s) ∧ 0 ≤ s ∧ s ≤ 1099511627776 ∧ (s < 1099511627776 → s = n + x + y)) ∧ w = w' := by
  refine (sum_any n [x, y] b 0 c w hn hn2 (fun i hi => ?_) (by simp) (fun i hi => ?_)).mono ?_
  · simp only [List.length_cons, List.length_nil] at hi
    rcases (show i = 0 ∨ i = 1 by omega) with rfl | rfl
    · exact ⟨hx, hx2⟩
    · exact ⟨hy, hy2⟩
  · simp only [List.length_cons, List.length_nil] at hi
    rcases (show i = 0 ∨ i = 1 by omega) with rfl | rfl
    · exact h0
    · exact h1
  · rintro e w' ⟨rfl, rfl⟩
    refine ⟨⟨_, rfl, ?_⟩, rfl⟩
    simp only [sumTo]
    split
    · omega
    · split <;> omega

set_option maxRecDepth 100000 in
set_option maxHeartbeats 4000000 in
theorem hists_any (G : Nat → Prop) (v : Value) (l : List Hist) (top : Int) (w : World) (hG : Dom G w) (hv : HistsAt G w v l) (ht : 0 ≤ top) (ht2 : top < 1099511627776) :
    Calls Try.prog 39 #[v, .int .i64 top] w (SizeSaid top (hsz l) w) := by
  have hsat : sat 0 (l.length : Int) = min 1099511627776 (l.length : Int) := by unfold sat; split <;> omega
  obtain ⟨p, c, rfl, h1, h2, h3, h4⟩ := hv
  have H4 := Lib.hid h4
  have HGD := Lib.hid hG
  clear h4 hG
  have HS := Lib.hid hsat
  clear hsat h3
  go_enter Try.func39, Try.ntmps39
  go_wp2_with (go_at_call 40; refine (sum_one 0 (l.length : Int) _ _ _ (by omega) (by omega) (by omega) (by omega) (by go_simp)).mono ?_; rintro e w' ⟨rfl, rfl⟩)
  rw [HS.out]
  go_loopw [5, 6] (fun s i wr => ∃ k : Nat, ∃ q : Int, k ≤ l.length ∧ i = .int .i64 k ∧ s = .int .i64 q ∧ 0 ≤ q ∧ q ≤ 1099511627776 ∧ Hid (q ≤ top → q = ((l.length + ((l.take k).map h1sz).sum : Nat) : Int)) ∧ Hid (Below w.heap.size w wr)) (fun _ i _ => l.length - (intOf i).toNat)
  case atStart => exact ⟨0, _, by omega, rfl, rfl, by omega, by omega, by unfold Hid; simp; omega, (Below.refl _ _).alloc (Nat.le_refl _) _⟩
  case round =>
    obtain ⟨k, q, hk, rfl, rfl, hq1, hq2, HQ, HBW⟩ := hrel
    by_cases hlt : k < l.length
    case neg =>
      have hkl : k = l.length := by omega
      have HK := Lib.hid hkl
      clear hkl
      by_cases hle : q ≤ top
      all_goals
        go_wp2
        go_ret
        refine ⟨_, rfl, by omega, by omega, fun h => ?_, HBW.out⟩
        have := HQ.out h
        rw [HK.out, List.take_length] at this
        unfold hsz; omega
    case pos =>
      by_cases hle : q ≤ top
      case neg =>
        go_wp2
        go_ret
        exact ⟨q, rfl, hq1, hq2, fun h => by omega, HBW.out⟩
      case pos =>
        obtain ⟨b, o, rfl, _, _, _, _, _, _, _, ⟨rv, hc5, hrd⟩, pv, hc6, hpd⟩ := H4.out k hlt
        have hs := sum_take_succ h1sz l k hlt
        have hc5' := cell_up HBW.out hc5
        have hc6' := cell_up HBW.out hc6
        have hpd' := PutsAt.up hpd HBW.out
        obtain ⟨rp, rc, rfl, hr1, hr2, hr3, hr4⟩ := hrd
        have h1s : h1sz l[k] = psz l[k].puts + l[k].reads.length + rsz l[k].reads := rfl
        rw [h1s] at hs
        generalize l[k].puts = pl at hpd' hs
        generalize l[k].reads = rl at hr1 hr4 hs hc5 hc5'
        have hrl : rl.length ≤ 9223372036854775807 := by omega
        have HS := Lib.hid hs
        have HR4 := Lib.hid hr4
        clear hs hr4
        clear hc5 hc6 hpd h1s hr1 hr2 hr3
        have hgdw : Dom G wr := HGD.out.below HBW.out
        have hputs := puts_any G pv pl top _ (hpd'.same (w' := wr.drew) (fun _ _ => rfl)) ht ht2
        have HPU := Lib.hid hputs
        clear hputs hpd' hgdw
        go_wp2_with fail
        go_region_law ((first
          | (go_simp
             go_at_call 16
             refine (HPU.out).mono ?_
             rintro e w1 ⟨n1, rfl, hn1, hn2, hn3, hb1⟩
             have hc51 := cell_up hb1 (w := wr.drew) hc5'
             have HN := Lib.hid hn3
             have HB1 := Lib.hid hb1
             clear hn3 hb1)
          | (go_simp
             go_at_call 40
             refine (sum_two q n1 (rl.length : Int) _ _ _ (by omega) (by omega) (by omega) (by omega) (by omega) (by omega) (by go_simp) (by go_simp)).mono ?_
             rintro e w2 ⟨⟨s, rfl, hs0, hs1, hs2⟩, rfl⟩
             have HS2 := Lib.hid hs2
             clear hs2)))
        all_goals
          have hb2 : Below w.heap.size w _ := Below.up (Below.up (below_drewN HBW.out 1) HB1.out) (below_alloc w1 (.cells #[.int .i64 n1, .int .i64 (rl.length : Int)] 3))
          have HB2 := Lib.hid hb2
          have hc52 := cell_up (below_alloc w1 (.cells #[.int .i64 n1, .int .i64 (rl.length : Int)] 3)) hc51
          have hq3 : s ≤ top → s = ((l.length + ((l.take k).map h1sz).sum + psz pl + rl.length : Nat) : Int) := fun h => by
            have h1 := HQ.out (by omega)
            have h2 := HS2.out (by omega)
            have h3 := HN.out (by omega)
            omega
          have HQ3 := Lib.hid hq3
          clear hb2 hc51 hq3 hc5' hc6'
          clear HPU HN HS2
          generalize w1.alloc (.cells #[.int .i64 n1, .int .i64 (rl.length : Int)] 3) = W5 at HB2 hc52 ⊢
          have HC5 := Lib.hid hc52
          clear hc52
          go_wp2_with fail
          go_loopw [5, 7] (fun s5 s7 wr => ∃ j : Nat, ∃ q2 : Int, j ≤ rl.length ∧ s7 = .int .i64 j ∧ s5 = .int .i64 q2 ∧ 0 ≤ q2 ∧ q2 ≤ 1099511627776 ∧ Hid (q2 ≤ top → q2 = ((l.length + ((l.take k).map h1sz).sum + psz pl + rl.length + ((rl.take j).map fun r => r.data.length).sum : Nat) : Int)) ∧ Hid (Below W5.heap.size W5 wr)) (fun _ j _ => rl.length - (intOf j).toNat)
          case atStart => exact ⟨0, s, by omega, rfl, rfl, hs0, hs1, by unfold Hid; simpa using HQ3.out, Below.refl _ _⟩
          case round =>
            obtain ⟨j, q2, hj, rfl, rfl, hq4, hq5, HQ4, HBJ⟩ := hrel
            have hcj := cell_up HBJ.out HC5.out
            by_cases hjl : j < rl.length
            · by_cases hle2 : q2 ≤ top
              · obtain ⟨rb, ro, rfl, _, _, _, ⟨dv, hd1, hd2⟩, _⟩ := HR4.out j hjl
                obtain ⟨dp, dc, rfl, hd3, hd4, _, _⟩ := hd2
                have hdl : rl[j].data.length ≤ 9223372036854775807 := by omega
                have hsj := sum_take_succ (fun r : Sc.Read => r.data.length) rl j hjl
                have hd1' := cell_up HBJ.out (cell_up HB2.out hd1)
                generalize rl[j].data.length = dl at hd1' hdl hsj
                have HSJ := Lib.hid hsj
                clear hsj hd1 hd3 hd4
                go_wp2_with (go_at_call 40; refine (sum_one q2 (dl : Int) _ _ _ (by omega) (by omega) (by omega) (by omega) (by go_simp)).mono ?_; rintro e w' ⟨rfl, rfl⟩)
                have hsb := sat_bd hq4 hq5 (show 0 ≤ (dl : Int) by omega)
                go_roundw
                case rel =>
                  refine ⟨j + 1, _, by omega, by go_num, rfl, hsb.1, hsb.2.1, ?_, HBJ.out.alloc (by have := HBJ.out.size; omega) _⟩
                  intro h
                  have h1 := HQ4.out (by omega)
                  rw [HSJ.out, ← Nat.add_assoc]
                  unfold sat at h ⊢; split at h <;> split <;> omega
                case measure => simp [intOf]; omega
              · go_wp2
                go_roundw
                case rel => exact ⟨k + 1, q2, by omega, by go_num, rfl, hq4, hq5, fun h => absurd h hle2, Below.up HB2.out HBJ.out⟩
                case measure => simp [intOf]; omega
            · have hjr : j = rl.length := by omega
              have HJR := Lib.hid hjr
              clear hjr
              by_cases hle2 : q2 ≤ top
              all_goals
                go_wp2
                go_roundw
                case rel =>
                  refine ⟨k + 1, q2, by omega, by go_num, rfl, hq4, hq5, fun h => ?_, Below.up HB2.out HBJ.out⟩
                  have := HQ4.out h
                  rw [HJR.out, List.take_length] at this
                  rw [HS.out]
                  unfold rsz
                  omega
                case measure => simp [intOf]; omega
end Go.Proofs
