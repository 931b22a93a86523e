/- ModelReplays: any histories are replayed in their order, or refused: for every input the law returns true. -/
import Derived.Test.YtjomlcemnbfnfaaReplay
import Derived.Test.YtjomlcemnbfnfaaSmall22h
namespace Go.Proofs
open Go.RowKit Sc

set_option maxRecDepth 100000 in
set_option maxHeartbeats 2000000 in
theorem replays_any (blocks : Int) (vl : Value) (l : List Hist) (w : World) (hl : HistsAt (Old w) w vl l) :
    Calls Try.prog 9 #[.int .i64 blocks, vl] w (Tru w) := by
  have HL := Lib.hid hl
  obtain ⟨lp, lc, rfl, hll, hlc, _, _⟩ := hl
  go_enter Try.func9, Try.ntmps9
  go_wp2_with fail
  refine (small22h_any (Old w) _ l _ (fun k hk => hk) HL.out).mono ?_
  rintro e w1 ⟨q, rfl, hq, hb1⟩
  have hS1 := (Sep.start w).up hb1
  have hl1 := HistsAt.up HL.out hb1
  have hG1 : Dom (Old w) w1 := fun k hk => Nat.lt_of_lt_of_le hk hb1.size
  have HQ := Lib.hid hq
  have HB1 := Lib.hid hb1
  have HS1 := Lib.hid hS1
  have HL1 := Lib.hid hl1
  have HG1 := Lib.hid hG1
  clear hq hb1 hS1 hl1 hG1
  cases q with
  | false =>
    go_wp2_with fail
    refine (awake22 _).mono ?_
    rintro e w2 ⟨rfl, hb2⟩
    have hS2 := HS1.out.up hb2
    have HS2 := Lib.hid hS2
    have HB2 := Lib.hid hb2
    clear hS2 hb2
    go_wp2
    go_ret
    exact ⟨rfl, HS2.out.old⟩
  | true =>
    by_cases h2000 : blocks ≤ 2000
    case neg =>
      have h2000' : 2000 < blocks := by omega
      go_wp2_with fail
      refine (awake22 _).mono ?_
      rintro e w2 ⟨rfl, hb2⟩
      have hS2 := HS1.out.up hb2
      have HS2 := Lib.hid hS2
      have HB2 := Lib.hid hb2
      clear hS2 hb2
      go_wp2
      go_ret
      exact ⟨rfl, HS2.out.old⟩
    case pos =>
      by_cases h1 : blocks < 1
      case pos =>
        go_wp2_with fail
        refine (replay_no blocks _ _ h1).mono ?_
        rintro e w2 ⟨rfl, hb2⟩
        have hS2 := HS1.out.up hb2
        have HS2 := Lib.hid hS2
        have HB2 := Lib.hid hb2
        clear hS2 hb2
        go_wp2_with fail
        refine (refReplay_no blocks _ _ h1).mono ?_
        rintro e w3 ⟨rfl, hb3⟩
        have hS3 := HS2.out.up hb3
        have HS3 := Lib.hid hS3
        have HB3 := Lib.hid hb3
        clear hS3 hb3
        go_wp2_with fail
        refine (awake22 _).mono ?_
        rintro e w4 ⟨rfl, hb4⟩
        have hS4 := HS3.out.up hb4
        have HS4 := Lib.hid hS4
        have HB4 := Lib.hid hb4
        clear hS4 hb4
        go_wp2
        go_ret
        exact ⟨rfl, HS4.out.old⟩
      case neg =>
        obtain ⟨n, rfl⟩ := Int.eq_ofNat_of_zero_le (show 0 ≤ blocks by omega)
        have hn1 : 1 ≤ n := by omega
        have hn2 : n ≤ 2000 := by omega
        have hlen : l.length ≤ 60 := (HQ.out rfl).2
        clear h1
        go_wp2_with fail
        refine (replay_any (Old w) n _ l _ hn1 (by omega) HG1.out HL1.out (by omega)).mono ?_
        rintro e w2 ⟨hb2, hr2⟩
        have hl2 := HistsAt.up HL1.out hb2
        have hG2 : Dom (Old w) w2 := fun k hk => Nat.lt_of_lt_of_le (HG1.out k hk) hb2.size
        have hS2u := HS1.out.up hb2
        rcases hr2 with ⟨hc, vm, rfl, hm⟩ | ⟨hc, rfl⟩
        case inr =>
          have HB2 := Lib.hid hb2
          have HL2 := Lib.hid hl2
          have HG2 := Lib.hid hG2
          have HS2U := Lib.hid hS2u
          clear hb2 hl2 hG2 hS2u
          have hcc : (replayCode (n : Int) (ordP l) != replayCode (n : Int) (ordP l)) = false := by simp
          have HC := Lib.hid hc
          clear hc
          go_wp2_with fail
          refine (refReplay_any (Old w) n _ l _ hn1 (by omega) HG2.out HL2.out (by omega)).mono ?_
          rintro e w3 ⟨hb3, hr3⟩
          rcases hr3 with ⟨hc, _⟩ | ⟨_, rfl⟩
          · exact absurd hc HC.out
          have hS3 := HS2U.out.up hb3
          have HB3 := Lib.hid hb3
          have HS3 := Lib.hid hS3
          clear hb3 hS3
          go_wp2_with fail
          refine (awake22 _).mono ?_
          rintro e w4 ⟨rfl, hb4⟩
          have hS4 := HS3.out.up hb4
          have HS4 := Lib.hid hS4
          have HB4 := Lib.hid hb4
          clear hS4 hb4
          go_wp2
          go_ret
          exact ⟨rfl, HS4.out.old⟩
        case inl =>
          have hS2 := HS1.out.new hb2 (ModelA vm n _) (fun _ h => h) hm
          obtain ⟨⟨bm, rm, mlm, rfl, _⟩, _⟩ := hm
          have HB2 := Lib.hid hb2
          have HL2 := Lib.hid hl2
          have HG2 := Lib.hid hG2
          have HS2U := Lib.hid hS2u
          have HS2 := Lib.hid hS2
          clear hb2 hl2 hG2 hS2u hS2
          have HC := Lib.hid hc
          clear hc
          go_wp2_with fail
          refine (refReplay_any (Old w) n _ l _ hn1 (by omega) HG2.out HL2.out (by omega)).mono ?_
          rintro e w3 ⟨hb3, hr3⟩
          rcases hr3 with ⟨_, vx, rfl, hx⟩ | ⟨hc, _⟩
          case inr => exact absurd HC.out hc
          have hS3 := HS2.out.new hb3 (RefA vx _) (fun _ h => h) hx
          obtain ⟨bx, gx, cx, vsx, rfl, _⟩ := hx
          have hR := (RelM.start n).all_runs (replay_ok.1 HC.out)
          generalize runAll [] (ordP l) = s at *
          generalize refAll (List.replicate n []) (ordP l) = ls at *
          have HB3 := Lib.hid hb3
          have HS3 := Lib.hid hS3
          have HR := Lib.hid hR
          clear hb3 hS3 hR
          obtain ⟨F1, hF1, hD1⟩ := HS3.out.get 1 rfl
          go_wp2_with fail
          refine (modelAll_any F1 _ n s _ hF1 (HR.out.i64 (by omega)) (by have := HR.out.small; omega) HR.out.small40).mono ?_
          rintro e w6 ⟨v6, rfl, hv6, hb6⟩
          have hS6 := HS3.out.up hb6
          rw [HR.out.all] at hv6
          have HV6 := Lib.hid hv6
          have HB6 := Lib.hid hb6
          have HS6 := Lib.hid hS6
          clear hv6 hb6 hS6
          clear hF1 hD1
          obtain ⟨F2, hF2, hD2⟩ := HS6.out.get 2 rfl
          go_wp2_with fail
          refine (Go.Proofs.refAll_any F2 _ ls _ hF2 hD2 (by have := HR.out.len; omega)).mono ?_
          rintro e w7 ⟨v7, rfl, hv7, hb7⟩
          have hS7 := HS6.out.up hb7
          have HV7 := Lib.hid hv7
          have HB7 := Lib.hid hb7
          have HS7 := Lib.hid hS7
          clear hv7 hb7 hS7
          clear hF2 hD2
          go_wp2_with fail
          refine (samePuts_any (Old w7) _ _ (refAllTo ls ls.length) (refAllTo ls ls.length) _ (fun k hk => hk) ((HV6.out.up HB7.out).mono fun q hq => Nat.lt_of_lt_of_le hq.2 HB7.out.size) HV7.out).mono ?_
          rintro e w8 ⟨rfl, hb8⟩
          rw [samePuts_iff.2 rfl]
          have hS8 := HS7.out.up hb8
          have HB8 := Lib.hid hb8
          have HS8 := Lib.hid hS8
          clear hb8 hS8
          go_wp2_with fail
          refine (awake22 _).mono ?_
          rintro e w11 ⟨rfl, hb11⟩
          have hS11 := HS8.out.up hb11
          have HB11 := Lib.hid hb11
          have HS11 := Lib.hid hS11
          clear hb11 hS11
          go_wp2
          go_ret
          exact ⟨rfl, HS11.out.old⟩
end Go.Proofs
