/- ModelRuns: whatever is run, one behind the other, each is done, or refused, and the blocks are, as the document says: for every input the law returns true. -/
import Derived.Test.YtjomlcemnbfnfaaLast
import Derived.Test.YtjomlcemnbfnfaaPlainRuns
import Derived.Test.YtjomlcemnbfnfaaSamePuts
namespace Go.Proofs
open Go.RowKit Sc

theorem modelNew_no (n : Int) (w : World) (h : n < 1) : Calls Try.prog 18 #[.int .i64 n] w fun e w' => e = .returned (.tuple #[.pointer none, .int .i64 1]) ∧ w = w' := by
  go_enter Try.func18, Try.ntmps18
  go_wp2
  go_ret2
  exact ⟨rfl, rfl⟩

set_option maxRecDepth 100000 in
set_option maxHeartbeats 2000000 in
theorem runs_any (blocks lba : Int) (vl : Value) (l : List Tx) (w : World) (hl : TxsAt (Old w) w vl l) :
    Calls Try.prog 6 #[.int .i64 blocks, vl, .int .i64 lba] w (Tru w) := by
  have HL := Lib.hid hl
  obtain ⟨lp, lc, rfl, hll, hlc, _, _⟩ := hl
  go_enter Try.func6, Try.ntmps6
  go_wp2_with fail
  refine (small22_any (Old w) _ l _ (fun k hk => hk) HL.out).mono ?_
  rintro e w1 ⟨q, rfl, hq, hb1⟩
  have hS1 := (Sep.start w).up hb1
  have HQ := Lib.hid hq
  have HB1 := Lib.hid hb1
  have HS1 := Lib.hid hS1
  clear hq hb1 hS1
  cases q with
  | false =>
    go_wp2_with fail
    refine (awake22 _).mono ?_
    rintro e w2 ⟨rfl, hb2⟩
    have hS2 := HS1.out.up hb2
    have HS2 := Lib.hid hS2
    have HB2 := Lib.hid hb2
    clear hS2 hb2
    go_wp2
    go_ret
    exact ⟨rfl, HS2.out.old⟩
  | true =>
    by_cases h2000 : blocks ≤ 2000
    case neg =>
      have h2000' : 2000 < blocks := by omega
      go_wp2_with fail
      refine (awake22 _).mono ?_
      rintro e w2 ⟨rfl, hb2⟩
      have hS2 := HS1.out.up hb2
      have HS2 := Lib.hid hS2
      have HB2 := Lib.hid hb2
      clear hS2 hb2
      go_wp2
      go_ret
      exact ⟨rfl, HS2.out.old⟩
    case pos =>
      by_cases h1 : blocks < 1
      case pos =>
        go_wp2_with fail
        refine (modelNew_no blocks _ h1).mono ?_
        rintro e w2 ⟨rfl, rfl⟩
        go_wp2_with fail
        refine (refNew_no blocks _ h1).mono ?_
        rintro e w2 ⟨rfl, rfl⟩
        go_wp2_with fail
        refine (awake22 _).mono ?_
        rintro e w2 ⟨rfl, hb2⟩
        have hS2 := HS1.out.up hb2
        have HS2 := Lib.hid hS2
        have HB2 := Lib.hid hb2
        clear hS2 hb2
        go_wp2
        go_ret
        exact ⟨rfl, HS2.out.old⟩
      case neg =>
        obtain ⟨n, rfl⟩ := Int.eq_ofNat_of_zero_le (show 0 ≤ blocks by omega)
        have hn1 : 1 ≤ n := by omega
        have hn2 : n ≤ 2000 := by omega
        go_wp2_with fail
        refine (modelNew_any (n : Int) _ (by omega) (by omega)).mono ?_
        rintro e w2 ⟨vm, rfl, hm, hb2⟩
        have hS2 := HS1.out.new hb2 (ModelA vm n []) (fun _ h => h) hm
        obtain ⟨⟨bm, rm, mlm, rfl, _⟩, _⟩ := hm
        have HS2 := Lib.hid hS2
        have HB2 := Lib.hid hb2
        clear hS2 hb2
        go_wp2_with fail
        refine (refNew_any n _ (by omega) (by omega)).mono ?_
        rintro e w3 ⟨vx, rfl, hx, hb3⟩
        have hS3 := HS2.out.new hb3 (RefA vx (List.replicate n [])) (fun _ h => h) hx
        obtain ⟨bx, gx, cx, vsx, rfl, _⟩ := hx
        have HS3 := Lib.hid hS3
        have HB3 := Lib.hid hb3
        clear hS3 hb3
        clear h1
        go_wp2_with fail
        go_loopw [11] (fun i wr => ∃ k : Nat, ∃ s ls, k ≤ l.length ∧ i = .int .i64 k ∧ Hid (Sep w [OldA w, ModelA (.pointer (some ⟨bm, 0, none⟩)) n s, RefA (.pointer (some ⟨bx, 0, none⟩)) ls] wr) ∧ Hid (RelM n s ls)) (fun i _ => l.length - (intOf i).toNat)
        case atStart => exact ⟨0, [], _, by omega, rfl, HS3.out, RelM.start n⟩
        case round =>
          obtain ⟨k, s, ls, hk, rfl, HS, HR⟩ := hrel
          by_cases hlt : k < l.length
          · obtain ⟨p, c, hv, g1, g2, g3, g4⟩ := HL.out.up HS.out.old
            cases hv
            obtain ⟨b, o, rfl, hgb, he⟩ := g4 k hlt
            obtain ⟨qv, he0, he1, het, hone⟩ := txE_txAt he
            generalize l[k] = x at he0 he1 het
            have HET := Lib.hid het
            clear het
            clear he g3 g4
            have hSd := HS.out.up (w' := wr.drew) (below_drewN (Below.refl _ _) 1)
            obtain ⟨F, G, hF, hR, hFG, hdF, hdG, K⟩ := hSd.at 1 rfl
            obtain ⟨F0, hF0, hO⟩ := hR 0 _ (by decide) rfl
            have hO1 := hO.1
            have hlen := HR.out.len
            have hle : ls.length ≤ 1000000 := by omega
            have hcc : ((runCode n x.puts) != (runCode n x.puts)) = false := by simp
            have hetd : TxAt G wr.drew (.agg #[.int .i64 x.time, qv]) x := (HET.out.mono fun q hq => hF0 q (hO1 q hq)).same (fun _ _ => rfl)
            have H2 : ∀ w4, Sep w [OldA w, ModelA (.pointer (some ⟨bm, 0, none⟩)) n (runNext n s x.puts), RefA (.pointer (some ⟨bx, 0, none⟩)) ls] w4 → TxAt (Old w) w4 (.agg #[.int .i64 x.time, qv]) x →
                Calls Try.prog 28 #[.pointer (some ⟨bx, 0, none⟩), .agg #[.int .i64 x.time, qv]] w4 fun e w5 => e = .returned (.int .i64 (runCode n x.puts)) ∧ Sep w [OldA w, ModelA (.pointer (some ⟨bm, 0, none⟩)) n (runNext n s x.puts), RefA (.pointer (some ⟨bx, 0, none⟩)) (refNext ls x.puts)] w5 := by
              intro w4 hS4 het4
              obtain ⟨F, G, hF, hR, hFG, hdF, hdG, K⟩ := hS4.at 2 rfl
              obtain ⟨F0, hF0, hO⟩ := hR 0 _ (by decide) rfl
              have hO1 := hO.1
              refine (refRun_any F G _ _ ls x _ hF hdF hle (het4.mono fun q hq => hF0 q (hO1 q hq)) hdG hFG).mono ?_
              rintro e w5 ⟨rfl, hc5, hm5⟩
              exact ⟨by rw [hlen], K w5 _ (RefA (.pointer (some ⟨bx, 0, none⟩)) (refNext ls x.puts)) hc5 (fun k hk => hk) hm5⟩
            have H1 : Calls Try.prog 19 #[.pointer (some ⟨bm, 0, none⟩), .agg #[.int .i64 x.time, qv]] wr.drew fun e w4 => e = .returned (.int .i64 (runCode n x.puts)) ∧ Sep w [OldA w, ModelA (.pointer (some ⟨bm, 0, none⟩)) n (runNext n s x.puts), RefA (.pointer (some ⟨bx, 0, none⟩)) ls] w4 ∧
                TxAt (Old w) w4 (.agg #[.int .i64 x.time, qv]) x ∧ w4.cell? ⟨b, o + k * 2, none⟩ = some (.int .i64 x.time) ∧ w4.cell? ⟨b, o + k * 2 + 1, none⟩ = some qv := by
              refine (modelRun_any F G _ _ n s x _ (by omega) hF hetd hdG hFG).mono ?_
              rintro e w4 ⟨rfl, hc4, hm4⟩
              have hS4 := K w4 _ (ModelA (.pointer (some ⟨bm, 0, none⟩)) n (runNext n s x.puts)) hc4 (fun k hk => hk) hm4
              have hb4 := hS4.old
              exact ⟨rfl, hS4, HET.out.same (fun q hq => (hb4.block q hq).trans ((HS.out.old).block q hq).symm), (hb4.cell (p := ⟨b, o + k * 2, none⟩) hgb).trans (((HS.out.old).cell (p := ⟨b, o + k * 2, none⟩) hgb).symm.trans he0), (hb4.cell (p := ⟨b, o + k * 2 + 1, none⟩) hgb).trans (((HS.out.old).cell (p := ⟨b, o + k * 2 + 1, none⟩) hgb).symm.trans he1)⟩
            have HH1 := Lib.hid H1
            have HH2 := Lib.hid H2
            have hR5 := HR.out.run x.puts
            have k0 : (0 : Int) ≤ (k : Int) := by omega
            have k1 : (k : Int) < (l.length : Int) := by omega
            have HR5 := Lib.hid hR5
            clear hR5
            clear H1 H2 K hR hF hetd hO hSd hlen hFG hdF hdG hF0 hO1
            go_wp2_with fail
            go_region_held3 (fun W => W.cell? ⟨b, o + k * 2, none⟩ = some (.int .i64 x.time) ∧ W.cell? ⟨b, o + k * 2 + 1, none⟩ = some qv)
              (first
                | go_keep
                | (go_split_ands
                   exact ⟨by assumption, by assumption⟩)
                | (go_split_ands
                   exact ⟨(hS5.old.cell (p := ⟨b, o + k * 2, none⟩) hgb).trans (((HS.out.old).cell (p := ⟨b, o + k * 2, none⟩) hgb).symm.trans he0), (hS5.old.cell (p := ⟨b, o + k * 2 + 1, none⟩) hgb).trans (((HS.out.old).cell (p := ⟨b, o + k * 2 + 1, none⟩) hgb).symm.trans he1)⟩))
              ((first
                | (go_at_call 19; refine (HH1.out).mono ?_; rintro e w4 ⟨rfl, hS4, het4, hq0, hq1⟩)
                | (go_at_call 28; refine (HH2.out _ hS4 het4).mono ?_; rintro e w5 ⟨rfl, hS5⟩)))
            have HS5 := Lib.hid hS5
            clear hS5 hS4 het4
            go_wp2_with fail
            go_roundw
            case rel => exact ⟨k + 1, _, _, by omega, by go_num, HS5.out, HR5.out⟩
            case measure => simp [intOf]; omega
          · have hget : ∃ ad bd : Bytes, ∃ c : Int, ad = bd ∧ (∀ F w1, ModelIs F w1 (.pointer (some ⟨bm, 0, none⟩)) n s → Calls Try.prog 21 #[.pointer (some ⟨bm, 0, none⟩), .int .i64 lba] w1 fun e w2 => ∃ v, e = .returned (.tuple #[v, .int .i64 c]) ∧ BytesAt (Old w2) w2 v ad ∧ Below w1.heap.size w1 w2) ∧
                (∀ F w1, Dom F w1 → RefIs F w1 (.pointer (some ⟨bx, 0, none⟩)) ls → Calls Try.prog 29 #[.pointer (some ⟨bx, 0, none⟩), .int .i64 lba] w1 fun e w2 => ∃ v, e = .returned (.tuple #[v, .int .i64 c]) ∧ BytesAt (Old w2) w2 v bd ∧ Below w1.heap.size w1 w2) := by
              by_cases hin : 0 ≤ lba ∧ lba < n
              · obtain ⟨k2, rfl⟩ := Int.eq_ofNat_of_zero_le hin.1
                refine ⟨_, _, 0, HR.out.get (k := k2) (by omega), fun F w1 hm => ?_, fun F w1 hd hm => ?_⟩
                · refine (modelGet_any F _ n _ s _ hm HR.out.len40).mono ?_
                  rintro e w2 (⟨hno, _⟩ | ⟨_, v, rfl, hv, hb⟩)
                  · exact absurd hno (by simp [blk]; omega)
                  · exact ⟨v, rfl, hv.mono fun q hq => hq.2, hb⟩
                · refine (refGet_any F _ ls _ _ hm (by have := HR.out.len; omega)).mono ?_
                  rintro e w2 (⟨hno, _⟩ | ⟨_, v, rfl, hv, hb⟩)
                  · have := HR.out.len; omega
                  · exact ⟨v, rfl, hv.mono fun q hq => hq.elim (fun h => Nat.lt_of_lt_of_le (hd q h) hb.size) (fun h => h.2), hb⟩
              · refine ⟨[], [], 2, rfl, fun F w1 hm => ?_, fun F w1 hd hm => ?_⟩
                · refine (modelGet_any F _ n _ s _ hm HR.out.len40).mono ?_
                  rintro e w2 (⟨_, rfl, hb⟩ | ⟨hyes, _⟩)
                  · exact ⟨_, rfl, SlAt.nil, hb⟩
                  · simp [blk] at hyes; omega
                · refine (refGet_any F _ ls _ _ hm (by have := HR.out.len; omega)).mono ?_
                  rintro e w2 (⟨_, rfl, rfl⟩ | ⟨hyes, _⟩)
                  · exact ⟨_, rfl, SlAt.nil, Below.refl _ _⟩
                  · have := HR.out.len; omega
            obtain ⟨ad, bd, c, rfl, hg1, hg2⟩ := hget
            have HG1 := Lib.hid hg1
            have HG2 := Lib.hid hg2
            clear hg1 hg2
            obtain ⟨F1, hF1, _⟩ := HS.out.get 1 rfl
            go_wp2_with fail
            refine (HG1.out F1 _ hF1).mono ?_
            rintro e w4 ⟨va, rfl, hva, hb4⟩
            have hS4 := HS.out.up hb4
            have HVA := Lib.hid hva
            have HB4 := Lib.hid hb4
            have HS4 := Lib.hid hS4
            clear hva hb4 hS4
            clear hF1
            obtain ⟨F2, hF2, hD2⟩ := HS4.out.get 2 rfl
            go_wp2_with fail
            refine (HG2.out F2 _ hD2 hF2).mono ?_
            rintro e w5 ⟨vb, rfl, hvb, hb5⟩
            have hS5 := HS4.out.up hb5
            have HVB := Lib.hid hvb
            have HB5 := Lib.hid hb5
            have HS5 := Lib.hid hS5
            clear hvb hb5 hS5
            clear hF2 hD2
            obtain ⟨F1, hF1, hD1⟩ := HS5.out.get 1 rfl
            go_wp2_with fail
            refine (modelAll_any F1 _ n s _ hF1 (HR.out.i64 (by omega)) (by have := HR.out.small; omega) HR.out.small40).mono ?_
            rintro e w6 ⟨v6, rfl, hv6, hb6⟩
            have hS6 := HS5.out.up hb6
            rw [HR.out.all] at hv6
            have HV6 := Lib.hid hv6
            have HB6 := Lib.hid hb6
            have HS6 := Lib.hid hS6
            clear hv6 hb6 hS6
            clear hF1 hD1
            obtain ⟨F2, hF2, hD2⟩ := HS6.out.get 2 rfl
            go_wp2_with fail
            refine (refAll_any F2 _ ls _ hF2 hD2 (by have := HR.out.len; omega)).mono ?_
            rintro e w7 ⟨v7, rfl, hv7, hb7⟩
            have hS7 := HS6.out.up hb7
            have HV7 := Lib.hid hv7
            have HB7 := Lib.hid hb7
            have HS7 := Lib.hid hS7
            clear hv7 hb7 hS7
            clear hF2 hD2
            go_wp2_with fail
            refine (samePuts_any (Old w7) _ _ (refAllTo ls ls.length) (refAllTo ls ls.length) _ (fun k hk => hk) ((HV6.out.up HB7.out).mono fun q hq => Nat.lt_of_lt_of_le hq.2 HB7.out.size) HV7.out).mono ?_
            rintro e w8 ⟨rfl, hb8⟩
            rw [samePuts_iff.2 rfl]
            have hS8 := HS7.out.up hb8
            have hb58 := Below.up HB6.out (Below.up HB7.out hb8)
            have HB8 := Lib.hid hb8
            have HS8 := Lib.hid hS8
            have HB58 := Lib.hid hb58
            clear hb8 hS8 hb58
            go_wp2_with fail
            refine (bytes_any (fun _ => True) _ _ ad ad _ (BytesAt.mono (HVA.out.up (Below.up HB5.out HB58.out)) fun _ _ => trivial) (BytesAt.mono (HVB.out.up HB58.out) fun _ _ => trivial)).mono ?_
            rintro e w9 ⟨rfl, hb9⟩
            rw [show (ad == ad) = true by simp]
            have hS9 := HS8.out.up hb9
            have hcc : (c == c) = true := by simp
            have HB9 := Lib.hid hb9
            have HS9 := Lib.hid hS9
            clear hb9 hS9
            obtain ⟨F1, hF1, _⟩ := HS9.out.get 1 rfl
            have heq := eqM_refl (ModelIs.nodup hF1)
            have HEQ := Lib.hid heq
            clear heq
            go_wp2_with fail
            refine (modelSame_any F1 F1 _ _ n s s _ hF1 hF1).mono ?_
            rintro e w10 ⟨rfl, hb10⟩
            rw [HEQ.out]
            have hS10 := HS9.out.up hb10
            have HB10 := Lib.hid hb10
            have HS10 := Lib.hid hS10
            clear hb10 hS10
            clear hF1
            go_wp2_with fail
            refine (awake22 _).mono ?_
            rintro e w11 ⟨rfl, hb11⟩
            have hS11 := HS10.out.up hb11
            have HB11 := Lib.hid hb11
            have HS11 := Lib.hid hS11
            clear hb11 hS11
            go_wp2
            go_ret
            exact ⟨rfl, HS11.out.old⟩
end Go.Proofs
