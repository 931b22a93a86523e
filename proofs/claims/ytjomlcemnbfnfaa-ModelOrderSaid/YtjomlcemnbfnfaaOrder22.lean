/- ModelOrder: it does not matter in what order histories are handed in, if no two have one time: for every input the law returns true. -/
import Derived.Test.YtjomlcemnbfnfaaReplay
import Derived.Test.YtjomlcemnbfnfaaSmall22h
import Derived.Test.YtjomlcemnbfnfaaOrder22Plain
import Derived.Test.YtjomlcemnbfnfaaRowV
import Derived.Test.YtjomlcemnbfnfaaConcat0
import Derived.Test.YtjomlcemnbfnfaaStepRunG
import Derived.Deep.RegionLaw
namespace Go.Proofs
open Go.RowKit Sc

theorem histCut_to (p : Option Addr) (n c j : Nat) (hj : j ≤ c) :
    ∃ A : Option Addr, (∀ W, (Instr.slice 42 (.slice p n c) none (some (.int .i64 (j : Int))) none).run Try.prog W = .ok (.slice A j c) W) ∧ (A = none → p = none) ∧ ∀ b o, p = some ⟨b, o, none⟩ → A = some ⟨b, o, none⟩ := by
  obtain ⟨i0, hi0, _⟩ := info_parts infoHist
  have hu : Try.prog.underlying 42 = some (.slice (Try.prog.elem 42)) := by kernel_rfl
  have he : Try.prog.elem 42 = 45 := by kernel_rfl
  refine ⟨if c = 0 then p else p.map (fun a => a.add (0 * Try.prog.cellsOf 45)), fun W => ?_, fun h => ?_, fun b o h => ?_⟩
  · rw [run_slice_h (P := Try.prog) (w := W) 42 _ n c hu .i64 (j : Int) (by omega) (by omega), he, run_sizeOf (P := Try.prog) W hi0]
    simp only [Result.andThen, sliced, Nat.sub_zero, Int.toNat_natCast]
  · split at h
    · exact h
    · exact Option.map_eq_none_iff.1 h
  · subst h
    simp [addr_addV]
theorem histCut_from (p : Option Addr) (n c j : Nat) (hn : j ≤ n) (hc : n ≤ c) :
    ∃ A : Option Addr, (∀ W, (Instr.slice 42 (.slice p n c) (some (.int .i64 (j : Int))) none none).run Try.prog W = .ok (.slice A (n - j) (c - j)) W) ∧ (A = none → p = none) ∧ ∀ b o, p = some ⟨b, o, none⟩ → j < n → A = some ⟨b, o + j * 7, none⟩ := by
  obtain ⟨i0, hi0, _, hz, _⟩ := info_parts infoHist
  have hu : Try.prog.underlying 42 = some (.slice (Try.prog.elem 42)) := by kernel_rfl
  have he : Try.prog.elem 42 = 45 := by kernel_rfl
  have hk : Try.prog.cellsOf 45 = 7 := by kernel_rfl
  refine ⟨if c = j then p else p.map (fun a => a.add (j * Try.prog.cellsOf 45)), fun W => ?_, fun h => ?_, fun b o h hl => ?_⟩
  · rw [run_slice_l (P := Try.prog) (w := W) 42 _ n c hu .i64 (j : Int) (by omega) (by omega), he, run_sizeOf (P := Try.prog) W hi0]
    simp only [Result.andThen, sliced, Int.toNat_natCast]
  · split at h
    · exact h
    · exact Option.map_eq_none_iff.1 h
  · subst h
    rw [if_neg (by omega), hk]
    simp [addr_addV]
theorem owns_shapeV {w : World} {B T k n : Nat} {v : Value} {xs : List Value} (h : w.ownsRow B T k v n xs) : ∃ p c, v = .slice p n c := by
  obtain ⟨_, ⟨rfl, rfl⟩ | ⟨g, cap, cur, rfl, _⟩⟩ := h
  · exact ⟨_, _, rfl⟩
  · exact ⟨_, _, rfl⟩
/-- What turning a row of histories round by two appends leaves. -/
theorem turned_at {w W5 : World} {lp A1 A2 : Option Addr} {lc k : Nat} {l : List Hist} (hb : Below w.heap.size w W5) (hl : HistsAt (Old w) w (.slice lp l.length lc) l) (hk : k ≤ l.length) (h1n : A1 = none → lp = none) (h1s : ∀ b o, lp = some ⟨b, o, none⟩ → k < l.length → A1 = some ⟨b, o + k * 7, none⟩)
    (h2n : A2 = none → lp = none) (h2s : ∀ b o, lp = some ⟨b, o, none⟩ → A2 = some ⟨b, o, none⟩) (hlen : l.length ≤ 1000) :
    ∃ p1 c1 wA p2 c2 wB, (Builtin.append_ #[42, 42] 42 #[.slice (some ⟨W5.heap.size, 0, none⟩) 0 0, .slice A1 (l.length - k) (lc - k)]).run Try.prog (W5.alloc (.cells #[] 45)) = .ok (.slice p1 (l.length - k) c1) wA ∧
      (Builtin.append_ #[42, 42] 42 #[.slice p1 (l.length - k) c1, .slice A2 k lc]).run Try.prog wA = .ok (.slice p2 l.length c2) wB ∧ Hid (HistsAt (Old wB) wB (.slice p2 l.length c2) (l.drop k ++ l.take k)) ∧ Hid (Below W5.heap.size W5 wB) := by
  obtain ⟨i0, hi0, hz, hsz, hby⟩ := info_parts infoHist
  have hlp : lp = none → l.length = 0 ∧ lc = 0 := fun h => by
    obtain ⟨p, c, hv, h1, _, h3, _⟩ := hl
    cases hv
    have := h3 h
    omega
  have hbase : ∀ i, i < l.length → ∃ b o, lp = some ⟨b, o, none⟩ ∧ b < w.heap.size := fun i hi => by
    obtain ⟨p, c, hv, _, _, _, h5⟩ := hl
    cases hv
    obtain ⟨b, o, e, hg, _⟩ := h5 i hi
    exact ⟨b, o, e, hg⟩
  have hx1 : ∃ xs, RowV w 7 (histE (Old w)) (l.drop k) xs ∧ ∀ a, A1 = some a → ∀ j u, xs[j]? = some u → W5.cell? (a.add j) = some u := by
    by_cases hkl : k < l.length
    · obtain ⟨b, o, rfl, hbw⟩ := hbase k hkl
      have hc := SlAt.cut hl k (l.length - k) (by omega)
      rw [List.take_of_length_le (by rw [List.length_drop]; omega)] at hc
      obtain ⟨xs, h1, h2⟩ := RowV.of_sl (histE_moves w) (by omega) hc
      refine ⟨xs, h1, fun a ha j u hu => ?_⟩
      rw [h1s b o rfl hkl] at ha
      cases ha
      have := h2 _ rfl j u hu
      rw [addr_addV] at this ⊢
      exact (hb.cell (p := ⟨b, o + k * 7 + j, none⟩) hbw).trans this
    · rw [List.drop_eq_nil_of_le (by omega)]
      exact ⟨[], RowV.nil _ _ _, fun a _ j u hu => by simp at hu⟩
  have hx2 : ∃ xs, RowV w 7 (histE (Old w)) (l.take k) xs ∧ ∀ wA, Below W5.heap.size W5 wA → ∀ a, A2 = some a → ∀ j u, xs[j]? = some u → wA.cell? (a.add j) = some u := by
    by_cases hk0 : 0 < k
    · obtain ⟨b, o, rfl, hbw⟩ := hbase 0 (by omega)
      have hc := SlAt.cut hl 0 k (by omega)
      rw [List.drop_zero, Nat.zero_mul, Nat.add_zero] at hc
      obtain ⟨xs, h1, h2⟩ := RowV.of_sl (histE_moves w) (by omega) hc
      refine ⟨xs, h1, fun wA hbA a ha j u hu => ?_⟩
      rw [h2s b o rfl] at ha
      cases ha
      have := h2 _ rfl j u hu
      rw [addr_addV] at this ⊢
      have hbw5 : b < W5.heap.size := Nat.lt_of_lt_of_le hbw hb.size
      exact (hbA.cell (p := ⟨b, o + j, none⟩) hbw5).trans ((hb.cell (p := ⟨b, o + j, none⟩) hbw).trans this)
    · obtain rfl : k = 0 := by omega
      rw [List.take_zero]
      exact ⟨[], RowV.nil _ _ _, fun _ _ a _ j u hu => by simp at hu⟩
  obtain ⟨xs1, r1, c1⟩ := hx1
  obtain ⟨xs2, r2, c2⟩ := hx2
  have hl1 := r1.1
  have hl2 := r2.1
  rw [List.length_drop] at hl1
  rw [List.length_take, Nat.min_eq_left hk] at hl2
  have own0 : (W5.alloc (.cells #[] 45)).ownsRow W5.heap.size 45 7 (.slice (some ⟨W5.heap.size, 0, none⟩) 0 0) 0 [] := World.ownsRow_made W5 #[] 0 (Nat.le_refl _) (Nat.zero_le _) rfl
  have hW5 := below_alloc W5 (.cells #[] 45)
  obtain ⟨v1, wA, e1, o1, g1, at1⟩ := run_append_any0 (P := Try.prog) (W5.alloc (.cells #[] 45)) 42 42 W5.heap.size 45 i0 _ 7 88 Try.underlying42 hi0 hz hsz hby rfl (by omega) _ 0 [] own0 A1 (l.length - k) (lc - k) (fun h => by have := hlp (h1n h); omega) xs1 hl1
    (fun a ha j u hu => by
      have := c1 a ha j u hu
      have hbk : a.block < W5.heap.size := World.block_lt_of_cell? W5 _ (by
        have e : (a.add j).block = a.block := by unfold Addr.add; split <;> rfl
        have := this
        exact this) |> fun h => by
          have e : (a.add j).block = a.block := by unfold Addr.add; split <;> rfl
          rwa [e] at h
      exact cell_alloc_old this)
    r1.2.1 (by unfold maxLen; omega) (by omega) hW5.size
  rw [Nat.zero_add, List.nil_append] at o1
  obtain ⟨p1, cc1, rfl⟩ := owns_shapeV o1
  have hA5 : Below W5.heap.size W5 wA := hW5.grown g1 hW5.size (fun q hq => (own0.lt q hq).1)
  obtain ⟨v2, wB, e2, o2, g2, at2⟩ := run_append_any0 (P := Try.prog) wA 42 42 W5.heap.size 45 i0 _ 7 88 Try.underlying42 hi0 hz hsz hby rfl (by omega) _ (l.length - k) xs1 o1 A2 k lc (fun h => by have := hlp (h2n h); omega) xs2 hl2
    (fun a ha j u hu => c2 wA hA5 a ha j u hu) r2.2.1 (by unfold maxLen; omega) (by omega) hA5.size
  rw [show l.length - k + k = l.length by omega] at o2
  obtain ⟨p2, cc2, rfl⟩ := owns_shapeV o2
  have hB5 : Below W5.heap.size W5 wB := hA5.grown g2 hA5.size (fun q hq => (o1.lt q hq).1)
  refine ⟨p1, cc1, wA, p2, cc2, wB, e1, e2, ?_, hB5⟩
  have hrow := (r1.append r2).done (v := .slice p2 l.length cc2) (T := 45) (B := W5.heap.size) (hb.trans (hB5.mono hb.size)) (by rw [List.length_append, List.length_drop, List.length_take, Nat.min_eq_left hk, show l.length - k + k = l.length by omega]; exact o2)
  have hws := (hb.trans (hB5.mono hb.size)).size
  exact SlAt.mono hrow (fun q hq => (o2.lt q hq).2) fun _ _ _ h => histE_mono h fun q (hq : q < w.heap.size) => Nat.lt_of_lt_of_le hq hws

set_option maxRecDepth 100000 in
set_option maxHeartbeats 4000000 in
theorem order22_any (vl : Value) (a1 : Int) (l : List Hist) (w : World) (hl : HistsAt (Old w) w vl l) :
    Calls Try.prog 4 #[vl, .int .i64 a1] w (Tru w) := by
  have hl' := hl
  obtain ⟨lp, lc, rfl, hll, hlc, hlp, _⟩ := hl'
  obtain ⟨b, o, hC⟩ := SlAt.one (E := histE (Old w)) (k := 7) hl
  have HL := Lib.hid hl
  have HC := Lib.hid hC
  clear hl hC
  go_enter Try.func4, Try.ntmps4
  go_wp2_with fail
  refine (small22h_any (Old w) _ l _ (fun k hk => hk) HL.out).mono ?_
  rintro e w1 ⟨q, rfl, hq, hb1⟩
  have hS1 := (Sep.start w).up hb1
  have HQ := Lib.hid hq
  have HB1 := Lib.hid hb1
  have HS1 := Lib.hid hS1
  clear hq hb1 hS1
  cases q with
  | false =>
    go_wp2_with fail
    refine (awake22 _).mono ?_
    rintro e w2 ⟨rfl, hb2⟩
    have hS2 := HS1.out.up hb2
    have HS2 := Lib.hid hS2
    have HB2 := Lib.hid hb2
    clear hS2 hb2
    go_wp2
    go_ret
    exact ⟨rfl, HS2.out.old⟩
  | true =>
    have hlen : l.length ≤ 60 := (HQ.out rfl).2
    go_wp2_with fail
    go_loopw [5] (fun s5 wr => ∃ i : Nat, i ≤ l.length ∧ s5 = .int .i64 i ∧ Hid (((l.take i).map (·.time)).Nodup) ∧ Hid (Sep w [OldA w] wr)) (fun s5 _ => l.length - (intOf s5).toNat)
    case atStart => exact ⟨0, Nat.zero_le _, rfl, by unfold Hid; simp, HS1⟩
    case round =>
      obtain ⟨i, hi, rfl, HN, HS⟩ := hrel
      clear HS1
      by_cases hil : i < l.length
      case pos =>
        go_wp2_with fail
        obtain ⟨W2, rfl⟩ : ∃ W2 : World, W2 = wr := ⟨_, rfl⟩
        go_loopw [6] (fun s6 wr => ∃ j : Nat, j ≤ i ∧ s6 = .int .i64 j ∧ Hid (∀ q (hq : q < j) (h2 : q < l.length), l[i].time ≠ l[q].time) ∧ Hid (Sep w [OldA w] wr)) (fun s6 _ => i - (intOf s6).toNat)
        case atStart => exact ⟨0, Nat.zero_le _, rfl, fun q hq => absurd hq (Nat.not_lt_zero _), HS⟩
        case round =>
          obtain ⟨j, hj, rfl, HJ, HS2⟩ := hrel
          clear HS
          by_cases hji : j < i
          case pos =>
            have hjl : j < l.length := by omega
            obtain ⟨rfl, hGb, _, _, hci, _⟩ := HC.out i hil
            obtain ⟨_, _, _, _, hcj, _⟩ := HC.out j hjl
            replace hci := cell_up HS2.out.old hci
            replace hcj := cell_up HS2.out.old hcj
            obtain ⟨ti, hti⟩ : ∃ ti, ti = l[i].time := ⟨_, rfl⟩
            obtain ⟨tj, htj⟩ : ∃ tj, tj = l[j].time := ⟨_, rfl⟩
            rw [← hti] at hci
            rw [← htj] at hcj
            have HT : Hid (ti ≠ tj → l[i].time ≠ l[j].time) := by unfold Hid; rw [hti, htj]; exact id
            clear hti htj
            by_cases htt : ti = tj
            · have hte : (ti == tj) = true := by rw [beq_iff_eq]; exact htt
              clear htt
              go_wp2_with fail
              go_quiet (fail)
              go_wp2_with fail
              refine (awake22 _).mono ?_
              rintro e w3 ⟨rfl, hb3⟩
              have hS3 := (HS2.out.up (below_drewN (Below.refl _ _) _)).up hb3
              have HS3 := Lib.hid hS3
              have HB3 := Lib.hid hb3
              clear hS3 hb3
              go_wp2
              go_ret
              exact ⟨rfl, HS3.out.old⟩
            · have hte : (ti == tj) = false := by rw [beq_eq_false_iff_ne]; exact htt
              have HTT := Lib.hid htt
              clear htt
              go_wp2_with fail
              go_quiet (fail)
              go_wp2_with fail
              go_roundw
              case rel =>
                refine ⟨j + 1, by omega, by go_num, fun q hq h2 => ?_, HS2.out.up (below_drewN (Below.refl _ _) _)⟩
                rcases (show q < j ∨ q = j by omega) with h | rfl
                · exact HJ.out q h h2
                · exact HT.out HTT.out
              case measure => simp [intOf]; omega
          case neg =>
            have hnd := nodup_snoc hil HN.out fun q hq => HJ.out q (by omega) (by omega)
            have HND := Lib.hid hnd
            clear hnd
            go_wp2_with fail
            go_roundw
            case rel => exact ⟨i + 1, by omega, by go_num, HND, HS2⟩
            case measure => simp [intOf]; omega
      case neg =>
        have hnd := HN.out
        rw [List.take_of_length_le (by omega)] at hnd
        obtain ⟨hk0, hk1⟩ := roundN_bd a1 (n := (l.length : Int) + 1) (by omega)
        obtain ⟨k, hk⟩ := Int.eq_ofNat_of_zero_le hk0
        have hkl : k ≤ l.length := by omega
        have HK := Lib.hid hk
        have HND := Lib.hid hnd
        clear hnd
        clear hk0 hk1 hk HN
        go_wp2_with fail
        refine (round_any a1 ((l.length : Int) + 1) _ (by omega) (by omega)).mono ?_
        rintro e w3 ⟨rfl, rfl⟩
        rw [HK.out]
        have hl3 := HistsAt.up HL.out HS.out.old
        have hG3 : Dom (Old w) wr := fun k hk => Nat.lt_of_lt_of_le hk HS.out.old.size
        have HL3 := Lib.hid hl3
        have HG3 := Lib.hid hG3
        clear hl3 hG3
        go_wp2_with fail
        refine (replay_any (Old w) 30 _ l _ (by omega) (by omega) HG3.out HL3.out (by omega)).mono ?_
        rintro e w3 ⟨hb3, hr3⟩
        obtain ⟨A1, hA1, hA1n, hA1s⟩ := histCut_from lp l.length lc k hkl hll
        obtain ⟨A2, hA2, hA2n, hA2s⟩ := histCut_to lp l.length lc k (by omega)
        have hb03 := Below.up HS.out.old hb3
        obtain ⟨p1, c1, wA, p2, c2, wB, hE1, hE2, HHB, HBB⟩ := turned_at (W5 := w3.drew) (Below.up hb03 (below_drewN (Below.refl w3.heap.size w3) 1)) HL.out hkl hA1n hA1s hA2n hA2s (by omega)
        have hE1' : (Builtin.append_ #[42, 42] 42 #[.slice (some ⟨w3.heap.size, 0, none⟩) 0 0, .slice A1 (l.length - k) (lc - k)]).run Try.prog ((w3.alloc (.cells #[] 45)).drew) = .ok (.slice p1 (l.length - k) c1) wA := hE1
        have hrep : ∀ e w', ReplaySaid 30 (l.drop k ++ l.take k) wB e w' → ReplaySaid 30 l wB e w' := fun e w' h => by
          unfold ReplaySaid at h ⊢
          rw [ordP_turned HND.out k] at h
          exact h
        have hlr : (l.drop k ++ l.take k).length = l.length := by rw [List.length_append, List.length_drop, List.length_take, Nat.min_eq_left hkl]; omega
        have hcal := (replay_any (Old wB) 30 (.slice p2 l.length c2) (l.drop k ++ l.take k) wB (by omega) (by omega) (fun _ h => h) HHB.out (by rw [hlr]; omega)).mono hrep
        clear hrep hlr hA1n hA1s hA2n hA2s hE1
        have HCAL := Lib.hid hcal
        have HB03 := Lib.hid hb03
        clear hcal hb03
        rcases hr3 with ⟨hc, vm, rfl, hm⟩ | ⟨hc, rfl⟩
        case inl =>
          have hS3 := HS.out.new hb3 (ModelA vm 30 _) (fun _ h => h) hm
          obtain ⟨⟨bm, rm, mlm, rfl, _⟩, _⟩ := hm
          have HC2 : Hid (Calls Try.prog 24 #[.int .i64 30, .slice p2 l.length c2] wB fun e w' => ∃ b2 : Nat, e = .returned (.tuple #[.pointer (some ⟨b2, 0, none⟩), .int .i64 0]) ∧ Hid (ModelIs (New wB w') w' (.pointer (some ⟨b2, 0, none⟩)) 30 (runAll [] (ordP l))) ∧ Hid (Below wB.heap.size wB w')) := HCAL.out.mono fun e w' ⟨hb, hr⟩ => by
            rcases hr with ⟨_, v, rfl, hm⟩ | ⟨hn, _⟩
            · have hm' := hm
              obtain ⟨⟨b2, _, _, rfl, _⟩, _⟩ := hm'
              exact ⟨b2, rfl, hm, hb⟩
            · exact absurd hc hn
          have hS5 := (hS3.up (below_drewN (Below.refl w3.heap.size w3) 1)).up HBB.out
          generalize runAll [] (ordP l) = s at *
          have HS5 := Lib.hid hS5
          clear hS5
          clear hS3 hb3 HCAL hc HHB
          go_wp2_with fail
          go_region_law ((first
            | ((with_reducible refine step_append_runG ((w3.alloc (.cells #[] 45)).drew) ?_ (.tmp 49) (.tmp 52) 42 ?_ _ _ ?_ ?_ hE1' ?_); (· rfl); (· rfl); (· rfl); (· rfl))
            | ((with_reducible refine step_append_runG wA ?_ (.tmp 53) (.tmp 56) 42 ?_ _ _ ?_ ?_ hE2 ?_); (· rfl); (· rfl); (· rfl); (· rfl))
            | (go_simp
               go_at_call 24
               with_reducible refine (HC2.out).mono ?_
               rintro e w6 ⟨b2, rfl, HM6, HB6⟩)))
          all_goals
            have hS6 := HS5.out.new HB6.out (ModelA (.pointer (some ⟨b2, 0, none⟩)) 30 s) (fun _ h => h) HM6.out
            have HS6 := Lib.hid hS6
            clear hS6
            obtain ⟨F1, hF1, _⟩ := HS6.out.get 1 rfl
            obtain ⟨F2, hF2, _⟩ := HS6.out.get 2 rfl
            have heq := eqM_refl (ModelIs.nodup hF1)
            have HEQ := Lib.hid heq
            clear heq
            go_wp2_with fail
            refine (modelSame_any F1 F2 _ _ 30 s s _ hF1 hF2).mono ?_
            rintro e w7 ⟨rfl, hb7⟩
            rw [HEQ.out]
            have hS7 := HS6.out.up hb7
            have HS7 := Lib.hid hS7
            have HB7 := Lib.hid hb7
            clear hS7 hb7
            clear hF1 hF2
            obtain ⟨F1, hF1, _⟩ := HS7.out.get 1 rfl
            obtain ⟨F2, hF2, _⟩ := HS7.out.get 2 rfl
            go_wp2_with fail
            refine (modelSame_any F2 F1 _ _ 30 s s _ hF2 hF1).mono ?_
            rintro e w8 ⟨rfl, hb8⟩
            rw [HEQ.out]
            have hS8 := HS7.out.up hb8
            have HS8 := Lib.hid hS8
            have HB8 := Lib.hid hb8
            clear hS8 hb8
            clear hF1 hF2
            go_wp2_with fail
            refine (awake22 _).mono ?_
            rintro e w9 ⟨rfl, hb9⟩
            have hS9 := HS8.out.up hb9
            have HS9 := Lib.hid hS9
            have HB9 := Lib.hid hb9
            clear hS9 hb9
            go_wp2
            go_ret
            exact ⟨rfl, HS9.out.old⟩
        case inr =>
          have hS5 := ((HS.out.up hb3).up (below_drewN (Below.refl w3.heap.size w3) 1)).up HBB.out
          have HC2 : Hid (Calls Try.prog 24 #[.int .i64 30, .slice p2 l.length c2] wB fun e w' => e = .returned (.tuple #[.pointer none, .int .i64 (replayCode 30 (ordP l))]) ∧ Hid (Below wB.heap.size wB w')) := HCAL.out.mono fun e w' ⟨hb, hr⟩ => by
            rcases hr with ⟨hn, _⟩ | ⟨_, rfl⟩
            · exact absurd hn hc
            · exact ⟨rfl, hb⟩
          have hcn : (replayCode 30 (ordP l) != 0) = true := by rw [bne_iff_ne]; exact hc
          have hcf : ((((30 : Nat) : Int)) = 30) := rfl
          have HS5 := Lib.hid hS5
          clear hS5
          clear hb3 HCAL hc HHB
          generalize replayCode 30 (ordP l) = code at *
          go_wp2_with fail
          go_region_law ((first
            | ((with_reducible refine step_append_runG ((w3.alloc (.cells #[] 45)).drew) ?_ (.tmp 49) (.tmp 52) 42 ?_ _ _ ?_ ?_ hE1' ?_); (· rfl); (· rfl); (· rfl); (· rfl))
            | ((with_reducible refine step_append_runG wA ?_ (.tmp 53) (.tmp 56) 42 ?_ _ _ ?_ ?_ hE2 ?_); (· rfl); (· rfl); (· rfl); (· rfl))
            | (go_simp
               go_at_call 24
               with_reducible refine (HC2.out).mono ?_
               rintro e w6 ⟨rfl, HB6⟩)))
          all_goals
            have hS6 := HS5.out.up HB6.out
            have HS6 := Lib.hid hS6
            clear hS6
            go_wp2_with fail
            refine (awake22 _).mono ?_
            rintro e w9 ⟨rfl, hb9⟩
            have hS9 := HS6.out.up hb9
            have HS9 := Lib.hid hS9
            have HB9 := Lib.hid hb9
            clear hS9 hb9
            go_wp2
            go_ret
            exact ⟨rfl, HS9.out.old⟩
end Go.Proofs
