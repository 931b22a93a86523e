/- ValidRows: valid.Order says yes just of rows whose Times rise: for every input the law returns true. -/
import Derived.Test.YtnjidpmggggiiaaRows16Again
import Derived.Test.YtnjidpmggggiiaaStepRunG
import Derived.Deep.RegionHeld3
import Derived.Deep.RegionLaw
import Derived.Deep.DeepCutAuto
import Derived.Deep.CutRange
namespace Go.Proofs
open Go.RowKit Sc

set_option maxRecDepth 100000 in
set_option maxHeartbeats 4000000 in
theorem rows16_any (vl : Value) (l : List Tx) (w : World) (hl : TxsAt (Old w) w vl l) : Calls Try.prog 11 #[vl] w (Tru w) := by
  obtain ⟨lp, lc, rfl⟩ := txsAt_shape hl
  have hsm := small16_any (Old w) (Old w) _ (.slice none 0 0) l [] none none 0 0 0 0 w (fun _ h => h) (fun _ h => h) hl SlAt.nil
  have HL := Lib.hid hl
  have HSM := Lib.hid hsm
  clear hsm
  clear hl
  go_enter Try.func11, Try.ntmps11
  go_wp2_with fail
  refine (HSM.out).mono ?_
  rintro e w1 ⟨q, rfl, hq, hb1⟩
  have HB1 := Lib.hid hb1
  have HQ := Lib.hid hq
  clear hb1 hq
  cases q with
  | false =>
    go_wp2_with fail
    refine (awake16 _).mono ?_
    rintro e w2 ⟨rfl, hb2⟩
    have hb02 := Below.up HB1.out hb2
    have HB2 := Lib.hid hb2
    have HB02 := Lib.hid hb02
    clear hb2 hb02
    go_wp2
    go_ret
    exact ⟨rfl, HB02.out⟩
  | true =>
    by_cases h2 : 2 ≤ l.length
    case neg =>
      have h2' : (l.length : Int) < 2 := by omega
      go_wp2_with fail
      refine (awake16 _).mono ?_
      rintro e w2 ⟨rfl, hb2⟩
      have hb02 := Below.up HB1.out hb2
      have HB2 := Lib.hid hb2
      have HB02 := Lib.hid hb02
      clear hb2 hb02
      go_wp2
      go_ret
      exact ⟨rfl, HB02.out⟩
    case pos =>
      have h2' : ¬ (l.length : Int) < 2 := by omega
      have hsz := HQ.out rfl
      have hlc : l.length ≤ 10000 := by have := tsz_len l; omega
      obtain ⟨b, o, rfl⟩ : ∃ b o, lp = some ⟨b, o, none⟩ := by
        obtain ⟨_, _, hv, _, _, _, h5⟩ := HL.out
        cases hv
        obtain ⟨b, o, rfl, _⟩ := h5 0 (by omega)
        exact ⟨b, o, rfl⟩
      have hcc : l.length ≤ lc ∧ lc ≤ 9223372036854775807 := by
        obtain ⟨_, _, hv, h1, h2, _⟩ := HL.out
        cases hv
        exact ⟨h1, h2⟩
      have hord : ∀ W', Below w.heap.size w W' → Calls Try.prog 37 #[.slice (some ⟨b, o, none⟩) l.length lc] W' fun e w' => e = .returned (.bool (ordFrom 0 l)) ∧ Below W'.heap.size W' w' := fun W' hb => by
        have := txs_cut HL.out hb 0 l.length (by omega) (by omega)
        rw [List.drop_zero, List.take_length, Nat.zero_mul, Nat.add_zero, Nat.sub_zero] at this
        exact order_any (Old W') _ l W' (fun _ h => h) this
      have hcut : ∀ W', Below w.heap.size w W' → TxsAt (Old W') W' (.slice (some ⟨b, o, none⟩) (l.length - 1) lc) (l.take (l.length - 1)) := fun W' hb => by
        have := txs_cut HL.out hb 0 (l.length - 1) (by omega) (by omega)
        rw [List.drop_zero, Nat.zero_mul, Nat.add_zero, Nat.sub_zero] at this
        exact this
      have HORD := Lib.hid hord
      have HCUT := Lib.hid hcut
      have HSZ := Lib.hid hsz
      have HCC := Lib.hid hcc
      clear hord hcut hsz hcc
      go_wp2_with fail
      refine (HORD.out _ HB1.out).mono ?_
      rintro e w2 ⟨rfl, hb2⟩
      have hb02 := Below.up HB1.out hb2
      have HB2 := Lib.hid hb2
      have HB02 := Lib.hid hb02
      clear hb2 hb02
      have hcc2 := HCC.out
      obtain ⟨M, hM⟩ : ∃ M : Nat, l.length - 1 = M := ⟨_, rfl⟩
      have hn1 : IntKind.i64.wrap ((l.length : Int) - 1) = (M : Int) := by rw [IntWalk.i64_in _ (by omega)]; omega
      have hm0 : (0 : Int) ≤ (M : Int) := by omega
      have hm1 : (M : Int) ≤ (lc : Int) := by omega
      have hm2 : (M : Int) ≤ (l.length : Int) := by omega
      have hm3 : M ≤ lc := by omega
      rw [hM] at HCUT
      cases ho : ordFrom 0 l with
      | false =>
        have hoa : ∀ W', Below w.heap.size w W' → Calls Try.prog 37 #[.slice (some ⟨b, o, none⟩) M lc] W' fun e w' => e = .returned (.bool (ordFrom 0 (l.take M))) ∧ Below W'.heap.size W' w' := fun W' hb => order_any (Old W') _ _ W' (fun _ h => h) (HCUT.out W' hb)
        have hob : ∀ W', Below w.heap.size w W' → Calls Try.prog 38 #[.slice (some ⟨b, o, none⟩) M lc] W' fun e w' => e = .returned (.bool (ordFrom 0 (l.take M))) ∧ Below W'.heap.size W' w' := fun W' hb => refOrder_any (Old W') _ _ W' (fun _ h => h) (HCUT.out W' hb)
        generalize ordFrom 0 (l.take M) = p at *
        have HOA := Lib.hid hoa
        have HOB := Lib.hid hob
        have HO := Lib.hid ho
        clear hoa hob ho
        cases p
        all_goals
          go_wp2_with fail
          go_region_held3 (fun _ => True) (first | trivial | go_keep)
            ((first
              | (go_at_call 37
                 refine (HOA.out _ ((HB02.out).trans (below_drewN (Below.refl _ _) 1))).mono ?_
                 rintro e w3 ⟨rfl, hb3⟩
                 have hb03 := Below.up ((HB02.out).trans (below_drewN (Below.refl _ _) 1)) hb3)
              | (go_at_call 38
                 refine (HOB.out _ hb03).mono ?_
                 rintro e w4 ⟨rfl, hb4⟩
                 have hb04 := Below.up hb03 hb4)
              | (go_at_call 32
                 refine (awake16 _).mono ?_
                 rintro e w5 ⟨rfl, hb5⟩
                 have hb05 := Below.up hb04 hb5)))
          all_goals
            go_wp2
            go_ret
            exact ⟨rfl, hb05⟩
      | true =>
        have hlt1 : ordFrom 0 (l.take M) = true := ord_take l 0 _ ho
        have hld : ordFrom 0 (l.drop 1) = true := ord_drop ho
        have hlr : ordFrom 0 l.reverse = false := ord_turned ho h2
        have hla : ordFrom 0 (l ++ [l[0]'(by omega)]) = false := ord_again (by omega)
        have htm : ∀ i (h : i < l.length), (i : Int) + 1 ≤ l[i].time := fun i h => by have := ord_time l 0 ho i h; omega
        have hel : ∀ i (h : i < l.length), ∃ pv : Value, w.cell? ⟨b, o + i * 2, none⟩ = some (.int .i64 l[i].time) ∧ w.cell? ⟨b, o + i * 2 + 1, none⟩ = some pv ∧ I64 l[i].time ∧ PutsAt (Old w) w pv l[i].puts := fun i h => by
          obtain ⟨_, _, hv, _, _, _, h5⟩ := HL.out
          cases hv
          obtain ⟨b', o', he, _, hc1, ht, pv, hc2, hp⟩ := h5 i h
          cases he
          exact ⟨pv, hc1, hc2, ht, hp⟩
        have hbw : b < w.heap.size := by
          obtain ⟨_, _, hv, _, _, _, h5⟩ := HL.out
          cases hv
          obtain ⟨b', o', he, hb', _⟩ := h5 0 (by omega)
          cases he
          exact hb'
        have hS2 := ((Sep.start w).up HB02.out).row_new (Below.refl _ _) (World.ownsRow_nil w2 w2.heap.size 49 2)
        have HLT1 := Lib.hid hlt1
        have HLD := Lib.hid hld
        have HLR := Lib.hid hlr
        have HLA := Lib.hid hla
        have HTM := Lib.hid htm
        have HEL := Lib.hid hel
        have HS2 := Lib.hid hS2
        have HO := Lib.hid ho
        clear hlt1 hld hlr hla htm hel hS2 ho
        go_wp2_with fail
        go_loopw [3, 4] (fun v i wr => ∃ k : Nat, ∃ xs vv, k ≤ l.length ∧ vv = v ∧ i = .int .i64 ((l.length : Int) - 1 - k) ∧ Hid (Sep w [OldA w, RowA 49 2 v k xs] wr) ∧ Hid (RowT w (l.reverse.take k) xs)) (fun _ i _ => (intOf i + 1).toNat)
        case atStart => exact ⟨0, [], _, by omega, rfl, congrArg _ (by omega), HS2.out, by rw [List.take_zero]; exact Lib.hid (RowT.nil w)⟩
        case round =>
          obtain ⟨k, xs, v, hk, rfl, rfl, HS, HR⟩ := hrel
          by_cases hlt : k < l.length
          case pos =>
            obtain ⟨m, hm⟩ : ∃ m : Nat, (l.length : Int) - 1 - k = m := ⟨l.length - 1 - k, by omega⟩
            have hml : m < l.length := by omega
            obtain ⟨pv, hc1, hc2, hti, hp⟩ := HEL.out m hml
            have hrk : l.reverse[k]'(by rw [List.length_reverse]; exact hlt) = l[m] := by rw [List.getElem_reverse]; congr 1; omega
            have hc1' := (HS.out.old.cell (p := ⟨b, o + m * 2, none⟩) hbw).trans hc1
            have hc2' := (HS.out.old.cell (p := ⟨b, o + m * 2 + 1, none⟩) hbw).trans hc2
            have hpp := hp
            obtain ⟨pp, pc, rfl, _⟩ := hpp
            have hnext : RowT w (l.reverse.take (k + 1)) (xs ++ [.int .i64 l[m].time, .slice pp l[m].puts.length pc]) := by
              rw [List.take_succ_eq_append_getElem (by rw [List.length_reverse]; exact hlt), hrk]
              exact HR.out.snoc hti hp
            have hw1 : IntKind.i64.wrap ((m : Int) - 1) = (l.length : Int) - 1 - ((k + 1 : Nat) : Int) := by rw [IntWalk.i64_in _ (by omega)]; omega
            rw [hm]
            generalize l[m] = t at *
            have HRK := Lib.hid hrk
            have HC1 := Lib.hid hc1
            have HC2 := Lib.hid hc2
            have HP := Lib.hid hp
            have HNEXT := Lib.hid hnext
            have HTI := Lib.hid hti
            clear hrk hc1 hc2 hp hnext hti
            obtain ⟨FA, hFA, _⟩ := HS.out.get 1 rfl
            have hrowA := hFA.1
            obtain ⟨iiA, hiiA, hizA, hiyA, hixA⟩ := info_parts infoTx16
            have HROWA := Lib.hid hrowA
            clear hFA hrowA
            go_wp2_with (at_builtin; refine wpList_append_lies _ rfl _ _ 78 rfl 0 49 iiA (.agg #[.int .i64 0, .slice none 0 0]) 2 32 Try.underlying78 hiiA hizA hiyA hixA rfl (by decide) _ (k) (xs) rfl (HROWA.out.alloc _) ⟨wr.heap.size, 0, none⟩ 1 1 [.int .i64 t.time, .slice pp t.puts.length pc] rfl rfl (World.news_of_block (cs := #[.int .i64 t.time, .slice pp t.puts.length pc]) (heap_alloc_new wr _)) (by simp [Value.oneCell']) (by decide) (by unfold maxLen; omega) (by omega) (Nat.zero_le _) (wr.heap.size + 1) (by simp) ?_; intro gA cA wA hownA hgrowA hatA hltA)
            have hSA := HS.out.row_app 1 rfl (below_alloc _ _) hownA hgrowA hatA (by simp) hltA
            clear hownA hgrowA hatA hltA hiiA hizA hiyA hixA
            have HSA := Lib.hid hSA
            clear hSA
            go_wp2_with fail
            go_roundw
            case rel => exact ⟨k + 1, _, _, by omega, rfl, congrArg _ (by omega), HSA.out, HNEXT.out⟩
            case measure => simp [intOf]; omega
          case neg =>
            obtain rfl : k = l.length := by omega
            have hrt : l.reverse.take l.length = l.reverse := List.take_of_length_le (by rw [List.length_reverse]; exact Nat.le_refl _)
            rw [hrt] at HR
            have hneg : (l.length : Int) - 1 - (l.length : Int) = -1 := by omega
            rw [hneg]
            obtain ⟨W4, rfl⟩ : ∃ W4 : World, W4 = wr := ⟨_, rfl⟩
            have HRT := Lib.hid hrt
            clear hrt
            go_wp2_with fail
            go_loopw [5] (fun i wr => ∃ k : Nat, k ≤ l.length ∧ i = .int .i64 k ∧ Hid (Below W4.heap.size W4 wr)) (fun i _ => l.length - (intOf i).toNat)
            case atStart => exact ⟨0, by omega, rfl, Lib.hid (Below.refl _ _)⟩
            case round =>
              obtain ⟨k, hk2, rfl, HB⟩ := hrel
              have hS4 := HS.out.up HB.out
              have HS4 := Lib.hid hS4
              clear hS4
              by_cases hlt2 : k < l.length
              case pos =>
                obtain ⟨pv, hc1, _, hti, _⟩ := HEL.out k hlt2
                have hc1' := (HS4.out.old.cell (p := ⟨b, o + k * 2, none⟩) hbw).trans hc1
                have htk := HTM.out k hlt2
                have hw1 : IntKind.i64.wrap ((k : Int) + 1) = (k : Int) + 1 := IntWalk.i64_in _ (by omega)
                generalize l[k] = t at *
                have hnl : ¬ t.time < (k : Int) + 1 := by omega
                have HC1 := Lib.hid hc1
                have HTI := Lib.hid hti
                clear hc1 hti
                go_wp2_with fail
                go_roundw
                case rel => exact ⟨k + 1, by omega, by go_num, HB⟩
                case measure => simp [intOf]; omega
              case neg =>
                have hbq : Below w.heap.size w wr := HS4.out.old
                have hlen1 : (1 : Int) ≤ (l.length : Int) := by omega
                have hlen0 : (0 : Int) < (l.length : Int) := by omega
                obtain ⟨F4, hF4, _⟩ := HS4.out.get 1 rfl
                have hrow : wr.ownsRow 0 49 2 v l.reverse.length xs := by rw [List.length_reverse]; exact hF4.1
                have hturn := RowT.txs HR.out hbq hrow
                have hO1 : ∀ W', Below w.heap.size w W' → Calls Try.prog 37 #[.slice (some ⟨b, o, none⟩) M lc] W' fun e w' => e = .returned (.bool true) ∧ Below W'.heap.size W' w' := fun W' hb => by
                  have := order_any (Old W') _ _ W' (fun _ h => h) (HCUT.out W' hb)
                  rw [HLT1.out] at this
                  exact this
                have hO2 : ∀ W', Below w.heap.size w W' → Calls Try.prog 37 #[.slice (some ⟨b, o + 2, none⟩) M (lc - 1)] W' fun e w' => e = .returned (.bool true) ∧ Below W'.heap.size W' w' := fun W' hb => by
                  have h := txs_cut HL.out hb 1 (l.length - 1) (by omega) (by omega)
                  rw [List.take_of_length_le (by rw [List.length_drop]; exact Nat.le_refl _)] at h
                  have := order_any (Old W') _ _ W' (fun _ h => h) h
                  rw [HLD.out, hM] at this
                  exact this
                have hlc1 : ¬ lc = 1 := by have := HCC.out; omega
                have hlenN : 0 < l.length := by omega
                have hO3 : ∀ W', Below wr.heap.size wr W' → Calls Try.prog 37 #[v] W' fun e w' => e = .returned (.bool false) ∧ Below W'.heap.size W' w' := fun W' hb => by
                  have := order_any (Old wr) _ _ W' (fun k (hk : k < wr.heap.size) => by have := hb.size; omega) (TxsAt.up hturn hb)
                  rw [HLR.out] at this
                  exact this
                have hO4 : ∀ W' v', TxsAt (Old W') W' v' (l ++ [l[0]'(by omega)]) → Calls Try.prog 37 #[v'] W' fun e w' => e = .returned (.bool false) ∧ Below W'.heap.size W' w' := fun W' v' h => by
                  have := order_any (Old W') _ _ W' (fun _ h => h) h
                  rw [HLA.out] at this
                  exact this
                obtain ⟨pv0, hc1, hc2, hti, hp0⟩ := HEL.out 0 (by omega)
                rw [Nat.zero_mul, Nat.add_zero] at hc1 hc2
                have hc1' := (HS4.out.old.cell (p := ⟨b, o, none⟩) hbw).trans hc1
                have hc2' := (HS4.out.old.cell (p := ⟨b, o + 1, none⟩) hbw).trans hc2
                obtain ⟨pp0, pc0, rfl, _⟩ := id hp0
                generalize l[0]'(by omega) = t0 at *
                have HO1 := Lib.hid hO1
                have HO2 := Lib.hid hO2
                have HO3 := Lib.hid hO3
                have HO4 := Lib.hid hO4
                have HBQ := Lib.hid hbq
                have HROW := Lib.hid hrow
                have HTURN := Lib.hid hturn
                have HC1 := Lib.hid hc1
                have HC2 := Lib.hid hc2
                have HTI := Lib.hid hti
                have HP0 := Lib.hid hp0
                clear hO1 hO2 hO3 hO4 hbq hrow hturn hc1 hc2 hti hp0
                clear hF4
                obtain ⟨xs0, hR0, hxc⟩ := txs_cells HL.out
                have hxu : ∀ W, Below w.heap.size w W → ∀ a, some (⟨b, o, none⟩ : Addr) = some a → ∀ j u, xs0[j]? = some u → W.cell? (a.add j) = some u := fun W hb a ha j u hu => by
                  cases ha
                  have := hxc _ rfl j u hu
                  rw [addr_add16] at this ⊢
                  exact cell_up hb this
                have hbd : Below w.heap.size w wr.drew := HBQ.out.trans (below_drewN (Below.refl _ _) 1)
                have hrd : Below wr.heap.size wr wr.drew := below_drewN (Below.refl wr.heap.size wr) 1
                have hwb : b < wr.heap.size := Nat.lt_of_lt_of_le hbw HBQ.out.size
                have hln : l.length ≤ 90000 := by omega
                have HST : Hid (∀ w5, Below wr.heap.size wr w5 → ∃ gA cA wA gA2 cA2 wA2 gB cB wB gB2 cB2 wB2 gC cC wC gC2 cC2 wC2,
                    (Builtin.append_ #[78, 78] 78 #[.slice (some ⟨w5.heap.size, 0, none⟩) 0 0, .slice (some ⟨b, o, none⟩) l.length lc]).run Try.prog (w5.alloc (.cells #[] 49 (0, 0))) = .ok (.slice (some ⟨gA, 0, none⟩) l.length cA) wA ∧
                    (Builtin.append_ #[78, 78] 78 #[.slice (some ⟨gA, 0, none⟩) l.length cA, .slice (some ⟨wA.heap.size, 0, none⟩) 1 1]).run Try.prog (wA.alloc (.cells #[.int .i64 t0.time, .slice pp0 t0.puts.length pc0] 49)) = .ok (.slice (some ⟨gA2, 0, none⟩) (l.length + 1) cA2) wA2 ∧
                    (Builtin.append_ #[78, 78] 78 #[.slice (some ⟨w5.heap.size, 0, none⟩) 0 0, .slice (some ⟨b, o, none⟩) l.length lc]).run Try.prog ((w5.alloc (.cells #[] 49 (0, 0))).alloc (.cells #[.int .i64 t0.time, .slice pp0 t0.puts.length pc0] 49)) = .ok (.slice (some ⟨gB, 0, none⟩) l.length cB) wB ∧
                    (Builtin.append_ #[78, 78] 78 #[.slice (some ⟨gB, 0, none⟩) l.length cB, .slice (some ⟨w5.heap.size + 1, 0, none⟩) 1 1]).run Try.prog wB = .ok (.slice (some ⟨gB2, 0, none⟩) (l.length + 1) cB2) wB2 ∧
                    (Builtin.append_ #[78, 78] 78 #[.slice (some ⟨w5.heap.size + 1, 0, none⟩) 0 0, .slice (some ⟨b, o, none⟩) l.length lc]).run Try.prog ((w5.alloc (.cells #[.int .i64 t0.time, .slice pp0 t0.puts.length pc0] 49)).alloc (.cells #[] 49 (0, 0))) = .ok (.slice (some ⟨gC, 0, none⟩) l.length cC) wC ∧
                    (Builtin.append_ #[78, 78] 78 #[.slice (some ⟨gC, 0, none⟩) l.length cC, .slice (some ⟨w5.heap.size, 0, none⟩) 1 1]).run Try.prog wC = .ok (.slice (some ⟨gC2, 0, none⟩) (l.length + 1) cC2) wC2 ∧
                    (w5.cell? ⟨b, o, none⟩ = some (.int .i64 t0.time) ∧ w5.cell? ⟨b, o + 1, none⟩ = some (.slice pp0 t0.puts.length pc0)) ∧
                    ((w5.alloc (.cells #[] 49 (0, 0))).cell? ⟨b, o, none⟩ = some (.int .i64 t0.time) ∧ (w5.alloc (.cells #[] 49 (0, 0))).cell? ⟨b, o + 1, none⟩ = some (.slice pp0 t0.puts.length pc0)) ∧
                    (wA.cell? ⟨b, o, none⟩ = some (.int .i64 t0.time) ∧ wA.cell? ⟨b, o + 1, none⟩ = some (.slice pp0 t0.puts.length pc0)) ∧
                    Hid (TxsAt (Old wA2) wA2 (.slice (some ⟨gA2, 0, none⟩) (l.length + 1) cA2) (l ++ [t0])) ∧ Hid (Below wr.heap.size wr wA2) ∧
                    Hid (TxsAt (Old wB2) wB2 (.slice (some ⟨gB2, 0, none⟩) (l.length + 1) cB2) (l ++ [t0])) ∧ Hid (Below wr.heap.size wr wB2) ∧
                    Hid (TxsAt (Old wC2) wC2 (.slice (some ⟨gC2, 0, none⟩) (l.length + 1) cC2) (l ++ [t0])) ∧ Hid (Below wr.heap.size wr wC2)) := by
                  intro w5 hr5
                  have hz5 := hr5.size
                  have hw5 := HBQ.out.trans (hr5.mono HBQ.out.size)
                  have hE : Below wr.heap.size wr (w5.alloc (.cells #[] 49 (0, 0))) := Below.up hr5 (below_alloc _ _)
                  have hLo : Below wr.heap.size wr (w5.alloc (.cells #[.int .i64 t0.time, .slice pp0 t0.puts.length pc0] 49)) := Below.up hr5 (below_alloc _ _)
                  have hzE : (w5.alloc (.cells #[] 49 (0, 0))).heap.size = w5.heap.size + 1 := by simp
                  have hzL : (w5.alloc (.cells #[.int .i64 t0.time, .slice pp0 t0.puts.length pc0] 49)).heap.size = w5.heap.size + 1 := by simp
                  have hone : (Value.slice pp0 t0.puts.length pc0).oneCell' = true := rfl
                  have hpn : (some (⟨b, o, none⟩ : Addr) = none → l.length = 0 ∧ lc = 0) := fun h => by cases h
                  have hkE := ownsRow_lower' (owns_empty w5 49 2) hz5
                  obtain ⟨gA, cA, wA, hA1, HA2, HA3, HA4⟩ := pushT_at (w := w) hE (by omega) hkE hR0 hpn (hxu _ (HBQ.out.trans (hE.mono HBQ.out.size))) (by omega)
                  have hzA := HA3.out.size
                  have hA5 := heap_alloc_new wA (.cells #[.int .i64 t0.time, .slice pp0 t0.puts.length pc0] 49)
                  obtain ⟨gA2, cA2, wA2, hA6, HA7, HA8⟩ := pushT_one (W := wA.alloc (.cells #[.int .i64 t0.time, .slice pp0 t0.puts.length pc0] 49)) (Below.up HA3.out (below_alloc _ _)) (by simp; omega) (ownsRow_upT HA2.out (below_alloc _ _)) wA.heap.size t0.time (.slice pp0 t0.puts.length pc0) hone (by rw [cell_row hA5]; rfl) (by rw [cell_row hA5]; rfl) (by omega)
                  have hB0 := heap_alloc_new (w5.alloc (.cells #[] 49 (0, 0))) (.cells #[.int .i64 t0.time, .slice pp0 t0.puts.length pc0] 49)
                  rw [hzE] at hB0
                  have hEL : Below wr.heap.size wr ((w5.alloc (.cells #[] 49 (0, 0))).alloc (.cells #[.int .i64 t0.time, .slice pp0 t0.puts.length pc0] 49)) := Below.up hE (below_alloc _ _)
                  obtain ⟨gB, cB, wB, gB2, cB2, wB2, hB1, hB2, HB3, HB4⟩ := pushT_all (w := w) (b := w5.heap.size + 1) hEL (by simp; omega) (ownsRow_upT hkE (below_alloc _ _)) (by omega) hR0 hpn (hxu _ (HBQ.out.trans (hEL.mono HBQ.out.size))) hln t0.time (.slice pp0 t0.puts.length pc0) hone (by rw [cell_row hB0]; rfl) (by rw [cell_row hB0]; rfl)
                  have hkC := owns_empty (w5.alloc (.cells #[.int .i64 t0.time, .slice pp0 t0.puts.length pc0] 49)) 49 2
                  rw [hzL] at hkC
                  have hkC' := ownsRow_lower' hkC (show wr.heap.size ≤ w5.heap.size + 1 by omega)
                  have hC0 := heap_alloc_new w5 (.cells #[.int .i64 t0.time, .slice pp0 t0.puts.length pc0] 49)
                  have hLE : Below wr.heap.size wr ((w5.alloc (.cells #[.int .i64 t0.time, .slice pp0 t0.puts.length pc0] 49)).alloc (.cells #[] 49 (0, 0))) := Below.up hLo (below_alloc _ _)
                  obtain ⟨gC, cC, wC, gC2, cC2, wC2, hC1, hC2, HC3, HC4⟩ := pushT_all (w := w) (b := w5.heap.size) hLE (by simp; omega) hkC' (by omega) hR0 hpn (hxu _ (HBQ.out.trans (hLE.mono HBQ.out.size))) hln t0.time (.slice pp0 t0.puts.length pc0) hone
                    (cell_up (below_alloc _ _) (by rw [cell_row hC0]; rfl)) (cell_up (below_alloc _ _) (by rw [cell_row hC0]; rfl))
                  have hq1 := (hr5.cell (p := ⟨b, o, none⟩) hwb).trans hc1'
                  have hq2 := (hr5.cell (p := ⟨b, o + 1, none⟩) hwb).trans hc2'
                  exact ⟨gA, cA, wA, gA2, cA2, wA2, gB, cB, wB, gB2, cB2, wB2, gC, cC, wC, gC2, cC2, wC2, hA1, hA6, hB1, hB2, hC1, hC2, ⟨hq1, hq2⟩, ⟨cell_up (below_alloc _ _) hq1, cell_up (below_alloc _ _) hq2⟩,
                    ⟨(HA3.out.cell (p := ⟨b, o, none⟩) hwb).trans hc1', (HA3.out.cell (p := ⟨b, o + 1, none⟩) hwb).trans hc2'⟩,
                    pushT_done HBQ.out HBQ.out.size HA8.out hR0 HTI.out HP0.out HA7.out, HA8, pushT_done HBQ.out HBQ.out.size HB4.out hR0 HTI.out HP0.out HB3.out, HB4, pushT_done HBQ.out HBQ.out.size HC4.out hR0 HTI.out HP0.out HC3.out, HC4⟩
                have HBD := Lib.hid hbd
                have HRD := Lib.hid hrd
                have HR0 := Lib.hid hR0
                clear hbd hrd hR0
                clear hxc hxu hc1' hc2'
                go_upto_region 15 with fail
                go_region_law ((first
                  | (go_simp
                     go_at_call 37
                     with_reducible refine (HO1.out _ HBD.out).mono ?_
                     rintro e w3 ⟨rfl, hb3⟩
                     have HR3 := Lib.hid (Below.up HRD.out hb3)
                     have HB03 := Lib.hid (Below.up HBD.out hb3)
                     clear hb3)
                  | (go_simp
                     go_at_call 37
                     with_reducible refine (HO2.out _ HB03.out).mono ?_
                     rintro e w4 ⟨rfl, hb4⟩
                     have HR4 := Lib.hid (Below.up HR3.out hb4)
                     clear hb4)
                  | (go_simp
                     go_at_call 37
                     with_reducible refine (HO3.out _ HR4.out).mono ?_
                     rintro e w5 ⟨rfl, hb5⟩
                     obtain ⟨gA, cA, wA, gA2, cA2, wA2, gB, cB, wB, gB2, cB2, wB2, gC, cC, wC, gC2, cC2, wC2, hA1, hA6, hB1, hB2, hC1, hC2, ⟨hq1, hq2⟩, ⟨hq3, hq4⟩, ⟨hq5, hq6⟩, HTA, HBA, HTB, HBB, HTC, HBC⟩ := HST.out w5 (Below.up HR4.out hb5)
                     clear hb5)
                  | ((with_reducible refine step_append_runG (w5.alloc (.cells #[] 49 (0, 0))) ?_ (.tmp 79) (.tmp 80) 78 ?_ _ _ ?_ ?_ hA1 ?_); (· rfl); (· rfl); (· rfl); (· rfl))
                  | ((with_reducible refine step_append_runG ((w5.alloc (.cells #[] 49 (0, 0))).alloc (.cells #[.int .i64 t0.time, .slice pp0 t0.puts.length pc0] 49)) ?_ (.tmp 79) (.tmp 80) 78 ?_ _ _ ?_ ?_ hB1 ?_); (· rfl); (· rfl); (· rfl); (· rfl))
                  | ((with_reducible refine step_append_runG ((w5.alloc (.cells #[.int .i64 t0.time, .slice pp0 t0.puts.length pc0] 49)).alloc (.cells #[] 49 (0, 0))) ?_ (.tmp 79) (.tmp 80) 78 ?_ _ _ ?_ ?_ hC1 ?_); (· rfl); (· rfl); (· rfl); (· rfl))
                  | ((with_reducible refine step_append_runG (wA.alloc (.cells #[.int .i64 t0.time, .slice pp0 t0.puts.length pc0] 49)) ?_ (.tmp 81) (.tmp 85) 78 ?_ _ _ ?_ ?_ hA6 ?_); (· rfl); (· rfl); (· rfl); (· rfl))
                  | ((with_reducible refine step_append_runG wB ?_ (.tmp 81) (.tmp 85) 78 ?_ _ _ ?_ ?_ hB2 ?_); (· rfl); (· rfl); (· rfl); (· rfl))
                  | ((with_reducible refine step_append_runG wC ?_ (.tmp 81) (.tmp 85) 78 ?_ _ _ ?_ ?_ hC2 ?_); (· rfl); (· rfl); (· rfl); (· rfl))
                  | (go_simp
                     go_at_call 37
                     first
                       | (with_reducible refine (HO4.out _ _ HTA.out).mono ?_
                          rintro e w8 ⟨rfl, hb8⟩
                          have HR8 := Lib.hid (Below.up HBA.out hb8))
                       | (with_reducible refine (HO4.out _ _ HTB.out).mono ?_
                          rintro e w8 ⟨rfl, hb8⟩
                          have HR8 := Lib.hid (Below.up HBB.out hb8))
                       | (with_reducible refine (HO4.out _ _ HTC.out).mono ?_
                          rintro e w8 ⟨rfl, hb8⟩
                          have HR8 := Lib.hid (Below.up HBC.out hb8))
                     clear hb8)
                  | (go_simp
                     go_at_call 32
                     refine (awake16 _).mono ?_
                     rintro e w9 ⟨rfl, hb9⟩
                     have HR9 := Lib.hid (Below.up HR8.out hb9)
                     clear hb9)))
                all_goals
                  go_wp2_with fail
                  go_ret
                  exact ⟨rfl, HBQ.out.trans (HR9.out.mono HBQ.out.size)⟩
end Go.Proofs
