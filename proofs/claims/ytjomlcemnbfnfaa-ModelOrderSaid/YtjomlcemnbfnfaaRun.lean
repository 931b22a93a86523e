/- Package model: Run. -/
import Derived.Test.YtjomlcemnbfnfaaModel
import Derived.Deep.RegionHeld3
namespace Go.Proofs
open Go.RowKit Sc

/-- What the closure in Run says: the block is not there. -/
theorem runNot_is (b r bx : Nat) (n : Int) (x : Put) (G : Nat → Prop) (ev : Value) (W : World) (hb : W.heap[b]? = some (.cells #[.int .i64 n, .map (some r)] 82 (0, 0)))
    (hx : W.cell? ⟨bx, 0, none⟩ = some (.pointer (some ⟨b, 0, none⟩))) (he : putV G W ev x) :
    Calls Try.prog 42 #[ev, .pointer (some ⟨bx, 0, none⟩)] W fun e w' => e = .returned (.bool (!blk n x.lba)) ∧ Below W.heap.size W w' := by
  obtain ⟨dv, rfl, hi, hd⟩ := he
  have hone : dv.oneCell' = true := by obtain ⟨_, _, rfl, _⟩ := hd; rfl
  have hbl := World.block_lt_of_cell? W _ hx
  have hbb := (Array.getElem?_eq_some_iff.1 hb).1
  have HB := Lib.hid hb
  clear hb hd hi
  go_enter Try.func42, Try.ntmps42
  go_wp2_with (go_at_call 43; refine (block_is b r n x.lba _ (by rw [heap_old hbb]; exact HB.out)).mono ?_; rintro e w' ⟨rfl, rfl⟩)
  go_ret
  exact ⟨rfl, (Below.refl _ _).alloc (Nat.le_refl _) _⟩

/-- What a Run of these Puts says; n: how many blocks. -/
def runCode (n : Int) (l : List Put) : Int :=
  if l.any (fun p => !blk n p.lba) then 2
  else if decide ((l.map (·.lba)).Nodup) && l.all (fun p => decide (p.data.length = 40)) then 0 else 1
def runStep (s : List (Int × Bytes)) (p : Put) : List (Int × Bytes) := if zero40 p.data then adel s p.lba else aset s p.lba p.data
def runPuts (s : List (Int × Bytes)) (l : List Put) : List (Int × Bytes) := l.foldl runStep s

def RunSaid (F : Nat → Prop) (v : Value) (n : Int) (s : List (Int × Bytes)) (l : List Put) (w : World) (e : Ending) (w' : World) : Prop :=
  e = .returned (.int .i64 (runCode n l)) ∧ Chg F w w' ∧ ModelIs (fun k => F k ∨ New w w' k) w' v n (if runCode n l = 0 then runPuts s l else s)

theorem run_fail {F : Nat → Prop} {v : Value} {n : Int} {s : List (Int × Bytes)} {l : List Put} {w w' : World} {c : Int} (hm : ModelIs F w v n s) (hb : Below w.heap.size w w') (hc : runCode n l = c) (h0 : c ≠ 0) :
    RunSaid F v n s l w (.returned (.int .i64 c)) w' := by
  refine ⟨by rw [hc], Chg.of_below hb (fun k h1 h2 => by omega), ?_⟩
  rw [hc, if_neg h0]
  exact hm.more hb
theorem code_of_dup {n : Int} {l : List Put} (hq : l.any (fun p => !blk n p.lba) = false) (hd : ¬ ((l.map (·.lba)).Nodup ∧ ∀ p ∈ l, p.data.length = 40)) : runCode n l = 1 := by
  unfold runCode
  rw [hq, if_neg (by simp), if_neg]
  intro h
  simp only [Bool.and_eq_true, decide_eq_true_eq, List.all_eq_true] at h
  exact hd h
theorem code_of_ok {n : Int} {l : List Put} (hq : l.any (fun p => !blk n p.lba) = false) (hd : (l.map (·.lba)).Nodup ∧ ∀ p ∈ l, p.data.length = 40) : runCode n l = 0 := by
  unfold runCode
  rw [hq, if_neg (by simp), if_pos]
  simp only [Bool.and_eq_true, decide_eq_true_eq, List.all_eq_true]
  exact hd
def metOf (l : List Put) : List (Int × Value) := l.map fun p => (p.lba, .int .i64 1)
theorem alook_met {l : List Put} {n : Int} (h : n ∈ l.map (·.lba)) : alook (metOf l) n = some (.int .i64 1) := by
  induction l with
  | nil => simp at h
  | cons a t ih =>
    by_cases ha : a.lba = n
    · simp [metOf, alook, ha]
    · have h' : n ∈ t.map (·.lba) := by
        simp only [List.map_cons, List.mem_cons] at h
        rcases h with h | h
        · exact absurd h.symm ha
        · exact h
      have := ih h'
      simpa [metOf, alook, ha] using this
theorem met_not {l : List Put} {n : Int} (h : ¬ n ∈ l.map (·.lba)) : ∀ x ∈ metOf l, x.1 ≠ n := by
  intro x hx e
  obtain ⟨p, hp, rfl⟩ := List.mem_map.1 hx
  exact h (List.mem_map.2 ⟨p, hp, e⟩)

set_option maxRecDepth 100000 in
set_option maxHeartbeats 1000000 in
theorem modelRun_any (F G : Nat → Prop) (v tv : Value) (n : Int) (s : List (Int × Bytes)) (t : Tx) (w : World) (hn : n ≠ 0) (hm : ModelIs F w v n s) (ht : TxAt G w tv t) (hG : Dom G w) (hFG : ∀ k, F k → ¬ G k) :
    Calls Try.prog 19 #[v, tv] w (RunSaid F v n s t.puts w) := by
  have HMOD := Lib.hid hm
  obtain ⟨⟨b, r, ml, rfl, h2, h3, h4, h5, h6⟩, hd⟩ := hm
  obtain ⟨pv, rfl, hti, hp⟩ := ht
  have hbb := (Array.getElem?_eq_some_iff.1 h4).1
  have hc0 : w.cell? ⟨b, 0, none⟩ = some (.int .i64 n) := by rw [cell_row h4]; rfl
  have hc1 : w.cell? ⟨b, 1, none⟩ = some (.map (some r)) := by rw [cell_row h4]; rfl
  have hn0 : (n == 0) = false := by rw [beq_eq_false_iff_ne]; exact hn
  have HP := Lib.hid hp
  obtain ⟨pp, pc, rfl, hp1, hp2, hp3, hp4⟩ := hp
  have HP4 := Lib.hid hp4
  have HP3 := Lib.hid hp3
  have hmm := @run_makeMap Try.prog
  have H4 := Lib.hid h4
  have H5 := Lib.hid h5
  have H6 := Lib.hid h6
  clear h4 h5 h6 hp4 hp3 hn
  cases hq : t.puts.any (fun p => !blk n p.lba) with
  | true =>
    have HQ := Lib.hid hq
    clear hq
    go_enter Try.func19, Try.ntmps19
    go_wp2_with fail
    refine (anyPut_any G _ t.puts (fun p => !blk n p.lba) 42 _ (by go_simp) _ ?_ ?_ ?_).mono ?_
    · intro k hk; have := hG k hk; simp; omega
    · exact HP.out.same (hG.same (((Below.refl _ _).alloc (Nat.le_refl _) _).alloc (by simp) _))
    · intro i hi W ev hbw hev
      have hbz := hbw.size
      refine runNot_is b r w.heap.size n _ G ev W ?_ ?_ hev
      · rw [hbw.block b (by simp; omega), heap_old (by simp; omega), heap_old hbb]; exact H4.out
      · exact (hbw.cell (p := ⟨w.heap.size, 0, none⟩) (by simp; omega)).trans (by go_simp)
    rintro e w1 ⟨rfl, hb1⟩
    rw [HQ.out]
    go_wp2
    go_ret
    have hbw : Below w.heap.size w w1 := (((Below.refl _ _).alloc (Nat.le_refl _) _).alloc (by simp) _).trans (hb1.mono (by simp; omega))
    exact run_fail HMOD.out hbw (by unfold runCode; rw [if_pos HQ.out]) (by omega)
  | false =>
    have HQ := Lib.hid hq
    clear hq
    go_enter Try.func19, Try.ntmps19
    go_wp2_with fail
    refine (anyPut_any G _ t.puts (fun p => !blk n p.lba) 42 _ (by go_simp) _ ?_ ?_ ?_).mono ?_
    · intro k hk; have := hG k hk; simp; omega
    · exact HP.out.same (hG.same (((Below.refl _ _).alloc (Nat.le_refl _) _).alloc (by simp) _))
    · intro i hi W ev hbw hev
      have hbz := hbw.size
      refine runNot_is b r w.heap.size n _ G ev W ?_ ?_ hev
      · rw [hbw.block b (by simp; omega), heap_old (by simp; omega), heap_old hbb]; exact H4.out
      · exact (hbw.cell (p := ⟨w.heap.size, 0, none⟩) (by simp; omega)).trans (by go_simp)
    rintro e w1 ⟨rfl, hb1⟩
    rw [HQ.out]
    have hs1 : w.heap.size + 2 ≤ w1.heap.size := by have := hb1.size; simpa using this
    have e0 : w1.cell? ⟨w.heap.size, 0, none⟩ = some (.pointer (some ⟨b, 0, none⟩)) := (hb1.cell (p := ⟨w.heap.size, 0, none⟩) (by simp; omega)).trans (by go_simp)
    have e1 : w1.cell? ⟨w.heap.size + 1, 1, none⟩ = some (.slice pp t.puts.length pc) := (hb1.cell (p := ⟨w.heap.size + 1, 1, none⟩) (by simp)).trans (by go_simp)
    have hbw : Below w.heap.size w w1 := (((Below.refl _ _).alloc (Nat.le_refl _) _).alloc (by simp) _).trans (hb1.mono (by simp; omega))
    have hz0 : w.heap.size < w1.heap.size := by omega
    have hz1 : w.heap.size + 1 < w1.heap.size := by omega
    go_wp2_with fail
    go_loopw [29] (fun i wr => ∃ k : Nat, k ≤ t.puts.length ∧ i = .int .i64 k ∧ MapIs wr w1.heap.size (metOf (t.puts.take k)) ∧ Below w1.heap.size w1 wr ∧ Hid (((t.puts.take k).map (·.lba)).Nodup ∧ ∀ p ∈ t.puts.take k, p.data.length = 40)) (fun i _ => t.puts.length - (intOf i).toNat)
    case atStart => exact ⟨0, by omega, rfl, MapIs.made w1, (Below.refl _ _).alloc (Nat.le_refl _) _, by unfold Hid; simp⟩
    case round =>
      obtain ⟨k, hk, rfl, hmk, hbk, hnd⟩ := hrel
      by_cases hlt : k < t.puts.length
      · obtain ⟨pb, po, rfl, hGb, hca, hi, dv, hcb, hd0⟩ := HP4.out k hlt
        have hbl : pb < w.heap.size := World.block_lt_of_cell? w _ hca
        have hca' := ((hbk.cell (p := ⟨pb, po + k * 2, none⟩) (by show pb < _; omega)).trans (hbw.cell (p := ⟨pb, po + k * 2, none⟩) hbl)).trans hca
        have hcb' := ((hbk.cell (p := ⟨pb, po + k * 2 + 1, none⟩) (by show pb < _; omega)).trans (hbw.cell (p := ⟨pb, po + k * 2 + 1, none⟩) hbl)).trans hcb
        obtain ⟨dp, dc, rfl, hd1, hd2, hd3, hd4⟩ := hd0
        have HT := Lib.hid (take_snoc t.puts k hlt)
        have HM := Lib.hid (List.getElem_mem hlt)
        generalize t.puts[k] = y at hca hca' hcb hcb' hi hd1 hd4 HT HM
        generalize hdl : y.data.length = dl at hcb hcb' hd1
        have HDL := Lib.hid hdl
        have hdl1 : dl ≤ 9223372036854775807 := by omega
        have hm1 := hmk.alloc (.cells #[.int .i64 y.lba, .slice dp dl dc] 39)
        have hNl := hmk.lt
        have hl1 := hm1.lookup Try.underlying85 Try.underlying3 (Try.zeroValue3 _) y.lba false
        clear hca hcb hdl hd1 hd2 hd3 hd4 hi
        by_cases hin : y.lba ∈ (t.puts.take k).map (·.lba)
        · rw [alook_met hin] at hl1
          simp only [Option.getD_some, Bool.false_eq_true, if_false] at hl1
          obtain ⟨w2, hu, hm2, hT⟩ := hm1.update Try.underlying85 Try.underlying3 y.lba (.int .i64 2)
          have hl2 := hm2.lookup Try.underlying85 Try.underlying3 (Try.zeroValue3 _) y.lba false
          rw [alook_aset, if_pos rfl] at hl2
          simp only [Option.getD_some, Bool.false_eq_true, if_false] at hl2
          have q0 : w2.cell? ⟨wr.heap.size, 0, none⟩ = some (.int .i64 y.lba) := (hT.cell _).trans (by go_simp)
          have HIN := Lib.hid hin
          have HT2 := Lib.hid hT
          clear hin hT hm1 hm2
          go_wp2
          go_ret
          have hbz : Below w.heap.size w w2 := (hbw.trans (hbk.mono (by omega))).trans (((Below.refl _ _).alloc (by omega) _).trans (HT2.out.below (by omega)))
          refine run_fail HMOD.out hbz (code_of_dup HQ.out fun hh => ?_) (by omega)
          have h1 := hh.1.sublist ((List.take_sublist (k + 1) t.puts).map (·.lba))
          rw [HT.out, List.map_append, List.nodup_append] at h1
          exact h1.2.2 _ HIN.out _ (by simp) rfl
        · rw [alook_none.2 (met_not hin)] at hl1
          simp only [Option.getD_none, Bool.false_eq_true, if_false] at hl1
          obtain ⟨w2, hu, hm2, hT⟩ := hm1.update Try.underlying85 Try.underlying3 y.lba (.int .i64 1)
          have hl2 := hm2.lookup Try.underlying85 Try.underlying3 (Try.zeroValue3 _) y.lba false
          rw [alook_aset, if_pos rfl] at hl2
          simp only [Option.getD_some, Bool.false_eq_true, if_false] at hl2
          have q0 : w2.cell? ⟨wr.heap.size, 0, none⟩ = some (.int .i64 y.lba) := (hT.cell _).trans (by go_simp)
          have q1 : w2.cell? ⟨wr.heap.size, 1, none⟩ = some (.slice dp dl dc) := (hT.cell _).trans (by go_simp)
          have HIN := Lib.hid hin
          have HT2 := Lib.hid hT
          have HM2 := Lib.hid hm2
          clear hin hT hm1 hm2
          by_cases hd40 : dl = 40
          · have hne : ((dl : Int) != 40) = false := by rw [bne_eq_false_iff_eq]; omega
            have H40 := Lib.hid hd40
            clear hd40
            go_wp2
            go_roundw
            case rel =>
              refine ⟨k + 1, by omega, by go_num, ?_, hbk.trans (((Below.refl _ _).alloc (by omega) _).trans (HT2.out.below (by omega))), ?_⟩
              · have h := HM2.out
                rw [aset_new (met_not HIN.out)] at h
                rw [HT.out]; unfold metOf at h ⊢; rw [List.map_append]; exact h
              · unfold Hid
                rw [HT.out, List.map_append, List.nodup_append]
                refine ⟨⟨hnd.out.1, by simp, fun a ha b hb e => ?_⟩, fun p hp => ?_⟩
                · simp only [List.map_cons, List.map_nil, List.mem_singleton] at hb
                  exact HIN.out (by rw [← hb, ← e]; exact ha)
                · rw [List.mem_append] at hp
                  rcases hp with hp | hp
                  · exact hnd.out.2 p hp
                  · rw [List.mem_singleton] at hp; subst hp; rw [HDL.out]; exact H40.out
            case measure => simp [intOf]; omega
          · have hne : ((dl : Int) != 40) = true := by rw [bne_iff_ne]; omega
            have H40 := Lib.hid hd40
            clear hd40
            go_wp2
            go_ret
            have hbz : Below w.heap.size w w2 := (hbw.trans (hbk.mono (by omega))).trans (((Below.refl _ _).alloc (by omega) _).trans (HT2.out.below (by omega)))
            refine run_fail HMOD.out hbz (code_of_dup HQ.out fun hh => ?_) (by omega)
            have h1 := hh.2 y HM.out
            rw [HDL.out] at h1
            exact H40.out h1
      · have hkl : k = t.puts.length := by omega
        have hok : runCode n t.puts = 0 := code_of_ok HQ.out (by have := hnd.out; rw [hkl, List.take_length] at this; exact this)
        have h40 : ∀ p ∈ t.puts, p.data.length = 40 := by have := hnd.out.2; rw [hkl, List.take_length] at this; exact this
        have HOK := Lib.hid hok
        have H40 := Lib.hid h40
        have hbr : b ≠ r := by
          intro e
          obtain ⟨es, c, hh, _⟩ := H5.out
          rw [← e, H4.out] at hh
          cases hh
        have hrl := H5.out.lt
        have hNl := hmk.lt
        have hbw2 : Below w.heap.size w wr := hbw.trans (hbk.mono (by omega))
        have hmr : MapIs wr r ml := H5.out.same (G := (· < w.heap.size)) (fun q hq => hbw2.block q hq) hrl
        have ha : AL (BytesAt (fun q => F q ∨ New w wr q) wr) ml s := H6.out.imp fun _ _ h => (h.same (hd.same hbw2)).mono fun _ h => .inl h
        have f0 : wr.cell? ⟨w.heap.size, 0, none⟩ = some (.pointer (some ⟨b, 0, none⟩)) := (hbk.cell (p := ⟨w.heap.size, 0, none⟩) hz0).trans e0
        have f1 : wr.cell? ⟨w.heap.size + 1, 1, none⟩ = some (.slice pp t.puts.length pc) := (hbk.cell (p := ⟨w.heap.size + 1, 1, none⟩) hz1).trans e1
        have f2 : wr.cell? ⟨b, 1, none⟩ = some (.map (some r)) := (hbw2.cell (p := ⟨b, 1, none⟩) hbb).trans hc1
        have HMR := Lib.hid hmr
        have HA := Lib.hid ha
        clear hkl hok h40 hnd hmk hmr ha
        obtain ⟨W2, rfl⟩ : ∃ W2 : World, W2 = wr := ⟨_, rfl⟩
        go_wp2
        go_loopw [53] (fun i wr => ∃ k : Nat, ∃ ml', k ≤ t.puts.length ∧ i = .int .i64 k ∧ MapIs wr r ml' ∧ AL (BytesAt (fun q => F q ∨ New w wr q) wr) ml' (runPuts s (t.puts.take k)) ∧ Chg (· = r) W2 wr) (fun i _ => t.puts.length - (intOf i).toNat)
        case atStart => exact ⟨0, ml, by omega, rfl, HMR.out, HA.out, Chg.refl _ _⟩
        case round =>
          obtain ⟨k, ml', hk, rfl, hmx, hax, hcx⟩ := hrel
          have hzx := hcx.size
          have g0 : wr.cell? ⟨w.heap.size, 0, none⟩ = some (.pointer (some ⟨b, 0, none⟩)) := hcx.cell (by omega) f0
          have g2 : wr.cell? ⟨b, 1, none⟩ = some (.map (some r)) := hcx.cell hbr f2
          by_cases hlt : k < t.puts.length
          · obtain ⟨pb, po, rfl, hGb, hca, hi, dv, hcb, hd0⟩ := HP4.out k hlt
            have hbl : pb < w.heap.size := World.block_lt_of_cell? w _ hca
            have hpr : ¬ pb = r := fun e => hFG r h3 (e ▸ hGb)
            have hca' : wr.cell? ⟨pb, po + k * 2, none⟩ = some (.int .i64 t.puts[k].lba) := hcx.cell hpr ((hbw2.cell (p := ⟨pb, po + k * 2, none⟩) hbl).trans hca)
            have hcb' : wr.cell? ⟨pb, po + k * 2 + 1, none⟩ = some dv := hcx.cell hpr ((hbw2.cell (p := ⟨pb, po + k * 2 + 1, none⟩) hbl).trans hcb)
            have hGx : Same G w wr := fun q hq => (hcx.block q (by have := hG q hq; have := hbw2.size; omega) (fun e => hFG r h3 (e ▸ hq))).trans (hbw2.block q (hG q hq))
            have hdx := hd0.same hGx
            have HT := Lib.hid (take_snoc t.puts k hlt)
            have HM := Lib.hid (H40.out _ (List.getElem_mem hlt))
            generalize t.puts[k] = y at hca hca' hi hdx hd0 HT HM
            obtain ⟨dp, dc, rfl, hd1, hd2, hd3, hd4⟩ := hd0
            generalize hdl : y.data.length = dl at hcb hcb' hd1 hdx
            have HDL := Lib.hid hdl
            have HDX := Lib.hid hdx
            have HMX := Lib.hid hmx
            have HAX := Lib.hid hax
            have HCX := Lib.hid hcx
            have HGX := Lib.hid hGx
            clear hca hcb hdl hd1 hd2 hd3 hd4 hi hdx hmx hax hcx hGx
            have k0 : w.heap.size < wr.heap.size := by omega
            have k1 : b < wr.heap.size := by omega
            go_wp2
            go_region_held3 (fun W => W.cell? ⟨w.heap.size, 0, none⟩ = some (.pointer (some ⟨b, 0, none⟩)) ∧ W.cell? ⟨b, 1, none⟩ = some (.map (some r)) ∧ W.cell? ⟨wr.heap.size, 0, none⟩ = some (.int .i64 y.lba) ∧ W.cell? ⟨wr.heap.size, 1, none⟩ = some (.slice dp dl dc))
              (first
                | go_keep
                | (go_split_ands
                   exact ⟨cell_up hb3 (by assumption), cell_up hb3 (by assumption), cell_up hb3 (by assumption), cell_up hb3 (by assumption)⟩)
                | (go_split_ands
                   exact ⟨(hT4.cell _).trans (by assumption), (hT4.cell _).trans (by assumption), (hT4.cell _).trans (by assumption), (hT4.cell _).trans (by assumption)⟩))
              ((first
                | (go_at_call 44; refine (clone_any G _ y.data _ (by exact BytesAt.up HDX.out (below_drewN (below_alloc _ _) _)) (by have := HM.out; omega)).mono ?_; rintro e w3 ⟨v3, rfl, hnv, hb3⟩; have hm3 := HMX.out.up (Below.up (below_drewN (below_alloc wr _) _) hb3); obtain ⟨w4, hu, hm4, hT4⟩ := hm3.update Try.underlying80 Try.underlying3 y.lba v3)))
            have q0 : w4.cell? ⟨wr.heap.size, 0, none⟩ = some (.int .i64 y.lba) := (hT4.cell _).trans (cell_up hb3 (by go_simp))
            have q1 : w4.cell? ⟨wr.heap.size, 1, none⟩ = some (.slice dp dl dc) := (hT4.cell _).trans (cell_up hb3 (by go_simp))
            have q2 : w4.cell? ⟨w.heap.size, 0, none⟩ = some (.pointer (some ⟨b, 0, none⟩)) := (hT4.cell _).trans (cell_up hb3 (by go_simp))
            have q3 : w4.cell? ⟨b, 1, none⟩ = some (.map (some r)) := (hT4.cell _).trans (cell_up hb3 (by go_simp))
            have hb34 : Below wr.heap.size wr w3 := Below.up (below_drewN (below_alloc wr _) _) hb3
            have z3 := hb34.size
            have z4 := hT4.size
            have HNV := Lib.hid hnv
            have HT4 := Lib.hid hT4
            have HM4 := Lib.hid hm4
            have HB3 := Lib.hid hb3
            have HB34 := Lib.hid hb34
            clear hnv hT4 hm3 hm4 hu hb3 hb34
            go_wp2_with fail
            refine (noughts_any G _ y.data w4 (by exact ((HDX.out.up HB34.out).cells HT4.out.cell))).mono ?_
            rintro e w5 ⟨rfl, hb5⟩
            have z5 := hb5.size
            have r0 : w5.cell? ⟨wr.heap.size, 0, none⟩ = some (.int .i64 y.lba) := cell_up hb5 q0
            have r2 : w5.cell? ⟨w.heap.size, 0, none⟩ = some (.pointer (some ⟨b, 0, none⟩)) := cell_up hb5 q2
            have r3 : w5.cell? ⟨b, 1, none⟩ = some (.map (some r)) := cell_up hb5 q3
            have hal : AL (BytesAt (fun q => F q ∨ New w w5 q) w5) (aset ml' y.lba v3) (aset (runPuts s (t.puts.take k)) y.lba y.data) := by
              refine AL.set _ ?_ (HAX.out.imp fun _ _ h => ?_)
              · exact ((HNV.out.cells HT4.out.cell).up hb5).mono (fun q hq => .inr ⟨by have := hq.1; simp at this; omega, by have := hq.2; omega⟩)
              · exact (((h.up HB34.out).cells HT4.out.cell).up hb5).mono (fun q hq => hq.imp id fun h => ⟨h.1, by have := h.2; omega⟩)
            have hch : Chg (· = r) W2 w5 := HCX.out.trans ((Chg.after_up HB34.out (HT4.out.chg (S := (· = r)) rfl)).then_up hb5)
            have hm5 := HM4.out.up hb5
            have hrp : runPuts s (t.puts.take (k + 1)) = runStep (runPuts s (t.puts.take k)) y := by
              rw [HT.out]; simp [runPuts]
            have HAL := Lib.hid hal
            have HCH := Lib.hid hch
            have HRP := Lib.hid hrp
            clear hal hch hrp
            cases hz : zero40 y.data with
            | false =>
              have HZ := Lib.hid hz
              have HM5 := Lib.hid hm5
              clear hz hm5
              go_wp2
              go_roundw
              case rel =>
                refine ⟨k + 1, _, by omega, by go_num, HM5.out, ?_, HCH.out⟩
                rw [HRP.out, runStep, if_neg (by rw [HZ.out]; decide)]
                exact HAL.out
              case measure => simp [intOf]; omega
            | true =>
              obtain ⟨w6, hdl, hm6, hT6⟩ := (hm5.up (w' := w5.drew) (below_drewN (Below.refl _ _) 1)).delete (ty := 0) Try.underlying80 Try.underlying3 y.lba
              have HZ := Lib.hid hz
              have HM6 := Lib.hid hm6
              have HT6 := Lib.hid hT6
              clear hz hm5 hm6 hT6
              go_wp2
              go_region
              all_goals go_wp2
              go_roundw
              case rel =>
                refine ⟨k + 1, _, by omega, by go_num, HM6.out, ?_, HCH.out.trans ((Chg.after_up (below_drewN (Below.refl _ _) 1) (HT6.out.chg (S := (· = r)) rfl)))⟩
                rw [HRP.out, runStep, if_pos HZ.out, ← adel_aset _ _ y.data]
                refine (HAL.out.del y.lba).imp fun _ _ h => (BytesAt.cells h (fun a => HT6.out.cell a)).mono fun q hq => hq.imp id fun h => ⟨h.1, ?_⟩
                have := HT6.out.size
                have h2 := h.2
                show q < w6.heap.size
                rw [this]; exact h2
              case measure => simp [intOf]; omega
          · have hkl : k = t.puts.length := by omega
            subst hkl
            rw [List.take_length] at hax
            have hbwr : Chg F w wr := (Chg.of_below hbw2 (fun q h1 h2 => by omega)).trans' hcx (fun i hi h => by rw [h]; exact h3)
            have hd' : Dom (fun q => F q ∨ New w wr q) wr := fun q hq => hq.elim (fun h => by have := hd q h; have := hbw2.size; omega) (fun h => h.2)
            have hmod : ModelIs (fun q => F q ∨ New w wr q) wr (.pointer (some ⟨b, 0, none⟩)) n (runPuts s t.puts) := by
              refine ⟨⟨b, r, ml', rfl, .inl h2, .inl h3, ?_, hmx, hax⟩, hd'⟩
              rw [hcx.block b (by omega) hbr, hbw2.block b hbb]; exact H4.out
            have HMD := Lib.hid hmod
            have HBW := Lib.hid hbwr
            clear hmx hax hcx hbwr hd' hmod
            go_wp2
            go_ret
            refine ⟨by rw [HOK.out]; rfl, HBW.out, ?_⟩
            rw [HOK.out, if_pos rfl]
            exact HMD.out
end Go.Proofs
