/- Package scarpref20: Run, All. -/
import Derived.Test.YtjomlcemnbfnfaaRef20
import Derived.Test.YtjomlcemnbfnfaaRun
import Derived.Test.YtjomlcemnbfnfaaOut
import Derived.Deep.RegionHeld3
namespace Go.Proofs
open Go.RowKit Sc

def refPuts (ls : List Bytes) (l : List Put) : List Bytes := l.foldl (fun ls p => ls.set p.lba.toNat p.data) ls
theorem refPuts_length (l : List Put) : ∀ ls : List Bytes, (refPuts ls l).length = ls.length := by
  induction l with
  | nil => intro ls; rfl
  | cons p t ih => intro ls; show (refPuts (ls.set p.lba.toNat p.data) t).length = _; rw [ih, List.length_set]
def RefRunSaid (F : Nat → Prop) (v : Value) (ls : List Bytes) (l : List Put) (w : World) (e : Ending) (w' : World) : Prop :=
  e = .returned (.int .i64 (runCode ls.length l)) ∧ Chg F w w' ∧ RefIs (fun k => F k ∨ New w w' k) w' v (if runCode ls.length l = 0 then refPuts ls l else ls)

theorem ref_fail {F : Nat → Prop} {v : Value} {ls : List Bytes} {l : List Put} {w w' : World} {c : Int} (hd : Dom F w) (hm : RefIs F w v ls) (hb : Below w.heap.size w w') (hc : runCode ls.length l = c) (h0 : c ≠ 0) :
    RefRunSaid F v ls l w (.returned (.int .i64 c)) w' := by
  refine ⟨by rw [hc], Chg.of_below hb (fun k h1 h2 => by omega), ?_⟩
  rw [hc, if_neg h0]
  exact (hm.same (hd.same hb)).mono fun _ h => .inl h

set_option maxRecDepth 100000 in
set_option maxHeartbeats 2000000 in
theorem refRun_any (F G : Nat → Prop) (v tv : Value) (ls : List Bytes) (t : Tx) (w : World) (hm : RefIs F w v ls) (hd : Dom F w) (hls : ls.length ≤ 1000000) (ht : TxAt G w tv t) (hG : Dom G w) (hFG : ∀ k, F k → ¬ G k) :
    Calls Try.prog 28 #[v, tv] w (RefRunSaid F v ls t.puts w) := by
  have HMOD := Lib.hid hm
  obtain ⟨b, g, c, vs, rfl, h2, h3, h4, h5, h6⟩ := hm
  obtain ⟨pv, rfl, hti, hp⟩ := ht
  have HP := Lib.hid hp
  obtain ⟨pp, pc, rfl, hp1, hp2, hp3, hp4⟩ := hp
  have HP4 := Lib.hid hp4
  have hc0 : w.cell? ⟨b, 0, none⟩ = some (.slice (some ⟨g, 0, none⟩) ls.length c) := by rw [cell_row h4]; rfl
  have hbb := hd b h2
  have hgb := hd g h3
  have hbg : b ≠ g := by
    intro e
    subst e
    rcases h5.2 with ⟨hh, _⟩ | ⟨g', cap, cur, hh, _, hg, _⟩
    · cases hh
    · cases hh
      rw [h4] at hg
      cases hg
  have H4 := Lib.hid h4
  have H5 := Lib.hid h5
  have H6 := Lib.hid h6
  clear h4 h5 h6
  clear hp3 hp4
  go_enter Try.func28, Try.ntmps28
  go_wp2
  go_loopw [5] (fun i wr => ∃ k : Nat, k ≤ t.puts.length ∧ i = .int .i64 k ∧ Below (w.heap.size + 1) (w.alloc (.cells #[.int .i64 t.time, .slice pp t.puts.length pc] 25)) wr ∧ Hid (∀ j (h : j < k) (h' : j < t.puts.length), blk ls.length t.puts[j].lba = true)) (fun i _ => t.puts.length - (intOf i).toNat)
  case atStart => exact ⟨0, by omega, rfl, Below.refl _ _, fun j hj => absurd hj (by omega)⟩
  case round =>
    obtain ⟨k, hk, rfl, hbk, HA⟩ := hrel
    have hbw : Below w.heap.size w wr := (below_alloc w _).trans (hbk.mono (by omega))
    have hz := hbk.size
    simp at hz
    have e1 : wr.cell? ⟨w.heap.size, 1, none⟩ = some (.slice pp t.puts.length pc) := (hbk.cell (p := ⟨w.heap.size, 1, none⟩) (by show w.heap.size < _; omega)).trans (by go_simp)
    have e0 := cell_up hbw hc0
    by_cases hlt : k < t.puts.length
    · obtain ⟨pb, po, rfl, hGb, hca, hi, dv, hcb, hd0⟩ := HP4.out k hlt
      have hca' := cell_up hbw hca
      have hnd := HA.out
      have hfail : blk ls.length t.puts[k].lba = false → runCode ls.length t.puts = 2 := by
        intro h
        unfold runCode
        rw [if_pos]
        rw [List.any_eq_true]
        exact ⟨_, List.getElem_mem hlt, by rw [h]; rfl⟩
      have hstep : blk ls.length t.puts[k].lba = true → ∀ j (h : j < k + 1) (h' : j < t.puts.length), blk ls.length t.puts[j].lba = true := by
        intro h j hj hj'
        by_cases e : j = k
        · subst e; exact h
        · exact hnd j (by omega) hj'
      obtain ⟨hi0, hi1⟩ := hi
      generalize t.puts[k].lba = x at hca hca' hi0 hi1 hfail hstep
      have HFAIL := Lib.hid hfail
      have HSTEP := Lib.hid hstep
      clear hfail hstep
      clear hnd hca hcb hd0
      by_cases h1 : x < 0
      · have hb : blk ls.length x = false := by unfold blk; rw [decide_eq_false (by omega)]; rfl
        have HB := Lib.hid hb
        clear hb
        go_wp2
        go_quiet (fail)
        go_wp2
        go_ret
        exact ref_fail hd HMOD.out (below_drewN hbw _) (HFAIL.out HB.out) (by decide)
      · by_cases h3 : (ls.length : Int) ≤ x
        · have hb : blk ls.length x = false := by unfold blk; rw [decide_eq_false (p := x < _) (by omega), Bool.and_false]
          have h1' : 0 ≤ x := by omega
          have h1'' : decide (x < 0) = false := by simp; omega
          have HB := Lib.hid hb
          clear hb
          clear h1
          go_wp2
          go_quiet (fail)
          go_wp2
          go_ret
          exact ref_fail hd HMOD.out (below_drewN hbw _) (HFAIL.out HB.out) (by decide)
        · have hb : blk ls.length x = true := by unfold blk; rw [decide_eq_true (by omega), decide_eq_true (by omega)]; rfl
          have h1' : 0 ≤ x := by omega
          have h1'' : decide (x < 0) = false := by simp; omega
          have h3' : x < ls.length := by omega
          have h3'' : decide ((ls.length : Int) ≤ x) = false := by simp; omega
          have HB := Lib.hid hb
          clear hb
          clear h1 h3
          go_wp2
          go_quiet (fail)
          go_wp2
          go_roundw
          case rel => exact ⟨k + 1, by omega, by go_num, below_drewN hbk _, HSTEP.out HB.out⟩
          case measure => simp [intOf]; omega
    · have hkl : k = t.puts.length := by omega
      subst hkl
      have hq : t.puts.any (fun p => !blk ls.length p.lba) = false := by
        rw [List.any_eq_false]
        intro p hp
        obtain ⟨j, hj, rfl⟩ := List.getElem_of_mem hp
        rw [HA.out j hj hj]; decide
      have HQ := Lib.hid hq
      clear hq
      obtain ⟨W2, rfl⟩ : ∃ W2 : World, W2 = wr := ⟨_, rfl⟩
      go_wp2
      clear e1 e0 hbw hz
      go_loopw [6] (fun i wr => ∃ k : Nat, k ≤ t.puts.length ∧ i = .int .i64 k ∧ Below (w.heap.size + 1) (w.alloc (.cells #[.int .i64 t.time, .slice pp t.puts.length pc] 25)) wr ∧ Hid (((t.puts.take k).map (·.lba)).Nodup ∧ ∀ p ∈ t.puts.take k, p.data.length = 40)) (fun i _ => t.puts.length - (intOf i).toNat)
      case atStart => exact ⟨0, by omega, rfl, hbk, by unfold Hid; simp⟩
      case round =>
        obtain ⟨k, hk, rfl, hbk2, HN⟩ := hrel
        have hbw : Below w.heap.size w wr := (below_alloc w _).trans (hbk2.mono (by omega))
        have hz := hbk2.size
        simp at hz
        have e1 : wr.cell? ⟨w.heap.size, 1, none⟩ = some (.slice pp t.puts.length pc) := (hbk2.cell (p := ⟨w.heap.size, 1, none⟩) (by show w.heap.size < _; omega)).trans (by go_simp)
        by_cases hlt : k < t.puts.length
        · obtain ⟨pb, po, rfl, hGb, hca, hi, dv, hcb, hd0⟩ := HP4.out k hlt
          have hca' := cell_up hbw hca
          have hcb' := cell_up hbw hcb
          obtain ⟨dp, dc, rfl, hd1, hd2, hd3, hd4⟩ := hd0
          have HT := Lib.hid (take_snoc t.puts k hlt)
          have HM := Lib.hid (List.getElem_mem hlt)
          generalize hy : t.puts[k] = y at hca hca' hcb hcb' hi hd1 hd4 HT HM
          generalize hdl : y.data.length = dl at hcb hcb' hd1
          have hdl1 : dl ≤ 9223372036854775807 := by omega
          have HDL := Lib.hid hdl
          have HY := Lib.hid hy
          clear hdl hy
          clear hca hcb hd1 hd2 hd3 hd4 hi
          by_cases hd40 : dl = 40
          case neg =>
            have hne : ((dl : Int) != 40) = true := by rw [bne_iff_ne]; omega
            have HD40 := Lib.hid hd40
            clear hd40
            go_wp2
            go_ret
            refine ref_fail hd HMOD.out hbw (code_of_dup HQ.out fun hh => ?_) (by decide)
            have h1 := hh.2 y HM.out
            rw [HDL.out] at h1
            exact HD40.out h1
          case pos =>
            have hne : ((dl : Int) != 40) = false := by rw [bne_eq_false_iff_eq]; omega
            have HD40 := Lib.hid hd40
            clear hd40
            obtain ⟨W3, rfl⟩ : ∃ W3 : World, W3 = wr := ⟨_, rfl⟩
            go_wp2
            clear e1 hbw hz hca' hcb'
            go_loopw [7] (fun i wr => ∃ m : Nat, m ≤ k ∧ i = .int .i64 m ∧ Below (w.heap.size + 1) (w.alloc (.cells #[.int .i64 t.time, .slice (some ⟨pb, po, none⟩) t.puts.length pc] 25)) wr ∧ Hid (∀ j (h : j < m) (h' : j < t.puts.length), t.puts[j].lba ≠ y.lba)) (fun i _ => k - (intOf i).toNat)
            case atStart => exact ⟨0, by omega, rfl, hbk2, fun j hj => absurd hj (by omega)⟩
            case round =>
              obtain ⟨m, hm, rfl, hbk3, HJ⟩ := hrel
              have hbw : Below w.heap.size w wr := (below_alloc w _).trans (hbk3.mono (by omega))
              have hz := hbk3.size
              simp at hz
              have e1 : wr.cell? ⟨w.heap.size, 1, none⟩ = some (.slice (some ⟨pb, po, none⟩) t.puts.length pc) := (hbk3.cell (p := ⟨w.heap.size, 1, none⟩) (by show w.heap.size < _; omega)).trans (by go_simp)
              by_cases hmk : m < k
              · have hml : m < t.puts.length := by omega
                obtain ⟨_, _, hp', _, hcm, _⟩ := HP4.out m hml
                cases hp'
                obtain ⟨_, _, hp', _, hck, _⟩ := HP4.out k hlt
                cases hp'
                have hcm' := cell_up hbw hcm
                have hck' := cell_up hbw hck
                rw [HY.out] at hck'
                have hjj := HJ.out
                have hst : t.puts[m].lba ≠ y.lba → ∀ j (h : j < m + 1) (h' : j < t.puts.length), t.puts[j].lba ≠ y.lba := by
                  intro h j hj hj'
                  by_cases e : j = m
                  · subst e; exact h
                  · exact hjj j (by omega) hj'
                have hno : t.puts[m].lba = y.lba → ¬ ((t.puts.map (·.lba)).Nodup) := by
                  intro h hn
                  have h1 := (List.pairwise_iff_getElem.1 hn) m k (by simpa using hml) (by simpa using hlt) hmk
                  simp only [List.getElem_map] at h1
                  rw [HY.out] at h1
                  exact h1 h
                generalize t.puts[m].lba = xm at hcm' hst hno
                have HST := Lib.hid hst
                have HNO := Lib.hid hno
                clear hst hno
                clear hcm hck hjj
                by_cases he : xm = y.lba
                · subst he
                  have hq : (y.lba == y.lba) = true := by simp
                  go_wp2
                  go_quiet (fail)
                  go_wp2
                  go_ret
                  exact ref_fail hd HMOD.out (below_drewN hbw _) (code_of_dup HQ.out fun hh => HNO.out trivial hh.1) (by decide)
                · have hq : (xm == y.lba) = false := by rw [beq_eq_false_iff_ne]; exact he
                  have HE := Lib.hid he
                  clear he
                  go_wp2
                  go_quiet (fail)
                  go_wp2
                  go_roundw
                  case rel => exact ⟨m + 1, by omega, by go_num, below_drewN hbk3 _, HST.out HE.out⟩
                  case measure => simp [intOf]; omega
              · have hmk2 : m = k := by omega
                subst hmk2
                go_wp2
                go_roundw
                case rel =>
                  refine ⟨m + 1, by omega, by go_num, hbk3, ?_⟩
                  unfold Hid
                  rw [HT.out, List.map_append, List.nodup_append]
                  refine ⟨⟨HN.out.1, by simp, fun a ha b hb e => ?_⟩, fun p hp => ?_⟩
                  · simp only [List.map_cons, List.map_nil, List.mem_singleton] at hb
                    subst hb
                    obtain ⟨p, hp, rfl⟩ := List.mem_map.1 ha
                    obtain ⟨j, hj, rfl⟩ := List.getElem_of_mem hp
                    rw [List.length_take] at hj
                    rw [List.getElem_take] at e
                    exact HJ.out j (by omega) (by omega) e
                  · rw [List.mem_append] at hp
                    rcases hp with hp | hp
                    · exact HN.out.2 p hp
                    · rw [List.mem_singleton] at hp; subst hp; rw [HDL.out]; exact HD40.out
                case measure => simp [intOf]; omega
        · have hkl : k = t.puts.length := by omega
          have hok : runCode ls.length t.puts = 0 := code_of_ok HQ.out (by have := HN.out; rw [hkl, List.take_length] at this; exact this)
          have h40 : ∀ p ∈ t.puts, p.data.length = 40 := by have := HN.out.2; rw [hkl, List.take_length] at this; exact this
          have hin : ∀ p ∈ t.puts, 0 ≤ p.lba ∧ p.lba < ls.length := by
            intro p hp
            have := HQ.out
            rw [List.any_eq_false] at this
            have := this p hp
            simpa [blk] using this
          have HKL := Lib.hid hkl
          have HOK := Lib.hid hok
          have H40 := Lib.hid h40
          have HIN := Lib.hid hin
          clear hkl hok h40 hin
          obtain ⟨W3, rfl⟩ : ∃ W3 : World, W3 = wr := ⟨_, rfl⟩
          go_wp2
          clear e1 hz
          obtain ⟨i0, hi, hz0, hz1, hz2⟩ := info_parts infoU8
          go_loopw [8] (fun i wr => ∃ k : Nat, ∃ vs', k ≤ t.puts.length ∧ i = .int .i64 k ∧ Hid (wr.ownsRow 0 35 1 (.slice (some ⟨g, 0, none⟩) ls.length c) ls.length vs') ∧ Hid (All2 (BytesAt (fun q => (F q ∨ New w wr q) ∧ q ≠ g) wr) vs' (refPuts ls (t.puts.take k))) ∧ Hid (Chg (· = g) W3 wr)) (fun i _ => t.puts.length - (intOf i).toNat)
          case atStart => exact ⟨0, vs, by omega, rfl, row_same (hd.same hbw) H5.out (fun q hq => by cases hq; exact h3), All2.imp (fun _ _ h => (BytesAt.same h ((hd.same hbw).mono fun _ h => h.1)).mono fun _ h => ⟨.inl h.1, h.2⟩) H6.out, Chg.refl _ _⟩
          case round =>
            obtain ⟨k, vs', hk, rfl, HO, HV, HC⟩ := hrel
            have hz3 := hbw.size
            have hzc := HC.out.size
            have hbox : w.heap.size < W3.heap.size := by have := hbk2.size; simp at this; omega
            have e1 : wr.cell? ⟨w.heap.size, 1, none⟩ = some (.slice pp t.puts.length pc) := HC.out.cell (by omega) ((hbk2.cell (p := ⟨w.heap.size, 1, none⟩) (by show w.heap.size < _; omega)).trans (by go_simp))
            have e0 : wr.cell? ⟨b, 0, none⟩ = some (.slice (some ⟨g, 0, none⟩) ls.length c) := HC.out.cell hbg (cell_up hbw hc0)
            by_cases hlt : k < t.puts.length
            · obtain ⟨pb, po, rfl, hGb, hca, hi, dv, hcb, hd0⟩ := HP4.out k hlt
              have hpg : ¬ pb = g := fun e => hFG g h3 (e ▸ hGb)
              have hca' := HC.out.cell hpg (cell_up hbw hca)
              have hcb' := HC.out.cell hpg (cell_up hbw hcb)
              have hGx : Same G w wr := fun q hq => (HC.out.block q (by have := hG q hq; omega) (fun e => hFG g h3 (e ▸ hq))).trans (hbw.block q (hG q hq))
              have hdx := hd0.same hGx
              have HT := Lib.hid (take_snoc t.puts k hlt)
              have h40 := H40.out _ (List.getElem_mem hlt)
              obtain ⟨hin0, hin1⟩ := HIN.out _ (List.getElem_mem hlt)
              generalize t.puts[k] = y at hca hca' hdx hd0 HT h40 hin0 hin1
              obtain ⟨r, hr⟩ := Int.eq_ofNat_of_zero_le hin0
              rw [hr] at hca' hin0 hin1
              have hrl : r < ls.length := by omega
              have hvl : vs'.length = ls.length := by have := All2.length HV.out; rw [refPuts_length] at this; exact this
              have hrow : wr.cell? ⟨g, r, none⟩ = some (vs'[r]'(by omega)) := by rw [HO.out.cellAt r (by omega), List.getElem?_eq_getElem]
              have hrf : wr.frozen? ⟨g, r, none⟩ = false := HO.out.frozenAt r
              generalize vs'[r]'(by omega) = old at hrow
              have HDX := Lib.hid hdx
              obtain ⟨da, dc, rfl, hd1, hd2, hd3, hd4⟩ := hdx
              obtain ⟨db, dof, rfl, hdG, hdE⟩ := hd4 0 (by omega)
              clear hdE
              have hnews : ∀ j u, (y.data.map fun x => Value.int .u8 (x.toNat : Int))[j]? = some u → wr.cell? ((⟨db, dof, none⟩ : Addr).add j) = some u := by
                intro j u hj
                simp only [List.getElem?_map, Option.map_eq_some_iff] at hj
                obtain ⟨x, hx, rfl⟩ := hj
                obtain ⟨hjl, rfl⟩ := List.getElem?_eq_some_iff.1 hx
                obtain ⟨b', o', hp, _, he⟩ := hd4 j hjl
                cases hp
                unfold byteE at he
                rw [Nat.mul_one] at he
                have hadd : (⟨db, dof, none⟩ : Addr).add j = ⟨db, dof + j, none⟩ := by unfold Addr.add; split <;> simp_all
                rw [hadd]; exact he
              have hnl : (y.data.map fun x => Value.int .u8 (x.toNat : Int)).length = 40 * 1 := by simp [h40]
              have hone : ∀ u ∈ (y.data.map fun x => Value.int .u8 (x.toNat : Int)), u.oneCell' = true := by
                intro u hu; obtain ⟨x, _, rfl⟩ := List.mem_map.1 hu; rfl
              generalize hnw : (y.data.map fun x => Value.int .u8 (x.toNat : Int)) = news at *
              simp only [h40] at hcb'
              have hwg : w.heap.size ≠ g := by omega
              have k0 : (0 : Int) ≤ (k : Int) := by omega
              have hfa : ∀ o, (wr.alloc o).drew.frozen? ⟨g, r, none⟩ = false := fun o => ((below_alloc wr o).frozen (p := ⟨g, r, none⟩) (World.block_lt_of_cell? wr _ hrow)).trans hrf
              have k1 : (k : Int) < (t.puts.length : Int) := by omega
              have hb1 := World.block_lt_of_cell? wr _ hca'
              have hg1 := World.block_lt_of_cell? wr _ hrow
              have hb2 := World.block_lt_of_cell? wr _ e0
              have hx1 := World.block_lt_of_cell? wr _ e1
              have HNEWS := Lib.hid hnews
              have HNL := Lib.hid hnl
              have HONE := Lib.hid hone
              have HNW := Lib.hid hnw
              have HR := Lib.hid hr
              have H40 := Lib.hid h40
              clear hnews hnl hone hnw hr h40
              clear hca hcb hd0 hd1 hd2 hd3 hd4 hi hGx
              go_wp2
              go_region_held3 (fun W => W.cell? ⟨b, 0, none⟩ = some (.slice (some ⟨g, 0, none⟩) ls.length c) ∧ W.cell? ⟨w.heap.size, 1, none⟩ = some (.slice (some ⟨pb, po, none⟩) t.puts.length pc) ∧ W.cell? ⟨pb, po + k * 2, none⟩ = some (.int .i64 r) ∧ W.cell? ⟨pb, po + k * 2 + 1, none⟩ = some (.slice (some ⟨db, dof, none⟩) 40 dc))
                (first
                  | go_keep
                  | (go_split_ands
                     exact ⟨(hgrow5.cell_far _ (by simp; omega) (by simp [Value.ownBlock]; omega)).trans (by assumption), (hgrow5.cell_far _ (by simp; omega) (by simp [Value.ownBlock]; omega)).trans (by assumption), (hgrow5.cell_far _ (by simp; omega) (by simp [Value.ownBlock]; omega)).trans (by assumption), (hgrow5.cell_far _ (by simp; omega) (by simp [Value.ownBlock]; omega)).trans (by assumption)⟩)
                  | (go_split_ands
                     exact ⟨(cell_set_other hbg).trans (by assumption), (cell_set_other hwg).trans (by assumption), (cell_set_other hpg).trans (by assumption), (cell_set_other hpg).trans (by assumption)⟩))
                ((refine step_append_lies _ (by rfl) _ _ _ (by rfl) 0 5 i0 (.int .u8 0) 1 1 Try.underlying35 hi hz0 hz1 hz2 (by rfl) (by decide) _ 0 [] (by rfl) (World.ownsRow_made wr #[] 0 (Nat.zero_le _) (by decide) rfl) ⟨db, dof, none⟩ 40 dc news (by rfl) HNL.out (fun j u hj => cell_alloc_old (HNEWS.out j u hj)) HONE.out (by decide) (by decide) (by decide) (Nat.zero_le _) (wr.heap.size + 1) (by simp) ?_; intro gg cap w5 hown5 hgrow5 hat5 hlt5; have q1 : w5.cell? ⟨g, r, none⟩ = some old := (hgrow5.cell_far _ (by simp; omega) (by simp [Value.ownBlock]; omega)).trans (cell_alloc_old hrow); have q2 : w5.frozen? ⟨g, r, none⟩ = false := (hgrow5.frozen_far _ (by simp; omega) (by simp [Value.ownBlock]; omega)).trans (hfa _)))
              have hlt5' := hlt5
              have hz5 : wr.heap.size < w5.heap.size := by have := hgrow5.size; simp at this; omega
              have hgt5 : gg = wr.heap.size ∨ gg = wr.heap.size + 1 := by
                rcases hat5 with h | h
                · simp [Value.ownBlock] at h; exact .inl h.symm
                · exact .inr h
              have hb5 : Below wr.heap.size wr w5 := (below_drewN (below_alloc wr (.cells #[] 5)) 1).grown hgrow5 (by simp) (fun q hq => by simp [Value.ownBlock] at hq; omega)
              have hc6 : Chg (· = g) wr (w5.setCell ⟨g, r, none⟩ (.slice (some ⟨gg, 0, none⟩) 40 cap)) := Chg.after_up hb5 (chg_set w5 g r _ rfl)
              have hst := HO.out
              have hrow5 : w5.ownsRow 0 35 1 (.slice (some ⟨g, 0, none⟩) ls.length c) ls.length vs' := row_same (F := (· = g)) (fun q hq => hb5.block q (by omega)) HO.out (fun q hq => by cases hq; rfl)
              obtain ⟨hrow6, _⟩ := hrow5.stored r (.slice (some ⟨gg, 0, none⟩) 40 cap)
              have hdn : BytesAt (fun q => (F q ∨ New w (w5.setCell ⟨g, r, none⟩ (.slice (some ⟨gg, 0, none⟩) 40 cap)) q) ∧ q ≠ g) (w5.setCell ⟨g, r, none⟩ (.slice (some ⟨gg, 0, none⟩) 40 cap)) (.slice (some ⟨gg, 0, none⟩) 40 cap) y.data := by
                have h1 := bytesAt_own (B := wr.heap.size) (n := 40) (l := y.data) (New wr w5) H40.out (fun _ h1 h2 => ⟨h1, h2⟩) (by rw [HNW.out]; exact ownsRow_base (by simpa using hown5) (by omega))
                refine (h1.same (fun q hq => Below.heap_setCell _ _ _ q (by have := hq.1; show q ≠ g; omega))).mono fun q hq => ?_
                have := hq.1
                exact ⟨.inr ⟨by omega, by have := hq.2; simpa using this⟩, by omega⟩
              have hall : All2 (BytesAt (fun q => (F q ∨ New w (w5.setCell ⟨g, r, none⟩ (.slice (some ⟨gg, 0, none⟩) 40 cap)) q) ∧ q ≠ g) (w5.setCell ⟨g, r, none⟩ (.slice (some ⟨gg, 0, none⟩) 40 cap))) (vs'.set r (.slice (some ⟨gg, 0, none⟩) 40 cap)) ((refPuts ls (t.puts.take k)).set r y.data) := by
                refine All2.set hdn r (All2.imp (fun _ _ h => ?_) HV.out)
                refine (BytesAt.same h (fun q hq => ?_)).mono fun q hq => ⟨hq.1.imp id fun h => ⟨h.1, by have := h.2; simp; omega⟩, hq.2⟩
                have hql : q < wr.heap.size := hq.1.elim (fun h => by have := hd q h; omega) (fun h => h.2)
                exact (Below.heap_setCell _ _ _ q hq.2).trans (hb5.block q hql)
              have hrp : refPuts ls (t.puts.take (k + 1)) = (refPuts ls (t.puts.take k)).set r y.data := by
                rw [HT.out]; simp [refPuts, HR.out]
              have hc7 := HC.out.trans hc6
              have HROW6 := Lib.hid hrow6
              have HALL := Lib.hid hall
              have HRP := Lib.hid hrp
              have HC7 := Lib.hid hc7
              clear hrow6 hall hrp hc7
              clear hdn hc6 hrow5 hown5 hgrow5 hst
              go_wp2
              go_roundw
              case rel =>
                refine ⟨k + 1, _, by omega, by go_num, HROW6.out, ?_, HC7.out⟩
                unfold Hid
                rw [HRP.out]; exact HALL.out
              case measure => simp [intOf]; omega
            · have hkl : k = t.puts.length := by omega
              subst hkl
              have hfin := HV.out
              rw [List.take_length] at hfin
              have HFIN := Lib.hid hfin
              clear hfin
              go_wp2
              go_ret
              have hch : Chg F w wr := (Chg.of_below (S := F) hbw (fun q h1 h2 => by omega)).trans (HC.out.mono (fun q hq e => by subst e; exact h3))
              refine ⟨by rw [HOK.out]; rfl, hch, ?_⟩
              rw [HOK.out, if_pos rfl]
              refine ⟨b, g, c, vs', rfl, .inl h2, .inl h3, ?_, by rw [refPuts_length]; exact HO.out, HFIN.out⟩
              rw [refPuts_length]
              exact (HC.out.block b (by omega) hbg).trans ((hbw.block b hbb).trans H4.out)
end Go.Proofs
