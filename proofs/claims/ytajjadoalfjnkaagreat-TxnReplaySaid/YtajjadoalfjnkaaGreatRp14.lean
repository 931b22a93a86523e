/- Texts of this claim, one behind the other: R20W, Replay23. -/
import Derived.Deep.RegionHeld3
import Derived.Lib.Hide
import Derived.Test.YtajjadoalfjnkaaGreatRp13
namespace Go.Proofs
open Go.RowKit Sc
theorem All2.set {α β : Type} {R : α → β → Prop} {a : α} {b : β} (h : R a b) : ∀ {l : List α} {m : List β} (i : Nat), All2 R l m → All2 R (l.set i a) (m.set i b)
 | [], [], _, _ => trivial
 | _ :: _, _ :: _, 0, ⟨_, h2⟩ => ⟨h, h2⟩
 | _ :: _, _ :: _, i + 1, ⟨h1, h2⟩ => ⟨h1, All2.set h i h2⟩
 | [], _ :: _, _, h' => h'.elim
 | _ :: _, [], _, h' => h'.elim
def RefIs (F : Nat → Prop) (w : World) (v : Value) (ls : List Bytes) : Prop :=
 ∃ b g c vs, v = .pointer (some ⟨b, 0, none⟩) ∧ F b ∧ F g ∧ w.heap[b]? = some (.cells #[.slice (some ⟨g, 0, none⟩) ls.length c] 141 (0, 0)) ∧
  w.ownsRow 0 30 1 (.slice (some ⟨g, 0, none⟩) ls.length c) ls.length vs ∧ All2 (BytesAt (fun k => F k ∧ k ≠ g) w) vs ls
theorem RefIs.same {F : Nat → Prop} {w w' : World} {v : Value} {ls : List Bytes} (h : RefIs F w v ls) (hs : Same F w w') : RefIs F w' v ls :=
 let ⟨b, g, c, vs, h1, h2, h3, h4, h5, h6⟩ := h
 ⟨b, g, c, vs, h1, h2, h3, by rw [hs b h2]; exact h4, row_same hs h5 (fun q hq => by cases hq; exact h3), All2.imp (fun _ _ h => h.same (hs.mono fun _ h => h.1)) h6⟩
theorem RefIs.mono {F F' : Nat → Prop} {w : World} {v : Value} {ls : List Bytes} (h : RefIs F w v ls) (hF : ∀ k, F k → F' k) : RefIs F' w v ls :=
 let ⟨b, g, c, vs, h1, h2, h3, h4, h5, h6⟩ := h
 ⟨b, g, c, vs, h1, hF _ h2, hF _ h3, h4, h5, All2.imp (fun _ _ h => h.mono fun k hk => ⟨hF k hk.1, hk.2⟩) h6⟩
def RefA (v : Value) (ls : List Bytes) : Asn := ⟨fun F w => RefIs F w v ls, fun _ _ _ hs _ h => h.same hs⟩
theorem all2_nils (F : Nat → Prop) (w : World) : ∀ n, All2 (BytesAt F w) (List.replicate n (.slice none 0 0)) (List.replicate n [])
 | 0 => trivial
 | n + 1 => ⟨SlAt.nil, all2_nils F w n⟩
def RefNew (n : Nat) (w : World) (e : Ending) (w' : World) : Prop := ∃ v, e = .returned (.tuple #[v, .int .i64 0]) ∧ RefIs (New w w') w' v (List.replicate n []) ∧ Below w.heap.size w w'
set_option maxRecDepth 100000 in
set_option maxHeartbeats 400000 in
theorem refNew_any (n : Nat) (w : World) (h1 : 1 ≤ n) (h2 : n ≤ 1000000) : Calls Tryz.prog 45 #[.int .i64 n] w (RefNew n w) := by
 obtain ⟨i0, hi, hz0, hz1, hz2⟩ := info_parts infoRow
 have hn1 : (1 : Int) ≤ n := by omega
 have hn2 : (n : Int) ≤ 1000000 := by omega
 go_enter Tryz.func45, Tryz.ntmps45
 go_wp2_with (at_make; refine wpList_make_full _ rfl _ _ 65 rfl 0 30 i0 (.slice none 0 0) 1 Tryz.underlying65 hi hz0 hz1 _ _ _ _ n rfl rfl rfl rfl (by rw [hz2]; omega) (by unfold maxLen; omega) (Nat.zero_le _) ?_; intro w1 hown hgrow)
 go_ret2
 have hlt := hown.lt w.heap.size rfl
 rw [made_one (z := .slice none 0 0) rfl] at hown
 have hb1 : Below w.heap.size w w1 := (Below.refl _ _).grown hgrow (Nat.le_refl _) (fun j hj => by cases hj)
 refine ⟨_, rfl, ⟨w1.heap.size, w.heap.size, n, _, rfl, ⟨hb1.size, by simp⟩, ⟨Nat.le_refl _, by simp; omega⟩, ?_, by rw [List.length_replicate]; exact hown.alloc _, all2_nils _ _ n⟩, Below.up hb1 (below_alloc _ _)⟩
 rw [List.length_replicate]
 exact heap_alloc_new _ _
theorem all2_at {F : Nat → Prop} {w : World} {vs : List Value} {ls : List Bytes} (h : All2 (BytesAt F w) vs ls) (i : Nat) (hi : i < ls.length) : ∃ v, vs[i]? = some v ∧ BytesAt F w v ls[i] := by
 have hl := All2.length h
 exact ⟨vs[i]'(by omega), List.getElem?_eq_getElem (by omega), All2.get h i (by omega) hi⟩
set_option maxHeartbeats 400000 in
theorem blank_any (G : Nat → Prop) (v : Value) (l : Bytes) (w : World) (hv : BytesAt G w v l) :
  Calls Tryz.prog 90 #[v] w fun e w' => e = .returned (.bool (l.all (· == 0))) ∧ w = w' := by
 obtain ⟨p, c, rfl, h1, h2, h3, h4⟩ := hv
 have H4 := Lib.hid h4
 clear h3 h4
 go_enter Tryz.func90, Tryz.ntmps90
 go_wp2
 go_loop [3] (fun i => ∃ k : Nat, k ≤ l.length ∧ i = .int .i64 k ∧ Hid (∀ j (h : j < k) (h' : j < l.length), l[j] = 0)) (fun i => l.length - (intOf i).toNat)
 case atStart => exact ⟨0, by omega, rfl, fun j hj => absurd hj (by omega)⟩
 case round =>
  obtain ⟨k, hk, rfl, A⟩ := hrel
  by_cases hlt : k < l.length
  ·obtain ⟨b, o, rfl, _, hc⟩ := H4.out k hlt
   unfold byteE at hc
   rw [Nat.mul_one] at hc
   have hx : ∃ x, l[k] = x := ⟨_, rfl⟩
   obtain ⟨x, hx⟩ := hx
   rw [hx] at hc
   have HX := Lib.hid hx
   clear hx
   by_cases h0 : x = 0
   ·subst h0
    have hd : ((((0 : UInt8).toNat : Nat) : Int) != 0) = false := rfl
    go_wp2
    go_round
    case rel =>
     refine ⟨k + 1, by omega, by go_num, fun j hj hj' => ?_⟩
     by_cases e : j = k
     ·subst e; exact HX.out
     ·exact A.out j (by omega) hj'
    case measure => simp [intOf]; omega
   ·have hd : (((x.toNat : Nat) : Int) != 0) = true := by
     rw [bne_iff_ne]; intro e; exact h0 (UInt8.toNat_inj.1 (by simpa using e))
    have H0 := Lib.hid h0
    clear h0
    go_wp2
    go_ret
    refine ⟨?_, rfl⟩
    have : l.all (· == 0) = false := by
     rw [List.all_eq_false]
     exact ⟨l[k], List.getElem_mem hlt, by rw [HX.out]; simpa using H0.out⟩
    exact congrArg boolRet this.symm
  ·have HK := Lib.hid (show k = l.length by omega)
   go_wp2
   go_ret
   refine ⟨?_, rfl⟩
   have : l.all (· == 0) = true := by
    rw [List.all_eq_true]
    intro y hy
    obtain ⟨j, hj, rfl⟩ := List.getElem_of_mem hy
    rw [A.out j (by have := HK.out; omega) hj]; rfl
   exact congrArg boolRet this.symm
def RefRunSaid (F : Nat → Prop) (v : Value) (ls : List Bytes) (l : List Put) (w : World) (e : Ending) (w' : World) : Prop :=
 e = .returned (.int .i64 (runCode ls.length l)) ∧ Chg F w w' ∧ RefIs (fun k => F k ∨ New w w' k) w' v (if runCode ls.length l = 0 then refPuts ls l else ls)
theorem ref_fail {F : Nat → Prop} {v : Value} {ls : List Bytes} {l : List Put} {w w' : World} {c : Int} (hd : Dom F w) (hm : RefIs F w v ls) (hb : Below w.heap.size w w') (hc : runCode ls.length l = c) (h0 : c ≠ 0) :
  RefRunSaid F v ls l w (.returned (.int .i64 c)) w' := by
 refine ⟨by rw [hc], Chg.of_below hb (fun k h1 h2 => by omega), ?_⟩
 rw [hc, if_neg h0]
 exact (hm.same (hd.same hb)).mono fun _ h => .inl h
set_option maxRecDepth 100000 in
set_option maxHeartbeats 2000000 in
theorem refRun_any (F G : Nat → Prop) (v tv : Value) (ls : List Bytes) (t : Tx) (w : World) (hm : RefIs F w v ls) (hd : Dom F w) (_hls : ls.length ≤ 1000000) (ht : TxAt G w tv t) (hG : Dom G w) (hFG : ∀ k, F k → ¬ G k) :
  Calls Tryz.prog 46 #[v, tv] w (RefRunSaid F v ls t.puts w) := by
 have HMOD := Lib.hid hm
 obtain ⟨b, g, c, vs, rfl, h2, h3, h4, h5, h6⟩ := hm
 obtain ⟨pv, rfl, hti, hp⟩ := ht
 have HP := Lib.hid hp
 obtain ⟨pp, pc, rfl, hp1, hp2, hp3, hp4⟩ := hp
 have HP4 := Lib.hid hp4
 have hc0 : w.cell? ⟨b, 0, none⟩ = some (.slice (some ⟨g, 0, none⟩) ls.length c) := by rw [cell_row h4]; rfl
 have hbb := hd b h2
 have hgb := hd g h3
 have hbg : b ≠ g := by
  intro e
  subst e
  rcases h5.2 with ⟨hh, _⟩ | ⟨g', cap, cur, hh, _, hg, _⟩
  ·cases hh
  ·cases hh
   rw [h4] at hg
   cases hg
 have H4 := Lib.hid h4
 have H5 := Lib.hid h5
 have H6 := Lib.hid h6
 clear h4 h5 h6
 clear hp3 hp4
 go_enter Tryz.func46, Tryz.ntmps46
 go_wp2
 go_loopw [5] (fun i wr => ∃ k : Nat, k ≤ t.puts.length ∧ i = .int .i64 k ∧ Below (w.heap.size + 1) (w.alloc (.cells #[.int .i64 t.time, .slice pp t.puts.length pc] 70)) wr ∧ Hid (∀ j (h : j < k) (h' : j < t.puts.length), blk ls.length t.puts[j].lba = true)) (fun i _ => t.puts.length - (intOf i).toNat)
 case atStart => exact ⟨0, by omega, rfl, Below.refl _ _, fun j hj => absurd hj (by omega)⟩
 case round =>
  obtain ⟨k, hk, rfl, hbk, HA⟩ := hrel
  have hbw : Below w.heap.size w wr := (below_alloc w _).trans (hbk.mono (by omega))
  have hz := hbk.size
  simp at hz
  have e1 : wr.cell? ⟨w.heap.size, 1, none⟩ = some (.slice pp t.puts.length pc) := (hbk.cell (p := ⟨w.heap.size, 1, none⟩) (by show w.heap.size < _; omega)).trans (by go_simp)
  have e0 := cell_up hbw hc0
  by_cases hlt : k < t.puts.length
  ·obtain ⟨pb, po, rfl, hGb, hca, hi, dv, hcb, hd0⟩ := HP4.out k hlt
   have hca' := cell_up hbw hca
   have hnd := HA.out
   have hfail : blk ls.length t.puts[k].lba = false → runCode ls.length t.puts = 2 := by
    intro h
    unfold runCode
    rw [if_pos]
    rw [List.any_eq_true]
    exact ⟨_, List.getElem_mem hlt, by rw [h]; rfl⟩
   have hstep : blk ls.length t.puts[k].lba = true → ∀ j (h : j < k + 1) (h' : j < t.puts.length), blk ls.length t.puts[j].lba = true := by
    intro h j hj hj'
    by_cases e : j = k
    ·subst e; exact h
    ·exact hnd j (by omega) hj'
   obtain ⟨hi0, hi1⟩ := hi
   generalize t.puts[k].lba = x at hca hca' hi0 hi1 hfail hstep
   have HFAIL := Lib.hid hfail
   have HSTEP := Lib.hid hstep
   clear hfail hstep
   clear hnd hca hcb hd0
   by_cases h1 : x < 0
   ·have hb : blk ls.length x = false := by unfold blk; rw [decide_eq_false (by omega)]; rfl
    have HB := Lib.hid hb
    clear hb
    go_wp2
    go_quiet (fail)
    go_wp2
    go_ret
    exact ref_fail hd HMOD.out (below_drewN hbw _) (HFAIL.out HB.out) (by decide)
   ·by_cases h3 : (ls.length : Int) ≤ x
    ·have hb : blk ls.length x = false := by unfold blk; rw [decide_eq_false (p := x < _) (by omega), Bool.and_false]
     have h1' : 0 ≤ x := by omega
     have h1'' : decide (x < 0) = false := by simp; omega
     have HB := Lib.hid hb
     clear hb
     clear h1
     go_wp2
     go_quiet (fail)
     go_wp2
     go_ret
     exact ref_fail hd HMOD.out (below_drewN hbw _) (HFAIL.out HB.out) (by decide)
    ·have hb : blk ls.length x = true := by unfold blk; rw [decide_eq_true (by omega), decide_eq_true (by omega)]; rfl
     have h1' : 0 ≤ x := by omega
     have h1'' : decide (x < 0) = false := by simp; omega
     have h3' : x < ls.length := by omega
     have h3'' : decide ((ls.length : Int) ≤ x) = false := by simp; omega
     have HB := Lib.hid hb
     clear hb
     clear h1 h3
     go_wp2
     go_quiet (fail)
     go_wp2
     go_roundw
     case rel => exact ⟨k + 1, by omega, by go_num, below_drewN hbk _, HSTEP.out HB.out⟩
     case measure => simp [intOf]; omega
  ·have hkl : k = t.puts.length := by omega
   subst hkl
   have hq : t.puts.any (fun p => !blk ls.length p.lba) = false := by
    rw [List.any_eq_false]
    intro p hp
    obtain ⟨j, hj, rfl⟩ := List.getElem_of_mem hp
    rw [HA.out j hj hj]; decide
   have HQ := Lib.hid hq
   clear hq
   obtain ⟨W2, rfl⟩ : ∃ W2 : World, W2 = wr := ⟨_, rfl⟩
   go_wp2
   clear e1 e0 hbw hz
   go_loopw [6] (fun i wr => ∃ k : Nat, k ≤ t.puts.length ∧ i = .int .i64 k ∧ Below (w.heap.size + 1) (w.alloc (.cells #[.int .i64 t.time, .slice pp t.puts.length pc] 70)) wr ∧ Hid (((t.puts.take k).map (·.lba)).Nodup ∧ ∀ p ∈ t.puts.take k, p.data.length = 40)) (fun i _ => t.puts.length - (intOf i).toNat)
   case atStart => exact ⟨0, by omega, rfl, hbk, by unfold Hid; simp⟩
   case round =>
    obtain ⟨k, hk, rfl, hbk2, HN⟩ := hrel
    have hbw : Below w.heap.size w wr := (below_alloc w _).trans (hbk2.mono (by omega))
    have hz := hbk2.size
    simp at hz
    have e1 : wr.cell? ⟨w.heap.size, 1, none⟩ = some (.slice pp t.puts.length pc) := (hbk2.cell (p := ⟨w.heap.size, 1, none⟩) (by show w.heap.size < _; omega)).trans (by go_simp)
    by_cases hlt : k < t.puts.length
    ·obtain ⟨pb, po, rfl, hGb, hca, hi, dv, hcb, hd0⟩ := HP4.out k hlt
     have hca' := cell_up hbw hca
     have hcb' := cell_up hbw hcb
     obtain ⟨dp, dc, rfl, hd1, hd2, hd3, hd4⟩ := hd0
     have HT := Lib.hid (take_snoc t.puts k hlt)
     have HM := Lib.hid (List.getElem_mem hlt)
     generalize hy : t.puts[k] = y at hca hca' hcb hcb' hi hd1 hd4 HT HM
     generalize hdl : y.data.length = dl at hcb hcb' hd1
     have hdl1 : dl ≤ 9223372036854775807 := by omega
     have HDL := Lib.hid hdl
     have HY := Lib.hid hy
     clear hdl hy
     clear hca hcb hd1 hd2 hd3 hd4 hi
     by_cases hd40 : dl = 40
     case neg =>
      have hne : ((dl : Int) != 40) = true := by rw [bne_iff_ne]; omega
      have HD40 := Lib.hid hd40
      clear hd40
      go_wp2
      go_ret
      refine ref_fail hd HMOD.out hbw (code_of_dup HQ.out fun hh => ?_) (by decide)
      have h1 := hh.2 y HM.out
      rw [HDL.out] at h1
      exact HD40.out h1
     case pos =>
      have hne : ((dl : Int) != 40) = false := by rw [bne_eq_false_iff_eq]; omega
      have HD40 := Lib.hid hd40
      clear hd40
      obtain ⟨W3, rfl⟩ : ∃ W3 : World, W3 = wr := ⟨_, rfl⟩
      go_wp2
      clear e1 hbw hz hca' hcb'
      go_loopw [7] (fun i wr => ∃ m : Nat, m ≤ k ∧ i = .int .i64 m ∧ Below (w.heap.size + 1) (w.alloc (.cells #[.int .i64 t.time, .slice (some ⟨pb, po, none⟩) t.puts.length pc] 70)) wr ∧ Hid (∀ j (h : j < m) (h' : j < t.puts.length), t.puts[j].lba ≠ y.lba)) (fun i _ => k - (intOf i).toNat)
      case atStart => exact ⟨0, by omega, rfl, hbk2, fun j hj => absurd hj (by omega)⟩
      case round =>
       obtain ⟨m, hm, rfl, hbk3, HJ⟩ := hrel
       have hbw : Below w.heap.size w wr := (below_alloc w _).trans (hbk3.mono (by omega))
       have hz := hbk3.size
       simp at hz
       have e1 : wr.cell? ⟨w.heap.size, 1, none⟩ = some (.slice (some ⟨pb, po, none⟩) t.puts.length pc) := (hbk3.cell (p := ⟨w.heap.size, 1, none⟩) (by show w.heap.size < _; omega)).trans (by go_simp)
       by_cases hmk : m < k
       ·have hml : m < t.puts.length := by omega
        obtain ⟨_, _, hp', _, hcm, _⟩ := HP4.out m hml
        cases hp'
        obtain ⟨_, _, hp', _, hck, _⟩ := HP4.out k hlt
        cases hp'
        have hcm' := cell_up hbw hcm
        have hck' := cell_up hbw hck
        rw [HY.out] at hck'
        have hjj := HJ.out
        have hst : t.puts[m].lba ≠ y.lba → ∀ j (h : j < m + 1) (h' : j < t.puts.length), t.puts[j].lba ≠ y.lba := by
         intro h j hj hj'
         by_cases e : j = m
         ·subst e; exact h
         ·exact hjj j (by omega) hj'
        have hno : t.puts[m].lba = y.lba → ¬ ((t.puts.map (·.lba)).Nodup) := by
         intro h hn
         have h1 := (List.pairwise_iff_getElem.1 hn) m k (by simpa using hml) (by simpa using hlt) hmk
         simp only [List.getElem_map] at h1
         rw [HY.out] at h1
         exact h1 h
        generalize t.puts[m].lba = xm at hcm' hst hno
        have HST := Lib.hid hst
        have HNO := Lib.hid hno
        clear hst hno
        clear hcm hck hjj
        by_cases he : xm = y.lba
        ·subst he
         have hq : (y.lba == y.lba) = true := by simp
         go_wp2
         go_quiet (fail)
         go_wp2
         go_ret
         exact ref_fail hd HMOD.out (below_drewN hbw _) (code_of_dup HQ.out fun hh => HNO.out trivial hh.1) (by decide)
        ·have hq : (xm == y.lba) = false := by rw [beq_eq_false_iff_ne]; exact he
         have HE := Lib.hid he
         clear he
         go_wp2
         go_quiet (fail)
         go_wp2
         go_roundw
         case rel => exact ⟨m + 1, by omega, by go_num, below_drewN hbk3 _, HST.out HE.out⟩
         case measure => simp [intOf]; omega
       ·have hmk2 : m = k := by omega
        subst hmk2
        go_wp2
        go_roundw
        case rel =>
         refine ⟨m + 1, by omega, by go_num, hbk3, ?_⟩
         unfold Hid
         rw [HT.out, List.map_append, List.nodup_append]
         refine ⟨⟨HN.out.1, by simp, fun a ha b hb e => ?_⟩, fun p hp => ?_⟩
         ·simp only [List.map_cons, List.map_nil, List.mem_singleton] at hb
          subst hb
          obtain ⟨p, hp, rfl⟩ := List.mem_map.1 ha
          obtain ⟨j, hj, rfl⟩ := List.getElem_of_mem hp
          rw [List.length_take] at hj
          rw [List.getElem_take] at e
          exact HJ.out j (by omega) (by omega) e
         ·rw [List.mem_append] at hp
          rcases hp with hp | hp
          ·exact HN.out.2 p hp
          ·rw [List.mem_singleton] at hp; subst hp; rw [HDL.out]; exact HD40.out
        case measure => simp [intOf]; omega
    ·have hkl : k = t.puts.length := by omega
     have hok : runCode ls.length t.puts = 0 := code_of_ok HQ.out (by have := HN.out; rw [hkl, List.take_length] at this; exact this)
     have h40 : ∀ p ∈ t.puts, p.data.length = 40 := by have := HN.out.2; rw [hkl, List.take_length] at this; exact this
     have hin : ∀ p ∈ t.puts, 0 ≤ p.lba ∧ p.lba < ls.length := by
      intro p hp
      have := HQ.out
      rw [List.any_eq_false] at this
      have := this p hp
      simpa [blk] using this
     have HKL := Lib.hid hkl
     have HOK := Lib.hid hok
     have H40 := Lib.hid h40
     have HIN := Lib.hid hin
     clear hkl hok h40 hin
     obtain ⟨W3, rfl⟩ : ∃ W3 : World, W3 = wr := ⟨_, rfl⟩
     go_wp2
     clear e1 hz
     obtain ⟨i0, hi, hz0, hz1, hz2⟩ := info_parts infoU8
     go_loopw [8] (fun i wr => ∃ k : Nat, ∃ vs', k ≤ t.puts.length ∧ i = .int .i64 k ∧ Hid (wr.ownsRow 0 30 1 (.slice (some ⟨g, 0, none⟩) ls.length c) ls.length vs') ∧ Hid (All2 (BytesAt (fun q => (F q ∨ New w wr q) ∧ q ≠ g) wr) vs' (refPuts ls (t.puts.take k))) ∧ Hid (Chg (· = g) W3 wr)) (fun i _ => t.puts.length - (intOf i).toNat)
     case atStart => exact ⟨0, vs, by omega, rfl, row_same (hd.same hbw) H5.out (fun q hq => by cases hq; exact h3), All2.imp (fun _ _ h => (BytesAt.same h ((hd.same hbw).mono fun _ h => h.1)).mono fun _ h => ⟨.inl h.1, h.2⟩) H6.out, Chg.refl _ _⟩
     case round =>
      obtain ⟨k, vs', hk, rfl, HO, HV, HC⟩ := hrel
      have hz3 := hbw.size
      have hzc := HC.out.size
      have hbox : w.heap.size < W3.heap.size := by have := hbk2.size; simp at this; omega
      have e1 : wr.cell? ⟨w.heap.size, 1, none⟩ = some (.slice pp t.puts.length pc) := HC.out.cell (by omega) ((hbk2.cell (p := ⟨w.heap.size, 1, none⟩) (by show w.heap.size < _; omega)).trans (by go_simp))
      have e0 : wr.cell? ⟨b, 0, none⟩ = some (.slice (some ⟨g, 0, none⟩) ls.length c) := HC.out.cell hbg (cell_up hbw hc0)
      by_cases hlt : k < t.puts.length
      ·obtain ⟨pb, po, rfl, hGb, hca, hi, dv, hcb, hd0⟩ := HP4.out k hlt
       have hpg : ¬ pb = g := fun e => hFG g h3 (e ▸ hGb)
       have hca' := HC.out.cell hpg (cell_up hbw hca)
       have hcb' := HC.out.cell hpg (cell_up hbw hcb)
       have hGx : Same G w wr := fun q hq => (HC.out.block q (by have := hG q hq; omega) (fun e => hFG g h3 (e ▸ hq))).trans (hbw.block q (hG q hq))
       have hdx := hd0.same hGx
       have HT := Lib.hid (take_snoc t.puts k hlt)
       have h40 := H40.out _ (List.getElem_mem hlt)
       obtain ⟨hin0, hin1⟩ := HIN.out _ (List.getElem_mem hlt)
       generalize t.puts[k] = y at hca hca' hdx hd0 HT h40 hin0 hin1
       obtain ⟨r, hr⟩ := Int.eq_ofNat_of_zero_le hin0
       rw [hr] at hca' hin0 hin1
       have hrl : r < ls.length := by omega
       have hvl : vs'.length = ls.length := by have := All2.length HV.out; rw [refPuts_length] at this; exact this
       have hrow : wr.cell? ⟨g, r, none⟩ = some (vs'[r]'(by omega)) := by rw [HO.out.cellAt r (by omega), List.getElem?_eq_getElem]
       have hrf : wr.frozen? ⟨g, r, none⟩ = false := HO.out.frozenAt r
       generalize vs'[r]'(by omega) = old at hrow
       have HDX := Lib.hid hdx
       obtain ⟨da, dc, rfl, hd1, hd2, hd3, hd4⟩ := hdx
       obtain ⟨db, dof, rfl, hdG, hdE⟩ := hd4 0 (by omega)
       clear hdE
       have hnews : ∀ j u, (y.data.map fun x => Value.int .u8 (x.toNat : Int))[j]? = some u → wr.cell? ((⟨db, dof, none⟩ : Addr).add j) = some u := by
        intro j u hj
        simp only [List.getElem?_map, Option.map_eq_some_iff] at hj
        obtain ⟨x, hx, rfl⟩ := hj
        obtain ⟨hjl, rfl⟩ := List.getElem?_eq_some_iff.1 hx
        obtain ⟨b', o', hp, _, he⟩ := hd4 j hjl
        cases hp
        unfold byteE at he
        rw [Nat.mul_one] at he
        have hadd : (⟨db, dof, none⟩ : Addr).add j = ⟨db, dof + j, none⟩ := by unfold Addr.add; split <;> simp_all
        rw [hadd]; exact he
       have hnl : (y.data.map fun x => Value.int .u8 (x.toNat : Int)).length = 40 * 1 := by simp [h40]
       have hone : ∀ u ∈ (y.data.map fun x => Value.int .u8 (x.toNat : Int)), u.oneCell' = true := by
        intro u hu; obtain ⟨x, _, rfl⟩ := List.mem_map.1 hu; rfl
       generalize hnw : (y.data.map fun x => Value.int .u8 (x.toNat : Int)) = news at *
       simp only [h40] at hcb'
       have hwg : w.heap.size ≠ g := by omega
       have k0 : (0 : Int) ≤ (k : Int) := by omega
       have hfa : ∀ o, (wr.alloc o).drew.frozen? ⟨g, r, none⟩ = false := fun o => ((below_alloc wr o).frozen (p := ⟨g, r, none⟩) (World.block_lt_of_cell? wr _ hrow)).trans hrf
       have k1 : (k : Int) < (t.puts.length : Int) := by omega
       have hb1 := World.block_lt_of_cell? wr _ hca'
       have hg1 := World.block_lt_of_cell? wr _ hrow
       have hb2 := World.block_lt_of_cell? wr _ e0
       have hx1 := World.block_lt_of_cell? wr _ e1
       have HNEWS := Lib.hid hnews
       have HNL := Lib.hid hnl
       have HONE := Lib.hid hone
       have HNW := Lib.hid hnw
       have HR := Lib.hid hr
       have H40 := Lib.hid h40
       clear hnews hnl hone hnw hr h40
       clear hca hcb hd0 hd1 hd2 hd3 hd4 hi hGx
       go_wp2
       go_region_held3 (fun W => W.cell? ⟨b, 0, none⟩ = some (.slice (some ⟨g, 0, none⟩) ls.length c) ∧ W.cell? ⟨w.heap.size, 1, none⟩ = some (.slice (some ⟨pb, po, none⟩) t.puts.length pc) ∧ W.cell? ⟨pb, po + k * 2, none⟩ = some (.int .i64 r) ∧ W.cell? ⟨pb, po + k * 2 + 1, none⟩ = some (.slice (some ⟨db, dof, none⟩) 40 dc))
        (first
          | go_keep
          | (go_split_ands
             exact ⟨(hgrow5.cell_far _ (by simp; omega) (by simp [Value.ownBlock]; omega)).trans (by assumption), (hgrow5.cell_far _ (by simp; omega) (by simp [Value.ownBlock]; omega)).trans (by assumption), (hgrow5.cell_far _ (by simp; omega) (by simp [Value.ownBlock]; omega)).trans (by assumption), (hgrow5.cell_far _ (by simp; omega) (by simp [Value.ownBlock]; omega)).trans (by assumption)⟩)
          | (go_split_ands
             exact ⟨(cell_set_other hbg).trans (by assumption), (cell_set_other hwg).trans (by assumption), (cell_set_other hpg).trans (by assumption), (cell_set_other hpg).trans (by assumption)⟩))
        ((refine step_append_lies _ (by rfl) _ _ _ (by rfl) 0 5 i0 (.int .u8 0) 1 1 Tryz.underlying30 hi hz0 hz1 hz2 (by rfl) (by decide) _ 0 [] (by rfl) (World.ownsRow_made wr #[] 0 (Nat.zero_le _) (by decide) rfl) ⟨db, dof, none⟩ 40 dc news (by rfl) HNL.out (fun j u hj => cell_alloc_old (HNEWS.out j u hj)) HONE.out (by decide) (by decide) (by decide) (Nat.zero_le _) (wr.heap.size + 1) (by simp) ?_; intro gg cap w5 hown5 hgrow5 hat5 hlt5; have q1 : w5.cell? ⟨g, r, none⟩ = some old := (hgrow5.cell_far _ (by simp; omega) (by simp [Value.ownBlock]; omega)).trans (cell_alloc_old hrow); have q2 : w5.frozen? ⟨g, r, none⟩ = false := (hgrow5.frozen_far _ (by simp; omega) (by simp [Value.ownBlock]; omega)).trans (hfa _)))
       have hlt5' := hlt5
       have hz5 : wr.heap.size < w5.heap.size := by have := hgrow5.size; simp at this; omega
       have hgt5 : gg = wr.heap.size ∨ gg = wr.heap.size + 1 := by
        rcases hat5 with h | h
        ·simp [Value.ownBlock] at h; exact .inl h.symm
        ·exact .inr h
       have hb5 : Below wr.heap.size wr w5 := (below_drewN (below_alloc wr (.cells #[] 5)) 1).grown hgrow5 (by simp) (fun q hq => by simp [Value.ownBlock] at hq; omega)
       have hc6 : Chg (· = g) wr (w5.setCell ⟨g, r, none⟩ (.slice (some ⟨gg, 0, none⟩) 40 cap)) := Chg.after_up hb5 (chg_set w5 g r _ rfl)
       have hst := HO.out
       have hrow5 : w5.ownsRow 0 30 1 (.slice (some ⟨g, 0, none⟩) ls.length c) ls.length vs' := row_same (F := (· = g)) (fun q hq => hb5.block q (by omega)) HO.out (fun q hq => by cases hq; rfl)
       obtain ⟨hrow6, _⟩ := hrow5.stored r (.slice (some ⟨gg, 0, none⟩) 40 cap)
       have hdn : BytesAt (fun q => (F q ∨ New w (w5.setCell ⟨g, r, none⟩ (.slice (some ⟨gg, 0, none⟩) 40 cap)) q) ∧ q ≠ g) (w5.setCell ⟨g, r, none⟩ (.slice (some ⟨gg, 0, none⟩) 40 cap)) (.slice (some ⟨gg, 0, none⟩) 40 cap) y.data := by
        have h1 := bytesAt_own (B := wr.heap.size) (n := 40) (l := y.data) (New wr w5) H40.out (fun _ h1 h2 => ⟨h1, h2⟩) (by rw [HNW.out]; exact ownsRow_base (by simpa using hown5) (by omega))
        refine (h1.same (fun q hq => Below.heap_setCell _ _ _ q (by have := hq.1; show q ≠ g; omega))).mono fun q hq => ?_
        have := hq.1
        exact ⟨.inr ⟨by omega, by have := hq.2; simpa using this⟩, by omega⟩
       have hall : All2 (BytesAt (fun q => (F q ∨ New w (w5.setCell ⟨g, r, none⟩ (.slice (some ⟨gg, 0, none⟩) 40 cap)) q) ∧ q ≠ g) (w5.setCell ⟨g, r, none⟩ (.slice (some ⟨gg, 0, none⟩) 40 cap))) (vs'.set r (.slice (some ⟨gg, 0, none⟩) 40 cap)) ((refPuts ls (t.puts.take k)).set r y.data) := by
        refine All2.set hdn r (All2.imp (fun _ _ h => ?_) HV.out)
        refine (BytesAt.same h (fun q hq => ?_)).mono fun q hq => ⟨hq.1.imp id fun h => ⟨h.1, by have := h.2; simp; omega⟩, hq.2⟩
        have hql : q < wr.heap.size := hq.1.elim (fun h => by have := hd q h; omega) (fun h => h.2)
        exact (Below.heap_setCell _ _ _ q hq.2).trans (hb5.block q hql)
       have hrp : refPuts ls (t.puts.take (k + 1)) = (refPuts ls (t.puts.take k)).set r y.data := by
        rw [HT.out]; simp [refPuts, HR.out]
       have hc7 := HC.out.trans hc6
       have HROW6 := Lib.hid hrow6
       have HALL := Lib.hid hall
       have HRP := Lib.hid hrp
       have HC7 := Lib.hid hc7
       clear hrow6 hall hrp hc7
       clear hdn hc6 hrow5 hown5 hgrow5 hst
       go_wp2
       go_roundw
       case rel =>
        refine ⟨k + 1, _, by omega, by go_num, HROW6.out, ?_, HC7.out⟩
        unfold Hid
        rw [HRP.out]; exact HALL.out
       case measure => simp [intOf]; omega
      ·have hkl : k = t.puts.length := by omega
       subst hkl
       have hfin := HV.out
       rw [List.take_length] at hfin
       have HFIN := Lib.hid hfin
       clear hfin
       go_wp2
       go_ret
       have hch : Chg F w wr := (Chg.of_below (S := F) hbw (fun q h1 h2 => by omega)).trans (HC.out.mono (fun q hq e => by subst e; exact h3))
       refine ⟨by rw [HOK.out]; rfl, hch, ?_⟩
       rw [HOK.out, if_pos rfl]
       refine ⟨b, g, c, vs', rfl, .inl h2, .inl h3, ?_, by rw [refPuts_length]; exact HO.out, HFIN.out⟩
       rw [refPuts_length]
       exact (HC.out.block b (by omega) hbg).trans ((hbw.block b hbb).trans H4.out)
theorem SlAt.one {α : Type} {G : Nat → Prop} {k : Nat} {E : Elem α} {w : World} {p : Option Addr} {n c : Nat} {l : List α} (h : SlAt G k E w (.slice p n c) l) : ∃ b o, ∀ i (h : i < l.length), p = some ⟨b, o, none⟩ ∧ G b ∧ E w b (o + i * k) l[i] := by
 rcases h.base with ⟨rfl, _⟩ | ⟨b, o, c', e, _, _, _, h1, h2⟩
 ·exact ⟨0, 0, fun i hi => absurd hi (Nat.not_lt_zero _)⟩
 ·cases e
  exact ⟨b, o, fun i hi => ⟨rfl, h1, h2 i hi⟩⟩
set_option maxHeartbeats 1000000 in
theorem wrote20_any (st bg tm fr up : Int) (rp pp : Option Addr) (rn rc pn pc : Nat) (w : World) (hpn : pn ≤ 9223372036854775807) :
  Calls Tryz.prog 129 #[.agg #[.int .i64 st, .int .i64 bg, .int .i64 tm, .int .i64 fr, .int .i64 up, .slice rp rn rc, .slice pp pn pc]] w fun e w' => e = .returned (.bool (decide (st = 3) && decide (0 < pn))) ∧ Below w.heap.size w w' := by
 by_cases h1 : st = 3
 ·subst h1
  by_cases h2 : 0 < pn
  ·have h2' : (0 : Int) < (pn : Int) := by omega
   rw [decide_eq_true h2]
   go_enter Tryz.func129, Tryz.ntmps129
   go_wp2
   go_ret
   exact ⟨rfl, below_alloc _ _⟩
  ·have h2' : ¬ (0 : Int) < (pn : Int) := by omega
   rw [decide_eq_false h2]
   go_enter Tryz.func129, Tryz.ntmps129
   go_wp2
   go_ret
   exact ⟨rfl, below_alloc _ _⟩
 ·have h1' : (st == 3) = false := by rw [beq_eq_false_iff_ne]; exact h1
  rw [decide_eq_false h1]
  go_enter Tryz.func129, Tryz.ntmps129
  go_wp2
  go_ret
  exact ⟨rfl, below_alloc _ _⟩
theorem Sep.row_fresh {W w : World} {L : List Asn} (h : Sep W (OldA W :: L) w) (i : Nat) {T k n : Nat} {v : Value} {xs : List Value} (hi : L[i]? = some (RowA T k v n xs)) : w.ownsRow W.heap.size T k v n xs := by
 obtain ⟨F, G, h1, h2, hd, _⟩ := h.two (i + 1) 0 (by omega) (A := RowA T k v n xs) (B := OldA W) hi rfl
 refine ⟨h1.1.1, h1.1.2.imp id fun ⟨g, cap, cur, e1, _, e2⟩ => ⟨g, cap, cur, e1, ?_, e2⟩⟩
 rcases Nat.lt_or_ge g W.heap.size with hh | hh
 ·exact absurd (h2.1 g hh) (hd g (h1.2 g (by rw [e1]; rfl)))
 ·exact hh
def OrderSaid (l : List Hist) (w : World) (e : Ending) (w' : World) : Prop := ∃ v, e = .returned v ∧ IntsAt (New w w') w' v ((ordI l).map fun i : Nat => (i : Int)) ∧ Below w.heap.size w w'
set_option maxRecDepth 100000 in
set_option maxHeartbeats 8000000 in
theorem refOrder_any (G : Nat → Prop) (v : Value) (l : List Hist) (w : World) (hv : HistsAt G w v l) (hl : l.length ≤ 1000) :
  Calls Tryz.prog 89 #[v] w (OrderSaid l w) := by
 have hv' := hv
 obtain ⟨p, c, rfl, h1, h2, h3, h4⟩ := hv
 obtain ⟨b, o, hC⟩ := SlAt.one (E := histE G) (k := 7) hv'
 have HC := Lib.hid hC
 clear h1 h2 h3 h4 hC hv'
 have hS0 := (Sep.start w).new (Below.refl _ _) (RowA 3 1 (.slice none 0 0) 0 []) (F := fun _ => False) (fun _ h => h.elim) ⟨World.ownsRow_nil _ _ _ _, by simp [Value.ownBlock]⟩
 have HS0 := Lib.hid hS0
 clear hS0
 go_enter Tryz.func89, Tryz.ntmps89
 go_wp2_with fail
 go_loopw [3, 4] (fun s3 s4 wr => ∃ k n : Nat, ∃ po co, ∃ os : List Nat, k ≤ l.length ∧ n ≤ k ∧ s4 = .int .i64 k ∧ s3 = .slice po n co ∧ Hid (os.length = n ∧ OrdTo l k os) ∧ Hid (Sep w [OldA w, RowA 3 1 (.slice po n co) n (os.map vN)] wr)) (fun _ i _ => l.length - (intOf i).toNat)
 case atStart => exact ⟨0, 0, none, 0, [], Nat.zero_le _, Nat.le_refl _, rfl, rfl, ⟨rfl, OrdTo.start l⟩, HS0.out⟩
 case round =>
  obtain ⟨k, n, po, co, os, hk, hnk, rfl, rfl, HO, HS⟩ := hrel
  clear HS0
  by_cases hlt : k < l.length
  case neg =>
   have hkl : k = l.length := by omega
   have HKL := Lib.hid hkl
   clear hkl
   go_wp2
   go_ret
   refine ⟨_, rfl, ?_, HS.out.old⟩
   have ho := HO.out.2
   rw [HKL.out] at ho
   have e := ho.done
   have hlen := HO.out.1
   have hrow := Sep.row_fresh HS.out 0 rfl
   rw [e] at hrow hlen
   have hmap : (ordI l).map vN = ((ordI l).map fun i : Nat => (i : Int)).map (Value.int .i64) := by rw [List.map_map]; rfl
   rw [hmap] at hrow
   refine intsAt_own (New w _) (by rw [List.length_map]; exact hlen) (fun x hx => ?_) (fun q h1 h2 => ⟨h1, h2⟩) hrow
   obtain ⟨i, hi, rfl⟩ := List.mem_map.1 hx
   obtain ⟨hi', _⟩ := mem_ordI.1 hi
   unfold I64; omega
  case pos =>
   obtain ⟨rfl, _, hc0, hc1, hc2, hc3, hc4, hi, ⟨rv, hc5, hrd⟩, pv, hc6, hpd⟩ := HC.out k hlt
   obtain ⟨rp, rc, rfl, hr1, hr2, hr3, hr4⟩ := hrd
   obtain ⟨pp, pc, rfl, hp1, hp2, hp3, hp4⟩ := hpd
   clear hr3 hr4 hp3 hp4
   have ht := timeAt_lt hlt
   have hw : wroteAt l k = (decide (l[k].state = 3) && decide (0 < l[k].puts.length)) := by unfold wroteAt; rw [List.getElem?_eq_getElem hlt]; rfl
   have hup := HS.out.old
   replace hc0 := cell_up hup hc0
   replace hc1 := cell_up hup hc1
   replace hc2 := cell_up hup hc2
   replace hc3 := cell_up hup hc3
   replace hc4 := cell_up hup hc4
   replace hc5 := cell_up hup hc5
   replace hc6 := cell_up hup hc6
   generalize l[k].state = st at *
   generalize l[k].begun = bg at *
   generalize l[k].time = tm at *
   generalize l[k].since = fr at *
   generalize l[k].upto = up at *
   generalize l[k].reads.length = rn at *
   generalize l[k].puts.length = pn at *
   have hwr := fun W => wrote20_any st bg tm fr up rp pp rn rc pn pc W (by omega)
   obtain ⟨q, hq⟩ : ∃ q, q = (decide (st = 3) && decide (0 < pn)) := ⟨_, rfl⟩
   rw [← hq] at hw hwr
   have HWR := Lib.hid hwr
   have HW := Lib.hid hw
   have HT := Lib.hid ht
   have HUP := Lib.hid hup
   have HQ := Lib.hid hq
   clear hwr hw ht hup hq
   clear hi hr1 hr2 hp1 hp2
   cases q with
   | false =>
    go_wp2_with fail
    refine (HWR.out _).mono ?_
    rintro e w1 ⟨rfl, hb1⟩
    have hS1 := HS.out.up hb1
    have HB1 := Lib.hid hb1
    have HS1 := Lib.hid hS1
    clear hb1 hS1
    go_wp2_with fail
    go_roundw
    case rel => exact ⟨k + 1, n, po, co, os, by omega, by omega, by go_num, rfl, ⟨HO.out.1, HO.out.2.skip HW.out⟩, HS1.out⟩
    case measure => simp [intOf]; omega
   | true =>
    go_wp2_with fail
    refine (HWR.out _).mono ?_
    rintro e w1 ⟨rfl, hb1⟩
    have hS1 := HS.out.up hb1
    have hk2 := cell_up hb1 hc2
    have HB1 := Lib.hid hb1
    have HS1 := Lib.hid hS1
    clear hb1 hS1
    clear hc0 hc1 hc2 hc3 hc4 hc5 hc6
    go_wp2_with fail
    go_loopw [5] (fun s5 wr => ∃ a : Nat, s5 = .int .i64 a ∧ a ≤ n ∧ Hid (∀ j, a ≤ j → ∀ hj : j < os.length, timeAt l k < timeAt l os[j]) ∧ Hid (Sep w [OldA w, RowA 3 1 (.slice po n co) n (os.map vN)] wr) ∧ Hid (wr.cell? ⟨b, o + k * 7 + 2, none⟩ = some (.int .i64 tm))) (fun i _ => (intOf i).toNat)
    case atStart => exact ⟨n, rfl, Nat.le_refl _, fun j h1 hj => absurd hj (by have := HO.out.1; omega), HS1.out, hk2⟩
    case round =>
     obtain ⟨a, rfl, han, HA, HS2, HK2⟩ := hrel
     have hck := HK2.out
     clear HS1 HS
     by_cases ha0 : a = 0
     case' pos =>
      have hcond : Hid (a = 0 ∨ timeAt l (os.getD (a - 1) 0) ≤ timeAt l k) := Or.inl ha0
      have haz : ¬ (0 : Int) < (a : Int) := by omega
      have hazd : decide (0 < a) = false := decide_eq_false (by omega)
      have hazn : ¬ 0 < a := by omega
      clear ha0
      go_wp2_with fail
      go_quiet (fail)
     case' neg =>
      obtain ⟨a', ha'⟩ : ∃ a', a' + 1 = a := ⟨a - 1, by omega⟩
      have haz : (0 : Int) < (a : Int) := by omega
      have hazn : 0 < a := by omega
      have ham : (a : Int) - 1 = (a' : Int) := by omega
      obtain ⟨F2, hF2, _⟩ := HS2.out.get 1 rfl
      obtain ⟨gr, cr, he, _⟩ := hF2.1.form (by omega)
      cases he
      clear hF2
      have hon := HO.out.1
      have hao : a' < os.length := by omega
      have hrc := (HS2.out.row_cell 1 rfl a' (by omega)).1
      rw [List.getElem?_map, List.getElem?_eq_getElem hao, Option.map_some] at hrc
      have hx := HO.out.2.lt _ (List.getElem_mem hao)
      have hga : os.getD (a - 1) 0 = os[a'] := by rw [show a - 1 = a' by omega]; simp [hao]
      have hxl : os[a'] < l.length := by omega
      obtain ⟨hy0, hy1, hy2, hy3, hxc, hy4⟩ := HC.out os[a'] hxl
      clear hy0 hy1 hy2 hy3 hy4
      have hxt := timeAt_lt hxl
      replace hxc := cell_up HS2.out.old hxc
      have HAN : Hid (∀ j, a' ≤ j → ∀ hj : j < os.length, timeAt l k < timeAt l os[a'] → timeAt l k < timeAt l os[j]) := fun j h1 hj h2 => by
       by_cases e : j = a'
       ·subst e; exact h2
       ·exact HA.out j (by omega) hj
      have HTX : Hid (timeAt l (os.getD (a - 1) 0) = l[os[a']].time) := by rw [hga]; exact hxt
      rw [hxt] at HAN
      clear hga hxt
      generalize l[os[a']].time = tx at *
      generalize os[a'] = x at *
      unfold vN at hrc
      by_cases htt : tm < tx
      ·go_wp2_with fail
       go_quiet (fail)
       go_wp2_with fail
       go_roundw
       case rel => exact ⟨a', by go_num, by omega, fun j h1 hj => HAN.out j h1 hj (by rw [HT.out]; exact htt), HS2.out.up (below_drewN (Below.refl _ _) _), HK2.out⟩
       case measure => simp [intOf]; omega
      have htn : decide (tm < tx) = false := decide_eq_false htt
      have hcond : Hid (a = 0 ∨ timeAt l (os.getD (a - 1) 0) ≤ timeAt l k) := Or.inr (by rw [HTX.out, HT.out]; omega)
      go_wp2_with fail
      go_quiet (fail)
      clear HTX HAN hxc hrc hx hxl hao
     all_goals
      have HS8 := Lib.hid (HS2.out.up (below_drewN (Below.refl _ _) nq))
      have HK8 : Hid ((wr.drewN nq).cell? ⟨b, o + k * 7 + 2, none⟩ = some (.int .i64 tm)) := HK2.out
      clear HS2 HK2 hck
      clear haz hazn
      obtain ⟨FA, hFA, _⟩ := HS8.out.get 1 rfl
      have hrowA := hFA.1
      obtain ⟨iiA, hiiA, hizA, hiyA, hixA⟩ := info_parts infoInt
      have HROWA := Lib.hid hrowA
      clear hFA hrowA
      go_wp2_with (at_builtin; refine wpList_append_lies _ rfl _ _ 91 rfl 0 3 iiA (.int .i64 0) 1 8 Tryz.underlying91 hiiA hizA hiyA hixA rfl (by decide) _ (n) (os.map vN) rfl (HROWA.out.alloc _) ⟨(wr.drewN nq).heap.size, 0, none⟩ 1 1 [.int .i64 0] rfl rfl (World.news_of_block (cs := #[.int .i64 0]) (heap_alloc_new (wr.drewN nq) _)) (by simp [Value.oneCell']) (by decide) (by unfold maxLen; omega) (by omega) (Nat.zero_le _) ((wr.drewN nq).heap.size + 1) (by simp) ?_; intro gA cA wA hownA hgrowA hatA hltA)
      have hSA := HS8.out.row_app 1 rfl (below_alloc _ _) hownA hgrowA hatA (by simp) hltA
      clear hownA hgrowA hatA hltA hiiA hizA hiyA hixA
      obtain ⟨W8, rfl⟩ : ∃ W8 : World, W8 = wr := ⟨_, rfl⟩
      have hcsA : os.map vN ++ [.int .i64 0] = (os.take n ++ 0 :: os.drop n).map vN := by rw [← HO.out.1]; exact first_row os
      rw [hcsA] at hSA
      have HSA := Lib.hid hSA
      clear hSA
      clear hcsA
      go_wp2_with fail
      go_loopw [6] (fun s6 wr => ∃ q g : Nat, s6 = .int .i64 q ∧ a ≤ q ∧ q ≤ n ∧ Hid (Sep w [OldA w, RowA 3 1 (.slice (some ⟨gA, 0, none⟩) (n + 1) cA) (n + 1) ((os.take q ++ g :: os.drop q).map vN)] wr)) (fun i _ => (intOf i).toNat)
      case atStart => exact ⟨n, 0, by go_num, han, Nat.le_refl _, HSA.out⟩
      case round =>
       obtain ⟨q, g, rfl, haq, hqn, HS9⟩ := hrel
       clear HSA HS8
       by_cases hqa : a < q
       ·obtain ⟨q', rfl⟩ : ∃ q', q = q' + 1 := ⟨q - 1, by omega⟩
        have hqz : ((q' + 1 : Nat) : Int) - 1 = (q' : Int) := by omega
        have hqw : IntKind.i64.wrap (q' : Int) = (q' : Int) := by rw [IntKind.wrap_i64]; omega
        have hon := HO.out.1
        have hqo : q' < os.length := by omega
        have hrc := (HS9.out.row_cell 1 rfl q' (by omega)).1
        rw [shift_get os q' g hqo] at hrc
        have hst := HS9.out.row_cell 1 rfl (q' + 1) (by omega)
        have hst0 : ∃ u, ((os.take (q' + 1) ++ g :: os.drop (q' + 1)).map vN)[q' + 1]? = some u := ⟨_, List.getElem?_eq_getElem (by rw [List.length_map, put_len _ _ _ (by omega)]; omega)⟩
        obtain ⟨u, hu⟩ := hst0
        obtain ⟨hst1, hst2⟩ := hst
        rw [hu] at hst1
        have hS10 := HS9.out.row_set 1 rfl (q' + 1) (vN os[q'])
        rw [shift_set os q' g hqo] at hS10
        have hqe : (((q' + 1 : Nat) : Int)).toNat = q' + 1 := by omega
        unfold vN at hrc
        have hvn : vN os[q'] = .int .i64 (os[q'] : Int) := rfl
        rw [hvn] at hS10
        have HX : Hid (∃ x, x = os[q']) := ⟨_, rfl⟩
        generalize os[q'] = x at hrc hS10
        have HS10 := Lib.hid hS10
        clear hS10
        clear hu hvn HX
        go_wp2_with fail
        go_roundw
        case rel => exact ⟨q', x, by go_num, by omega, by omega, HS10.out⟩
        case measure => simp [intOf] <;> omega
       ·obtain rfl : q = a := by omega
        have hst := HS9.out.row_cell 1 rfl q (by omega)
        have hst0 : ∃ u, ((os.take q ++ g :: os.drop q).map vN)[q]? = some u := ⟨_, List.getElem?_eq_getElem (by rw [List.length_map, put_len _ _ _ (by have := HO.out.1; omega), HO.out.1]; omega)⟩
        obtain ⟨u, hu⟩ := hst0
        obtain ⟨hst1, hst2⟩ := hst
        rw [hu] at hst1
        have hS10 := HS9.out.row_set 1 rfl q (vN k)
        rw [end_set os q g k (by have := HO.out.1; omega)] at hS10
        unfold vN at hS10
        have HO10 : Hid ((os.take q ++ k :: os.drop q).length = n + 1 ∧ OrdTo l (k + 1) (os.take q ++ k :: os.drop q)) :=
         ⟨by rw [put_len _ _ _ (by have := HO.out.1; omega), HO.out.1], HO.out.2.put HW.out (by have := HO.out.1; omega) hcond.out HA.out⟩
        have hqq : ¬ (q : Int) < (q : Int) := by omega
        have HS10 := Lib.hid hS10
        clear hS10
        clear hu
        go_wp2_with fail
        go_roundw
        case rel => exact ⟨k + 1, n + 1, _, _, _, by omega, by omega, by go_num, rfl, HO10, HS10.out⟩
        case measure => simp [intOf]; omega
def IntsA (v : Value) (l : List Int) : Asn := ⟨fun F w => IntsAt F w v l, fun _ _ _ hs _ h => h.same hs⟩
def RefReplaySaid (n : Nat) (l : List Hist) (w : World) (e : Ending) (w' : World) : Prop :=
 Below w.heap.size w w' ∧
 ((replayCode n (ordP l) = 0 ∧ ∃ v, e = .returned (.tuple #[v, .int .i64 0]) ∧ RefIs (New w w') w' v (refAll (List.replicate n []) (ordP l))) ∨
  (replayCode n (ordP l) ≠ 0 ∧ e = .returned (.tuple #[.pointer none, .int .i64 (replayCode n (ordP l))])))
theorem Sep.fresh {W w : World} {L : List Asn} (h : Sep W (OldA W :: L) w) (i : Nat) {A : Asn} (hi : L[i]? = some A) : ∃ F, A.P F w ∧ ∀ k, F k → New W w k := by
 obtain ⟨F, G, h1, h2, hd, hF, _⟩ := h.two (i + 1) 0 (by omega) (A := A) (B := OldA W) hi rfl
 refine ⟨F, h1, fun k hk => ⟨?_, hF k hk⟩⟩
 rcases Nat.lt_or_ge k W.heap.size with hh | hh
 ·exact absurd (h2.1 k hh) (hd k hk)
 ·exact hh
theorem RefIs.wide {F F' : Nat → Prop} {w : World} {v : Value} {ls : List Bytes} (h : RefIs F w v ls) (hg : ∀ k, F k → F' k) : RefIs F' w v ls := h.mono hg
set_option maxRecDepth 100000 in
set_option maxHeartbeats 4000000 in
theorem refReplay_any (G : Nat → Prop) (n : Nat) (v : Value) (l : List Hist) (w : World) (h1 : 1 ≤ n) (h2 : n ≤ 1000000) (hG : Dom G w) (hv : HistsAt G w v l) (hl : l.length ≤ 1000) :
  Calls Tryz.prog 44 #[.int .i64 n, v] w (RefReplaySaid n l w) := by
 have hv' := hv
 obtain ⟨p, c, rfl, _⟩ := hv
 obtain ⟨b, o, hC⟩ := SlAt.one (E := histE G) (k := 7) hv'
 have hOl : ∀ k, G k → k < w.heap.size := hG
 have HV := Lib.hid hv'
 have HC := Lib.hid hC
 have HG := Lib.hid hOl
 clear hv' hC hOl hG
 go_enter Tryz.func44, Tryz.ntmps44
 go_wp2_with fail
 refine (refNew_any n _ h1 h2).mono ?_
 rintro e w1 ⟨vx, rfl, hx, hb1⟩
 have hS1 := (Sep.start w).new hb1 (RefA vx (List.replicate n [])) (fun _ h => h) hx
 obtain ⟨bx, gx, cx, vsx, rfl, _⟩ := hx
 have HV1 := Lib.hid (HistsAt.up HV.out hb1)
 have HS1 := Lib.hid hS1
 have HB1 := Lib.hid hb1
 clear hS1 hb1
 go_wp2_with fail
 refine (refOrder_any G _ l _ HV1.out hl).mono ?_
 rintro e w2 ⟨vo, rfl, hvo, hb2⟩
 have hS2 := (HS1.out).new hb2 (IntsA vo ((ordI l).map fun i : Nat => (i : Int))) (fun _ h => h) hvo
 obtain ⟨op, oc, rfl, ho1, ho2, _⟩ := hvo
 rw [List.length_map] at ho1
 rw [List.length_map] at hS2 ⊢
 have hol := ordI_len l
 have hpl := ordP_len l
 have HS2 := Lib.hid hS2
 have HB2 := Lib.hid hb2
 clear hS2 hb2
 go_wp2_with fail
 go_loopw [9] (fun i wr => ∃ k : Nat, k ≤ (ordI l).length ∧ i = .int .i64 k ∧ Hid (∀ p ∈ (ordP l).take k, runCode n p = 0) ∧ Hid (Sep w [OldA w, RefA (.pointer (some ⟨bx, 0, none⟩)) (refAll (List.replicate n []) ((ordP l).take k)), IntsA (.slice op (ordI l).length oc) ((ordI l).map fun i : Nat => (i : Int))] wr)) (fun i _ => (ordI l).length - (intOf i).toNat)
 case atStart => exact ⟨0, Nat.zero_le _, rfl, by unfold Hid; simp, HS2.out⟩
 case round =>
  obtain ⟨k, hk, rfl, HR, HS⟩ := hrel
  by_cases hlt : k < (ordI l).length
  case neg =>
   have hkl : k = (ordP l).length := by omega
   go_wp2
   go_ret2
   have hr := HR.out
   obtain ⟨F, hF, hN⟩ := Sep.fresh HS.out 0 rfl
   rw [hkl, List.take_length] at hr hF
   exact ⟨HS.out.old, Or.inl ⟨replay_ok.2 hr, _, rfl, hF.wide hN⟩⟩
  case pos =>
   obtain ⟨hxl, hpk, hpe⟩ := ordP_get hlt
   obtain ⟨F2, hF2, _⟩ := HS.out.get 2 rfl
   obtain ⟨p2, c2, he2, _, _, _, h24⟩ := hF2
   rw [List.length_map] at he2
   cases he2
   obtain ⟨ob, oo, rfl, _, hoc, _⟩ := h24 k (by rw [List.length_map]; exact hlt)
   rw [List.getElem_map, Nat.mul_one] at hoc
   obtain ⟨rfl, hGb, _, _, _, _, _, _, _, pv, hc6, hpd⟩ := HC.out _ hxl
   replace hc6 := cell_up HS.out.old hc6
   replace hpd := PutsAt.up hpd HS.out.old
   have htk := take_snoc (ordP l) k hpk
   rw [hpe] at htk
   have hdr := List.drop_eq_getElem_cons hpk
   rw [hpe] at hdr
   have hrd := replay_drop HR.out
   rw [hdr] at hrd
   have hpd0 := hpd
   obtain ⟨pp, pcx, rfl, hp1, hp2, hp3, hp4⟩ := hpd0
   clear hp1 hp2 hp3 hp4
   generalize l[(ordI l)[k]].puts = ps at *
   generalize (ordI l)[k] = x at *
   obtain ⟨F, G1, hF, hR, hFG, hdF, hdG, K⟩ := HS.out.at 1 rfl
   obtain ⟨F0, hF0, hO⟩ := hR 0 _ (by decide) rfl
   have hO1 := hO.1
   have hlen : (refAll (List.replicate n []) ((ordP l).take k)).length = n := by rw [refAll_len, List.length_replicate]
   have htx : TxAt G1 wr (.agg #[.int .i64 0, .slice pp ps.length pcx]) ⟨0, ps⟩ := ⟨_, rfl, i64_zero, hpd.mono fun q hq => hF0 q (hO1 q (HG.out q hq))⟩
   have hrun := refRun_any F G1 _ _ _ ⟨0, ps⟩ _ hF hdF (by rw [hlen]; exact h2) htx hdG hFG
   have HK := Lib.hid K
   have hxz : (x : Int) < (l.length : Int) := by omega
   have HRUN := Lib.hid hrun
   have HLEN := Lib.hid hlen
   have HTK := Lib.hid htk
   have HRD := Lib.hid hrd
   clear hrun hlen htk hrd
   clear K hR hF hO hpd htx hFG hdF hdG hF0 hO1 hdr hpe hpk h24
   by_cases hcode : runCode n ps = 0
   ·go_wp2_with fail
    refine (HRUN.out).mono ?_
    rintro e w4 ⟨rfl, hc4, hm4⟩
    rw [HLEN.out] at hm4 ⊢
    rw [hcode] at hm4 ⊢
    rw [if_pos rfl] at hm4
    have hS4 := HK.out w4 _ (RefA (.pointer (some ⟨bx, 0, none⟩)) (refPuts (refAll (List.replicate n []) ((ordP l).take k)) ps)) hc4 (fun k hk => hk) hm4
    rw [← refAll_snoc, ← HTK.out] at hS4
    have HR4 : Hid (∀ p ∈ (ordP l).take (k + 1), runCode n p = 0) := fun q hq => by
     rw [HTK.out] at hq
     rcases List.mem_append.1 hq with h | h
     ·exact HR.out q h
     ·rw [List.mem_singleton] at h; rw [h]; exact hcode
    have HS4 := Lib.hid hS4
    clear hS4
    clear hc4 hm4
    go_wp2_with fail
    go_roundw
    case rel => exact ⟨k + 1, by omega, by go_num, HR4, HS4.out⟩
    case measure => simp [intOf]; omega
   ·have hrc : replayCode n (ordP l) = runCode n ps := by rw [HRD.out]; unfold replayCode; rw [if_neg hcode]
    have hcz : (runCode n ps != 0) = true := by rw [bne_iff_ne]; exact hcode
    go_wp2_with fail
    refine (HRUN.out).mono ?_
    rintro e w4 ⟨rfl, hc4, hm4⟩
    rw [HLEN.out] at hm4 ⊢
    have hS4 := HK.out w4 _ TrueA hc4 (fun k hk => hk) trivial
    have HS4 := Lib.hid hS4
    have HRC := Lib.hid hrc
    clear hS4 hrc
    clear hc4 hm4
    go_wp2
    go_ret2
    exact ⟨HS4.out.old, Or.inr ⟨by rw [HRC.out]; exact hcode, by rw [HRC.out]; rfl⟩⟩
set_option maxRecDepth 100000 in
set_option maxHeartbeats 1000000 in
theorem refAll_any (F : Nat → Prop) (v : Value) (ls : List Bytes) (w : World) (hm : RefIs F w v ls) (hd : Dom F w) (hls : ls.length ≤ 1000000) :
  Calls Tryz.prog 47 #[v] w fun e w' => ∃ v', e = .returned v' ∧ PutsAt (Old w') w' v' (refAllTo ls ls.length) ∧ Below w.heap.size w w' := by
 obtain ⟨b, g, c, vs, rfl, h2, h3, h4, h5, h6⟩ := hm
 obtain ⟨i0, hp0, hp1, hp2, hp3⟩ := info_parts infoPut
 have hc0 : w.cell? ⟨b, 0, none⟩ = some (.slice (some ⟨g, 0, none⟩) ls.length c) := by rw [cell_row h4]; rfl
 have H4 := Lib.hid h4
 have H5 := Lib.hid h5
 have H6 := Lib.hid h6
 clear h4 h5 h6
 go_enter Tryz.func47, Tryz.ntmps47
 go_wp2_with fail
 go_loopw [3, 4] (fun out i wr => ∃ k : Nat, k ≤ ls.length ∧ i = .int .i64 k ∧ Hid (OutS 33 2 putR 0 wr out (refAllTo ls k) (fun q => F q ∧ q < w.heap.size)) ∧ (∀ q, out.ownBlock = some q → w.heap.size ≤ q) ∧ Below w.heap.size w wr) (fun _ i _ => ls.length - (intOf i).toNat)
 case atStart => exact ⟨0, by omega, rfl, by
  obtain ⟨css, a1, a2, a3, a4, a5⟩ := (OutS.nil (T := 33) (k := 2) (R := putR) (B := 0) (w := w))
  exact ⟨css, a1, a2, a3, fun i h h' => absurd h' (by simp [refAllTo]), fun q hq => ⟨Nat.zero_le _, hq.2, by simp [Value.ownBlock]⟩⟩, fun q hq => by simp [Value.ownBlock] at hq, Below.refl _ _⟩
 case round =>
  obtain ⟨k, hk, rfl, HO, hob, hbk⟩ := hrel
  have e0 := cell_up hbk hc0
  by_cases hlt : k < ls.length
  ·obtain ⟨dv, hdv, hdb⟩ := all2_at H6.out k hlt
   have hrow : w.cell? ⟨g, k, none⟩ = some dv := by rw [H5.out.cellAt k (by omega)]; exact hdv
   have hrow' := cell_up hbk hrow
   have hgd : ls.getD k [] = ls[k] := by simp [List.getD, hlt]
   have hsucc := refAllTo_succ ls k
   have hone : refOne ls k = if zero40 ls[k] then none else some ⟨k, ls[k]⟩ := by unfold refOne; rw [hgd]
   generalize ls[k] = d at hdb hone
   have hdb' := BytesAt.up hdb hbk
   obtain ⟨dp, dc, rfl⟩ := shape_of hdb rfl
   have HDB := Lib.hid hdb
   have HDB' := Lib.hid hdb'
   have HSUCC := Lib.hid hsucc
   have HONE := Lib.hid hone
   have HOB := Lib.hid hob
   clear hdb hdb' hsucc hone hob
   clear hdv hrow hgd
   go_wp2_with fail
   refine (blank_any _ _ d _ HDB'.out).mono ?_
   rintro e w' ⟨rfl, rfl⟩
   have hz : (d.all fun x => x == 0) = zero40 d := rfl
   rw [hz]
   clear hz
   cases hq : zero40 d with
   | true =>
    have HQ := Lib.hid hq
    clear hq
    go_wp2_with fail
    go_roundw
    case rel =>
     refine ⟨k + 1, by omega, by go_num, ?_, HOB.out, hbk⟩
     unfold Hid
     rw [HSUCC.out, HONE.out, if_pos HQ.out]
     simpa using HO.out
    case measure => simp [intOf]; omega
   | false =>
    have HQ := Lib.hid hq
    clear hq
    have hll2 := refAllTo_le ls k
    obtain ⟨css, q1, q2, q3, q4, q5⟩ := HO.out.up putR_stable (below_alloc wr (.cells #[.int .i64 (k : Int), .slice dp d.length dc] 33))
    generalize hll : (refAllTo ls k).length = ll at q3 hll2
    have HQ1 := Lib.hid q1
    have HQ2 := Lib.hid q2
    have HQ4 := Lib.hid q4
    have HQ5 := Lib.hid q5
    have HLL := Lib.hid hll
    have HLL2 := Lib.hid hll2
    clear q1 q2 q4 q5 hll hll2
    go_wp2_with (at_builtin; refine wpList_append_lies _ rfl _ _ 46 rfl 0 33 i0 (.agg #[.int .i64 0, .slice none 0 0]) 2 32 Tryz.underlying46 hp0 hp1 hp2 hp3 rfl (by decide) _ ll css.flatten rfl q3 ⟨wr.heap.size, 0, none⟩ 1 1 [.int .i64 (k : Int), .slice dp d.length dc] rfl rfl (World.news_of_block (cs := #[.int .i64 (k : Int), .slice dp d.length dc]) (heap_alloc_new wr _)) (by simp [Value.oneCell']) (by decide) (by have := HLL2.out; unfold maxLen; omega) (by have := HLL2.out; omega) (Nat.zero_le _) (wr.heap.size + 1) (by simp) ?_; intro gg cap w5 hown5 hgrow5 hat5 hlt5)
    have hz0 := hbk.size
    have hb5 : Below w.heap.size w w5 := ((hbk.alloc hz0 _)).grown hgrow5 (by simp; omega) (fun q hq => HOB.out q hq)
    go_roundw
    case rel =>
     refine ⟨k + 1, by omega, by go_num, ?_, fun q hq => ?_, hb5⟩
     ·unfold Hid
      rw [HSUCC.out, HONE.out, if_neg (by rw [HQ.out]; decide)]
      have hll := HLL.out
      subst hll
      have hg : wr.heap.size + 1 = (wr.alloc (.cells #[.int .i64 (k : Int), .slice dp d.length dc] 33)).heap.size := by simp
      have := OutS.snoc (v := u3) (D3 := fun q => F q ∧ q < w.heap.size) putR_stable HQ1.out HQ2.out HQ4.out HQ5.out (cs := [.int .i64 (k : Int), .slice dp d.length dc]) (x := ⟨(k : Int), d⟩) rfl ⟨_, rfl, by unfold I64; simp only; omega, ((BytesAt.up HDB'.out (below_alloc _ _)).mono fun q hq => ⟨hq.1, hd q hq.1⟩)⟩ (fun q hq => ⟨Nat.zero_le _, by simp; omega, fun e => by have := HOB.out q e; omega⟩) hown5 hgrow5 (hg ▸ hat5)
      obtain ⟨css', a1, a2, a3, a4, a5⟩ := this
      exact ⟨css', a1, a2, a3, fun i h h' => putR_stable _ _ _ _ _ _ (fun q hq => hq.elim id id) (Same.refl _ _) (a4 i h h'), fun q hq => a5 q (.inl hq)⟩
     ·simp [Value.ownBlock] at hq
      subst hq
      rcases hat5 with h | h
      ·exact HOB.out _ h
      ·omega
    case measure => simp [intOf]; omega
  ·have hkl : k = ls.length := by omega
   subst hkl
   go_wp2_with fail
   go_ret
   exact ⟨_, rfl, HO.out.puts fun q _ h2 => h2, hbk⟩
theorem refRun_sep {W w : World} {L : List Asn} (h : Sep W L w) (i : Nat) {v tv : Value} {ls : List Bytes} (hi : L[i]? = some (RefA v ls)) (hls : ls.length ≤ 1000000) (t : Tx) (ht : ∀ G, Sc.Rest L i G w → TxAt G w tv t) :
  Calls Tryz.prog 46 #[v, tv] w fun e w' => e = .returned (.int .i64 (runCode ls.length t.puts)) ∧ Hid (Sep W (L.set i (RefA v (if runCode ls.length t.puts = 0 then refPuts ls t.puts else ls))) w') := by
 obtain ⟨F, G, hF, hR, hFG, hdF, hdG, K⟩ := h.at i hi
 refine (refRun_any F G _ _ _ t _ hF hdF hls (ht G hR) hdG hFG).mono ?_
 rintro e w' ⟨rfl, hc, hm⟩
 exact ⟨rfl, K w' _ (RefA v (if runCode ls.length t.puts = 0 then refPuts ls t.puts else ls)) hc (fun k hk => hk) hm⟩
theorem refNew_sep {W w : World} {L : List Asn} (h : Sep W L w) (n : Nat) (h1 : 1 ≤ n) (h2 : n ≤ 1000000) :
  Calls Tryz.prog 45 #[.int .i64 n] w fun e w' => ∃ b : Nat, e = .returned (.tuple #[.pointer (some ⟨b, 0, none⟩), .int .i64 0]) ∧ Hid (Sep W (L ++ [RefA (.pointer (some ⟨b, 0, none⟩)) (List.replicate n [])]) w') := by
 refine (refNew_any n w h1 h2).mono ?_
 rintro e w' ⟨v, rfl, hm, hb⟩
 have := h.new hb (RefA v (List.replicate n [])) (fun _ h => h) hm
 obtain ⟨b, g, c, vs, rfl, _⟩ := hm
 exact ⟨b, rfl, this⟩
end Go.Proofs
namespace Go.Proofs
open Go.RowKit Sc
theorem ssz_atR {l : List Step23} {k : Nat} (h : k < l.length) : l[k].puts.length ≤ ssz23 l := by
 have h1 : ssz23 (l.take (k + 1)) = ssz23 (l.take k) + (psz l[k].puts + 3) := by
  unfold ssz23
  rw [take_snoc l k h, List.map_append, List.sum_append]; simp
 have h2 : ssz23 l = ssz23 (l.take (k + 1)) + ssz23 (l.drop (k + 1)) := by
  unfold ssz23
  rw [← List.sum_append, ← List.map_append, List.take_append_drop]
 have h3 : l[k].puts.length ≤ psz l[k].puts := by unfold psz; omega
 omega
def RpK (k n : Nat) (s : MgS) : Prop := MgG (128 * k) s ∧ s.out ≤ 8 ∧ s.blocks = 20 ∧ s.txs.length ≤ n ∧ TmOk s ∧ ∃ O, RpJ s O
theorem RpK.start : RpK 0 0 (mgNew 20 0) := ⟨MgG.new (by omega) (by omega) (by omega) (by omega), by show (0 : Int) ≤ 8; omega, rfl, Nat.le_refl _, (fun t ht => by cases ht), [], RpJ.start 20 0⟩
theorem RpK.step {k n : Nat} {s : MgS} (h : RpK k n s) (hk : k ≤ 150) (x : Step23) : RpK (k + 1) (if x.kind = 1 then n + 1 else n) (stDo s x) := by
 obtain ⟨g, h8, hb, hn, ht, O, hO⟩ := h
 obtain ⟨a1, a2⟩ := stDo_good g h8 (by omega) x
 obtain ⟨b1, b2⟩ := stDo_count g x
 refine ⟨a1.mono (by omega), a2, b1.trans hb, ?_, ht.step g x, hO.stDo g x⟩
 split at b2 <;> rename_i hx
 ·rw [if_pos hx]; omega
 ·rw [if_neg hx]; omega
set_option maxRecDepth 100000 in
set_option maxHeartbeats 16000000 in
theorem replay23_any (v : Value) (l : List Step23) (w : World) (hv : Steps23 (Old w) w v l) : Calls Tryz.prog 15 #[v] w (Tru w) := by
 have hsm := small23_any (Old w) v l w (fun b hb => hb) hv
 obtain ⟨p, cp, rfl, _, _, _, g4⟩ := hv
 have HSM := Lib.hid hsm
 have HG4 := Lib.hid g4
 clear hsm g4
 go_enter Tryz.func15, Tryz.ntmps15
 go_wp2_with fail
 refine (HSM.out).mono ?_
 rintro e w1 ⟨q, rfl, hq, hb1⟩
 have HB1 := Lib.hid hb1
 clear hb1
 cases q with
 | false =>
  go_wp2_with fail
  refine (awake23 _).mono ?_
  rintro e w2 ⟨rfl, hb2⟩
  have HB2 := Lib.hid (Below.up HB1.out hb2)
  go_wp2
  go_ret
  exact ⟨rfl, HB2.out⟩
 | true =>
 have hlen := (hq rfl).2
 have HQ := Lib.hid hq
 clear hq HSM
 have HS0 := Lib.hid ((Sep.start w).up HB1.out)
 go_wp2_with fail
 refine (mgrNew_sep HS0 20 0 (by omega) (by omega) (by omega) (by omega)).mono ?_
 rintro e w3 ⟨m, rfl, HS3⟩
 clear HS0
 go_wp2_with fail
 refine (rmgrNew_sep HS3 20 0 (by omega) (by omega) (by omega) (by omega)).mono ?_
 rintro e w4 ⟨r, rfl, HS4⟩
 have HS4 : Hid (Sep w [OldA w, MgrA (pt m) (mgNew 20 0), RMgrA (pt r) (mgNew 20 0)] w4) := HS4
 have HG1 : Hid (RpK 0 0 (mgNew 20 0)) := RpK.start
 clear HS3
 generalize mgNew 20 0 = S0 at *
 go_wp2_with fail
 go_loopw [7, 8] (fun s9 s10 wr => ∃ k n : Nat, ∃ s : MgS, k ≤ l.length ∧ n ≤ k ∧ s10 = .int .i64 (k : Int) ∧ s9 = .int .i64 (n : Int) ∧ Hid (RpK k n s) ∧ Hid (Sep w [OldA w, MgrA (pt m) s, RMgrA (pt r) s] wr)) (fun _ s10 _ => l.length - (intOf s10).toNat)
 case atStart => exact ⟨0, 0, S0, Nat.zero_le _, Nat.le_refl _, by go_num, by go_num, HG1, HS4⟩
 case round =>
  obtain ⟨k, n, s, hk, hnk, rfl, rfl, HG, HS⟩ := hrel
  clear HG1 HS4
  by_cases hlt : k < l.length
  case pos =>
   have hki : (k : Int) < (l.length : Int) := by omega
   obtain ⟨b, o, rfl, hb, hc0, ik, hc1, ih, hc2, hc3, ie1, ie2, ⟨pv, hc4, hp⟩, hc5, in5⟩ := HG4.out k hlt
   have hbw := HS.out.old
   have hc0' := cell_up hbw hc0
   have hc1' := cell_up hbw hc1
   have hc2' := cell_up hbw hc2
   have hc3' := cell_up hbw hc3
   have hc4' := cell_up hbw hc4
   have hc5' := cell_up hbw hc5
   have hpl := ssz_atR hlt
   generalize l[k] = x at hpl hc0 ik hc1 ih hc2 hc3 ie1 ie2 hc4 hp hc5 in5 hc0' hc1' hc2' hc3' hc4' hc5'
   obtain ⟨kd, hh, ⟨xf, xl⟩, ps, nn⟩ := x
   clear hc1 hc2 hc3 hc4 hc5 hbw
   obtain ⟨pp, pc, rfl⟩ : ∃ pp pc, pv = .slice pp ps.length pc := putsAt_shape hp
   have hpl' : ps.length ≤ 400000 := by have := (HQ.out trivial).1; exact Nat.le_trans hpl (by omega)
   simp only at hc0' hc1' hc2' hc3' hc4' hc5' hc0
   have HD := Lib.hid (does23_any HS HG.out.1 HG.out.2.1 (by omega) kd hh xf xl nn pp pc ps hp ih ie1 ie2 hpl')
   have HST := Lib.hid (HG.out.step (by omega) ⟨kd, hh, ⟨xf, xl⟩, ps, nn⟩)
   have HC0 := Lib.hid hc0
   clear hp hpl hpl' ik ih ie1 ie2 in5 hc0 HS
   go_wp2_with fail
   refine (HD.out).mono ?_
   rintro e w7 ⟨rfl, HS7⟩
   generalize stDo s ⟨kd, hh, ⟨xf, xl⟩, ps, nn⟩ = s2 at *
   have y0 := cell_up HS7.out.old HC0.out
   clear HD hc0' hc1' hc2' hc3' hc4' hc5'
   by_cases hkd : kd = 1
   case pos =>
    have HST' : Hid (RpK (k + 1) (n + 1) s2) := by have := HST.out; rw [if_pos hkd] at this; exact this
    subst hkd
    clear HST
    go_wp2_with fail
    go_roundw
    case rel => exact ⟨k + 1, n + 1, s2, by omega, by omega, by go_num, by go_num, HST', HS7⟩
    case measure => simp [intOf]; omega
   case neg =>
    have HST' : Hid (RpK (k + 1) n s2) := by have := HST.out; rw [if_neg hkd] at this; exact this
    have hkb : (kd == 1) = false := by rw [beq_eq_false_iff_ne]; exact hkd
    clear hkd HST
    go_wp2_with fail
    go_roundw
    case rel => exact ⟨k + 1, n, s2, by omega, by omega, by go_num, by go_num, HST', HS7⟩
    case measure => simp [intOf]; omega
  case neg =>
   obtain rfl : k = l.length := by omega
   have hki : ¬ ((l.length : Int) < (l.length : Int)) := by omega
   have hn150 : n ≤ 150 := by omega
   obtain ⟨hg0, _, hb20, hcn, htm, O, hO⟩ := HG.out
   have HGN : Hid (MgG 20000 s) := hg0.mono (by omega)
   have HLAW := Lib.hid (hO.law hg0 hb20 hcn)
   have HI : Hid (∀ j : Nat, I64 (histOf (txAt s.txs ((j : Int) + 1))).state ∧ I64 (histOf (txAt s.txs ((j : Int) + 1))).begun ∧ I64 (histOf (txAt s.txs ((j : Int) + 1))).time ∧ I64 (histOf (txAt s.txs ((j : Int) + 1))).since ∧ I64 (histOf (txAt s.txs ((j : Int) + 1))).upto) := fun j => hist_i64 htm hg0 _
   have HS2 : Hid (Sep w [OldA w, MgrA (pt m) s, DatHs [] (hsL s 0), RowA 73 7 (.slice none 0 0) 0 ([] : List (List Value)).flatten] wr) := ((HS.out.take 2).new (Below.refl _ _) (DatHs [] []) (F := fun _ => False) (fun _ h => h.elim) trivial).new (Below.refl _ _) (RowA 73 7 (.slice none 0 0) 0 []) (F := fun _ => False) (fun _ h => h.elim) ⟨World.ownsRow_nil _ _ _ _, by simp [Value.ownBlock]⟩
   obtain ⟨w9, rfl⟩ : ∃ w9 : World, w9 = wr := ⟨_, rfl⟩
   clear HG hlt hk HS hnk HQ hg0 hb20 hcn htm hO
   go_wp2_with fail
   clear hki
   go_loopw [9, 10] (fun s11 s12 wr => ∃ k : Nat, ∃ css pr cr, k ≤ n ∧ s12 = .int .i64 ((k : Int) + 1) ∧ s11 = .slice pr k cr ∧ Hid (Sep w [OldA w, MgrA (pt m) s, DatHs css (hsL s k), RowA 73 7 (.slice pr k cr) k css.flatten] wr)) (fun _ s12 _ => n + 1 - (intOf s12).toNat)
   case atStart => exact ⟨0, [], none, 0, Nat.zero_le _, by go_num, rfl, HS2⟩
   case round =>
    clear HS2
    obtain ⟨k, css, pr, cr, hk, rfl, rfl, HS⟩ := hrel
    by_cases hlt : k < n
    case pos =>
     have hki : (k : Int) + 1 ≤ (n : Int) := by omega
     have HH := Lib.hid (mgHistory_all HS 1 rfl HGN.out (by omega) (hd := (k : Int) + 1) (by omega))
     go_wp2_with fail
     refine (HH.out).mono ?_
     rintro e w10 ⟨rp, rc, pp, pc, rfl, hS7⟩
     have hS8 := Sep.hist_join (L := [OldA w, MgrA (pt m) s, DatHs css (hsL s k), RowA 73 7 (.slice pr k cr) k css.flatten]) hS7.out 2 rfl (histOf (txAt s.txs ((k : Int) + 1))) rfl rfl (HI.out k)
     rw [← hsL_succ] at hS8
     generalize hcs : [Value.int .i64 (histOf (txAt s.txs ((k : Int) + 1))).state, .int .i64 (histOf (txAt s.txs ((k : Int) + 1))).begun, .int .i64 (histOf (txAt s.txs ((k : Int) + 1))).time, .int .i64 (histOf (txAt s.txs ((k : Int) + 1))).since, .int .i64 (histOf (txAt s.txs ((k : Int) + 1))).upto, .slice rp (txAt s.txs ((k : Int) + 1)).R.length rc, .slice pp (txAt s.txs ((k : Int) + 1)).buf.length pc] = cs at hS8
     have HCS : Hid ([Value.int .i64 (txAt s.txs ((k : Int) + 1)).st, .int .i64 (txAt s.txs ((k : Int) + 1)).at', .int .i64 (txAt s.txs ((k : Int) + 1)).tm, .int .i64 0, .int .i64 0, .slice rp (txAt s.txs ((k : Int) + 1)).R.length rc, .slice pp (txAt s.txs ((k : Int) + 1)).buf.length pc] = cs) := hcs
     have HS8 : Hid (Sep w [OldA w, MgrA (pt m) s, DatHs (css ++ [cs]) (hsL s (k + 1)), RowA 73 7 (.slice pr k cr) k css.flatten] w10) := hS8
     clear hS7 hS8 hcs HH HS
     unfold histV
     generalize (txAt s.txs ((k : Int) + 1)).st = t0 at *
     generalize (txAt s.txs ((k : Int) + 1)).at' = t1 at *
     generalize (txAt s.txs ((k : Int) + 1)).tm = t2 at *
     generalize (txAt s.txs ((k : Int) + 1)).R.length = rn at *
     generalize (txAt s.txs ((k : Int) + 1)).buf.length = bn at *
     obtain ⟨FA, hFA, _⟩ := HS8.out.get 3 rfl
     have hrowA := hFA.1
     obtain ⟨iiA, hiiA, hizA, hiyA, hixA⟩ := info_parts infoHistR
     have HROWA := Lib.hid hrowA
     clear hFA hrowA
     go_wp2_with (at_builtin; refine wpList_append_lies _ rfl _ _ 82 rfl 0 73 iiA (.agg #[.int .i64 0, .int .i64 0, .int .i64 0, .int .i64 0, .int .i64 0, .slice none 0 0, .slice none 0 0]) 7 88 Tryz.underlying82 hiiA hizA hiyA hixA rfl (by decide) _ (k) (css.flatten) rfl (HROWA.out.alloc _) ⟨w10.heap.size, 0, none⟩ 1 1 [.int .i64 t0, .int .i64 t1, .int .i64 t2, .int .i64 0, .int .i64 0, .slice rp rn rc, .slice pp bn pc] rfl rfl (World.news_of_block (cs := #[.int .i64 t0, .int .i64 t1, .int .i64 t2, .int .i64 0, .int .i64 0, .slice rp rn rc, .slice pp bn pc]) (heap_alloc_new w10 _)) (by simp [Value.oneCell']) (by decide) (by unfold maxLen; omega) (by omega) (Nat.zero_le _) (w10.heap.size + 1) (by simp) ?_; intro gA cA wA hownA hgrowA hatA hltA)
     have hSA := HS8.out.row_app 3 rfl (below_alloc _ _) hownA hgrowA hatA (by simp) hltA
     clear hownA hgrowA hatA hltA hiiA hizA hiyA hixA
     rw [HCS.out] at hSA
     have HSA : Hid (Sep w [OldA w, MgrA (pt m) s, DatHs (css ++ [cs]) (hsL s (k + 1)), RowA 73 7 (.slice (some ⟨gA, 0, none⟩) (k + 1) cA) (k + 1) (css ++ [cs]).flatten] wA) := by
      rw [List.flatten_append, List.flatten_singleton]
      exact hSA
     clear hSA HCS HS8
     go_wp2_with fail
     go_roundw
     case rel => exact ⟨k + 1, css ++ [cs], _, _, by omega, by go_num, rfl, HSA⟩
     case measure => simp [intOf]; omega
    case neg =>
     obtain rfl : k = n := by omega
     have hki : ¬ ((k : Int) + 1 ≤ (k : Int)) := by omega
     obtain ⟨w11, rfl⟩ : ∃ w11 : World, w11 = wr := ⟨_, rfl⟩
     obtain ⟨F2, hF2, hD2⟩ := HS.out.get 2 rfl
     obtain ⟨F3, hF3, hD3⟩ := HS.out.get 3 rfl
     have hh := hists_row (G := fun q => q < w11.heap.size) hF3 hF2 (hsL_len s k) hD3 hD2
     obtain ⟨hl1, hl2, hl3⟩ := HLAW.out
     have HRP := Lib.hid (refReplay_any (fun q => q < w11.heap.size) 20 (.slice pr k cr) (hsL s k) w11 (by omega) (by omega) (fun _ h => h) hh (by rw [hsL_len]; omega))
     have HL1 := Lib.hid hl1
     have HL2 := Lib.hid hl2
     have HL3 := Lib.hid hl3
     clear hF2 hD2 hF3 hD3 hh hl1 hl2 hl3 HLAW
     go_wp2_with fail
     refine (HRP.out).mono ?_
     rintro e w12 ⟨hb12, hr12⟩
     rcases hr12 with ⟨_, vr, rfl, hx12⟩ | ⟨hbad, _⟩
     case inr => exact absurd HL1.out hbad
     have hs12 := (HS.out.take 2).new hb12 (RefA vr (refAll (List.replicate 20 []) (ordP (hsL s k)))) (fun _ h => h) hx12
     obtain ⟨rb, rg, rcc, rvs, rfl, _⟩ := hx12
     have HS12 : Hid (Sep w [OldA w, MgrA (pt m) s, RefA (pt rb) (refAll (List.replicate 20 []) (ordP (hsL s k)))] w12) := hs12
     have HNW := Lib.hid (refNew_sep HS12.out 20 (by omega) (by omega))
     clear hs12 hb12 HRP HS HL1
     go_wp2_with fail
     refine (HNW.out).mono ?_
     rintro e w13 ⟨yb, rfl, hS13⟩
     have HS13 : Hid (Sep w [OldA w, MgrA (pt m) s, RefA (pt rb) (refAll (List.replicate 20 []) (ordP (hsL s k))), RefA (pt yb) (List.replicate 20 [])] w13) := hS13
     have HDU := Lib.hid (mgDump_sep HS13 1 rfl HGN.out (by omega))
     clear hS13 HNW HS12
     go_wp2_with fail
     refine (HDU.out).mono ?_
     rintro e w14 ⟨dp, dc, rfl, hpw, hb14⟩
     have HS14 : Hid (Sep w [OldA w, MgrA (pt m) s, RefA (pt rb) (refAll (List.replicate 20 []) (ordP (hsL s k))), RefA (pt yb) (List.replicate 20 []), PutsWA (.slice dp (dumpV s.vs).length dc) (dumpV s.vs)] w14) := HS13.out.new hb14.out (PutsWA (.slice dp (dumpV s.vs).length dc) (dumpV s.vs)) (fun _ h => h) hpw.out
     have hrun := refRun_sep HS14.out 3 rfl (by rw [List.length_replicate]; omega) ⟨0, dumpV s.vs⟩ (tv := .agg #[.int .i64 0, .slice dp (dumpV s.vs).length dc]) (fun G hR => by
      obtain ⟨F0, hF0, hO⟩ := hR 4 _ (by decide) rfl
      exact ⟨_, rfl, i64_zero, (PutsW.puts hO).mono hF0⟩)
     rw [List.length_replicate] at hrun
     have hrun2 : Calls Tryz.prog 46 #[pt yb, .agg #[.int .i64 0, .slice dp (dumpV s.vs).length dc]] w14 fun e w' => e = .returned (.int .i64 0) ∧ Hid (Sep w [OldA w, MgrA (pt m) s, RefA (pt rb) (refAll (List.replicate 20 []) (ordP (hsL s k))), RefA (pt yb) (refPuts (List.replicate 20 []) (dumpV s.vs)), PutsWA (.slice dp (dumpV s.vs).length dc) (dumpV s.vs)] w') := hrun.mono fun e w' ⟨h1, h2⟩ => by
      rw [HL2.out] at h1 h2
      rw [if_pos rfl] at h2
      exact ⟨h1, h2⟩
     have HRUN := Lib.hid hrun2
     clear hrun hrun2 hpw hb14 HDU HS13
     generalize (dumpV s.vs).length = dn at *
     go_wp2_with fail
     refine (HRUN.out).mono ?_
     rintro e w15 ⟨rfl, HS15⟩
     clear HRUN HS14
     generalize hA : refPuts (List.replicate 20 []) (dumpV s.vs) = lsA at *
     generalize hB : refAll (List.replicate 20 []) (ordP (hsL s k)) = lsB at *
     have hlA : lsA.length = 20 := by rw [← hA, refPuts_length, List.length_replicate]
     have hlB : lsB.length = 20 := by rw [← hB, refAll_len, List.length_replicate]
     clear hA hB
     obtain ⟨FA, hFA, hDA⟩ := HS15.out.get 3 rfl
     have hall := Go.Proofs.refAll_any FA (pt yb) lsA w15 hFA hDA (by omega)
     rw [hlA] at hall
     have HALL := Lib.hid hall
     have HLB := Lib.hid hlB
     clear hFA hDA hall hlA hlB
     go_wp2_with fail
     refine (HALL.out).mono ?_
     rintro e w16 ⟨va, rfl, hva, hb16⟩
     have HS16 := Lib.hid (HS15.out.up hb16)
     obtain ⟨FB, hFB, hDB⟩ := HS16.out.get 2 rfl
     have hall2 := Go.Proofs.refAll_any FB (pt rb) lsB w16 hFB hDB (by have := HLB.out; omega)
     rw [HLB.out, ← HL3.out] at hall2
     have HALL2 := Lib.hid hall2
     have HVA := Lib.hid hva
     clear hFB hDB hall2 hva hb16 HALL HS15
     go_wp2_with fail
     refine (HALL2.out).mono ?_
     rintro e w17 ⟨vb, rfl, hvb, hb17⟩
     have HS17 := Lib.hid (HS16.out.up hb17)
     have hsp := samePuts_any (Old w17) va vb (refAllTo lsA 20) (refAllTo lsA 20) w17 (fun k hk => hk) ((PutsAt.up HVA.out hb17).mono fun q hq => Nat.lt_of_lt_of_le hq hb17.size) hvb
     rw [samePuts_iff.2 rfl] at hsp
     have HSP := Lib.hid hsp
     clear hsp hvb hb17 HALL2 HVA HS16
     go_wp2_with fail
     refine (HSP.out).mono ?_
     rintro e w18 ⟨rfl, hb18⟩
     have HB18 := Lib.hid ((HS17.out.up hb18).old)
     clear hb18 HSP
     go_wp2_with fail
     refine (awake23 _).mono ?_
     rintro e w19 ⟨rfl, hb19⟩
     have HB19 := Lib.hid (Below.up HB18.out hb19)
     clear hb19
     go_wp2
     go_ret
     exact ⟨rfl, HB19.out⟩
end Go.Proofs