/- Texts of this claim, one behind the other: Find28, May28, Clash28, Saw28Plain, StabLay, SwapRangeK, RotateK, SymMergeK, StableK, SortHist, ReplayHc, L22. -/
import Derived.Deep.RegionLaw
import Derived.Deep.DeepCutAuto
import Derived.Deep.CutRange
import Derived.Test.YtjomlcemnbfnfaaChecked
import Derived.Shelf.SlSortCmp.KitK
import Derived.Sort.WalkB2
import Derived.Sort.WalkB12
import Derived.Deep.LoopGhost
import Derived.Lib.Hide
import Derived.Test.YtjomlcemnbfnfaaAu3

/- slices.IndexFunc and slices.ContainsFunc at histories, numbers and reads. -/
namespace Go.Proofs
open Go.RowKit Sc

def histV (G : Nat → Prop) (w : World) (v : Value) (x : Hist) : Prop := ∃ rp rc pp pc, v = .agg #[.int .i64 x.state, .int .i64 x.begun, .int .i64 x.time, .int .i64 x.since, .int .i64 x.upto, .slice rp x.reads.length rc, .slice pp x.puts.length pc] ∧ (I64 x.state ∧ I64 x.begun ∧ I64 x.time ∧ I64 x.since ∧ I64 x.upto) ∧ ReadsAt G w (.slice rp x.reads.length rc) x.reads ∧ PutsAt G w (.slice pp x.puts.length pc) x.puts
theorem histV.same {G : Nat → Prop} {w w' : World} {v : Value} {x : Hist} (h : histV G w v x) (hs : Same G w w') : histV G w' v x := let ⟨a, b, c, d, h1, h2, h3, h4⟩ := h; ⟨a, b, c, d, h1, h2, h3.same hs, h4.same hs⟩
def readV (G : Nat → Prop) (w : World) (v : Value) (x : Sc.Read) : Prop := ∃ dp dc, v = .agg #[.int .i64 x.lba, .slice dp x.data.length dc, .bool x.own] ∧ I64 x.lba ∧ BytesAt G w (.slice dp x.data.length dc) x.data
def intV (_ : Nat → Prop) (_ : World) (v : Value) (x : Int) : Prop := v = .int .i64 x ∧ I64 x

set_option maxRecDepth 100000 in
set_option maxHeartbeats 1000000 in
theorem idxHist_any (G : Nat → Prop) (v : Value) (l : List Hist) (p : Hist → Bool) (g : Nat) (cb : Array Value) (eg : ∀ args w, (callFunc g args).run Try.prog w = .ok (.enter g args) w) (w : World)
    (hG : Dom G w) (hv : HistsAt G w v l)
    (hf : ∀ i (h : i < l.length) W ev, Below w.heap.size w W → histV G W ev l[i] → Calls Try.prog g (#[ev] ++ cb) W fun e w' => e = .returned (.bool (p l[i])) ∧ Below W.heap.size W w') :
    Calls Try.prog 56 #[v, .func (.func g) #[] cb] w fun e w' => e = .returned (.int .i64 (idxOf p l)) ∧ Below w.heap.size w w' := by
  obtain ⟨ptr, c, rfl, h1, h2, h3, h4⟩ := hv
  have H4 := Lib.hid h4
  have HF := Lib.hid hf
  clear h4 hf h3
  go_enter Try.func56, Try.ntmps56
  go_wp2
  go_loopg [5, 8] l.length (fun gg _ s8 wr => ∃ k : Nat, k ≤ l.length ∧ l.length - k ≤ gg ∧ s8 = .int .i64 k ∧ Hid (Below w.heap.size w wr) ∧ Hid (∀ j (h : j < k) (h' : j < l.length), p l[j] = false))
  case atStart => exact ⟨0, Nat.zero_le _, by omega, rfl, Below.refl _ w, fun j hj => absurd hj (Nat.not_lt_zero _)⟩
  case round =>
    obtain ⟨k, hk, hg, rfl, BW, A⟩ := hrel
    by_cases hlt : k < l.length
    · obtain ⟨b, o, rfl, hb, hc0, hc1, hc2, hc3, hc4, hi, ⟨rv, hc5, hrd⟩, pv, hc6, hpd⟩ := H4.out k hlt
      have hrd0 := hrd
      have hpd0 := hpd
      obtain ⟨rp, rc, rfl, -⟩ := hrd0
      obtain ⟨pp, pc, rfl, -⟩ := hpd0
      have hbl := World.block_lt_of_cell? w _ hc0
      have hc0' := (BW.out.cell (p := ⟨b, o + k * 7, none⟩) hbl).trans hc0
      have hc1' := (BW.out.cell (p := ⟨b, o + k * 7 + 1, none⟩) hbl).trans hc1
      have hc2' := (BW.out.cell (p := ⟨b, o + k * 7 + 2, none⟩) hbl).trans hc2
      have hc3' := (BW.out.cell (p := ⟨b, o + k * 7 + 3, none⟩) hbl).trans hc3
      have hc4' := (BW.out.cell (p := ⟨b, o + k * 7 + 4, none⟩) hbl).trans hc4
      have hc5' := (BW.out.cell (p := ⟨b, o + k * 7 + 5, none⟩) hbl).trans hc5
      have hc6' := (BW.out.cell (p := ⟨b, o + k * 7 + 6, none⟩) hbl).trans hc6
      have hcall := HF.out k hlt wr (.agg #[.int .i64 l[k].state, .int .i64 l[k].begun, .int .i64 l[k].time, .int .i64 l[k].since, .int .i64 l[k].upto, .slice rp l[k].reads.length rc, .slice pp l[k].puts.length pc]) BW.out (⟨rp, rc, pp, pc, rfl, hi, hrd.same (hG.same BW.out), hpd.same (hG.same BW.out)⟩)
      generalize l[k].state = st at hcall hc0'
      generalize l[k].begun = bg at hcall hc1'
      generalize l[k].time = tm at hcall hc2'
      generalize l[k].since = fr at hcall hc3'
      generalize l[k].upto = up at hcall hc4'
      generalize l[k].reads.length = rn at hcall hc5'
      generalize l[k].puts.length = pn at hcall hc6'
      generalize hy : l[k] = y at hcall
      have B := Lib.hid hy
      clear hy hrd hpd hi hb hc0 hc1 hc2 hc3 hc4 hc5 hc6
      cases hq : p y with
      | true =>
        rw [hq] at hcall
        have HQ := Lib.hid hq
        have HC := Lib.hid hcall
        clear hq hcall
        go_wp2_with (go_at_fn g; refine (HC.out).mono ?_; rintro e w' ⟨rfl, hb'⟩)
        go_ret
        refine ⟨?_, BW.out.trans (hb'.mono BW.out.size)⟩
        rw [idxOf_hit hlt (by rw [B.out]; exact HQ.out) (fun j hj => A.out j hj (by omega))]
        rfl
      | false =>
        rw [hq] at hcall
        have HQ := Lib.hid hq
        have HC := Lib.hid hcall
        clear hq hcall
        go_wp2_with (go_at_fn g; refine (HC.out).mono ?_; rintro e w' ⟨rfl, hb'⟩)
        go_roundg (l.length - (k + 1))
        case measure => omega
        case rel =>
          refine ⟨k + 1, by omega, by omega, by go_num, BW.out.trans (hb'.mono BW.out.size), fun j hj hj' => ?_⟩
          by_cases e : j = k
          · subst e; rw [B.out]; exact HQ.out
          · exact A.out j (by omega) hj'
    · have hkl : k = l.length := by omega
      have HK := Lib.hid hkl
      clear hkl
      go_wp2
      go_ret
      refine ⟨?_, BW.out⟩
      rw [idxOf_miss (fun j hj => A.out j (by have := HK.out; omega) hj)]
      rfl
set_option maxRecDepth 100000 in
set_option maxHeartbeats 1000000 in
theorem idxInt_any (G : Nat → Prop) (v : Value) (l : List Int) (p : Int → Bool) (g : Nat) (cb : Array Value) (eg : ∀ args w, (callFunc g args).run Try.prog w = .ok (.enter g args) w) (w : World)
    (_hG : Dom G w) (hv : IntsAt G w v l)
    (hf : ∀ i (h : i < l.length) W ev, Below w.heap.size w W → intV G W ev l[i] → Calls Try.prog g (#[ev] ++ cb) W fun e w' => e = .returned (.bool (p l[i])) ∧ Below W.heap.size W w') :
    Calls Try.prog 88 #[v, .func (.func g) #[] cb] w fun e w' => e = .returned (.int .i64 (idxOf p l)) ∧ Below w.heap.size w w' := by
  obtain ⟨ptr, c, rfl, h1, h2, h3, h4⟩ := hv
  have H4 := Lib.hid h4
  have HF := Lib.hid hf
  clear h4 hf h3
  go_enter Try.func88, Try.ntmps88
  go_wp2
  go_loopg [5, 8] l.length (fun gg _ s8 wr => ∃ k : Nat, k ≤ l.length ∧ l.length - k ≤ gg ∧ s8 = .int .i64 k ∧ Hid (Below w.heap.size w wr) ∧ Hid (∀ j (h : j < k) (h' : j < l.length), p l[j] = false))
  case atStart => exact ⟨0, Nat.zero_le _, by omega, rfl, Below.refl _ w, fun j hj => absurd hj (Nat.not_lt_zero _)⟩
  case round =>
    obtain ⟨k, hk, hg, rfl, BW, A⟩ := hrel
    by_cases hlt : k < l.length
    · obtain ⟨b, o, rfl, hb, hc0, hi⟩ := H4.out k hlt
      rw [Nat.mul_one] at hc0
      have hbl := World.block_lt_of_cell? w _ hc0
      have hc0' := (BW.out.cell (p := ⟨b, o + k, none⟩) hbl).trans hc0
      have hcall := HF.out k hlt wr (.int .i64 l[k]) BW.out (⟨rfl, hi⟩)

      generalize hy : l[k] = y at hcall hc0'
      have B := Lib.hid hy
      clear hy hi hb hc0
      cases hq : p y with
      | true =>
        rw [hq] at hcall
        have HQ := Lib.hid hq
        have HC := Lib.hid hcall
        clear hq hcall
        go_wp2_with (go_at_fn g; refine (HC.out).mono ?_; rintro e w' ⟨rfl, hb'⟩)
        go_ret
        refine ⟨?_, BW.out.trans (hb'.mono BW.out.size)⟩
        rw [idxOf_hit hlt (by rw [B.out]; exact HQ.out) (fun j hj => A.out j hj (by omega))]
        rfl
      | false =>
        rw [hq] at hcall
        have HQ := Lib.hid hq
        have HC := Lib.hid hcall
        clear hq hcall
        go_wp2_with (go_at_fn g; refine (HC.out).mono ?_; rintro e w' ⟨rfl, hb'⟩)
        go_roundg (l.length - (k + 1))
        case measure => omega
        case rel =>
          refine ⟨k + 1, by omega, by omega, by go_num, BW.out.trans (hb'.mono BW.out.size), fun j hj hj' => ?_⟩
          by_cases e : j = k
          · subst e; rw [B.out]; exact HQ.out
          · exact A.out j (by omega) hj'
    · have hkl : k = l.length := by omega
      have HK := Lib.hid hkl
      clear hkl
      go_wp2
      go_ret
      refine ⟨?_, BW.out⟩
      rw [idxOf_miss (fun j hj => A.out j (by have := HK.out; omega) hj)]
      rfl
theorem anyInt_any (G : Nat → Prop) (v : Value) (l : List Int) (p : Int → Bool) (g : Nat) (cb : Array Value) (eg : ∀ args w, (callFunc g args).run Try.prog w = .ok (.enter g args) w) (w : World)
    (hG : Dom G w) (hv : IntsAt G w v l)
    (hf : ∀ i (h : i < l.length) W ev, Below w.heap.size w W → intV G W ev l[i] → Calls Try.prog g (#[ev] ++ cb) W fun e w' => e = .returned (.bool (p l[i])) ∧ Below W.heap.size W w') :
    Calls Try.prog 74 #[v, .func (.func g) #[] cb] w fun e w' => e = .returned (.bool (l.any p)) ∧ Below w.heap.size w w' := by
  rw [← idxOf_nonneg]
  go_enter Try.func74, Try.ntmps74
  go_wp2_with (go_at_call 88; refine (idxInt_any G v l p g cb eg _ hG hv hf).mono ?_; rintro e w' ⟨rfl, hb'⟩)
  go_ret
  exact ⟨rfl, hb'⟩
set_option maxRecDepth 100000 in
set_option maxHeartbeats 1000000 in
theorem idxRead_any (G : Nat → Prop) (v : Value) (l : List Sc.Read) (p : Sc.Read → Bool) (g : Nat) (cb : Array Value) (eg : ∀ args w, (callFunc g args).run Try.prog w = .ok (.enter g args) w) (w : World)
    (hG : Dom G w) (hv : ReadsAt G w v l)
    (hf : ∀ i (h : i < l.length) W ev, Below w.heap.size w W → readV G W ev l[i] → Calls Try.prog g (#[ev] ++ cb) W fun e w' => e = .returned (.bool (p l[i])) ∧ Below W.heap.size W w') :
    Calls Try.prog 107 #[v, .func (.func g) #[] cb] w fun e w' => e = .returned (.int .i64 (idxOf p l)) ∧ Below w.heap.size w w' := by
  obtain ⟨ptr, c, rfl, h1, h2, h3, h4⟩ := hv
  have H4 := Lib.hid h4
  have HF := Lib.hid hf
  clear h4 hf h3
  go_enter Try.func107, Try.ntmps107
  go_wp2
  go_loopg [5, 8] l.length (fun gg _ s8 wr => ∃ k : Nat, k ≤ l.length ∧ l.length - k ≤ gg ∧ s8 = .int .i64 k ∧ Hid (Below w.heap.size w wr) ∧ Hid (∀ j (h : j < k) (h' : j < l.length), p l[j] = false))
  case atStart => exact ⟨0, Nat.zero_le _, by omega, rfl, Below.refl _ w, fun j hj => absurd hj (Nat.not_lt_zero _)⟩
  case round =>
    obtain ⟨k, hk, hg, rfl, BW, A⟩ := hrel
    by_cases hlt : k < l.length
    · obtain ⟨b, o, rfl, hb, hc0, hi, ⟨dv, hc1, hd⟩, hc2⟩ := H4.out k hlt
      have hd0 := hd
      obtain ⟨dp, dc, rfl, -⟩ := hd0
      have hbl := World.block_lt_of_cell? w _ hc0
      have hc0' := (BW.out.cell (p := ⟨b, o + k * 3, none⟩) hbl).trans hc0
      have hc1' := (BW.out.cell (p := ⟨b, o + k * 3 + 1, none⟩) hbl).trans hc1
      have hc2' := (BW.out.cell (p := ⟨b, o + k * 3 + 2, none⟩) hbl).trans hc2
      have hcall := HF.out k hlt wr (.agg #[.int .i64 l[k].lba, .slice dp l[k].data.length dc, .bool l[k].own]) BW.out (⟨dp, dc, rfl, hi, hd.same (hG.same BW.out)⟩)
      generalize l[k].lba = lb at hcall hc0'
      generalize l[k].data.length = dn at hcall hc1'
      generalize l[k].own = ow at hcall hc2'
      generalize hy : l[k] = y at hcall
      have B := Lib.hid hy
      clear hy hd hi hb hc0 hc1 hc2
      cases hq : p y with
      | true =>
        rw [hq] at hcall
        have HQ := Lib.hid hq
        have HC := Lib.hid hcall
        clear hq hcall
        go_wp2_with (go_at_fn g; refine (HC.out).mono ?_; rintro e w' ⟨rfl, hb'⟩)
        go_ret
        refine ⟨?_, BW.out.trans (hb'.mono BW.out.size)⟩
        rw [idxOf_hit hlt (by rw [B.out]; exact HQ.out) (fun j hj => A.out j hj (by omega))]
        rfl
      | false =>
        rw [hq] at hcall
        have HQ := Lib.hid hq
        have HC := Lib.hid hcall
        clear hq hcall
        go_wp2_with (go_at_fn g; refine (HC.out).mono ?_; rintro e w' ⟨rfl, hb'⟩)
        go_roundg (l.length - (k + 1))
        case measure => omega
        case rel =>
          refine ⟨k + 1, by omega, by omega, by go_num, BW.out.trans (hb'.mono BW.out.size), fun j hj hj' => ?_⟩
          by_cases e : j = k
          · subst e; rw [B.out]; exact HQ.out
          · exact A.out j (by omega) hj'
    · have hkl : k = l.length := by omega
      have HK := Lib.hid hkl
      clear hkl
      go_wp2
      go_ret
      refine ⟨?_, BW.out⟩
      rw [idxOf_miss (fun j hj => A.out j (by have := HK.out; omega) hj)]
      rfl
theorem anyRead_any (G : Nat → Prop) (v : Value) (l : List Sc.Read) (p : Sc.Read → Bool) (g : Nat) (cb : Array Value) (eg : ∀ args w, (callFunc g args).run Try.prog w = .ok (.enter g args) w) (w : World)
    (hG : Dom G w) (hv : ReadsAt G w v l)
    (hf : ∀ i (h : i < l.length) W ev, Below w.heap.size w W → readV G W ev l[i] → Calls Try.prog g (#[ev] ++ cb) W fun e w' => e = .returned (.bool (p l[i])) ∧ Below W.heap.size W w') :
    Calls Try.prog 90 #[v, .func (.func g) #[] cb] w fun e w' => e = .returned (.bool (l.any p)) ∧ Below w.heap.size w w' := by
  rw [← idxOf_nonneg]
  go_enter Try.func90, Try.ntmps90
  go_wp2_with (go_at_call 107; refine (idxRead_any G v l p g cb eg _ hG hv hf).mono ?_; rintro e w' ⟨rfl, hb'⟩)
  go_ret
  exact ⟨rfl, hb'⟩
end Go.Proofs

/- audit.may: whether a history may be. -/
namespace Go.Proofs
open Go.RowKit Sc

def blkA (n lba : Int) (d : Bytes) : Bool := decide (0 ≤ lba) && (decide (lba < n) && decide (d.length = 40))
set_option maxHeartbeats 1000000 in
theorem blockA_any (n lba : Int) (p : Option Addr) (d : Bytes) (c : Nat) (w : World) (hd : d.length ≤ 9223372036854775807) :
    Calls Try.prog 73 #[.int .i64 n, .int .i64 lba, .slice p d.length c] w fun e w' => e = .returned (.bool (blkA n lba d)) ∧ w = w' := by
  unfold blkA
  generalize d.length = m at *
  by_cases h1 : 0 ≤ lba
  · rw [decide_eq_true h1]
    by_cases h2 : lba < n
    · rw [decide_eq_true h2]
      by_cases h3 : m = 40
      · subst h3
        go_enter Try.func73, Try.ntmps73
        go_wp2
        go_ret
        exact ⟨rfl, rfl⟩
      · have h3' : ((m : Int) == 40) = false := by rw [beq_eq_false_iff_ne]; omega
        rw [decide_eq_false h3]
        clear h3
        go_enter Try.func73, Try.ntmps73
        go_wp2
        go_ret
        exact ⟨rfl, rfl⟩
    · rw [decide_eq_false h2]
      go_enter Try.func73, Try.ntmps73
      go_wp2
      go_ret
      exact ⟨rfl, rfl⟩
  · rw [decide_eq_false h1]
    go_enter Try.func73, Try.ntmps73
    go_wp2
    go_ret
    exact ⟨rfl, rfl⟩
def mayHead (h : Hist) : Bool := decide (1 ≤ h.state) && decide (h.state ≤ 4) && decide (0 ≤ h.begun) && decide (h.begun ≤ 1099511627776) && (!wroteH h || (decide (h.begun < h.time) && decide (h.time ≤ 1099511627776)))
def mayB (n : Int) (h : Hist) : Bool := mayHead h && h.reads.all (fun r => blkA n r.lba r.data) && decide ((h.puts.map (·.lba)).Nodup) && h.puts.all (fun p => blkA n p.lba p.data)
theorem mayB_head {n : Int} {h : Hist} (hh : mayHead h = false) : mayB n h = false := by unfold mayB; rw [hh]; rfl
theorem mayB_reads {n : Int} {h : Hist} (hh : h.reads.all (fun r => blkA n r.lba r.data) = false) : mayB n h = false := by unfold mayB; rw [hh]; simp
theorem mayB_puts {n : Int} {h : Hist} (hh : ¬ ((h.puts.map (·.lba)).Nodup ∧ h.puts.all (fun p => blkA n p.lba p.data) = true)) : mayB n h = false := by
  unfold mayB
  cases h1 : h.puts.all (fun p => blkA n p.lba p.data) with
  | false => simp
  | true =>
    have : ¬ (h.puts.map (·.lba)).Nodup := fun e => hh ⟨e, h1⟩
    rw [decide_eq_false this]; simp
theorem mayB_iff {n : Int} {h : Hist} : mayB n h = true ↔ mayHead h = true ∧ h.reads.all (fun r => blkA n r.lba r.data) = true ∧ (h.puts.map (·.lba)).Nodup ∧ h.puts.all (fun p => blkA n p.lba p.data) = true := by
  unfold mayB; simp only [Bool.and_eq_true, decide_eq_true_eq]
  constructor
  · rintro ⟨⟨⟨a, b⟩, c⟩, d⟩; exact ⟨a, b, c, d⟩
  · rintro ⟨a, b, c, d⟩; exact ⟨⟨⟨a, b⟩, c⟩, d⟩

set_option maxRecDepth 100000 in
set_option maxHeartbeats 4000000 in
theorem may_any (G : Nat → Prop) (n : Int) (v : Value) (h : Hist) (w : World) (hG : Dom G w) (hv : histV G w v h) :
    Calls Try.prog 58 #[.int .i64 n, v] w fun e w' => e = .returned (.bool (mayB n h)) ∧ Below w.heap.size w w' := by
  obtain ⟨rp, rc, pp, pc, rfl, hi, hrd, hpd⟩ := hv
  have hrl : h.reads.length ≤ rc ∧ rc ≤ 9223372036854775807 := by obtain ⟨_, _, e, h1, h2, _⟩ := hrd; cases e; exact ⟨h1, h2⟩
  have hpl : h.puts.length ≤ pc ∧ pc ≤ 9223372036854775807 := by obtain ⟨_, _, e, h1, h2, _⟩ := hpd; cases e; exact ⟨h1, h2⟩
  obtain ⟨rb, ro, hR⟩ := SlAt.one (E := readE G) (k := 3) hrd
  obtain ⟨pb, po, hP⟩ := SlAt.one (E := putE G) (k := 2) hpd
  have hmm := @run_makeMap Try.prog
  have hnew := heap_alloc_new w (.cells #[.int .i64 h.state, .int .i64 h.begun, .int .i64 h.time, .int .i64 h.since, .int .i64 h.upto, .slice rp h.reads.length rc, .slice pp h.puts.length pc] 45)
  have hba := below_alloc w (.cells #[.int .i64 h.state, .int .i64 h.begun, .int .i64 h.time, .int .i64 h.since, .int .i64 h.upto, .slice rp h.reads.length rc, .slice pp h.puts.length pc] 45)
  have hsz : w.heap.size < (w.alloc (.cells #[.int .i64 h.state, .int .i64 h.begun, .int .i64 h.time, .int .i64 h.since, .int .i64 h.upto, .slice rp h.reads.length rc, .slice pp h.puts.length pc] 45)).heap.size := by simp
  have hwr : wroteH h = (decide (h.state = 3) && decide (0 < h.puts.length)) := rfl
  have hmh : mayHead h = (decide (1 ≤ h.state) && decide (h.state ≤ 4) && decide (0 ≤ h.begun) && decide (h.begun ≤ 1099511627776) && (!wroteH h || (decide (h.begun < h.time) && decide (h.time ≤ 1099511627776)))) := rfl
  have hR' : ∀ i (hi : i < h.reads.length), rp = some ⟨rb, ro, none⟩ ∧ G rb ∧ readE G w rb (ro + i * 3) h.reads[i] := hR
  have HR := Lib.hid hR'
  have HP := Lib.hid hP
  have HG := Lib.hid hG
  clear hR hR' hP hG hrd hpd hi
  go_enter Try.func58, Try.ntmps58
  go_upto_region 1 with fail
  generalize w.alloc (.cells #[.int .i64 h.state, .int .i64 h.begun, .int .i64 h.time, .int .i64 h.since, .int .i64 h.upto, .slice rp h.reads.length rc, .slice pp h.puts.length pc] 45) = W1 at *
  obtain ⟨bx, hbx⟩ : ∃ bx, w.heap.size = bx := ⟨_, rfl⟩
  rw [hbx] at hnew hsz ⊢
  have c0 : W1.cell? ⟨bx, 0, none⟩ = some (.int .i64 h.state) := by rw [cell_row hnew]; rfl
  have c1 : W1.cell? ⟨bx, 1, none⟩ = some (.int .i64 h.begun) := by rw [cell_row hnew]; rfl
  have c2 : W1.cell? ⟨bx, 2, none⟩ = some (.int .i64 h.time) := by rw [cell_row hnew]; rfl
  have c3 : W1.cell? ⟨bx, 3, none⟩ = some (.int .i64 h.since) := by rw [cell_row hnew]; rfl
  have c4 : W1.cell? ⟨bx, 4, none⟩ = some (.int .i64 h.upto) := by rw [cell_row hnew]; rfl
  have c5 : W1.cell? ⟨bx, 5, none⟩ = some (.slice rp h.reads.length rc) := by rw [cell_row hnew]; rfl
  have c6 : W1.cell? ⟨bx, 6, none⟩ = some (.slice pp h.puts.length pc) := by rw [cell_row hnew]; rfl
  have hwc := fun W => wroteA_any h.state h.begun h.time h.since h.upto rp pp h.reads.length rc h.puts.length pc W (by omega)
  rw [← hwr] at hwc
  have HB : Hid (∀ w', Below W1.heap.size W1 w' → Below w.heap.size w w') := fun w' hb => Below.up hba hb
  clear hnew hwr
  have HN1 : Hid (mayHead h = false → mayB n h = false) := mayB_head
  have HN2 : Hid (h.reads.all (fun r => blkA n r.lba r.data) = false → mayB n h = false) := mayB_reads
  have HN3 : Hid (¬ ((h.puts.map (·.lba)).Nodup ∧ h.puts.all (fun p => blkA n p.lba p.data) = true) → mayB n h = false) := mayB_puts
  have HNI : Hid (mayHead h = true → h.reads.all (fun r => blkA n r.lba r.data) = true → (h.puts.map (·.lba)).Nodup → h.puts.all (fun p => blkA n p.lba p.data) = true → mayB n h = true) := fun a b c d => mayB_iff.2 ⟨a, b, c, d⟩
  have HWC := Lib.hid hwc
  have HBX := Lib.hid hbx
  have HMH := Lib.hid hmh
  have HBA := Lib.hid hba
  generalize mayHead h = mh at *
  generalize wroteH h = q at *
  generalize h.state = st at *
  generalize h.begun = bg at *
  generalize h.time = tm at *
  clear hwc hmh hba hbx
  by_cases h1 : st < 1
  case pos =>
    have HF : Hid (mayB n h = false) := HN1.out (by rw [HMH.out, decide_eq_false (show ¬ 1 ≤ st by omega)]; rfl)
    go_wp2
    go_ret
    exact ⟨congrArg boolRet HF.out.symm, HB.out _ (Below.refl _ _)⟩
  case neg =>
  by_cases h2 : 4 < st
  case pos =>
    have HF : Hid (mayB n h = false) := HN1.out (by rw [HMH.out, decide_eq_false (show ¬ st ≤ 4 by omega)]; simp)
    go_wp2
    go_ret
    exact ⟨congrArg boolRet HF.out.symm, HB.out _ (Below.refl _ _)⟩
  case neg =>
  by_cases h3 : bg < 0
  case pos =>
    have HF : Hid (mayB n h = false) := HN1.out (by rw [HMH.out, decide_eq_false (show ¬ 0 ≤ bg by omega)]; simp)
    go_wp2
    go_ret
    exact ⟨congrArg boolRet HF.out.symm, HB.out _ (Below.refl _ _)⟩
  case neg =>
  by_cases h4 : 1099511627776 < bg
  case pos =>
    have HF : Hid (mayB n h = false) := HN1.out (by rw [HMH.out, decide_eq_false (show ¬ bg ≤ 1099511627776 by omega)]; simp)
    go_wp2
    go_ret
    exact ⟨congrArg boolRet HF.out.symm, HB.out _ (Below.refl _ _)⟩
  case neg =>
  have hmh2 : mh = (!q || (decide (bg < tm) && decide (tm ≤ 1099511627776))) := by rw [HMH.out, decide_eq_true (show 1 ≤ st by omega), decide_eq_true (show st ≤ 4 by omega), decide_eq_true (show 0 ≤ bg by omega), decide_eq_true (show bg ≤ 1099511627776 by omega)]; simp
  have HM2 := Lib.hid hmh2
  clear hmh2
  go_wp2_with fail
  refine (HWC.out _).mono ?_
  rintro e w2 ⟨rfl, hb2⟩
  have d1 := cell_up hb2 c1
  have d2 := cell_up hb2 c2
  have d5 := cell_up hb2 c5
  have d6 := cell_up hb2 c6
  have HB2 := Lib.hid hb2
  clear hb2 c0 c1 c2 c3 c4 c5 c6
  by_cases hqf : q = true ∧ (tm ≤ bg ∨ 1099511627776 < tm)
  case pos =>
    obtain ⟨rfl, h5⟩ := hqf
    have HF : Hid (mayB n h = false) := HN1.out (by rw [HM2.out, Bool.not_true, Bool.false_or]; rcases h5 with h | h <;> simp <;> omega)
    by_cases h6 : tm ≤ bg
    · clear h5
      go_wp2
      go_ret
      exact ⟨congrArg boolRet HF.out.symm, HB.out _ HB2.out⟩
    · have h7 : 1099511627776 < tm := h5.resolve_left h6
      clear h5
      go_wp2
      go_ret
      exact ⟨congrArg boolRet HF.out.symm, HB.out _ HB2.out⟩
  case neg =>
  have hpass : q = false ∨ (q = true ∧ ¬ tm ≤ bg ∧ ¬ 1099511627776 < tm) := by
    cases q with
    | false => exact .inl rfl
    | true => exact .inr ⟨rfl, fun h => hqf ⟨rfl, .inl h⟩, fun h => hqf ⟨rfl, .inr h⟩⟩
  have HMT : Hid (mh = true) := by
    rw [HM2.out]
    rcases hpass with rfl | ⟨rfl, h5, h6⟩
    · rfl
    · rw [decide_eq_true (show bg < tm by omega), decide_eq_true (show tm ≤ 1099511627776 by omega)]; rfl
  clear hqf
  rcases hpass with rfl | ⟨rfl, h5, h6⟩
  all_goals
    go_wp2_with fail
    go_loopw [47] (fun i wr => ∃ k : Nat, k ≤ h.reads.length ∧ i = .int .i64 k ∧ Hid (Below w2.heap.size w2 wr) ∧ Hid ((h.reads.take k).all (fun r => blkA n r.lba r.data) = true)) (fun i _ => h.reads.length - (intOf i).toNat)
    case atStart => exact ⟨0, Nat.zero_le _, rfl, Below.refl _ _, by unfold Hid; simp⟩
    case round =>
      obtain ⟨k, hk, rfl, BW, HA⟩ := hrel
      by_cases hlt : k < h.reads.length
      case pos =>
        obtain ⟨rfl, hGb, hc0, hi0, ⟨dv, hc1, hd⟩, hc2⟩ := HR.out k hlt
        obtain ⟨dp, dc, rfl, hd1, hd2, -⟩ := hd
        have hbw := HB.out _ (Below.up HB2.out BW.out)
        replace hc0 := cell_up hbw hc0
        replace hc1 := cell_up hbw hc1
        replace hc2 := cell_up hbw hc2
        have hall : (h.reads.take (k + 1)).all (fun r => blkA n r.lba r.data) = blkA n h.reads[k].lba h.reads[k].data := by
          rw [take_snoc h.reads k hlt, List.all_append, HA.out]; simp
        have hbad : blkA n h.reads[k].lba h.reads[k].data = false → h.reads.all (fun r => blkA n r.lba r.data) = false := fun e => List.all_eq_false.2 ⟨_, List.getElem_mem hlt, by rw [e]; decide⟩
        have hbl := fun W => blockA_any n h.reads[k].lba dp h.reads[k].data dc W (by omega)
        generalize blkA n h.reads[k].lba h.reads[k].data = qq at *
        generalize h.reads[k].lba = x1 at *
        generalize h.reads[k].data.length = x2 at *
        generalize h.reads[k].own = x3 at *
        have HALL := Lib.hid hall
        have HBAD := Lib.hid hbad
        have HBL := Lib.hid hbl
        have HBW := Lib.hid hbw
        clear hall hbad hbl hbw
        clear hGb hi0
        cases qq with
        | true =>
          go_wp2_with fail
          refine (HBL.out _).mono ?_
          rintro e w5 ⟨rfl, rfl⟩
          go_wp2_with fail
          go_roundw
          case rel => exact ⟨k + 1, by omega, by go_num, Below.up BW.out (below_alloc _ _), HALL⟩
          case measure => simp [intOf]; omega
        | false =>
          have HF : Hid (mayB n h = false) := HN2.out (HBAD.out (by simp))
          go_wp2_with fail
          refine (HBL.out _).mono ?_
          rintro e w5 ⟨rfl, rfl⟩
          go_wp2
          go_ret
          exact ⟨congrArg boolRet HF.out.symm, HB.out _ (Below.up HB2.out (Below.up BW.out (below_alloc _ _)))⟩
      case neg =>
        have HRA : Hid (h.reads.all (fun r => blkA n r.lba r.data) = true) := by have := HA.out; rw [List.take_of_length_le (by omega)] at this; exact this
        have e6 := cell_up BW.out d6
        have HB3 := Lib.hid (HB.out _ (Below.up HB2.out BW.out))
        clear d1 d2 d5 d6
        obtain ⟨W3, rfl⟩ : ∃ W3 : World, W3 = wr := ⟨_, rfl⟩
        have hbz3 : bx < W3.heap.size := by have := BW.out.size; have := HB2.out.size; omega
        go_wp2_with fail
        go_loopw [63] (fun i wr => ∃ k : Nat, k ≤ h.puts.length ∧ i = .int .i64 k ∧ MapIs wr W3.heap.size (metOf (h.puts.take k)) ∧ Below W3.heap.size W3 wr ∧ Hid (((h.puts.take k).map (·.lba)).Nodup ∧ (h.puts.take k).all (fun p => blkA n p.lba p.data) = true)) (fun i _ => h.puts.length - (intOf i).toNat)
        case atStart => exact ⟨0, by omega, rfl, MapIs.made W3, (Below.refl _ _).alloc (Nat.le_refl _) _, by unfold Hid; simp⟩
        case round =>
          obtain ⟨k, hk, rfl, hmk, hbk, hnd⟩ := hrel
          by_cases hlt : k < h.puts.length
          case pos =>
            obtain ⟨rfl, hGb, hca, hi, dv, hcb, hd0⟩ := HP.out k hlt
            have hbw := Below.up HB3.out hbk
            have hca' := cell_up hbw hca
            have hcb' := cell_up hbw hcb
            obtain ⟨dp, dc, rfl, hd1, hd2, hd3, hd4⟩ := hd0
            have HT := Lib.hid (take_snoc h.puts k hlt)
            have hbl := fun W => blockA_any n h.puts[k].lba dp h.puts[k].data dc W (by omega)
            have HM := Lib.hid (List.getElem_mem hlt)
            generalize h.puts[k] = y at hca hca' hcb hcb' hi hd1 hd4 HT HM hbl
            generalize hdl : y.data.length = dl at hcb hcb' hd1 hbl
            have hdl1 : dl ≤ 9223372036854775807 := by omega
            have hm1 := hmk.alloc (.cells #[.int .i64 y.lba, .slice dp dl dc] 39)
            have hNl := hmk.lt
            have hl1 := hm1.lookup Try.underlying85 Try.underlying3 (Try.zeroValue3 _) y.lba false
            have HBW := Lib.hid hbw
            clear hca hcb hdl hd1 hd2 hd3 hd4 hi hbw
            by_cases hin : y.lba ∈ (h.puts.take k).map (·.lba)
            case pos =>
              rw [alook_met hin] at hl1
              simp only [Option.getD_some, Bool.false_eq_true, if_false] at hl1
              obtain ⟨w5, hu, hm2, hT⟩ := hm1.update Try.underlying85 Try.underlying3 y.lba (.int .i64 2)
              have hl2 := hm2.lookup Try.underlying85 Try.underlying3 (Try.zeroValue3 _) y.lba false
              rw [alook_aset, if_pos rfl] at hl2
              simp only [Option.getD_some, Bool.false_eq_true, if_false] at hl2
              have q0 : w5.cell? ⟨wr.heap.size, 0, none⟩ = some (.int .i64 y.lba) := (hT.cell _).trans (by go_simp)
              have HF : Hid (mayB n h = false) := HN3.out (fun hh => by
                have h1 := hh.1.sublist ((List.take_sublist (k + 1) h.puts).map (·.lba))
                rw [HT.out, List.map_append, List.nodup_append] at h1
                exact h1.2.2 _ hin _ (by simp) rfl)
              have HT2 := Lib.hid hT
              clear hin hT hm1 hm2 hbl
              go_wp2
              go_ret
              exact ⟨congrArg boolRet HF.out.symm, Below.up HB3.out (hbk.trans (((Below.refl _ _).alloc (by omega) _).trans (HT2.out.below (by omega))))⟩
            case neg =>
              rw [alook_none.2 (met_not hin)] at hl1
              simp only [Option.getD_none, Bool.false_eq_true, if_false] at hl1
              obtain ⟨w5, hu, hm2, hT⟩ := hm1.update Try.underlying85 Try.underlying3 y.lba (.int .i64 1)
              have hl2 := hm2.lookup Try.underlying85 Try.underlying3 (Try.zeroValue3 _) y.lba false
              rw [alook_aset, if_pos rfl] at hl2
              simp only [Option.getD_some, Bool.false_eq_true, if_false] at hl2
              have q0 : w5.cell? ⟨wr.heap.size, 0, none⟩ = some (.int .i64 y.lba) := (hT.cell _).trans (by go_simp)
              have q1 : w5.cell? ⟨wr.heap.size, 1, none⟩ = some (.slice dp dl dc) := (hT.cell _).trans (by go_simp)
              have hall : (h.puts.take (k + 1)).all (fun p => blkA n p.lba p.data) = blkA n y.lba y.data := by
                rw [HT.out, List.all_append, hnd.out.2]; simp
              have hbad : blkA n y.lba y.data = false → h.puts.all (fun p => blkA n p.lba p.data) = false := fun e => List.all_eq_false.2 ⟨_, HM.out, by rw [e]; decide⟩
              have HIN := Lib.hid hin
              have HT2 := Lib.hid hT
              have HM2 := Lib.hid hm2
              generalize blkA n y.lba y.data = qq at *
              have HBL := Lib.hid hbl
              have HALL := Lib.hid hall
              have HBAD := Lib.hid hbad
              clear hall hbad
              clear hin hT hm1 hm2 hbl
              cases qq with
              | true =>
                go_wp2_with fail
                refine (HBL.out _).mono ?_
                rintro e w6 ⟨rfl, rfl⟩
                go_wp2_with fail
                go_roundw
                case rel =>
                  refine ⟨k + 1, by omega, by go_num, ?_, hbk.trans (((Below.refl _ _).alloc (by omega) _).trans (HT2.out.below (by omega))), ?_⟩
                  · have h := HM2.out
                    rw [aset_new (met_not HIN.out)] at h
                    rw [HT.out]; unfold metOf at h ⊢; rw [List.map_append]; exact h
                  · refine ⟨?_, HALL.out⟩
                    rw [HT.out, List.map_append, List.nodup_append]
                    refine ⟨hnd.out.1, by simp, fun a ha b hb e => ?_⟩
                    simp only [List.map_cons, List.map_nil, List.mem_singleton] at hb
                    exact HIN.out (by rw [← hb, ← e]; exact ha)
                case measure => simp [intOf]; omega
              | false =>
                have HF : Hid (mayB n h = false) := HN3.out (fun hh => absurd hh.2 (by rw [HBAD.out (by simp)]; decide))
                go_wp2_with fail
                refine (HBL.out _).mono ?_
                rintro e w6 ⟨rfl, rfl⟩
                go_wp2
                go_ret
                exact ⟨congrArg boolRet HF.out.symm, Below.up HB3.out (hbk.trans (((Below.refl _ _).alloc (by omega) _).trans (HT2.out.below (by omega))))⟩
          case neg =>
            have HF : Hid (mayB n h = true) := by
              have := hnd.out
              rw [List.take_of_length_le (by omega)] at this
              exact HNI.out HMT.out HRA.out this.1 this.2
            go_wp2
            go_ret
            exact ⟨congrArg boolRet HF.out.symm, Below.up HB3.out hbk⟩
end Go.Proofs

/- audit.clash: whether one wrote what another one read, or wrote. -/
namespace Go.Proofs
open Go.RowKit Sc

def readHit (k : Int) (r : Sc.Read) : Bool := !r.own && r.lba == k
def putHit (k : Int) (q : Put) : Bool := q.lba == k
def clashAt (h : Hist) (k : Int) : Bool := h.reads.any (readHit k) || h.puts.any (putHit k)
def clashB (h o : Hist) : Bool := o.puts.any fun p => clashAt h p.lba
set_option maxHeartbeats 1000000 in
theorem clashR_any (G : Nat → Prop) (v : Value) (r : Sc.Read) (k : Int) (bp : Nat) (w : World) (hv : readV G w v r) (hc : w.cell? ⟨bp, 0, none⟩ = some (.int .i64 k)) (hb : bp < w.heap.size) :
    Calls Try.prog 91 #[v, .pointer (some ⟨bp, 0, none⟩)] w fun e w' => e = .returned (.bool (readHit k r)) ∧ Below w.heap.size w w' := by
  obtain ⟨dp, dc, rfl, _, _⟩ := hv
  unfold readHit
  generalize r.own = ow
  generalize r.lba = x
  generalize r.data.length = n
  cases ow with
  | true =>
    rw [Bool.not_true, Bool.false_and]
    go_enter Try.func91, Try.ntmps91
    go_wp2
    go_ret
    exact ⟨rfl, below_alloc _ _⟩
  | false =>
    rw [Bool.not_false, Bool.true_and]
    go_enter Try.func91, Try.ntmps91
    go_wp2
    go_ret
    exact ⟨rfl, below_alloc _ _⟩
set_option maxHeartbeats 1000000 in
theorem clashP_any (G : Nat → Prop) (v : Value) (q : Put) (k : Int) (bp : Nat) (w : World) (hv : putV G w v q) (hc : w.cell? ⟨bp, 0, none⟩ = some (.int .i64 k)) (hb : bp < w.heap.size) :
    Calls Try.prog 92 #[v, .pointer (some ⟨bp, 0, none⟩)] w fun e w' => e = .returned (.bool (putHit k q)) ∧ Below w.heap.size w w' := by
  obtain ⟨dv, rfl, _, hd⟩ := hv
  obtain ⟨dp, dc, rfl, -⟩ := hd
  unfold putHit
  generalize q.lba = x
  generalize q.data.length = n
  go_enter Try.func92, Try.ntmps92
  go_wp2
  go_ret
  exact ⟨rfl, below_alloc _ _⟩
set_option maxRecDepth 100000 in
set_option maxHeartbeats 1000000 in
theorem clash1_any (G : Nat → Prop) (h : Hist) (v : Value) (p : Put) (bx : Nat) (rv pv : Value) (w : World) (hG : Dom G w) (hv : putV G w v p) (hb : bx < w.heap.size) (hc5 : w.cell? ⟨bx, 5, none⟩ = some rv) (hc6 : w.cell? ⟨bx, 6, none⟩ = some pv) (hr : ReadsAt G w rv h.reads) (hp : PutsAt G w pv h.puts) :
    Calls Try.prog 89 #[v, .pointer (some ⟨bx, 0, none⟩)] w fun e w' => e = .returned (.bool (clashAt h p.lba)) ∧ Below w.heap.size w w' := by
  obtain ⟨dv, rfl, _, hd⟩ := hv
  obtain ⟨dp, dc, rfl, -⟩ := hd
  unfold clashAt
  generalize p.lba = k
  generalize p.data.length = n
  obtain ⟨rp, rc, rfl⟩ : ∃ rp rc, rv = .slice rp h.reads.length rc := by obtain ⟨a, b, e, _⟩ := hr; exact ⟨a, b, e⟩
  obtain ⟨pp, pc, rfl⟩ : ∃ rp rc, pv = .slice rp h.puts.length rc := by obtain ⟨a, b, e, _⟩ := hp; exact ⟨a, b, e⟩
  have hba := below_alloc w (.cells #[.int .i64 k, .slice dp n dc] 39)
  have hnew := heap_alloc_new w (.cells #[.int .i64 k, .slice dp n dc] 39)
  have eR : ∀ args w, (callFunc 91 args).run Try.prog w = .ok (.enter 91 args) w := enters_of Try.func91 (by kernel_rfl) rfl
  have eP : ∀ args w, (callFunc 92 args).run Try.prog w = .ok (.enter 92 args) w := enters_of Try.func92 (by kernel_rfl) rfl
  have hcR := anyRead_any G _ h.reads (readHit k) 91 #[.pointer (some ⟨w.heap.size, 0, none⟩)] eR (w.alloc (.cells #[.int .i64 k, .slice dp n dc] 39)) (hG.below hba) (hr.same (hG.same hba)) (fun i hi W ev hbw hev => clashR_any G ev _ k w.heap.size W hev ((hbw.cell (p := ⟨w.heap.size, 0, none⟩) (by simp)).trans (by rw [cell_row hnew]; rfl)) (Nat.lt_of_lt_of_le (by simp) hbw.size))
  have hcP := fun (W0 : World) (hW : Below (w.alloc (.cells #[.int .i64 k, .slice dp n dc] 39)).heap.size (w.alloc (.cells #[.int .i64 k, .slice dp n dc] 39)) W0) => anyPut_any G (.slice pp h.puts.length pc) h.puts (putHit k) 92 #[.pointer (some ⟨w.heap.size, 0, none⟩)] eP W0 ((hG.below hba).below hW) ((hp.same (hG.same hba)).same ((hG.below hba).same hW)) (fun i hi W ev hbw hev => clashP_any G ev _ k w.heap.size W hev ((hbw.cell (p := ⟨w.heap.size, 0, none⟩) (Nat.lt_of_lt_of_le (by simp) hW.size)).trans ((hW.cell (p := ⟨w.heap.size, 0, none⟩) (by simp)).trans (by rw [cell_row hnew]; rfl))) (Nat.lt_of_lt_of_le (by simp) (Nat.le_trans hW.size hbw.size)))
  have hk6 := cell_up hba hc6
  have HR := Lib.hid hcR
  have HP := Lib.hid hcP
  have HBA := Lib.hid hba
  clear hcR hcP hba hnew eR eP hr hp hG
  generalize h.reads.any (readHit k) = q1 at *
  generalize h.puts.any (putHit k) = q2 at *
  cases q1 with
  | true =>
    go_enter Try.func89, Try.ntmps89
    go_wp2_with fail
    refine (HR.out).mono ?_
    rintro e w1 ⟨rfl, hb1⟩
    go_wp2
    go_ret
    exact ⟨rfl, Below.up HBA.out hb1⟩
  | false =>
    go_enter Try.func89, Try.ntmps89
    go_wp2_with fail
    refine (HR.out).mono ?_
    rintro e w1 ⟨rfl, hb1⟩
    have hj6 := cell_up hb1 hk6
    have HB1 := Lib.hid hb1
    clear hb1
    go_wp2_with fail
    refine (HP.out _ HB1.out).mono ?_
    rintro e w2 ⟨rfl, hb2⟩
    go_wp2
    go_ret
    exact ⟨rfl, Below.up HBA.out (Below.up HB1.out hb2)⟩
set_option maxRecDepth 100000 in
set_option maxHeartbeats 1000000 in
theorem clash_any (G : Nat → Prop) (va vb : Value) (h o : Hist) (w : World) (hG : Dom G w) (ha : histV G w va h) (hb : histV G w vb o) :
    Calls Try.prog 77 #[va, vb] w fun e w' => e = .returned (.bool (clashB h o)) ∧ Below w.heap.size w w' := by
  obtain ⟨rp, rc, pp, pc, rfl, _, hr, hp⟩ := ha
  obtain ⟨rp2, rc2, pp2, pc2, rfl, _, _, ho⟩ := hb
  unfold clashB
  have h1 := below_alloc w (.cells #[.int .i64 h.state, .int .i64 h.begun, .int .i64 h.time, .int .i64 h.since, .int .i64 h.upto, .slice rp h.reads.length rc, .slice pp h.puts.length pc] 45)
  have n1 := heap_alloc_new w (.cells #[.int .i64 h.state, .int .i64 h.begun, .int .i64 h.time, .int .i64 h.since, .int .i64 h.upto, .slice rp h.reads.length rc, .slice pp h.puts.length pc] 45)
  have z1 : w.heap.size < (w.alloc (.cells #[.int .i64 h.state, .int .i64 h.begun, .int .i64 h.time, .int .i64 h.since, .int .i64 h.upto, .slice rp h.reads.length rc, .slice pp h.puts.length pc] 45)).heap.size := by simp
  have zz : (w.alloc (.cells #[.int .i64 h.state, .int .i64 h.begun, .int .i64 h.time, .int .i64 h.since, .int .i64 h.upto, .slice rp h.reads.length rc, .slice pp h.puts.length pc] 45)).heap.size = w.heap.size + 1 := by simp
  go_enter Try.func77, Try.ntmps77
  go_upto_region 1 with fail
  generalize w.alloc (.cells #[.int .i64 h.state, .int .i64 h.begun, .int .i64 h.time, .int .i64 h.since, .int .i64 h.upto, .slice rp h.reads.length rc, .slice pp h.puts.length pc] 45) = W1 at *
  have h2 := below_alloc W1 (.cells #[.int .i64 o.state, .int .i64 o.begun, .int .i64 o.time, .int .i64 o.since, .int .i64 o.upto, .slice rp2 o.reads.length rc2, .slice pp2 o.puts.length pc2] 45)
  have n2 := heap_alloc_new W1 (.cells #[.int .i64 o.state, .int .i64 o.begun, .int .i64 o.time, .int .i64 o.since, .int .i64 o.upto, .slice rp2 o.reads.length rc2, .slice pp2 o.puts.length pc2] 45)
  have z2 : W1.heap.size < (W1.alloc (.cells #[.int .i64 o.state, .int .i64 o.begun, .int .i64 o.time, .int .i64 o.since, .int .i64 o.upto, .slice rp2 o.reads.length rc2, .slice pp2 o.puts.length pc2] 45)).heap.size := by simp
  generalize W1.alloc (.cells #[.int .i64 o.state, .int .i64 o.begun, .int .i64 o.time, .int .i64 o.since, .int .i64 o.upto, .slice rp2 o.reads.length rc2, .slice pp2 o.puts.length pc2] 45) = W2 at *
  have c5 : W1.cell? ⟨w.heap.size, 5, none⟩ = some (.slice rp h.reads.length rc) := by rw [cell_row n1]; rfl
  have c6 : W1.cell? ⟨w.heap.size, 6, none⟩ = some (.slice pp h.puts.length pc) := by rw [cell_row n1]; rfl
  have d6 : W2.cell? ⟨w.heap.size + 1, 6, none⟩ = some (.slice pp2 o.puts.length pc2) := by rw [← zz, cell_row n2]; rfl
  have k5 := (h2.cell (p := ⟨w.heap.size, 5, none⟩) z1).trans c5
  have k6 := (h2.cell (p := ⟨w.heap.size, 6, none⟩) z1).trans c6
  have h02 := Below.up h1 h2
  have z02 : w.heap.size < W2.heap.size := Nat.lt_of_lt_of_le z1 h2.size
  have e1 : ∀ args w, (callFunc 89 args).run Try.prog w = .ok (.enter 89 args) w := enters_of Try.func89 (by kernel_rfl) rfl
  have hcon := anyPut_any G (.slice pp2 o.puts.length pc2) o.puts (fun p => clashAt h p.lba) 89 #[.pointer (some ⟨w.heap.size, 0, none⟩)] e1 W2 (hG.below h02) (ho.same (hG.same h02))
    (fun i hi W ev hbw hev => clash1_any G h ev _ w.heap.size _ _ W ((hG.below h02).below hbw) hev (Nat.lt_of_lt_of_le z02 hbw.size) ((hbw.cell (p := ⟨w.heap.size, 5, none⟩) z02).trans k5) ((hbw.cell (p := ⟨w.heap.size, 6, none⟩) z02).trans k6) ((hr.same (hG.same h02)).same ((hG.below h02).same hbw)) ((hp.same (hG.same h02)).same ((hG.below h02).same hbw)))
  have HC := Lib.hid hcon
  have H02 := Lib.hid h02
  clear zz hcon n1 n2 c5 c6 k5 k6 h1 h2 h02 e1 hr hp ho hG
  go_wp2_with fail
  refine (HC.out).mono ?_
  rintro e w3 ⟨rfl, hb3⟩
  go_wp2
  go_ret
  exact ⟨rfl, Below.up H02.out hb3⟩
end Go.Proofs

/- What a history saw: plain. -/
namespace Go.Proofs
open Sc Go.Sort

theorem may_run {n : Nat} {h : Hist} (hm : mayB n h = true) : runCode n h.puts = 0 := by
  obtain ⟨_, _, h3, h4⟩ := mayB_iff.1 hm
  rw [List.all_eq_true] at h4
  refine code_of_ok (List.any_eq_false.2 fun p hp => ?_) ⟨h3, fun p hp => ?_⟩
  · have := h4 p hp
    unfold blkA at this
    simp only [Bool.and_eq_true, decide_eq_true_eq] at this
    unfold blk
    simp; omega
  · have := h4 p hp
    unfold blkA at this
    simp only [Bool.and_eq_true, decide_eq_true_eq] at this
    exact this.2.2
theorem may_replay {n : Nat} {l : List Hist} (hm : ∀ x ∈ l, mayB n x = true) : replayCode n (ordP l) = 0 := by
  rw [replay_ok]
  intro p hp
  unfold ordP at hp
  obtain ⟨x, hx, rfl⟩ := List.mem_map.1 hp
  exact may_run (hm x (List.mem_filter.1 ((ordH_perm l).mem_iff.1 hx)).1)
def aheadP (l : List Hist) (h : Hist) (k : Nat) : Bool := decide (timeAt l k ≤ h.begun)
/-- What had been written up to a begin, among the first of these numbers. -/
def aheadH (l : List Hist) (h : Hist) (o : List Nat) : List Hist := (o.filter (aheadP l h)).map fun k => l.getD k hist0
theorem aheadH_snoc {l : List Hist} {h : Hist} {o : List Nat} {k : Nat} (hk : k < l.length) : aheadH l h (o ++ [k]) = if aheadP l h k then aheadH l h o ++ [l[k]] else aheadH l h o := by
  unfold aheadH
  rw [List.filter_append, List.map_append]
  by_cases hp : aheadP l h k = true
  · rw [if_pos hp, List.filter_cons_of_pos hp]
    simp [List.getD_eq_getElem?_getD, List.getElem?_eq_getElem hk]
  · rw [if_neg hp, List.filter_cons_of_neg hp]; simp
theorem aheadH_mem {l : List Hist} {h : Hist} {o : List Nat} (ho : ∀ k ∈ o, k < l.length) {x : Hist} (hx : x ∈ aheadH l h o) : x ∈ l := by
  unfold aheadH at hx
  obtain ⟨k, hk, rfl⟩ := List.mem_map.1 hx
  have := ho k (List.mem_filter.1 hk).1
  rw [List.getD_eq_getElem?_getD, List.getElem?_eq_getElem this]
  exact List.getElem_mem this
theorem aheadH_len (l : List Hist) (h : Hist) (o : List Nat) : (aheadH l h o).length ≤ o.length := by
  unfold aheadH
  rw [List.length_map]
  exact List.length_filter_le ..
def sawAt (l : List Hist) (h : Hist) (r : Sc.Read) : Bool := r.own || ((alook (runAll [] (ordP (aheadH l h (ordI l)))) r.lba).getD zeroB == r.data)
def sawB (l : List Hist) (h : Hist) : Bool := h.reads.all (sawAt l h)
end Go.Proofs

/- What the stable sort's bodies ask of a program, at histories: laid so that the number of an element's cells stays a letter. -/
namespace Go.Proofs
open Go.RowKit Go.Shelf

structure StabK (P : Program) (k : Nat) : Prop where
  mixed : P.follows .mixedOrders = true
  fSwap : P.funcs[109]? = some Try.f109
  fRot : P.funcs[95]? = some Try.f95
  fSym : P.funcs[84]? = some Try.f84
  fIns : P.funcs[83]? = some Try.f83
  fStab : P.funcs[67]? = some Try.f67
  fSort : P.funcs[48]? = some Try.f48
  cSwap : ∀ args w, (callFunc 109 args).run P w = .ok (.enter 109 args) w
  cRot : ∀ args w, (callFunc 95 args).run P w = .ok (.enter 95 args) w
  cSym : ∀ args w, (callFunc 84 args).run P w = .ok (.enter 84 args) w
  cIns : ∀ args w, (callFunc 83 args).run P w = .ok (.enter 83 args) w
  cStab : ∀ args w, (callFunc 67 args).run P w = .ok (.enter 67 args) w
  t0 : P.underlying 0 = some (TypeDesc.tuple #[])
  a0 : ∀ w, (isAgg 0).run P w = .ok false w
  z0 : ∀ w, (Go.sizeOf 0).run P w = .ok 1 w
  v0 : ∀ w, (zeroValue 0).run P w = .ok (Value.tuple #[]) w
  t3 : P.underlying 3 = some (TypeDesc.int IntKind.i64)
  a3 : ∀ w, (isAgg 3).run P w = .ok false w
  z3 : ∀ w, (Go.sizeOf 3).run P w = .ok 1 w
  v3 : ∀ w, (zeroValue 3).run P w = .ok (Value.int IntKind.i64 0) w
  t4 : P.underlying 4 = some (TypeDesc.bool)
  a4 : ∀ w, (isAgg 4).run P w = .ok false w
  z4 : ∀ w, (Go.sizeOf 4).run P w = .ok 1 w
  v4 : ∀ w, (zeroValue 4).run P w = .ok (Value.bool false) w
  t5 : P.underlying 42 = some (TypeDesc.slice 45)
  a5 : ∀ w, (isAgg 42).run P w = .ok false w
  z5 : ∀ w, (Go.sizeOf 42).run P w = .ok 1 w
  v5 : ∀ w, (zeroValue 42).run P w = .ok (Value.slice none 0 0) w
  t6 : P.underlying 91 = some (TypeDesc.func #[45, 45] #[3] false)
  a6 : ∀ w, (isAgg 91).run P w = .ok false w
  z6 : ∀ w, (Go.sizeOf 91).run P w = .ok 1 w
  v6 : ∀ w, (zeroValue 91).run P w = .ok (Value.nilFunc) w
  t7 : P.underlying 123 = some (TypeDesc.int IntKind.u64)
  a7 : ∀ w, (isAgg 123).run P w = .ok false w
  z7 : ∀ w, (Go.sizeOf 123).run P w = .ok 1 w
  v7 : ∀ w, (zeroValue 123).run P w = .ok (Value.int IntKind.u64 0) w
  aE : ∀ w, (isAgg 45).run P w = .ok true w
  zE : ∀ w, (Go.sizeOf 45).run P w = .ok k w

theorem stabK : StabK Try.prog 7 where
  mixed := by kernel_rfl
  fSwap := Try.func109
  fRot := Try.func95
  fSym := Try.func84
  fIns := Try.func83
  fStab := Try.func67
  fSort := Try.func48
  cSwap := Try.call109
  cRot := Try.call95
  cSym := Try.call84
  cIns := Try.call83
  cStab := Try.call67
  t0 := Try.underlying0
  a0 := Try.isAgg0
  z0 := Try.sizeOf0
  v0 := Try.zeroValue0
  t3 := Try.underlying3
  a3 := Try.isAgg3
  z3 := Try.sizeOf3
  v3 := Try.zeroValue3
  t4 := Try.underlying4
  a4 := Try.isAgg4
  z4 := Try.sizeOf4
  v4 := Try.zeroValue4
  t5 := Try.underlying42
  a5 := Try.isAgg42
  z5 := Try.sizeOf42
  v5 := Try.zeroValue42
  t6 := Try.underlying91
  a6 := Try.isAgg91
  z6 := Try.sizeOf91
  v6 := Try.zeroValue91
  t7 := Try.underlying123
  a7 := Try.isAgg123
  z7 := Try.sizeOf123
  v7 := Try.zeroValue123
  aE := Try.isAgg45
  zE := Try.sizeOf45
end Go.Proofs

/- slices.swapRangeCmpFunc over scarp/api.History: two ranges exchanged. -/
namespace Go.Proofs
open Go.RowKit Go.Lib Go.Sort Go.Shelf
variable {α : Type} [Inhabited α]

set_option maxHeartbeats 4000000 in
set_option maxRecDepth 1000000 in
theorem swapRangeK {P : Program} {k : Nat} (L : StabK P k) (enc : α → List Value) (blk off cap a b n : Nat) (d0 d : Array α) (w0 w : World) (fv : Value) (R : RowK enc k w0 blk off d0) (hs : d0.size = d.size) (S : SWK enc k w0 blk off (d) (w)) (hab : a + n ≤ b) (hb : b + n ≤ d.size) (hsz : d.size < 4611686018427387904) :
    Calls P 109 #[.slice (some ⟨blk, off, none⟩) d.size cap, .int .i64 a, .int .i64 b, .int .i64 n, fv] w fun e w' => e = .returned (.tuple #[]) ∧ ∃ d', SwR a b n d d' ∧ SWK enc k w0 blk off (d') (w') := by
  have mixed : P.follows Departure.mixedOrders = true := L.mixed
  have t0 := L.t0
  have a0 := L.a0
  have z0 := L.z0
  have v0 := L.v0
  have t3 := L.t3
  have a3 := L.a3
  have z3 := L.z3
  have v3 := L.v3
  have t4 := L.t4
  have a4 := L.a4
  have z4 := L.z4
  have v4 := L.v4
  have t5 := L.t5
  have a5 := L.a5
  have z5 := L.z5
  have v5 := L.v5
  have t6 := L.t6
  have a6 := L.a6
  have z6 := L.z6
  have v6 := L.v6
  have t7 := L.t7
  have a7 := L.a7
  have z7 := L.z7
  have v7 := L.v7
  have aE := L.aE
  have zE := L.zE
  have u5 := run_underlying L.t5
  have S0 : Aside (SWK enc k w0 blk off (d) (w)) := S
  clear S
  go_enter L.fSwap, Try.ntmps109
  go_wp2
  go_loopg [10] n (fun kx s10 wr => ∃ (i : Nat) (dk : Array α), s10 = .int .i64 i ∧ i ≤ n ∧ n - i ≤ kx ∧ dk.size = d.size ∧ Aside (SWK enc k w0 blk off (dk) (wr)) ∧ Aside (SwR a b i d dk))
  case atStart => exact ⟨0, d, rfl, by omega, by omega, rfl, S0, SwR.zero a b d⟩
  case round =>
    clear S0
    obtain ⟨i, dk, rfl, hin, hkx, hds, S1, HR⟩ := hrel
    by_cases hlt : i < n
    · have hltz : (i : Int) < (n : Int) := by omega
      have ea100 : ((a : Int) + (i : Int)).toNat = a + i := by omega
      have ec100 : ((b : Int) + (i : Int)).toNat = b + i := by omega
      have pa100 : (0 : Int) ≤ (a : Int) + (i : Int) := by omega
      have ba100 : (a : Int) + (i : Int) < (d.size : Int) := by omega
      have ra100 : IntKind.i64.wrap ((a : Int) + (i : Int)) = (a : Int) + (i : Int) := by rw [IntKind.wrap_i64]; omega
      have pc100 : (0 : Int) ≤ (b : Int) + (i : Int) := by omega
      have bc100 : (b : Int) + (i : Int) < (d.size : Int) := by omega
      have rc100 : IntKind.i64.wrap ((b : Int) + (i : Int)) = (b : Int) + (i : Int) := by rw [IntKind.wrap_i64]; omega
      have S2 : Aside (SWK enc k w0 blk off (swp dk (a + i) (b + i)) (((wr).drew.setCells blk (off + (a + i) * k) (enc dk[b + i]!)).setCells blk (off + (b + i) * k) (enc dk[a + i]!))) := S1.out.swapped R (a + i) (b + i) (by omega) (by omega)
      have l100a := S1.out.ld1 R (by omega) P (a + i) (by omega)
      have l100b := S1.out.ld1 R (by omega) P (b + i) (by omega)
      have s100a := S1.out.st1 R (by omega) P (a + i) (by omega) dk[b + i]!
      have s100b := S1.out.st2 R (by omega) P (a + i) (b + i) (by omega) (by omega) dk[b + i]! dk[a + i]!
      have n100a : (enc dk[a + i]!).length = k := R.hk _
      have n100b : (enc dk[b + i]!).length = k := R.hk _
      generalize enc dk[a + i]! = cI100 at S2 l100a s100b n100a
      generalize enc dk[b + i]! = cJ100 at S2 l100b s100a s100b n100b
      clear S1
      go_wp2_with fail
      go_big_region_o
      clear l100a l100b s100a s100b
      generalize ((wr).drew.setCells blk (off + (a + i) * k) cJ100).setCells blk (off + (b + i) * k) cI100 = w2 at S2 ⊢
      go_wp2
      go_roundg (n - (i + 1))
      case measure => omega
      case rel => exact ⟨i + 1, swp dk (a + i) (b + i), by go_num, by omega, Nat.le_refl _, by rw [size_swp]; exact hds, S2, HR.out.step (by omega) (by omega)⟩
    · have hltz : ¬ (i : Int) < (n : Int) := by omega
      go_wp2
      go_end0
      obtain rfl : i = n := by omega
      exact ⟨rfl, dk, HR.out, S1.out⟩
end Go.Proofs

/- slices.rotateCmpFunc over scarp/api.History: two blocks exchanged. -/
namespace Go.Proofs
open Go.RowKit Go.Lib Go.Sort Go.Shelf
variable {α : Type} [Inhabited α]

set_option maxHeartbeats 4000000 in
set_option maxRecDepth 1000000 in
theorem rotateK {P : Program} {k : Nat} (L : StabK P k) (enc : α → List Value) (blk off cap a m b : Nat) (d0 d : Array α) (w0 w : World) (fv : Value) (R : RowK enc k w0 blk off d0) (hs : d0.size = d.size) (S : SWK enc k w0 blk off (d) (w)) (ham : a < m) (hmb : m < b) (hb : b ≤ d.size) (hsz : d.size < 4611686018427387904) :
    Calls P 95 #[.slice (some ⟨blk, off, none⟩) d.size cap, .int .i64 a, .int .i64 m, .int .i64 b, fv] w fun e w' => e = .returned (.tuple #[]) ∧ ∃ d', Rot a m b d d' ∧ SWK enc k w0 blk off (d') (w') := by
  have mixed : P.follows Departure.mixedOrders = true := L.mixed
  have t0 := L.t0
  have a0 := L.a0
  have z0 := L.z0
  have v0 := L.v0
  have t3 := L.t3
  have a3 := L.a3
  have z3 := L.z3
  have v3 := L.v3
  have t4 := L.t4
  have a4 := L.a4
  have z4 := L.z4
  have v4 := L.v4
  have t5 := L.t5
  have a5 := L.a5
  have z5 := L.z5
  have v5 := L.v5
  have t6 := L.t6
  have a6 := L.a6
  have z6 := L.z6
  have v6 := L.v6
  have t7 := L.t7
  have a7 := L.a7
  have z7 := L.z7
  have v7 := L.v7
  have aE := L.aE
  have zE := L.zE
  have u5 := run_underlying L.t5
  have cSwap := L.cSwap
  have S0 : Aside (SWK enc k w0 blk off (d) (w)) := S
  clear S
  go_enter L.fRot, Try.ntmps95
  go_wp2_with fail
  go_loopg [10, 11] (b - a) (fun kx s10 s11 wr => ∃ (i j : Nat) (dk : Array α), s10 = .int .i64 i ∧ s11 = .int .i64 j ∧ 0 < i ∧ 0 < j ∧ i ≤ m - a ∧ j ≤ b - m ∧ i + j ≤ kx ∧ dk.size = d.size ∧ Aside (SWK enc k w0 blk off (dk) (wr)) ∧ Aside (∀ d', Rot (m - i) m (m + j) dk d' → Rot a m b d d'))
  case atStart => exact ⟨m - a, b - m, d, by rw [show (m : Int) - (a : Int) = ((m - a : Nat) : Int) by omega], by rw [show (b : Int) - (m : Int) = ((b - m : Nat) : Int) by omega], by omega, by omega, Nat.le_refl _, Nat.le_refl _, by omega, rfl, S0, fun d' h => by rwa [show m - (m - a) = a by omega, show m + (b - m) = b by omega] at h⟩
  case round =>
    clear S0
    obtain ⟨i, j, dk, rfl, rfl, hi0, hj0, him, hjm, hkx, hds, S1, HR⟩ := hrel
    by_cases hij : i = j
    · obtain rfl := hij
      have hc := swapRangeK L enc blk off cap (m - i) m i d0 dk w0 wr fv R (by omega) S1.out (by omega) (by omega) (by omega)
      rw [show ((m - i : Nat) : Int) = (m : Int) - (i : Int) by omega, hds] at hc
      go_wp2_with fail
      refine hc.mono ?_
      rintro e w2 ⟨rfl, d2, h2, S2⟩
      have HS2 : Aside _ := S2
      have H2 : Aside _ := h2
      clear S2 h2 hc
      go_wp2
      go_end0
      exact ⟨rfl, d2, HR.out _ (rot_eq (by omega) H2.out), HS2.out⟩
    · have hijz : ¬ (i : Int) = (j : Int) := by omega
      by_cases hgt : j < i
      · have hgtz : (j : Int) < (i : Int) := by omega
        have hc := swapRangeK L enc blk off cap (m - i) m j d0 dk w0 wr fv R (by omega) S1.out (by omega) (by omega) (by omega)
        rw [show ((m - i : Nat) : Int) = (m : Int) - (i : Int) by omega, hds] at hc
        go_wp2_with fail
        refine hc.mono ?_
        rintro e w2 ⟨rfl, d2, h2, S2⟩
        have HS2 : Aside _ := S2
        have H2 : Aside _ := h2
        clear S2 h2 hc
        go_wp2
        go_roundg (i - j + j)
        case measure => omega
        case rel => exact ⟨i - j, j, d2, by rw [show (i : Int) - (j : Int) = ((i - j : Nat) : Int) by omega], rfl, by omega, hj0, by omega, hjm, Nat.le_refl _, by rw [H2.out.perm.1]; exact hds, HS2, fun d' h => HR.out d' (rot_left (by omega) hgt (by omega) H2.out h)⟩
      · have hgtz : ¬ (j : Int) < (i : Int) := by omega
        have hc := swapRangeK L enc blk off cap (m - i) (m + j - i) i d0 dk w0 wr fv R (by omega) S1.out (by omega) (by omega) (by omega)
        rw [show ((m - i : Nat) : Int) = (m : Int) - (i : Int) by omega, show ((m + j - i : Nat) : Int) = (m : Int) + (j : Int) - (i : Int) by omega, hds] at hc
        go_wp2_with fail
        refine hc.mono ?_
        rintro e w2 ⟨rfl, d2, h2, S2⟩
        have HS2 : Aside _ := S2
        have H2 : Aside _ := h2
        clear S2 h2 hc
        go_wp2
        go_roundg (i + (j - i))
        case measure => omega
        case rel => exact ⟨i, j - i, d2, rfl, by rw [show (j : Int) - (i : Int) = ((j - i : Nat) : Int) by omega], hi0, by omega, him, by omega, Nat.le_refl _, by rw [H2.out.perm.1]; exact hds, HS2, fun d' h => HR.out d' (rot_right (by omega) (by omega) (by omega) H2.out h)⟩
end Go.Proofs

/- slices.symMergeCmpFunc over scarp/api.History: two sorted ranges merged in place, ties in their order. -/
namespace Go.Proofs
open Go.RowKit Go.Lib Go.Sort Go.Shelf
variable {α : Type} [Inhabited α]

set_option maxHeartbeats 16000000 in
set_option maxRecDepth 1000000 in
theorem symMergeK_at {P : Program} {k : Nat} (L : StabK P k) (enc : α → List Value) (cf : α → α → Int) (tg : α → Nat) (hS : SWO (ltOf cf)) (g : Nat) (cb : Array Value) (blk off cap : Nat) (d0 : Array α) (w0 : World)
    (eg : ∀ args w, (callFunc g args).run P w = .ok (.enter g args) w) (hcmp : CmpLays P g cb enc k cf blk off d0.size w0) (R : RowK enc k w0 blk off d0) (hsz : d0.size < 4611686018427387904) : ∀ (sz a m b : Nat) (d : Array α) (w : World), b - a ≤ sz → d0.size = d.size → SWK enc k w0 blk off (d) (w) → a < m → m < b → b ≤ d.size → SymPre (ltOf cf) tg a m b d →
    Calls P 84 #[.slice (some ⟨blk, off, none⟩) d.size cap, .int .i64 a, .int .i64 m, .int .i64 b, .func (.func g) #[] cb] w fun e w' => e = .returned (.tuple #[]) ∧ ∃ d', PermIn a b d d' ∧ SortedIn (lx (ltOf cf) tg) a b d' ∧ SWK enc k w0 blk off (d') (w') := by
  intro sz
  induction sz with
  | zero => intro a m b d w h _ _ h1 h2; omega
  | succ sz IH =>
  intro a m b d w hn hs S ham hmb hb hpre
  have mixed : P.follows Departure.mixedOrders = true := L.mixed
  have t0 := L.t0
  have a0 := L.a0
  have z0 := L.z0
  have v0 := L.v0
  have t3 := L.t3
  have a3 := L.a3
  have z3 := L.z3
  have v3 := L.v3
  have t4 := L.t4
  have a4 := L.a4
  have z4 := L.z4
  have v4 := L.v4
  have t5 := L.t5
  have a5 := L.a5
  have z5 := L.z5
  have v5 := L.v5
  have t6 := L.t6
  have a6 := L.a6
  have z6 := L.z6
  have v6 := L.v6
  have t7 := L.t7
  have a7 := L.a7
  have z7 := L.z7
  have v7 := L.v7
  have aE := L.aE
  have zE := L.zE
  have u5 := run_underlying L.t5
  have cRot := L.cRot
  have cSym := L.cSym
  have S0 : Aside (SWK enc k w0 blk off (d) (w)) := S
  have HC : Aside _ := hcmp
  have HP : Aside _ := hpre
  have HI : Aside _ := IH
  clear S hcmp hpre IH
  go_enter L.fSym, Try.ntmps84
  by_cases hm1 : m = a + 1
  · have hm1e : ((m : Int) - (a : Int) == 1) = true := by rw [show (m : Int) - (a : Int) = 1 by omega]; rfl
    have HM1 : Aside (m = a + 1) := hm1
    clear hm1
    go_wp2_with fail
    try simp only [hm1e]
    go_loopg [10, 11] (b - a) (fun kx s10 s11 wr => ∃ i j : Nat, s10 = .int .i64 i ∧ s11 = .int .i64 j ∧ a + 1 ≤ i ∧ i ≤ j ∧ j ≤ b ∧ j - i ≤ kx ∧ Aside (SWK enc k w0 blk off (d) (wr)) ∧ Aside ((a + 1 < i → ltOf cf d[i - 1]! d[a]! = true) ∧ (j < b → ltOf cf d[j]! d[a]! = false)))
    case atStart => exact ⟨m, b, rfl, rfl, by omega, by omega, Nat.le_refl _, by omega, S0, ⟨fun h => absurd h (by have := HM1.out; omega), fun h => absurd h (Nat.lt_irrefl _)⟩⟩
    case round =>
      clear S0
      obtain ⟨i, j, rfl, rfl, hai, hij, hjb, hkx, S1, HB⟩ := hrel
      by_cases hlt : i < j
      · have hltz : (i : Int) < (j : Int) := by omega
        obtain ⟨h, hh⟩ : ∃ h, (i + j) / 2 = h := ⟨_, rfl⟩
        have hhz : ((i : Int) + (j : Int)) / 2 = (h : Int) := by omega
        have hih : i ≤ h := by omega
        have hhj : h < j := by omega
        cases hlv : ltOf cf d[h]! d[a]! with
        | true =>
          go_wp2_with fail
          have ea100 : ((h : Int)).toNat = h := by omega
          have ec100 : ((a : Int)).toNat = a := by omega
          have pa100 : (0 : Int) ≤ (h : Int) := by omega
          have ba100 : (h : Int) < (d.size : Int) := by omega
          have ra100 : IntKind.i64.wrap ((h : Int)) = (h : Int) := by rw [IntKind.wrap_i64]; omega
          have pc100 : (0 : Int) ≤ (a : Int) := by omega
          have bc100 : (a : Int) < (d.size : Int) := by omega
          have rc100 : IntKind.i64.wrap ((a : Int)) = (a : Int) := by rw [IntKind.wrap_i64]; omega
          obtain ⟨x100, hx100⟩ : ∃ x, x = d[h]! := ⟨_, rfl⟩
          obtain ⟨y100, hy100⟩ : ∃ x, x = d[a]! := ⟨_, rfl⟩
          have l100a := S1.out.ld R (by omega) P (h) (by omega)
          have l100b := S1.out.ld R (by omega) P (a) (by omega)
          rw [← hx100] at l100a
          rw [← hy100] at l100b
          have hv100 : cf x100 y100 < 0 := by rw [hx100, hy100]; exact of_decide_eq_true hlv
          have hd100 : decide (cf x100 y100 < 0) = true := decide_eq_true hv100
          have hc100 := S1.out.cmp HC.out (by omega) x100 y100
          clear hx100 hy100
          go_wp2_with fail
          go_quiet_grown (first | (go_at_fn g; refine Calls.grown_of (hc100 _ _)))
          have S2 : Aside (SWK enc k w0 blk off (d) (grow ((wr).drewN nq) osq)) := S1.out.grown nq osq
          clear l100a l100b hc100 S1
          generalize grow ((wr).drewN nq) osq = w2 at S2 ⊢
          clear nq osq
          clear ea100 ec100
          go_wp2
          go_roundg (j - (h + 1))
          case measure => omega
          case rel => exact ⟨h + 1, j, by go_num, rfl, by omega, by omega, hjb, Nat.le_refl _, S2, ⟨fun _ => by rw [Nat.add_sub_cancel]; exact hlv, HB.out.2⟩⟩
        | false =>
          go_wp2_with fail
          have ea101 : ((h : Int)).toNat = h := by omega
          have ec101 : ((a : Int)).toNat = a := by omega
          have pa101 : (0 : Int) ≤ (h : Int) := by omega
          have ba101 : (h : Int) < (d.size : Int) := by omega
          have ra101 : IntKind.i64.wrap ((h : Int)) = (h : Int) := by rw [IntKind.wrap_i64]; omega
          have pc101 : (0 : Int) ≤ (a : Int) := by omega
          have bc101 : (a : Int) < (d.size : Int) := by omega
          have rc101 : IntKind.i64.wrap ((a : Int)) = (a : Int) := by rw [IntKind.wrap_i64]; omega
          obtain ⟨x101, hx101⟩ : ∃ x, x = d[h]! := ⟨_, rfl⟩
          obtain ⟨y101, hy101⟩ : ∃ x, x = d[a]! := ⟨_, rfl⟩
          have l101a := S1.out.ld R (by omega) P (h) (by omega)
          have l101b := S1.out.ld R (by omega) P (a) (by omega)
          rw [← hx101] at l101a
          rw [← hy101] at l101b
          have hv101 : ¬ cf x101 y101 < 0 := by rw [hx101, hy101]; exact of_decide_eq_false hlv
          have hd101 : decide (cf x101 y101 < 0) = false := decide_eq_false hv101
          have hc101 := S1.out.cmp HC.out (by omega) x101 y101
          clear hx101 hy101
          go_wp2_with fail
          go_quiet_grown (first | (go_at_fn g; refine Calls.grown_of (hc101 _ _)))
          have S2 : Aside (SWK enc k w0 blk off (d) (grow ((wr).drewN nq) osq)) := S1.out.grown nq osq
          clear l101a l101b hc101 S1
          generalize grow ((wr).drewN nq) osq = w2 at S2 ⊢
          clear nq osq
          clear ea101 ec101
          go_wp2
          go_roundg (h - i)
          case measure => omega
          case rel => exact ⟨i, h, rfl, rfl, hai, by omega, by omega, Nat.le_refl _, S2, ⟨HB.out.1, fun _ => hlv⟩⟩
      · obtain rfl : i = j := by omega
        have hltz : ¬ (i : Int) < (i : Int) := by omega
        go_wp2_with fail
        go_loopg [13] (b - a) (fun kx s13 wr => ∃ (k2 : Nat) (dk : Array α), s13 = .int .i64 k2 ∧ a ≤ k2 ∧ k2 + 1 ≤ i ∧ i - k2 ≤ kx ∧ dk.size = d.size ∧ Aside (SWK enc k w0 blk off (dk) (wr)) ∧ Aside (Rot a (a + 1) (k2 + 1) d dk))
        case atStart => exact ⟨a, d, rfl, Nat.le_refl _, hai, by omega, rfl, S1, Rot.idR a (a + 1) (Nat.le_succ a) d⟩
        case round =>
          clear S1
          obtain ⟨k2, dk, rfl, hak, hki, hkx2, hds, S3, HR⟩ := hrel
          by_cases hlt2 : k2 + 1 < i
          · have hlt2z : (k2 : Int) < (i : Int) - 1 := by omega
            have ea102 : ((k2 : Int)).toNat = k2 := by omega
            have ec102 : ((k2 : Int) + 1).toNat = k2 + 1 := by omega
            have pa102 : (0 : Int) ≤ (k2 : Int) := by omega
            have ba102 : (k2 : Int) < (d.size : Int) := by omega
            have ra102 : IntKind.i64.wrap ((k2 : Int)) = (k2 : Int) := by rw [IntKind.wrap_i64]; omega
            have pc102 : (0 : Int) ≤ (k2 : Int) + 1 := by omega
            have bc102 : (k2 : Int) + 1 < (d.size : Int) := by omega
            have rc102 : IntKind.i64.wrap ((k2 : Int) + 1) = (k2 : Int) + 1 := by rw [IntKind.wrap_i64]; omega
            have S4 : Aside (SWK enc k w0 blk off (swp dk (k2) (k2 + 1)) (((wr).drew.setCells blk (off + (k2) * k) (enc dk[k2 + 1]!)).setCells blk (off + (k2 + 1) * k) (enc dk[k2]!))) := S3.out.swapped R (k2) (k2 + 1) (by omega) (by omega)
            have l102a := S3.out.ld1 R (by omega) P (k2) (by omega)
            have l102b := S3.out.ld1 R (by omega) P (k2 + 1) (by omega)
            have s102a := S3.out.st1 R (by omega) P (k2) (by omega) dk[k2 + 1]!
            have s102b := S3.out.st2 R (by omega) P (k2) (k2 + 1) (by omega) (by omega) dk[k2 + 1]! dk[k2]!
            have n102a : (enc dk[k2]!).length = k := R.hk _
            have n102b : (enc dk[k2 + 1]!).length = k := R.hk _
            generalize enc dk[k2]! = cI102 at S4 l102a s102b n102a
            generalize enc dk[k2 + 1]! = cJ102 at S4 l102b s102a s102b n102b
            clear S3
            go_wp2_with fail
            go_big_region_o
            clear l102a l102b s102a s102b
            generalize ((wr).drew.setCells blk (off + (k2) * k) cJ102).setCells blk (off + (k2 + 1) * k) cI102 = w4 at S4 ⊢
            go_wp2
            go_roundg (i - (k2 + 1))
            case measure => omega
            case rel => exact ⟨k2 + 1, swp dk k2 (k2 + 1), by go_num, by omega, by omega, Nat.le_refl _, by rw [size_swp]; exact hds, S4, rot_shiftL HR.out hak (by omega)⟩
          · obtain rfl : i = k2 + 1 := by omega
            have hlt2z : ¬ (k2 : Int) < ((k2 + 1 : Nat) : Int) - 1 := by omega
            go_wp2
            ((try simp only [Exit.inBlock, Exit.then]); refine bodyPost_ret (results_none rfl _ _ _) rfl ?_)
            exact ⟨rfl, dk, permIn_mono _ _ _ _ a b (Nat.le_refl _) hjb (by omega) HR.out.perm, merge_oneL hS (by omega) (by have := HP.out; rwa [HM1.out] at this) (by omega) hjb HB.out.1 HB.out.2 HR.out, S3.out⟩
  · have hm1e : ((m : Int) - (a : Int) == 1) = false := by simp; omega
    by_cases hb1 : b = m + 1
    · have hb1e : ((b : Int) - (m : Int) == 1) = true := by rw [show (b : Int) - (m : Int) = 1 by omega]; rfl
      have HB1 : Aside (b = m + 1) := hb1
      clear hb1
      go_wp2_with fail
      try simp only [hm1e, hb1e]
      go_loopg [14, 15] (m - a) (fun kx s10 s11 wr => ∃ i j : Nat, s10 = .int .i64 i ∧ s11 = .int .i64 j ∧ a ≤ i ∧ i ≤ j ∧ j ≤ m ∧ j - i ≤ kx ∧ Aside (SWK enc k w0 blk off (d) (wr)) ∧ Aside ((a < i → ltOf cf d[m]! d[i - 1]! = false) ∧ (j < m → ltOf cf d[m]! d[j]! = true)))
      case atStart => exact ⟨a, m, rfl, rfl, Nat.le_refl _, by omega, Nat.le_refl _, by omega, S0, ⟨fun h => absurd h (Nat.lt_irrefl _), fun h => absurd h (Nat.lt_irrefl _)⟩⟩
      case round =>
        clear S0
        obtain ⟨i, j, rfl, rfl, hai, hij, hjb, hkx, S1, HB⟩ := hrel
        by_cases hlt : i < j
        · have hltz : (i : Int) < (j : Int) := by omega
          obtain ⟨h, hh⟩ : ∃ h, (i + j) / 2 = h := ⟨_, rfl⟩
          have hhz : ((i : Int) + (j : Int)) / 2 = (h : Int) := by omega
          have hih : i ≤ h := by omega
          have hhj : h < j := by omega
          cases hlv : ltOf cf d[m]! d[h]! with
          | true =>
            go_wp2_with fail
            have ea103 : ((m : Int)).toNat = m := by omega
            have ec103 : ((h : Int)).toNat = h := by omega
            have pa103 : (0 : Int) ≤ (m : Int) := by omega
            have ba103 : (m : Int) < (d.size : Int) := by omega
            have ra103 : IntKind.i64.wrap ((m : Int)) = (m : Int) := by rw [IntKind.wrap_i64]; omega
            have pc103 : (0 : Int) ≤ (h : Int) := by omega
            have bc103 : (h : Int) < (d.size : Int) := by omega
            have rc103 : IntKind.i64.wrap ((h : Int)) = (h : Int) := by rw [IntKind.wrap_i64]; omega
            obtain ⟨x103, hx103⟩ : ∃ x, x = d[m]! := ⟨_, rfl⟩
            obtain ⟨y103, hy103⟩ : ∃ x, x = d[h]! := ⟨_, rfl⟩
            have l103a := S1.out.ld R (by omega) P (m) (by omega)
            have l103b := S1.out.ld R (by omega) P (h) (by omega)
            rw [← hx103] at l103a
            rw [← hy103] at l103b
            have hv103 : cf x103 y103 < 0 := by rw [hx103, hy103]; exact of_decide_eq_true hlv
            have hd103 : decide (cf x103 y103 < 0) = true := decide_eq_true hv103
            have hc103 := S1.out.cmp HC.out (by omega) x103 y103
            clear hx103 hy103
            go_wp2_with fail
            go_quiet_grown (first | (go_at_fn g; refine Calls.grown_of (hc103 _ _)))
            have S2 : Aside (SWK enc k w0 blk off (d) (grow ((wr).drewN nq) osq)) := S1.out.grown nq osq
            clear l103a l103b hc103 S1
            generalize grow ((wr).drewN nq) osq = w2 at S2 ⊢
            clear nq osq
            clear ea103 ec103
            go_wp2
            go_roundg (h - i)
            case measure => omega
            case rel => exact ⟨i, h, rfl, rfl, hai, by omega, by omega, Nat.le_refl _, S2, ⟨HB.out.1, fun _ => hlv⟩⟩
          | false =>
            go_wp2_with fail
            have ea104 : ((m : Int)).toNat = m := by omega
            have ec104 : ((h : Int)).toNat = h := by omega
            have pa104 : (0 : Int) ≤ (m : Int) := by omega
            have ba104 : (m : Int) < (d.size : Int) := by omega
            have ra104 : IntKind.i64.wrap ((m : Int)) = (m : Int) := by rw [IntKind.wrap_i64]; omega
            have pc104 : (0 : Int) ≤ (h : Int) := by omega
            have bc104 : (h : Int) < (d.size : Int) := by omega
            have rc104 : IntKind.i64.wrap ((h : Int)) = (h : Int) := by rw [IntKind.wrap_i64]; omega
            obtain ⟨x104, hx104⟩ : ∃ x, x = d[m]! := ⟨_, rfl⟩
            obtain ⟨y104, hy104⟩ : ∃ x, x = d[h]! := ⟨_, rfl⟩
            have l104a := S1.out.ld R (by omega) P (m) (by omega)
            have l104b := S1.out.ld R (by omega) P (h) (by omega)
            rw [← hx104] at l104a
            rw [← hy104] at l104b
            have hv104 : ¬ cf x104 y104 < 0 := by rw [hx104, hy104]; exact of_decide_eq_false hlv
            have hd104 : decide (cf x104 y104 < 0) = false := decide_eq_false hv104
            have hc104 := S1.out.cmp HC.out (by omega) x104 y104
            clear hx104 hy104
            go_wp2_with fail
            go_quiet_grown (first | (go_at_fn g; refine Calls.grown_of (hc104 _ _)))
            have S2 : Aside (SWK enc k w0 blk off (d) (grow ((wr).drewN nq) osq)) := S1.out.grown nq osq
            clear l104a l104b hc104 S1
            generalize grow ((wr).drewN nq) osq = w2 at S2 ⊢
            clear nq osq
            clear ea104 ec104
            go_wp2
            go_roundg (j - (h + 1))
            case measure => omega
            case rel => exact ⟨h + 1, j, by go_num, rfl, by omega, by omega, hjb, Nat.le_refl _, S2, ⟨fun _ => by rw [Nat.add_sub_cancel]; exact hlv, HB.out.2⟩⟩
        · obtain rfl : i = j := by omega
          have hltz : ¬ (i : Int) < (i : Int) := by omega
          go_wp2_with fail
          go_loopg [17] (m - a) (fun kx s17 wr => ∃ (k2 : Nat) (dk : Array α), s17 = .int .i64 k2 ∧ i ≤ k2 ∧ k2 ≤ m ∧ k2 - i ≤ kx ∧ dk.size = d.size ∧ Aside (SWK enc k w0 blk off (dk) (wr)) ∧ Aside (Rot k2 m (m + 1) d dk))
          case atStart => exact ⟨m, d, rfl, hjb, Nat.le_refl _, by omega, rfl, S1, Rot.idL m (m + 1) (Nat.le_succ m) d⟩
          case round =>
            clear S1
            obtain ⟨k2, dk, rfl, hak, hki, hkx2, hds, S3, HR⟩ := hrel
            by_cases hlt2 : i < k2
            · obtain ⟨kp, rfl⟩ : ∃ kp, k2 = kp + 1 := ⟨k2 - 1, by omega⟩
              have hlt2z : (i : Int) < (kp : Int) + 1 := by omega
              have kz : ((kp + 1 : Nat) : Int) = (kp : Int) + 1 := by omega
              have kw : IntKind.i64.wrap (kp : Int) = (kp : Int) := by rw [IntKind.wrap_i64]; omega
              rw [kz]
              have ea105 : ((kp : Int) + 1).toNat = kp + 1 := by omega
              have ec105 : ((kp : Int)).toNat = kp := by omega
              have pa105 : (0 : Int) ≤ (kp : Int) + 1 := by omega
              have ba105 : (kp : Int) + 1 < (d.size : Int) := by omega
              have ra105 : IntKind.i64.wrap ((kp : Int) + 1) = (kp : Int) + 1 := by rw [IntKind.wrap_i64]; omega
              have pc105 : (0 : Int) ≤ (kp : Int) := by omega
              have bc105 : (kp : Int) < (d.size : Int) := by omega
              have rc105 : IntKind.i64.wrap ((kp : Int)) = (kp : Int) := by rw [IntKind.wrap_i64]; omega
              have S4 : Aside (SWK enc k w0 blk off (swp dk (kp + 1) (kp)) (((wr).drew.setCells blk (off + (kp + 1) * k) (enc dk[kp]!)).setCells blk (off + (kp) * k) (enc dk[kp + 1]!))) := S3.out.swapped R (kp + 1) (kp) (by omega) (by omega)
              have l105a := S3.out.ld1 R (by omega) P (kp + 1) (by omega)
              have l105b := S3.out.ld1 R (by omega) P (kp) (by omega)
              have s105a := S3.out.st1 R (by omega) P (kp + 1) (by omega) dk[kp]!
              have s105b := S3.out.st2 R (by omega) P (kp + 1) (kp) (by omega) (by omega) dk[kp]! dk[kp + 1]!
              have n105a : (enc dk[kp + 1]!).length = k := R.hk _
              have n105b : (enc dk[kp]!).length = k := R.hk _
              generalize enc dk[kp + 1]! = cI105 at S4 l105a s105b n105a
              generalize enc dk[kp]! = cJ105 at S4 l105b s105a s105b n105b
              clear S3
              go_wp2_with fail
              go_big_region_o
              clear l105a l105b s105a s105b
              generalize ((wr).drew.setCells blk (off + (kp + 1) * k) cJ105).setCells blk (off + (kp) * k) cI105 = w4 at S4 ⊢
              go_wp2
              go_roundg (kp - i)
              case measure => omega
              case rel => exact ⟨kp, swp dk (kp + 1) kp, by first | rfl | go_num | (congr 1; omega), by omega, by omega, Nat.le_refl _, by rw [size_swp]; exact hds, S4, rot_shiftR HR.out (by omega) (by omega)⟩
            · obtain rfl : i = k2 := by omega
              have hlt2z : ¬ (i : Int) < (i : Int) := by omega
              go_wp2
              ((try simp only [Exit.inBlock, Exit.then]); refine bodyPost_ret (results_none rfl _ _ _) rfl ?_)
              have hbm := HB1.out
              have hpp := HP.out
              rw [hbm] at hpp
              exact ⟨rfl, dk, permIn_mono _ _ _ _ a b hai (by omega) hb HR.out.perm, by rw [hbm]; exact merge_oneR hS (by omega) hpp hai hjb HB.out.1 HB.out.2 HR.out, S3.out⟩
    · have hb1e : ((b : Int) - (m : Int) == 1) = false := by simp; omega
      obtain ⟨mid, hmid⟩ : ∃ h, (a + b) / 2 = h := ⟨_, rfl⟩
      have hmidz : ((a : Int) + (b : Int)) / 2 = (mid : Int) := by omega
      obtain ⟨st0, hst0⟩ : ∃ s, s = if mid < m then mid + m - b else a := ⟨_, rfl⟩
      obtain ⟨r0, hr0⟩ : ∃ s, s = if mid < m then mid else m := ⟨_, rfl⟩
      have hsr : a ≤ st0 ∧ st0 ≤ r0 ∧ r0 ≤ m ∧ r0 ≤ mid ∧ (mid < m → st0 = mid + m - b ∧ r0 = mid) ∧ (¬ mid < m → st0 = a ∧ r0 = m) := by
        by_cases h : mid < m
        · rw [if_pos h] at hst0 hr0; omega
        · rw [if_neg h] at hst0 hr0; omega
      clear hst0 hr0
      obtain ⟨q1, q2, q3, q4, q5, q6⟩ := hsr
      obtain ⟨pN, hpN⟩ : ∃ p, p + 1 = mid + m := ⟨mid + m - 1, by omega⟩
      have hpz : (mid : Int) + (m : Int) - 1 = (pN : Int) := by omega
      by_cases hmm : mid < m
      · have hmmq := q5 hmm
        have hmmz : (m : Int) > (mid : Int) := by omega
        have HQ : Aside (st0 = mid + m - b ∧ r0 = mid) := hmmq
        clear hmmq q5 q6
        go_wp2_with fail
        try simp only [hm1e, hb1e]
        go_loopg [20, 21] (b - a) (fun kx s20 s21 wr => ∃ i j : Nat, s20 = .int .i64 i ∧ s21 = .int .i64 j ∧ st0 ≤ i ∧ i ≤ j ∧ j ≤ r0 ∧ j - i ≤ kx ∧ Aside (SWK enc k w0 blk off (d) (wr)) ∧ Aside ((st0 < i → ltOf cf d[pN + 1 - i]! d[i - 1]! = false) ∧ (j < r0 → ltOf cf d[pN - j]! d[j]! = true)))
        case atStart => exact ⟨st0, r0, by have := HQ.out; first | rfl | (congr 1; omega), by have := HQ.out; first | rfl | (congr 1; omega), Nat.le_refl _, q2, Nat.le_refl _, by omega, S0, ⟨fun h => absurd h (Nat.lt_irrefl _), fun h => absurd h (Nat.lt_irrefl _)⟩⟩
        case round =>
          clear S0
          obtain ⟨i, j, rfl, rfl, hai, hij, hjb, hkx, S1, HB⟩ := hrel
          by_cases hlt : i < j
          · have hltz : (i : Int) < (j : Int) := by omega
            obtain ⟨h, hh⟩ : ∃ h, (i + j) / 2 = h := ⟨_, rfl⟩
            have hhz : ((i : Int) + (j : Int)) / 2 = (h : Int) := by omega
            have hih : i ≤ h := by omega
            have hhj : h < j := by omega
            obtain ⟨pc, hpc0⟩ : ∃ pc, pc + h = pN := ⟨pN - h, by have := HQ.out; omega⟩
            have hpcz : (pN : Int) - (h : Int) = (pc : Int) := by omega
            have hpc : pc < b := by have := HQ.out; omega
            cases hlv : ltOf cf d[pc]! d[h]! with
            | true =>
              go_wp2_with fail
              have ea106 : ((pc : Int)).toNat = pc := by omega
              have ec106 : ((h : Int)).toNat = h := by omega
              have pa106 : (0 : Int) ≤ (pc : Int) := by omega
              have ba106 : (pc : Int) < (d.size : Int) := by omega
              have ra106 : IntKind.i64.wrap ((pc : Int)) = (pc : Int) := by rw [IntKind.wrap_i64]; omega
              have pc106 : (0 : Int) ≤ (h : Int) := by omega
              have bc106 : (h : Int) < (d.size : Int) := by omega
              have rc106 : IntKind.i64.wrap ((h : Int)) = (h : Int) := by rw [IntKind.wrap_i64]; omega
              obtain ⟨x106, hx106⟩ : ∃ x, x = d[pc]! := ⟨_, rfl⟩
              obtain ⟨y106, hy106⟩ : ∃ x, x = d[h]! := ⟨_, rfl⟩
              have l106a := S1.out.ld R (by omega) P (pc) (by omega)
              have l106b := S1.out.ld R (by omega) P (h) (by omega)
              rw [← hx106] at l106a
              rw [← hy106] at l106b
              have hv106 : cf x106 y106 < 0 := by rw [hx106, hy106]; exact of_decide_eq_true hlv
              have hd106 : decide (cf x106 y106 < 0) = true := decide_eq_true hv106
              have hc106 := S1.out.cmp HC.out (by omega) x106 y106
              clear hx106 hy106
              go_wp2_with fail
              go_quiet_grown (first | (go_at_fn g; refine Calls.grown_of (hc106 _ _)))
              have S2 : Aside (SWK enc k w0 blk off (d) (grow ((wr).drewN nq) osq)) := S1.out.grown nq osq
              clear l106a l106b hc106 S1
              generalize grow ((wr).drewN nq) osq = w2 at S2 ⊢
              clear nq osq
              clear ea106 ec106
              go_wp2
              go_roundg (h - i)
              case measure => omega
              case rel => exact ⟨i, h, rfl, rfl, hai, by omega, by omega, Nat.le_refl _, S2, ⟨HB.out.1, fun _ => by rw [show pN - h = pc by omega]; exact hlv⟩⟩
            | false =>
              go_wp2_with fail
              have ea107 : ((pc : Int)).toNat = pc := by omega
              have ec107 : ((h : Int)).toNat = h := by omega
              have pa107 : (0 : Int) ≤ (pc : Int) := by omega
              have ba107 : (pc : Int) < (d.size : Int) := by omega
              have ra107 : IntKind.i64.wrap ((pc : Int)) = (pc : Int) := by rw [IntKind.wrap_i64]; omega
              have pc107 : (0 : Int) ≤ (h : Int) := by omega
              have bc107 : (h : Int) < (d.size : Int) := by omega
              have rc107 : IntKind.i64.wrap ((h : Int)) = (h : Int) := by rw [IntKind.wrap_i64]; omega
              obtain ⟨x107, hx107⟩ : ∃ x, x = d[pc]! := ⟨_, rfl⟩
              obtain ⟨y107, hy107⟩ : ∃ x, x = d[h]! := ⟨_, rfl⟩
              have l107a := S1.out.ld R (by omega) P (pc) (by omega)
              have l107b := S1.out.ld R (by omega) P (h) (by omega)
              rw [← hx107] at l107a
              rw [← hy107] at l107b
              have hv107 : ¬ cf x107 y107 < 0 := by rw [hx107, hy107]; exact of_decide_eq_false hlv
              have hd107 : decide (cf x107 y107 < 0) = false := decide_eq_false hv107
              have hc107 := S1.out.cmp HC.out (by omega) x107 y107
              clear hx107 hy107
              go_wp2_with fail
              go_quiet_grown (first | (go_at_fn g; refine Calls.grown_of (hc107 _ _)))
              have S2 : Aside (SWK enc k w0 blk off (d) (grow ((wr).drewN nq) osq)) := S1.out.grown nq osq
              clear l107a l107b hc107 S1
              generalize grow ((wr).drewN nq) osq = w2 at S2 ⊢
              clear nq osq
              clear ea107 ec107
              go_wp2
              go_roundg (j - (h + 1))
              case measure => omega
              case rel => exact ⟨h + 1, j, by go_num, rfl, by omega, by omega, hjb, Nat.le_refl _, S2, ⟨fun _ => by rw [Nat.add_sub_cancel, show pN + 1 - (h + 1) = pc by omega]; exact hlv, HB.out.2⟩⟩
          · obtain rfl : i = j := by omega
            have hltz : ¬ (i : Int) < (i : Int) := by omega
            obtain ⟨en, hen⟩ : ∃ en, mid + m - i = en := ⟨_, rfl⟩
            have hq := HQ.out
            have henz : (mid : Int) + (m : Int) - (i : Int) = (en : Int) := by omega
            have hebr : m ≤ en ∧ en ≤ b ∧ i ≤ m ∧ a ≤ i ∧ i + (en - m) = mid ∧ mid ≤ en ∧ i ≤ mid := by omega
            obtain ⟨e1, e2, e3, e4, e5, e6, e7⟩ := hebr
            have hcut : ∀ d1, Rot i m en d d1 → SymPre (ltOf cf) tg a i mid d1 ∧ SymPre (ltOf cf) tg mid en b d1 ∧ ∀ p q, a ≤ p → p < mid → mid ≤ q → q < b → lx (ltOf cf) tg d1[q]! d1[p]! = false := fun d1 hr => by
              have := merge_cut hS HP.out e4 e3 e1 e2 (fun h1 h2 => by rw [show en = pN + 1 - i by omega]; exact HB.out.1 (by omega)) (fun h1 h2 => by rw [show en - 1 = pN - i by omega]; exact HB.out.2 (by omega)) hr
              rwa [e5] at this
            have HCUT : Aside _ := hcut
            clear hcut hq
            have hr : ∀ wX, Aside (SWK enc k w0 blk off (d) (wX)) → i < m → m < en → Calls P 95 #[.slice (some ⟨blk, off, none⟩) d.size cap, .int .i64 i, .int .i64 m, .int .i64 en, .func (.func g) #[] cb] wX fun e w' => e = .returned (.tuple #[]) ∧ ∃ d', Rot i m en d d' ∧ SWK enc k w0 blk off (d') (w') := fun wX SX h1 h2 => rotateK L enc blk off cap i m en d0 d w0 wX _ R hs SX.out h1 h2 (by omega) (by omega)
            have hsy : ∀ (a2 m2 b2 : Nat) d1 wX, b2 - a2 ≤ sz → d1.size = d.size → Aside (SWK enc k w0 blk off (d1) (wX)) → a2 < m2 → m2 < b2 → b2 ≤ b → SymPre (ltOf cf) tg a2 m2 b2 d1 → Calls P 84 #[.slice (some ⟨blk, off, none⟩) d.size cap, .int .i64 a2, .int .i64 m2, .int .i64 b2, .func (.func g) #[] cb] wX fun e w' => e = .returned (.tuple #[]) ∧ ∃ d', PermIn a2 b2 d1 d' ∧ SortedIn (lx (ltOf cf) tg) a2 b2 d' ∧ SWK enc k w0 blk off (d') (w') := fun a2 m2 b2 d1 wX h1 h2 SX h3 h4 h5 h6 => by
              have := HI.out a2 m2 b2 d1 wX h1 (by omega) SX.out h3 h4 (by omega) h6
              rwa [h2] at this
            have HR : Aside _ := hr
            have HSY : Aside _ := hsy
            clear hr hsy HB
            by_cases c1 : i < m ∧ m < en
            · have c1a : (i : Int) < (m : Int) := by omega
              have c1b : (m : Int) < (en : Int) := by omega
              go_wp2_with fail
              refine (HR.out _ S1 c1.1 c1.2).mono ?_
              rintro e wA ⟨rfl, d1, hr1, SA0⟩
              have SA : Aside _ := SA0
              have R1 : Aside _ := hr1
              have z1 : d1.size = d.size := hr1.perm.1
              clear SA0 hr1 S1
              have X1 : Aside _ := HCUT.out d1 R1.out
              by_cases c2 : a < i ∧ i < mid
              · have c2a : (a : Int) < (i : Int) := by omega
                have c2b : (i : Int) < (mid : Int) := by omega
                go_wp2_with fail
                refine (HSY.out a i mid d1 _ (by omega) z1 SA c2.1 c2.2 (by omega) X1.out.1).mono ?_
                rintro e wB ⟨rfl, d2, p2, s2, SB0⟩
                have SB : Aside _ := SB0
                have P2 : Aside (PermIn a mid d1 d2) := p2
                have T2 : Aside _ := s2
                have z2 : d2.size = d.size := p2.1.trans z1
                clear SB0 p2 s2 SA
                by_cases c3 : mid < en ∧ en < b
                · have c3a : (mid : Int) < (en : Int) := by omega
                  have c3b : (en : Int) < (b : Int) := by omega
                  go_wp2_with fail
                  refine (HSY.out mid en b d2 _ (by omega) z2 SB c3.1 c3.2 (Nat.le_refl _) (X1.out.2.1.upd P2.out (Or.inr (Nat.le_refl _)) e6 e2)).mono ?_
                  rintro e wC ⟨rfl, d3, p3, s3, SC0⟩
                  have SC : Aside _ := SC0
                  have P3 : Aside (PermIn mid b d2 d3) := p3
                  have T3 : Aside _ := s3
                  clear SC0 p3 s3 SB
                  go_wp2
                  go_end0
                  obtain ⟨f1, f2⟩ := merge_end e4 e7 e6 e2 hb R1.out X1.out.2.2 P2.out T2.out P3.out T3.out
                  exact ⟨rfl, d3, f1, f2, SC.out⟩
                · have c3a : ¬ ((mid : Int) < (en : Int) ∧ (en : Int) < (b : Int)) := by omega
                  have c3c : (mid : Int) < (en : Int) → ¬ (en : Int) < (b : Int) := fun h1 h2 => c3a ⟨h1, h2⟩
                  go_wp2
                  all_goals
                    go_end0
                    obtain ⟨f1, f2⟩ := merge_end e4 e7 e6 e2 hb R1.out X1.out.2.2 P2.out T2.out (permIn_refl d2 mid b) ((X1.out.2.1.upd P2.out (Or.inr (Nat.le_refl _)) e6 e2).one (by omega))
                    exact ⟨rfl, d2, f1, f2, SB.out⟩
              · have c2a : ¬ ((a : Int) < (i : Int) ∧ (i : Int) < (mid : Int)) := by omega
                have c2c : (a : Int) < (i : Int) → ¬ (i : Int) < (mid : Int) := fun h1 h2 => c2a ⟨h1, h2⟩
                obtain ⟨d2, hd2⟩ : ∃ d2, d2 = d1 := ⟨_, rfl⟩
                have SB : Aside (SWK enc k w0 blk off (d2) (wA)) := by rw [hd2]; exact SA
                have z2 : d2.size = d.size := by rw [hd2]; exact z1
                have P2 : Aside (PermIn a mid d1 d2) := by rw [hd2]; exact permIn_refl d1 a mid
                have T2 : Aside (SortedIn (lx (ltOf cf) tg) a mid d2) := by rw [hd2]; exact X1.out.1.one (by omega)
                clear hd2 SA
                by_cases c3 : mid < en ∧ en < b
                · exfalso; omega
                · have c3a : ¬ ((mid : Int) < (en : Int) ∧ (en : Int) < (b : Int)) := by omega
                  have c3c : (mid : Int) < (en : Int) → ¬ (en : Int) < (b : Int) := fun h1 h2 => c3a ⟨h1, h2⟩
                  go_wp2
                  all_goals
                    go_end0
                    obtain ⟨f1, f2⟩ := merge_end e4 e7 e6 e2 hb R1.out X1.out.2.2 P2.out T2.out (permIn_refl d2 mid b) ((X1.out.2.1.upd P2.out (Or.inr (Nat.le_refl _)) e6 e2).one (by omega))
                    exact ⟨rfl, d2, f1, f2, SB.out⟩
            · have c1a : ¬ ((i : Int) < (m : Int) ∧ (m : Int) < (en : Int)) := by omega
              have R1 : Aside (Rot i m en d d) := by
                by_cases h : i = m
                · rw [h]; exact Rot.idL m en e1 d
                · rw [show en = m by omega]; exact Rot.idR i m e3 d
              obtain ⟨d1, hd1⟩ : ∃ d1, d1 = d := ⟨_, rfl⟩
              have SA : Aside (SWK enc k w0 blk off (d1) (wr)) := by rw [hd1]; exact S1
              have z1 : d1.size = d.size := by rw [hd1]
              rw [show Rot i m en d d = Rot i m en d d1 by rw [hd1]] at R1
              clear hd1 S1
              have c1c : (i : Int) < (m : Int) → ¬ (m : Int) < (en : Int) := fun h1 h2 => c1a ⟨h1, h2⟩
              have X1 : Aside _ := HCUT.out d1 R1.out
              by_cases c2 : a < i ∧ i < mid
              · exfalso; omega
              · have c2a : ¬ ((a : Int) < (i : Int) ∧ (i : Int) < (mid : Int)) := by omega
                have c2c : (a : Int) < (i : Int) → ¬ (i : Int) < (mid : Int) := fun h1 h2 => c2a ⟨h1, h2⟩
                obtain ⟨d2, hd2⟩ : ∃ d2, d2 = d1 := ⟨_, rfl⟩
                have SB : Aside (SWK enc k w0 blk off (d2) (wr)) := by rw [hd2]; exact SA
                have z2 : d2.size = d.size := by rw [hd2]; exact z1
                have P2 : Aside (PermIn a mid d1 d2) := by rw [hd2]; exact permIn_refl d1 a mid
                have T2 : Aside (SortedIn (lx (ltOf cf) tg) a mid d2) := by rw [hd2]; exact X1.out.1.one (by omega)
                clear hd2 SA
                by_cases c3 : mid < en ∧ en < b
                · have c3a : (mid : Int) < (en : Int) := by omega
                  have c3b : (en : Int) < (b : Int) := by omega
                  go_wp2_with fail
                  refine (HSY.out mid en b d2 _ (by omega) z2 SB c3.1 c3.2 (Nat.le_refl _) (X1.out.2.1.upd P2.out (Or.inr (Nat.le_refl _)) e6 e2)).mono ?_
                  rintro e wC ⟨rfl, d3, p3, s3, SC0⟩
                  have SC : Aside _ := SC0
                  have P3 : Aside (PermIn mid b d2 d3) := p3
                  have T3 : Aside _ := s3
                  clear SC0 p3 s3 SB
                  go_wp2
                  go_end0
                  obtain ⟨f1, f2⟩ := merge_end e4 e7 e6 e2 hb R1.out X1.out.2.2 P2.out T2.out P3.out T3.out
                  exact ⟨rfl, d3, f1, f2, SC.out⟩
                · have c3a : ¬ ((mid : Int) < (en : Int) ∧ (en : Int) < (b : Int)) := by omega
                  have c3c : (mid : Int) < (en : Int) → ¬ (en : Int) < (b : Int) := fun h1 h2 => c3a ⟨h1, h2⟩
                  go_wp2
                  all_goals
                    go_end0
                    obtain ⟨f1, f2⟩ := merge_end e4 e7 e6 e2 hb R1.out X1.out.2.2 P2.out T2.out (permIn_refl d2 mid b) ((X1.out.2.1.upd P2.out (Or.inr (Nat.le_refl _)) e6 e2).one (by omega))
                    exact ⟨rfl, d2, f1, f2, SB.out⟩
      · have hmmq := q6 hmm
        have hmmz : ¬ (m : Int) > (mid : Int) := by omega
        have HQ : Aside (st0 = a ∧ r0 = m) := hmmq
        clear hmmq q5 q6
        go_wp2_with fail
        try simp only [hm1e, hb1e]
        go_loopg [20, 21] (b - a) (fun kx s20 s21 wr => ∃ i j : Nat, s20 = .int .i64 i ∧ s21 = .int .i64 j ∧ st0 ≤ i ∧ i ≤ j ∧ j ≤ r0 ∧ j - i ≤ kx ∧ Aside (SWK enc k w0 blk off (d) (wr)) ∧ Aside ((st0 < i → ltOf cf d[pN + 1 - i]! d[i - 1]! = false) ∧ (j < r0 → ltOf cf d[pN - j]! d[j]! = true)))
        case atStart => exact ⟨st0, r0, by have := HQ.out; first | rfl | (congr 1; omega), by have := HQ.out; first | rfl | (congr 1; omega), Nat.le_refl _, q2, Nat.le_refl _, by omega, S0, ⟨fun h => absurd h (Nat.lt_irrefl _), fun h => absurd h (Nat.lt_irrefl _)⟩⟩
        case round =>
          clear S0
          obtain ⟨i, j, rfl, rfl, hai, hij, hjb, hkx, S1, HB⟩ := hrel
          by_cases hlt : i < j
          · have hltz : (i : Int) < (j : Int) := by omega
            obtain ⟨h, hh⟩ : ∃ h, (i + j) / 2 = h := ⟨_, rfl⟩
            have hhz : ((i : Int) + (j : Int)) / 2 = (h : Int) := by omega
            have hih : i ≤ h := by omega
            have hhj : h < j := by omega
            obtain ⟨pc, hpc0⟩ : ∃ pc, pc + h = pN := ⟨pN - h, by have := HQ.out; omega⟩
            have hpcz : (pN : Int) - (h : Int) = (pc : Int) := by omega
            have hpc : pc < b := by have := HQ.out; omega
            cases hlv : ltOf cf d[pc]! d[h]! with
            | true =>
              go_wp2_with fail
              have ea108 : ((pc : Int)).toNat = pc := by omega
              have ec108 : ((h : Int)).toNat = h := by omega
              have pa108 : (0 : Int) ≤ (pc : Int) := by omega
              have ba108 : (pc : Int) < (d.size : Int) := by omega
              have ra108 : IntKind.i64.wrap ((pc : Int)) = (pc : Int) := by rw [IntKind.wrap_i64]; omega
              have pc108 : (0 : Int) ≤ (h : Int) := by omega
              have bc108 : (h : Int) < (d.size : Int) := by omega
              have rc108 : IntKind.i64.wrap ((h : Int)) = (h : Int) := by rw [IntKind.wrap_i64]; omega
              obtain ⟨x108, hx108⟩ : ∃ x, x = d[pc]! := ⟨_, rfl⟩
              obtain ⟨y108, hy108⟩ : ∃ x, x = d[h]! := ⟨_, rfl⟩
              have l108a := S1.out.ld R (by omega) P (pc) (by omega)
              have l108b := S1.out.ld R (by omega) P (h) (by omega)
              rw [← hx108] at l108a
              rw [← hy108] at l108b
              have hv108 : cf x108 y108 < 0 := by rw [hx108, hy108]; exact of_decide_eq_true hlv
              have hd108 : decide (cf x108 y108 < 0) = true := decide_eq_true hv108
              have hc108 := S1.out.cmp HC.out (by omega) x108 y108
              clear hx108 hy108
              go_wp2_with fail
              go_quiet_grown (first | (go_at_fn g; refine Calls.grown_of (hc108 _ _)))
              have S2 : Aside (SWK enc k w0 blk off (d) (grow ((wr).drewN nq) osq)) := S1.out.grown nq osq
              clear l108a l108b hc108 S1
              generalize grow ((wr).drewN nq) osq = w2 at S2 ⊢
              clear nq osq
              clear ea108 ec108
              go_wp2
              go_roundg (h - i)
              case measure => omega
              case rel => exact ⟨i, h, rfl, rfl, hai, by omega, by omega, Nat.le_refl _, S2, ⟨HB.out.1, fun _ => by rw [show pN - h = pc by omega]; exact hlv⟩⟩
            | false =>
              go_wp2_with fail
              have ea109 : ((pc : Int)).toNat = pc := by omega
              have ec109 : ((h : Int)).toNat = h := by omega
              have pa109 : (0 : Int) ≤ (pc : Int) := by omega
              have ba109 : (pc : Int) < (d.size : Int) := by omega
              have ra109 : IntKind.i64.wrap ((pc : Int)) = (pc : Int) := by rw [IntKind.wrap_i64]; omega
              have pc109 : (0 : Int) ≤ (h : Int) := by omega
              have bc109 : (h : Int) < (d.size : Int) := by omega
              have rc109 : IntKind.i64.wrap ((h : Int)) = (h : Int) := by rw [IntKind.wrap_i64]; omega
              obtain ⟨x109, hx109⟩ : ∃ x, x = d[pc]! := ⟨_, rfl⟩
              obtain ⟨y109, hy109⟩ : ∃ x, x = d[h]! := ⟨_, rfl⟩
              have l109a := S1.out.ld R (by omega) P (pc) (by omega)
              have l109b := S1.out.ld R (by omega) P (h) (by omega)
              rw [← hx109] at l109a
              rw [← hy109] at l109b
              have hv109 : ¬ cf x109 y109 < 0 := by rw [hx109, hy109]; exact of_decide_eq_false hlv
              have hd109 : decide (cf x109 y109 < 0) = false := decide_eq_false hv109
              have hc109 := S1.out.cmp HC.out (by omega) x109 y109
              clear hx109 hy109
              go_wp2_with fail
              go_quiet_grown (first | (go_at_fn g; refine Calls.grown_of (hc109 _ _)))
              have S2 : Aside (SWK enc k w0 blk off (d) (grow ((wr).drewN nq) osq)) := S1.out.grown nq osq
              clear l109a l109b hc109 S1
              generalize grow ((wr).drewN nq) osq = w2 at S2 ⊢
              clear nq osq
              clear ea109 ec109
              go_wp2
              go_roundg (j - (h + 1))
              case measure => omega
              case rel => exact ⟨h + 1, j, by go_num, rfl, by omega, by omega, hjb, Nat.le_refl _, S2, ⟨fun _ => by rw [Nat.add_sub_cancel, show pN + 1 - (h + 1) = pc by omega]; exact hlv, HB.out.2⟩⟩
          · obtain rfl : i = j := by omega
            have hltz : ¬ (i : Int) < (i : Int) := by omega
            obtain ⟨en, hen⟩ : ∃ en, mid + m - i = en := ⟨_, rfl⟩
            have hq := HQ.out
            have henz : (mid : Int) + (m : Int) - (i : Int) = (en : Int) := by omega
            have hebr : m ≤ en ∧ en ≤ b ∧ i ≤ m ∧ a ≤ i ∧ i + (en - m) = mid ∧ mid ≤ en ∧ i ≤ mid := by omega
            obtain ⟨e1, e2, e3, e4, e5, e6, e7⟩ := hebr
            have hcut : ∀ d1, Rot i m en d d1 → SymPre (ltOf cf) tg a i mid d1 ∧ SymPre (ltOf cf) tg mid en b d1 ∧ ∀ p q, a ≤ p → p < mid → mid ≤ q → q < b → lx (ltOf cf) tg d1[q]! d1[p]! = false := fun d1 hr => by
              have := merge_cut hS HP.out e4 e3 e1 e2 (fun h1 h2 => by rw [show en = pN + 1 - i by omega]; exact HB.out.1 (by omega)) (fun h1 h2 => by rw [show en - 1 = pN - i by omega]; exact HB.out.2 (by omega)) hr
              rwa [e5] at this
            have HCUT : Aside _ := hcut
            clear hcut hq
            have hr : ∀ wX, Aside (SWK enc k w0 blk off (d) (wX)) → i < m → m < en → Calls P 95 #[.slice (some ⟨blk, off, none⟩) d.size cap, .int .i64 i, .int .i64 m, .int .i64 en, .func (.func g) #[] cb] wX fun e w' => e = .returned (.tuple #[]) ∧ ∃ d', Rot i m en d d' ∧ SWK enc k w0 blk off (d') (w') := fun wX SX h1 h2 => rotateK L enc blk off cap i m en d0 d w0 wX _ R hs SX.out h1 h2 (by omega) (by omega)
            have hsy : ∀ (a2 m2 b2 : Nat) d1 wX, b2 - a2 ≤ sz → d1.size = d.size → Aside (SWK enc k w0 blk off (d1) (wX)) → a2 < m2 → m2 < b2 → b2 ≤ b → SymPre (ltOf cf) tg a2 m2 b2 d1 → Calls P 84 #[.slice (some ⟨blk, off, none⟩) d.size cap, .int .i64 a2, .int .i64 m2, .int .i64 b2, .func (.func g) #[] cb] wX fun e w' => e = .returned (.tuple #[]) ∧ ∃ d', PermIn a2 b2 d1 d' ∧ SortedIn (lx (ltOf cf) tg) a2 b2 d' ∧ SWK enc k w0 blk off (d') (w') := fun a2 m2 b2 d1 wX h1 h2 SX h3 h4 h5 h6 => by
              have := HI.out a2 m2 b2 d1 wX h1 (by omega) SX.out h3 h4 (by omega) h6
              rwa [h2] at this
            have HR : Aside _ := hr
            have HSY : Aside _ := hsy
            clear hr hsy HB
            by_cases c1 : i < m ∧ m < en
            · have c1a : (i : Int) < (m : Int) := by omega
              have c1b : (m : Int) < (en : Int) := by omega
              go_wp2_with fail
              refine (HR.out _ S1 c1.1 c1.2).mono ?_
              rintro e wA ⟨rfl, d1, hr1, SA0⟩
              have SA : Aside _ := SA0
              have R1 : Aside _ := hr1
              have z1 : d1.size = d.size := hr1.perm.1
              clear SA0 hr1 S1
              have X1 : Aside _ := HCUT.out d1 R1.out
              by_cases c2 : a < i ∧ i < mid
              · have c2a : (a : Int) < (i : Int) := by omega
                have c2b : (i : Int) < (mid : Int) := by omega
                go_wp2_with fail
                refine (HSY.out a i mid d1 _ (by omega) z1 SA c2.1 c2.2 (by omega) X1.out.1).mono ?_
                rintro e wB ⟨rfl, d2, p2, s2, SB0⟩
                have SB : Aside _ := SB0
                have P2 : Aside (PermIn a mid d1 d2) := p2
                have T2 : Aside _ := s2
                have z2 : d2.size = d.size := p2.1.trans z1
                clear SB0 p2 s2 SA
                by_cases c3 : mid < en ∧ en < b
                · have c3a : (mid : Int) < (en : Int) := by omega
                  have c3b : (en : Int) < (b : Int) := by omega
                  go_wp2_with fail
                  refine (HSY.out mid en b d2 _ (by omega) z2 SB c3.1 c3.2 (Nat.le_refl _) (X1.out.2.1.upd P2.out (Or.inr (Nat.le_refl _)) e6 e2)).mono ?_
                  rintro e wC ⟨rfl, d3, p3, s3, SC0⟩
                  have SC : Aside _ := SC0
                  have P3 : Aside (PermIn mid b d2 d3) := p3
                  have T3 : Aside _ := s3
                  clear SC0 p3 s3 SB
                  go_wp2
                  go_end0
                  obtain ⟨f1, f2⟩ := merge_end e4 e7 e6 e2 hb R1.out X1.out.2.2 P2.out T2.out P3.out T3.out
                  exact ⟨rfl, d3, f1, f2, SC.out⟩
                · have c3a : ¬ ((mid : Int) < (en : Int) ∧ (en : Int) < (b : Int)) := by omega
                  have c3c : (mid : Int) < (en : Int) → ¬ (en : Int) < (b : Int) := fun h1 h2 => c3a ⟨h1, h2⟩
                  go_wp2
                  all_goals
                    go_end0
                    obtain ⟨f1, f2⟩ := merge_end e4 e7 e6 e2 hb R1.out X1.out.2.2 P2.out T2.out (permIn_refl d2 mid b) ((X1.out.2.1.upd P2.out (Or.inr (Nat.le_refl _)) e6 e2).one (by omega))
                    exact ⟨rfl, d2, f1, f2, SB.out⟩
              · have c2a : ¬ ((a : Int) < (i : Int) ∧ (i : Int) < (mid : Int)) := by omega
                have c2c : (a : Int) < (i : Int) → ¬ (i : Int) < (mid : Int) := fun h1 h2 => c2a ⟨h1, h2⟩
                obtain ⟨d2, hd2⟩ : ∃ d2, d2 = d1 := ⟨_, rfl⟩
                have SB : Aside (SWK enc k w0 blk off (d2) (wA)) := by rw [hd2]; exact SA
                have z2 : d2.size = d.size := by rw [hd2]; exact z1
                have P2 : Aside (PermIn a mid d1 d2) := by rw [hd2]; exact permIn_refl d1 a mid
                have T2 : Aside (SortedIn (lx (ltOf cf) tg) a mid d2) := by rw [hd2]; exact X1.out.1.one (by omega)
                clear hd2 SA
                by_cases c3 : mid < en ∧ en < b
                · have c3a : (mid : Int) < (en : Int) := by omega
                  have c3b : (en : Int) < (b : Int) := by omega
                  go_wp2_with fail
                  refine (HSY.out mid en b d2 _ (by omega) z2 SB c3.1 c3.2 (Nat.le_refl _) (X1.out.2.1.upd P2.out (Or.inr (Nat.le_refl _)) e6 e2)).mono ?_
                  rintro e wC ⟨rfl, d3, p3, s3, SC0⟩
                  have SC : Aside _ := SC0
                  have P3 : Aside (PermIn mid b d2 d3) := p3
                  have T3 : Aside _ := s3
                  clear SC0 p3 s3 SB
                  go_wp2
                  go_end0
                  obtain ⟨f1, f2⟩ := merge_end e4 e7 e6 e2 hb R1.out X1.out.2.2 P2.out T2.out P3.out T3.out
                  exact ⟨rfl, d3, f1, f2, SC.out⟩
                · have c3a : ¬ ((mid : Int) < (en : Int) ∧ (en : Int) < (b : Int)) := by omega
                  have c3c : (mid : Int) < (en : Int) → ¬ (en : Int) < (b : Int) := fun h1 h2 => c3a ⟨h1, h2⟩
                  go_wp2
                  all_goals
                    go_end0
                    obtain ⟨f1, f2⟩ := merge_end e4 e7 e6 e2 hb R1.out X1.out.2.2 P2.out T2.out (permIn_refl d2 mid b) ((X1.out.2.1.upd P2.out (Or.inr (Nat.le_refl _)) e6 e2).one (by omega))
                    exact ⟨rfl, d2, f1, f2, SB.out⟩
            · have c1a : ¬ ((i : Int) < (m : Int) ∧ (m : Int) < (en : Int)) := by omega
              have R1 : Aside (Rot i m en d d) := by
                by_cases h : i = m
                · rw [h]; exact Rot.idL m en e1 d
                · rw [show en = m by omega]; exact Rot.idR i m e3 d
              obtain ⟨d1, hd1⟩ : ∃ d1, d1 = d := ⟨_, rfl⟩
              have SA : Aside (SWK enc k w0 blk off (d1) (wr)) := by rw [hd1]; exact S1
              have z1 : d1.size = d.size := by rw [hd1]
              rw [show Rot i m en d d = Rot i m en d d1 by rw [hd1]] at R1
              clear hd1 S1
              have c1c : (i : Int) < (m : Int) → ¬ (m : Int) < (en : Int) := fun h1 h2 => c1a ⟨h1, h2⟩
              have X1 : Aside _ := HCUT.out d1 R1.out
              by_cases c2 : a < i ∧ i < mid
              · have c2a : (a : Int) < (i : Int) := by omega
                have c2b : (i : Int) < (mid : Int) := by omega
                go_wp2_with fail
                refine (HSY.out a i mid d1 _ (by omega) z1 SA c2.1 c2.2 (by omega) X1.out.1).mono ?_
                rintro e wB ⟨rfl, d2, p2, s2, SB0⟩
                have SB : Aside _ := SB0
                have P2 : Aside (PermIn a mid d1 d2) := p2
                have T2 : Aside _ := s2
                have z2 : d2.size = d.size := p2.1.trans z1
                clear SB0 p2 s2 SA
                by_cases c3 : mid < en ∧ en < b
                · exfalso; omega
                · have c3a : ¬ ((mid : Int) < (en : Int) ∧ (en : Int) < (b : Int)) := by omega
                  have c3c : (mid : Int) < (en : Int) → ¬ (en : Int) < (b : Int) := fun h1 h2 => c3a ⟨h1, h2⟩
                  go_wp2
                  all_goals
                    go_end0
                    obtain ⟨f1, f2⟩ := merge_end e4 e7 e6 e2 hb R1.out X1.out.2.2 P2.out T2.out (permIn_refl d2 mid b) ((X1.out.2.1.upd P2.out (Or.inr (Nat.le_refl _)) e6 e2).one (by omega))
                    exact ⟨rfl, d2, f1, f2, SB.out⟩
              · have c2a : ¬ ((a : Int) < (i : Int) ∧ (i : Int) < (mid : Int)) := by omega
                have c2c : (a : Int) < (i : Int) → ¬ (i : Int) < (mid : Int) := fun h1 h2 => c2a ⟨h1, h2⟩
                obtain ⟨d2, hd2⟩ : ∃ d2, d2 = d1 := ⟨_, rfl⟩
                have SB : Aside (SWK enc k w0 blk off (d2) (wr)) := by rw [hd2]; exact SA
                have z2 : d2.size = d.size := by rw [hd2]; exact z1
                have P2 : Aside (PermIn a mid d1 d2) := by rw [hd2]; exact permIn_refl d1 a mid
                have T2 : Aside (SortedIn (lx (ltOf cf) tg) a mid d2) := by rw [hd2]; exact X1.out.1.one (by omega)
                clear hd2 SA
                by_cases c3 : mid < en ∧ en < b
                · exfalso; omega
                · have c3a : ¬ ((mid : Int) < (en : Int) ∧ (en : Int) < (b : Int)) := by omega
                  have c3c : (mid : Int) < (en : Int) → ¬ (en : Int) < (b : Int) := fun h1 h2 => c3a ⟨h1, h2⟩
                  go_wp2
                  all_goals
                    go_end0
                    obtain ⟨f1, f2⟩ := merge_end e4 e7 e6 e2 hb R1.out X1.out.2.2 P2.out T2.out (permIn_refl d2 mid b) ((X1.out.2.1.upd P2.out (Or.inr (Nat.le_refl _)) e6 e2).one (by omega))
                    exact ⟨rfl, d2, f1, f2, SB.out⟩
end Go.Proofs

/- slices.stableCmpFunc over scarp/api.History: sorted, ties in the order they came in. -/
namespace Go.Proofs
open Go.RowKit Go.Lib Go.Sort Go.Shelf
variable {α : Type} [Inhabited α]

set_option maxHeartbeats 16000000 in
set_option maxRecDepth 1000000 in
theorem stableK_at {P : Program} {k : Nat} (L : StabK P k) (enc : α → List Value) (cf : α → α → Int) (tg : α → Nat) (hS : SWO (ltOf cf)) (g : Nat) (cb : Array Value) (blk off cap : Nat) (d : Array α) (w0 w : World)
    (eg : ∀ args w, (callFunc g args).run P w = .ok (.enter g args) w) (hcmp : CmpLays P g cb enc k cf blk off d.size w0) (R : RowK enc k w0 blk off d) (hsz : d.size < 1073741824)
    (hins : ∀ (a b : Nat) (dk : Array α) (wX : World), Aside (SWK enc k w0 blk off (dk) (wX)) → d.size = dk.size → a ≤ b → b ≤ d.size → Calls P 83 #[.slice (some ⟨blk, off, none⟩) d.size cap, .int .i64 a, .int .i64 b, .func (.func g) #[] cb] wX fun e w' => e = .returned (.tuple #[]) ∧ SWK enc k w0 blk off (insertionSort (ltOf cf) dk a b) (w'))
    (S : SWK enc k w0 blk off (d) (w)) (htg : ∀ i, i < d.size → tg d[i]! = i) :
    Calls P 67 #[.slice (some ⟨blk, off, none⟩) d.size cap, .int .i64 d.size, .func (.func g) #[] cb] w fun e w' => e = .returned (.tuple #[]) ∧ ∃ d', PermIn 0 d.size d d' ∧ SortedIn (lx (ltOf cf) tg) 0 d.size d' ∧ SWK enc k w0 blk off (d') (w') := by
  have mixed : P.follows Departure.mixedOrders = true := L.mixed
  have t0 := L.t0
  have a0 := L.a0
  have z0 := L.z0
  have v0 := L.v0
  have t3 := L.t3
  have a3 := L.a3
  have z3 := L.z3
  have v3 := L.v3
  have t4 := L.t4
  have a4 := L.a4
  have z4 := L.z4
  have v4 := L.v4
  have t5 := L.t5
  have a5 := L.a5
  have z5 := L.z5
  have v5 := L.v5
  have t6 := L.t6
  have a6 := L.a6
  have z6 := L.z6
  have v6 := L.v6
  have t7 := L.t7
  have a7 := L.a7
  have z7 := L.z7
  have v7 := L.v7
  have aE := L.aE
  have zE := L.zE
  have u5 := run_underlying L.t5
  have cIns := L.cIns
  have cSym := L.cSym
  have cStab := L.cStab
  have hsy : ∀ (a m b : Nat) (dk : Array α) (wX : World), Aside (SWK enc k w0 blk off (dk) (wX)) → d.size = dk.size → a < m → m < b → b ≤ d.size → SymPre (ltOf cf) tg a m b dk → Calls P 84 #[.slice (some ⟨blk, off, none⟩) d.size cap, .int .i64 a, .int .i64 m, .int .i64 b, .func (.func g) #[] cb] wX fun e w' => e = .returned (.tuple #[]) ∧ ∃ d', PermIn a b dk d' ∧ SortedIn (lx (ltOf cf) tg) a b d' ∧ SWK enc k w0 blk off (d') (w') := fun a m b dk wX SX hs h1 h2 h3 hp => by
    have := symMergeK_at L enc cf tg hS g cb blk off cap d w0 eg hcmp R (by omega) (b - a) a m b dk wX (Nat.le_refl _) hs SX.out h1 h2 (by omega) hp
    rwa [← hs] at this
  have S0 : Aside (SWK enc k w0 blk off (d) (w)) := S
  have HIN : Aside _ := hins
  have HSY : Aside _ := hsy
  have HT : Aside _ := htg
  clear S hins hsy htg hcmp
  obtain ⟨n, hn⟩ : ∃ n, d.size = n := ⟨_, rfl⟩
  rw [hn]
  rw [hn] at HIN HSY HT hsz
  have HN : Aside (d.size = n) := hn
  clear hn
  go_enter L.fStab, Try.ntmps67
  go_wp2_with fail
  go_loopg [7, 8] n (fun kx s7 s8 wr => ∃ (a : Nat) (dk : Array α), s7 = .int .i64 a ∧ s8 = .int .i64 ((a : Int) + 20) ∧ a ≤ n ∧ n - a ≤ kx ∧ Aside (n = dk.size) ∧ Aside (SWK enc k w0 blk off (dk) (wr)) ∧ Aside (∃ q, a = q * 20 ∧ BlkA (ltOf cf) tg 20 n (q * 20) d dk))
  case atStart => exact ⟨0, d, rfl, by go_num, Nat.zero_le _, by omega, HN.out.symm, S0, 0, rfl, by simpa using BlkA.start 20 HT.out⟩
  case round =>
    clear S0
    obtain ⟨a, dk, rfl, rfl, han, hkx, HZ, S1, HB⟩ := hrel
    by_cases hlt : a + 20 ≤ n
    · have hltz : (a : Int) + 20 ≤ (n : Int) := by omega
      have hc := HIN.out a (a + 20) dk wr S1 HZ.out (by omega) hlt
      rw [show ((a + 20 : Nat) : Int) = (a : Int) + 20 by omega] at hc
      have HC := Lib.hid hc
      clear hc
      go_wp2_with fail
      refine HC.out.mono ?_
      rintro e w2 ⟨rfl, s2⟩
      have S2 : Aside _ := s2
      clear s2 HC
      go_wp2
      go_roundg (n - (a + 20))
      case measure => omega
      case rel =>
        obtain ⟨q, hq, hb⟩ := HB.out
        have hst := hb.step hS (by omega) (by rw [HN.out]; exact Nat.le_refl _) (show q * 20 ≤ a + 20 by omega) hlt (by omega)
        rw [show a + 20 = (q + 1) * 20 by omega] at hst
        refine ⟨a + 20, insertionSort (ltOf cf) dk a (a + 20), by go_num, by go_num, hlt, Nat.le_refl _, ?_, S2, q + 1, by omega, ?_⟩
        · show n = _; rw [← HN.out]; have := hst.perm.1; rw [hq, show q * 20 + 20 = (q + 1) * 20 by omega]; exact this.symm
        · rw [hq, show q * 20 + 20 = (q + 1) * 20 by omega]; exact hst
    · have hltz : ¬ (a : Int) + 20 ≤ (n : Int) := by omega
      have HC := Lib.hid (HIN.out a n dk wr S1 HZ.out han (Nat.le_refl _))
      go_wp2_with fail
      refine HC.out.mono ?_
      rintro e w2 ⟨rfl, s2⟩
      have S2 : Aside _ := s2
      clear s2 HC
      obtain ⟨dm, hdm⟩ : ∃ dm, dm = insertionSort (ltOf cf) dk a n := ⟨_, rfl⟩
      rw [← hdm] at S2
      have HM : Aside (PermIn 0 n d dm ∧ Blk (ltOf cf) tg 20 n dm) := by
        obtain ⟨q, hq, hb⟩ := HB.out
        have hst := hb.step hS (by omega) (by rw [HN.out]; exact Nat.le_refl _) (show q * 20 ≤ n by omega) (Nat.le_refl _) (by omega)
        rw [← hq, ← hdm] at hst
        exact ⟨hst.perm, hst.done⟩
      clear hdm HB S1 HZ
      go_wp2_with fail
      go_loopg [6] n (fun kx s6 wr => ∃ (bs : Nat) (dk : Array α), s6 = .int .i64 bs ∧ 0 < bs ∧ bs ≤ 2 * n + 20 ∧ n - bs ≤ kx ∧ Aside (SWK enc k w0 blk off (dk) (wr)) ∧ Aside (PermIn 0 n d dk ∧ Blk (ltOf cf) tg bs n dk))
      case atStart => exact ⟨20, dm, rfl, by omega, by omega, by omega, S2, HM⟩
      case round =>
        clear S2 HM hltz hlt han hkx
        obtain ⟨bs, dk2, rfl, hb0, hbn, hkx, S3, HB⟩ := hrel
        by_cases hlt2 : bs < n
        · have hlt2z : (bs : Int) < (n : Int) := by omega
          go_wp2_with fail
          go_loopg [7, 8] n (fun kx s7 s8 wr => ∃ (a : Nat) (dk : Array α), s7 = .int .i64 a ∧ s8 = .int .i64 ((a : Int) + 2 * (bs : Int)) ∧ a ≤ n ∧ n - a ≤ kx ∧ Aside (SWK enc k w0 blk off (dk) (wr)) ∧ Aside (∃ q, a = q * (bs * 2) ∧ BlkB (ltOf cf) tg bs n (q * (bs * 2)) d dk))
          case atStart => exact ⟨0, dk2, rfl, by go_num, Nat.zero_le _, by omega, S3, 0, by omega, by simpa using BlkB.start HB.out.1 HB.out.2⟩
          case round =>
            clear S3 HB
            obtain ⟨a, dk, rfl, rfl, han, hkx2, S1, HB⟩ := hrel
            have HZ : Aside (n = dk.size) := by
              obtain ⟨q, hq, hb⟩ := HB.out
              show n = _; rw [← HN.out]; exact hb.perm.1.symm
            by_cases hlt : a + 2 * bs ≤ n
            · have hltz : (a : Int) + 2 * (bs : Int) ≤ (n : Int) := by omega
              have hc := HSY.out a (a + bs) (a + 2 * bs) dk wr S1 HZ.out (by omega) (by omega) hlt (by
                obtain ⟨q, hq, hb⟩ := HB.out
                have e3 : (q + 1) * (bs * 2) = q * (bs * 2) + bs * 2 := by rw [Nat.add_mul, Nat.one_mul]
                rw [hq]; exact hb.pre hb0 (by omega) (by omega) (by omega))
              rw [show ((a + bs : Nat) : Int) = (a : Int) + (bs : Int) by omega, show ((a + 2 * bs : Nat) : Int) = (a : Int) + 2 * (bs : Int) by omega] at hc
              have HC := Lib.hid hc
              clear hc
              go_wp2_with fail
              refine HC.out.mono ?_
              rintro e w2 ⟨rfl, d2, p2, so2, s2⟩
              have S2 : Aside _ := s2
              have HP2 : Aside _ := p2
              have HO2 : Aside _ := so2
              clear s2 HC p2 so2
              go_wp2
              go_roundg (n - (a + 2 * bs))
              case measure => omega
              case rel =>
                obtain ⟨q, hq, hb⟩ := HB.out
                have e3 : (q + 1) * (bs * 2) = q * (bs * 2) + bs * 2 := by rw [Nat.add_mul, Nat.one_mul]
                have hp2 := HP2.out
                have ho2 := HO2.out
                rw [show a + 2 * bs = (q + 1) * (bs * 2) by omega, hq] at hp2 ho2
                have hst := hb.step (b := (q + 1) * (bs * 2)) hb0 (by rw [HN.out]; exact Nat.le_refl _) (by omega) (by omega) (Nat.le_refl _) hp2 ho2
                exact ⟨a + 2 * bs, d2, by go_num, by go_num, hlt, Nat.le_refl _, S2, q + 1, by omega, hst⟩
            · have hltz : ¬ (a : Int) + 2 * (bs : Int) ≤ (n : Int) := by omega
              by_cases hm : a + bs < n
              · have hmz : (a : Int) + (bs : Int) < (n : Int) := by omega
                have hc := HSY.out a (a + bs) n dk wr S1 HZ.out (by omega) (by omega) (Nat.le_refl _) (by
                  obtain ⟨q, hq, hb⟩ := HB.out
                  have e3 : (q + 1) * (bs * 2) = q * (bs * 2) + bs * 2 := by rw [Nat.add_mul, Nat.one_mul]
                  rw [hq]; exact hb.pre hb0 (by omega) (by omega) (by omega))
                rw [show ((a + bs : Nat) : Int) = (a : Int) + (bs : Int) by omega] at hc
                have HC := Lib.hid hc
                clear hc
                go_wp2_with fail
                refine HC.out.mono ?_
                rintro e w2 ⟨rfl, d2, p2, so2, s2⟩
                have S2 : Aside _ := s2
                have HP2 : Aside _ := p2
                have HO2 : Aside _ := so2
                clear s2 HC p2 so2
                go_wp2
                go_roundg (n - bs * 2)
                case measure => omega
                case rel =>
                  obtain ⟨q, hq, hb⟩ := HB.out
                  have e3 : (q + 1) * (bs * 2) = q * (bs * 2) + bs * 2 := by rw [Nat.add_mul, Nat.one_mul]
                  have hp2 := HP2.out
                  have ho2 := HO2.out
                  rw [hq] at hp2 ho2
                  have hst := hb.step (b := n) hb0 (by rw [HN.out]; exact Nat.le_refl _) (by omega) (Nat.le_refl _) (by omega) hp2 ho2
                  exact ⟨bs * 2, d2, by go_num, by omega, by omega, Nat.le_refl _, S2, hst.perm, hst.done (Nat.le_refl _)⟩
              · have hmz : ¬ (a : Int) + (bs : Int) < (n : Int) := by omega
                go_wp2
                go_roundg (n - bs * 2)
                case measure => omega
                case rel =>
                  obtain ⟨q, hq, hb⟩ := HB.out
                  exact ⟨bs * 2, dk, by go_num, by omega, by omega, Nat.le_refl _, S1, hb.perm, hb.done1 hb0 (by omega)⟩
        · have hlt2z : ¬ (bs : Int) < (n : Int) := by omega
          go_wp2
          go_end0
          exact ⟨rfl, dk2, HB.out.1, HB.out.2.all (by omega), S3.out⟩
end Go.Proofs

/- slices.SortStableFunc over histories, by their times: what it leaves. -/
namespace Go.Proofs
open Go.RowKit Sc Go.Shelf Go.Sort

/-- A history's cells; tag: its place. -/
structure HC where
  st : Int
  bg : Int
  tm : Int
  fr : Int
  up : Int
  rp : Option Addr
  rn : Nat
  rc : Nat
  pp : Option Addr
  pn : Nat
  pc : Nat
  tag : Nat
instance instHCInh : Inhabited HC := ⟨⟨0, 0, 0, 0, 0, none, 0, 0, none, 0, 0, 0⟩⟩
def encH (x : HC) : List Value := [.int .i64 x.st, .int .i64 x.bg, .int .i64 x.tm, .int .i64 x.fr, .int .i64 x.up, .slice x.rp x.rn x.rc, .slice x.pp x.pn x.pc]
def cmpH (x y : HC) : Int := Lib.compareInt x.tm y.tm
theorem ltH (x y : HC) : ltOf cmpH x y = decide (x.tm < y.tm) := by
  unfold ltOf cmpH Lib.compareInt
  by_cases h1 : x.tm < y.tm
  · simp [h1]
  · by_cases h2 : y.tm < x.tm <;> simp [h1, h2]
theorem swoH : Sort.SWO (ltOf cmpH) where
  irrefl x := by rw [ltH]; simp
  trans x y z h1 h2 := by rw [ltH] at *; simp at *; omega
  ntrans x y z h1 h2 := by rw [ltH] at *; simp at *; omega
set_option maxHeartbeats 1000000 in
theorem replayC_any (x y : HC) (W : World) : Calls Try.prog 49 #[.agg (encH x).toArray, .agg (encH y).toArray] W fun e w' => e = .returned (.int .i64 (cmpH x y)) ∧ ∃ q os', w' = Sort.grow (W.drewN q) os' := by
  have hcon := fun W' => AnyG.cmp_Compare_int Try.cmpInt x.tm y.tm W'
  change ∀ W', Calls Try.prog 50 _ _ _ at hcon
  change ∀ W', Calls Try.prog 50 _ W' (fun e w' => e = .returned (.int .i64 (cmpH x y)) ∧ w' = W') at hcon
  generalize cmpH x y = r at hcon ⊢
  unfold encH
  go_enter Try.func49, Try.ntmps49
  go_wp2_with (go_at_call 50; refine (hcon _).mono ?_; rintro e w' ⟨rfl, rfl⟩)
  go_ret
  exact ⟨rfl, 0, _, by rw [Sort.alloc_eq_grow, Sort.alloc_eq_grow, Sort.grow_grow]; rfl⟩
theorem chg_swk {α : Type} [Inhabited α] {enc : α → List Value} {k : Nat} {w w' : World} {blk : Nat} {d : Array α} (h : SWK enc k w blk 0 d w') : Chg (fun b => b = blk) w w' := by
  obtain ⟨n, os, rfl⟩ := h
  refine ⟨rfl, rfl, rfl, ?_, fun k hk hne => ?_⟩
  · simp [sortWorldK, Sort.putRowK, Sort.putRow, Sort.mapBlock, Sort.grow, Sort.ahead]
  · unfold sortWorldK
    rw [Sort.heap_grow_old _ _ (by simpa [Sort.putRowK, Sort.putRow, Sort.mapBlock, Sort.ahead] using hk)]
    have : blk ≠ k := fun e => hne e.symm
    simp [Sort.putRowK, Sort.putRow, Sort.mapBlock, Sort.ahead, Array.getElem?_modify, this]
theorem insHist_w (enc : HC → List Value) (cf : HC → HC → Int) (g : Nat) (cb : Array Value) (blk off cap a b : Nat) (d0 d : Array HC) (w0 w : World)
    (eg : ∀ args w, (callFunc g args).run Try.prog w = .ok (.enter g args) w) (hcmp : CmpLays Try.prog g cb enc 7 cf blk off d0.size w0) (R : RowK enc 7 w0 blk off d0) (hs : d0.size = d.size) (S : SWK enc 7 w0 blk off d w) (hO : SWO (ltOf cf)) (hab : a ≤ b) (hb : b ≤ d.size) (hsz : d.size < 4611686018427387904) :
    Calls Try.prog 83 #[.slice (some ⟨blk, off, none⟩) d.size cap, .int .i64 a, .int .i64 b, .func (.func g) #[] cb] w fun e w' => e = .returned (.tuple #[]) ∧ SWK enc 7 w0 blk off (Sort.insertionSort (ltOf cf) d a b) w' := by
  have hs' : (Sort.insertionSort (ltOf cf) d a b).size = d.size := (insertionSort_holds hO d a b hab hb).1.1
  have hC : CmpLays Try.prog g cb enc 7 cf blk off d.size w := fun m os dk hdk x y => by
    obtain ⟨n0, os0, rfl⟩ := S
    rw [sortWorldK_on enc 7 w0 blk off n0 m d dk os0 os R.hblk hdk]
    exact hcmp _ _ dk (by omega) x y
  have hcon := AnyQ.insertionSortCmpFunc Try.insHist 7 Try.isAgg45 Try.sizeOf45 enc R.hk R.h1 cf g cb blk off cap a b d w eg hC (S.holds R.hblk R.hH hs.symm) (S.lt R.hblk) hab hb hsz
  change Calls Try.prog 83 _ _ _ at hcon
  refine hcon.mono ?_
  rintro e w' ⟨rfl, n, os, rfl⟩
  exact ⟨rfl, S.on R.hblk n _ os hs'⟩
def SortedH (d : Array HC) (blk : Nat) (w : World) (e : Ending) (w' : World) : Prop :=
  e = .returned (.tuple #[]) ∧ ∃ d' : Array HC, d'.size = d.size ∧ d'.toList.Perm d.toList ∧ d'.toList.Pairwise (fun x y => x.tm < y.tm ∨ (x.tm = y.tm ∧ x.tag ≤ y.tag)) ∧ HoldsK encH 7 w' blk 0 d' ∧ Chg (fun b => b = blk) w w'
theorem lxH {x y : HC} (h : lx (ltOf cmpH) (·.tag) y x = false) : x.tm < y.tm ∨ (x.tm = y.tm ∧ x.tag ≤ y.tag) := by
  obtain ⟨h1, h2⟩ := lx_f.1 h
  rw [ltH] at h1 h2
  simp only [decide_eq_false_iff_not, decide_eq_true_eq] at h1 h2
  omega
set_option maxRecDepth 100000 in
theorem sortHist_any (blk cap : Nat) (d : Array HC) (w : World) (hH : HoldsK encH 7 w blk 0 d) (hblk : blk < w.heap.size) (hl : d.size < 1073741824) (htg : ∀ i, i < d.size → d[i]!.tag = i) :
    Calls Try.prog 48 #[.slice (some ⟨blk, 0, none⟩) d.size cap, .func (.func 49) #[] #[]] w (SortedH d blk w) := by
  have eg : ∀ args w, (callFunc 49 args).run Try.prog w = .ok (.enter 49 args) w := enters_of Try.func49 (by kernel_rfl) rfl
  have R : RowK encH 7 w blk 0 d := ⟨fun _ => rfl, fun x v hv => by simp [encH] at hv; rcases hv with rfl | rfl | rfl | rfl | rfl | rfl | rfl <;> rfl, hH, hblk⟩
  have hc : CmpLays Try.prog 49 #[] encH 7 cmpH blk 0 d.size w := fun m os dk _ x y => replayC_any x y _
  have hcon := stableK_at stabK encH cmpH (·.tag) swoH 49 #[] blk 0 cap d w w eg hc R hl
    (fun a b dk wX SX hs hab hb => by
      have := insHist_w encH cmpH 49 #[] blk 0 cap a b d dk w wX eg hc R hs SX.out swoH hab (by omega) (by omega)
      rwa [← hs] at this) (SWK.start hH) htg
  have HC0 := Lib.hid hcon
  clear hcon
  go_enter Try.func48, Try.ntmps48
  go_wp2_with fail
  refine HC0.out.mono ?_
  rintro e w' ⟨rfl, d', hp, hs, hw⟩
  have HP : Aside _ := hp
  have HS : Aside _ := hs
  have HW : Aside _ := hw
  clear hp hs hw HC0
  go_wp2
  go_end0
  obtain ⟨l1, l2⟩ := sorted_list HP.out HS.out
  exact ⟨rfl, d', HP.out.1, l1, l2.imp fun h => lxH h, SWK.holds HW.out hblk hH HP.out.1, chg_swk HW.out⟩
end Go.Proofs

/- Histories' cells in a row, and in their order: plain. -/
namespace Go.Proofs
open Go.RowKit Sc Go.Sort

/-- These cells are this history, read in w. -/
structure HcOk (G : Nat → Prop) (w : World) (x : HC) (h : Hist) : Prop where
  st : x.st = h.state
  bg : x.bg = h.begun
  tm : x.tm = h.time
  fr : x.fr = h.since
  up : x.up = h.upto
  i : I64 h.state ∧ I64 h.begun ∧ I64 h.time ∧ I64 h.since ∧ I64 h.upto
  rd : ReadsAt G w (.slice x.rp x.rn x.rc) h.reads
  pt : PutsAt G w (.slice x.pp x.pn x.pc) h.puts
def DsOk (G : Nat → Prop) (w : World) (ds : List HC) (hs : List Hist) : Prop :=
  ds.length = hs.length ∧ ∀ i (h1 : i < ds.length) (h2 : i < hs.length), HcOk G w ds[i] hs[i] ∧ ds[i].tag = i
theorem DsOk.nil (G : Nat → Prop) (w : World) : DsOk G w [] [] := ⟨rfl, fun _i h => absurd h (Nat.not_lt_zero _)⟩
theorem DsOk.snoc {G : Nat → Prop} {w : World} {ds : List HC} {hs : List Hist} (h : DsOk G w ds hs) {x : HC} {y : Hist} (hx : HcOk G w x y) (ht : x.tag = ds.length) : DsOk G w (ds ++ [x]) (hs ++ [y]) := by
  refine ⟨by rw [List.length_append, List.length_append, h.1]; rfl, fun i h1 h2 => ?_⟩
  by_cases hi : i < ds.length
  · rw [List.getElem_append_left hi, List.getElem_append_left (by rw [← h.1]; exact hi)]
    exact h.2 i hi _
  · have e : i = ds.length := by simp at h1; omega
    subst e
    have e2 : hs.length = ds.length := h.1.symm
    rw [List.getElem_append_right (Nat.le_refl _), List.getElem_append_right (by omega)]
    simp only [Nat.sub_self, e2, List.getElem_singleton]
    exact ⟨hx, ht⟩
def flatH (ds : List HC) : List Value := (ds.map encH).flatten
theorem flatH_snoc (ds : List HC) (x : HC) : flatH (ds ++ [x]) = flatH ds ++ encH x := by unfold flatH; rw [List.map_append, List.flatten_append]; simp
theorem flatH_len (ds : List HC) : (flatH ds).length = ds.length * 7 := by
  induction ds with
  | nil => rfl
  | cons x t ih =>
    have e : flatH (x :: t) = encH x ++ flatH t := rfl
    rw [e, List.length_append, ih, List.length_cons]
    show 7 + t.length * 7 = _
    omega
theorem flatH_get (ds : List HC) : ∀ t, t < ds.length * 7 → (flatH ds)[t]? = some ((encH ds.toArray[t / 7]!)[t % 7]!) := by
  induction ds with
  | nil => intro t h; simp at h
  | cons x r ih =>
    intro t h
    have e : flatH (x :: r) = encH x ++ flatH r := rfl
    rw [e]
    by_cases h7 : t < 7
    · rw [List.getElem?_append_left (show t < (encH x).length from h7)]
      have e1 : t / 7 = 0 := by omega
      have e2 : t % 7 = t := by omega
      rw [e1, e2]
      have e3 : (x :: r).toArray[0]! = x := by simp
      rw [e3, List.getElem?_eq_getElem (show t < (encH x).length from h7), getElem!_pos (encH x) t (show t < (encH x).length from h7)]
    · rw [List.getElem?_append_right (show (encH x).length ≤ t from by show 7 ≤ t; omega)]
      show (flatH r)[t - 7]? = _
      have hr : t - 7 < r.length * 7 := by rw [List.length_cons] at h; omega
      rw [ih (t - 7) hr]
      have e1 : t / 7 = (t - 7) / 7 + 1 := by omega
      have e2 : t % 7 = (t - 7) % 7 := by omega
      rw [e1, e2]
      have e3 : (x :: r).toArray[(t - 7) / 7 + 1]! = r.toArray[(t - 7) / 7]! := by simp
      rw [e3]
theorem row_holds {w : World} {g : Nat} {ds : List HC} (h : ∀ j, j < ds.length * 7 → w.cell? ⟨g, j, none⟩ = (flatH ds)[j]? ∧ w.frozen? ⟨g, j, none⟩ = false) : HoldsK encH 7 w g 0 ds.toArray := by
  intro t ht
  rw [size_flatK] at ht
  have ht' : t < ds.length * 7 := by simpa using ht
  obtain ⟨h1, h2⟩ := h t ht'
  rw [Nat.zero_add, get_flatK _ _ _ _ ht]
  exact ⟨h1.trans (flatH_get ds t ht'), h2⟩
def CellsA (g : Nat) (d : Array HC) : Asn := ⟨fun F w => F g ∧ HoldsK encH 7 w g 0 d, fun F w w' hs _ h => ⟨h.1, fun t ht => by
  obtain ⟨h1, h2⟩ := h.2 t ht
  exact ⟨(World.cell?_of_block (hs g h.1)).trans h1, (World.frozen?_of_block (hs g h.1)).trans h2⟩⟩⟩
/-- What the sort leaves: the histories in their order. -/
theorem sorted_order {G : Nat → Prop} {w : World} {l : List Hist} {ds : List HC} {d' : Array HC} (h : DsOk G w ds (wroteL l)) (hp : d'.toList.Perm ds) (hs : d'.toList.Pairwise (fun x y => x.tm < y.tm ∨ (x.tm = y.tm ∧ x.tag ≤ y.tag))) :
    d'.size = (ordH l).length ∧ ∀ i (h1 : i < d'.size) (h2 : i < (ordH l).length), HcOk G w d'[i] (ordH l)[i] := by
  have htags : ds.map (·.tag) = List.range ds.length := by
    refine List.ext_getElem (by simp) fun i h1 h2 => ?_
    have hi : i < ds.length := by simpa using h1
    rw [List.getElem_map, List.getElem_range]
    exact (h.2 i hi (by rw [← h.1]; exact hi)).2
  have hmem : ∀ x ∈ d'.toList, x.tag < (wroteL l).length ∧ ∃ h2 : x.tag < (wroteL l).length, HcOk G w x (wroteL l)[x.tag] := by
    intro x hx
    obtain ⟨i, hi, rfl⟩ := List.getElem_of_mem (hp.mem_iff.1 hx)
    obtain ⟨h1, h2⟩ := h.2 i hi (by rw [← h.1]; exact hi)
    have hi2 : ds[i].tag < (wroteL l).length := by rw [h2, ← h.1]; exact hi
    refine ⟨hi2, hi2, ?_⟩
    have : (wroteL l)[ds[i].tag] = (wroteL l)[i]'(by rw [← h.1]; exact hi) := by congr 1
    rw [this]; exact h1
  have hps : (d'.toList.map (·.tag)).Perm (List.range (ordIdx l).length) := by
    have := hp.map (·.tag)
    rw [htags, h.1, wroteL_len] at this
    exact this
  have hord := ordI_of_pos (l := l) hps (by
    rw [List.pairwise_map]
    refine (List.Pairwise.and_mem.1 hs).imp ?_
    rintro x y ⟨hx, hy, hxy⟩
    obtain ⟨hx1, _, hx2⟩ := hmem x hx
    obtain ⟨hy1, _, hy2⟩ := hmem y hy
    rw [wroteL_time hx1, wroteL_time hy1, ← hx2.tm, ← hy2.tm]
    exact hxy)
  have hoh := ordH_of_pos hord (fun p hp => by
    obtain ⟨x, hx, rfl⟩ := List.mem_map.1 hp
    exact (hmem x hx).1)
  have hlen : d'.size = (ordH l).length := by rw [hoh]; simp
  refine ⟨hlen, fun i h1 h2 => ?_⟩
  have hx : d'[i] ∈ d'.toList := by simp
  obtain ⟨hx1, _, hx2⟩ := hmem _ hx
  have e : (ordH l)[i] = (wroteL l)[d'[i].tag] := by
    simp only [hoh, List.getElem_map, Array.getElem_toList]
    rw [List.getD_eq_getElem?_getD, List.getElem?_eq_getElem hx1]; rfl
  rw [e]; exact hx2
theorem wroteL_snoc (l : List Hist) (k : Nat) (h : k < l.length) : wroteL (l.take (k + 1)) = if wroteH l[k] then wroteL (l.take k) ++ [l[k]] else wroteL (l.take k) := by
  unfold wroteL
  rw [take_snoc l k h, List.filter_append]
  split <;> simp_all
end Go.Proofs

/- The laws of chapter 22: what small and awake give. -/
namespace Go.Proofs
open Go.RowKit Sc

theorem dataB_len (k : Int) : (dataB k).length = 40 := dataB_length k
theorem data1_not : zero40 (dataB 1) = false := by decide +kernel

set_option maxRecDepth 100000 in
set_option maxHeartbeats 1000000 in
theorem awake22 (w : World) : Calls Try.prog 17 #[] w fun e w' => e = .returned (.bool true) ∧ Below w.heap.size w w' := by
  go_enter Try.func17, Try.ntmps17
  go_wp2_with fail
  refine (modelNew_any 3 _ (by omega) (by omega)).mono ?_
  rintro e w1 ⟨v, rfl, hm, hb1⟩
  have HM := Lib.hid hm
  obtain ⟨⟨b, r, ml, rfl, _⟩, _⟩ := hm
  have HB1 := Lib.hid hb1
  clear hb1
  go_wp2_with fail
  refine (data_any 1 _).mono ?_
  rintro e w2 ⟨dv, rfl, hd, hb2⟩
  obtain ⟨dp, dc, rfl⟩ := shape_of hd (dataB_len 1)
  have HD := Lib.hid hd
  have HB2 := Lib.hid hb2
  clear hd hb2
  go_wp2_with fail
  have hp := putsAt_one (n := 0) (by unfold I64; omega) HD.out HB2.out.size 39
  have ht : TxAt (New w1 (w2.alloc (.cells #[.int .i64 0, .slice dp 40 dc] 39))) (w2.alloc (.cells #[.int .i64 0, .slice dp 40 dc] 39)) _ ⟨0, _⟩ := ⟨_, rfl, i64_zero, hp⟩
  have hw1 : Below w1.heap.size w1 (w2.alloc (.cells #[.int .i64 0, .slice dp 40 dc] 39)) := Below.up HB2.out (below_alloc _ _)
  refine (modelRun_any (New w w1) _ _ _ 3 [] _ _ (by omega) (HM.out.same (HM.out.dom.same hw1)) ht (fun k hk => hk.2) (fun k h1 h2 => by have := h1.2; have := h2.1; omega)).mono ?_
  rintro e w3 ⟨rfl, hc3, hm3⟩
  have hrc : runCode 3 [(⟨0, dataB 1⟩ : Put)] = 0 := by decide +kernel
  have hrp : runPuts [] [(⟨0, dataB 1⟩ : Put)] = [(0, dataB 1)] := by
    simp only [runPuts, List.foldl, runStep, data1_not]; rfl
  simp only [hrc, hrp, if_true] at hm3
  rw [hrc]
  have HM3 := Lib.hid hm3
  have HC3 := Lib.hid hc3
  clear hm3 hc3 hrc hrp ht hp
  go_wp2_with fail
  refine (modelGet_any _ _ 3 0 _ _ HM3.out (fun k d h => ?_)).mono ?_
  · simp only [alook] at h; split at h
    · cases h; exact dataB_len 1
    · cases h
  rintro e w4 (⟨h0, _⟩ | ⟨_, v4, rfl, hv4, hb4⟩)
  · exact absurd h0 (by decide)
  have HV4 := Lib.hid hv4
  have HB4 := Lib.hid hb4
  clear hv4 hb4
  go_wp2_with fail
  refine (modelGet_any _ _ 3 3 _ _ (HM3.out.same (HM3.out.dom.same HB4.out)) (fun k d h => ?_)).mono ?_
  · simp only [alook] at h; split at h
    · cases h; exact dataB_len 1
    · cases h
  rintro e w5 (⟨_, rfl, hb5⟩ | ⟨h0, _⟩)
  case inr => exact absurd h0 (by decide)
  have HB5 := Lib.hid hb5
  clear hb5
  go_wp2_with fail
  refine (data_any 1 _).mono ?_
  rintro e w6 ⟨dv6, rfl, hd6, hb6⟩
  have HD6 := Lib.hid hd6
  have HB6 := Lib.hid hb6
  clear hd6 hb6
  go_wp2_with fail
  refine (bytes_any (fun _ => True) _ _ (dataB 1) (dataB 1) _ (BytesAt.mono (HV4.out.up (Below.up HB5.out HB6.out)) fun _ _ => trivial) (BytesAt.mono HD6.out fun _ _ => trivial)).mono ?_
  rintro e w7 ⟨rfl, hb7⟩
  have HB7 := Lib.hid hb7
  clear hb7
  rw [show (dataB 1 == dataB 1) = true by simp]
  go_wp2_with fail
  go_ret
  refine ⟨rfl, ?_⟩
  have h47 := Below.up HB4.out (Below.up HB5.out (Below.up HB6.out HB7.out))
  have hz := HB1.out.size
  have h3 : Below w.heap.size _ w3 := HC3.out.below (by have := hw1.size; omega) (fun k hk h => by have := h.1; omega)
  exact ((HB1.out.trans (hw1.mono hz)).trans h3).trans (h47.mono (by have := h3.size; have := hw1.size; omega))

set_option maxHeartbeats 400000 in
theorem hists_nil (w : World) : Calls Try.prog 39 #[.slice none 0 0, .int .i64 10000] w fun e w' => e = .returned (.int .i64 0) ∧ Below w.heap.size w w' := by
  go_enter Try.func39, Try.ntmps39
  go_wp2_with (go_at_call 40; refine (sum_one 0 0 _ _ _ (by omega) (by omega) (by omega) (by omega) (by go_simp)).mono ?_; rintro e w' ⟨rfl, rfl⟩; rw [show sat 0 0 = (0 : Int) from by decide])
  go_loop [5, 6] (fun n i => n = .int .i64 0 ∧ i = .int .i64 0) (fun _ _ => 0)
  case atStart => exact ⟨rfl, rfl⟩
  case round =>
    obtain ⟨rfl, rfl⟩ := hrel
    go_wp2
    go_ret
    exact ⟨rfl, below_alloc _ _⟩

/-- What small says of transactions: if yes, there are few. -/
def Small22 (l : List Tx) (w : World) (e : Ending) (w' : World) : Prop := ∃ q : Bool, e = .returned (.bool q) ∧ (q = true → tsz l ≤ 10000 ∧ l.length ≤ 100) ∧ Below w.heap.size w w'
set_option maxHeartbeats 400000 in
theorem small22_any (G : Nat → Prop) (v : Value) (l : List Tx) (w : World) (hG : Dom G w) (hv : TxsAt G w v l) :
    Calls Try.prog 15 #[v, .slice none 0 0] w (Small22 l w) := by
  have hlen : ∃ p c, v = .slice p l.length c ∧ l.length ≤ 9223372036854775807 := by obtain ⟨p, c, rfl, h1, h2, _⟩ := hv; exact ⟨p, c, rfl, by omega⟩
  obtain ⟨p, c, rfl, hl⟩ := hlen
  have HV := Lib.hid hv
  clear hv
  go_enter Try.func15, Try.ntmps15
  go_wp2_with fail
  refine (txs_any G _ l 10000 _ hG HV.out (by omega) (by omega)).mono ?_
  rintro e w1 ⟨n, rfl, hn0, hn1, hn2, hb1⟩
  have HN := Lib.hid hn2
  have HB1 := Lib.hid hb1
  clear hn2 hb1
  by_cases h1 : n ≤ 10000
  · by_cases h2 : l.length ≤ 100
    · have h2' : ((l.length : Nat) : Int) ≤ 100 := by omega
      go_wp2_with fail
      refine (hists_nil _).mono ?_
      rintro e w2 ⟨rfl, hb2⟩
      have HB2 := Lib.hid hb2
      clear hb2
      go_wp2
      go_ret
      exact ⟨true, rfl, fun _ => ⟨by have := HN.out h1; omega, h2⟩, Below.up HB1.out HB2.out⟩
    · have h2' : ¬ ((l.length : Nat) : Int) ≤ 100 := by omega
      go_wp2
      go_ret
      exact ⟨false, rfl, fun h => (by cases h), HB1.out⟩
  · go_wp2
    go_ret
    exact ⟨false, rfl, fun h => (by cases h), HB1.out⟩
end Go.Proofs
