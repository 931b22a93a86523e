/- Texts of this claim, one behind the other: One28, Check28, Prefix28, Hists, Awake28. -/
import Derived.Deep.RegionLaw
import Derived.Test.YtjomlcemnbfnfaaAu5

/- audit.one: one history, looked at among all. -/
namespace Go.Proofs
open Go.RowKit Sc Go.Sort

def sameB (l : List Hist) (i : Nat) (t : Int) (k : Int) : Bool := decide (k < (i : Int)) && (timeAt l k.toNat == t)
def hitC (l : List Hist) (h : Hist) (k : Nat) : Bool := decide (h.begun < timeAt l k) && (decide (timeAt l k < h.time) && clashB h (l.getD k hist0))
def hitT (l : List Hist) (h : Hist) (k : Nat) : Bool := decide (0 < (l.getD k hist0).upto) && (decide ((l.getD k hist0).upto < h.since) && decide (h.begun < timeAt l k))
/-- What is found at a history. -/
def oneCode (l : List Hist) (i : Nat) (h : Hist) : Int :=
  if (wroteH h && ((ordI l).map fun k : Nat => (k : Int)).any (sameB l i h.time)) = true then 11
  else if sawB l h = false then 13
  else if (wroteH h && (ordI l).any (hitC l h)) = true then 8
  else if (ordI l).any (hitT l h) = true then 11 else 0
set_option maxRecDepth 100000 in
set_option maxHeartbeats 1000000 in
theorem oneC_any (G : Nat → Prop) (l : List Hist) (i : Nat) (h : Hist) (k : Int) (bi bl bh : Nat) (lp : Option Addr) (lc : Nat) (W : World) (hk0 : 0 ≤ k) (hk1 : k < l.length) (hi : W.cell? ⟨bi, 0, none⟩ = some (.int .i64 i)) (hb : W.cell? ⟨bl, 0, none⟩ = some (.slice lp l.length lc)) (hh : W.cell? ⟨bh, 2, none⟩ = some (.int .i64 h.time)) (hl : HistsAt G W (.slice lp l.length lc) l) (_hll : l.length ≤ 1000) :
    Calls Try.prog 75 #[.int .i64 k, .pointer (some ⟨bi, 0, none⟩), .pointer (some ⟨bl, 0, none⟩), .pointer (some ⟨bh, 0, none⟩)] W fun e w' => e = .returned (.bool (sameB l i h.time k)) ∧ Below W.heap.size W w' := by
  obtain ⟨kn, rfl⟩ := Int.eq_ofNat_of_zero_le hk0
  obtain ⟨b, o, hC⟩ := SlAt.one (E := histE G) (k := 7) hl
  have hkl : kn < l.length := by omega
  obtain ⟨rfl, -, -, -, hc2, -⟩ := hC kn hkl
  have ht := timeAt_lt hkl
  rw [← ht] at hc2
  unfold sameB
  rw [Int.toNat_natCast]
  generalize timeAt l kn = t at *
  generalize h.time = t2 at *
  clear hC hl ht
  by_cases h1 : (kn : Int) < (i : Int)
  · have h1d : decide ((kn : Int) < (i : Int)) = true := decide_eq_true h1
    rw [h1d, Bool.true_and]
    have h1n : decide (kn < i) = true := decide_eq_true (by omega)
    have hkI : (kn : Int) < (l.length : Int) := by omega
    clear h1d
    go_enter Try.func75, Try.ntmps75
    go_wp2_with fail
    go_quiet (fail)
    go_wp2
    go_ret
    exact ⟨rfl, below_drewN (Below.refl _ _) _⟩
  · have h1d : decide ((kn : Int) < (i : Int)) = false := decide_eq_false h1
    rw [h1d, Bool.false_and]
    have h1n : decide (kn < i) = false := decide_eq_false (by omega)
    clear h1d
    go_enter Try.func75, Try.ntmps75
    go_wp2_with fail
    go_quiet (fail)
    go_wp2
    go_ret
    exact ⟨rfl, below_drewN (Below.refl _ _) _⟩

theorem hitC_no1 {l : List Hist} {h : Hist} {k : Nat} (h1 : ¬ h.begun < timeAt l k) : hitC l h k = false := by unfold hitC; rw [decide_eq_false h1]; rfl
theorem hitC_no2 {l : List Hist} {h : Hist} {k : Nat} (h1 : ¬ timeAt l k < h.time) : hitC l h k = false := by unfold hitC; rw [decide_eq_false h1]; simp
theorem hitC_yes {l : List Hist} {h : Hist} {k : Nat} (h1 : h.begun < timeAt l k) (h2 : timeAt l k < h.time) (hk : k < l.length) : hitC l h k = clashB h l[k] := by
  unfold hitC; rw [decide_eq_true h1, decide_eq_true h2, List.getD_eq_getElem?_getD, List.getElem?_eq_getElem hk]; simp
theorem any_none {α : Type} {p : α → Bool} {l : List α} (h : ∀ m (hm : m < l.length), p l[m] = false) : l.any p = false := by
  rw [List.any_eq_false]
  intro x hx
  obtain ⟨m, hm, rfl⟩ := List.getElem_of_mem hx
  rw [h m hm]; decide
theorem any_some {α : Type} {p : α → Bool} {l : List α} {m : Nat} (hm : m < l.length) (h : p l[m] = true) : l.any p = true := List.any_eq_true.2 ⟨_, List.getElem_mem hm, h⟩
/-- What lies in the three boxes of a call of one. -/
structure OneBox (l : List Hist) (i : Nat) (h : Hist) (lp rp pp : Option Addr) (lc rc pc b b1 b2 : Nat) (W : World) : Prop where
  cl : W.cell? ⟨b, 0, none⟩ = some (.slice lp l.length lc)
  ci : W.cell? ⟨b1, 0, none⟩ = some (.int .i64 i)
  c0 : W.cell? ⟨b2, 0, none⟩ = some (.int .i64 h.state)
  c1 : W.cell? ⟨b2, 1, none⟩ = some (.int .i64 h.begun)
  c2 : W.cell? ⟨b2, 2, none⟩ = some (.int .i64 h.time)
  c3 : W.cell? ⟨b2, 3, none⟩ = some (.int .i64 h.since)
  c4 : W.cell? ⟨b2, 4, none⟩ = some (.int .i64 h.upto)
  c5 : W.cell? ⟨b2, 5, none⟩ = some (.slice rp h.reads.length rc)
  c6 : W.cell? ⟨b2, 6, none⟩ = some (.slice pp h.puts.length pc)
theorem OneBox.up {l : List Hist} {i : Nat} {h : Hist} {lp rp pp : Option Addr} {lc rc pc b b1 b2 : Nat} {W w' : World} (x : OneBox l i h lp rp pp lc rc pc b b1 b2 W) (hb : Below W.heap.size W w') : OneBox l i h lp rp pp lc rc pc b b1 b2 w' :=
  ⟨cell_up hb x.cl, cell_up hb x.ci, cell_up hb x.c0, cell_up hb x.c1, cell_up hb x.c2, cell_up hb x.c3, cell_up hb x.c4, cell_up hb x.c5, cell_up hb x.c6⟩
theorem oneBox_made (l : List Hist) (i : Nat) (h : Hist) (lp rp pp : Option Addr) (lc rc pc : Nat) (w : World) (T U V : TypeId) :
    OneBox l i h lp rp pp lc rc pc w.heap.size (w.heap.size + 1) (w.heap.size + 1 + 1) (((w.alloc (.cells #[.slice lp l.length lc] T)).alloc (.cells #[.int .i64 i] U)).alloc (.cells #[.int .i64 h.state, .int .i64 h.begun, .int .i64 h.time, .int .i64 h.since, .int .i64 h.upto, .slice rp h.reads.length rc, .slice pp h.puts.length pc] V)) := by
  have n1 := heap_alloc_new w (.cells #[.slice lp l.length lc] T)
  have n2 := heap_alloc_new (w.alloc (.cells #[.slice lp l.length lc] T)) (.cells #[.int .i64 i] U)
  have n3 := heap_alloc_new ((w.alloc (.cells #[.slice lp l.length lc] T)).alloc (.cells #[.int .i64 i] U)) (.cells #[.int .i64 h.state, .int .i64 h.begun, .int .i64 h.time, .int .i64 h.since, .int .i64 h.upto, .slice rp h.reads.length rc, .slice pp h.puts.length pc] V)
  rw [show (w.alloc (.cells #[.slice lp l.length lc] T)).heap.size = w.heap.size + 1 by simp] at n2
  rw [show ((w.alloc (.cells #[.slice lp l.length lc] T)).alloc (.cells #[.int .i64 i] U)).heap.size = w.heap.size + 1 + 1 by simp] at n3
  refine ⟨cell_up (below_alloc _ _) (cell_up (below_alloc _ _) (by rw [cell_row n1]; rfl)), cell_up (below_alloc _ _) (by rw [cell_row n2]; rfl), ?_, ?_, ?_, ?_, ?_, ?_, ?_⟩
  all_goals rw [cell_row n3]; rfl

set_option maxRecDepth 100000 in
set_option maxHeartbeats 4000000 in
theorem one_any (G : Nat → Prop) (n : Nat) (lv ov : Value) (l : List Hist) (i : Nat) (w : World) (n1 : 1 ≤ n) (n2 : n ≤ 1000000) (hG : Dom G w) (hl : HistsAt G w lv l) (ho : IntsAt G w ov ((ordI l).map fun i : Nat => (i : Int))) (hll : l.length ≤ 1000)
    (hmay : ∀ x ∈ l, mayB n x = true) (hi : i < l.length) :
    Calls Try.prog 59 #[.int .i64 n, lv, ov, .int .i64 i] w fun e w' => e = .returned (.int .i64 (oneCode l i l[i])) ∧ Below w.heap.size w w' := by
  have hl0 := hl
  obtain ⟨lp, lc, rfl, hll1, hll2, -⟩ := hl0
  obtain ⟨lb, lo, hC⟩ := SlAt.one (E := histE G) (k := 7) hl
  have ho0 := ho
  obtain ⟨op, oc, rfl, ho1, ho2, -⟩ := ho0
  obtain ⟨ob, oo, hO⟩ := SlAt.one (E := intE) (k := 1) ho
  rw [List.length_map] at ho1
  have hol := ordI_len l
  have hlt : ∀ k ∈ ordI l, k < l.length := fun k hk => (mem_ordI.1 hk).1
  obtain ⟨rfl, hGb, hc0, hc1, hc2, hc3, hc4, hii, ⟨rv, hc5, hrd⟩, pv, hc6, hpd⟩ := hC i hi
  have hlb : lb < w.heap.size := hG lb hGb
  have hrd0 := hrd
  have hpd0 := hpd
  obtain ⟨rp, rc, rfl, -⟩ := hrd0
  obtain ⟨pp, pc, rfl, hpc1, hpc2, -⟩ := hpd0
  have hmi := hmay _ (List.getElem_mem hi)
  have hIw : (i : Int) < (l.length : Int) := by omega
  generalize hgen : l[i] = h at *
  have hbox := oneBox_made l i h (some ⟨lb, lo, none⟩) rp pp lc rc pc w 42 3 45
  have hbel : Below w.heap.size w (((w.alloc (.cells #[.slice (some ⟨lb, lo, none⟩) l.length lc] 42)).alloc (.cells #[.int .i64 i] 3)).alloc (.cells #[.int .i64 h.state, .int .i64 h.begun, .int .i64 h.time, .int .i64 h.since, .int .i64 h.upto, .slice rp h.reads.length rc, .slice pp h.puts.length pc] 45)) := Below.up (Below.up (below_alloc _ _) (below_alloc _ _)) (below_alloc _ _)
  have hzz : w.heap.size + 1 + 1 < (((w.alloc (.cells #[.slice (some ⟨lb, lo, none⟩) l.length lc] 42)).alloc (.cells #[.int .i64 i] 3)).alloc (.cells #[.int .i64 h.state, .int .i64 h.begun, .int .i64 h.time, .int .i64 h.since, .int .i64 h.upto, .slice rp h.reads.length rc, .slice pp h.puts.length pc] 45)).heap.size := by simp
  rw [List.length_map]
  have HL := Lib.hid hl
  have HOV := Lib.hid ho
  have HG := Lib.hid hG
  have HC := Lib.hid hC
  have HO := Lib.hid hO
  have HRD := Lib.hid hrd
  have HPD := Lib.hid hpd
  have HI := Lib.hid hii
  have HGEN := Lib.hid hgen
  have HPC := Lib.hid hpc1
  have HMAY := Lib.hid hmay
  have HLT := Lib.hid hlt
  have HMI := Lib.hid hmi
  have HBOX := Lib.hid hbox
  have HBEL := Lib.hid hbel
  clear hmay hlt hmi hbox hbel
  clear hl ho hG hC hO hrd hpd hii hgen hpc1
  go_enter Try.func59, Try.ntmps59
  go_upto_region 2 with fail
  generalize (((w.alloc (.cells #[.slice (some ⟨lb, lo, none⟩) l.length lc] 42)).alloc (.cells #[.int .i64 i] 3)).alloc (.cells #[.int .i64 h.state, .int .i64 h.begun, .int .i64 h.time, .int .i64 h.since, .int .i64 h.upto, .slice rp h.reads.length rc, .slice pp h.puts.length pc] 45)) = W3 at *
  generalize w.heap.size + 1 + 1 = b2 at *
  generalize w.heap.size + 1 = b1 at *
  have hGW : Dom G W3 := HG.out.below HBEL.out
  have hsame : Same G w W3 := HG.out.same HBEL.out
  have hvh : ∀ W, Below W3.heap.size W3 W → histV G W (.agg #[.int .i64 h.state, .int .i64 h.begun, .int .i64 h.time, .int .i64 h.since, .int .i64 h.upto, .slice rp h.reads.length rc, .slice pp h.puts.length pc]) h := fun W hW => ⟨rp, rc, pp, pc, rfl, HI.out, (HRD.out.same hsame).same (hGW.same hW), (HPD.out.same hsame).same (hGW.same hW)⟩
  have hlW : ∀ W, Below W3.heap.size W3 W → HistsAt G W (.slice (some ⟨lb, lo, none⟩) l.length lc) l := fun W hW => HistsAt.same (HistsAt.same HL.out hsame) (hGW.same hW)
  have hoW : ∀ W, Below W3.heap.size W3 W → IntsAt G W (.slice op (ordI l).length oc) ((ordI l).map fun i : Nat => (i : Int)) := fun W hW => by
    have := HOV.out
    rw [List.length_map] at this
    exact IntsAt.same (IntsAt.same this hsame) (hGW.same hW)
  have eg : ∀ args w, (callFunc 75 args).run Try.prog w = .ok (.enter 75 args) w := enters_of Try.func75 (by kernel_rfl) rfl
  have HANY : Hid (∀ W, Below W3.heap.size W3 W → Calls Try.prog 74 #[.slice op (ordI l).length oc, .func (.func 75) #[] #[.pointer (some ⟨b1, 0, none⟩), .pointer (some ⟨w.heap.size, 0, none⟩), .pointer (some ⟨b2, 0, none⟩)]] W fun e w' => e = .returned (.bool (((ordI l).map fun k : Nat => (k : Int)).any (sameB l i h.time))) ∧ Below W.heap.size W w') := fun W hW =>
    anyInt_any G _ _ (sameB l i h.time) 75 _ eg W (hGW.below hW) (hoW W hW) fun j hj W2 ev hW2 hev => by
      obtain ⟨rfl, -⟩ := hev
      have hB2 := Below.up hW hW2
      have hjl : j < (ordI l).length := by simpa using hj
      have hkl := HLT.out _ (List.getElem_mem hjl)
      rw [List.getElem_map]
      exact oneC_any G l i h _ b1 w.heap.size b2 (some ⟨lb, lo, none⟩) lc W2 (by omega) (by omega) (HBOX.out.up hB2).ci (HBOX.out.up hB2).cl (HBOX.out.up hB2).c2 (hlW W2 hB2) hll
  have HSAW : Hid (∀ W, Below W3.heap.size W3 W → Calls Try.prog 76 #[.int .i64 n, .slice (some ⟨lb, lo, none⟩) l.length lc, .slice op (ordI l).length oc, .agg #[.int .i64 h.state, .int .i64 h.begun, .int .i64 h.time, .int .i64 h.since, .int .i64 h.upto, .slice rp h.reads.length rc, .slice pp h.puts.length pc]] W fun e w' => e = .returned (.bool (sawB l h)) ∧ Below W.heap.size W w') := fun W hW =>
    saw_any G n _ _ _ l h W n1 n2 (hGW.below hW) (hlW W hW) (hoW W hW) (hvh W hW) hll HMAY.out HMI.out
  have HCODE : Hid (oneCode l i h = if (wroteH h && ((ordI l).map fun k : Nat => (k : Int)).any (sameB l i h.time)) = true then 11 else if sawB l h = false then 13 else if (wroteH h && (ordI l).any (hitC l h)) = true then 8 else if (ordI l).any (hitT l h) = true then 11 else 0) := rfl
  have hwr := fun W => wroteA_any h.state h.begun h.time h.since h.upto rp pp h.reads.length rc h.puts.length pc W (by have := HPC.out; omega)
  have hwq : wroteH h = (decide (h.state = 3) && decide (0 < h.puts.length)) := rfl
  rw [← hwq] at hwr
  have HVH := Lib.hid hvh
  have HLW := Lib.hid hlW
  have HGW := Lib.hid hGW
  have HWR := Lib.hid hwr
  obtain ⟨cl, ci, c0, c1, c2, c3, c4, c5, c6⟩ := HBOX.out
  clear hvh hlW hoW hGW hsame eg hwr hwq hc0 hc1 hc2 hc3 hc4 hc5 hc6
  generalize ((ordI l).map fun k : Nat => (k : Int)).any (sameB l i h.time) = q1 at *
  generalize sawB l h = q2 at *
  generalize wroteH h = q at *
  go_wp2_with fail
  refine (HWR.out _).mono ?_
  rintro e w4 ⟨rfl, hb4⟩
  have HB4 := Lib.hid hb4
  obtain ⟨al, ai, a0, a1, a2, a3, a4, a5, a6⟩ := HBOX.out.up hb4
  clear hb4 cl ci c0 c1 c2 c3 c4 c5 c6
  cases q with
  | false =>
    go_wp2_with fail
    refine (HSAW.out _ HB4.out).mono ?_
    rintro e w6 ⟨rfl, hb6⟩
    have HB6 := Lib.hid (Below.up HB4.out hb6)
    clear hb6 al ai a0 a1 a2 a3 a4 a5 a6
    cases q2 with
    | false =>
      go_wp2
      go_ret
      exact ⟨by rw [HCODE.out]; simp <;> rfl, Below.up HBEL.out HB6.out⟩
    | true =>
    obtain ⟨al, ai, a0, a1, a2, a3, a4, a5, a6⟩ := HBOX.out.up HB6.out
    go_wp2_with fail
    refine (HWR.out _).mono ?_
    rintro e wX ⟨rfl, hb7⟩
    have HBX := Lib.hid (Below.up HB6.out hb7)
    clear hb7 al ai a0 a1 a2 a3 a4 a5 a6
    obtain ⟨W5, rfl⟩ : ∃ W5 : World, W5 = wX := ⟨_, rfl⟩
    go_wp2_with fail
    go_loopw [68] (fun s wr => ∃ j : Nat, j ≤ (ordI l).length ∧ s = .int .i64 j ∧ Hid (∀ m (hm : m < (ordI l).length), m < j → hitT l h (ordI l)[m] = false) ∧ Hid (Below W3.heap.size W3 wr)) (fun s _ => (ordI l).length - (intOf s).toNat)
    case atStart => exact ⟨0, Nat.zero_le _, by go_num, fun m _ hm => absurd hm (Nat.not_lt_zero _), HBX⟩
    case round =>
      obtain ⟨j, hj, rfl, HT, BW⟩ := hrel
      clear HBX
      by_cases hjl : j < (ordI l).length
      case pos =>
        obtain ⟨rfl, hGo, hoc, hoi⟩ := HO.out j (by rw [List.length_map]; exact hjl)
        rw [Nat.mul_one, List.getElem_map] at hoc
        have hwr := Below.up HBEL.out BW.out
        replace hoc := cell_up hwr hoc
        have hkl := HLT.out _ (List.getElem_mem hjl)
        obtain ⟨-, hGl, d0, d1, d2, d3, d4, di, ⟨rv2, d5, drd⟩, pv2, d6, dpd⟩ := HC.out _ hkl
        have dt := timeAt_lt hkl
        have drd0 := drd
        have dpd0 := dpd
        obtain ⟨rp2, rc2, rfl, -⟩ := drd0
        obtain ⟨pp2, pc2, rfl, -⟩ := dpd0
        replace d0 := cell_up hwr d0
        replace d1 := cell_up hwr d1
        replace d2 := cell_up hwr d2
        replace d3 := cell_up hwr d3
        replace d4 := cell_up hwr d4
        replace d5 := cell_up hwr d5
        replace d6 := cell_up hwr d6
        have hkI : (((ordI l)[j] : Nat) : Int) < (l.length : Int) := by omega
        obtain ⟨cl, ci, c0, c1, c2, c3, c4, c5, c6⟩ := HBOX.out.up BW.out
        have hht : hitT l h (ordI l)[j] = (decide (0 < l[(ordI l)[j]].upto) && (decide (l[(ordI l)[j]].upto < h.since) && decide (h.begun < l[(ordI l)[j]].time))) := by
          unfold hitT; rw [dt, List.getD_eq_getElem?_getD, List.getElem?_eq_getElem hkl]; rfl
        have hyes : hitT l h (ordI l)[j] = true → (ordI l).any (hitT l h) = true := any_some hjl
        have hnx : hitT l h (ordI l)[j] = false → ∀ m (hm : m < (ordI l).length), m < j + 1 → hitT l h (ordI l)[m] = false := fun e m hm hmj => by
          rcases (show m < j ∨ m = j by omega) with h | rfl
          · exact HT.out m hm h
          · exact e
        rw [hht] at hyes hnx
        have HYES := Lib.hid hyes
        have HNX := Lib.hid hnx
        have HWR := Lib.hid hwr
        clear hyes hnx hwr
        clear drd dpd di hGo hGl hoi dt hht
        generalize l[(ordI l)[j]].upto = up at *
        generalize l[(ordI l)[j]].time = tm at *
        generalize l[(ordI l)[j]].state = sx at *
        generalize l[(ordI l)[j]].begun = bx at *
        generalize l[(ordI l)[j]].since = fx at *
        generalize l[(ordI l)[j]].reads.length = rn at *
        generalize l[(ordI l)[j]].puts.length = pn at *
        generalize (ordI l)[j] = k at *
        by_cases u1 : 0 < up
        case neg =>
          have e1 : decide (0 < up) = false := decide_eq_false u1
          have HN2 := Lib.hid (HNX.out (by rw [e1]; rfl))
          clear u1
          go_wp2_with fail
          go_quiet (fail)
          go_wp2_with fail
          go_roundw
          case rel => exact ⟨j + 1, by omega, by go_num, HN2, Lib.hid (below_drewN BW.out _)⟩
          case measure => simp [intOf]; omega
        case pos =>
          have e1 : decide (0 < up) = true := decide_eq_true u1
          by_cases u2 : up < h.since
          case neg =>
            have e2 : decide (up < h.since) = false := decide_eq_false u2
            have HN2 := Lib.hid (HNX.out (by rw [e1, e2]; rfl))
            clear u2
            go_wp2_with fail
            go_quiet (fail)
            go_wp2_with fail
            go_roundw
            case rel => exact ⟨j + 1, by omega, by go_num, HN2, Lib.hid (below_drewN BW.out _)⟩
            case measure => simp [intOf]; omega
          case pos =>
            have e2 : decide (up < h.since) = true := decide_eq_true u2
            by_cases u3 : h.begun < tm
            case neg =>
              have e3 : decide (h.begun < tm) = false := decide_eq_false u3
              have HN2 := Lib.hid (HNX.out (by rw [e1, e2, e3]; rfl))
              go_wp2_with fail
              go_quiet (fail)
              go_wp2_with fail
              go_roundw
              case rel => exact ⟨j + 1, by omega, by go_num, HN2, Lib.hid (below_drewN BW.out _)⟩
              case measure => simp [intOf]; omega
            case pos =>
              have e3 : decide (h.begun < tm) = true := decide_eq_true u3
              have HQ4 := Lib.hid (HYES.out (by rw [e1, e2, e3]; rfl))
              go_wp2_with fail
              go_quiet (fail)
              go_wp2_with fail
              go_ret
              exact ⟨by rw [HCODE.out, HQ4.out]; simp <;> rfl, Below.up HBEL.out (below_drewN BW.out _)⟩
      case neg =>
        have HQ4 : Hid ((ordI l).any (hitT l h) = false) := any_none fun m hm => HT.out m hm (by omega)
        go_wp2
        go_ret
        exact ⟨by rw [HCODE.out, HQ4.out]; simp <;> rfl, Below.up HBEL.out BW.out⟩
  | true =>
    go_wp2_with fail
    refine (HANY.out _ HB4.out).mono ?_
    rintro e w5 ⟨rfl, hb5⟩
    have HB5 := Lib.hid (Below.up HB4.out hb5)
    clear hb5 al ai a0 a1 a2 a3 a4 a5 a6
    cases q1 with
    | true =>
      go_wp2
      go_ret
      exact ⟨by rw [HCODE.out]; simp <;> rfl, Below.up HBEL.out HB5.out⟩
    | false =>
    obtain ⟨al, ai, a0, a1, a2, a3, a4, a5, a6⟩ := HBOX.out.up HB5.out
    go_wp2_with fail
    refine (HSAW.out _ HB5.out).mono ?_
    rintro e w6 ⟨rfl, hb6⟩
    have HB6 := Lib.hid (Below.up HB5.out hb6)
    clear hb6 al ai a0 a1 a2 a3 a4 a5 a6
    cases q2 with
    | false =>
      go_wp2
      go_ret
      exact ⟨by rw [HCODE.out]; simp <;> rfl, Below.up HBEL.out HB6.out⟩
    | true =>
    obtain ⟨al, ai, a0, a1, a2, a3, a4, a5, a6⟩ := HBOX.out.up HB6.out
    go_wp2_with fail
    refine (HWR.out _).mono ?_
    rintro e w7 ⟨rfl, hb7⟩
    have HB7 := Lib.hid (Below.up HB6.out hb7)
    clear hb7 al ai a0 a1 a2 a3 a4 a5 a6
    go_wp2_with fail
    go_loopw [35] (fun s wr => ∃ j : Nat, j ≤ (ordI l).length ∧ s = .int .i64 j ∧ Hid (∀ m (hm : m < (ordI l).length), m < j → hitC l h (ordI l)[m] = false) ∧ Hid (Below W3.heap.size W3 wr)) (fun s _ => (ordI l).length - (intOf s).toNat)
    case atStart => exact ⟨0, Nat.zero_le _, by go_num, fun m _ hm => absurd hm (Nat.not_lt_zero _), HB7⟩
    case round =>
      obtain ⟨j, hj, rfl, HT, BW⟩ := hrel
      clear HB7
      by_cases hjl : j < (ordI l).length
      case pos =>
        obtain ⟨rfl, hGo, hoc, hoi⟩ := HO.out j (by rw [List.length_map]; exact hjl)
        rw [Nat.mul_one, List.getElem_map] at hoc
        have hwr := Below.up HBEL.out BW.out
        replace hoc := cell_up hwr hoc
        have hkl := HLT.out _ (List.getElem_mem hjl)
        obtain ⟨-, hGl, d0, d1, d2, d3, d4, di, ⟨rv2, d5, drd⟩, pv2, d6, dpd⟩ := HC.out _ hkl
        have dt := timeAt_lt hkl
        have drd0 := drd
        have dpd0 := dpd
        obtain ⟨rp2, rc2, rfl, -⟩ := drd0
        obtain ⟨pp2, pc2, rfl, -⟩ := dpd0
        replace d0 := cell_up hwr d0
        replace d1 := cell_up hwr d1
        replace d2 := cell_up hwr d2
        replace d3 := cell_up hwr d3
        replace d4 := cell_up hwr d4
        replace d5 := cell_up hwr d5
        replace d6 := cell_up hwr d6
        have hkI : (((ordI l)[j] : Nat) : Int) < (l.length : Int) := by omega
        obtain ⟨cl, ci, c0, c1, c2, c3, c4, c5, c6⟩ := HBOX.out.up BW.out
        have hn1 := hitC_no1 (l := l) (h := h) (k := (ordI l)[j])
        have hn2 := hitC_no2 (l := l) (h := h) (k := (ordI l)[j])
        have hn3 : h.begun < timeAt l (ordI l)[j] → timeAt l (ordI l)[j] < h.time → hitC l h (ordI l)[j] = clashB h l[(ordI l)[j]] := fun v1 v2 => hitC_yes v1 v2 hkl
        have hyes : hitC l h (ordI l)[j] = true → (ordI l).any (hitC l h) = true := any_some hjl
        have hnx : hitC l h (ordI l)[j] = false → ∀ m (hm : m < (ordI l).length), m < j + 1 → hitC l h (ordI l)[m] = false := fun e m hm hmj => by
          rcases (show m < j ∨ m = j by omega) with h | rfl
          · exact HT.out m hm h
          · exact e
        have hcl := fun W (hW : Below wr.heap.size wr W) => clash_any G (.agg #[.int .i64 h.state, .int .i64 h.begun, .int .i64 h.time, .int .i64 h.since, .int .i64 h.upto, .slice rp h.reads.length rc, .slice pp h.puts.length pc]) (.agg #[.int .i64 l[(ordI l)[j]].state, .int .i64 l[(ordI l)[j]].begun, .int .i64 l[(ordI l)[j]].time, .int .i64 l[(ordI l)[j]].since, .int .i64 l[(ordI l)[j]].upto, .slice rp2 l[(ordI l)[j]].reads.length rc2, .slice pp2 l[(ordI l)[j]].puts.length pc2]) h l[(ordI l)[j]] W (HGW.out.below (Below.up BW.out hW)) (HVH.out W (Below.up BW.out hW)) ⟨rp2, rc2, pp2, pc2, rfl, di, (drd.same (HG.out.same hwr)).same ((HG.out.below hwr).same hW), (dpd.same (HG.out.same hwr)).same ((HG.out.below hwr).same hW)⟩
        rw [dt] at hn1 hn2 hn3
        generalize hitC l h (ordI l)[j] = qh at *
        generalize clashB h l[(ordI l)[j]] = qc at *
        have HYES := Lib.hid hyes
        have HNX := Lib.hid hnx
        have HWR := Lib.hid hwr
        have HCL := Lib.hid hcl
        have HN1 := Lib.hid hn1
        have HN2 := Lib.hid hn2
        have HN3 := Lib.hid hn3
        clear hyes hnx hwr hcl hn1 hn2 hn3
        clear drd dpd di hGo hGl hoi dt
        generalize l[(ordI l)[j]].upto = up at *
        generalize l[(ordI l)[j]].time = tm at *
        generalize l[(ordI l)[j]].state = sx at *
        generalize l[(ordI l)[j]].begun = bx at *
        generalize l[(ordI l)[j]].since = fx at *
        generalize l[(ordI l)[j]].reads.length = rn at *
        generalize l[(ordI l)[j]].puts.length = pn at *
        generalize (ordI l)[j] = k at *
        by_cases u1 : h.begun < tm
        case neg =>
          have e1 : decide (h.begun < tm) = false := decide_eq_false u1
          have HN4 := Lib.hid (HNX.out (HN1.out u1))
          clear u1
          go_wp2_with fail
          go_quiet (fail)
          go_wp2_with fail
          go_roundw
          case rel => exact ⟨j + 1, by omega, by go_num, HN4, Lib.hid (below_drewN BW.out _)⟩
          case measure => simp [intOf]; omega
        case pos =>
          have e1 : decide (h.begun < tm) = true := decide_eq_true u1
          by_cases u2 : tm < h.time
          case neg =>
            have e2 : decide (tm < h.time) = false := decide_eq_false u2
            have HN4 := Lib.hid (HNX.out (HN2.out u2))
            clear u2
            go_wp2_with fail
            go_quiet (fail)
            go_wp2_with fail
            go_roundw
            case rel => exact ⟨j + 1, by omega, by go_num, HN4, Lib.hid (below_drewN BW.out _)⟩
            case measure => simp [intOf]; omega
          case pos =>
            have e2 : decide (tm < h.time) = true := decide_eq_true u2
            have hqc := HN3.out u1 u2
            subst hqc
            go_upto_region 10 with fail
            refine wp_regionG (fun W => Below wr.heap.size wr W) (n := 26) (by kernel_rfl) (by kernel_rfl) ?_
            refine wpG.take 0 (v := ?_) (a' := ?_) rfl (by kernel_rfl) (by kernel_rfl) (by kernel_rfl) (by kernel_rfl) (fun _ _ _ h => h) ?_ ?_ ?_
            rotate_left 2
            · intro W hW
              have hld0 := cell_up hW cl
              go_simp
              try with_reducible rfl
            · go_simp
              try with_reducible rfl
            refine wpG.take 1 (v := ?_) (a' := ?_) rfl (by kernel_rfl) (by kernel_rfl) (by kernel_rfl) (by kernel_rfl) (fun _ _ _ h => h) ?_ ?_ ?_
            rotate_left 2
            · intro W hW
              go_simp
              try with_reducible rfl
            · go_simp
              try with_reducible rfl
            refine wpG.take 2 (v := ?_) (a' := ?_) rfl (by kernel_rfl) (by kernel_rfl) (by kernel_rfl) (by kernel_rfl) (fun _ _ _ h => h) ?_ ?_ ?_
            rotate_left 2
            · intro W hW
              go_simp
              try with_reducible rfl
            · go_simp
              try with_reducible rfl
            refine wpG.take 3 (v := ?_) (a' := ?_) rfl (by kernel_rfl) (by kernel_rfl) (by kernel_rfl) (by kernel_rfl) (fun _ _ _ h => h) ?_ ?_ ?_
            rotate_left 2
            · intro W hW
              go_simp
              try with_reducible rfl
            · go_simp
              try with_reducible rfl
            refine wpG.take 4 (v := ?_) (a' := ?_) rfl (by kernel_rfl) (by kernel_rfl) (by kernel_rfl) (by kernel_rfl) (fun _ _ _ h => h) ?_ ?_ ?_
            rotate_left 2
            · intro W hW
              have hld0 := cell_up hW d2
              go_simp
              try with_reducible rfl
            · go_simp
              try with_reducible rfl
            refine wpG.take 5 (v := ?_) (a' := ?_) rfl (by kernel_rfl) (by kernel_rfl) (by kernel_rfl) (by kernel_rfl) (fun _ _ _ h => h) ?_ ?_ ?_
            rotate_left 2
            · intro W hW
              go_simp
              try with_reducible rfl
            · go_simp
              try with_reducible rfl
            refine wpG.take 6 (v := ?_) (a' := ?_) rfl (by kernel_rfl) (by kernel_rfl) (by kernel_rfl) (by kernel_rfl) (fun _ _ _ h => h) ?_ ?_ ?_
            rotate_left 2
            · intro W hW
              have hld0 := cell_up hW c1
              go_simp
              try with_reducible rfl
            · go_simp
              try with_reducible rfl
            refine wpG.take 7 (v := ?_) (a' := ?_) rfl (by kernel_rfl) (by kernel_rfl) (by kernel_rfl) (by kernel_rfl) (fun _ _ _ h => h) ?_ ?_ ?_
            rotate_left 2
            · intro W hW
              go_simp
              try with_reducible rfl
            · go_simp
              try with_reducible rfl
            refine wpG.take 8 (v := ?_) (a' := ?_) rfl (by kernel_rfl) (by kernel_rfl) (by kernel_rfl) (by kernel_rfl) (fun _ _ _ h => h) ?_ ?_ ?_
            rotate_left 2
            · intro W hW
              go_simp
              try with_reducible rfl
            · go_simp
              try with_reducible rfl
            refine wpG.take 9 (v := ?_) (a' := ?_) rfl (by kernel_rfl) (by kernel_rfl) (by kernel_rfl) (by kernel_rfl) (fun _ _ _ h => h) ?_ ?_ ?_
            rotate_left 2
            · intro W hW
              have hld0 := cell_up hW cl
              go_simp
              try with_reducible rfl
            · go_simp
              try with_reducible rfl
            refine wpG.take 10 (v := ?_) (a' := ?_) rfl (by kernel_rfl) (by kernel_rfl) (by kernel_rfl) (by kernel_rfl) (fun _ _ _ h => h) ?_ ?_ ?_
            rotate_left 2
            · intro W hW
              go_simp
              try with_reducible rfl
            · go_simp
              try with_reducible rfl
            refine wpG.take 11 (v := ?_) (a' := ?_) rfl (by kernel_rfl) (by kernel_rfl) (by kernel_rfl) (by kernel_rfl) (fun _ _ _ h => h) ?_ ?_ ?_
            rotate_left 2
            · intro W hW
              go_simp
              try with_reducible rfl
            · go_simp
              try with_reducible rfl
            refine wpG.take 12 (v := ?_) (a' := ?_) rfl (by kernel_rfl) (by kernel_rfl) (by kernel_rfl) (by kernel_rfl) (fun _ _ _ h => h) ?_ ?_ ?_
            rotate_left 2
            · intro W hW
              go_simp
              try with_reducible rfl
            · go_simp
              try with_reducible rfl
            refine wpG.take 13 (v := ?_) (a' := ?_) rfl (by kernel_rfl) (by kernel_rfl) (by kernel_rfl) (by kernel_rfl) (fun _ _ _ h => h) ?_ ?_ ?_
            rotate_left 2
            · intro W hW
              have hld0 := cell_up hW d2
              go_simp
              try with_reducible rfl
            · go_simp
              try with_reducible rfl
            refine wpG.take 14 (v := ?_) (a' := ?_) rfl (by kernel_rfl) (by kernel_rfl) (by kernel_rfl) (by kernel_rfl) (fun _ _ _ h => h) ?_ ?_ ?_
            rotate_left 2
            · intro W hW
              go_simp
              try with_reducible rfl
            · go_simp
              try with_reducible rfl
            refine wpG.take 15 (v := ?_) (a' := ?_) rfl (by kernel_rfl) (by kernel_rfl) (by kernel_rfl) (by kernel_rfl) (fun _ _ _ h => h) ?_ ?_ ?_
            rotate_left 2
            · intro W hW
              have hld0 := cell_up hW c2
              go_simp
              try with_reducible rfl
            · go_simp
              try with_reducible rfl
            refine wpG.take 16 (v := ?_) (a' := ?_) rfl (by kernel_rfl) (by kernel_rfl) (by kernel_rfl) (by kernel_rfl) (fun _ _ _ h => h) ?_ ?_ ?_
            rotate_left 2
            · intro W hW
              go_simp
              try with_reducible rfl
            · go_simp
              try with_reducible rfl
            refine wpG.take 17 (v := ?_) (a' := ?_) rfl (by kernel_rfl) (by kernel_rfl) (by kernel_rfl) (by kernel_rfl) (fun _ _ _ h => h) ?_ ?_ ?_
            rotate_left 2
            · intro W hW
              go_simp
              try with_reducible rfl
            · go_simp
              try with_reducible rfl
            refine wpG.take 18 (v := ?_) (a' := ?_) rfl (by kernel_rfl) (by kernel_rfl) (by kernel_rfl) (by kernel_rfl) (fun _ _ _ h => h) ?_ ?_ ?_
            rotate_left 2
            · intro W hW
              go_simp
              try with_reducible rfl
            · go_simp
              try with_reducible rfl
            refine wpG.take 19 (v := ?_) (a' := ?_) rfl (by kernel_rfl) (by kernel_rfl) (by kernel_rfl) (by kernel_rfl) (fun _ _ _ h => h) ?_ ?_ ?_
            rotate_left 2
            · intro W hW
              have hld0 := cell_up hW c0
              have hld1 := cell_up hW c1
              have hld2 := cell_up hW c2
              have hld3 := cell_up hW c3
              have hld4 := cell_up hW c4
              have hld5 := cell_up hW c5
              have hld6 := cell_up hW c6
              go_simp
              try with_reducible rfl
            · go_simp
              try with_reducible rfl
            refine wpG.take 20 (v := ?_) (a' := ?_) rfl (by kernel_rfl) (by kernel_rfl) (by kernel_rfl) (by kernel_rfl) (fun _ _ _ h => h) ?_ ?_ ?_
            rotate_left 2
            · intro W hW
              have hld0 := cell_up hW cl
              go_simp
              try with_reducible rfl
            · go_simp
              try with_reducible rfl
            refine wpG.take 21 (v := ?_) (a' := ?_) rfl (by kernel_rfl) (by kernel_rfl) (by kernel_rfl) (by kernel_rfl) (fun _ _ _ h => h) ?_ ?_ ?_
            rotate_left 2
            · intro W hW
              go_simp
              try with_reducible rfl
            · go_simp
              try with_reducible rfl
            refine wpG.take 22 (v := ?_) (a' := ?_) rfl (by kernel_rfl) (by kernel_rfl) (by kernel_rfl) (by kernel_rfl) (fun _ _ _ h => h) ?_ ?_ ?_
            rotate_left 2
            · intro W hW
              go_simp
              try with_reducible rfl
            · go_simp
              try with_reducible rfl
            refine wpG.take 23 (v := ?_) (a' := ?_) rfl (by kernel_rfl) (by kernel_rfl) (by kernel_rfl) (by kernel_rfl) (fun _ _ _ h => h) ?_ ?_ ?_
            rotate_left 2
            · intro W hW
              have hld0 := cell_up hW d0
              have hld1 := cell_up hW d1
              have hld2 := cell_up hW d2
              have hld3 := cell_up hW d3
              have hld4 := cell_up hW d4
              have hld5 := cell_up hW d5
              have hld6 := cell_up hW d6
              go_simp
              try with_reducible rfl
            · go_simp
              try with_reducible rfl
            refine wpG.alone 24 rfl (by kernel_rfl) (by kernel_rfl) (below_drewN (Below.refl _ _) 1) (fun K hK => ?_)
            go_simp
            go_at_call 77
            refine (HCL.out _ (below_drewN (Below.refl _ _) 1)).mono ?_
            rintro e w8 ⟨rfl, hb8⟩
            have HB8 : Hid (Below wr.heap.size wr w8) := Below.up (below_drewN (Below.refl wr.heap.size wr) 1) hb8
            have HBW8 := Lib.hid (Below.up BW.out HB8.out)
            clear hb8
            try go_simp
            refine hK _ _ ?_
            clear hK K
            refine wpG.take 25 (v := ?_) (a' := ?_) rfl (by kernel_rfl) (by kernel_rfl) (by kernel_rfl) (by kernel_rfl) (fun _ _ _ h => h) ?_ ?_ ?_
            rotate_left 2
            · intro W hW
              go_simp
              try with_reducible rfl
            · go_simp
              try with_reducible rfl
            refine wpG.done (by kernel_rfl) HB8.out ?_
            cases qh with
            | false =>
              have HN4 := Lib.hid (HNX.out (by first | rfl | trivial))
              go_wp2_with fail
              go_roundw
              case rel => exact ⟨j + 1, by omega, by go_num, HN4, HBW8⟩
              case measure => simp [intOf]; omega
            | true =>
              have HQ3 := Lib.hid (HYES.out (by first | rfl | trivial))
              go_wp2_with fail
              go_ret
              exact ⟨by rw [HCODE.out, HQ3.out]; simp <;> rfl, Below.up HBEL.out HBW8.out⟩
      case neg =>
        have HQ3 : Hid ((ordI l).any (hitC l h) = false) := any_none fun m hm => HT.out m hm (by omega)
        have hcd := HCODE.out
        rw [HQ3.out] at hcd
        have HCODE := Lib.hid hcd
        have HBX := BW
        clear HT hcd BW
        obtain ⟨wX, rfl⟩ : ∃ wX : World, wX = wr := ⟨_, rfl⟩
        go_wp2_with fail
        go_loopw [68] (fun s wr => ∃ j : Nat, j ≤ (ordI l).length ∧ s = .int .i64 j ∧ Hid (∀ m (hm : m < (ordI l).length), m < j → hitT l h (ordI l)[m] = false) ∧ Hid (Below W3.heap.size W3 wr)) (fun s _ => (ordI l).length - (intOf s).toNat)
        case atStart => exact ⟨0, Nat.zero_le _, by go_num, fun m _ hm => absurd hm (Nat.not_lt_zero _), HBX⟩
        case round =>
          obtain ⟨j, hj, rfl, HT, BW⟩ := hrel
          clear HBX
          by_cases hjl : j < (ordI l).length
          case pos =>
            obtain ⟨rfl, hGo, hoc, hoi⟩ := HO.out j (by rw [List.length_map]; exact hjl)
            rw [Nat.mul_one, List.getElem_map] at hoc
            have hwr := Below.up HBEL.out BW.out
            replace hoc := cell_up hwr hoc
            have hkl := HLT.out _ (List.getElem_mem hjl)
            obtain ⟨-, hGl, d0, d1, d2, d3, d4, di, ⟨rv2, d5, drd⟩, pv2, d6, dpd⟩ := HC.out _ hkl
            have dt := timeAt_lt hkl
            have drd0 := drd
            have dpd0 := dpd
            obtain ⟨rp2, rc2, rfl, -⟩ := drd0
            obtain ⟨pp2, pc2, rfl, -⟩ := dpd0
            replace d0 := cell_up hwr d0
            replace d1 := cell_up hwr d1
            replace d2 := cell_up hwr d2
            replace d3 := cell_up hwr d3
            replace d4 := cell_up hwr d4
            replace d5 := cell_up hwr d5
            replace d6 := cell_up hwr d6
            have hkI : (((ordI l)[j] : Nat) : Int) < (l.length : Int) := by omega
            obtain ⟨cl, ci, c0, c1, c2, c3, c4, c5, c6⟩ := HBOX.out.up BW.out
            have hht : hitT l h (ordI l)[j] = (decide (0 < l[(ordI l)[j]].upto) && (decide (l[(ordI l)[j]].upto < h.since) && decide (h.begun < l[(ordI l)[j]].time))) := by
              unfold hitT; rw [dt, List.getD_eq_getElem?_getD, List.getElem?_eq_getElem hkl]; rfl
            have hyes : hitT l h (ordI l)[j] = true → (ordI l).any (hitT l h) = true := any_some hjl
            have hnx : hitT l h (ordI l)[j] = false → ∀ m (hm : m < (ordI l).length), m < j + 1 → hitT l h (ordI l)[m] = false := fun e m hm hmj => by
              rcases (show m < j ∨ m = j by omega) with h | rfl
              · exact HT.out m hm h
              · exact e
            rw [hht] at hyes hnx
            have HYES := Lib.hid hyes
            have HNX := Lib.hid hnx
            have HWR := Lib.hid hwr
            clear hyes hnx hwr
            clear drd dpd di hGo hGl hoi dt hht
            generalize l[(ordI l)[j]].upto = up at *
            generalize l[(ordI l)[j]].time = tm at *
            generalize l[(ordI l)[j]].state = sx at *
            generalize l[(ordI l)[j]].begun = bx at *
            generalize l[(ordI l)[j]].since = fx at *
            generalize l[(ordI l)[j]].reads.length = rn at *
            generalize l[(ordI l)[j]].puts.length = pn at *
            generalize (ordI l)[j] = k at *
            by_cases u1 : 0 < up
            case neg =>
              have e1 : decide (0 < up) = false := decide_eq_false u1
              have HN2 := Lib.hid (HNX.out (by rw [e1]; rfl))
              clear u1
              go_wp2_with fail
              go_quiet (fail)
              go_wp2_with fail
              go_roundw
              case rel => exact ⟨j + 1, by omega, by go_num, HN2, Lib.hid (below_drewN BW.out _)⟩
              case measure => simp [intOf]; omega
            case pos =>
              have e1 : decide (0 < up) = true := decide_eq_true u1
              by_cases u2 : up < h.since
              case neg =>
                have e2 : decide (up < h.since) = false := decide_eq_false u2
                have HN2 := Lib.hid (HNX.out (by rw [e1, e2]; rfl))
                clear u2
                go_wp2_with fail
                go_quiet (fail)
                go_wp2_with fail
                go_roundw
                case rel => exact ⟨j + 1, by omega, by go_num, HN2, Lib.hid (below_drewN BW.out _)⟩
                case measure => simp [intOf]; omega
              case pos =>
                have e2 : decide (up < h.since) = true := decide_eq_true u2
                by_cases u3 : h.begun < tm
                case neg =>
                  have e3 : decide (h.begun < tm) = false := decide_eq_false u3
                  have HN2 := Lib.hid (HNX.out (by rw [e1, e2, e3]; rfl))
                  go_wp2_with fail
                  go_quiet (fail)
                  go_wp2_with fail
                  go_roundw
                  case rel => exact ⟨j + 1, by omega, by go_num, HN2, Lib.hid (below_drewN BW.out _)⟩
                  case measure => simp [intOf]; omega
                case pos =>
                  have e3 : decide (h.begun < tm) = true := decide_eq_true u3
                  have HQ4 := Lib.hid (HYES.out (by rw [e1, e2, e3]; rfl))
                  go_wp2_with fail
                  go_quiet (fail)
                  go_wp2_with fail
                  go_ret
                  exact ⟨by rw [HCODE.out, HQ4.out]; simp <;> rfl, Below.up HBEL.out (below_drewN BW.out _)⟩
          case neg =>
            have HQ4 : Hid ((ordI l).any (hitT l h) = false) := any_none fun m hm => HT.out m hm (by omega)
            go_wp2
            go_ret
            exact ⟨by rw [HCODE.out, HQ4.out]; simp <;> rfl, Below.up HBEL.out BW.out⟩
end Go.Proofs

/- audit.Check: the first history that does not fit in one order with the others. -/
namespace Go.Proofs
open Go.RowKit Sc Go.Sort

def checkRes (n : Int) (l : List Hist) : Int × Int :=
  if n < 1 ∨ 1048576 < n then (-1, 1)
  else if 0 ≤ idxOf (fun h => !mayB n h) l then (idxOf (fun h => !mayB n h) l, 1)
  else match (List.range l.length).find? (fun i => oneCode l i (l.getD i hist0) != 0) with
    | some i => (i, oneCode l i (l.getD i hist0))
    | none => (-1, 0)
theorem checkRes_bad {n : Int} {l : List Hist} (h : n < 1 ∨ 1048576 < n) : checkRes n l = (-1, 1) := by unfold checkRes; rw [if_pos h]
theorem checkRes_arg {n : Int} {l : List Hist} (h : ¬ (n < 1 ∨ 1048576 < n)) (h2 : 0 ≤ idxOf (fun h => !mayB n h) l) : checkRes n l = (idxOf (fun h => !mayB n h) l, 1) := by unfold checkRes; rw [if_neg h, if_pos h2]
theorem checkRes_hit {n : Int} {l : List Hist} {i : Nat} (h : ¬ (n < 1 ∨ 1048576 < n)) (h2 : ¬ 0 ≤ idxOf (fun h => !mayB n h) l) (hi : i < l.length) (hc : oneCode l i l[i] ≠ 0) (hn : ∀ m (hm : m < l.length), m < i → oneCode l m l[m] = 0) : checkRes n l = ((i : Int), oneCode l i l[i]) := by
  unfold checkRes
  rw [if_neg h, if_neg h2]
  have hg : ∀ m (hm : m < l.length), l.getD m hist0 = l[m] := fun m hm => by rw [List.getD_eq_getElem?_getD, List.getElem?_eq_getElem hm]; rfl
  have : (List.range l.length).find? (fun i => oneCode l i (l.getD i hist0) != 0) = some i := by
    rw [List.find?_range_eq_some]
    refine ⟨?_, by simpa using hi, fun m hm => ?_⟩
    · rw [hg i hi, bne_iff_ne]; exact hc
    · rw [hg m (by omega), hn m (by omega) hm]; rfl
  rw [this]
  simp only [hg i hi]
theorem checkRes_ok {n : Int} {l : List Hist} (h : ¬ (n < 1 ∨ 1048576 < n)) (h2 : ¬ 0 ≤ idxOf (fun h => !mayB n h) l) (hn : ∀ m (hm : m < l.length), oneCode l m l[m] = 0) : checkRes n l = (-1, 0) := by
  unfold checkRes
  rw [if_neg h, if_neg h2]
  have : (List.range l.length).find? (fun i => oneCode l i (l.getD i hist0) != 0) = none := by
    rw [List.find?_eq_none]
    intro m hm
    have hm' : m < l.length := by simpa using hm
    rw [List.getD_eq_getElem?_getD, List.getElem?_eq_getElem hm']
    show ¬ (oneCode l m l[m] != 0) = true
    rw [hn m hm']; decide
  rw [this]
theorem all_may {n : Int} {l : List Hist} (h2 : ¬ 0 ≤ idxOf (fun h => !mayB n h) l) : ∀ x ∈ l, mayB n x = true := fun x hx => by
  have := idxOf_nonneg (fun h => !mayB n h) l
  rw [decide_eq_false h2] at this
  have := List.any_eq_false.1 this.symm x hx
  simpa using this
set_option maxHeartbeats 1000000 in
theorem checkC_any (G : Nat → Prop) (n : Int) (v : Value) (h : Hist) (bb : Nat) (W : World) (hG : Dom G W) (hv : histV G W v h) (hc : W.cell? ⟨bb, 0, none⟩ = some (.int .i64 n)) (hb : bb < W.heap.size) :
    Calls Try.prog 57 #[v, .pointer (some ⟨bb, 0, none⟩)] W fun e w' => e = .returned (.bool (!mayB n h)) ∧ Below W.heap.size W w' := by
  have hv' := hv
  obtain ⟨rp, rc, pp, pc, rfl, -⟩ := hv'
  have hba := below_alloc W (.cells #[.int .i64 h.state, .int .i64 h.begun, .int .i64 h.time, .int .i64 h.since, .int .i64 h.upto, .slice rp h.reads.length rc, .slice pp h.puts.length pc] 45)
  have hcon := may_any G n _ h _ (hG.below hba) (hv.same (hG.same hba))
  have HC := Lib.hid hcon
  have HB := Lib.hid hba
  clear hcon hba hv
  go_enter Try.func57, Try.ntmps57
  go_wp2_with fail
  refine (HC.out).mono ?_
  rintro e w' ⟨rfl, hb'⟩
  go_wp2
  go_ret
  exact ⟨rfl, Below.up HB.out hb'⟩
set_option maxRecDepth 100000 in
set_option maxHeartbeats 2000000 in
theorem check_any (G : Nat → Prop) (n : Int) (v : Value) (l : List Hist) (w : World) (hG : Dom G w) (hl : HistsAt G w v l) (hll : l.length ≤ 1000) (hn : n ≤ 1000000) :
    Calls Try.prog 35 #[.int .i64 n, v] w fun e w' => e = .returned (.tuple #[.int .i64 (checkRes n l).1, .int .i64 (checkRes n l).2]) ∧ Below w.heap.size w w' := by
  have hba := below_alloc w (.cells #[.int .i64 n] 3)
  have hnew := heap_alloc_new w (.cells #[.int .i64 n] 3)
  have hz : w.heap.size < (w.alloc (.cells #[.int .i64 n] 3)).heap.size := by simp
  by_cases h1 : n < 1
  · have HR := Lib.hid (checkRes_bad (l := l) (Or.inl h1 : n < 1 ∨ 1048576 < n))
    go_enter Try.func35, Try.ntmps35
    go_wp2
    go_ret2
    exact ⟨by rw [HR.out]; rfl, hba⟩
  · have hok : ¬ (n < 1 ∨ 1048576 < n) := by omega
    have hn1 : ¬ 1048576 < n := by omega
    obtain ⟨nn, rfl⟩ := Int.eq_ofNat_of_zero_le (show 0 ≤ n by omega)
    have hl0 := hl
    obtain ⟨lp, lc, rfl, hll1, hll2, -⟩ := hl0
    have hcb : (w.alloc (.cells #[.int .i64 (nn : Int)] 3)).cell? ⟨w.heap.size, 0, none⟩ = some (.int .i64 nn) := by rw [cell_row hnew]; rfl
    have eg : ∀ args w, (callFunc 57 args).run Try.prog w = .ok (.enter 57 args) w := enters_of Try.func57 (by kernel_rfl) rfl
    have HG := Lib.hid hG
    have HL := Lib.hid hl
    go_enter Try.func35, Try.ntmps35
    go_upto_region 1 with fail
    generalize w.alloc (.cells #[.int .i64 (nn : Int)] 3) = W1 at *
    have hidx := idxHist_any G _ l (fun h => !mayB nn h) 57 #[.pointer (some ⟨w.heap.size, 0, none⟩)] eg W1 (hG.below hba) (HistsAt.same hl (hG.same hba)) fun i hi W ev hW hev => checkC_any G nn ev l[i] w.heap.size W ((hG.below hba).below hW) hev ((hW.cell (p := ⟨w.heap.size, 0, none⟩) hz).trans hcb) (Nat.lt_of_lt_of_le hz hW.size)
    have HIDX := Lib.hid hidx
    have HB1 := Lib.hid hba
    have HARG : Hid (0 ≤ idxOf (fun h => !mayB nn h) l → checkRes nn l = (idxOf (fun h => !mayB nn h) l, 1)) := checkRes_arg hok
    have HMAY : Hid (¬ 0 ≤ idxOf (fun h => !mayB nn h) l → ∀ x ∈ l, mayB nn x = true) := all_may
    have HHIT : Hid (¬ 0 ≤ idxOf (fun h => !mayB nn h) l → ∀ i (hi : i < l.length), oneCode l i l[i] ≠ 0 → (∀ m (hm : m < l.length), m < i → oneCode l m l[m] = 0) → checkRes nn l = ((i : Int), oneCode l i l[i])) := fun h2 i hi hc hn => checkRes_hit hok h2 hi hc hn
    have HOKR : Hid (¬ 0 ≤ idxOf (fun h => !mayB nn h) l → (∀ m (hm : m < l.length), oneCode l m l[m] = 0) → checkRes nn l = (-1, 0)) := fun h2 hn => checkRes_ok hok h2 hn
    generalize idxOf (fun h => !mayB nn h) l = ix at *
    clear hl hG hidx hba hnew hok eg
    go_wp2_with fail
    refine (HIDX.out).mono ?_
    rintro e w2 ⟨rfl, hb2⟩
    have HB2 := Lib.hid (Below.up HB1.out hb2)
    have hcb2 := cell_up hb2 hcb
    clear hb2 hcb hz
    by_cases hix : 0 ≤ ix
    case pos =>
      have HR := Lib.hid (HARG.out hix)
      go_wp2
      go_ret2
      exact ⟨by rw [HR.out]; rfl, HB2.out⟩
    case neg =>
      have HM := Lib.hid (HMAY.out (by omega))
      have HH := Lib.hid (HHIT.out (by omega))
      have HOK := Lib.hid (HOKR.out (by omega))
      go_wp2_with fail
      refine (auditOrder_any G _ l _ (HG.out.below HB2.out) (HistsAt.up HL.out HB2.out) hll).mono ?_
      rintro e w3 ⟨vo, rfl, hvo, hb3⟩
      have hcb3 := cell_up hb3 hcb2
      have HB3 := Lib.hid (Below.up HB2.out hb3)
      have hvo0 := hvo
      obtain ⟨op, oc, rfl, -⟩ := hvo0
      have HO3 : Hid (IntsAt (Old w3) w3 (.slice op ((ordI l).map fun i : Nat => (i : Int)).length oc) ((ordI l).map fun i : Nat => (i : Int))) := SlAt.mono hvo (fun q hq => hq.2) fun _ _ _ h => h
      have HL3 : Hid (HistsAt (Old w3) w3 (.slice lp l.length lc) l) := SlAt.mono (HistsAt.up HL.out HB3.out) (fun q hq => Nat.lt_of_lt_of_le (HG.out q hq) HB3.out.size) fun _ _ _ h => histE_mono h fun q hq => Nat.lt_of_lt_of_le (HG.out q hq) HB3.out.size
      rw [List.length_map] at HO3 ⊢
      clear hvo hb3 hcb2
      go_wp2_with fail
      go_loopw [26] (fun s wr => ∃ j : Nat, j ≤ l.length ∧ s = .int .i64 j ∧ Hid (∀ m (hm : m < l.length), m < j → oneCode l m l[m] = 0) ∧ Hid (Below w3.heap.size w3 wr)) (fun s _ => l.length - (intOf s).toNat)
      case atStart => exact ⟨0, Nat.zero_le _, by go_num, fun m _ hm => absurd hm (Nat.not_lt_zero _), Below.refl _ _⟩
      case round =>
        obtain ⟨j, hj, rfl, HT, BW⟩ := hrel
        by_cases hjl : j < l.length
        case pos =>
          have hcb4 := cell_up BW.out hcb3
          have hone := one_any (Old w3) nn (.slice lp l.length lc) (.slice op (ordI l).length oc) l j wr (by omega) (by omega) (fun q hq => Nat.lt_of_lt_of_le hq BW.out.size) (HistsAt.up HL3.out BW.out) (SlAt.same HO3.out (fun q hq => BW.out.block q hq) (intE_stable _)) hll HM.out hjl
          have hnx : oneCode l j l[j] = 0 → ∀ m (hm : m < l.length), m < j + 1 → oneCode l m l[m] = 0 := fun e m hm hmj => by
            rcases (show m < j ∨ m = j by omega) with h | rfl
            · exact HT.out m hm h
            · exact e
          have hht := fun hc => HH.out j hjl hc fun m hm hmj => HT.out m hm hmj
          generalize oneCode l j l[j] = code at *
          have HONE := Lib.hid hone
          have HNX := Lib.hid hnx
          have HHT := Lib.hid hht
          clear hnx hht
          clear hone
          by_cases hc0 : code = 0
          case pos =>
            have HN2 := Lib.hid (HNX.out hc0)
            subst hc0
            go_wp2_with fail
            refine (HONE.out).mono ?_
            rintro e w5 ⟨rfl, hb5⟩
            have HB5 := Lib.hid (Below.up BW.out hb5)
            clear hb5
            go_wp2_with fail
            go_roundw
            case rel => exact ⟨j + 1, by omega, by go_num, HN2, HB5⟩
            case measure => simp [intOf]; omega
          case neg =>
            have HR := Lib.hid (HHT.out hc0)
            have hcn : (code != 0) = true := by rw [bne_iff_ne]; exact hc0
            go_wp2_with fail
            refine (HONE.out).mono ?_
            rintro e w5 ⟨rfl, hb5⟩
            have HB5 := Lib.hid (Below.up BW.out hb5)
            clear hb5
            go_wp2
            go_ret2
            exact ⟨by rw [HR.out]; rfl, Below.up HB3.out HB5.out⟩
        case neg =>
          have HR := Lib.hid (HOK.out fun m hm => HT.out m hm (by omega))
          go_wp2
          go_ret2
          exact ⟨by rw [HR.out]; rfl, Below.up HB3.out BW.out⟩
end Go.Proofs

/- audit.Prefix: how many of those that wrote make a state. -/
namespace Go.Proofs
open Go.RowKit Sc Go.Sort

/-- The last of the first states that is st; -1: none. -/
def prefBest (st : List Put) (ps : List (List Put)) : Nat → Int
  | 0 => if samePuts (allPuts []) st then 0 else -1
  | k + 1 => if samePuts (allPuts (runAll [] (ps.take (k + 1)))) st then ((k + 1 : Nat) : Int) else prefBest st ps k
/-- How many of them are done, one behind the other. -/
def okLen (n : Int) (ps : List (List Put)) : Nat := (ps.takeWhile fun p => decide (runCode n p = 0)).length
def prefixRes (n : Int) (l : List Hist) (st : List Put) : Int × Bool :=
  if n < 1 ∨ 1048576 < n then (0, false)
  else if prefBest st (ordP l) (okLen n (ordP l)) < 0 then (0, false) else (prefBest st (ordP l) (okLen n (ordP l)), true)
theorem okLen_all {n : Int} {ps : List (List Put)} (h : ∀ p ∈ ps, runCode n p = 0) : okLen n ps = ps.length := by
  induction ps with
  | nil => rfl
  | cons p t ih =>
    have := ih fun q hq => h q (List.mem_cons_of_mem _ hq)
    unfold okLen at this ⊢
    rw [List.takeWhile_cons_of_pos (by simpa using h p (by simp)), List.length_cons, this, List.length_cons]
theorem okLen_at {n : Int} {ps : List (List Put)} {k : Nat} (h : ∀ p ∈ ps.take k, runCode n p = 0) (hk : k < ps.length) (hb : runCode n ps[k] ≠ 0) : okLen n ps = k := by
  induction k generalizing ps with
  | zero =>
    cases ps with
    | nil => simp at hk
    | cons p t =>
      unfold okLen
      rw [List.takeWhile_cons_of_neg (by simpa using hb)]; rfl
  | succ k ih =>
    cases ps with
    | nil => simp at hk
    | cons p t =>
      have h0 : runCode n p = 0 := h p (by simp)
      have := ih (ps := t) (fun q hq => h q (by rw [List.take_succ_cons]; exact List.mem_cons_of_mem _ hq)) (by simpa using hk) (by simpa using hb)
      unfold okLen at this ⊢
      rw [List.takeWhile_cons_of_pos (by simpa using h0), List.length_cons, this]
theorem prefBest_ge (st : List Put) (ps : List (List Put)) : ∀ k, -1 ≤ prefBest st ps k ∧ prefBest st ps k ≤ k
  | 0 => by unfold prefBest; split <;> omega
  | k + 1 => by have := prefBest_ge st ps k; unfold prefBest; split <;> omega
theorem prefix_bad (n : Int) (v sv : Value) (w : World) (h : n < 1) : Calls Try.prog 37 #[.int .i64 n, v, sv] w fun e w' => e = .returned (.tuple #[.int .i64 0, .bool false]) ∧ w = w' := by
  go_enter Try.func37, Try.ntmps37
  go_wp2_with fail
  go_step3
  go_wp2_with fail
  refine (modelNew_no n _ h).mono ?_
  rintro e w1 ⟨rfl, rfl⟩
  go_wp2
  try rw [Exit.noGoto_ret]
  go_ret2
  exact ⟨rfl, rfl⟩
set_option maxRecDepth 100000 in
set_option maxHeartbeats 4000000 in
theorem prefix_any (G : Nat → Prop) (n : Nat) (v sv : Value) (l : List Hist) (st : List Put) (w : World) (n1 : 1 ≤ n) (n2 : n ≤ 100000) (hG : Dom G w) (hl : HistsAt G w v l) (hs : PutsAt G w sv st) (hll : l.length ≤ 1000) :
    Calls Try.prog 37 #[.int .i64 n, v, sv] w fun e w' => e = .returned (.tuple #[.int .i64 (prefixRes n l st).1, .bool (prefixRes n l st).2]) ∧ Below w.heap.size w w' := by
  have hl0 := hl
  obtain ⟨lp, lc, rfl, hll1, hll2, -⟩ := hl0
  obtain ⟨lb, lo, hC⟩ := SlAt.one (E := histE G) (k := 7) hl
  have HL := Lib.hid hl
  have HST := Lib.hid hs
  have HG := Lib.hid hG
  have HC := Lib.hid hC
  clear hl hs hG hC
  have HRES : Hid (prefixRes n l st = if prefBest st (ordP l) (okLen n (ordP l)) < 0 then (0, false) else (prefBest st (ordP l) (okLen n (ordP l)), true)) := by
    show _ = _
    unfold prefixRes; rw [if_neg (by omega)]
  go_enter Try.func37, Try.ntmps37
  go_wp2_with fail
  go_step3
  go_wp2_with fail
  refine (modelNew_any (n : Int) _ (by omega) (by omega)).mono ?_
  rintro e w1 ⟨vm, rfl, hm, hb1⟩
  have hS1 := (Sep.start w).new hb1 (ModelA vm n []) (fun _ h => h) hm
  obtain ⟨⟨bm, rm, mlm, rfl, _⟩, _⟩ := hm
  have HB1 := Lib.hid hb1
  have HS1 := Lib.hid hS1
  clear hS1
  clear hb1
  go_wp2_with fail
  refine (auditOrder_any G _ l _ (HG.out.below HB1.out) (HistsAt.up HL.out HB1.out) hll).mono ?_
  rintro e w2 ⟨vo, rfl, hvo, hb2⟩
  have hS2 := HS1.out.new hb2 (IntsA vo ((ordI l).map fun i : Nat => (i : Int))) (fun _ h => h) hvo
  have hvo0 := hvo
  obtain ⟨op, oc, rfl, ho1, ho2, -⟩ := hvo0
  rw [List.length_map] at ho1
  rw [List.length_map] at hS2 ⊢
  have hol := ordI_len l
  have hpl := ordP_len l
  have HS2 := Lib.hid hS2
  have HB2 := Lib.hid hb2
  clear hS2 hb2
  clear hvo
  go_wp2_with fail
  try (go_step3; go_wp2_with fail)
  go_loopw [10, 12] (fun s10 s12 wr => ∃ j m : Nat, ∃ bst : Int, j ≤ (ordI l).length + 1 ∧ m ≤ (ordI l).length ∧ s12 = .int .i64 j ∧ s10 = .int .i64 bst ∧ ((j = 0 ∧ m = 0 ∧ bst = -1) ∨ (j = m + 1 ∧ bst = prefBest st (ordP l) m)) ∧ Hid (∀ p ∈ (ordP l).take m, runCode n p = 0) ∧ Hid (Sep w [OldA w, ModelA (.pointer (some ⟨bm, 0, none⟩)) n (runAll [] ((ordP l).take m)), IntsA (.slice op (ordI l).length oc) ((ordI l).map fun i : Nat => (i : Int))] wr)) (fun _ i _ => (ordI l).length + 1 - (intOf i).toNat)
  case atStart => exact ⟨0, 0, -1, by omega, by omega, by go_num, by go_num, .inl ⟨rfl, rfl, rfl⟩, by unfold Hid; simp, HS2⟩
  case round =>
    obtain ⟨j, m, bst, hj, hm, rfl, rfl, hJ, HOKM, HS⟩ := hrel
    clear HS2
    have HRM := Lib.hid ((RelM.start n).all_runs HOKM.out)
    by_cases hjl : j ≤ (ordI l).length
    case pos =>
      rcases hJ with ⟨rfl, rfl, rfl⟩ | ⟨rfl, hbst⟩
      case inl =>
        have HPB : Hid (prefBest st (ordP l) 0 = if samePuts (allPuts (runAll [] ((ordP l).take 0))) st then 0 else -1) := rfl
        have HOK2 := HOKM
        obtain ⟨F1, hF1, _⟩ := HS.out.get 1 rfl
        go_wp2_with fail
        refine (modelAll_any F1 _ n _ _ hF1 (HRM.out.i64 (by omega)) (by have := HRM.out.small; omega) HRM.out.small40).mono ?_
        rintro e w6 ⟨v6, rfl, hv6, hb6⟩
        have HS6 := Lib.hid (HS.out.up hb6)
        have HV6 : Hid (PutsAt (Old w6) w6 v6 _) := PutsAt.mono hv6 fun q hq => hq.2
        have HSV6 : Hid (PutsAt (Old w6) w6 sv st) := (PutsAt.up HST.out HS6.out.old).mono fun q hq => Nat.lt_of_lt_of_le (HG.out q hq) HS6.out.old.size
        clear hv6 hb6 hF1
        go_wp2_with fail
        refine (alike_any (Old w6) _ _ _ _ _ (fun _ h => h) HV6.out HSV6.out).mono ?_
        rintro e w7 ⟨rfl, hb7⟩
        have HS7 := Lib.hid (HS6.out.up hb7)
        clear hb7
        have hpb := HPB.out
        generalize samePuts (allPuts (runAll [] ((ordP l).take 0))) st = qs at *
        cases qs with
        | true =>
          have HBN : Hid ((0 : Int) = prefBest st (ordP l) 0) := by rw [hpb]; rfl
          clear hpb
          go_wp2_with fail
          go_roundw
          case rel => exact ⟨1, 0, (0 : Int), by omega, by omega, by go_num, by go_num, .inr ⟨by omega, HBN.out⟩, HOK2, HS7⟩
          case measure => simp [intOf] <;> omega
        | false =>
          have HBN : Hid ((-1 : Int) = prefBest st (ordP l) 0) := by rw [hpb]; rfl
          clear hpb
          go_wp2_with fail
          go_roundw
          case rel => exact ⟨1, 0, (-1 : Int), by omega, by omega, by go_num, by go_num, .inr ⟨by omega, HBN.out⟩, HOK2, HS7⟩
          case measure => simp [intOf] <;> omega
      case inr =>
        have hml : m < (ordI l).length := by omega
        obtain ⟨hxl, hpk, hpe⟩ := ordP_get hml
        obtain ⟨FI, hFI, _⟩ := HS.out.get 2 rfl
        obtain ⟨p2, c2, he2, _, _, _, h24⟩ := hFI
        rw [List.length_map] at he2
        cases he2
        obtain ⟨ob, oo, rfl, _, hoc, _⟩ := h24 m (by rw [List.length_map]; exact hml)
        rw [List.getElem_map, Nat.mul_one] at hoc
        obtain ⟨rfl, hGb, _, _, _, _, _, _, _, pv, hc6, hpd⟩ := HC.out _ hxl
        replace hc6 := cell_up HS.out.old hc6
        replace hpd := PutsAt.up hpd HS.out.old
        have htk := take_snoc (ordP l) m hpk
        have hsn : runAll [] ((ordP l).take (m + 1)) = runPuts (runAll [] ((ordP l).take m)) l[(ordI l)[m]].puts := by rw [htk, runAll_snoc, hpe]
        have hat := okLen_at HOKM.out hpk
        rw [hpe] at htk hat
        have hpd0 := hpd
        obtain ⟨pp, pcx, rfl, hp1, hp2, -⟩ := hpd0
        have hpb0 : prefBest st (ordP l) (m + 1) = if samePuts (allPuts (runAll [] ((ordP l).take (m + 1)))) st then ((m + 1 : Nat) : Int) else prefBest st (ordP l) m := rfl
        rw [← hbst] at hpb0
        have HBST := Lib.hid hbst
        clear hbst
        generalize l[(ordI l)[m]].puts = ps at *
        generalize (ordI l)[m] = x at *
        obtain ⟨F, G1, hF, hR, hFG, hdF, hdG, K⟩ := HS.out.at 1 rfl
        obtain ⟨F0, hF0, hO⟩ := hR 0 _ (by decide) rfl
        have hO1 := hO.1
        have htx : TxAt G1 wr (.agg #[.int .i64 0, .slice pp ps.length pcx]) ⟨0, ps⟩ := ⟨_, rfl, i64_zero, hpd.mono fun q hq => hF0 q (hO1 q (HG.out q hq))⟩
        have hrun := modelRun_any F G1 _ _ n _ ⟨0, ps⟩ _ (by omega) hF htx hdG hFG
        have HK := Lib.hid K
        have hxz : (x : Int) < (l.length : Int) := by omega
        have hmz : ((m + 1 : Nat) : Int) - 1 = (m : Int) := by omega
        have hm0 : decide ((0 : Int) < ((m + 1 : Nat) : Int)) = true := decide_eq_true (by omega)
        have HRUN := Lib.hid hrun
        have HTK := Lib.hid htk
        have HSN := Lib.hid hsn
        have HAT := Lib.hid hat
        have HPB0 := Lib.hid hpb0
        clear hrun htk hsn hat hpb0
        clear K hR hF hO htx hFG hdF hdG hF0 hO1 hpd hpe hpk h24
        by_cases hcode : runCode n ps = 0
        case pos =>
          have HOK2 : Hid (∀ p ∈ (ordP l).take (m + 1), runCode n p = 0) := fun q hq => by
            rw [HTK.out] at hq
            rcases List.mem_append.1 hq with h | h
            · exact HOKM.out q h
            · rw [List.mem_singleton] at h; rw [h]; exact hcode
          have HPB := HPB0
          clear HRM
          have HRM := Lib.hid ((RelM.start n).all_runs HOK2.out)
          go_wp2_with fail
          refine (HRUN.out).mono ?_
          rintro e w4 ⟨rfl, hc4, hm4⟩
          rw [hcode] at hm4 ⊢
          rw [if_pos rfl] at hm4
          have hS4 := HK.out w4 _ (ModelA (.pointer (some ⟨bm, 0, none⟩)) n (runPuts (runAll [] ((ordP l).take m)) ps)) hc4 (fun k hk => hk) hm4
          rw [← HSN.out] at hS4
          have HS4 := Lib.hid hS4
          clear hc4 hm4 hS4
          obtain ⟨F1, hF1, _⟩ := HS4.out.get 1 rfl
          go_wp2_with fail
          refine (modelAll_any F1 _ n _ _ hF1 (HRM.out.i64 (by omega)) (by have := HRM.out.small; omega) HRM.out.small40).mono ?_
          rintro e w6 ⟨v6, rfl, hv6, hb6⟩
          have HS6 := Lib.hid (HS4.out.up hb6)
          have HV6 : Hid (PutsAt (Old w6) w6 v6 _) := PutsAt.mono hv6 fun q hq => hq.2
          have HSV6 : Hid (PutsAt (Old w6) w6 sv st) := (PutsAt.up HST.out HS6.out.old).mono fun q hq => Nat.lt_of_lt_of_le (HG.out q hq) HS6.out.old.size
          clear hv6 hb6 hF1
          go_wp2_with fail
          refine (alike_any (Old w6) _ _ _ _ _ (fun _ h => h) HV6.out HSV6.out).mono ?_
          rintro e w7 ⟨rfl, hb7⟩
          have HS7 := Lib.hid (HS6.out.up hb7)
          clear hb7
          have hpb := HPB.out
          generalize samePuts (allPuts (runAll [] ((ordP l).take (m + 1)))) st = qs at *
          cases qs with
          | true =>
            have HBN : Hid (((m + 1 : Nat) : Int) = prefBest st (ordP l) (m + 1)) := by rw [hpb]; rfl
            clear hpb
            go_wp2_with fail
            go_roundw
            case rel => exact ⟨m + 2, (m + 1), ((m + 1 : Nat) : Int), by omega, by omega, by go_num, by go_num, .inr ⟨by omega, HBN.out⟩, HOK2, HS7⟩
            case measure => simp [intOf] <;> omega
          | false =>
            have HBN : Hid (bst = prefBest st (ordP l) (m + 1)) := by rw [hpb]; rfl
            clear hpb
            go_wp2_with fail
            go_roundw
            case rel => exact ⟨m + 2, (m + 1), bst, by omega, by omega, by go_num, by go_num, .inr ⟨by omega, HBN.out⟩, HOK2, HS7⟩
            case measure => simp [intOf] <;> omega
        case neg =>
          have hcz : (runCode n ps != 0) = true := by rw [bne_iff_ne]; exact hcode
          have HFIN : Hid (prefixRes n l st = if bst < 0 then (0, false) else (bst, true)) := by
            show _ = _
            rw [HRES.out, HAT.out hcode, ← HBST.out]
          go_wp2_with fail
          refine (HRUN.out).mono ?_
          rintro e w4 ⟨rfl, hc4, hm4⟩
          have hS4 := HK.out w4 _ TrueA hc4 (fun k hk => hk) trivial
          have HS4 := Lib.hid hS4
          clear hc4 hm4 hS4 HS
          have HS := HS4
          by_cases hbz : bst < 0
          case pos =>
            have HR := Lib.hid (HFIN.out.trans (if_pos hbz))
            go_wp2
            try rw [Exit.noGoto_ret]
            go_ret2
            exact ⟨by rw [HR.out]; rfl, HS.out.old⟩
          case neg =>
            have HR := Lib.hid (HFIN.out.trans (if_neg hbz))
            go_wp2
            try rw [Exit.noGoto_ret]
            go_ret2
            exact ⟨by rw [HR.out]; rfl, HS.out.old⟩
    case neg =>
      rcases hJ with ⟨rfl, rfl, rfl⟩ | ⟨rfl, hbst⟩
      · omega
      have hok := HOKM.out
      have hml : m = (ordP l).length := by omega
      have HFIN : Hid (prefixRes n l st = if bst < 0 then (0, false) else (bst, true)) := by
        rw [hml, List.take_length] at hok
        show _ = _
        rw [HRES.out, okLen_all hok, ← hml, ← hbst]
      clear hok hml hbst
      by_cases hbz : bst < 0
      case pos =>
        have HR := Lib.hid (HFIN.out.trans (if_pos hbz))
        go_wp2
        try rw [Exit.noGoto_ret]
        go_ret2
        exact ⟨by rw [HR.out]; rfl, HS.out.old⟩
      case neg =>
        have HR := Lib.hid (HFIN.out.trans (if_neg hbz))
        go_wp2
        try rw [Exit.noGoto_ret]
        go_ret2
        exact ⟨by rw [HR.out]; rfl, HS.out.old⟩
end Go.Proofs

/- scarpalike.Histories: how much there is. -/
namespace Go.Proofs
open Go.RowKit Sc

def rsz (l : List Sc.Read) : Nat := (l.map fun r => r.data.length).sum
def h1sz (h : Hist) : Nat := psz h.puts + h.reads.length + rsz h.reads
def hsz (l : List Hist) : Nat := l.length + (l.map h1sz).sum
/-- Of two more numbers. -/
theorem sum_two (n x y : Int) (b c : Nat) (w : World) (hn : 0 ≤ n) (hn2 : n ≤ 1099511627776) (hx : 0 ≤ x) (hx2 : x ≤ 9223372036854775807) (hy : 0 ≤ y) (hy2 : y ≤ 9223372036854775807)
    (h0 : w.cell? ⟨b, 0, none⟩ = some (.int .i64 x)) (h1 : w.cell? ⟨b, 1, none⟩ = some (.int .i64 y)) :
    Calls Try.prog 40 #[.int .i64 n, .slice (some ⟨b, 0, none⟩) 2 c] w fun e w' => (∃ s : Int, e = .returned (.int .i64 s) ∧ 0 ≤ s ∧ s ≤ 1099511627776 ∧ (s < 1099511627776 → s = n + x + y)) ∧ w = w' := by
  refine (sum_any n [x, y] b 0 c w hn hn2 (fun i hi => ?_) (by simp) (fun i hi => ?_)).mono ?_
  · simp only [List.length_cons, List.length_nil] at hi
    rcases (show i = 0 ∨ i = 1 by omega) with rfl | rfl
    · exact ⟨hx, hx2⟩
    · exact ⟨hy, hy2⟩
  · simp only [List.length_cons, List.length_nil] at hi
    rcases (show i = 0 ∨ i = 1 by omega) with rfl | rfl
    · exact h0
    · exact h1
  · rintro e w' ⟨rfl, rfl⟩
    refine ⟨⟨_, rfl, ?_⟩, rfl⟩
    simp only [sumTo]
    split
    · omega
    · split <;> omega

set_option maxRecDepth 100000 in
set_option maxHeartbeats 4000000 in
theorem hists_any (G : Nat → Prop) (v : Value) (l : List Hist) (top : Int) (w : World) (hG : Dom G w) (hv : HistsAt G w v l) (ht : 0 ≤ top) (ht2 : top < 1099511627776) :
    Calls Try.prog 39 #[v, .int .i64 top] w (SizeSaid top (hsz l) w) := by
  have hsat : sat 0 (l.length : Int) = min 1099511627776 (l.length : Int) := by unfold sat; split <;> omega
  obtain ⟨p, c, rfl, h1, h2, h3, h4⟩ := hv
  have H4 := Lib.hid h4
  have HGD := Lib.hid hG
  clear h4 hG
  have HS := Lib.hid hsat
  clear hsat h3
  go_enter Try.func39, Try.ntmps39
  go_wp2_with (go_at_call 40; refine (sum_one 0 (l.length : Int) _ _ _ (by omega) (by omega) (by omega) (by omega) (by go_simp)).mono ?_; rintro e w' ⟨rfl, rfl⟩)
  rw [HS.out]
  go_loopw [5, 6] (fun s i wr => ∃ k : Nat, ∃ q : Int, k ≤ l.length ∧ i = .int .i64 k ∧ s = .int .i64 q ∧ 0 ≤ q ∧ q ≤ 1099511627776 ∧ Hid (q ≤ top → q = ((l.length + ((l.take k).map h1sz).sum : Nat) : Int)) ∧ Hid (Below w.heap.size w wr)) (fun _ i _ => l.length - (intOf i).toNat)
  case atStart => exact ⟨0, _, by omega, rfl, rfl, by omega, by omega, by unfold Hid; simp; omega, (Below.refl _ _).alloc (Nat.le_refl _) _⟩
  case round =>
    obtain ⟨k, q, hk, rfl, rfl, hq1, hq2, HQ, HBW⟩ := hrel
    by_cases hlt : k < l.length
    case neg =>
      have hkl : k = l.length := by omega
      have HK := Lib.hid hkl
      clear hkl
      by_cases hle : q ≤ top
      all_goals
        go_wp2
        go_ret
        refine ⟨_, rfl, by omega, by omega, fun h => ?_, HBW.out⟩
        have := HQ.out h
        rw [HK.out, List.take_length] at this
        unfold hsz; omega
    case pos =>
      by_cases hle : q ≤ top
      case neg =>
        go_wp2
        go_ret
        exact ⟨q, rfl, hq1, hq2, fun h => by omega, HBW.out⟩
      case pos =>
        obtain ⟨b, o, rfl, _, _, _, _, _, _, _, ⟨rv, hc5, hrd⟩, pv, hc6, hpd⟩ := H4.out k hlt
        have hs := sum_take_succ h1sz l k hlt
        have hc5' := cell_up HBW.out hc5
        have hc6' := cell_up HBW.out hc6
        have hpd' := PutsAt.up hpd HBW.out
        obtain ⟨rp, rc, rfl, hr1, hr2, hr3, hr4⟩ := hrd
        have h1s : h1sz l[k] = psz l[k].puts + l[k].reads.length + rsz l[k].reads := rfl
        rw [h1s] at hs
        generalize l[k].puts = pl at hpd' hs
        generalize l[k].reads = rl at hr1 hr4 hs hc5 hc5'
        have hrl : rl.length ≤ 9223372036854775807 := by omega
        have HS := Lib.hid hs
        have HR4 := Lib.hid hr4
        clear hs hr4
        clear hc5 hc6 hpd h1s hr1 hr2 hr3
        have hgdw : Dom G wr := HGD.out.below HBW.out
        have hputs := puts_any G pv pl top _ (hpd'.same (w' := wr.drew) (fun _ _ => rfl)) ht ht2
        have HPU := Lib.hid hputs
        clear hputs hpd' hgdw
        go_wp2_with fail
        go_region_law ((first
          | (go_simp
             go_at_call 16
             refine (HPU.out).mono ?_
             rintro e w1 ⟨n1, rfl, hn1, hn2, hn3, hb1⟩
             have hc51 := cell_up hb1 (w := wr.drew) hc5'
             have HN := Lib.hid hn3
             have HB1 := Lib.hid hb1
             clear hn3 hb1)
          | (go_simp
             go_at_call 40
             refine (sum_two q n1 (rl.length : Int) _ _ _ (by omega) (by omega) (by omega) (by omega) (by omega) (by omega) (by go_simp) (by go_simp)).mono ?_
             rintro e w2 ⟨⟨s, rfl, hs0, hs1, hs2⟩, rfl⟩
             have HS2 := Lib.hid hs2
             clear hs2)))
        all_goals
          have hb2 : Below w.heap.size w _ := Below.up (Below.up (below_drewN HBW.out 1) HB1.out) (below_alloc w1 (.cells #[.int .i64 n1, .int .i64 (rl.length : Int)] 3))
          have HB2 := Lib.hid hb2
          have hc52 := cell_up (below_alloc w1 (.cells #[.int .i64 n1, .int .i64 (rl.length : Int)] 3)) hc51
          have hq3 : s ≤ top → s = ((l.length + ((l.take k).map h1sz).sum + psz pl + rl.length : Nat) : Int) := fun h => by
            have h1 := HQ.out (by omega)
            have h2 := HS2.out (by omega)
            have h3 := HN.out (by omega)
            omega
          have HQ3 := Lib.hid hq3
          clear hb2 hc51 hq3 hc5' hc6'
          clear HPU HN HS2
          generalize w1.alloc (.cells #[.int .i64 n1, .int .i64 (rl.length : Int)] 3) = W5 at HB2 hc52 ⊢
          have HC5 := Lib.hid hc52
          clear hc52
          go_wp2_with fail
          go_loopw [5, 7] (fun s5 s7 wr => ∃ j : Nat, ∃ q2 : Int, j ≤ rl.length ∧ s7 = .int .i64 j ∧ s5 = .int .i64 q2 ∧ 0 ≤ q2 ∧ q2 ≤ 1099511627776 ∧ Hid (q2 ≤ top → q2 = ((l.length + ((l.take k).map h1sz).sum + psz pl + rl.length + ((rl.take j).map fun r => r.data.length).sum : Nat) : Int)) ∧ Hid (Below W5.heap.size W5 wr)) (fun _ j _ => rl.length - (intOf j).toNat)
          case atStart => exact ⟨0, s, by omega, rfl, rfl, hs0, hs1, by unfold Hid; simpa using HQ3.out, Below.refl _ _⟩
          case round =>
            obtain ⟨j, q2, hj, rfl, rfl, hq4, hq5, HQ4, HBJ⟩ := hrel
            have hcj := cell_up HBJ.out HC5.out
            by_cases hjl : j < rl.length
            · by_cases hle2 : q2 ≤ top
              · obtain ⟨rb, ro, rfl, _, _, _, ⟨dv, hd1, hd2⟩, _⟩ := HR4.out j hjl
                obtain ⟨dp, dc, rfl, hd3, hd4, _, _⟩ := hd2
                have hdl : rl[j].data.length ≤ 9223372036854775807 := by omega
                have hsj := sum_take_succ (fun r : Sc.Read => r.data.length) rl j hjl
                have hd1' := cell_up HBJ.out (cell_up HB2.out hd1)
                generalize rl[j].data.length = dl at hd1' hdl hsj
                have HSJ := Lib.hid hsj
                clear hsj hd1 hd3 hd4
                go_wp2_with (go_at_call 40; refine (sum_one q2 (dl : Int) _ _ _ (by omega) (by omega) (by omega) (by omega) (by go_simp)).mono ?_; rintro e w' ⟨rfl, rfl⟩)
                have hsb := sat_bd hq4 hq5 (show 0 ≤ (dl : Int) by omega)
                go_roundw
                case rel =>
                  refine ⟨j + 1, _, by omega, by go_num, rfl, hsb.1, hsb.2.1, ?_, HBJ.out.alloc (by have := HBJ.out.size; omega) _⟩
                  intro h
                  have h1 := HQ4.out (by omega)
                  rw [HSJ.out, ← Nat.add_assoc]
                  unfold sat at h ⊢; split at h <;> split <;> omega
                case measure => simp [intOf]; omega
              · go_wp2
                go_roundw
                case rel => exact ⟨k + 1, q2, by omega, by go_num, rfl, hq4, hq5, fun h => absurd h hle2, Below.up HB2.out HBJ.out⟩
                case measure => simp [intOf]; omega
            · have hjr : j = rl.length := by omega
              have HJR := Lib.hid hjr
              clear hjr
              by_cases hle2 : q2 ≤ top
              all_goals
                go_wp2
                go_roundw
                case rel =>
                  refine ⟨k + 1, q2, by omega, by go_num, rfl, hq4, hq5, fun h => ?_, Below.up HB2.out HBJ.out⟩
                  have := HQ4.out h
                  rw [HJR.out, List.take_length] at this
                  rw [HS.out]
                  unfold rsz
                  omega
                case measure => simp [intOf]; omega
end Go.Proofs

/- The laws of chapter 28: what awake gives. -/
namespace Go.Proofs
open Go.RowKit Sc Go.Sort

/-- The same over an order that is told. -/
def oneO (l : List Hist) (o : List Nat) (i : Nat) (h : Hist) : Int :=
  if (wroteH h && (o.map fun k : Nat => (k : Int)).any (sameB l i h.time)) = true then 11
  else if sawB l h = false then 13
  else if (wroteH h && o.any (hitC l h)) = true then 8
  else if o.any (hitT l h) = true then 11 else 0
def checkO (n : Int) (l : List Hist) (o : List Nat) : Int × Int :=
  if n < 1 ∨ 1048576 < n then (-1, 1)
  else if 0 ≤ idxOf (fun h => !mayB n h) l then (idxOf (fun h => !mayB n h) l, 1)
  else match (List.range l.length).find? (fun i => oneO l o i (l.getD i hist0) != 0) with
    | some i => (i, oneO l o i (l.getD i hist0))
    | none => (-1, 0)
theorem checkRes_o (n : Int) (l : List Hist) : checkRes n l = checkO n l (ordI l) := rfl
theorem awakeRes : checkRes 5 [⟨3, 0, 1, 1, 3, [], [⟨1, dataB 1⟩]⟩, ⟨3, 0, 2, 2, 4, [], [⟨1, dataB 1⟩]⟩] = (1, 8) := by
  have ho : ordI [⟨3, 0, 1, 1, 3, [], [⟨1, dataB 1⟩]⟩, ⟨3, 0, 2, 2, 4, [], [⟨1, dataB 1⟩]⟩] = [0, 1] := (ordI_unique (by decide +kernel) (by decide +kernel)).symm
  rw [checkRes_o, ho]
  decide +kernel
theorem awakeRes0 : checkRes 5 [] = (-1, 0) := by decide +kernel
theorem hists_box2 {G : Nat → Prop} {w : World} {g : Nat} {T : TypeId} {x y : Hist} {rv pv rv2 pv2 : Value}
    (hh : w.heap[g]? = some (.cells #[.int .i64 x.state, .int .i64 x.begun, .int .i64 x.time, .int .i64 x.since, .int .i64 x.upto, rv, pv, .int .i64 y.state, .int .i64 y.begun, .int .i64 y.time, .int .i64 y.since, .int .i64 y.upto, rv2, pv2] T (0, 0))) (hg : G g)
    (hx : I64 x.state ∧ I64 x.begun ∧ I64 x.time ∧ I64 x.since ∧ I64 x.upto) (hy : I64 y.state ∧ I64 y.begun ∧ I64 y.time ∧ I64 y.since ∧ I64 y.upto)
    (r1 : ReadsAt G w rv x.reads) (p1 : PutsAt G w pv x.puts) (r2 : ReadsAt G w rv2 y.reads) (p2 : PutsAt G w pv2 y.puts) : HistsAt G w (.slice (some ⟨g, 0, none⟩) 2 2) [x, y] := by
  refine ⟨_, 2, rfl, Nat.le_refl _, by omega, (by intro h; cases h), fun i hi => ⟨g, 0, rfl, hg, ?_⟩⟩
  rcases (show i = 0 ∨ i = 1 by simp at hi; omega) with rfl | rfl
  · exact ⟨by rw [cell_row hh]; rfl, by rw [cell_row hh]; rfl, by rw [cell_row hh]; rfl, by rw [cell_row hh]; rfl, by rw [cell_row hh]; rfl, hx, ⟨rv, by rw [cell_row hh]; rfl, r1⟩, pv, by rw [cell_row hh]; rfl, p1⟩
  · exact ⟨by rw [cell_row hh]; rfl, by rw [cell_row hh]; rfl, by rw [cell_row hh]; rfl, by rw [cell_row hh]; rfl, by rw [cell_row hh]; rfl, hy, ⟨rv2, by rw [cell_row hh]; rfl, r2⟩, pv2, by rw [cell_row hh]; rfl, p2⟩
set_option maxRecDepth 100000 in
set_option maxHeartbeats 2000000 in
theorem awake28 (w : World) : Calls Try.prog 34 #[] w fun e w' => e = .returned (.bool true) ∧ Below w.heap.size w w' := by
  go_enter Try.func34, Try.ntmps34
  go_wp2_with fail
  refine (data_any 1 _).mono ?_
  rintro e w1 ⟨dv, rfl, hd, hb1⟩
  obtain ⟨dp, dc, rfl⟩ := shape_of hd (dataB_len 1)
  have hp := putsAt_one (n := 1) (by unfold I64; omega) hd hb1.size 39
  have hbp := Below.up hb1 (below_alloc w1 (.cells #[.int .i64 1, .slice dp 40 dc] 39))
  have HP := Lib.hid hp
  have HBP := Lib.hid hbp
  have HB1 := Lib.hid hb1
  have HD := Lib.hid hd
  clear hp hbp hb1 hd
  go_upto_region 2 with fail
  generalize w1.alloc (.cells #[.int .i64 1, .slice dp 40 dc] 39) = w2 at *
  have hba := below_alloc w2 (.cells #[.int .i64 3, .int .i64 0, .int .i64 1, .int .i64 1, .int .i64 3, .slice none 0 0, .slice (some ⟨w1.heap.size, 0, none⟩) 1 1, .int .i64 3, .int .i64 0, .int .i64 2, .int .i64 2, .int .i64 4, .slice none 0 0, .slice (some ⟨w1.heap.size, 0, none⟩) 1 1] 45)
  have hpw : PutsAt (Old (w2.alloc (.cells #[.int .i64 3, .int .i64 0, .int .i64 1, .int .i64 1, .int .i64 3, .slice none 0 0, .slice (some ⟨w1.heap.size, 0, none⟩) 1 1, .int .i64 3, .int .i64 0, .int .i64 2, .int .i64 2, .int .i64 4, .slice none 0 0, .slice (some ⟨w1.heap.size, 0, none⟩) 1 1] 45))) (w2.alloc (.cells #[.int .i64 3, .int .i64 0, .int .i64 1, .int .i64 1, .int .i64 3, .slice none 0 0, .slice (some ⟨w1.heap.size, 0, none⟩) 1 1, .int .i64 3, .int .i64 0, .int .i64 2, .int .i64 2, .int .i64 4, .slice none 0 0, .slice (some ⟨w1.heap.size, 0, none⟩) 1 1] 45)) (.slice (some ⟨w1.heap.size, 0, none⟩) 1 1) [⟨1, dataB 1⟩] := (PutsAt.up HP.out hba).mono fun q hq => Nat.lt_of_lt_of_le hq.2 hba.size
  have i0 : ∀ a b c d e : Int, 0 ≤ a → a ≤ 9 → 0 ≤ b → b ≤ 9 → 0 ≤ c → c ≤ 9 → 0 ≤ d → d ≤ 9 → 0 ≤ e → e ≤ 9 → I64 a ∧ I64 b ∧ I64 c ∧ I64 d ∧ I64 e := fun a b c d e _ _ _ _ _ _ _ _ _ _ => by unfold I64; omega
  have hh := hists_box2 (G := Old (w2.alloc (.cells #[.int .i64 3, .int .i64 0, .int .i64 1, .int .i64 1, .int .i64 3, .slice none 0 0, .slice (some ⟨w1.heap.size, 0, none⟩) 1 1, .int .i64 3, .int .i64 0, .int .i64 2, .int .i64 2, .int .i64 4, .slice none 0 0, .slice (some ⟨w1.heap.size, 0, none⟩) 1 1] 45))) (x := ⟨3, 0, 1, 1, 3, [], [⟨1, dataB 1⟩]⟩) (y := ⟨3, 0, 2, 2, 4, [], [⟨1, dataB 1⟩]⟩) (heap_alloc_new w2 (.cells #[.int .i64 3, .int .i64 0, .int .i64 1, .int .i64 1, .int .i64 3, .slice none 0 0, .slice (some ⟨w1.heap.size, 0, none⟩) 1 1, .int .i64 3, .int .i64 0, .int .i64 2, .int .i64 2, .int .i64 4, .slice none 0 0, .slice (some ⟨w1.heap.size, 0, none⟩) 1 1] 45)) (by show _ < _; simp) (i0 _ _ _ _ _ (by decide) (by decide) (by decide) (by decide) (by decide) (by decide) (by decide) (by decide) (by decide) (by decide)) (i0 _ _ _ _ _ (by decide) (by decide) (by decide) (by decide) (by decide) (by decide) (by decide) (by decide) (by decide) (by decide)) SlAt.nil hpw SlAt.nil hpw
  have hck := check_any (Old (w2.alloc (.cells #[.int .i64 3, .int .i64 0, .int .i64 1, .int .i64 1, .int .i64 3, .slice none 0 0, .slice (some ⟨w1.heap.size, 0, none⟩) 1 1, .int .i64 3, .int .i64 0, .int .i64 2, .int .i64 2, .int .i64 4, .slice none 0 0, .slice (some ⟨w1.heap.size, 0, none⟩) 1 1] 45))) 5 _ _ (w2.alloc (.cells #[.int .i64 3, .int .i64 0, .int .i64 1, .int .i64 1, .int .i64 3, .slice none 0 0, .slice (some ⟨w1.heap.size, 0, none⟩) 1 1, .int .i64 3, .int .i64 0, .int .i64 2, .int .i64 2, .int .i64 4, .slice none 0 0, .slice (some ⟨w1.heap.size, 0, none⟩) 1 1] 45)) (fun _ h => h) hh (by decide) (by omega)
  rw [awakeRes] at hck
  have HB3 := Lib.hid (Below.up HBP.out hba)
  have HCK := Lib.hid hck
  clear hck
  clear hh hpw i0 hba
  go_wp2_with fail
  refine (HCK.out).mono ?_
  rintro e w4 ⟨rfl, hb4⟩
  have HB4 := Lib.hid (Below.up HB3.out hb4)
  have hck0 := check_any (Old w4) 5 (.slice none 0 0) [] w4 (fun _ h => h) SlAt.nil (by decide) (by omega)
  rw [awakeRes0] at hck0
  have HCK0 := Lib.hid hck0
  clear hck0
  clear hb4
  go_wp2_with fail
  refine (HCK0.out).mono ?_
  rintro e w5 ⟨rfl, hb5⟩
  have HB5 := Lib.hid (Below.up HB4.out hb5)
  clear hb5
  go_wp2
  go_ret
  exact ⟨rfl, HB5.out⟩
end Go.Proofs
