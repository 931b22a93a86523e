/- Package wbuf: Write. -/
import Derived.Test.YteodkepnalhceaaWbuf1
import Derived.BigQuiet
import Derived.Deep.QuietTactic
namespace Go.Proofs
open Go.RowKit Sc

def outB (blocks : Int) (p : Put) : Bool := decide (p.lba < 0) || decide (blocks ≤ p.lba)
def len40 (p : Put) : Bool := !decide (p.data.length = 40)
set_option maxHeartbeats 400000 in
theorem writeC1_any (G : Nat → Prop) (x : Put) (ev : Value) (bx b : Nat) (blocks : Int) (W : World) (he : putV G W ev x) (h0 : W.cell? ⟨bx, 0, none⟩ = some (.pointer (some ⟨b, 0, none⟩))) (h1 : W.cell? ⟨b, 0, none⟩ = some (.int .i64 blocks)) :
    Calls Try.prog 54 #[ev, .pointer (some ⟨bx, 0, none⟩)] W fun e w' => e = .returned (.bool (outB blocks x)) ∧ Below W.heap.size W w' := by
  obtain ⟨dv, rfl, hi, hd⟩ := he
  obtain ⟨dp, dc, rfl⟩ := shape_of hd rfl
  have hb0 := below_alloc W (.cells #[.int .i64 x.lba, .slice dp x.data.length dc] 54)
  have hk0 : (W.alloc (.cells #[.int .i64 x.lba, .slice dp x.data.length dc] 54)).cell? ⟨W.heap.size, 0, none⟩ = some (.int .i64 x.lba) := by rw [cell_row (heap_alloc_new W _)]; rfl
  have h0' := cell_up hb0 h0
  have h1' := cell_up hb0 h1
  have hdef : outB blocks x = (decide (x.lba < 0) || decide (blocks ≤ x.lba)) := rfl
  have HB0 := Lib.hid hb0
  clear hb0
  clear h0 h1 hd
  by_cases c1 : x.lba < 0
  · rw [decide_eq_true c1] at hdef
    have c1' : decide (x.lba < 0) = true := decide_eq_true c1
    have HDEF := Lib.hid hdef
    clear hdef
    go_enter Try.func54, Try.ntmps54
    go_wp2
    go_quiet (fail)
    go_wp2
    go_ret
    exact ⟨congrArg boolRet HDEF.out.symm, below_drewN HB0.out _⟩
  · have c1' : decide (x.lba < 0) = false := decide_eq_false c1
    rw [c1', Bool.false_or] at hdef
    have HDEF := Lib.hid hdef
    clear hdef
    clear c1
    go_enter Try.func54, Try.ntmps54
    go_wp2
    go_quiet (fail)
    go_wp2
    go_ret
    refine ⟨congrArg boolRet ?_, below_drewN HB0.out _⟩
    rw [HDEF.out]
theorem writeC2_any (G : Nat → Prop) (x : Put) (ev : Value) (W : World) (he : putV G W ev x) :
    Calls Try.prog 55 #[ev] W fun e w' => e = .returned (.bool (len40 x)) ∧ Below W.heap.size W w' := by
  obtain ⟨dv, rfl, hi, hd⟩ := he
  obtain ⟨dp, dc, rfl⟩ := shape_of hd rfl
  have hb0 := below_alloc W (.cells #[.int .i64 x.lba, .slice dp x.data.length dc] 54)
  have HB0 := Lib.hid hb0
  clear hb0
  clear hd
  by_cases h : x.data.length = 40
  · have hl : len40 x = false := by unfold len40; rw [decide_eq_true h]; rfl
    have h1 : ((x.data.length : Int) != 40) = false := by rw [bne_eq_false_iff_eq]; omega
    have HL := Lib.hid hl
    clear hl
    clear h
    go_enter Try.func55, Try.ntmps55
    go_wp2
    go_ret
    refine ⟨congrArg boolRet ?_, HB0.out⟩
    rw [HL.out]
  · have hl : len40 x = true := by unfold len40; rw [decide_eq_false h]; rfl
    have h1 : ((x.data.length : Int) != 40) = true := by rw [bne_iff_ne]; omega
    have HL := Lib.hid hl
    clear hl
    clear h
    go_enter Try.func55, Try.ntmps55
    go_wp2
    go_ret
    refine ⟨congrArg boolRet ?_, HB0.out⟩
    rw [HL.out]
/-- How many of some blocks are new. -/
def freshN (s : List (Int × Bytes)) (l : List Put) : Nat := (l.filter fun p => (alook s p.lba).isNone).length
theorem freshN_take (s : List (Int × Bytes)) (l : List Put) (k : Nat) (h : k < l.length) : freshN s (l.take (k + 1)) = freshN s (l.take k) + if (alook s l[k].lba).isNone then 1 else 0 := by
  unfold freshN
  rw [take_snoc l k h, List.filter_append, List.length_append]
  congr 1
  cases hq : (alook s l[k].lba).isNone <;> simp [hq]
def putsTo (s : List (Int × Bytes)) (l : List Put) : List (Int × Bytes) := l.foldl (fun s p => aset s p.lba p.data) s
theorem putsTo_snoc (s : List (Int × Bytes)) (l : List Put) (p : Put) : putsTo s (l ++ [p]) = aset (putsTo s l) p.lba p.data := by simp [putsTo]
def bufCode (blocks most : Int) (s : List (Int × Bytes)) (l : List Put) : Int :=
  if l = [] then 1 else if l.any (outB blocks) then 2 else if l.any len40 then 3 else if twiceB l then 4 else if most < ((s.length + freshN s l : Nat) : Int) then 7 else 0
def bufNext (blocks most : Int) (s : List (Int × Bytes)) (l : List Put) : List (Int × Bytes) := if bufCode blocks most s l = 0 then putsTo s l else s

def BufWriteSaid (F : Nat → Prop) (v : Value) (blocks most : Int) (s : List (Int × Bytes)) (l : List Put) (w : World) (e : Ending) (w' : World) : Prop :=
  e = .returned (.int .i64 (bufCode blocks most s l)) ∧ Chg F w w' ∧ BufIs (fun k => F k ∨ New w w' k) w' v blocks most (bufNext blocks most s l)
theorem buf_fail {F : Nat → Prop} {v : Value} {blocks most c : Int} {s : List (Int × Bytes)} {l : List Put} {w w' : World} (h : BufIs F w v blocks most s) (hb : Below w.heap.size w w') (hc : bufCode blocks most s l = c) (h0 : c ≠ 0) : BufWriteSaid F v blocks most s l w (.returned (.int .i64 c)) w' := by
  refine ⟨by rw [hc], Chg.of_below hb (fun k h1 h2 => by omega), ?_⟩
  unfold bufNext
  rw [if_neg (by rw [hc]; exact h0)]
  exact h.more hb

set_option maxRecDepth 100000 in
set_option maxHeartbeats 8000000 in
theorem bufWrite_any (F G : Nat → Prop) (v lv : Value) (blocks most : Int) (s : List (Int × Bytes)) (l : List Put) (w : World) (hm : BufIs F w v blocks most s) (hl : PutsAt G w lv l) (hG : Dom G w) (hFG : ∀ k, F k → ¬ G k) (n0 : s.length ≤ 1000000) (n1 : l.length ≤ 1000000) :
    Calls Try.prog 30 #[v, lv] w (BufWriteSaid F v blocks most s l w) := by
  have HM := Lib.hid hm
  have HLL := Lib.hid hl
  obtain ⟨b, r, ml, rfl, hFb, hFr, hbr, hbl, hc0, hc1, hc2, hmp, hal⟩ := hm.cells
  have hl2 := hl
  obtain ⟨lp, lc, rfl, q1, q2, q3, q4⟩ := hl2
  have hb0 := below_alloc w (.cells #[.pointer (some ⟨b, 0, none⟩)] 47)
  have hbx : (w.alloc (.cells #[.pointer (some ⟨b, 0, none⟩)] 47)).cell? ⟨w.heap.size, 0, none⟩ = some (.pointer (some ⟨b, 0, none⟩)) := by rw [cell_row (heap_alloc_new w _)]; rfl
  have hq0 := cell_up hb0 hc0
  have hq1 := cell_up hb0 hc1
  have hq2 := cell_up hb0 hc2
  have hlB := PutsAt.up hl hb0
  have hGB : Dom G (w.alloc (.cells #[.pointer (some ⟨b, 0, none⟩)] 47)) := hG.below hb0
  have hml := All2.length hal
  have HQ4 := Lib.hid q4
  have HB0 := Lib.hid hb0
  have HLB := Lib.hid hlB
  have HMP := Lib.hid hmp
  have HAL := Lib.hid hal
  have HML := Lib.hid hml
  have HGB := Lib.hid hGB
  clear q4 hb0 hlB hmp hal hml hGB
  clear hm hl q3
  by_cases hnil : l = []
  case pos =>
    subst hnil
    have hcd : bufCode blocks most s [] = 1 := rfl
    have HCD := Lib.hid hcd
    clear hcd
    go_enter Try.func30, Try.ntmps30
    go_wp2
    go_ret
    exact buf_fail HM.out HB0.out HCD.out (by decide)
  case neg =>
    have hpos := List.length_pos_iff.2 hnil
    have hl0 : ((l.length : Int) == 0) = false := by rw [beq_eq_false_iff_ne]; omega
    have hcd0 : bufCode blocks most s l = if l.any (outB blocks) then 2 else if l.any len40 then 3 else if twiceB l then 4 else if most < ((s.length + freshN s l : Nat) : Int) then 7 else 0 := by unfold bufCode; rw [if_neg hnil]
    have HCD0 := Lib.hid hcd0
    clear hcd0
    go_enter Try.func30, Try.ntmps30
    go_wp2_with fail
    refine (anyPut_any G _ l (outB blocks) 54 #[.pointer (some ⟨w.heap.size, 0, none⟩)] (by go_simp) _ HGB.out HLB.out (fun i hi W ev hb hev => writeC1_any G _ ev w.heap.size b blocks W hev (cell_up hb hbx) (cell_up hb hq0))).mono ?_
    rintro e w1 ⟨rfl, hb1⟩
    have h1x := cell_up hb1 hbx
    have h11 := cell_up hb1 hq1
    have h12 := cell_up hb1 hq2
    have hl1 := PutsAt.up HLB.out hb1
    have hB1 := Below.up HB0.out hb1
    have HB1' := Lib.hid hb1
    clear hb1
    have HL1 := Lib.hid hl1
    have HB1 := Lib.hid hB1
    clear hl1 hB1
    clear hbx hq0 hq1 hq2
    cases ha : l.any (outB blocks) with
    | true =>
      have hcd : bufCode blocks most s l = 2 := by rw [HCD0.out, if_pos ha]
      have HCD := Lib.hid hcd
      have HA := Lib.hid ha
      clear hcd ha
      go_wp2_with fail
      go_ret
      exact buf_fail HM.out HB1.out HCD.out (by decide)
    | false =>
      have hcd1 := HCD0.out
      rw [ha, if_neg (by decide)] at hcd1
      have HA := Lib.hid ha
      have HCD1 := Lib.hid hcd1
      clear ha hcd1
      go_wp2_with fail
      refine (anyPut_any G _ l len40 55 #[] (by go_simp) _ (HGB.out.below HB1'.out) HL1.out (fun i hi W ev hb hev => writeC2_any G _ ev W hev)).mono ?_
      rintro e w2 ⟨rfl, hb2⟩
      have h2x := cell_up hb2 h1x
      have h21 := cell_up hb2 h11
      have h22 := cell_up hb2 h12
      have hB2 := Below.up HB1.out hb2
      have hl2 := PutsAt.up HL1.out hb2
      have hG2 := (HGB.out.below HB1'.out).below hb2
      have HL2 := Lib.hid hl2
      have HB2 := Lib.hid hB2
      have HG2 := Lib.hid hG2
      clear hl2 hB2 hG2
      clear h1x h11 h12 hb2
      cases hb : l.any len40 with
      | true =>
        have hcd : bufCode blocks most s l = 3 := by rw [HCD1.out, if_pos hb]
        have HCD := Lib.hid hcd
        have HB := Lib.hid hb
        clear hcd hb
        go_wp2_with fail
        go_ret
        exact buf_fail HM.out HB2.out HCD.out (by decide)
      | false =>
        have hcd2 := HCD1.out
        rw [hb, if_neg (by decide)] at hcd2
        have h40all : ∀ x ∈ l, x.data.length = 40 := fun x hx => by
          rw [List.any_eq_false] at hb
          have := hb x hx
          unfold len40 at this
          simpa using this
        have HB := Lib.hid hb
        have HCD2 := Lib.hid hcd2
        have H40ALL := Lib.hid h40all
        clear hb hcd2 h40all
        go_wp2_with fail
        refine (twice_any G _ l _ HG2.out HL2.out n1).mono ?_
        rintro e w3 ⟨rfl, hb3⟩
        have h3x := cell_up hb3 h2x
        have h31 := cell_up hb3 h21
        have h32 := cell_up hb3 h22
        have hB3 := Below.up HB2.out hb3
        have HB3 := Lib.hid hB3
        clear hB3
        clear h2x h21 h22 hb3
        cases ht : twiceB l with
        | true =>
          have hcd : bufCode blocks most s l = 4 := by rw [HCD2.out, if_pos ht]
          have HCD := Lib.hid hcd
          have HT := Lib.hid ht
          clear hcd ht
          go_wp2_with fail
          go_ret
          exact buf_fail HM.out HB3.out HCD.out (by decide)
        | false =>
          have hcd3 := HCD2.out
          rw [ht, if_neg (by decide)] at hcd3
          have hnd := twiceB_no.1 ht
          have hm3 := HMP.out.up HB3.out
          have hlen := hm3.len (P := Try.prog) Try.underlying84 3
          rw [HML.out] at hlen
          have HT := Lib.hid ht
          have HCD3 := Lib.hid hcd3
          have HND := Lib.hid hnd
          have HM3 := Lib.hid hm3
          clear ht hcd3 hnd hm3
          go_wp2_with fail
          clear hlen
          go_loopw [5, 37] (fun n i wr => ∃ k : Nat, k ≤ l.length ∧ i = .int .i64 k ∧ n = .int .i64 ((s.length + freshN s (l.take k) : Nat) : Int) ∧ Hid (Below w3.heap.size w3 wr)) (fun _ i _ => l.length - (intOf i).toNat)
          case atStart => exact ⟨0, by omega, rfl, by simp [freshN], Below.refl _ _⟩
          case round =>
            obtain ⟨k, hk, rfl, rfl, HB⟩ := hrel
            have hx3 := cell_up HB.out h3x
            have hx1 := cell_up HB.out h31
            have hx2 := cell_up HB.out h32
            have hbw := Below.up HB3.out HB.out
            by_cases hlt : k < l.length
            case pos =>
              obtain ⟨g, o, rfl, hg, hca, hci, dv, hcb, hd⟩ := HQ4.out k hlt
              have hca' := (hbw.cell (p := ⟨g, o + k * 2, none⟩) (hG g hg)).trans hca
              have hcb' := (hbw.cell (p := ⟨g, o + k * 2 + 1, none⟩) (hG g hg)).trans hcb
              have hfr := freshN_take s l k hlt
              obtain ⟨dp, dc, rfl⟩ := shape_of hd rfl
              have hfb : freshN s (l.take k) ≤ l.length := by unfold freshN; exact Nat.le_trans (List.length_filter_le _ _) (by rw [List.length_take]; omega)
              generalize l[k] = x at *
              have hba := below_alloc wr (.cells #[.int .i64 x.lba, .slice dp x.data.length dc] 54)
              have hka : (wr.alloc (.cells #[.int .i64 x.lba, .slice dp x.data.length dc] 54)).cell? ⟨wr.heap.size, 0, none⟩ = some (.int .i64 x.lba) := by rw [cell_row (heap_alloc_new wr _)]; rfl
              have hya := cell_up hba hx3
              have hyb := cell_up hba hx2
              have hma := (HMP.out.up hbw).up hba
              have hlk := fun n => ((hma.up (below_drewN (Below.refl _ _) n)).lookup (P := Try.prog) Try.underlying84 Try.underlying3 (Try.zeroValue51 _) x.lba true)
              have hlk0 := hma.lookup (P := Try.prog) Try.underlying84 Try.underlying3 (Try.zeroValue51 _) x.lba true
              have hba3 := Below.up HB.out hba
              generalize freshN s (l.take k) = q at *
              have hql : ((s.length + q : Nat) : Int) ≤ 2000000 := by omega
              rcases HAL.out.look x.lba with ⟨e1, e2⟩ | ⟨u, d, e1, e2, _⟩
              · rw [e1] at hlk hlk0
                rw [e2] at hfr
                simp only [Option.getD_none, Option.isSome_none, Option.isNone_none, if_true] at hlk hlk0 hfr
                have HFR := Lib.hid hfr
                have HBA3 := Lib.hid hba3
                have HBW := Lib.hid hbw
                have HE1 := Lib.hid e1
                have HE2 := Lib.hid e2
                clear hfr hba3 hbw e1 e2
                clear hma hba hca hcb hd hx3 hx2 hfb
                go_wp2_with fail
                go_quiet (fail)
                go_wp2_with fail
                go_roundw
                case rel => exact ⟨k + 1, by omega, by go_num, by rw [HFR.out]; go_num, below_drewN HBA3.out _⟩
                case measure => simp [intOf]; omega
              · rw [e1] at hlk hlk0
                rw [e2] at hfr
                simp only [Option.getD_some, Option.isSome_some, Option.isNone_some, if_true] at hlk hlk0 hfr
                have HFR := Lib.hid hfr
                have HBA3 := Lib.hid hba3
                have HBW := Lib.hid hbw
                have HE1 := Lib.hid e1
                have HE2 := Lib.hid e2
                clear hfr hba3 hbw e1 e2
                clear hma hba hca hcb hd hx3 hx2 hfb
                go_wp2_with fail
                go_quiet (fail)
                go_wp2_with fail
                go_roundw
                case rel => exact ⟨k + 1, by omega, by go_num, by rw [HFR.out]; simp, below_drewN HBA3.out _⟩
                case measure => simp [intOf]; omega
            case neg =>
              obtain rfl : k = l.length := by omega
              rw [List.take_length]
              have hfb : freshN s l ≤ l.length := by unfold freshN; exact List.length_filter_le _ _
              generalize hfn : freshN s l = fn at *
              have HFN := Lib.hid hfn
              clear hfn
              have hcd4 := HCD3.out
              obtain ⟨nn, hnn⟩ : ∃ nn : Int, ((s.length + fn : Nat) : Int) = nn := ⟨_, rfl⟩
              rw [hnn] at hcd4 ⊢
              have HNN := Lib.hid hnn
              clear hnn
              by_cases hbig : most < nn
              case pos =>
                have hcd : bufCode blocks most s l = 7 := by rw [hcd4, if_pos hbig]
                have HCD := Lib.hid hcd
                have HBW := Lib.hid hbw
                have HCD4 := Lib.hid hcd4
                clear hcd hbw hcd4
                go_wp2_with fail
                go_ret
                exact buf_fail HM.out HBW.out HCD.out (by decide)
              case neg =>
                have hcd : bufCode blocks most s l = 0 := by rw [hcd4, if_neg hbig]
                have hbig' : nn ≤ most := by omega
                have HCD := Lib.hid hcd
                have HBW := Lib.hid hbw
                have HCD4 := Lib.hid hcd4
                clear hcd hbw hcd4
                clear hbig
                have hW4l := PutsAt.up HLL.out HBW.out
                have hBu4 : BufIs (fun q => F q ∨ (wr.heap.size ≤ q ∧ q < wr.heap.size)) wr (.pointer (some ⟨b, 0, none⟩)) blocks most s := by
                  obtain ⟨⟨b', r', ml', g1, g2, g3, g4, g5, g6⟩, gd⟩ := HM.out.up HBW.out
                  exact ⟨⟨b', r', ml', g1, .inl g2, .inl g3, g4, g5, g6.imp fun _ _ h => h.mono fun _ h => ⟨.inl h.1, h.2⟩⟩, fun k hk => hk.elim (gd k) (fun h => h.2)⟩
                have hFd : Dom F w := HM.out.dom
                obtain ⟨W4, rfl⟩ : ∃ W4 : World, W4 = wr := ⟨_, rfl⟩
                have hwz := HBW.out.size
                have hG4 : Dom G W4 := hG.below HBW.out
                have HW4L := Lib.hid hW4l
                have HBU4 := Lib.hid hBu4
                have HFD := Lib.hid hFd
                have HG4 := Lib.hid hG4
                clear hW4l hBu4 hFd hG4
                go_wp2_with fail
                clear hfb h31 h32 hx1 hx2 h3x
                go_loopw [64] (fun i wr => ∃ k : Nat, k ≤ l.length ∧ i = .int .i64 k ∧ Hid (BufIs (fun q => F q ∨ (W4.heap.size ≤ q ∧ q < wr.heap.size)) wr (.pointer (some ⟨b, 0, none⟩)) blocks most (putsTo s (l.take k))) ∧ Hid (Chg F W4 wr)) (fun i _ => l.length - (intOf i).toNat)
                case atStart => exact ⟨0, by omega, rfl, HBU4.out, Chg.refl _ _⟩
                case round =>
                  obtain ⟨k, hk, rfl, HBU, HCH⟩ := hrel
                  by_cases hlt : k < l.length
                  case neg =>
                    obtain rfl : k = l.length := by omega
                    have hbu := HBU.out
                    rw [List.take_length] at hbu
                    have hnext : bufNext blocks most s l = putsTo s l := by unfold bufNext; rw [if_pos HCD.out]
                    have hz4 := HCH.out.size
                    have HBU := Lib.hid hbu
                    have HNEXT := Lib.hid hnext
                    clear hbu hnext
                    go_wp2_with fail
                    go_ret
                    refine ⟨by rw [HCD.out]; rfl, (Chg.of_below HBW.out (fun k h1 h2 => by omega)).trans HCH.out, ?_⟩
                    rw [HNEXT.out]
                    obtain ⟨⟨b', r', ml', g1, g2, g3, g4, g5, g6⟩, gd⟩ := HBU.out
                    have up : ∀ q, (F q ∨ (W4.heap.size ≤ q ∧ q < wr.heap.size)) → F q ∨ New w wr q := fun q h => h.imp id fun h => ⟨by omega, h.2⟩
                    exact ⟨⟨b', r', ml', g1, up _ g2, up _ g3, g4, g5, g6.imp fun _ _ h => h.mono fun _ h => ⟨up _ h.1, h.2⟩⟩, fun k hk => hk.elim (fun hf => by have := HFD.out k hf; omega) (fun h => h.2)⟩
                  case pos =>
                    have hz4 := HCH.out.size
                    have hlw : PutsAt G wr (.slice lp l.length lc) l := PutsAt.same HW4L.out (HCH.out.same fun q hq => ⟨HG4.out q hq, fun hf => hFG q hf hq⟩)
                    obtain ⟨lp', lc', he, _, _, _, h4'⟩ := hlw
                    cases he
                    obtain ⟨g, o, rfl, hg, hca, hci, dv, hcb, hd⟩ := h4' k hlt
                    have htk := take_snoc l k hlt
                    obtain ⟨dp, dc, rfl⟩ := shape_of hd rfl
                    have h40x := H40ALL.out _ (List.getElem_mem hlt)
                    generalize l[k] = x at *
                    have hput : putsTo s (l.take (k + 1)) = aset (putsTo s (l.take k)) x.lba x.data := by rw [htk, putsTo_snoc]
                    have h40 : x.data.length ≤ 1000000 := by omega
                    obtain ⟨b', r', ml', g1, hBB⟩ := HBU.out.parts
                    cases g1
                    have i2 : wr.cell? ⟨b, 2, none⟩ = some (.map (some r')) := by rw [cell_row hBB.hb]; rfl
                    have hmW := hBB.hm
                    have hbxW : wr.cell? ⟨w.heap.size, 0, none⟩ = some (.pointer (some ⟨b, 0, none⟩)) := HCH.out.cell (fun hf => by have := HFD.out _ hf; omega) hx3
                    have hba := below_alloc wr (.cells #[.int .i64 x.lba, .slice dp x.data.length dc] 54)
                    have hka : (wr.alloc (.cells #[.int .i64 x.lba, .slice dp x.data.length dc] 54)).cell? ⟨wr.heap.size, 0, none⟩ = some (.int .i64 x.lba) := by rw [cell_row (heap_alloc_new wr _)]; rfl
                    have hkb : (wr.alloc (.cells #[.int .i64 x.lba, .slice dp x.data.length dc] 54)).cell? ⟨wr.heap.size, 1, none⟩ = some (.slice dp x.data.length dc) := by rw [cell_row (heap_alloc_new wr _)]; rfl
                    have hya := cell_up hba hbxW
                    have hyb := cell_up hba i2
                    have hda := BytesAt.up hd hba
                    have hzz := hba.size
                    have HPUT := Lib.hid hput
                    have H40 := Lib.hid h40
                    have HMW := Lib.hid hmW
                    have HBB := Lib.hid hBB
                    have HDA := Lib.hid hda
                    have HBA := Lib.hid hba
                    have HTK := Lib.hid htk
                    have HCI := Lib.hid hci
                    have H40X := Lib.hid h40x
                    clear hput h40 hmW hBB hda hba htk hci h40x
                    go_wp2_with fail
                    go_region_held3 (fun W => W.cell? ⟨w.heap.size, 0, none⟩ = some (.pointer (some ⟨b, 0, none⟩)) ∧ W.cell? ⟨b, 2, none⟩ = some (.map (some r')) ∧ W.cell? ⟨wr.heap.size, 0, none⟩ = some (.int .i64 x.lba) ∧ W.cell? ⟨wr.heap.size, 1, none⟩ = some (.slice dp x.data.length dc))
                      (first
                        | (go_split_ands; exact ⟨cell_up hb7 (by assumption), cell_up hb7 (by assumption), cell_up hb7 (by assumption), cell_up hb7 (by assumption)⟩)
                        | (go_split_ands; exact ⟨(hT8.cell _).trans (by assumption), (hT8.cell _).trans (by assumption), (hT8.cell _).trans (by assumption), (hT8.cell _).trans (by assumption)⟩)
                        | go_keep)
                      ((first
                        | (go_at_call 57
                           refine (clone_any G _ x.data _ (by exact BytesAt.up HDA.out (below_drewN (Below.refl _ _) 1)) H40.out).mono ?_
                           rintro e w7 ⟨v7, rfl, hnv, hb7⟩
                           have hbA7 := Below.up (below_drewN HBA.out 1) hb7
                           have hm7 := HMW.out.up hbA7
                           obtain ⟨w8, hu8, hm8, hT8⟩ := hm7.update (P := Try.prog) Try.underlying84 Try.underlying3 x.lba v7)))
                    all_goals
                      have hput8 := HBB.out.put (k := x.lba) hbA7 (hnv.mono fun q hq => ⟨by have := hq.1; simp at this; omega, hq.2⟩) hm8 hT8
                      obtain ⟨hp1, hp2⟩ := hput8
                      have hz8 := hp2.size
                      have hbu8 := (hp1.wider (F' := fun q => F q ∨ (W4.heap.size ≤ q ∧ q < w8.heap.size)) (fun q hq => by
                        rcases hq with (h | h) | h
                        · exact .inl h
                        · exact .inr ⟨h.1, by omega⟩
                        · exact .inr ⟨by have := h.1; omega, h.2⟩) (fun q hq => hq.elim (fun hf => by have := HFD.out q hf; omega) (fun h => h.2))).is
                      rw [← HPUT.out] at hbu8
                      have hch8 : Chg F W4 w8 := HCH.out.trans' hp2 (fun i hi h => h.elim id fun h => by have := h.1; omega)
                      have HBU8 := Lib.hid hbu8
                      have HCH8 := Lib.hid hch8
                      clear hbu8 hch8
                      clear hp1 hp2 hm8 hT8 hm7 hbA7 hb7 hnv hu8
                      go_wp2_with fail
                      go_roundw
                      case rel => exact ⟨k + 1, by omega, by go_num, HBU8.out, HCH8.out⟩
                      case measure => simp [intOf]; omega
end Go.Proofs
