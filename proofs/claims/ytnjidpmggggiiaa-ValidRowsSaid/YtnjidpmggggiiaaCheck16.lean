/- Package valid: Against, Check. -/
import Derived.Test.YtnjidpmggggiiaaExt8
import Derived.Test.YtnjidpmggggiiaaSetSep
import Derived.Test.YtnjidpmggggiiaaPlainExt
import Derived.Test.YtnjidpmggggiiaaOrder16
namespace Go.Proofs
open Go.RowKit Sc

/-- An extent that is longer than any may be is never written. -/
theorem extWritten_big (F : Nat → Prop) (v : Value) (blocks last : Int) (vs : Vers) (a n t : Int) (w : World) (h : ExtIs F w v blocks last vs) (h1 : 1 ≤ blocks) (ha : 0 ≤ a) (ha2 : a ≤ 1048576) (hn : 1048576 < n) (hn2 : n ≤ 1048577 - a) :
    Calls Try.prog 65 #[v, .agg #[.int .i64 a, .int .i64 n], .int .i64 t] w fun e w' => e = .returned (.bool false) ∧ Below w.heap.size w w' := by
  have hb0 := below_alloc w (.cells #[.int .i64 a, .int .i64 n] 39)
  have hw1 : IntKind.i64.wrap (1048577 - a) = 1048577 - a := IntWalk.i64_in _ (by omega)
  have H := Lib.hid (h.up hb0)
  obtain ⟨b, r, ml, rfl, hb, _⟩ := (h.up hb0).cells
  have HB0 := Lib.hid hb0
  clear hb0
  clear h
  go_enter Try.func65, Try.ntmps65
  go_wp2_with fail
  refine (extGone_any F _ _ _ _ _ H.out h1).mono ?_
  rintro e w1 ⟨rfl, rfl⟩
  go_wp2
  go_ret
  exact ⟨rfl, HB0.out⟩
def wrB (vs : Vers) (x : Ext) (t : Int) : Bool := decide (x.len ≤ 1048576) && writtenB vs x.first x.len t
theorem extWritten_oke (F : Nat → Prop) (v : Value) (blocks last : Int) (vs : Vers) (x : Ext) (t : Int) (w : World) (h : ExtIs F w v blocks last vs) (h1 : 1 ≤ blocks) (hne : ∀ x ∈ vs, x.2 ≠ []) (hk : ∀ x ∈ vs, I64 x.1 ∧ 0 ≤ x.1) (hx : Oke x) :
    Calls Try.prog 65 #[v, .agg #[.int .i64 x.first, .int .i64 x.len], .int .i64 t] w fun e w' => e = .returned (.bool (wrB vs x t)) ∧ Below w.heap.size w w' := by
  obtain ⟨o1, o2, o3, o4⟩ := hx
  unfold wrB
  by_cases hl : x.len ≤ 1048576
  · rw [decide_eq_true hl, Bool.true_and]
    exact extWritten_any F v blocks last vs x.first x.len t w h h1 hne hk o1 o2 o3 (by omega) hl
  · rw [decide_eq_false hl, Bool.false_and]
    exact extWritten_big F v blocks last vs x.first x.len t w h h1 o1 o2 (by omega) (by omega)
theorem good_ne {blocks last : Int} {vs : Vers} (h : GoodE blocks last vs) : ∀ x ∈ vs, x.2 ≠ [] := fun x hx => (h.ts x.1 x.2 (alook_mem h.nd hx)).1
theorem good_key {blocks last : Int} {vs : Vers} (h : GoodE blocks last vs) (hb : blocks ≤ 1048576) : ∀ x ∈ vs, I64 x.1 ∧ 0 ≤ x.1 := fun x hx => by have := h.ks x hx; unfold I64; omega

def againstB (l : List Ext) (t : Tx) : Bool := t.puts.any fun p => hasB l p.lba
theorem againstC_any (G F : Nat → Prop) (x : Put) (ev : Value) (bx b : Nat) (most : Int) (l : List Ext) (W : World) (he : putV G W ev x) (h0 : W.cell? ⟨bx, 0, none⟩ = some (.pointer (some ⟨b, 0, none⟩))) (hs : SetIs F W (.pointer (some ⟨b, 0, none⟩)) most l) (ho : ∀ e ∈ l, Oke e) :
    Calls Try.prog 76 #[ev, .pointer (some ⟨bx, 0, none⟩)] W fun e w' => e = .returned (.bool (hasB l x.lba)) ∧ Below W.heap.size W w' := by
  obtain ⟨dv, rfl, hi, hd⟩ := he
  obtain ⟨dp, dc, rfl⟩ := shape_of hd rfl
  have hb0 := below_alloc W (.cells #[.int .i64 x.lba, .slice dp x.data.length dc] 61)
  have hk0 : (W.alloc (.cells #[.int .i64 x.lba, .slice dp x.data.length dc] 61)).cell? ⟨W.heap.size, 0, none⟩ = some (.int .i64 x.lba) := by rw [cell_row (heap_alloc_new W _)]; rfl
  have h0' := cell_up hb0 h0
  have hs' := hs.up hb0
  have hhas := setHas_any F _ most l x.lba _ hs' ho hi
  have HB0 := Lib.hid hb0
  have HS' := Lib.hid hs'
  have HHAS := Lib.hid hhas
  have HI := Lib.hid hi
  clear hb0 hs' hhas hi
  clear h0 hd hs
  go_enter Try.func76, Try.ntmps76
  go_wp2_with fail
  refine (HHAS.out).mono ?_
  rintro e w1 ⟨rfl, hb1⟩
  have hb2 := Below.up HB0.out hb1
  have HB1 := Lib.hid hb1
  have HB2 := Lib.hid hb2
  clear hb1 hb2
  go_wp2
  go_ret
  exact ⟨rfl, HB2.out⟩
theorem against_any (G F : Nat → Prop) (t : Tx) (tv : Value) (v : Value) (most : Int) (l : List Ext) (w : World) (hG : Dom G w) (ht : TxAt G w tv t) (hs : SetIs F w v most l) (ho : ∀ e ∈ l, Oke e) :
    Calls Try.prog 66 #[tv, v] w fun e w' => e = .returned (.bool (againstB l t)) ∧ Below w.heap.size w w' := by
  obtain ⟨pv, rfl, hti, hp⟩ := ht
  obtain ⟨pp, pc, rfl⟩ : ∃ pp pc, pv = .slice pp t.puts.length pc := by obtain ⟨p, c, rfl, _⟩ := hp; exact ⟨p, c, rfl⟩
  obtain ⟨b, p, c, rfl, _⟩ := hs.cells
  have hb0 : Below w.heap.size w ((w.alloc (.cells #[.int .i64 t.time, .slice pp t.puts.length pc] 49)).alloc (.cells #[.pointer (some ⟨b, 0, none⟩)] 52)) := Below.up (below_alloc w _) (below_alloc _ _)
  obtain ⟨W, hW⟩ : ∃ W, (w.alloc (.cells #[.int .i64 t.time, .slice pp t.puts.length pc] 49)).alloc (.cells #[.pointer (some ⟨b, 0, none⟩)] 52) = W := ⟨_, rfl⟩
  have hk1 : W.cell? ⟨w.heap.size, 1, none⟩ = some (.slice pp t.puts.length pc) := by
    rw [← hW]
    refine cell_up (below_alloc _ _) ?_
    rw [cell_row (heap_alloc_new w _)]; rfl
  have hk2 : W.cell? ⟨w.heap.size + 1, 0, none⟩ = some (.pointer (some ⟨b, 0, none⟩)) := by
    rw [← hW]
    have := heap_alloc_new (w.alloc (.cells #[.int .i64 t.time, .slice pp t.puts.length pc] 49)) (.cells #[.pointer (some ⟨b, 0, none⟩)] 52)
    rw [show (w.alloc (.cells #[.int .i64 t.time, .slice pp t.puts.length pc] 49)).heap.size = w.heap.size + 1 by simp] at this
    rw [cell_row this]; rfl
  rw [hW] at hb0
  have hpW := PutsAt.up hp hb0
  have hsW := hs.up hb0
  have hGW := hG.below hb0
  have hdef : againstB l t = t.puts.any fun p => hasB l p.lba := rfl
  have HB0 := Lib.hid hb0
  have HPW := Lib.hid hpW
  have HSW := Lib.hid hsW
  have HGW := Lib.hid hGW
  have HO := Lib.hid ho
  have HDEF := Lib.hid hdef
  have HW := Lib.hid hW
  have HK2 := Lib.hid hk2
  clear hb0 hpW hsW hGW ho hdef hW hk2
  clear hp hs hG
  go_enter Try.func66, Try.ntmps66
  go_upto_region 1 with fail
  rw [HW.out]
  have hk2 := HK2.out
  go_wp2_with fail
  refine (anyPut_any G _ t.puts (fun p => hasB l p.lba) 76 #[.pointer (some ⟨w.heap.size + 1, 0, none⟩)] (by go_simp) _ HGW.out HPW.out (fun i hi W' ev hb hev => againstC_any G F _ ev _ b most l W' hev (cell_up hb HK2.out) (HSW.out.up hb) HO.out)).mono ?_
  rintro e w1 ⟨rfl, hb1⟩
  have hb2 := Below.up HB0.out hb1
  have HB1 := Lib.hid hb1
  have HB2 := Lib.hid hb2
  clear hb1 hb2
  go_wp2
  go_ret
  exact ⟨congrArg boolRet HDEF.out.symm, HB2.out⟩

/-- What a transaction that read and wrote sets is told. -/
def hitsB (vs : Vers) (queue : List Tx) (t : Int) (l : List Ext) : Bool := (l.any fun x => wrB vs x t) || queue.any fun q => againstB l q
def checkCode (vs : Vers) (queue : List Tx) (t : Int) (r wr : List Ext) : Int := if cntE wr = 0 then 0 else if hitsB vs queue t r || hitsB vs queue t wr then 8 else 0
theorem idx0 (p q : Option Addr) (w : World) : (Instr.index 134 (.agg #[.pointer p, .pointer q]) (.int .i64 0)).run Try.prog w = .ok (.pointer p) w := by kernel_rfl
theorem idx1 (p q : Option Addr) (w : World) : (Instr.index 134 (.agg #[.pointer p, .pointer q]) (.int .i64 1)).run Try.prog w = .ok (.pointer q) w := by kernel_rfl
theorem any_take_next {α : Type} {p : α → Bool} {l : List α} {k : Nat} (h : (l.take k).any p = false) (hk : k < l.length) (hp : p l[k] = false) : (l.take (k + 1)).any p = false := by
  rw [take_snoc l k hk, List.any_append, h]
  simp [hp]
theorem any_hit {α : Type} {p : α → Bool} {l : List α} {k : Nat} (hk : k < l.length) (hp : p l[k] = true) : l.any p = true := List.any_eq_true.2 ⟨_, List.getElem_mem hk, hp⟩

set_option maxRecDepth 100000 in
set_option maxHeartbeats 3000000 in
theorem check_any (Fm Fr Fw G : Nat → Prop) (mv qv rv wv : Value) (blocks last t m1 m2 : Int) (vs : Vers) (queue : List Tx) (r l : List Ext) (w : World) (hm : ExtIs Fm w mv blocks last vs) (h1 : 1 ≤ blocks) (hg : GoodE blocks last vs) (hb : blocks ≤ 1048576)
    (hG : Dom G w) (hq : TxsAt G w qv queue) (hr : SetIs Fr w rv m1 r) (hl : SetIs Fw w wv m2 l) (gr : SetG r) (gl : SetG l) (nr : r.length ≤ 1000000) (nl : l.length ≤ 1000000) :
    Calls Try.prog 35 #[mv, qv, .int .i64 t, rv, wv] w fun e w' => e = .returned (.int .i64 (checkCode vs queue t r l)) ∧ Below w.heap.size w w' := by
  have hcnt := setCount_any Fw wv m2 l w hl gl.2 nl
  have hne := good_ne hg
  have hk := good_key hg hb
  obtain ⟨qp, qc, rfl⟩ : ∃ qp qc, qv = .slice qp queue.length qc := by obtain ⟨p, c, rfl, _⟩ := hq; exact ⟨p, c, rfl⟩
  obtain ⟨br, _, _, rfl, _⟩ := hr.cells
  obtain ⟨bw, _, _, rfl, _⟩ := hl.cells
  obtain ⟨bm, _, _, rfl, _⟩ := hm.cells
  have hdef : checkCode vs queue t r l = if cntE l = 0 then 0 else if hitsB vs queue t r || hitsB vs queue t l then 8 else 0 := rfl
  have HCNT := Lib.hid hcnt
  have HNE := Lib.hid hne
  have HK := Lib.hid hk
  have HM := Lib.hid hm
  have HQ := Lib.hid hq
  have HR := Lib.hid hr
  have HL := Lib.hid hl
  have HGR := Lib.hid gr
  have HGL := Lib.hid gl
  have HG := Lib.hid hG
  clear hcnt hne hk hm hq hr hl gr gl hG
  clear hg
  by_cases hc0 : cntE l = 0
  case pos =>
    rw [if_pos hc0] at hdef
    have HDEF := Lib.hid hdef
    clear hdef
    go_enter Try.func35, Try.ntmps35
    go_wp2_with fail
    try (go_step3; go_wp2_with fail)
    refine (HCNT.out).mono ?_
    rintro e w1 ⟨rfl, hb1⟩
    rw [hc0]
    have HB1 := Lib.hid hb1
    clear hb1
    go_wp2
    try rw [Exit.noGoto_ret]
    go_ret
    rw [HDEF.out]
    exact ⟨rfl, HB1.out⟩
  case neg =>
    rw [if_neg hc0] at hdef
    have hc0' : (cntE l == 0) = false := by rw [beq_eq_false_iff_ne]; exact hc0
    have HDEF := Lib.hid hdef
    clear hdef
    go_enter Try.func35, Try.ntmps35
    go_wp2_with fail
    try (go_step3; go_wp2_with fail)
    refine (HCNT.out).mono ?_
    rintro e w1 ⟨rfl, hb1⟩
    generalize cntE l = cn at *
    have HB1 := Lib.hid hb1
    clear hb1
    go_wp2_with fail
    try (go_step3; go_wp2_with fail)
    have hi0 := fun W => idx0 (some ⟨br, 0, none⟩) (some ⟨bw, 0, none⟩) W
    have hi1 := fun W => idx1 (some ⟨br, 0, none⟩) (some ⟨bw, 0, none⟩) W
    go_loopw [11, 24] (fun ev i wr => ∃ k : Int, 0 ≤ k ∧ k ≤ 2 ∧ ev = .int .i64 0 ∧ i = .int .i64 k ∧ Hid (Below w.heap.size w wr) ∧ Hid (1 ≤ k → hitsB vs queue t r = false) ∧ Hid (2 ≤ k → hitsB vs queue t l = false)) (fun _ i _ => 2 - (intOf i).toNat)
    case atStart => exact ⟨0, by omega, by omega, rfl, rfl, HB1.out, fun h => absurd h (by omega), fun h => absurd h (by omega)⟩
    case round =>
      obtain ⟨k, hk0, hk2, rfl, rfl, HB, HH1, HH2⟩ := hrel
      rcases (show k = 0 ∨ k = 1 ∨ k = 2 by omega) with rfl | rfl | rfl
      case inr.inr =>
        have hd := HDEF.out
        rw [HH1.out (by omega), HH2.out (by omega)] at hd
        simp only [Bool.or_false, Bool.false_eq_true, if_false] at hd
        have HD := Lib.hid hd
        clear hd
        go_wp2_with fail
        try rw [Exit.noGoto_ret]
        go_ret
        rw [HD.out]
        exact ⟨rfl, HB.out⟩
      case' inl =>
        have hset0 := HR.out.up HB.out
        have hhit0 : hitsB vs queue t r = true → checkCode vs queue t r l = 8 := fun h => by rw [HDEF.out, h]; rfl
        obtain ⟨kn, hkn, hkn0, hkn2, hmiss0⟩ : ∃ kn : Int, IntKind.i64.wrap ((0 : Int) + 1) = kn ∧ 0 ≤ kn ∧ kn ≤ 2 ∧ (hitsB vs queue t r = false → (1 ≤ kn → hitsB vs queue t r = false) ∧ (2 ≤ kn → hitsB vs queue t l = false)) := ⟨1, by rw [IntWalk.i64_in _ (by omega)]; rfl, by omega, by omega, fun h => ⟨fun _ => h, fun h => absurd h (by omega)⟩⟩
        have hke : kn = 1 := by rw [IntWalk.i64_in _ (by omega)] at hkn; omega
        obtain ⟨X, F, most, hset, hgs, hns, hhit, hmiss⟩ : ∃ X F most, SetIs F wr (.pointer (some ⟨br, 0, none⟩)) most X ∧ SetG X ∧ X.length ≤ 1000000 ∧ (hitsB vs queue t X = true → checkCode vs queue t r l = 8) ∧ (hitsB vs queue t X = false → (1 ≤ kn → hitsB vs queue t r = false) ∧ (2 ≤ kn → hitsB vs queue t l = false)) := ⟨r, Fr, m1, hset0, HGR.out, nr, hhit0, hmiss0⟩
        have HKN0 := Lib.hid hkn0
        have HKN2 := Lib.hid hkn2
        have HKE := Lib.hid hke
        have HKN := Lib.hid hkn
        clear hkn0 hkn2 hke hkn
        clear hset0 hhit0 hmiss0
      case' inr.inl =>
        have hset0 := HL.out.up HB.out
        have hhit0 : hitsB vs queue t l = true → checkCode vs queue t r l = 8 := fun h => by rw [HDEF.out, h, Bool.or_true]; rfl
        obtain ⟨kn, hkn, hkn0, hkn2, hmiss0⟩ : ∃ kn : Int, IntKind.i64.wrap ((1 : Int) + 1) = kn ∧ 0 ≤ kn ∧ kn ≤ 2 ∧ (hitsB vs queue t l = false → (1 ≤ kn → hitsB vs queue t r = false) ∧ (2 ≤ kn → hitsB vs queue t l = false)) := ⟨2, by rw [IntWalk.i64_in _ (by omega)]; rfl, by omega, by omega, fun h => ⟨fun _ => HH1.out (by omega), fun _ => h⟩⟩
        have hke : kn = 2 := by rw [IntWalk.i64_in _ (by omega)] at hkn; omega
        obtain ⟨X, F, most, hset, hgs, hns, hhit, hmiss⟩ : ∃ X F most, SetIs F wr (.pointer (some ⟨bw, 0, none⟩)) most X ∧ SetG X ∧ X.length ≤ 1000000 ∧ (hitsB vs queue t X = true → checkCode vs queue t r l = 8) ∧ (hitsB vs queue t X = false → (1 ≤ kn → hitsB vs queue t r = false) ∧ (2 ≤ kn → hitsB vs queue t l = false)) := ⟨l, Fw, m2, hset0, HGL.out, nl, hhit0, hmiss0⟩
        have HKN0 := Lib.hid hkn0
        have HKN2 := Lib.hid hkn2
        have HKE := Lib.hid hke
        have HKN := Lib.hid hkn
        clear hkn0 hkn2 hke hkn
        clear hset0 hhit0 hmiss0
      all_goals
        have hext := setExtents_any _ _ _ _ _ hset hns
        have HSET := Lib.hid hset
        have HGS := Lib.hid hgs
        have HHIT := Lib.hid hhit
        have HMISS := Lib.hid hmiss
        have HEXT := Lib.hid hext
        clear hset hgs hhit hmiss hext
        go_wp2_with fail
        refine (HEXT.out).mono ?_
        rintro e w2 ⟨p2, c2, rfl, hx2, hb2⟩
        have hb02 := Below.up HB.out hb2
        have HX2 := Lib.hid hx2
        have HB2 := Lib.hid hb2
        have HB02 := Lib.hid hb02
        clear hx2 hb2 hb02
        obtain ⟨W2, rfl⟩ : ∃ W2 : World, W2 = w2 := ⟨_, rfl⟩
        go_wp2_with fail
        go_loopw [11, 30] (fun ev j wr => ∃ m : Nat, m ≤ X.length ∧ ev = .int .i64 0 ∧ j = .int .i64 m ∧ Hid (Below w.heap.size w wr) ∧ Hid (Below W2.heap.size W2 wr) ∧ Hid ((X.take m).any (fun x => wrB vs x t) = false)) (fun _ j _ => X.length - (intOf j).toNat)
        case atStart => exact ⟨0, by omega, rfl, rfl, HB02.out, Below.refl _ _, rfl⟩
        case round =>
          obtain ⟨m, hm2, rfl, rfl, HBA, HBB, HN⟩ := hrel
          by_cases hlt : m < X.length
          case pos =>
            obtain ⟨p', c', he', _, _, _, h4⟩ := ExtsAt.up HX2.out HBB.out
            cases he'
            obtain ⟨g, o, rfl, _, hca, hcb, hia, hib⟩ := h4 m hlt
            have hok := HGS.out.2 _ (List.getElem_mem hlt)
            have hnx := any_take_next (p := fun x => wrB vs x t) HN.out hlt
            have hht := any_hit (p := fun x => wrB vs x t) hlt
            generalize X[m] = x at *
            have hba := below_alloc wr (.cells #[.int .i64 x.first, .int .i64 x.len] 39)
            have hwt := extWritten_oke Fm _ blocks last vs x t _ ((HM.out.up HBA.out).up hba) h1 HNE.out HK.out hok
            have hbA := Below.up HBA.out hba
            have hbB := Below.up HBB.out hba
            have hmI : (m : Int) < (X.length : Int) := by omega
            have hmw : IntKind.i64.wrap ((m : Int) + 1) = ((m + 1 : Nat) : Int) := by rw [IntWalk.i64_in _ (by omega)]; omega
            have HWT := Lib.hid hwt
            have HBA := Lib.hid hbA
            have HBB := Lib.hid hbB
            have HNX := Lib.hid hnx
            have HHT := Lib.hid hht
            have HOK := Lib.hid hok
            have HIA := Lib.hid hia
            have HIB := Lib.hid hib
            clear hwt hbA hbB hnx hht hok hia hib
            clear h4 hba
            go_wp2_with fail
            refine (HWT.out).mono ?_
            rintro e w3 ⟨rfl, hb3⟩
            have hbA3 := Below.up HBA.out hb3
            have hbB3 := Below.up HBB.out hb3
            have HB3 := Lib.hid hb3
            have HBA3 := Lib.hid hbA3
            have HBB3 := Lib.hid hbB3
            clear hb3 hbA3 hbB3
            cases hq : wrB vs x t with
            | true =>
              have hcode := HHIT.out (by unfold hitsB; rw [HHT.out hq, Bool.true_or])
              have HCODE := Lib.hid hcode
              have HQ := Lib.hid hq
              clear hcode hq
              go_wp2_with fail
              try rw [Exit.noGoto_ret]
              go_ret
              rw [HCODE.out]
              exact ⟨rfl, HBA3.out⟩
            | false =>
              have hnx := HNX.out hq
              have HNX := Lib.hid hnx
              have HQ := Lib.hid hq
              clear hnx hq
              go_wp2_with fail
              go_roundw
              case rel => exact ⟨m + 1, by omega, rfl, by go_num, HBA3.out, HBB3.out, HNX.out⟩
              case measure => simp [intOf]; omega
          case neg =>
            have hnw := HN.out
            rw [show m = X.length by omega, List.take_length] at hnw
            have HNW := Lib.hid hnw
            clear hnw
            obtain ⟨W4, rfl⟩ : ∃ W4 : World, W4 = wr := ⟨_, rfl⟩
            go_wp2_with fail
            clear hlt hm2
            go_loopw [11, 41] (fun ev j wr => ∃ m : Nat, m ≤ queue.length ∧ ev = .int .i64 0 ∧ j = .int .i64 m ∧ Hid (Below w.heap.size w wr) ∧ Hid (Below W2.heap.size W2 wr) ∧ Hid ((queue.take m).any (fun q => againstB X q) = false)) (fun _ j _ => queue.length - (intOf j).toNat)
            case atStart => exact ⟨0, by omega, rfl, rfl, HBA.out, HBB.out, rfl⟩
            case round =>
              obtain ⟨m, hm2, rfl, rfl, HBA, HBB, HN⟩ := hrel
              by_cases hlt : m < queue.length
              case pos =>
                have hqs := TxsAt.same HQ.out (HG.out.same HBA.out)
                obtain ⟨p', c', he', _, _, _, h4⟩ := hqs
                cases he'
                obtain ⟨g, o, rfl, _, hte⟩ := h4 m hlt
                obtain ⟨pv, hct, hcp, htx, hone⟩ := txE_txAt hte
                have hnx := any_take_next (p := fun q => againstB X q) HN.out hlt
                have hht := any_hit (p := fun q => againstB X q) hlt
                generalize queue[m] = q at *
                obtain ⟨pv', hpv, hti, hpp⟩ := htx
                cases hpv
                obtain ⟨pp, pc, rfl⟩ : ∃ pp pc, pv = .slice pp q.puts.length pc := by obtain ⟨p, c, rfl, _⟩ := hpp; exact ⟨p, c, rfl⟩
                have hba := below_alloc wr (.cells #[.int .i64 q.time, .slice pp q.puts.length pc] 49)
                have hag := against_any G F q (.agg #[.int .i64 q.time, .slice pp q.puts.length pc]) _ most X _ ((HG.out.below HBA.out).below hba) (TxAt.same ⟨_, rfl, hti, hpp⟩ (Dom.same (HG.out.below HBA.out) hba)) (((HSET.out.up HB2.out).up HBB.out).up hba) HGS.out.2
                have hbA := Below.up HBA.out hba
                have hbB := Below.up HBB.out hba
                have hmI : (m : Int) < (queue.length : Int) := by omega
                have hmw : IntKind.i64.wrap ((m : Int) + 1) = ((m + 1 : Nat) : Int) := by rw [IntWalk.i64_in _ (by omega)]; omega
                have HAG := Lib.hid hag
                have HBA := Lib.hid hbA
                have HBB := Lib.hid hbB
                have HNX := Lib.hid hnx
                have HHT := Lib.hid hht
                have HTI := Lib.hid hti
                have HPP := Lib.hid hpp
                clear hag hbA hbB hnx hht hti hpp
                clear h4 hba hte
                go_wp2_with fail
                refine (HAG.out).mono ?_
                rintro e w3 ⟨rfl, hb3⟩
                have hbA3 := Below.up HBA.out hb3
                have hbB3 := Below.up HBB.out hb3
                have HB3 := Lib.hid hb3
                have HBA3 := Lib.hid hbA3
                have HBB3 := Lib.hid hbB3
                clear hb3 hbA3 hbB3
                cases hq : againstB X q with
                | true =>
                  have hcode := HHIT.out (by unfold hitsB; rw [HHT.out hq, Bool.or_true])
                  have HCODE := Lib.hid hcode
                  have HQ := Lib.hid hq
                  clear hcode hq
                  go_wp2_with fail
                  try rw [Exit.noGoto_ret]
                  go_ret
                  rw [HCODE.out]
                  exact ⟨rfl, HBA3.out⟩
                | false =>
                  have hnx := HNX.out hq
                  have HNX := Lib.hid hnx
                  have HQ := Lib.hid hq
                  clear hnx hq
                  go_wp2_with fail
                  go_roundw
                  case rel => exact ⟨m + 1, by omega, rfl, by go_num, HBA3.out, HBB3.out, HNX.out⟩
                  case measure => simp [intOf]; omega
              case neg =>
                have hnq := HN.out
                rw [show m = queue.length by omega, List.take_length] at hnq
                have hmm := HMISS.out (by unfold hitsB; rw [HNW.out, hnq]; rfl)
                have HNQ := Lib.hid hnq
                have HMM := Lib.hid hmm
                clear hnq hmm
                go_wp2_with fail
                obtain rfl := HKE.out
                go_roundw
                case rel => exact ⟨_, HKN0.out, HKN2.out, rfl, rfl, HBA.out, HMM.out.1, HMM.out.2⟩
                case measure => (simp [intOf]; try omega)
end Go.Proofs
