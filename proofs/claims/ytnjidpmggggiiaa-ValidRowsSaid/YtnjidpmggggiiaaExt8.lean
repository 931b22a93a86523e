/- Package extmap: Written. -/
import Derived.Test.YtnjidpmggggiiaaExt7
namespace Go.Proofs
open Go.RowKit Sc

def lastT (l : List Put) : Int := ((l.getLast?).map (·.lba)).getD 0
def hitB (a n t : Int) (x : Int × List Put) : Bool := decide (a ≤ x.1) && decide (x.1 - a < n) && decide (t < lastT x.2)
def writtenB (vs : Vers) (a n t : Int) : Bool := vs.any (hitB a n t)
theorem lastT_get {l : List Put} {j : Nat} (h : l.length = j + 1) : lastT l = (l[j]'(by omega)).lba := by
  unfold lastT
  rw [List.getLast?_eq_getElem?, List.getElem?_eq_getElem (by omega)]
  simp [h]

set_option maxRecDepth 100000 in
set_option maxHeartbeats 2000000 in
/-- For an extent that may be. -/
theorem extWritten_any (F : Nat → Prop) (v : Value) (blocks last : Int) (vs : Vers) (a n t : Int) (w : World) (h : ExtIs F w v blocks last vs) (h1 : 1 ≤ blocks) (hne : ∀ x ∈ vs, x.2 ≠ []) (hk : ∀ x ∈ vs, I64 x.1 ∧ 0 ≤ x.1)
    (ha : 0 ≤ a) (ha2 : a ≤ 1048576) (hn : 1 ≤ n) (hn2 : n ≤ 1048577 - a) (hn3 : n ≤ 1048576) :
    Calls Try.prog 65 #[v, .agg #[.int .i64 a, .int .i64 n], .int .i64 t] w fun e w' => e = .returned (.bool (writtenB vs a n t)) ∧ Below w.heap.size w w' := by
  have hb0 := below_alloc w (.cells #[.int .i64 a, .int .i64 n] 39)
  have hb00 : Below w.heap.size (w.alloc (.cells #[.int .i64 a, .int .i64 n] 39)) (w.alloc (.cells #[.int .i64 a, .int .i64 n] 39)) := Below.refl _ _
  have hca : (w.alloc (.cells #[.int .i64 a, .int .i64 n] 39)).cell? ⟨w.heap.size, 0, none⟩ = some (.int .i64 a) := by rw [cell_row (heap_alloc_new w _)]; rfl
  have hcn : (w.alloc (.cells #[.int .i64 a, .int .i64 n] 39)).cell? ⟨w.heap.size, 1, none⟩ = some (.int .i64 n) := by rw [cell_row (heap_alloc_new w _)]; rfl
  have hz0 : (w.alloc (.cells #[.int .i64 a, .int .i64 n] 39)).heap.size = w.heap.size + 1 := by simp
  have H := Lib.hid (h.up hb0)
  obtain ⟨b, r, ml, rfl, hb, hc0, hc1, hc2, hm, hal⟩ := (h.up hb0).cells
  obtain ⟨o, hrg, hR⟩ := hm.range (P := Try.prog) Try.underlying106
  have HR := Lib.hid hR
  have HAL := Lib.hid hal
  have HB0 := Lib.hid hb0
  have HNE := Lib.hid hne
  have HK := Lib.hid hk
  have HCA := Lib.hid hca
  have HCN := Lib.hid hcn
  have HZ0 := Lib.hid hz0
  clear hb0 hne hk hca hcn hz0
  clear h hR hm hal
  have hw1 : IntKind.i64.wrap (1048577 - a) = 1048577 - a := IntWalk.i64_in _ (by omega)
  go_enter Try.func65, Try.ntmps65
  go_wp2_with fail
  refine (extGone_any F _ _ _ _ _ H.out h1).mono ?_
  rintro e w1 ⟨rfl, rfl⟩
  go_wp2_with fail
  go_loopg [6] ml.length (fun gg s1 wr => ∃ left, left.length ≤ gg ∧ s1 = .bool false ∧ Ranges wr (w.heap.size + 1) r ml left ∧ Hid (Below (w.heap.size + 1) (w.alloc (.cells #[.int .i64 a, .int .i64 n] 39)) wr) ∧
    Hid (∀ i (h : i < ml.length) (h' : i < vs.length), ml[i] ∈ left ∨ hitB a n t vs[i] = false))
  case atStart => exact ⟨ml, Nat.le_refl _, rfl, by simpa using HR.out, by unfold Hid; simpa using below_alloc (w.alloc (.cells #[.int .i64 a, .int .i64 n] 39)) o, fun i h h' => .inl (List.getElem_mem h)⟩
  case round =>
    obtain ⟨left, hg, rfl, hR, hbw, hall⟩ := hrel
    have hca' := (hbw.out.cell (p := ⟨w.heap.size, 0, none⟩) (by simp only; omega)).trans HCA.out
    have hcn' := (hbw.out.cell (p := ⟨w.heap.size, 1, none⟩) (by simp only; omega)).trans HCN.out
    rcases hR.next (P := Try.prog) 0 with ⟨rfl, hn⟩ | ⟨n0, v, left', w', hp, hmem, hnx, hen, hR', hst⟩
    · have hfin : writtenB vs a n t = false := by
        unfold writtenB
        rw [List.any_eq_false]
        intro x hx
        obtain ⟨i, hi, rfl⟩ := List.getElem_of_mem hx
        have hi' : i < ml.length := by rw [al_len HAL.out]; exact hi
        rcases hall.out i hi' hi with h | h
        · cases h
        · rw [h]; decide
      have hbe : Below w.heap.size w wr := HB0.out.trans (hbw.out.mono (by omega))
      have HFIN := Lib.hid hfin
      have HBE := Lib.hid hbe
      clear hfin hbe
      clear hR hrg
      go_wp2
      go_ret
      refine ⟨?_, HBE.out⟩
      rw [HFIN.out]
      rfl
    · obtain ⟨i, hi, hie⟩ := List.getElem_of_mem hmem
      have hi' : i < vs.length := by rw [← al_len HAL.out]; exact hi
      obtain ⟨hkey, hputs⟩ := All2.get HAL.out i hi hi'
      have hne1 := HNE.out _ (List.getElem_mem hi')
      obtain ⟨hki, hk0⟩ := HK.out _ (List.getElem_mem hi')
      rw [hie] at hkey hputs
      simp only at hkey hputs
      have hvs : ∃ x, vs[i] = x ∧ x ∈ vs := ⟨_, rfl, List.getElem_mem hi'⟩
      obtain ⟨x, hx, hxm⟩ := hvs
      rw [hx] at hkey hputs hne1 hki hk0
      obtain ⟨xk, xl⟩ := x
      simp only at hkey hputs hne1 hki hk0
      subst hkey
      obtain ⟨p, c, rfl, p1, p2, p3, p4⟩ := hputs
      obtain ⟨j, hj⟩ : ∃ j, xl.length = j + 1 := ⟨xl.length - 1, by have := List.length_pos_iff.2 hne1; omega⟩
      obtain ⟨gq, oq, rfl, hgq, hct, _⟩ := p4 j (by omega)
      have hlt := lastT_get hj
      rw [← hlt] at hct
      have hgq' : gq < w.heap.size + 1 := by have := HZ0.out; unfold Old at hgq; omega
      have hct2 : w'.cell? ⟨gq, oq + j * 2, none⟩ = some (.int .i64 (lastT xl)) := (hst.cell _).trans ((hbw.out.cell (p := ⟨gq, oq + j * 2, none⟩) hgq').trans hct)
      have hca2 : w'.cell? ⟨w.heap.size, 0, none⟩ = some (.int .i64 a) := (hst.cell _).trans hca'
      have hcn2 : w'.cell? ⟨w.heap.size, 1, none⟩ = some (.int .i64 n) := (hst.cell _).trans hcn'
      have hej : (((j + 1 : Nat) : Int) - 1) = (j : Int) := by omega
      have hw2 : IntKind.i64.wrap (((j + 1 : Nat) : Int) - 1) = (j : Int) := by rw [hej]; exact IntWalk.i64_in _ (by omega)
      have hw3 : IntKind.i64.wrap (n0 - a) = n0 - a := IntWalk.i64_in _ (by unfold I64 at hki; omega)
      have hb' : Below (w.heap.size + 1) (w.alloc (.cells #[.int .i64 a, .int .i64 n] 39)) w' := hbw.out.trans (hst.below (Nat.le_refl _))
      have hbe : Below w.heap.size w w' := HB0.out.trans (hb'.mono (by omega))
      have hl := hp.length_eq
      rw [List.length_cons] at hl
      have hmiss : hitB a n t (n0, xl) = false → ∀ i (h : i < ml.length) (h' : i < vs.length), ml[i] ∈ left' ∨ hitB a n t vs[i] = false := by
        intro hh q hq hq'
        rcases hall.out q hq hq' with hm | hm
        · rcases List.mem_cons.1 (hp.mem_iff.1 hm) with he | he
          · right
            have hnd := (HR.out.mapIs)
            obtain ⟨_, _, _, _, hnd, _⟩ := hnd
            have : q = i := by
              have e1 : (ml.map (·.1))[q]? = (ml.map (·.1))[i]? := by
                rw [List.getElem?_map, List.getElem?_map, List.getElem?_eq_getElem hq, List.getElem?_eq_getElem hi, he, hie]
              exact (List.getElem?_inj (by simpa using hq) hnd).1 e1
            subst this
            rw [hx]; exact hh
          · exact .inl he
        · exact .inr hm
      have hhit : hitB a n t (n0, xl) = true → writtenB vs a n t = true := fun hh => by
        unfold writtenB
        rw [List.any_eq_true]
        exact ⟨_, hxm, hh⟩
      have hval : hitB a n t (n0, xl) = (decide (a ≤ n0) && decide (n0 - a < n) && decide (t < lastT xl)) := rfl
      rw [hj] at hnx hen
      generalize lastT xl = lt at hct2 hval
      have hj1 : (j : Int) < ((j + 1 : Nat) : Int) := by omega
      have HB' := Lib.hid hb'
      have HBE := Lib.hid hbe
      have HR' := Lib.hid hR'
      have HG := Lib.hid hg
      have HL := Lib.hid hl
      have HMISS := Lib.hid hmiss
      have HHIT := Lib.hid hhit
      have HVAL := Lib.hid hval
      have HXM := Lib.hid hxm
      have HIE := Lib.hid hie
      have HX := Lib.hid hx
      have HP4 := Lib.hid p4
      clear hb' hbe hR' hg hl hmiss hhit hval hxm hie hx p4
      by_cases c1 : a ≤ n0
      case neg =>
        have hh := HMISS.out (by rw [HVAL.out, decide_eq_false c1]; rfl)
        have c1' : n0 < a := by omega
        have HH := Lib.hid hh
        clear hh
        clear c1
        go_wp2
        go_roundg left'.length
        case measure => have := HL.out; have := HG.out; omega
        case rel => exact ⟨left', Nat.le_refl _, rfl, HR'.out, HB'.out, HH.out⟩
      case pos =>
        by_cases c2 : n0 - a < n
        case neg =>
          have hh := HMISS.out (by rw [HVAL.out, decide_eq_false c2, Bool.and_false]; rfl)
          have c2' : n ≤ n0 - a := by omega
          have HH := Lib.hid hh
          clear hh
          clear c2
          go_wp2
          go_roundg left'.length
          case measure => have := HL.out; have := HG.out; omega
          case rel => exact ⟨left', Nat.le_refl _, rfl, HR'.out, HB'.out, HH.out⟩
        case pos =>
          by_cases c3 : t < lt
          case neg =>
            have hh := HMISS.out (by rw [HVAL.out, decide_eq_false c3, Bool.and_false])
            have c3' : lt ≤ t := by omega
            have HH := Lib.hid hh
            clear hh
            clear c3
            go_wp2
            go_roundg left'.length
            case measure => have := HL.out; have := HG.out; omega
            case rel => exact ⟨left', Nat.le_refl _, rfl, HR'.out, HB'.out, HH.out⟩
          case pos =>
            have hh := HHIT.out (by rw [HVAL.out, decide_eq_true c1, decide_eq_true c2, decide_eq_true c3]; rfl)
            have HH := Lib.hid hh
            clear hh
            go_wp2
            go_ret
            refine ⟨?_, HBE.out⟩
            rw [HH.out]
            rfl
end Go.Proofs
