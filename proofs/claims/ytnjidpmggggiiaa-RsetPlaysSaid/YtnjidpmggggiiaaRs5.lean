/- Texts of this claim, one behind the other: View3, Plays15P, RefView1, RefView2P, StepRun, RefView2. -/
import Derived.Deep.RegionLaw
import Derived.Deep.RegionHeld3
import Derived.Deep.DeepCutAuto
import Derived.Deep.CutRange
import Derived.Lib.SlBuf
import Derived.BigQuiet
import Derived.Test.YtnjidpmggggiiaaRs4

/- Package rset: Read. -/
namespace Go.Proofs
open Go.RowKit Sc

theorem infoRead : (Try.prog.info? 64).map (fun i => (i.zero, i.size, i.bytes)) = some (some (.agg #[.int .i64 0, .slice none 0 0, .bool false]), 3, 40) := by kernel_rfl
def readCode (blocks : Int) (S : List Ext) (e : Ext) : Int := if e.len < 1 ∨ 16 < e.len then 3 else if withinB blocks e.first e.len = false then 2 else if addCode 64 S [e] ≠ 0 then 7 else 0
def ReadSaid (W : World) (Z : Asn) (m b sb v : Nat) (blocks last b2 most t : Int) (vs : Vers) (s : List (Int × Bytes)) (S : List Ext) (R : List Sc.Read) (e : Ext) (r : Ending) (w' : World) : Prop :=
  (readCode blocks S e ≠ 0 ∧ r = .returned (.tuple #[.slice none 0 0, .int .i64 (readCode blocks S e)]) ∧ Hid (Sep W [Z, ExtA (.pointer (some ⟨m, 0, none⟩)) blocks last vs, BufA (.pointer (some ⟨b, 0, none⟩)) b2 most s, SetA (.pointer (some ⟨sb, 0, none⟩)) 64 S, ViewA (.pointer (some ⟨v, 0, none⟩)) (.pointer (some ⟨m, 0, none⟩)) (.pointer (some ⟨b, 0, none⟩)) t (.pointer (some ⟨sb, 0, none⟩)) R] w')) ∨
  (readCode blocks S e = 0 ∧ ∃ g o c, r = .returned (.tuple #[.slice (some ⟨g, o, none⟩) (40 * e.len.toNat) c, .int .i64 0]) ∧ Hid (Sep W [Z, ExtA (.pointer (some ⟨m, 0, none⟩)) blocks last vs, BufA (.pointer (some ⟨b, 0, none⟩)) b2 most s, SetA (.pointer (some ⟨sb, 0, none⟩)) 64 (addNext 64 S [e]), ViewA (.pointer (some ⟨v, 0, none⟩)) (.pointer (some ⟨m, 0, none⟩)) (.pointer (some ⟨b, 0, none⟩)) t (.pointer (some ⟨sb, 0, none⟩)) (R ++ readsV vs s t e.first e.len.toNat),
     BytesWA (.slice (some ⟨g, o, none⟩) (40 * e.len.toNat) c) (rowsF (fun i : Nat => blkV vs s t (e.first + i)) e.len.toNat)] w'))

theorem bytesW_sub {F : Foot} {w : World} {g o N c i : Nat} {l r : Bytes} (h : BytesW F w (.slice (some ⟨g, o, none⟩) N c) l) (hi : i + r.length ≤ l.length) (hr : ∀ j, j < r.length → l[i + j]? = r[j]?) : BytesAt F w (.slice (some ⟨g, o + i, none⟩) r.length (c - i)) r := by
  obtain ⟨p, c', hv, h1, h2, h3, h4⟩ := h
  cases hv
  refine ⟨_, c - i, rfl, by omega, by omega, (by intro e; cases e), fun j hj => ?_⟩
  obtain ⟨b', o', hp, hf, hc, _⟩ := h4 (i + j) (by omega)
  cases hp
  refine ⟨g, o + i, rfl, hf, ?_⟩
  unfold byteE
  have e1 : l[i + j] = r[j] := by
    have := hr j hj
    rw [List.getElem?_eq_getElem (by omega), List.getElem?_eq_getElem hj] at this
    exact Option.some.inj this
  rw [Nat.mul_one] at hc ⊢
  rw [show o + i + j = o + (i + j) by omega, hc, e1]
theorem ownsRow_shape {w : World} {B T k n : Nat} {v : Value} {xs : List Value} (h : w.ownsRow B T k v n xs) : ∃ p c, v = .slice p n c := by
  obtain ⟨_, ⟨rfl, rfl⟩ | ⟨g, cap, _, rfl, _⟩⟩ := h
  · exact ⟨none, 0, rfl⟩
  · exact ⟨_, _, rfl⟩
theorem read_more (vs : Vers) (s : List (Int × Bytes)) (t a : Int) (R : List Sc.Read) (k : Nat) {d : Bytes} {own : Bool} (h1 : blkV vs s t (a + k) = d) (h2 : (alook s (a + k)).isSome = own) : R ++ readsV vs s t a k ++ [⟨a + k, d, own⟩] = R ++ readsV vs s t a (k + 1) := by
  rw [readsV_succ, h1, h2, List.append_assoc]

set_option maxRecDepth 100000 in
set_option maxHeartbeats 4000000 in
theorem viewRead_core {W w : World} {Z : Asn} {m b sb v : Nat} {blocks last b2 most t : Int} {vs : Vers} {s : List (Int × Bytes)} {S : List Ext} {R : List Sc.Read}
    (h : Hid (Sep W [Z, ExtA (.pointer (some ⟨m, 0, none⟩)) blocks last vs, BufA (.pointer (some ⟨b, 0, none⟩)) b2 most s, SetA (.pointer (some ⟨sb, 0, none⟩)) 64 S, ViewA (.pointer (some ⟨v, 0, none⟩)) (.pointer (some ⟨m, 0, none⟩)) (.pointer (some ⟨b, 0, none⟩)) t (.pointer (some ⟨sb, 0, none⟩)) R] w))
    (hg : GoodE blocks last vs) (hbl : blocks ≤ 1048576) (hs : BufG b2 s) (hS : SetG S) (nS : S.length ≤ 50000) (nR : R.length ≤ 1000000) (e : Ext) (i1 : I64 e.first) (i2 : I64 e.len) :
    Calls Try.prog 14 #[.pointer (some ⟨v, 0, none⟩), extV e] w (ReadSaid W Z m b sb v blocks last b2 most t vs s S R e) := by
  obtain ⟨E, hE⟩ : ∃ E : Array Value, E = #[.int .i64 e.first, .int .i64 e.len] := ⟨_, rfl⟩
  have hS0 := h.out.new (below_alloc w (.cells #[.int .i64 e.first, .int .i64 e.len] 39)) (BoxA w.heap.size #[.int .i64 e.first, .int .i64 e.len] 39) (F := New w (w.alloc (.cells #[.int .i64 e.first, .int .i64 e.len] 39))) (fun _ h => h) ⟨⟨Nat.le_refl _, by simp⟩, heap_alloc_new w _⟩
  have he0 : (w.alloc (.cells #[.int .i64 e.first, .int .i64 e.len] 39)).cell? ⟨w.heap.size, 0, none⟩ = some (.int .i64 e.first) := by rw [cell_row (heap_alloc_new w _)]; rfl
  have he1 : (w.alloc (.cells #[.int .i64 e.first, .int .i64 e.len] 39)).cell? ⟨w.heap.size, 1, none⟩ = some (.int .i64 e.len) := by rw [cell_row (heap_alloc_new w _)]; rfl
  obtain ⟨bv, rv0, hbv, hvl, hvh, _⟩ := Go.Proofs.Sep.view_cells hS0 4 rfl
  cases hbv
  generalize hw0 : w.alloc (.cells #[.int .i64 e.first, .int .i64 e.len] 39) = w0 at *
  have hv0 : w0.cell? ⟨v, 0, none⟩ = some (.pointer (some ⟨m, 0, none⟩)) := by rw [cell_row hvh]; rfl
  have hv2 : w0.cell? ⟨v, 2, none⟩ = some (.int .i64 t) := by rw [cell_row hvh]; rfl
  have hfail : ∀ c w', readCode blocks S e = c → c ≠ 0 → Below w0.heap.size w0 w' → ReadSaid W Z m b sb v blocks last b2 most t vs s S R e (.returned (.tuple #[.slice none 0 0, .int .i64 c])) w' := fun c w' hc hn hb => .inl ⟨by rw [hc]; exact hn, by rw [hc], (hS0.up hb).take 5⟩
  have hdef : readCode blocks S e = if e.len < 1 ∨ 16 < e.len then 3 else if withinB blocks e.first e.len = false then 2 else if addCode 64 S [e] ≠ 0 then 7 else 0 := rfl
  have H0 := Lib.hid hS0
  clear hS0
  have HS' := Lib.hid hS
  clear hS
  have HS0 := Lib.hid hs
  have HW0 := Lib.hid hw0
  have HVH := Lib.hid hvh
  have HFAIL := Lib.hid hfail
  have HG := Lib.hid hg
  have HS := Lib.hid hs
  have H := Lib.hid h
  have HE := Lib.hid hE
  clear hw0 hvh hfail hg hs h hE
  rcases (show e.len < 1 ∨ (1 ≤ e.len ∧ 16 < e.len) ∨ (1 ≤ e.len ∧ e.len ≤ 16) by omega) with hl | ⟨hl0, hl⟩ | ⟨hl0, hl⟩
  case inl =>
    rw [if_pos (.inl hl)] at hdef
    have hf := HFAIL.out 3 w0 hdef (by decide) (Below.refl _ _)
    have HF := Lib.hid hf
    have HDEF := Lib.hid hdef
    clear hf hdef
    go_enter Try.func14, Try.ntmps14
    go_wp2_with fail
    go_step3
    rw [HW0.out]
    go_wp2_with fail
    rw [Exit.noGoto_ret]
    go_ret2
    exact HF.out
  case inr.inl =>
    rw [if_pos (.inr hl)] at hdef
    have hf := HFAIL.out 3 w0 hdef (by decide) (Below.refl _ _)
    have HF := Lib.hid hf
    have HDEF := Lib.hid hdef
    clear hf hdef
    go_enter Try.func14, Try.ntmps14
    go_wp2_with fail
    go_step3
    rw [HW0.out]
    go_wp2_with fail
    rw [Exit.noGoto_ret]
    go_ret2
    exact HF.out
  case inr.inr =>
    rw [if_neg (by omega)] at hdef
    obtain ⟨FM, hFM, _⟩ := H0.out.get 1 rfl
    have hrng := extRange_any FM _ blocks last vs e.first e.len t w0.drew (hFM.up (below_drewN (Below.refl _ _) 1)) hbl HG.out.d40 (fun x => good_get40 HG.out x t)
    clear hFM
    cases hwi : withinB blocks e.first e.len with
    | false =>
      rw [if_pos hwi] at hdef
      have hrng' : Calls Try.prog 43 #[.pointer (some ⟨m, 0, none⟩), .agg #[.int .i64 e.first, .int .i64 e.len], .int .i64 t] w0.drew fun r w' => r = .returned (.tuple #[.slice none 0 0, .int .i64 2]) ∧ Hid (Below w0.heap.size w0 w') := hrng.mono fun r w' hr => by
        rcases hr with ⟨_, h1, h2⟩ | ⟨h1, _⟩
        · exact ⟨h1, (below_drewN (Below.refl _ _) 1).trans h2⟩
        · rw [hwi] at h1; cases h1
      have HRNG' := Lib.hid hrng'
      have HDEF := Lib.hid hdef
      have HWI := Lib.hid hwi
      clear hrng' hdef hwi
      clear hrng
      go_enter Try.func14, Try.ntmps14
      go_wp2_with fail
      go_step3
      rw [HW0.out]
      go_wp2_with fail
      go_region_held3 (fun W' => W'.cell? ⟨v, 0, none⟩ = some (.pointer (some ⟨m, 0, none⟩)) ∧ W'.cell? ⟨v, 2, none⟩ = some (.int .i64 t) ∧ W'.cell? ⟨w.heap.size, 0, none⟩ = some (.int .i64 e.first) ∧ W'.cell? ⟨w.heap.size, 1, none⟩ = some (.int .i64 e.len))
        (first | exact ⟨hv0, hv2, he0, he1⟩ | go_keep | exact ⟨cell_up HB1.out hv0, cell_up HB1.out hv2, cell_up HB1.out he0, cell_up HB1.out he1⟩)
        ((go_at_call 43
          refine (HRNG'.out).mono ?_
          rintro r w1 ⟨rfl, HB1⟩))
      go_wp2_with fail
      rw [Exit.noGoto_ret]
      go_ret2
      exact HFAIL.out 2 _ HDEF.out (by decide) HB1.out
    | true =>
      rw [if_neg (by rw [hwi]; decide)] at hdef
      have HDEF0 := Lib.hid hdef
      obtain ⟨n, hn⟩ := Int.eq_ofNat_of_zero_le (show 0 ≤ e.len by omega)
      have htn : e.len.toNat = n := by rw [hn]; rfl
      have hf40 : ∀ i : Nat, (blkV vs s t (e.first + i)).length = 40 := fun i => blkV_length HG.out HS.out t _
      have hg40 : ∀ i : Nat, (getV vs (e.first + i) t).1.length = 40 := fun i => good_get40 HG.out _ t
      have hrl : (rangeV vs e.first t n).length = 40 * n := rowsF_length hg40 n
      have hwb : 0 ≤ e.first ∧ e.first ≤ 1048576 := by
        unfold withinB at hwi
        simp only [Bool.and_eq_true, decide_eq_true_eq] at hwi
        omega
      have hrng' : Calls Try.prog 43 #[.pointer (some ⟨m, 0, none⟩), .agg #[.int .i64 e.first, .int .i64 e.len], .int .i64 t] w0.drew fun r w' => ∃ g o c, r = .returned (.tuple #[.slice (some ⟨g, o, none⟩) (40 * n) c, .int .i64 0]) ∧ Hid (40 * n ≤ c ∧ c ≤ 9223372036854775807) ∧ Hid (BytesW (New w0 w') w' (.slice (some ⟨g, o, none⟩) (40 * n) c) (rangeV vs e.first t n)) ∧ Hid (Below w0.heap.size w0 w') := hrng.mono fun r w' hr => by
        rcases hr with ⟨h1, _⟩ | ⟨_, ov, h1, h2, h3⟩
        · rw [hwi] at h1; cases h1
        · rw [htn] at h2
          obtain ⟨g, o, c, rfl, q1, q2⟩ := h2.base (by rw [hrl]; omega)
          rw [hrl] at h1 h2 q1
          exact ⟨g, o, c, h1, ⟨q1, q2⟩, h2, (below_drewN (Below.refl _ _) 1).trans h3⟩
      have HRNG' := Lib.hid hrng'
      have HWI := Lib.hid hwi
      have HF40 := Lib.hid hf40
      have HG40 := Lib.hid hg40
      have HRL := Lib.hid hrl
      have HTN := Lib.hid htn
      have HN := Lib.hid hn
      clear hrng' hwi hf40 hg40 hrl htn hn
      clear hrng
      go_enter Try.func14, Try.ntmps14
      go_wp2_with fail
      go_step3
      rw [HW0.out]
      go_wp2_with fail
      go_region_held3 (fun W' => W'.cell? ⟨v, 0, none⟩ = some (.pointer (some ⟨m, 0, none⟩)) ∧ W'.cell? ⟨v, 2, none⟩ = some (.int .i64 t) ∧ W'.cell? ⟨w.heap.size, 0, none⟩ = some (.int .i64 e.first) ∧ W'.cell? ⟨w.heap.size, 1, none⟩ = some (.int .i64 e.len))
        (first | exact ⟨hv0, hv2, he0, he1⟩ | go_keep | exact ⟨cell_up HB1.out hv0, cell_up HB1.out hv2, cell_up HB1.out he0, cell_up HB1.out he1⟩)
        ((go_at_call 43
          refine (HRNG'.out).mono ?_
          rintro r w1 ⟨g, o, c, rfl, HGC, HO1, HB1⟩))
      have hS1 := H0.out.new HB1.out (BytesWA (.slice (some ⟨g, o, none⟩) (40 * n) c) (rangeV vs e.first t n)) (F := New w0 w1) (fun _ h => h) HO1.out
      have hv3 : w1.cell? ⟨v, 3, none⟩ = some (.pointer (some ⟨sb, 0, none⟩)) := cell_up HB1.out (by rw [cell_row HVH.out]; rfl)
      have hq0 := cell_up HB1.out he0
      have hq1 := cell_up HB1.out he1
      have hSd := hS1.up (w' := w1.drew) (below_drewN (Below.refl _ _) 1)
      have hadd := setAdd_at (h := (hSd : Hid _)) 3 rfl e.first e.len i1 i2 HS'.out nS w1.heap.size rfl
      have HS1 := Lib.hid hS1
      have HSD := Lib.hid hSd
      have HADD := Lib.hid hadd
      clear hS1 hSd hadd
      clear hv0 hv2 he0 he1
      have hadd2 : Calls Try.prog 44 #[.pointer (some ⟨sb, 0, none⟩), .slice (some ⟨w1.heap.size, 0, none⟩) 1 1] (w1.drew.alloc (.cells #[.int .i64 e.first, .int .i64 e.len] 39)) fun r w' => r = .returned (.int .i64 (addCode 64 S [e])) ∧ Hid (w'.cell? ⟨v, 3, none⟩ = some (.pointer (some ⟨sb, 0, none⟩)) ∧ w'.cell? ⟨w.heap.size, 0, none⟩ = some (.int .i64 e.first) ∧ w'.cell? ⟨w.heap.size, 1, none⟩ = some (.int .i64 e.len)) ∧
          Hid (Sep W [Z, ExtA (.pointer (some ⟨m, 0, none⟩)) blocks last vs, BufA (.pointer (some ⟨b, 0, none⟩)) b2 most s, SetA (.pointer (some ⟨sb, 0, none⟩)) 64 (addNext 64 S [e]), ViewA (.pointer (some ⟨v, 0, none⟩)) (.pointer (some ⟨m, 0, none⟩)) (.pointer (some ⟨b, 0, none⟩)) t (.pointer (some ⟨sb, 0, none⟩)) R, BoxA w.heap.size #[.int .i64 e.first, .int .i64 e.len] 39, BytesWA (.slice (some ⟨g, o, none⟩) (40 * n) c) (rangeV vs e.first t n)] w') := HADD.out.mono fun r w' hr => by
        obtain ⟨h1, h2⟩ := hr
        obtain ⟨bv, rv2, hbv, _, hvh2, _⟩ := Go.Proofs.Sep.view_cells h2.out 4 rfl
        cases hbv
        obtain ⟨FB, hFB, _⟩ := h2.out.get 5 rfl
        exact ⟨h1, ⟨by rw [cell_row hvh2]; rfl, by rw [cell_row hFB.2]; rfl, by rw [cell_row hFB.2]; rfl⟩, h2⟩
      by_cases hac : addCode 64 S [e] = 0
      case neg =>
        rw [if_pos hac] at hdef
        have hanx : addNext 64 S [e] = S := by unfold addNext; rw [if_neg hac]
        have hacn : (addCode 64 S [e] != 0) = true := by rw [bne_iff_ne]; exact hac
        rw [hanx] at hadd2
        generalize addCode 64 S [e] = ac at hadd2 hacn
        have HADD2 := Lib.hid hadd2
        have HANX := Lib.hid hanx
        have HDEF := Lib.hid hdef
        clear hadd2 hanx hdef
        clear hac
        go_wp2_with fail
        go_region_held3 (fun W' => W'.cell? ⟨v, 3, none⟩ = some (.pointer (some ⟨sb, 0, none⟩)) ∧ W'.cell? ⟨w.heap.size, 0, none⟩ = some (.int .i64 e.first) ∧ W'.cell? ⟨w.heap.size, 1, none⟩ = some (.int .i64 e.len))
          (first | exact ⟨hv3, hq0, hq1⟩ | go_keep | exact ⟨cell_up (below_alloc w1.drew _) hv3, cell_up (below_alloc w1.drew _) hq0, cell_up (below_alloc w1.drew _) hq1⟩ | exact HK2.out)
          ((go_at_call 44
            refine (HADD2.out).mono ?_
            rintro r w2 ⟨rfl, HK2, HS2⟩))
        go_wp2_with fail
        rw [Exit.noGoto_ret]
        go_ret2
        exact .inl ⟨by rw [HDEF.out]; decide, congrArg (fun c => Ending.returned (.tuple #[.slice none 0 0, .int .i64 c])) HDEF.out.symm, HS2.out.take 5⟩
      case pos =>
        rw [if_neg (by rw [hac]; decide)] at hdef
        rw [hac] at hadd2
        have hmid := midF_zero (fun i : Nat => blkV vs s t (e.first + i)) (fun i : Nat => (getV vs (e.first + i) t).1) n
        obtain ⟨f, hf⟩ : ∃ f, f = fun i : Nat => blkV vs s t (e.first + i) := ⟨_, rfl⟩
        obtain ⟨gf, hgf⟩ : ∃ gf, gf = fun i : Nat => (getV vs (e.first + i) t).1 := ⟨_, rfl⟩
        rw [show rangeV vs e.first t n = midF f gf n 0 by rw [hf, hgf]; exact hmid.symm] at hadd2
        have hf4 : ∀ i, (f i).length = 40 := fun i => by rw [hf]; exact HF40.out i
        have hg4 : ∀ i, (gf i).length = 40 := fun i => by rw [hgf]; exact HG40.out i
        have HADD2 := Lib.hid hadd2
        have HDEF := Lib.hid hdef
        have HMID := Lib.hid hmid
        have HAC := Lib.hid hac
        have HF := Lib.hid hf
        have HGF := Lib.hid hgf
        have HF4 := Lib.hid hf4
        have HG4 := Lib.hid hg4
        clear hadd2 hdef hmid hac hf hgf hf4 hg4
        go_wp2_with fail
        go_region_held3 (fun W' => W'.cell? ⟨v, 3, none⟩ = some (.pointer (some ⟨sb, 0, none⟩)) ∧ W'.cell? ⟨w.heap.size, 0, none⟩ = some (.int .i64 e.first) ∧ W'.cell? ⟨w.heap.size, 1, none⟩ = some (.int .i64 e.len))
          (first | exact ⟨hv3, hq0, hq1⟩ | go_keep | exact ⟨cell_up (below_alloc w1.drew _) hv3, cell_up (below_alloc w1.drew _) hq0, cell_up (below_alloc w1.drew _) hq1⟩ | exact HK2.out)
          ((go_at_call 44
            refine (HADD2.out).mono ?_
            rintro r w2 ⟨rfl, HK2, HS2⟩))
        have hk20 := HK2.out.2.1
        have hk21 := HK2.out.2.2
        generalize hS' : addNext 64 S [e] = S' at *
        have HS' := Lib.hid hS'
        clear hS'
        clear hv3 hq0 hq1
        go_wp2_with fail
        go_step3
        go_wp2_with fail
        go_loopw [55] (fun i wr => ∃ k : Nat, k ≤ n ∧ i = .int .i64 k ∧ Hid (Sep W [Z, ExtA (.pointer (some ⟨m, 0, none⟩)) blocks last vs, BufA (.pointer (some ⟨b, 0, none⟩)) b2 most s, SetA (.pointer (some ⟨sb, 0, none⟩)) 64 S', ViewA (.pointer (some ⟨v, 0, none⟩)) (.pointer (some ⟨m, 0, none⟩)) (.pointer (some ⟨b, 0, none⟩)) t (.pointer (some ⟨sb, 0, none⟩)) (R ++ readsV vs s t e.first k), BoxA w.heap.size #[.int .i64 e.first, .int .i64 e.len] 39, BytesWA (.slice (some ⟨g, o, none⟩) (40 * n) c) (midF f gf n k)] wr)) (fun i _ => n - (intOf i).toNat)
        case atStart =>
          refine ⟨0, by omega, rfl, ?_⟩
          rw [show readsV vs s t e.first 0 = [] from rfl, List.append_nil]
          exact HS2
        case round =>
          obtain ⟨k, hk, rfl, HS⟩ := hrel
          by_cases hlt : k < n
          case neg =>
            have hkn : k = n := by omega
            subst hkn
            have hkl : ¬ (k : Int) < e.len := by have := HN.out; omega
            have hall := midF_all (f := f) HG4.out k
            have HALL := Lib.hid hall
            clear hall
            go_wp2_with fail
            try rw [Exit.noGoto_ret]
            go_ret2
            refine .inr ⟨HDEF.out, g, o, c, congrArg (fun q => Ending.returned (.tuple #[.slice (some ⟨g, o, none⟩) (40 * q) c, .int .i64 0])) HTN.out.symm, ?_⟩
            rw [HTN.out, HS'.out]
            have hfin := HS.out
            rw [HALL.out, HF.out] at hfin
            exact hfin.erase 5
          case pos =>
            have hkl : (k : Int) < e.len := by have := HN.out; omega
            obtain ⟨bv, rv, hbv, hvl2, hvh2, _⟩ := Go.Proofs.Sep.view_cells HS.out 4 rfl
            cases hbv
            obtain ⟨FX, hFX, _⟩ := HS.out.get 5 rfl
            have hx0 : wr.cell? ⟨w.heap.size, 0, none⟩ = some (.int .i64 e.first) := by rw [cell_row hFX.2]; rfl
            have hv1 : wr.cell? ⟨v, 1, none⟩ = some (.pointer (some ⟨b, 0, none⟩)) := by rw [cell_row hvh2]; rfl
            have hk0 : (0 : Int) ≤ (k : Int) := by omega
            have hk16 : (k : Int) ≤ 16 := by omega
            obtain ⟨hgc, hgm⟩ := HGC.out
            have hm1 : IntKind.i64.wrap ((k : Int) * 40) = (k : Int) * 40 := IntWalk.i64_in _ (by omega)
            have hm2 : IntKind.i64.wrap ((k : Int) + 1) = (k : Int) + 1 := IntWalk.i64_in _ (by omega)
            have hm3 : IntKind.i64.wrap (((k : Int) + 1) * 40) = ((k : Int) + 1) * 40 := IntWalk.i64_in _ (by omega)
            have hm4 : IntKind.i64.wrap (e.first + (k : Int)) = e.first + (k : Int) := IntWalk.i64_in _ (by omega)
            obtain ⟨iu, hiu, _⟩ := info_parts infoU8
            have hml := midF_length HF4.out HG4.out (n := n) (i := k) (by omega)
            have hi64 : I64 (e.first + (k : Int)) := i64_small (by omega)
            obtain ⟨FB, hFB, _⟩ := HS.out.get 2 rfl
            have hget := bufGet_any FB _ _ _ s (e.first + (k : Int)) wr.drew (BufIs.up hFB (below_drewN (Below.refl _ _) 1)) HS0.out.d40
            have hfk : f k = blkV vs s t (e.first + k) := by rw [HF.out]
            have hgk : gf k = (getV vs (e.first + k) t).1 := by rw [HGF.out]
            have hnxt := midF_next HF4.out HG4.out (n := n) (i := k) hlt
            have hsam := midF_same HF4.out HG4.out (n := n) (i := k) hlt
            have hrow := midF_row HF4.out HG4.out (n := n) (i := k) hlt
            obtain ⟨ir, hr0, hr1, hr2, hr3⟩ := info_parts infoRead
            have hxr : wr.drew.cell? ⟨w.heap.size, 0, none⟩ = some (.int .i64 e.first) := hx0
            have hvr : wr.drew.cell? ⟨v, 1, none⟩ = some (.pointer (some ⟨b, 0, none⟩)) := hv1
            have hRl : (R ++ readsV vs s t e.first k).length ≤ 1000020 := by rw [List.length_append, readsV_length]; omega
            have HVH2 := Lib.hid hvh2
            have HML := Lib.hid hml
            have HI64 := Lib.hid hi64
            have HGET := Lib.hid hget
            have HFK := Lib.hid hfk
            have HGK := Lib.hid hgk
            have HNXT := Lib.hid hnxt
            have HSAM := Lib.hid hsam
            have HROW := Lib.hid hrow
            have HRL := Lib.hid hRl
            clear hvh2 hml hi64 hget hfk hgk hnxt hsam hrow hRl
            clear hFX hiu hFB
            cases hlk : alook s (e.first + (k : Int)) with
            | some d =>
              have hd40 : d.length = 40 := (HS0.out.ks _ (alook_in hlk)).2.2
              have hfd : f k = d := by rw [HFK.out]; unfold blkV; rw [hlk]; rfl
              have hmore := read_more vs s t e.first R k (d := d) (own := true) (by rw [← HFK.out, hfd]) (by rw [hlk]; rfl)
              have hget2 : Calls Try.prog 45 #[.pointer (some ⟨b, 0, none⟩), .int .i64 (e.first + (k : Int))] wr.drew fun r w' => ∃ p2 c2, r = .returned (.tuple #[.slice p2 40 c2, .bool true]) ∧ Hid (BytesAt (New wr w') w' (.slice p2 40 c2) d) ∧ Hid (Below wr.heap.size wr w') := HGET.out.mono fun r w' hr => by
                rcases hr with ⟨h1, _⟩ | ⟨d', v', h1, h2, h3, h4⟩
                · rw [hlk] at h1; cases h1
                · rw [hlk] at h1
                  cases h1
                  obtain ⟨p2, c2, rfl⟩ := shape_of h3.bytes hd40
                  exact ⟨p2, c2, h2, h3.bytes, (below_drewN (Below.refl _ _) 1).trans h4⟩
              have HGET2 := Lib.hid hget2
              have HD40 := Lib.hid hd40
              have HFD := Lib.hid hfd
              have HMORE := Lib.hid hmore
              have HLK := Lib.hid hlk
              clear hget2 hd40 hfd hmore hlk
              go_wp2_with fail
              go_region_held3 (fun W' => W'.cell? ⟨v, 1, none⟩ = some (.pointer (some ⟨b, 0, none⟩)) ∧ W'.cell? ⟨w.heap.size, 0, none⟩ = some (.int .i64 e.first))
                (first | exact ⟨hvr, hxr⟩ | go_keep | exact ⟨cell_up HB5.out hv1, cell_up HB5.out hx0⟩)
                ((go_at_call 45
                  refine (HGET2.out).mono ?_
                  rintro r w5 ⟨p2, c2, rfl, HD5, HB5⟩))
              have hS5 := HS.out.new HB5.out (DatumA (.slice p2 40 c2) d) (F := New wr w5) (fun _ h => h) HD5.out
              obtain ⟨hS6, hci, hcf⟩ := Go.Proofs.Sep.bytes_splice hS5 6 rfl (k * 40) d (by rw [HML.out, HD40.out]; omega)
              rw [show midF f gf n k = midF f gf n k from rfl] at hS6
              have hnx := HNXT.out
              rw [HFD.out, show 40 * k = k * 40 by omega] at hnx
              rw [hnx] at hS6
              obtain ⟨sbk, so, rfl, hsrc⟩ := bytes_news HD5.out (by rw [HD40.out]; omega)
              have hcp := run_copy_cells (P := Try.prog) w5 26 26 3 5 g (o + k * 40) ((k + 1) * 40 - k * 40) (c - k * 40) ⟨sbk, so, none⟩ 40 c2 (u8v d) Try.underlying26 (by kernel_rfl) (by rw [u8v_length, HD40.out, show (k + 1) * 40 - k * 40 = 40 by omega]; rfl) hsrc (fun j hj => hci j (by rw [u8v_length] at hj; exact hj)) (fun j hj => hcf j (by rw [u8v_length] at hj; exact hj)) (fun x hx => by obtain ⟨y, _, rfl⟩ := List.mem_map.1 hx; rfl)
              generalize hw6 : w5.setCells g (o + k * 40) (u8v d) = w6 at *
              have HS6 := Lib.hid hS6
              have HW6 := Lib.hid hw6
              clear hS6 hw6
              clear hci hcf hsrc hS5 hvr hxr
              go_wp2_with fail
              clear hcp
              have hSd := HS6.out.up (w' := w6.drew) (below_drewN (Below.refl _ _) 1)
              obtain ⟨rv6, css, hh6, hbl6, hrw6, hne6, hnx6⟩ := Go.Proofs.Sep.view_push hSd 4 7 (by decide) rfl rfl
              obtain ⟨FX, hFX, hdX⟩ := hSd.get 5 rfl
              have hx6 : w6.drew.cell? ⟨w.heap.size, 0, none⟩ = some (.int .i64 e.first) := by rw [cell_row hFX.2]; rfl
              have hv6 : w6.drew.cell? ⟨v, 4, none⟩ = some rv6 := by rw [cell_row hh6]; rfl
              obtain ⟨len, hlen⟩ : ∃ len, (R ++ readsV vs s t e.first k).length = len := ⟨_, rfl⟩
              have hRl := HRL.out
              rw [hlen] at hrw6 hnx6 hRl
              obtain ⟨p6, c6, rfl⟩ := ownsRow_shape hrw6
              have hba6 := below_alloc w6.drew (.cells #[.int .i64 (e.first + (k : Int)), .slice (some ⟨sbk, so, none⟩) 40 c2, .bool true] 64)
              have hx6a : (w6.alloc (.cells #[.int .i64 (e.first + (k : Int)), .slice (some ⟨sbk, so, none⟩) 40 c2, .bool true] 64)).cell? ⟨w.heap.size, 0, none⟩ = some (.int .i64 e.first) := cell_up hba6 hx6
              have hv6a : (w6.alloc (.cells #[.int .i64 (e.first + (k : Int)), .slice (some ⟨sbk, so, none⟩) 40 c2, .bool true] 64)).cell? ⟨v, 4, none⟩ = some (.slice p6 len c6) := cell_up hba6 hv6
              have hx6b : w6.cell? ⟨w.heap.size, 0, none⟩ = some (.int .i64 e.first) := hx6
              have hv6b : w6.cell? ⟨v, 4, none⟩ = some (.slice p6 len c6) := hv6
              have hr6a := ownsRow_up hrw6 hba6
              have hh6a := (hba6.block v hbl6).trans hh6
              have HLEN := Lib.hid hlen
              have HH6 := Lib.hid hh6
              have HRW6 := Lib.hid hrw6
              have HNX6 := Lib.hid hnx6
              have HBA6 := Lib.hid hba6
              have HR6A := Lib.hid hr6a
              have HH6A := Lib.hid hh6a
              clear hlen hh6 hrw6 hnx6 hba6 hr6a hh6a
              clear hFX hdX hSd hx0 hv1
              go_region_law ((
                refine step_append_lies _ (by rfl) _ _ _ (by rfl) 0 64 ir (.agg #[.int .i64 0, .slice none 0 0, .bool false]) 3 40 Try.underlying55 hr0 hr1 hr2 hr3 (by rfl) (by decide) _ len css.flatten (by rfl) HR6A.out ⟨w6.heap.size, 0, none⟩ 1 1 [.int .i64 (e.first + (k : Int)), .slice (some ⟨sbk, so, none⟩) 40 c2, .bool true] (by rfl) (by rfl) (World.news_of_block (cs := #[.int .i64 (e.first + (k : Int)), .slice (some ⟨sbk, so, none⟩) 40 c2, .bool true]) (heap_alloc_new w6.drew _)) (by simp [Value.oneCell']) (by decide) (by unfold maxLen; omega) (by omega) (Nat.zero_le _) (w6.heap.size + 1) (by simp) ?_
                intro g9 c9 w9 hown9 hgrow9 hat9 hlt9
                have hh9 := (hgrow9.block v (Nat.lt_of_lt_of_le hbl6 HBA6.out.size) (fun e => hne6 e.symm)).trans HH6A.out
                have hv9 : w9.cell? ⟨v, 4, none⟩ = some (.slice p6 len c6) := by rw [cell_row hh9]; rfl
                have hz9 : w9.frozen? ⟨v, 4, none⟩ = false := fz_row hh9 4))
              all_goals
                have hS10 := HNX6.out w9 g9 c9 (e.first + (k : Int)) true HI64.out hown9 hgrow9 hat9 hlt9
                rw [HMORE.out] at hS10
                have hS11 := hS10.take 7
                have HS11 := Lib.hid hS11
                clear hS11
                clear hS10 hown9 hgrow9 hat9 hlt9 hv9 hz9 hh9
                go_wp2_with fail
                go_roundw
                case rel => exact ⟨k + 1, by omega, by go_num, HS11.out⟩
                case measure => simp [intOf]; omega
            | none =>
              have hfg : f k = gf k := by rw [HFK.out, HGK.out]; unfold blkV; rw [hlk]; rfl
              have hmore := read_more vs s t e.first R k (d := gf k) (own := false) (by rw [← HFK.out, hfg]) (by rw [hlk]; rfl)
              have hget2 : Calls Try.prog 45 #[.pointer (some ⟨b, 0, none⟩), .int .i64 (e.first + (k : Int))] wr.drew fun r w' => ∃ p2 c2, r = .returned (.tuple #[.slice p2 0 c2, .bool false]) ∧ Hid (Below wr.heap.size wr w') := HGET.out.mono fun r w' hr => by
                rcases hr with ⟨_, p2, c2, h1, _, h3⟩ | ⟨d', v', h1, _⟩
                · exact ⟨p2, c2, h1, (below_drewN (Below.refl _ _) 1).trans h3⟩
                · rw [hlk] at h1; cases h1
              have HGET2 := Lib.hid hget2
              have HFG := Lib.hid hfg
              have HMORE := Lib.hid hmore
              have HLK := Lib.hid hlk
              clear hget2 hfg hmore hlk
              go_wp2_with fail
              go_region_held3 (fun W' => W'.cell? ⟨v, 1, none⟩ = some (.pointer (some ⟨b, 0, none⟩)) ∧ W'.cell? ⟨w.heap.size, 0, none⟩ = some (.int .i64 e.first))
                (first | exact ⟨hvr, hxr⟩ | go_keep | exact ⟨cell_up HB5.out hv1, cell_up HB5.out hx0⟩)
                ((go_at_call 45
                  refine (HGET2.out).mono ?_
                  rintro r w5 ⟨p2, c2, rfl, HB5⟩))
              have hS5 := HS.out.up HB5.out
              obtain ⟨bv, rv5, hbv, hbl5, hh5, p6, c6, hrv5⟩ := Go.Proofs.Sep.view_cells hS5 4 rfl
              cases hbv
              obtain ⟨len, hlen⟩ : ∃ len, (R ++ readsV vs s t e.first k).length = len := ⟨_, rfl⟩
              have hRl := HRL.out
              rw [hlen] at hrv5 hRl
              subst hrv5
              have hx5 : w5.cell? ⟨w.heap.size, 0, none⟩ = some (.int .i64 e.first) := cell_up HB5.out hx0
              have hv5 : w5.cell? ⟨v, 4, none⟩ = some (.slice p6 len c6) := by rw [cell_row hh5]; rfl
              obtain ⟨FO, hFO, _⟩ := hS5.get 6 rfl
              have hsub := bytesW_sub hFO (i := k * 40) (r := gf k) (by rw [HML.out, HG4.out]; omega) (fun j hj => by
                have := HROW.out j (by rw [HG4.out] at hj; exact hj)
                rw [show 40 * k + j = k * 40 + j by omega] at this
                exact this)
              rw [HG4.out k, show (40 : Nat) = (k + 1) * 40 - k * 40 by omega] at hsub
              rw [show k * ((k + 1) * 40 - k * 40) = k * 40 by rw [show (k + 1) * 40 - k * 40 = 40 by omega]] at hsub
              have hcl : Calls Try.prog 46 #[.slice (some ⟨g, o + k * 40, none⟩) ((k + 1) * 40 - k * 40) (c - k * 40)] w5.drew fun r w' => ∃ p7 c7, r = .returned (.slice p7 40 c7) ∧ Hid (BytesAt (New w5 w') w' (.slice p7 40 c7) (gf k)) ∧ Hid (Below w5.heap.size w5 w') := (clone_any FO _ (gf k) w5.drew (BytesAt.up hsub (below_drewN (Below.refl _ _) 1)) (by rw [HG4.out]; omega)).mono fun r w' hr => by
                obtain ⟨v7, h1, h2, h3⟩ := hr
                obtain ⟨p7, c7, rfl⟩ := shape_of h2 (HG4.out k)
                exact ⟨p7, c7, h1, h2, (below_drewN (Below.refl _ _) 1).trans h3⟩
              obtain ⟨F4, F5, ⟨bv4, rv4, D4, hbv4, hfb4, hh4, _, ho4, _⟩, hF5, h45, _, _⟩ := hS5.two 4 5 (by decide) rfl rfl
              cases hbv4
              obtain rfl : rv4 = .slice p6 len c6 := by
                have := hh4.symm.trans hh5
                simpa using this
              have hbv : w.heap.size ≠ v := fun e => h45 v hfb4 (e ▸ hF5.1)
              have hnb : (Value.slice p6 len c6).ownBlock ≠ some w.heap.size := fun e => h45 _ (ho4 _ e).1 hF5.1
              have HBV := Lib.hid hbv
              have HNB := Lib.hid hnb
              clear hbv hnb
              clear ho4 h45 hF5 hfb4 hh4
              have HH5 := Lib.hid hh5
              have HS5 := Lib.hid hS5
              have HCL := Lib.hid hcl
              have HLEN := Lib.hid hlen
              clear hS5 hcl hlen
              clear hh5 hFO hsub hvr hxr hx0 hv1
              go_wp2_with fail
              go_region_law ((first
                | (go_simp
                   go_at_call 46
                   refine (HCL.out).mono ?_
                   rintro r w7 ⟨p7, c7, rfl, HD7, HB7⟩
                   have hS7 := HS5.out.new HB7.out (DatumA (.slice p7 40 c7) (gf k)) (F := New w5 w7) (fun _ h => h) HD7.out
                   obtain ⟨rv7, css, hh7, hbl7, hrw7, hne7, hnx7⟩ := Go.Proofs.Sep.view_push hS7 4 7 (by decide) rfl rfl
                   have hee := hh7.symm.trans ((HB7.out.block v hbl5).trans HH5.out)
                   obtain rfl : rv7 = .slice p6 len c6 := by simpa using hee
                   rw [HLEN.out] at hrw7 hnx7
                   have hba7 := below_alloc w7 (.cells #[.int .i64 (e.first + (k : Int)), .slice p7 40 c7, .bool false] 64)
                   have hv7 : w7.cell? ⟨v, 4, none⟩ = some (.slice p6 len c6) := by rw [cell_row hh7]; rfl
                   have hx7 : w7.cell? ⟨w.heap.size, 0, none⟩ = some (.int .i64 e.first) := cell_up HB7.out hx5
                   have hv7a := cell_up hba7 hv7
                   have hx7a := cell_up hba7 hx7
                   have hr7a := ownsRow_up hrw7 hba7
                   have hh7a := (hba7.block v hbl7).trans hh7
                   have hbx7 : w.heap.size < w7.heap.size := World.block_lt_of_cell? _ _ hx7
                   have hnb7 : (Value.slice p6 len c6).ownBlock ≠ some w.heap.size := HNB.out
                   have HNX7 := Lib.hid hnx7
                   have HBA7 := Lib.hid hba7
                   have HR7A := Lib.hid hr7a
                   have HH7A := Lib.hid hh7a
                   clear hS7 hee hh7 hrw7 hnx7 hba7 hr7a hh7a)
                | (refine step_append_lies _ (by rfl) _ _ _ (by rfl) 0 64 ir (.agg #[.int .i64 0, .slice none 0 0, .bool false]) 3 40 Try.underlying55 hr0 hr1 hr2 hr3 (by rfl) (by decide) _ len css.flatten (by rfl) HR7A.out ⟨w7.heap.size, 0, none⟩ 1 1 [.int .i64 (e.first + (k : Int)), .slice p7 40 c7, .bool false] (by rfl) (by rfl) (World.news_of_block (cs := #[.int .i64 (e.first + (k : Int)), .slice p7 40 c7, .bool false]) (heap_alloc_new w7 _)) (by simp [Value.oneCell']) (by decide) (by unfold maxLen; omega) (by omega) (Nat.zero_le _) (w7.heap.size + 1) (by simp) ?_
                   intro g9 c9 w9 hown9 hgrow9 hat9 hlt9
                   have hh9 := (hgrow9.block v (Nat.lt_of_lt_of_le hbl7 HBA7.out.size) (fun e => hne7 e.symm)).trans HH7A.out
                   have hv9 : w9.cell? ⟨v, 4, none⟩ = some (.slice p6 len c6) := by rw [cell_row hh9]; rfl
                   have hz9 : w9.frozen? ⟨v, 4, none⟩ = false := fz_row hh9 4
                   have hx9 : w9.cell? ⟨w.heap.size, 0, none⟩ = some (.int .i64 e.first) := (World.cell?_of_block (hgrow9.block w.heap.size (Nat.lt_of_lt_of_le hbx7 HBA7.out.size) (fun e => hnb7 e.symm))).trans hx7a)))
              all_goals
                have hS10 := HNX7.out w9 g9 c9 (e.first + (k : Int)) false HI64.out hown9 hgrow9 hat9 hlt9
                rw [HMORE.out, HSAM.out HFG.out] at hS10
                have hS11 := hS10.take 7
                have HS11 := Lib.hid hS11
                clear hS11
                clear hS10 hown9 hgrow9 hat9 hlt9 hv9 hz9 hh9
                go_wp2_with fail
                go_roundw
                case rel => exact ⟨k + 1, by omega, by go_num, HS11.out⟩
                case measure => simp [intOf]; omega
end Go.Proofs

/- RsetPlays, plain: the reference's Map and View beside the program's. -/
namespace Go.Proofs
open Go.RowKit Sc
theorem add_radd64 {S : List Ext} (e : Ext) : addCode 64 S [e] = radd 64 S [e] := by
  unfold addCode radd
  cases hq : allB [e] with
  | false => rfl
  | true =>
    simp only [Bool.true_eq_false, if_false]
    rw [if_neg (show ¬ [e] = [] from by simp), show max (64 : Int) 0 = 64 from by decide]
theorem addNext_radd64 {S : List Ext} (e : Ext) : addNext 64 S [e] = raddNext 64 S [e] := by
  unfold addNext raddNext
  rw [add_radd64]
theorem within_may {blocks : Int} (hb : blocks ≤ 1048576) (e : Ext) : withinB blocks e.first e.len = (mayB e && decide (e.first + e.len ≤ blocks)) := by
  rw [Bool.eq_iff_iff]
  unfold withinB
  simp only [Bool.and_eq_true, decide_eq_true_eq, mayB_iff]
  omega
/-- One list of versions tells what the lists by block tell. -/
structure MapR (vs : Vers) (L : List RVer) : Prop where
  asc : AscV L
  look : ∀ k, (alook vs k).getD [] = grp L k
theorem MapR.start : MapR [] [] := ⟨List.Pairwise.nil, fun _ => rfl⟩
theorem putG_one {t : Int} : ∀ {ps : List Put} {p : Put}, (ps.map (·.lba)).Nodup → p ∈ ps → putG t ps p.lba = [⟨t, p.data⟩]
  | [], _, _, h => by cases h
  | q :: ps, p, hn, h => by
    rw [List.map_cons, List.nodup_cons] at hn
    rcases List.mem_cons.1 h with rfl | hp
    · have e : putG t (p :: ps) p.lba = putG t [p] p.lba ++ putG t ps p.lba := putG_append t [p] ps p.lba
      rw [e, putG_none fun r hr e => hn.1 (List.mem_map.2 ⟨r, hr, e⟩)]
      unfold putG; simp
    · have e : putG t (q :: ps) p.lba = putG t [q] p.lba ++ putG t ps p.lba := putG_append t [q] ps p.lba
      rw [e, putG_one hn.2 hp, putG_none fun r hr e2 => hn.1 (List.mem_map.2 ⟨p, hp, by rw [← e2, List.mem_singleton.1 hr]⟩)]
      rfl
theorem MapR.next {blocks last : Int} {vs : Vers} {L : List RVer} (h : MapR vs L) (t : Tx) : MapR (applyNext blocks last vs t) (if applyCode blocks last t = 0 then mergeV t.time t.puts L else L) := by
  unfold applyNext
  split
  · rename_i hc
    have hr := riseB_pairwise (code_zero hc).2.2.1
    have hn := pairwise_nodup hr
    refine ⟨asc_merge _ L t.puts h.asc hr, fun k => ?_⟩
    rw [grp_merge _ k L t.puts h.asc hr, ← h.look k]
    by_cases hk : ∃ p ∈ t.puts, p.lba = k
    · obtain ⟨p, hp, rfl⟩ := hk
      rw [applyVs_mine _ _ _ p hn hp, putG_one hn hp]; rfl
    · have hno : ∀ p ∈ t.puts, p.lba ≠ k := fun p hp e => hk ⟨p, hp, e⟩
      rw [applyVs_other _ _ _ k hno, putG_none hno, List.append_nil]
  · exact h
theorem MapR.get {vs : Vers} {L : List RVer} (h : MapR vs L) (k t : Int) : getR L k t = getV vs k t := getR_get h.look k t
theorem next_len {blocks last : Int} {L : List RVer} (t : Tx) : (if applyCode blocks last t = 0 then mergeV t.time t.puts L else L).length ≤ L.length + t.puts.length := by
  split
  · rw [merge_len]; exact Nat.le_refl _
  · omega
/-- What the reference's read gives, block by block. -/
theorem blk_ref {vs : Vers} {L : List RVer} {s : List (Int × Bytes)} {rb : List Put} (hm : MapR vs L) (hb : BufR s rb) (t k : Int) : blkV vs s t k = (lookP rb k).getD (getR L k t).1 := by
  unfold blkV
  rw [hm.get, hb.look]
theorem own_ref {s : List (Int × Bytes)} {rb : List Put} (hb : BufR s rb) (k : Int) : (alook s k).isSome = (lookP rb k).isSome := by rw [hb.look]
end Go.Proofs

/- The reference's View in memory; Map.in. -/
namespace Go.Proofs
open Go.RowKit Sc
def RViewV (F : Nat → Prop) (w : World) (z : Nat) (xv yv : Value) (t : Int) (S : List Ext) (R : List Sc.Read) (rv : Value) : Prop :=
  ∃ sv D, F z ∧ w.heap[z]? = some (.cells #[xv, yv, .int .i64 t, .int .i64 64, sv, rv] 74 (0, 0)) ∧ ExtsAt (fun q => F q ∧ q ≠ z ∧ rv.ownBlock ≠ some q) w sv S ∧ OutS 64 3 readR 0 w rv R D ∧ (∀ g, rv.ownBlock = some g → F g ∧ g ≠ z) ∧ ∀ q, D q → F q ∧ q ≠ z
def RViewIs (F : Nat → Prop) (w : World) (z : Nat) (xv yv : Value) (t : Int) (S : List Ext) (R : List Sc.Read) : Prop := ∃ rv, RViewV F w z xv yv t S R rv
theorem RViewV.same {F : Nat → Prop} {w w' : World} {z : Nat} {xv yv : Value} {t : Int} {S : List Ext} {R : List Sc.Read} {rv : Value} (h : RViewV F w z xv yv t S R rv) (hs : Same F w w') (hz : w.heap.size ≤ w'.heap.size) : RViewV F w' z xv yv t S R rv :=
  let ⟨sv, D, h1, h2, h3, h4, h5, h6⟩ := h
  ⟨sv, D, h1, (hs z h1).trans h2, h3.same (fun q hq => hs q hq.1), h4.same readR_stable hs hz (fun g hg => (h5 g hg).1) (fun q hq => (h6 q hq).1), h5, h6⟩
theorem RViewV.mono {F F' : Nat → Prop} {w : World} {z : Nat} {xv yv : Value} {t : Int} {S : List Ext} {R : List Sc.Read} {rv : Value} (h : RViewV F w z xv yv t S R rv) (hF : ∀ k, F k → F' k) : RViewV F' w z xv yv t S R rv :=
  let ⟨sv, D, h1, h2, h3, h4, h5, h6⟩ := h
  ⟨sv, D, hF _ h1, h2, SlAt.mono h3 (fun q hq => ⟨hF q hq.1, hq.2⟩) (fun _ _ _ h => h), h4, fun g hg => ⟨hF g (h5 g hg).1, (h5 g hg).2⟩, fun q hq => ⟨hF q (h6 q hq).1, (h6 q hq).2⟩⟩
def RViewA (z : Nat) (xv yv : Value) (t : Int) (S : List Ext) (R : List Sc.Read) : Asn := ⟨fun F w => RViewIs F w z xv yv t S R, fun _ _ _ hs hz ⟨rv, h⟩ => ⟨rv, h.same hs hz⟩⟩
theorem rv_cells {F : Nat → Prop} {w : World} {z : Nat} {xv yv : Value} {t : Int} {S : List Ext} {R : List Sc.Read} {rv : Value} (h : RViewV F w z xv yv t S R rv) : w.cell? ⟨z, 0, none⟩ = some xv ∧ w.cell? ⟨z, 1, none⟩ = some yv ∧ w.cell? ⟨z, 2, none⟩ = some (.int .i64 t) ∧ w.cell? ⟨z, 5, none⟩ = some rv ∧ (∃ sv, w.cell? ⟨z, 4, none⟩ = some sv) := by
  obtain ⟨sv, _, _, h, _⟩ := h
  exact ⟨by rw [cell_row h]; rfl, by rw [cell_row h]; rfl, by rw [cell_row h]; rfl, by rw [cell_row h]; rfl, sv, by rw [cell_row h]; rfl⟩
/-- What Add wrote is laid in the View. -/
theorem rv_set {F : Nat → Prop} {w wr : World} {z : Nat} {xv yv : Value} {t : Int} {S S' : List Ext} {R : List Sc.Read} {rv : Value} (h : RViewV F w z xv yv t S R rv) (hd : Dom F w) (hb : Below w.heap.size w wr) {po : Option Addr} {co : Nat} (hx : ExtsAt (New w wr) wr (.slice po S'.length co) S') :
    Chg F w (wr.setCell ⟨z, 4, none⟩ (.slice po S'.length co)) ∧ RViewV (fun q => F q ∨ New w (wr.setCell ⟨z, 4, none⟩ (.slice po S'.length co)) q) (wr.setCell ⟨z, 4, none⟩ (.slice po S'.length co)) z xv yv t S' R rv := by
  obtain ⟨sv, D, h1, h2, h3, h4, h5, h6⟩ := h
  have hzl := hd z h1
  have hz : (wr.setCell ⟨z, 4, none⟩ (.slice po S'.length co)).heap.size = wr.heap.size := by simp [World.setCell]
  have hs : Same (fun q => q ≠ z) wr (wr.setCell ⟨z, 4, none⟩ (.slice po S'.length co)) := fun q hq => Below.heap_setCell _ _ _ q hq
  have hhr := (hb.block z hzl).trans h2
  refine ⟨(Chg.of_below hb fun k q1 q2 => by omega).trans (chg_set wr z 4 _ h1), .slice po S'.length co, D, .inl h1, by rw [heap_set_same hhr]; rfl, ?_, ?_, fun g hg => ⟨.inl (h5 g hg).1, (h5 g hg).2⟩, fun q hq => ⟨.inl (h6 q hq).1, (h6 q hq).2⟩⟩
  · refine SlAt.mono (ExtsAt.same hx fun q hq => hs q (by have := hq.1; omega)) (fun q hq => ⟨.inr ⟨hq.1, by rw [hz]; exact hq.2⟩, by have := hq.1; omega, fun e => ?_⟩) (fun _ _ _ h => h)
    have := hd q (h5 q e).1
    have := hq.1; omega
  · exact (h4.up readR_stable hb).same readR_stable hs (by rw [hz]; exact Nat.le_refl _) (fun g hg => (h5 g hg).2) (fun q hq => (h6 q hq).2)
set_option maxRecDepth 100000 in
/-- One read more. -/
theorem rv_push {F : Nat → Prop} {W : World} {z : Nat} {xv yv : Value} {t : Int} {S : List Ext} {R : List Sc.Read} {rv : Value} (h : RViewV F W z xv yv t S R rv) (hd : Dom F W) {D3 : Nat → Prop} {cs : List Value} {x : Sc.Read} (hcs : cs.length = 3) (hx : readR D3 W cs x) (h3 : ∀ b, D3 b → F b ∧ b ≠ z ∧ rv.ownBlock ≠ some b)
    (ad : Addr) (c : Nat) (hc : ∀ j u, cs[j]? = some u → W.cell? (ad.add j) = some u) (h1 : ∀ u ∈ cs, u.oneCell' = true) (hn : R.length ≤ 1000000) :
    ∃ g cap w', (Builtin.append_ #[55, 55] 55 #[rv, .slice (some ad) 1 c]).run Try.prog W = .ok (.slice (some ⟨g, 0, none⟩) (R.length + 1) cap) w' ∧ w'.cell? ⟨z, 5, none⟩ = some rv ∧ w'.frozen? ⟨z, 5, none⟩ = false ∧ (∀ q, q < W.heap.size → rv.ownBlock ≠ some q → w'.heap[q]? = W.heap[q]?) ∧
      Hid (Chg F W (w'.setCell ⟨z, 5, none⟩ (.slice (some ⟨g, 0, none⟩) (R.length + 1) cap))) ∧ Hid (RViewV (fun q => F q ∨ New W (w'.setCell ⟨z, 5, none⟩ (.slice (some ⟨g, 0, none⟩) (R.length + 1) cap)) q) (w'.setCell ⟨z, 5, none⟩ (.slice (some ⟨g, 0, none⟩) (R.length + 1) cap)) z xv yv t S (R ++ [x]) (.slice (some ⟨g, 0, none⟩) (R.length + 1) cap)) := by
  obtain ⟨i0, hi, hz0, hz1, hz2⟩ := info_parts infoRead
  obtain ⟨sv, D, q1, q2, q3, ⟨css, p1, p2, p3, p4, p5⟩, q5, q6⟩ := h
  obtain ⟨v', w', hr, ho, hg, hne, hat⟩ := run_append_own_at (P := Try.prog) W 0 55 55 64 i0 (.agg #[.int .i64 0, .slice none 0 0, .bool false]) 3 40 Try.underlying55 hi hz0 hz1 hz2 rfl (by decide) rv R.length css.flatten p3 ad 1 c cs (by rw [hcs]) hc h1 (by unfold maxLen; omega) (by omega) (Nat.zero_le _)
  obtain ⟨_, ⟨rfl, h0⟩ | ⟨g, cap, cur, rfl, hrest⟩⟩ := ho
  · exact absurd h0 (by omega)
  have hat' : rv.ownBlock = some g ∨ g = W.heap.size := by
    rcases hat with e | e
    · exact .inl e.symm
    · exact .inr (by simpa [Value.ownBlock] using e)
  have hzl := hd z q1
  have hgz : g ≠ z := by
    rcases hat' with e | e
    · exact (q5 g e).2
    · omega
  have hro : rv.ownBlock ≠ some z := fun e => (q5 z e).2 rfl
  have hown : w'.ownsRow 0 64 3 (.slice (some ⟨g, 0, none⟩) (R.length + 1) cap) (R.length + 1) (css.flatten ++ cs) := ⟨by assumption, .inr ⟨g, cap, cur, rfl, hrest⟩⟩
  have hlt := (hown.lt g rfl).2
  have hsn := OutS.snoc (l := R) (x := x) readR_stable p1 p2 p4 p5 hcs hx (fun b hb => ⟨Nat.zero_le _, hd b (h3 b hb).1, (h3 b hb).2.2⟩) hown hg hat'
  have hh' : w'.heap[z]? = _ := (hg.block z hzl (fun e => hro e.symm)).trans q2
  have hz : (w'.setCell ⟨z, 5, none⟩ (.slice (some ⟨g, 0, none⟩) (R.length + 1) cap)).heap.size = w'.heap.size := by simp [World.setCell]
  have hs : Same (fun q => q ≠ z) w' (w'.setCell ⟨z, 5, none⟩ (.slice (some ⟨g, 0, none⟩) (R.length + 1) cap)) := fun q hq => Below.heap_setCell _ _ _ q hq
  have hgF : F g ∨ New W (w'.setCell ⟨z, 5, none⟩ (.slice (some ⟨g, 0, none⟩) (R.length + 1) cap)) g := by
    rcases hat' with e | e
    · exact .inl (q5 g e).1
    · exact .inr ⟨by omega, by rw [hz]; exact hlt⟩
  have hll : (R ++ [x]).length = R.length + 1 := by simp
  refine ⟨g, cap, w', hr, by rw [cell_row hh']; rfl, fz_row hh' 5, fun q hq hqo => hg.block q hq (fun e => hqo e.symm), (chg_grown hg fun k hk => (q5 k hk).1).trans (chg_set w' z 5 _ q1), sv, fun b => D b ∨ D3 b, .inl q1, by rw [heap_set_same hh']; rfl, ?_, ?_, ?_, ?_⟩
  · refine SlAt.mono (ExtsAt.same q3 (w' := w'.setCell ⟨z, 5, none⟩ (.slice (some ⟨g, 0, none⟩) (R.length + 1) cap)) fun q hq => (hs q hq.2.1).trans (hg.block q (hd q hq.1) (fun e => hq.2.2 e.symm))) (fun q hq => ⟨.inl hq.1, hq.2.1, fun e => ?_⟩) (fun _ _ _ h => h)
    have e' : g = q := by simpa [Value.ownBlock] using e
    subst e'
    rcases hat' with e | e
    · exact hq.2.2 e
    · have := hd g hq.1; omega
  · have := hsn.same (F := fun q => q ≠ z) readR_stable hs (by rw [hz]; exact Nat.le_refl _) (fun q hq => by
      obtain rfl : g = q := by simpa [Value.ownBlock] using hq
      exact hgz) (fun q hq => hq.elim (fun h => (q6 q h).2) fun h => (h3 q h).2.1)
    rw [← hll] at this ⊢
    exact this
  · intro q hq
    obtain rfl : g = q := by simpa [Value.ownBlock] using hq
    exact ⟨hgF, hgz⟩
  · rintro q (hq | hq)
    · exact ⟨.inl (q6 q hq).1, (q6 q hq).2⟩
    · exact ⟨.inl (h3 q hq).1, (h3 q hq).2.1⟩
set_option maxRecDepth 100000 in
set_option maxHeartbeats 2000000 in
theorem refIn_any (G : Nat → Prop) (v : Value) (blocks last : Int) (L : List RVer) (e : Ext) (w : World) (hm : RMapIs G w v blocks last L) (hbl : blocks ≤ 1048576) (i1 : I64 e.first) (i2 : I64 e.len) :
    Calls Try.prog 59 #[v, .agg #[.int .i64 e.first, .int .i64 e.len]] w fun r w' => r = .returned (.bool (withinB blocks e.first e.len)) ∧ Hid (Below w.heap.size w w') := by
  obtain ⟨b, lv, D, rfl, hFb, hh, _⟩ := hm
  have hba := below_alloc w (.cells #[.int .i64 e.first, .int .i64 e.len] 39)
  have hnw := heap_alloc_new w (.cells #[.int .i64 e.first, .int .i64 e.len] 39 (0, 0))
  have z0 : (w.alloc (.cells #[.int .i64 e.first, .int .i64 e.len] 39 (0, 0))).cell? ⟨w.heap.size, 0, none⟩ = some (.int .i64 e.first) := by rw [cell_row hnw]; rfl
  have z1 : (w.alloc (.cells #[.int .i64 e.first, .int .i64 e.len] 39 (0, 0))).cell? ⟨w.heap.size, 1, none⟩ = some (.int .i64 e.len) := by rw [cell_row hnw]; rfl
  have c0 := cell_up hba (show w.cell? ⟨b, 0, none⟩ = some (.int .i64 blocks) by rw [cell_row hh]; rfl)
  have HBA := Lib.hid hba
  have hwm := within_may hbl e
  have hii := mayB_iff (e := e)
  have HWM := Lib.hid hwm
  have HII := Lib.hid hii
  clear hba hnw hh hwm hii
  go_enter Try.func59, Try.ntmps59
  go_wp2_with fail
  generalize hW0 : w.alloc (.cells #[.int .i64 e.first, .int .i64 e.len] 39 (0, 0)) = W0 at *
  have hd0 : Below W0.heap.size W0 W0.drew := below_drewN (Below.refl _ _) 1
  cases hq : mayB e with
  | false =>
    refine wp_regionG (fun W => Below W0.heap.size W0 W) (n := 15) (by kernel_rfl) (by kernel_rfl) ?_
    refine wpG.take 0 (v := ?_) (a' := ?_) rfl (by kernel_rfl) (by kernel_rfl) (by kernel_rfl) (by kernel_rfl) (fun _ _ _ h => h) ?_ ?_ ?_
    rotate_left 2
    · intro W hW
      have hld0 := cell_up hW z0
      have hld1 := cell_up hW z1
      go_simp
      try with_reducible rfl
    · go_simp
      try with_reducible rfl
    refine wpG.alone 1 rfl (by kernel_rfl) (by kernel_rfl) (hd0) (fun K hK => ?_)
    go_simp
    go_at_call 74
    refine (refMayE_any e W0.drew i1 i2).mono ?_
    rintro r w2 ⟨rfl, hb2⟩
    have hb3 := Below.up hd0 hb2
    rw [hq]
    try go_simp
    refine hK _ _ ?_
    clear hK K
    refine wpG.take 2 (v := ?_) (a' := ?_) rfl (by kernel_rfl) (by kernel_rfl) (by kernel_rfl) (by kernel_rfl) (fun _ _ _ h => h) ?_ ?_ ?_
    rotate_left 2
    · intro W hW
      go_simp
      try with_reducible rfl
    · go_simp
      try with_reducible rfl
    refine wpG.skip 3 (a' := ?_) rfl (by kernel_rfl) (by kernel_rfl) (by kernel_rfl) (by kernel_rfl) (fun _ _ _ h => h) ?_ ?_
    rotate_left 1
    · go_simp
      try with_reducible rfl
    refine wpG.skip 4 (a' := ?_) rfl (by kernel_rfl) (by kernel_rfl) (by kernel_rfl) (by kernel_rfl) (fun _ _ _ h => h) ?_ ?_
    rotate_left 1
    · go_simp
      try with_reducible rfl
    refine wpG.skip 5 (a' := ?_) rfl (by kernel_rfl) (by kernel_rfl) (by kernel_rfl) (by kernel_rfl) (fun _ _ _ h => h) ?_ ?_
    rotate_left 1
    · go_simp
      try with_reducible rfl
    refine wpG.skip 6 (a' := ?_) rfl (by kernel_rfl) (by kernel_rfl) (by kernel_rfl) (by kernel_rfl) (fun _ _ _ h => h) ?_ ?_
    rotate_left 1
    · go_simp
      try with_reducible rfl
    refine wpG.skip 7 (a' := ?_) rfl (by kernel_rfl) (by kernel_rfl) (by kernel_rfl) (by kernel_rfl) (fun _ _ _ h => h) ?_ ?_
    rotate_left 1
    · go_simp
      try with_reducible rfl
    refine wpG.skip 8 (a' := ?_) rfl (by kernel_rfl) (by kernel_rfl) (by kernel_rfl) (by kernel_rfl) (fun _ _ _ h => h) ?_ ?_
    rotate_left 1
    · go_simp
      try with_reducible rfl
    refine wpG.skip 9 (a' := ?_) rfl (by kernel_rfl) (by kernel_rfl) (by kernel_rfl) (by kernel_rfl) (fun _ _ _ h => h) ?_ ?_
    rotate_left 1
    · go_simp
      try with_reducible rfl
    refine wpG.skip 10 (a' := ?_) rfl (by kernel_rfl) (by kernel_rfl) (by kernel_rfl) (by kernel_rfl) (fun _ _ _ h => h) ?_ ?_
    rotate_left 1
    · go_simp
      try with_reducible rfl
    refine wpG.skip 11 (a' := ?_) rfl (by kernel_rfl) (by kernel_rfl) (by kernel_rfl) (by kernel_rfl) (fun _ _ _ h => h) ?_ ?_
    rotate_left 1
    · go_simp
      try with_reducible rfl
    refine wpG.skip 12 (a' := ?_) rfl (by kernel_rfl) (by kernel_rfl) (by kernel_rfl) (by kernel_rfl) (fun _ _ _ h => h) ?_ ?_
    rotate_left 1
    · go_simp
      try with_reducible rfl
    refine wpG.take 13 (v := ?_) (a' := ?_) rfl (by kernel_rfl) (by kernel_rfl) (by kernel_rfl) (by kernel_rfl) (fun _ _ _ h => h) ?_ ?_ ?_
    rotate_left 2
    · intro W hW
      go_simp
      try with_reducible rfl
    · go_simp
      try with_reducible rfl
    refine wpG.take 14 (v := ?_) (a' := ?_) rfl (by kernel_rfl) (by kernel_rfl) (by kernel_rfl) (by kernel_rfl) (fun _ _ _ h => h) ?_ ?_ ?_
    rotate_left 2
    · intro W hW
      go_simp
      try with_reducible rfl
    · go_simp
      try with_reducible rfl
    refine wpG.done (by kernel_rfl) hb3 ?_
    go_wp2_with fail
    go_ret
    refine ⟨?_, Below.up HBA.out hb3⟩
    rw [HWM.out, hq]; rfl
  | true =>
    obtain ⟨a1, a2, a3, a4, a5⟩ := HII.out.1 hq
    have hw1 : IntKind.i64.wrap (e.first + e.len) = e.first + e.len := IntWalk.i64_in _ (by omega)
    refine wp_regionG (fun W => Below W0.heap.size W0 W) (n := 15) (by kernel_rfl) (by kernel_rfl) ?_
    refine wpG.take 0 (v := ?_) (a' := ?_) rfl (by kernel_rfl) (by kernel_rfl) (by kernel_rfl) (by kernel_rfl) (fun _ _ _ h => h) ?_ ?_ ?_
    rotate_left 2
    · intro W hW
      have hld0 := cell_up hW z0
      have hld1 := cell_up hW z1
      go_simp
      try with_reducible rfl
    · go_simp
      try with_reducible rfl
    refine wpG.alone 1 rfl (by kernel_rfl) (by kernel_rfl) (hd0) (fun K hK => ?_)
    go_simp
    go_at_call 74
    refine (refMayE_any e W0.drew i1 i2).mono ?_
    rintro r w2 ⟨rfl, hb2⟩
    have hb3 := Below.up hd0 hb2
    rw [hq]
    try go_simp
    refine hK _ _ ?_
    clear hK K
    refine wpG.take 2 (v := ?_) (a' := ?_) rfl (by kernel_rfl) (by kernel_rfl) (by kernel_rfl) (by kernel_rfl) (fun _ _ _ h => h) ?_ ?_ ?_
    rotate_left 2
    · intro W hW
      go_simp
      try with_reducible rfl
    · go_simp
      try with_reducible rfl
    refine wpG.take 3 (v := ?_) (a' := ?_) rfl (by kernel_rfl) (by kernel_rfl) (by kernel_rfl) (by kernel_rfl) (fun _ _ _ h => h) ?_ ?_ ?_
    rotate_left 2
    · intro W hW
      go_simp
      try with_reducible rfl
    · go_simp
      try with_reducible rfl
    refine wpG.take 4 (v := ?_) (a' := ?_) rfl (by kernel_rfl) (by kernel_rfl) (by kernel_rfl) (by kernel_rfl) (fun _ _ _ h => h) ?_ ?_ ?_
    rotate_left 2
    · intro W hW
      have hld0 := cell_up hW z0
      go_simp
      try with_reducible rfl
    · go_simp
      try with_reducible rfl
    refine wpG.take 5 (v := ?_) (a' := ?_) rfl (by kernel_rfl) (by kernel_rfl) (by kernel_rfl) (by kernel_rfl) (fun _ _ _ h => h) ?_ ?_ ?_
    rotate_left 2
    · intro W hW
      go_simp
      try with_reducible rfl
    · go_simp
      try with_reducible rfl
    refine wpG.take 6 (v := ?_) (a' := ?_) rfl (by kernel_rfl) (by kernel_rfl) (by kernel_rfl) (by kernel_rfl) (fun _ _ _ h => h) ?_ ?_ ?_
    rotate_left 2
    · intro W hW
      have hld0 := cell_up hW z1
      go_simp
      try with_reducible rfl
    · go_simp
      try with_reducible rfl
    refine wpG.take 7 (v := ?_) (a' := ?_) rfl (by kernel_rfl) (by kernel_rfl) (by kernel_rfl) (by kernel_rfl) (fun _ _ _ h => h) ?_ ?_ ?_
    rotate_left 2
    · intro W hW
      go_simp
      try with_reducible rfl
    · go_simp
      try with_reducible rfl
    refine wpG.take 8 (v := ?_) (a' := ?_) rfl (by kernel_rfl) (by kernel_rfl) (by kernel_rfl) (by kernel_rfl) (fun _ _ _ h => h) ?_ ?_ ?_
    rotate_left 2
    · intro W hW
      go_simp
      try with_reducible rfl
    · go_simp
      try with_reducible rfl
    refine wpG.take 9 (v := ?_) (a' := ?_) rfl (by kernel_rfl) (by kernel_rfl) (by kernel_rfl) (by kernel_rfl) (fun _ _ _ h => h) ?_ ?_ ?_
    rotate_left 2
    · intro W hW
      go_simp
      try with_reducible rfl
    · go_simp
      try with_reducible rfl
    refine wpG.take 10 (v := ?_) (a' := ?_) rfl (by kernel_rfl) (by kernel_rfl) (by kernel_rfl) (by kernel_rfl) (fun _ _ _ h => h) ?_ ?_ ?_
    rotate_left 2
    · intro W hW
      go_simp
      try with_reducible rfl
    · go_simp
      try with_reducible rfl
    refine wpG.take 11 (v := ?_) (a' := ?_) rfl (by kernel_rfl) (by kernel_rfl) (by kernel_rfl) (by kernel_rfl) (fun _ _ _ h => h) ?_ ?_ ?_
    rotate_left 2
    · intro W hW
      have hld0 := cell_up hW c0
      go_simp
      try with_reducible rfl
    · go_simp
      try with_reducible rfl
    refine wpG.take 12 (v := ?_) (a' := ?_) rfl (by kernel_rfl) (by kernel_rfl) (by kernel_rfl) (by kernel_rfl) (fun _ _ _ h => h) ?_ ?_ ?_
    rotate_left 2
    · intro W hW
      go_simp
      try with_reducible rfl
    · go_simp
      try with_reducible rfl
    refine wpG.take 13 (v := ?_) (a' := ?_) rfl (by kernel_rfl) (by kernel_rfl) (by kernel_rfl) (by kernel_rfl) (fun _ _ _ h => h) ?_ ?_ ?_
    rotate_left 2
    · intro W hW
      go_simp
      try with_reducible rfl
    · go_simp
      try with_reducible rfl
    refine wpG.take 14 (v := ?_) (a' := ?_) rfl (by kernel_rfl) (by kernel_rfl) (by kernel_rfl) (by kernel_rfl) (fun _ _ _ h => h) ?_ ?_ ?_
    rotate_left 2
    · intro W hW
      go_simp
      try with_reducible rfl
    · go_simp
      try with_reducible rfl
    refine wpG.done (by kernel_rfl) hb3 ?_
    go_wp2_with fail
    go_ret
    refine ⟨?_, Below.up HBA.out hb3⟩
    rw [HWM.out, hq]; rfl
end Go.Proofs

/- The reference's View: what its read holds while it goes on. -/
namespace Go.Proofs
open Go.RowKit Sc
def u8L (bs : Bytes) : List Value := bs.map fun x => .int .u8 (x.toNat : Int)
def VR (F : Nat → Prop) (w0 : World) (N : Nat) (wr : World) (z : Nat) (xv yv : Value) (t : Int) (S : List Ext) (R : List Sc.Read) (rv ov : Value) (bs : Bytes) : Prop :=
  ∃ Fv : Nat → Prop, Chg F w0 wr ∧ RViewV Fv wr z xv yv t S R rv ∧ N ≤ wr.heap.size ∧ (∀ q, Fv q → (F q ∨ w0.heap.size ≤ q) ∧ q < N) ∧ wr.ownsRow w0.heap.size 5 1 ov bs.length (u8L bs) ∧ ∀ g, ov.ownBlock = some g → ¬ Fv g ∧ g < N
section
variable {F : Nat → Prop} {w0 wr : World} {N z : Nat} {xv yv rv ov : Value} {t : Int} {S : List Ext} {R : List Sc.Read} {bs : Bytes}
theorem VR.up (h : VR F w0 N wr z xv yv t S R rv ov bs) {w' : World} (hb : Below wr.heap.size wr w') : VR F w0 N w' z xv yv t S R rv ov bs := by
  obtain ⟨Fv, h1, h2, h3, h4, h5, h6⟩ := h
  exact ⟨Fv, h1.then_up hb, h2.same (fun q hq => hb.block q (by have := (h4 q hq).2; omega)) hb.size, Nat.le_trans h3 hb.size, h4, ownsRow_up h5 hb, h6⟩
theorem VR.start {w1 : World} (hc : Chg F w0 w1) (hv : RViewV (fun q => F q ∨ New w0 w1 q) w1 z xv yv t S R rv) (hd : Dom F w0) : VR F w0 w1.heap.size w1 z xv yv t S R rv (.slice none 0 0) [] :=
  ⟨_, hc, hv, Nat.le_refl _, fun q hq => hq.elim (fun h => ⟨.inl h, Nat.lt_of_lt_of_le (hd q h) hc.size⟩) fun h => ⟨.inr h.1, h.2⟩, World.ownsRow_nil _ _ _ _, fun g hg => by simp [Value.ownBlock] at hg⟩
theorem VR.shape (h : VR F w0 N wr z xv yv t S R rv ov bs) : (∃ p c, rv = .slice p R.length c) ∧ ∃ p c, ov = .slice p bs.length c := by
  obtain ⟨Fv, h1, ⟨_, _, _, _, _, h2, _⟩, h3, h4, h5, h6⟩ := h
  obtain ⟨_, h7⟩ := h2.own
  exact ⟨ownsRow_shape h7, ownsRow_shape h5⟩
theorem VR.cells (h : VR F w0 N wr z xv yv t S R rv ov bs) : wr.cell? ⟨z, 0, none⟩ = some xv ∧ wr.cell? ⟨z, 1, none⟩ = some yv ∧ wr.cell? ⟨z, 2, none⟩ = some (.int .i64 t) ∧ wr.cell? ⟨z, 5, none⟩ = some rv := by
  obtain ⟨Fv, h1, h2, _⟩ := h
  exact ⟨(rv_cells h2).1, (rv_cells h2).2.1, (rv_cells h2).2.2.1, (rv_cells h2).2.2.2.1⟩
theorem VR.chg (h : VR F w0 N wr z xv yv t S R rv ov bs) : Chg F w0 wr := by obtain ⟨Fv, h1, _⟩ := h; exact h1
theorem VR.fin (h : VR F w0 N wr z xv yv t S R rv ov bs) : RViewIs (fun q => F q ∨ New w0 wr q) wr z xv yv t S R := by
  obtain ⟨Fv, h1, h2, h3, h4, _⟩ := h
  exact ⟨rv, h2.mono fun q hq => (h4 q hq).1.imp id fun h => ⟨h, by have := (h4 q hq).2; omega⟩⟩
theorem VR.bytes (h : VR F w0 N wr z xv yv t S R rv ov bs) : BytesAt (fun _ => True) wr ov bs := by
  obtain ⟨Fv, _, _, _, _, h5, _⟩ := h
  exact bytesAt_own _ rfl (fun _ _ _ => trivial) h5
/-- A read is pushed. -/
theorem VR.push (h : VR F w0 N wr z xv yv t S R rv ov bs) {w3 : World} (hb3 : Below wr.heap.size wr w3) {p1 : Option Addr} {c1 : Nat} {x : Sc.Read} (hx : I64 x.lba) (hdat : BytesAt (New wr w3) w3 (.slice p1 x.data.length c1) x.data) {Dd : Nat → Prop} {dv : Value} {d : Bytes} (hd : BytesAt Dd wr dv d) (hDd : ∀ q, Dd q → q < wr.heap.size ∧ ((q < w0.heap.size ∧ ¬ F q) ∨ N ≤ q)) (hn : R.length ≤ 1000000)
    {eb : Nat} (heb : eb < w0.heap.size ∧ ¬ F eb) {u : Value} (heu : wr.cell? ⟨eb, 0, none⟩ = some u) :
    ∃ g cap w6, (Builtin.append_ #[55, 55] 55 #[rv, .slice (some ⟨w3.heap.size, 0, none⟩) 1 1]).run Try.prog (w3.alloc (.cells #[.int .i64 x.lba, .slice p1 x.data.length c1, .bool x.own] 64)) = .ok (.slice (some ⟨g, 0, none⟩) (R.length + 1) cap) w6 ∧ w6.cell? ⟨z, 5, none⟩ = some rv ∧ w6.frozen? ⟨z, 5, none⟩ = false ∧ w6.cell? ⟨eb, 0, none⟩ = some u ∧
      Hid (VR F w0 (w6.setCell ⟨z, 5, none⟩ (.slice (some ⟨g, 0, none⟩) (R.length + 1) cap)).heap.size (w6.setCell ⟨z, 5, none⟩ (.slice (some ⟨g, 0, none⟩) (R.length + 1) cap)) z xv yv t S (R ++ [x]) (.slice (some ⟨g, 0, none⟩) (R.length + 1) cap) ov bs) ∧
      Hid (BytesAt Dd (w6.setCell ⟨z, 5, none⟩ (.slice (some ⟨g, 0, none⟩) (R.length + 1) cap)) dv d) := by
  obtain ⟨Fv, h1, h2, h3, h4, h5, h6⟩ := h
  have hba := below_alloc w3 (.cells #[.int .i64 x.lba, .slice p1 x.data.length c1, .bool x.own] 64)
  have hb4 := Below.up hb3 hba
  have hbv : RViewV Fv (w3.alloc (.cells #[.int .i64 x.lba, .slice p1 x.data.length c1, .bool x.own] 64)) z xv yv t S R rv := h2.same (fun q hq => hb4.block q (by have := (h4 q hq).2; omega)) hb4.size
  have hzF : Fv z := by obtain ⟨_, _, h, _⟩ := h2; exact h
  have hrF : ∀ g, rv.ownBlock = some g → Fv g := by obtain ⟨_, _, _, _, _, _, h, _⟩ := h2; exact fun g hg => (h g hg).1
  have hsz3 := hb3.size
  have hsza := hba.size
  obtain ⟨g, cap, w6, q1, q2, q3, q4, q5, q6⟩ := rv_push (F := fun q => Fv q ∨ New wr w3 q) (hbv.mono fun k hk => .inl hk) (fun q hq => by
      rcases hq with h | h
      · have := (h4 q h).2; omega
      · have := h.2; omega)
    (D3 := New wr w3) (cs := [.int .i64 x.lba, .slice p1 x.data.length c1, .bool x.own]) (x := x) rfl ⟨_, rfl, hx, BytesAt.up hdat hba⟩ (fun b hb => ⟨.inr hb, fun e => by have := (h4 z hzF).2; have := hb.1; omega, fun e => by have := (h4 b (hrF b e)).2; have := hb.1; omega⟩) ⟨w3.heap.size, 0, none⟩ 1 (World.news_of_block (cs := #[.int .i64 x.lba, .slice p1 x.data.length c1, .bool x.own]) (heap_alloc_new w3 _)) (by simp [Value.oneCell']) hn
  have hz7 : (w6.setCell ⟨z, 5, none⟩ (.slice (some ⟨g, 0, none⟩) (R.length + 1) cap)).heap.size = w6.heap.size := by simp [World.setCell]
  have hsz6 := q5.out.size
  have hblk : ∀ q, q < wr.heap.size → ¬ Fv q → (w6.setCell ⟨z, 5, none⟩ (.slice (some ⟨g, 0, none⟩) (R.length + 1) cap)).heap[q]? = wr.heap[q]? := fun q hq hf =>
    (q5.out.block q (by omega) (fun hh => hh.elim hf fun h => by have := h.1; omega)).trans (hb4.block q hq)
  have hDF : ∀ q, Dd q → ¬ Fv q := fun q hq hf => by
    have := h4 q hf
    rcases (hDd q hq).2 with ⟨a, b⟩ | a
    · rcases this.1 with c | c
      · exact b c
      · omega
    · omega
  refine ⟨g, cap, w6, q1, q2, q3, ?_, ⟨fun q => (Fv q ∨ New wr w3 q) ∨ New (w3.alloc (.cells #[.int .i64 x.lba, .slice p1 x.data.length c1, .bool x.own] 64)) (w6.setCell ⟨z, 5, none⟩ (.slice (some ⟨g, 0, none⟩) (R.length + 1) cap)) q, ?_, q6.out, Nat.le_refl _, ?_, ?_, ?_⟩, ?_⟩
  · have hne : ¬ Fv eb := fun hf => by
      rcases (h4 eb hf).1 with c | c
      · exact heb.2 c
      · omega
    have hlt : eb < wr.heap.size := World.block_lt_of_cell? wr _ heu
    rw [World.cell?_of_block (w := wr) ((q4 eb (by omega) (fun e => hne (hrF eb e))).trans (hb4.block eb hlt))]
    exact heu
  · refine (h1.then_up hb4).trans' q5.out fun i hi hh => ?_
    rcases hh with h | h
    · rcases (h4 i h).1 with c | c
      · exact c
      · omega
    · have := h.1; have := h1.size; omega
  · rintro q ((h | h) | h)
    · exact ⟨(h4 q h).1, by have := (h4 q h).2; omega⟩
    · exact ⟨.inr (by have := h.1; have := h1.size; omega), by have := h.2; omega⟩
    · exact ⟨.inr (by have := h.1; have := h1.size; omega), h.2⟩
  · exact row_same (F := fun q => q < wr.heap.size ∧ ¬ Fv q) (fun q hq => hblk q hq.1 hq.2) h5 fun g' hg' => ⟨by have := (h6 g' hg').2; omega, (h6 g' hg').1⟩
  · intro g' hg'
    obtain ⟨a, b⟩ := h6 g' hg'
    refine ⟨?_, by omega⟩
    rintro ((h | h) | h)
    · exact a h
    · have := h.1; omega
    · have := h.1; omega
  · exact BytesAt.same hd fun q hq => hblk q (hDd q hq).1 (hDF q hq)
/-- The block's bytes go behind the others. -/
theorem VR.out (h : VR F w0 N wr z xv yv t S R rv ov bs) {Dd : Nat → Prop} {dp : Option Addr} {dc : Nat} {d : Bytes} (hd : BytesAt Dd wr (.slice dp d.length dc) d) (hl : bs.length + d.length ≤ 100000) :
    ∃ po co w8, (Builtin.append_ #[26, 26] 26 #[ov, .slice dp d.length dc]).run Try.prog wr = .ok (.slice po (bs.length + d.length) co) w8 ∧ Hid (VR F w0 w8.heap.size w8 z xv yv t S R rv (.slice po (bs.length + d.length) co) (bs ++ d)) := by
  obtain ⟨Fv, h1, h2, h3, h4, h5, h6⟩ := h
  obtain ⟨i0, hi, hz0, hz1, hz2⟩ := info_parts infoU8
  obtain ⟨p0, c0, he, a1, a2, a3, a4⟩ := hd
  cases he
  have hs1 := h1.size
  obtain ⟨v', w', hr, r2, r3, r4⟩ := run_append_any0 (P := Try.prog) wr 26 26 w0.heap.size 5 i0 (.int .u8 0) 1 1 Try.underlying26 hi hz0 hz1 hz2 rfl (by decide) ov bs.length (u8L bs) h5 dp d.length dc (fun hp => by have := a3 hp; omega) (u8L d) (by unfold u8L; simp)
    (fun a ha j u hj => by
      subst ha
      unfold u8L at hj
      simp only [List.getElem?_map, Option.map_eq_some_iff] at hj
      obtain ⟨x, hx, rfl⟩ := hj
      obtain ⟨hjl, rfl⟩ := List.getElem?_eq_some_iff.1 hx
      obtain ⟨b, o, hp, _, he⟩ := a4 j hjl
      cases hp
      unfold byteE at he
      rw [Nat.mul_one] at he
      have hadd : (⟨b, o, none⟩ : Addr).add j = ⟨b, o + j, none⟩ := by unfold Addr.add; split <;> simp_all
      rw [hadd]; exact he)
    (fun u hu => by unfold u8L at hu; obtain ⟨z, _, rfl⟩ := List.mem_map.1 hu; rfl) (by unfold maxLen; omega) (by omega) h1.size
  obtain ⟨po, co, rfl⟩ := ownsRow_shape r2
  have hnF : ∀ q, Fv q → wr.heap[q]? = w'.heap[q]? ∧ q < w'.heap.size := fun q hq => by
    have hq2 := (h4 q hq).2
    have hb := r3.block q (by omega) (fun e => (h6 q e.symm).1 hq)
    exact ⟨hb.symm, by have := r3.size; omega⟩
  have hlt := h5.lt
  have hlen : (bs ++ d).length = bs.length + d.length := by simp
  refine ⟨po, co, w', hr, Fv, h1.trans' (chg_grown r3 (S := fun q => w0.heap.size ≤ q) fun k hk => (hlt k hk).1) (fun i hi hh => by omega), h2.same (fun q hq => (hnF q hq).1.symm) r3.size, Nat.le_refl _, fun q hq => ⟨(h4 q hq).1, (hnF q hq).2⟩, ?_, fun g hg => ?_⟩
  · rw [hlen]
    have e : u8L (bs ++ d) = u8L bs ++ u8L d := by unfold u8L; rw [List.map_append]
    rw [e]
    exact r2
  · refine ⟨fun hf => ?_, (r2.lt g hg).2⟩
    rcases r4 with e | e
    · rw [hg] at e
      exact (h6 g e.symm).1 hf
    · rw [hg] at e
      have := (h4 g hf).2
      cases e
      omega
end
end Go.Proofs

/- An append in a region that draws its order, by an equation of its run; of whatever program. -/
namespace Sc
open Go Go.RowKit
theorem step_append_run {P : Program} (w : World) {ops : Array Oper} {o : Oper} {a : Act} {K : Act → World → Prop} {Q : Exit → Act → World → Prop} {E : Prop} (hgd : o.guard = none) (s x : Operand) (t : TypeId)
    (ho : o.op = .call { callee := .builtin .append, args := #[s, x], argTypes := #[t, t] }) (v u : Value) (hs : a.eval s = v) (hx : a.eval x = u) {v' : Value} {w' : World}
    (hr : (Builtin.append_ #[t, t] o.type #[v, u]).run P w = .ok v' w') (h : K (a.put o.dst v') w') : if Region.wanted o (yielded ops a.tmps) = true then Oper.wp P o a w K Q else E := by
  have hw : Region.wanted o (yielded ops a.tmps) = true := by simp [Region.wanted, hgd]
  rw [if_pos hw]
  unfold Oper.wp execOp
  simp only [ho, resolve, invoke, builtin, Sem.run_bind, Sem.run_pure, Result.andThen_ok, List.map_toArray, List.map_cons, List.map_nil, hs, hx, hr]
  exact h
end Sc

/- The reference's View: Read. -/
namespace Go.Proofs
open Go.RowKit Sc
def refBlk (L : List RVer) (s : List Put) (t k : Int) : Bytes := (lookP s k).getD (getR L k t).1
def refReads (L : List RVer) (s : List Put) (t a : Int) (m : Nat) : List Sc.Read := (List.range m).map fun i : Nat => ⟨a + i, refBlk L s t (a + i), (lookP s (a + i)).isSome⟩
theorem refReads_succ (L : List RVer) (s : List Put) (t a : Int) (m : Nat) : refReads L s t a (m + 1) = refReads L s t a m ++ [⟨a + m, refBlk L s t (a + m), (lookP s (a + m)).isSome⟩] := by unfold refReads; rw [List.range_succ]; simp
theorem refReads_length (L : List RVer) (s : List Put) (t a : Int) (m : Nat) : (refReads L s t a m).length = m := by simp [refReads]
def refRows (L : List RVer) (s : List Put) (t a : Int) (m : Nat) : Bytes := rowsF (fun i : Nat => refBlk L s t (a + i)) m
theorem refRows_succ (L : List RVer) (s : List Put) (t a : Int) (m : Nat) : refRows L s t a (m + 1) = refRows L s t a m ++ refBlk L s t (a + m) := rowsF_succ _ _
section
variable {F : Nat → Prop} {w0 wr : World} {N z : Nat} {xv yv rv ov : Value} {t : Int} {S : List Ext} {R : List Sc.Read} {bs : Bytes}
theorem VR.fin2 (h : VR F w0 N wr z xv yv t S R rv ov bs) : ∃ F2 F3 : Nat → Prop, (∀ k, F2 k → F k ∨ New w0 wr k) ∧ RViewIs F2 wr z xv yv t S R ∧ (∀ k, F3 k → New w0 wr k ∧ ¬ F2 k) ∧ BytesAt F3 wr ov bs := by
  obtain ⟨Fv, h1, h2, h3, h4, h5, h6⟩ := h
  refine ⟨Fv, fun q => ov.ownBlock = some q, fun q hq => (h4 q hq).1.imp id fun h => ⟨h, by have := (h4 q hq).2; omega⟩, ⟨rv, h2⟩, fun q hq => ⟨⟨(h5.lt q hq).1, (h5.lt q hq).2⟩, (h6 q hq).1⟩, ?_⟩
  obtain ⟨hx, ⟨e, h0⟩ | ⟨g, cap, cur, e, hB, hcur, hnc, hcm, hh⟩⟩ := id h5
  · have : bs = [] := List.eq_nil_of_length_eq_zero h0
    subst this
    rw [e]
    exact SlAt.nil
  · subst e
    exact bytesAt_row (B := w0.heap.size) _ rfl rfl hnc (by unfold maxLen at hcm; omega) h5
end
def RReadSaid (F : Nat → Prop) (w : World) (z : Nat) (xv yv : Value) (blocks t : Int) (L : List RVer) (s : List Put) (S : List Ext) (R : List Sc.Read) (e : Ext) (r : Ending) (w' : World) : Prop :=
  (readCode blocks S e ≠ 0 ∧ r = .returned (.tuple #[.slice none 0 0, .int .i64 (readCode blocks S e)]) ∧ Hid (Below w.heap.size w w')) ∨
  (readCode blocks S e = 0 ∧ ∃ p c, r = .returned (.tuple #[.slice p (refRows L s t e.first e.len.toNat).length c, .int .i64 0]) ∧ ∃ F2 F3 : Nat → Prop, Hid (Chg F w w') ∧ Hid ((∀ k, F2 k → F k ∨ New w w' k) ∧ ∀ k, F3 k → New w w' k ∧ ¬ F2 k) ∧
    Hid (RViewIs F2 w' z xv yv t (addNext 64 S [e]) (R ++ refReads L s t e.first e.len.toNat)) ∧ Hid (BytesAt F3 w' (.slice p (refRows L s t e.first e.len.toNat).length c) (refRows L s t e.first e.len.toNat)))
theorem exts_box1 {G : Nat → Prop} {w : World} {g : Nat} {e : Ext} {T : TypeId} (hh : w.heap[g]? = some (.cells #[.int .i64 e.first, .int .i64 e.len] T (0, 0))) (hg : G g) (h1 : I64 e.first) (h2 : I64 e.len) : ExtsAt G w (.slice (some ⟨g, 0, none⟩) 1 1) [e] := by
  refine ⟨some ⟨g, 0, none⟩, 1, rfl, by simp, by decide, by simp, fun i hi => ?_⟩
  obtain rfl : i = 0 := by simp at hi; omega
  exact ⟨g, 0, rfl, hg, by rw [cell_row hh]; rfl, by rw [cell_row hh]; rfl, h1, h2⟩

set_option maxRecDepth 100000 in
set_option maxHeartbeats 4000000 in
theorem refRead_any {Fm Fb F : Nat → Prop} {w : World} {xv yv : Value} {z : Nat} {blocks last b2 most t : Int} {L : List RVer} {s : List Put} {S : List Ext} {R : List Sc.Read} (hm : RMapIs Fm w xv blocks last L) (hb : RBufP yv b2 most s Fb w) (hv : RViewIs F w z xv yv t S R) (dm : Dom Fm w) (db : Dom Fb w) (dv : Dom F w) (nm : ∀ k, F k → ¬ Fm k) (nb : ∀ k, F k → ¬ Fb k) (hbl : blocks ≤ 1048576) (hS : SetG S) (nS : S.length ≤ 40000) (nR : R.length ≤ 900000) (nL : L.length ≤ 1000000) (ns : s.length ≤ 1000000) (h40 : ∀ k, (refBlk L s t k).length = 40) (e : Ext) (i1 : I64 e.first) (i2 : I64 e.len) :
    Calls Try.prog 26 #[.pointer (some ⟨z, 0, none⟩), .agg #[.int .i64 e.first, .int .i64 e.len]] w (RReadSaid F w z xv yv blocks t L s S R e) := by
  have hdef : readCode blocks S e = if e.len < 1 ∨ 16 < e.len then 3 else if withinB blocks e.first e.len = false then 2 else if addCode 64 S [e] ≠ 0 then 7 else 0 := rfl
  have hfail : ∀ (c : Int) (w' : World), readCode blocks S e = c → c ≠ 0 → Below w.heap.size w w' → RReadSaid F w z xv yv blocks t L s S R e (.returned (.tuple #[.slice none 0 0, .int .i64 c])) w' := fun c w' h1 h2 h3 => .inl ⟨by rw [h1]; exact h2, by rw [h1], Lib.hid h3⟩
  have hfollow : Try.prog.follows Departure.mixedOrders = true := by kernel_rfl
  have hba := below_alloc w (.cells #[.int .i64 e.first, .int .i64 e.len] 39)
  by_cases h1 : e.len < 1
  case pos =>
    rw [if_pos (.inl h1)] at hdef
    have hf := fun w' => hfail 3 w' hdef (by decide)
    have HF := Lib.hid hf
    have HBA := Lib.hid hba
    have HDEF := Lib.hid hdef
    clear hf hba hdef
    clear hfail
    go_enter Try.func26, Try.ntmps26
    go_wp2
    go_ret2
    exact HF.out _ HBA.out
  case neg =>
  by_cases h2 : 16 < e.len
  case pos =>
    rw [if_pos (.inr h2)] at hdef
    have hf := fun w' => hfail 3 w' hdef (by decide)
    have HF := Lib.hid hf
    have HBA := Lib.hid hba
    have HDEF := Lib.hid hdef
    clear hf hba hdef
    clear hfail
    go_enter Try.func26, Try.ntmps26
    go_wp2
    go_ret2
    exact HF.out _ HBA.out
  case neg =>
    rw [if_neg (by omega)] at hdef
    obtain ⟨xb, _, _, rfl, _, _, _⟩ := id hm
    obtain ⟨yb, _, rfl, _, _, _⟩ := id hb
    obtain ⟨rv, hvv⟩ := hv
    obtain ⟨n, hn⟩ : ∃ n : Nat, e.len = n := ⟨e.len.toNat, by omega⟩
    have hnw := heap_alloc_new w (.cells #[.int .i64 e.first, .int .i64 e.len] 39 (0, 0))
    have hszw : (w.alloc (.cells #[.int .i64 e.first, .int .i64 e.len] 39 (0, 0))).heap.size = w.heap.size + 1 := by simp
    have z0 : (w.alloc (.cells #[.int .i64 e.first, .int .i64 e.len] 39 (0, 0))).cell? ⟨w.heap.size, 0, none⟩ = some (.int .i64 e.first) := by rw [cell_row hnw]; rfl
    have z1 : (w.alloc (.cells #[.int .i64 e.first, .int .i64 e.len] 39 (0, 0))).cell? ⟨w.heap.size, 1, none⟩ = some (.int .i64 e.len) := by rw [cell_row hnw]; rfl
    have hzl := dv z (by obtain ⟨_, _, h, _⟩ := hvv; exact h)
    have c0 := cell_up hba (rv_cells hvv).1
    have hm0 := hm.same (fun q hq => hba.block q (dm q hq)) hba.size
    have hb0 := hb.same (fun q hq => hba.block q (db q hq))
    have hv0 := hvv.same (fun q hq => hba.block q (dv q hq)) hba.size
    have HNW := Lib.hid hnw
    have HM := Lib.hid hm
    have HB := Lib.hid hb
    have HVV := Lib.hid hvv
    have HDEF := Lib.hid hdef
    have HM0 := Lib.hid hm0
    have HB0 := Lib.hid hb0
    have HV0 := Lib.hid hv0
    have HS := Lib.hid hS
    have H40 := Lib.hid h40
    have HN := Lib.hid hn
    clear hnw hm hb hvv hdef hm0 hb0 hv0 hS h40 hn
    go_enter Try.func26, Try.ntmps26
    go_wp2_with fail
    generalize hW0 : w.alloc (.cells #[.int .i64 e.first, .int .i64 e.len] 39 (0, 0)) = W0 at *
    have hd0 : Below W0.heap.size W0 W0.drew := below_drewN (Below.refl _ _) 1
    have hmd : RMapIs Fm W0.drew (.pointer (some ⟨xb, 0, none⟩)) blocks last L := HM0.out
    have HMD := Lib.hid hmd
    have HBA := Lib.hid hba
    clear hmd hba
    cases hq : withinB blocks e.first e.len with
    | false =>
      rw [if_pos hq] at HDEF
      refine wp_regionG (fun W => Below W0.heap.size W0 W) (n := 7) (by kernel_rfl) (by kernel_rfl) ?_
      refine wpG.take 0 (v := ?_) (a' := ?_) rfl (by kernel_rfl) (by kernel_rfl) (by kernel_rfl) (by kernel_rfl) (fun _ _ _ h => h) ?_ ?_ ?_
      rotate_left 2
      · intro W hW
        go_simp
        try with_reducible rfl
      · go_simp
        try with_reducible rfl
      refine wpG.take 1 (v := ?_) (a' := ?_) rfl (by kernel_rfl) (by kernel_rfl) (by kernel_rfl) (by kernel_rfl) (fun _ _ _ h => h) ?_ ?_ ?_
      rotate_left 2
      · intro W hW
        go_simp
        try with_reducible rfl
      · go_simp
        try with_reducible rfl
      refine wpG.take 2 (v := ?_) (a' := ?_) rfl (by kernel_rfl) (by kernel_rfl) (by kernel_rfl) (by kernel_rfl) (fun _ _ _ h => h) ?_ ?_ ?_
      rotate_left 2
      · intro W hW
        go_simp
        try with_reducible rfl
      · go_simp
        try with_reducible rfl
      refine wpG.take 3 (v := ?_) (a' := ?_) rfl (by kernel_rfl) (by kernel_rfl) (by kernel_rfl) (by kernel_rfl) (fun _ _ _ h => h) ?_ ?_ ?_
      rotate_left 2
      · intro W hW
        have hld0 := cell_up hW c0
        go_simp
        try with_reducible rfl
      · go_simp
        try with_reducible rfl
      refine wpG.take 4 (v := ?_) (a' := ?_) rfl (by kernel_rfl) (by kernel_rfl) (by kernel_rfl) (by kernel_rfl) (fun _ _ _ h => h) ?_ ?_ ?_
      rotate_left 2
      · intro W hW
        have hld0 := cell_up hW z0
        have hld1 := cell_up hW z1
        go_simp
        try with_reducible rfl
      · go_simp
        try with_reducible rfl
      refine wpG.alone 5 rfl (by kernel_rfl) (by kernel_rfl) (hd0) (fun K hK => ?_)
      go_simp
      go_at_call 59
      refine (refIn_any Fm _ blocks last L e W0.drew HMD.out hbl i1 i2).mono ?_
      rintro r w2 ⟨rfl, HB2⟩
      have hb3 := Below.up hd0 HB2.out
      rw [hq]
      try go_simp
      refine hK _ _ ?_
      clear hK K
      refine wpG.take 6 (v := ?_) (a' := ?_) rfl (by kernel_rfl) (by kernel_rfl) (by kernel_rfl) (by kernel_rfl) (fun _ _ _ h => h) ?_ ?_ ?_
      rotate_left 2
      · intro W hW
        go_simp
        try with_reducible rfl
      · go_simp
        try with_reducible rfl
      refine wpG.done (by kernel_rfl) hb3 ?_
      have HB3 := Lib.hid hb3
      clear hb3
      go_wp2_with fail
      go_ret2
      exact hfail 2 _ HDEF.out (by decide) (Below.up HBA.out HB3.out)
    | true =>
      rw [if_neg (by rw [hq]; decide)] at HDEF
      refine wp_regionG (fun W => Below W0.heap.size W0 W) (n := 7) (by kernel_rfl) (by kernel_rfl) ?_
      refine wpG.take 0 (v := ?_) (a' := ?_) rfl (by kernel_rfl) (by kernel_rfl) (by kernel_rfl) (by kernel_rfl) (fun _ _ _ h => h) ?_ ?_ ?_
      rotate_left 2
      · intro W hW
        go_simp
        try with_reducible rfl
      · go_simp
        try with_reducible rfl
      refine wpG.take 1 (v := ?_) (a' := ?_) rfl (by kernel_rfl) (by kernel_rfl) (by kernel_rfl) (by kernel_rfl) (fun _ _ _ h => h) ?_ ?_ ?_
      rotate_left 2
      · intro W hW
        go_simp
        try with_reducible rfl
      · go_simp
        try with_reducible rfl
      refine wpG.take 2 (v := ?_) (a' := ?_) rfl (by kernel_rfl) (by kernel_rfl) (by kernel_rfl) (by kernel_rfl) (fun _ _ _ h => h) ?_ ?_ ?_
      rotate_left 2
      · intro W hW
        go_simp
        try with_reducible rfl
      · go_simp
        try with_reducible rfl
      refine wpG.take 3 (v := ?_) (a' := ?_) rfl (by kernel_rfl) (by kernel_rfl) (by kernel_rfl) (by kernel_rfl) (fun _ _ _ h => h) ?_ ?_ ?_
      rotate_left 2
      · intro W hW
        have hld0 := cell_up hW c0
        go_simp
        try with_reducible rfl
      · go_simp
        try with_reducible rfl
      refine wpG.take 4 (v := ?_) (a' := ?_) rfl (by kernel_rfl) (by kernel_rfl) (by kernel_rfl) (by kernel_rfl) (fun _ _ _ h => h) ?_ ?_ ?_
      rotate_left 2
      · intro W hW
        have hld0 := cell_up hW z0
        have hld1 := cell_up hW z1
        go_simp
        try with_reducible rfl
      · go_simp
        try with_reducible rfl
      refine wpG.alone 5 rfl (by kernel_rfl) (by kernel_rfl) (hd0) (fun K hK => ?_)
      go_simp
      go_at_call 59
      refine (refIn_any Fm _ blocks last L e W0.drew HMD.out hbl i1 i2).mono ?_
      rintro r w2 ⟨rfl, HB2⟩
      have hb3 := Below.up hd0 HB2.out
      rw [hq]
      try go_simp
      refine hK _ _ ?_
      clear hK K
      refine wpG.take 6 (v := ?_) (a' := ?_) rfl (by kernel_rfl) (by kernel_rfl) (by kernel_rfl) (by kernel_rfl) (fun _ _ _ h => h) ?_ ?_ ?_
      rotate_left 2
      · intro W hW
        go_simp
        try with_reducible rfl
      · go_simp
        try with_reducible rfl
      refine wpG.done (by kernel_rfl) hb3 ?_
      have y0 := cell_up hb3 z0
      have y1 := cell_up hb3 z1
      have hba3 : Below W0.heap.size W0 (w2.alloc (.cells #[.int .i64 e.first, .int .i64 e.len] 39 (0, 0))).drew := below_drewN (Below.up hb3 (below_alloc w2 (.cells #[.int .i64 e.first, .int .i64 e.len] 39 (0, 0)))) 1
      have hv3 := HV0.out.same (fun q hq => hba3.block q (by have := dv q hq; omega)) hba3.size
      have hm3 := HM0.out.same (fun q hq => hba3.block q (by have := dm q hq; omega)) hba3.size
      have hbb3 := HB0.out.same (fun q hq => hba3.block q (by have := db q hq; omega))
      have hx0 := cell_up hba3 z0
      have hx1 := cell_up hba3 z1
      have hex : ExtsAt (fun _ => True) (w2.alloc (.cells #[.int .i64 e.first, .int .i64 e.len] 39 (0, 0))).drew (.slice (some ⟨w2.heap.size, 0, none⟩) 1 1) [e] := exts_box1 (w := (w2.alloc (.cells #[.int .i64 e.first, .int .i64 e.len] 39 (0, 0))).drew) (heap_alloc_new w2 (.cells #[.int .i64 e.first, .int .i64 e.len] 39 (0, 0))) trivial i1 i2
      have hz3 : (w2.alloc (.cells #[.int .i64 e.first, .int .i64 e.len] 39 (0, 0))).drew.heap.size = w2.heap.size + 1 := by simp
      have hwz := Below.size hb3
      have hadd : Calls Try.prog 60 #[.pointer (some ⟨z, 3, none⟩), .slice (some ⟨w2.heap.size, 0, none⟩) 1 1] (w2.alloc (.cells #[.int .i64 e.first, .int .i64 e.len] 39 (0, 0))).drew (AddVSaid z 64 S [e] (w2.alloc (.cells #[.int .i64 e.first, .int .i64 e.len] 39 (0, 0))).drew) := by
        obtain ⟨sv, D, hFz, hhz, hsv, _, _, _⟩ := id hv3
        exact refAddV_any (by omega) hhz rfl rfl hsv [e] hex (fun x hx => by rw [List.mem_singleton] at hx; subst hx; exact ⟨i1, i2⟩) HS.out (by unfold I64; omega) nS (by simp)
      obtain ⟨c, hc⟩ : ∃ c, radd 64 S [e] = c := ⟨_, rfl⟩
      have hcc := add_radd64 (S := S) e
      have hcn := addNext_radd64 (S := S) e
      rw [hc] at hcc
      rw [hcc] at HDEF
      have HBA3 := Lib.hid hba3
      have HV3 := Lib.hid hv3
      have HM3 := Lib.hid hm3
      have HBB3 := Lib.hid hbb3
      have HEX := Lib.hid hex
      have HB3 := Lib.hid hb3
      have HADD := Lib.hid hadd
      have HC := Lib.hid hc
      have HCN := Lib.hid hcn
      clear hba3 hv3 hm3 hbb3 hex hb3 hadd hc hcn
      clear HM0 HB0 HV0 HMD hd0 hcc
      go_wp2_with fail
      refine wp_regionG (fun W => W.cell? ⟨w.heap.size, 0, none⟩ = some (.int .i64 e.first) ∧ W.cell? ⟨w.heap.size, 1, none⟩ = some (.int .i64 e.len)) (n := 7) (by kernel_rfl) (by kernel_rfl) ?_
      refine wpG.take 0 (v := ?_) (a' := ?_) rfl (by kernel_rfl) (by kernel_rfl) (by kernel_rfl) (by kernel_rfl) (fun _ _ _ h => h) ?_ ?_ ?_
      rotate_left 2
      · intro W hW
        go_simp
        try with_reducible rfl
      · go_simp
        try with_reducible rfl
      refine wpG.take 1 (v := ?_) (a' := ?_) rfl (by kernel_rfl) (by kernel_rfl) (by kernel_rfl) (by kernel_rfl) (fun _ _ _ h => h) ?_ ?_ ?_
      rotate_left 2
      · intro W hW
        go_simp
        try with_reducible rfl
      · go_simp
        try with_reducible rfl
      refine wpG.take 2 (v := ?_) (a' := ?_) rfl (by kernel_rfl) (by kernel_rfl) (by kernel_rfl) (by kernel_rfl) (fun _ _ _ h => h) ?_ ?_ ?_
      rotate_left 2
      · intro W hW
        go_simp
        try with_reducible rfl
      · go_simp
        try with_reducible rfl
      refine wpG.take 3 (v := ?_) (a' := ?_) rfl (by kernel_rfl) (by kernel_rfl) (by kernel_rfl) (by kernel_rfl) (fun _ _ _ h => h) ?_ ?_ ?_
      rotate_left 2
      · intro W hW
        have hld0 := hW.1
        have hld1 := hW.2
        go_simp
        try with_reducible rfl
      · go_simp
        try with_reducible rfl
      refine wpG.alone 4 rfl (by kernel_rfl) (by kernel_rfl) ⟨y0, y1⟩ (fun K hK => ?_)
      go_simp
      try go_simp
      refine hK _ _ ?_
      clear hK K
      refine wpG.alone 5 rfl (by kernel_rfl) (by kernel_rfl) (⟨hx0, hx1⟩) (fun K hK => ?_)
      go_simp
      go_at_call 60
      refine (HADD.out).mono ?_
      rintro r w4 ⟨rfl, hor⟩
      rw [HC.out] at hor ⊢
      rcases hor with ⟨hne, HB4⟩ | ⟨h0, w5, po, co, rfl, HB4, HX4⟩
      case inl =>
        have hcb : (c != 0) = true := by simpa using hne
        try go_simp
        refine hK _ _ ?_
        clear hK K
        refine wpG.take 6 (v := ?_) (a' := ?_) rfl (by kernel_rfl) (by kernel_rfl) (by kernel_rfl) (by kernel_rfl) (fun _ _ _ h => h) ?_ ?_ ?_
        rotate_left 2
        · intro W hW
          go_simp
          try with_reducible rfl
        · go_simp
          try with_reducible rfl
        refine wpG.done (by kernel_rfl) ⟨cell_up HB4.out hx0, cell_up HB4.out hx1⟩ ?_
        have hfin := hfail 7 w4 (by rw [HDEF.out, if_pos hne]) (by decide) (Below.up HBA.out (Below.up HBA3.out HB4.out))
        have HFIN := Lib.hid hfin
        have HNE := Lib.hid hne
        clear hfin hne
        go_wp2_with fail
        go_ret2
        exact HFIN.out
      case inr =>
        subst h0
        have hcode : readCode blocks S e = 0 := by rw [HDEF.out, if_neg (by decide)]
        rw [← HCN.out] at HX4 ⊢
        have dom3 : Dom F (w2.alloc (.cells #[.int .i64 e.first, .int .i64 e.len] 39 (0, 0))).drew := fun q hq => by have := dv q hq; omega
        obtain ⟨hch4, hv4⟩ := rv_set HV3.out dom3 HB4.out HX4.out
        have hVR := VR.start hch4 hv4 dom3
        have hzF : F z := by obtain ⟨_, _, h, _⟩ := HV3.out; exact h
        have hneF : ¬ F w.heap.size := fun h => by have := dv _ h; omega
        have hx04 := hch4.cell hneF hx0
        have hx14 := hch4.cell hneF hx1
        try go_simp
        refine hK _ _ ?_
        clear hK K
        refine wpG.take 6 (v := ?_) (a' := ?_) rfl (by kernel_rfl) (by kernel_rfl) (by kernel_rfl) (by kernel_rfl) (fun _ _ _ h => h) ?_ ?_ ?_
        rotate_left 2
        · intro W hW
          go_simp
          try with_reducible rfl
        · go_simp
          try with_reducible rfl
        refine wpG.done (by kernel_rfl) ⟨hx04, hx14⟩ ?_
        have hba03 := Below.up HBA.out HBA3.out
        generalize hW5 : w5.setCell ⟨z, 4, none⟩ (.slice po (addNext 64 S [e]).length co) = W5 at *
        generalize hW3 : (w2.alloc (.cells #[.int .i64 e.first, .int .i64 e.len] 39 (0, 0))).drew = W3 at *
        have hbk : 0 ≤ e.first ∧ 1 ≤ e.len ∧ e.len ≤ blocks ∧ e.first ≤ blocks - e.len := by
          have := hq
          unfold withinB at this
          simp only [Bool.and_eq_true, decide_eq_true_eq] at this
          omega
        have HCODE := Lib.hid hcode
        have HVR := Lib.hid hVR
        have HBA03 := Lib.hid hba03
        have HBK := Lib.hid hbk
        clear hcode hVR hba03 hbk
        clear hch4 hv4 hW5 hW3 HB4 HX4 HADD HEX HV3 y0 y1 hx04 hx14
        go_wp2_with fail
        go_loopw [6, 7] (fun ov iv wr => ∃ k : Nat, ∃ N op oc m rv bs, k ≤ n ∧ iv = .int .i64 k ∧ ov = .slice op m oc ∧ Hid (bs = refRows L s t e.first k ∧ bs.length = m ∧ m = 40 * k) ∧ Hid (VR F W3 N wr z (.pointer (some ⟨xb, 0, none⟩)) (.pointer (some ⟨yb, 0, none⟩)) t (addNext 64 S [e]) (R ++ refReads L s t e.first k) rv (.slice op m oc) bs)) (fun _ iv _ => n - (intOf iv).toNat)
        case atStart => exact ⟨0, _, _, _, _, _, _, Nat.zero_le _, rfl, rfl, Lib.hid ⟨rfl, rfl, rfl⟩, by rw [show refReads L s t e.first 0 = [] from rfl, List.append_nil]; exact HVR⟩
        case round =>
          obtain ⟨k, N, op, oc, m, rv2, bs, hk, rfl, rfl, HM2, HV⟩ := hrel
          have hch := HV.out.chg
          have a0 := hch.cell hneF hx0
          have a1 := hch.cell hneF hx1
          obtain ⟨b0, b1, b2', b5⟩ := HV.out.cells
          by_cases hlt : k < n
          case neg =>
            obtain rfl : k = n := by omega
            obtain ⟨hbs, hbl2, hm40⟩ := HM2.out
            clear hm40
            obtain ⟨F2, F3, q1, q2, q3, q4⟩ := HV.out.fin2
            have hnn : e.len.toNat = k := by have := HN.out; omega
            subst hbs
            subst hbl2
            have hfin : RReadSaid F w z (.pointer (some ⟨xb, 0, none⟩)) (.pointer (some ⟨yb, 0, none⟩)) blocks t L s S R e (.returned (.tuple #[.slice op (refRows L s t e.first k).length oc, .int .i64 0])) wr := by
              refine .inr ⟨HCODE.out, op, oc, by rw [hnn], F2, F3, Lib.hid (Chg.after_up HBA03.out hch), Lib.hid ⟨fun q hq => (q1 q hq).imp id fun h => ⟨Nat.le_trans HBA03.out.size h.1, h.2⟩, fun q hq => ⟨⟨Nat.le_trans HBA03.out.size (q3 q hq).1.1, (q3 q hq).1.2⟩, (q3 q hq).2⟩⟩, ?_, ?_⟩
              · rw [hnn]; exact q2
              · rw [hnn]; exact q4
            have hki : ¬ (k : Int) < e.len := by have := HN.out; omega
            generalize (refRows L s t e.first k).length = mm at *
            have HFIN := Lib.hid hfin
            have HNN := Lib.hid hnn
            have HCH := Lib.hid hch
            clear hfin hnn hch
            clear q1 q2 q3 q4 HM2 HV
            go_wp2_with fail
            go_ret2
            exact HFIN.out
          case pos =>
            have hki : (k : Int) < e.len := by have := HN.out; omega
            have hbk := HBK.out
            have hkey : 0 ≤ e.first + k ∧ e.first + k < blocks := by omega
            have hwrap : IntKind.i64.wrap (e.first + k) = e.first + k := IntWalk.i64_in _ (by omega)
            have hz03 := HBA03.out.size
            have hbR : RBufP (.pointer (some ⟨yb, 0, none⟩)) b2 most s Fb wr.drew := HBB3.out.same (w' := wr.drew) (hch.same fun q hq => ⟨by have := db q hq; omega, fun h => nb q h hq⟩)
            have hmR : RMapIs Fm wr (.pointer (some ⟨xb, 0, none⟩)) blocks last L := HM3.out.same (hch.same fun q hq => ⟨by have := dm q hq; omega, fun h => nm q h hq⟩) hch.size
            have hdR : Below wr.heap.size wr wr.drew := below_drewN (Below.refl _ _) 1
            have hbkT : blk blocks (e.first + k) = true := by unfold blk; rw [decide_eq_true hkey.1, decide_eq_true hkey.2]; rfl
            have h40k := H40.out (e.first + k)
            have hrs := refReads_succ L s t e.first k
            have hrw := refRows_succ L s t e.first k
            have hdom : ∀ q, (Fb q ∨ Fm q) → q < W3.heap.size ∧ ¬ F q := fun q hq => hq.elim (fun h => ⟨by have := db q h; omega, fun h' => nb q h' h⟩) fun h => ⟨by have := dm q h; omega, fun h' => nm q h' h⟩
            have hsz3 := hch.size
            have hnlen : (R ++ refReads L s t e.first k).length ≤ 1000000 := by rw [List.length_append, refReads_length]; have := HN.out; omega
            have hebw : w.heap.size < W3.heap.size := by have := World.block_lt_of_cell? W3 _ hx0; exact this
            obtain ⟨ow, how⟩ : ∃ ow, (lookP s (e.first + k)).isSome = ow := ⟨_, rfl⟩
            obtain ⟨bd, hbd⟩ : ∃ bd, refBlk L s t (e.first + k) = bd := ⟨_, rfl⟩
            rw [hbd] at h40k hrs hrw
            have HBR := Lib.hid hbR
            have HMR := Lib.hid hmR
            have HDR := Lib.hid hdR
            have HBK := Lib.hid hbk
            have H40K := Lib.hid h40k
            have HRS := Lib.hid hrs
            have HRW := Lib.hid hrw
            have HDOM := Lib.hid hdom
            have HBKT := Lib.hid hbkT
            have HCH := Lib.hid hch
            clear hbR hmR hdR hbk h40k hrs hrw hdom hbkT hch
            go_wp2_with fail
            cases ow
            case' true =>
              have hbd0 : (lookP s (e.first + k)).getD [] = bd := by
                rw [← hbd]; unfold refBlk
                cases hl : lookP s (e.first + k) with
                | none => rw [hl] at how; cases how
                | some d => rfl
              refine wp_regionG (fun W => Below wr.heap.size wr W) (n := 14) (by kernel_rfl) (by kernel_rfl) ?_
              refine wpG.take 0 (v := ?_) (a' := ?_) rfl (by kernel_rfl) (by kernel_rfl) (by kernel_rfl) (by kernel_rfl) (fun _ _ _ h => h) ?_ ?_ ?_
              rotate_left 2
              · intro W hW
                go_simp
                try with_reducible rfl
              · go_simp
                try with_reducible rfl
              refine wpG.take 1 (v := ?_) (a' := ?_) rfl (by kernel_rfl) (by kernel_rfl) (by kernel_rfl) (by kernel_rfl) (fun _ _ _ h => h) ?_ ?_ ?_
              rotate_left 2
              · intro W hW
                go_simp
                try with_reducible rfl
              · go_simp
                try with_reducible rfl
              refine wpG.take 2 (v := ?_) (a' := ?_) rfl (by kernel_rfl) (by kernel_rfl) (by kernel_rfl) (by kernel_rfl) (fun _ _ _ h => h) ?_ ?_ ?_
              rotate_left 2
              · intro W hW
                go_simp
                try with_reducible rfl
              · go_simp
                try with_reducible rfl
              refine wpG.take 3 (v := ?_) (a' := ?_) rfl (by kernel_rfl) (by kernel_rfl) (by kernel_rfl) (by kernel_rfl) (fun _ _ _ h => h) ?_ ?_ ?_
              rotate_left 2
              · intro W hW
                have hld0 := cell_up hW b1
                go_simp
                try with_reducible rfl
              · go_simp
                try with_reducible rfl
              refine wpG.take 4 (v := ?_) (a' := ?_) rfl (by kernel_rfl) (by kernel_rfl) (by kernel_rfl) (by kernel_rfl) (fun _ _ _ h => h) ?_ ?_ ?_
              rotate_left 2
              · intro W hW
                go_simp
                try with_reducible rfl
              · go_simp
                try with_reducible rfl
              refine wpG.take 5 (v := ?_) (a' := ?_) rfl (by kernel_rfl) (by kernel_rfl) (by kernel_rfl) (by kernel_rfl) (fun _ _ _ h => h) ?_ ?_ ?_
              rotate_left 2
              · intro W hW
                have hld0 := cell_up hW a0
                go_simp
                try with_reducible rfl
              · go_simp
                try with_reducible rfl
              refine wpG.take 6 (v := ?_) (a' := ?_) rfl (by kernel_rfl) (by kernel_rfl) (by kernel_rfl) (by kernel_rfl) (fun _ _ _ h => h) ?_ ?_ ?_
              rotate_left 2
              · intro W hW
                go_simp
                try with_reducible rfl
              · go_simp
                try with_reducible rfl
              refine wpG.take 7 (v := ?_) (a' := ?_) rfl (by kernel_rfl) (by kernel_rfl) (by kernel_rfl) (by kernel_rfl) (fun _ _ _ h => h) ?_ ?_ ?_
              rotate_left 2
              · intro W hW
                go_simp
                try with_reducible rfl
              · go_simp
                try with_reducible rfl
              refine wpG.alone 8 rfl (by kernel_rfl) (by kernel_rfl) (HDR.out) (fun K hK => ?_)
              go_simp
              go_at_call 61
              refine (refBufGet_any Fb _ b2 most s (e.first + k) wr.drew HBR.out ns).mono ?_
              rintro r w7 ⟨dv7, rfl, HD7, HB7⟩
              rw [how]
              rw [hbd0] at HD7
              have hb7 := Below.up HDR.out HB7.out
              obtain ⟨dp, dc, rfl⟩ : ∃ dp dc, dv7 = .slice dp bd.length dc := by obtain ⟨dp, dc, e, _⟩ := HD7.out; exact ⟨dp, dc, e⟩
              try go_simp
              refine hK _ _ ?_
              clear hK K
              refine wpG.take 9 (v := ?_) (a' := ?_) rfl (by kernel_rfl) (by kernel_rfl) (by kernel_rfl) (by kernel_rfl) (fun _ _ _ h => h) ?_ ?_ ?_
              rotate_left 2
              · intro W hW
                go_simp
                try with_reducible rfl
              · go_simp
                try with_reducible rfl
              refine wpG.take 10 (v := ?_) (a' := ?_) rfl (by kernel_rfl) (by kernel_rfl) (by kernel_rfl) (by kernel_rfl) (fun _ _ _ h => h) ?_ ?_ ?_
              rotate_left 2
              · intro W hW
                go_simp
                try with_reducible rfl
              · go_simp
                try with_reducible rfl
              refine wpG.take 11 (v := ?_) (a' := ?_) rfl (by kernel_rfl) (by kernel_rfl) (by kernel_rfl) (by kernel_rfl) (fun _ _ _ h => h) ?_ ?_ ?_
              rotate_left 2
              · intro W hW
                go_simp
                try with_reducible rfl
              · go_simp
                try with_reducible rfl
              refine wpG.take 12 (v := ?_) (a' := ?_) rfl (by kernel_rfl) (by kernel_rfl) (by kernel_rfl) (by kernel_rfl) (fun _ _ _ h => h) ?_ ?_ ?_
              rotate_left 2
              · intro W hW
                go_simp
                try with_reducible rfl
              · go_simp
                try with_reducible rfl
              refine wpG.take 13 (v := ?_) (a' := ?_) rfl (by kernel_rfl) (by kernel_rfl) (by kernel_rfl) (by kernel_rfl) (fun _ _ _ h => h) ?_ ?_ ?_
              rotate_left 2
              · intro W hW
                go_simp
                try with_reducible rfl
              · go_simp
                try with_reducible rfl
              refine wpG.done (by kernel_rfl) hb7 ?_
              have HDD : Hid (∃ Dd, BytesAt Dd w7 (.slice dp bd.length dc) bd ∧ ∀ q, Dd q → q < w7.heap.size ∧ ((q < W3.heap.size ∧ ¬ F q) ∨ N ≤ q)) := Lib.hid ⟨Fb, HD7.out, fun q hq => ⟨by have := (HDOM.out q (.inl hq)).1; have := hb7.size; omega, .inl (HDOM.out q (.inl hq))⟩⟩
              have g0 := cell_up hb7 a0
              have g5 := cell_up hb7 b5
              have hcm : IntKind.i64.wrap 0 = 0 := rfl
              clear HD7 hbd0 a0 b0 b1 b2' b5
              have HB7' := Lib.hid hb7
              clear hb7
              have HBD := Lib.hid hbd
              clear hbd
            case' false =>
              have hln : lookP s (e.first + k) = none := by
                cases hl : lookP s (e.first + k) with
                | none => rfl
                | some d => rw [hl] at how; cases how
              have hbd1 : (getR L (e.first + k) t).1 = bd := by rw [← hbd]; unfold refBlk; rw [hln]; rfl
              refine wp_regionG (fun W => Below wr.heap.size wr W) (n := 14) (by kernel_rfl) (by kernel_rfl) ?_
              refine wpG.take 0 (v := ?_) (a' := ?_) rfl (by kernel_rfl) (by kernel_rfl) (by kernel_rfl) (by kernel_rfl) (fun _ _ _ h => h) ?_ ?_ ?_
              rotate_left 2
              · intro W hW
                go_simp
                try with_reducible rfl
              · go_simp
                try with_reducible rfl
              refine wpG.take 1 (v := ?_) (a' := ?_) rfl (by kernel_rfl) (by kernel_rfl) (by kernel_rfl) (by kernel_rfl) (fun _ _ _ h => h) ?_ ?_ ?_
              rotate_left 2
              · intro W hW
                go_simp
                try with_reducible rfl
              · go_simp
                try with_reducible rfl
              refine wpG.take 2 (v := ?_) (a' := ?_) rfl (by kernel_rfl) (by kernel_rfl) (by kernel_rfl) (by kernel_rfl) (fun _ _ _ h => h) ?_ ?_ ?_
              rotate_left 2
              · intro W hW
                go_simp
                try with_reducible rfl
              · go_simp
                try with_reducible rfl
              refine wpG.take 3 (v := ?_) (a' := ?_) rfl (by kernel_rfl) (by kernel_rfl) (by kernel_rfl) (by kernel_rfl) (fun _ _ _ h => h) ?_ ?_ ?_
              rotate_left 2
              · intro W hW
                have hld0 := cell_up hW b1
                go_simp
                try with_reducible rfl
              · go_simp
                try with_reducible rfl
              refine wpG.take 4 (v := ?_) (a' := ?_) rfl (by kernel_rfl) (by kernel_rfl) (by kernel_rfl) (by kernel_rfl) (fun _ _ _ h => h) ?_ ?_ ?_
              rotate_left 2
              · intro W hW
                go_simp
                try with_reducible rfl
              · go_simp
                try with_reducible rfl
              refine wpG.take 5 (v := ?_) (a' := ?_) rfl (by kernel_rfl) (by kernel_rfl) (by kernel_rfl) (by kernel_rfl) (fun _ _ _ h => h) ?_ ?_ ?_
              rotate_left 2
              · intro W hW
                have hld0 := cell_up hW a0
                go_simp
                try with_reducible rfl
              · go_simp
                try with_reducible rfl
              refine wpG.take 6 (v := ?_) (a' := ?_) rfl (by kernel_rfl) (by kernel_rfl) (by kernel_rfl) (by kernel_rfl) (fun _ _ _ h => h) ?_ ?_ ?_
              rotate_left 2
              · intro W hW
                go_simp
                try with_reducible rfl
              · go_simp
                try with_reducible rfl
              refine wpG.take 7 (v := ?_) (a' := ?_) rfl (by kernel_rfl) (by kernel_rfl) (by kernel_rfl) (by kernel_rfl) (fun _ _ _ h => h) ?_ ?_ ?_
              rotate_left 2
              · intro W hW
                go_simp
                try with_reducible rfl
              · go_simp
                try with_reducible rfl
              refine wpG.alone 8 rfl (by kernel_rfl) (by kernel_rfl) (HDR.out) (fun K hK => ?_)
              go_simp
              go_at_call 61
              refine (refBufGet_any Fb _ b2 most s (e.first + k) wr.drew HBR.out ns).mono ?_
              rintro r w6 ⟨dv6, rfl, HD6, HB6⟩
              rw [how]
              have hb6 := Below.up HDR.out HB6.out
              obtain ⟨dp6, dc6, n6, rfl⟩ : ∃ dp dc n, dv6 = .slice dp n dc := by obtain ⟨dp, dc, e, _⟩ := HD6.out; exact ⟨dp, dc, _, e⟩
              try go_simp
              refine hK _ _ ?_
              clear hK K
              refine wpG.take 9 (v := ?_) (a' := ?_) rfl (by kernel_rfl) (by kernel_rfl) (by kernel_rfl) (by kernel_rfl) (fun _ _ _ h => h) ?_ ?_ ?_
              rotate_left 2
              · intro W hW
                go_simp
                try with_reducible rfl
              · go_simp
                try with_reducible rfl
              refine wpG.take 10 (v := ?_) (a' := ?_) rfl (by kernel_rfl) (by kernel_rfl) (by kernel_rfl) (by kernel_rfl) (fun _ _ _ h => h) ?_ ?_ ?_
              rotate_left 2
              · intro W hW
                go_simp
                try with_reducible rfl
              · go_simp
                try with_reducible rfl
              refine wpG.take 11 (v := ?_) (a' := ?_) rfl (by kernel_rfl) (by kernel_rfl) (by kernel_rfl) (by kernel_rfl) (fun _ _ _ h => h) ?_ ?_ ?_
              rotate_left 2
              · intro W hW
                go_simp
                try with_reducible rfl
              · go_simp
                try with_reducible rfl
              refine wpG.take 12 (v := ?_) (a' := ?_) rfl (by kernel_rfl) (by kernel_rfl) (by kernel_rfl) (by kernel_rfl) (fun _ _ _ h => h) ?_ ?_ ?_
              rotate_left 2
              · intro W hW
                go_simp
                try with_reducible rfl
              · go_simp
                try with_reducible rfl
              refine wpG.take 13 (v := ?_) (a' := ?_) rfl (by kernel_rfl) (by kernel_rfl) (by kernel_rfl) (by kernel_rfl) (fun _ _ _ h => h) ?_ ?_ ?_
              rotate_left 2
              · intro W hW
                go_simp
                try with_reducible rfl
              · go_simp
                try with_reducible rfl
              refine wpG.done (by kernel_rfl) hb6 ?_
              have hm6 : RMapIs Fm w6.drew (.pointer (some ⟨xb, 0, none⟩)) blocks last L := HMR.out.same (w' := w6.drew) (fun q hq => hb6.block q (by have := (HDOM.out q (.inr hq)).1; omega)) hb6.size
              have e0 := cell_up hb6 a0
              have e1 := cell_up hb6 b0
              have e2 := cell_up hb6 b2'
              have e5 := cell_up hb6 b5
              have hdr6 : Below w6.heap.size w6 w6.drew := below_drewN (Below.refl _ _) 1
              have HM6 := Lib.hid hm6
              have HB6 := Lib.hid hb6
              have HDR6 := Lib.hid hdr6
              clear hm6 hb6 hdr6
              clear HD6 a0 b0 b1 b2' b5
              go_wp2_with fail
              refine wp_regionG (fun W => Below w6.heap.size w6 W) (n := 17) (by kernel_rfl) (by kernel_rfl) ?_
              refine wpG.take 0 (v := ?_) (a' := ?_) rfl (by kernel_rfl) (by kernel_rfl) (by kernel_rfl) (by kernel_rfl) (fun _ _ _ h => h) ?_ ?_ ?_
              rotate_left 2
              · intro W hW
                go_simp
                try with_reducible rfl
              · go_simp
                try with_reducible rfl
              refine wpG.take 1 (v := ?_) (a' := ?_) rfl (by kernel_rfl) (by kernel_rfl) (by kernel_rfl) (by kernel_rfl) (fun _ _ _ h => h) ?_ ?_ ?_
              rotate_left 2
              · intro W hW
                go_simp
                try with_reducible rfl
              · go_simp
                try with_reducible rfl
              refine wpG.take 2 (v := ?_) (a' := ?_) rfl (by kernel_rfl) (by kernel_rfl) (by kernel_rfl) (by kernel_rfl) (fun _ _ _ h => h) ?_ ?_ ?_
              rotate_left 2
              · intro W hW
                go_simp
                try with_reducible rfl
              · go_simp
                try with_reducible rfl
              refine wpG.take 3 (v := ?_) (a' := ?_) rfl (by kernel_rfl) (by kernel_rfl) (by kernel_rfl) (by kernel_rfl) (fun _ _ _ h => h) ?_ ?_ ?_
              rotate_left 2
              · intro W hW
                have hld0 := cell_up hW e1
                go_simp
                try with_reducible rfl
              · go_simp
                try with_reducible rfl
              refine wpG.take 4 (v := ?_) (a' := ?_) rfl (by kernel_rfl) (by kernel_rfl) (by kernel_rfl) (by kernel_rfl) (fun _ _ _ h => h) ?_ ?_ ?_
              rotate_left 2
              · intro W hW
                go_simp
                try with_reducible rfl
              · go_simp
                try with_reducible rfl
              refine wpG.take 5 (v := ?_) (a' := ?_) rfl (by kernel_rfl) (by kernel_rfl) (by kernel_rfl) (by kernel_rfl) (fun _ _ _ h => h) ?_ ?_ ?_
              rotate_left 2
              · intro W hW
                have hld0 := cell_up hW e0
                go_simp
                try with_reducible rfl
              · go_simp
                try with_reducible rfl
              refine wpG.take 6 (v := ?_) (a' := ?_) rfl (by kernel_rfl) (by kernel_rfl) (by kernel_rfl) (by kernel_rfl) (fun _ _ _ h => h) ?_ ?_ ?_
              rotate_left 2
              · intro W hW
                go_simp
                try with_reducible rfl
              · go_simp
                try with_reducible rfl
              refine wpG.take 7 (v := ?_) (a' := ?_) rfl (by kernel_rfl) (by kernel_rfl) (by kernel_rfl) (by kernel_rfl) (fun _ _ _ h => h) ?_ ?_ ?_
              rotate_left 2
              · intro W hW
                go_simp
                try with_reducible rfl
              · go_simp
                try with_reducible rfl
              refine wpG.take 8 (v := ?_) (a' := ?_) rfl (by kernel_rfl) (by kernel_rfl) (by kernel_rfl) (by kernel_rfl) (fun _ _ _ h => h) ?_ ?_ ?_
              rotate_left 2
              · intro W hW
                go_simp
                try with_reducible rfl
              · go_simp
                try with_reducible rfl
              refine wpG.take 9 (v := ?_) (a' := ?_) rfl (by kernel_rfl) (by kernel_rfl) (by kernel_rfl) (by kernel_rfl) (fun _ _ _ h => h) ?_ ?_ ?_
              rotate_left 2
              · intro W hW
                go_simp
                try with_reducible rfl
              · go_simp
                try with_reducible rfl
              refine wpG.take 10 (v := ?_) (a' := ?_) rfl (by kernel_rfl) (by kernel_rfl) (by kernel_rfl) (by kernel_rfl) (fun _ _ _ h => h) ?_ ?_ ?_
              rotate_left 2
              · intro W hW
                go_simp
                try with_reducible rfl
              · go_simp
                try with_reducible rfl
              refine wpG.take 11 (v := ?_) (a' := ?_) rfl (by kernel_rfl) (by kernel_rfl) (by kernel_rfl) (by kernel_rfl) (fun _ _ _ h => h) ?_ ?_ ?_
              rotate_left 2
              · intro W hW
                have hld0 := cell_up hW e2
                go_simp
                try with_reducible rfl
              · go_simp
                try with_reducible rfl
              refine wpG.alone 12 rfl (by kernel_rfl) (by kernel_rfl) (HDR6.out) (fun K hK => ?_)
              go_simp
              go_at_call 62
              refine (refMapGet_any Fm _ blocks last L (e.first + k) t w6.drew HM6.out nL).mono ?_
              rintro r w7 hor
              rw [HBKT.out] at hor
              obtain ⟨dp, dc, rfl, HD7, HB7⟩ : ∃ dp dc, r = .returned (.tuple #[.slice dp bd.length dc, .int .i64 (getR L (e.first + k) t).2]) ∧ Hid (BytesAt (fun q => Fm q ∨ New w6.drew w7 q) w7 (.slice dp bd.length dc) bd) ∧ Hid (Below w6.drew.heap.size w6.drew w7) := by
                rcases hor with ⟨h, _⟩ | ⟨_, dp, dc, h1, h2, h3⟩
                · cases h
                · rw [hbd1] at h1 h2; exact ⟨dp, dc, h1, h2, h3⟩
              have hb67 := Below.up HDR6.out HB7.out
              have hb7 := Below.up HB6.out hb67
              try go_simp
              refine hK _ _ ?_
              clear hK K
              refine wpG.take 13 (v := ?_) (a' := ?_) rfl (by kernel_rfl) (by kernel_rfl) (by kernel_rfl) (by kernel_rfl) (fun _ _ _ h => h) ?_ ?_ ?_
              rotate_left 2
              · intro W hW
                go_simp
                try with_reducible rfl
              · go_simp
                try with_reducible rfl
              refine wpG.take 14 (v := ?_) (a' := ?_) rfl (by kernel_rfl) (by kernel_rfl) (by kernel_rfl) (by kernel_rfl) (fun _ _ _ h => h) ?_ ?_ ?_
              rotate_left 2
              · intro W hW
                go_simp
                try with_reducible rfl
              · go_simp
                try with_reducible rfl
              refine wpG.take 15 (v := ?_) (a' := ?_) rfl (by kernel_rfl) (by kernel_rfl) (by kernel_rfl) (by kernel_rfl) (fun _ _ _ h => h) ?_ ?_ ?_
              rotate_left 2
              · intro W hW
                go_simp
                try with_reducible rfl
              · go_simp
                try with_reducible rfl
              refine wpG.take 16 (v := ?_) (a' := ?_) rfl (by kernel_rfl) (by kernel_rfl) (by kernel_rfl) (by kernel_rfl) (fun _ _ _ h => h) ?_ ?_ ?_
              rotate_left 2
              · intro W hW
                go_simp
                try with_reducible rfl
              · go_simp
                try with_reducible rfl
              refine wpG.done (by kernel_rfl) hb67 ?_
              have HDD : Hid (∃ Dd, BytesAt Dd w7 (.slice dp bd.length dc) bd ∧ ∀ q, Dd q → q < w7.heap.size ∧ ((q < W3.heap.size ∧ ¬ F q) ∨ N ≤ q)) := by
                obtain ⟨_, _, _, hN3, _⟩ := HV.out
                refine Lib.hid ⟨_, HD7.out, fun q hq => ?_⟩
                rcases hq with hq | hq
                · exact ⟨by have := (HDOM.out q (.inr hq)).1; have := hb7.size; omega, .inl (HDOM.out q (.inr hq))⟩
                · exact ⟨hq.2, .inr (by have := hq.1; have := HB6.out.size; have h6 : w6.drew.heap.size = w6.heap.size := rfl; omega)⟩
              have g0 := cell_up hb67 e0
              have g5 := cell_up hb67 e5
              clear HD7 hbd1 hln e0 e1 e2 e5
              have HB7' := Lib.hid hb7
              clear hb7
              have HBD := Lib.hid hbd
              have HB67 := Lib.hid hb67
              clear hbd hb67
            all_goals
              obtain ⟨Dd, hdd1, hdd2⟩ := HDD.out
              have hV7 := HV.out.up HB7'.out
              have hA1 : Below w7.heap.size w7 (w7.alloc (.cells #[] 5)).drew := below_drewN (below_alloc w7 _) 1
              have hz2 : w7.heap.size ≤ (w7.alloc (.cells #[] 5)).drew.heap.size := hA1.size
              obtain ⟨dp1, dc1, w8, hr8, ho8, hg8⟩ := bytes_pushM (BytesAt.up hdd1 hA1) (by have := H40K.out; omega) (B := w7.heap.size) (k := w7.heap.size) (owns_empty w7 _ _) hz2
              have hA2 : Below w7.heap.size w7 w8 := hA1.grown hg8.out hz2 (fun b e => by cases e; exact Nat.le_refl _)
              have hb8 : BytesAt (New w7 w8) w8 (.slice dp1 bd.length dc1) bd := bytesAt_own _ rfl (fun q h1 h2 => ⟨h1, h2⟩) ho8.out
              have hpush := VR.push (x := ⟨e.first + k, bd, (lookP s (e.first + k)).isSome⟩) hV7 hA2 (i64_small (by simp only; omega)) hb8 hdd1 hdd2 hnlen ⟨hebw, hneF⟩ g0
              rw [how] at hpush
              dsimp only at hpush
              obtain ⟨rl, hrl0⟩ : ∃ rl, (R ++ refReads L s t e.first k).length = rl := ⟨_, rfl⟩
              rw [hrl0] at hpush
              obtain ⟨g, cap, w9, hr9, j1, j2, j3, HVN, HDN⟩ := hpush
              have g0' := cell_up hA2 g0
              have g5' := cell_up hA2 g5
              have hG0 : w7.drew.cell? ⟨z, 5, none⟩ = some rv2 ∧ w7.drew.cell? ⟨w.heap.size, 0, none⟩ = some (.int .i64 e.first) := ⟨g5, g0⟩
              have hG1 := And.intro (cell_up hA1 g5) (cell_up hA1 g0)
              have hG3 := fun ob : Obj => And.intro (cell_up (below_alloc w8 ob) g5') (cell_up (below_alloc w8 ob) g0')
              go_wp2_with fail
              refine wp_regionH (fun W => W.cell? ⟨z, 5, none⟩ = some rv2 ∧ W.cell? ⟨w.heap.size, 0, none⟩ = some (.int .i64 e.first)) (n := 19) (by kernel_rfl) (by kernel_rfl) ?_
              refine wpH.take 0 (v := ?_) (a' := ?_) rfl (by kernel_rfl) (by kernel_rfl) (by kernel_rfl) (by kernel_rfl) (by kernel_rfl) (fun _ _ _ h => h) ?_ ?_ ?_
              rotate_left 2
              · intro W hW
                go_simp
                try with_reducible rfl
              · go_simp
                try with_reducible rfl
              refine wpH.take 1 (v := ?_) (a' := ?_) rfl (by kernel_rfl) (by kernel_rfl) (by kernel_rfl) (by kernel_rfl) (by kernel_rfl) (fun _ _ _ h => h) ?_ ?_ ?_
              rotate_left 2
              · intro W hW
                go_simp
                try with_reducible rfl
              · go_simp
                try with_reducible rfl
              refine wpH.take 2 (v := ?_) (a' := ?_) rfl (by kernel_rfl) (by kernel_rfl) (by kernel_rfl) (by kernel_rfl) (by kernel_rfl) (fun _ _ _ h => h) ?_ ?_ ?_
              rotate_left 2
              · intro W hW
                go_simp
                try with_reducible rfl
              · go_simp
                try with_reducible rfl
              refine wpH.take 3 (v := ?_) (a' := ?_) rfl (by kernel_rfl) (by kernel_rfl) (by kernel_rfl) (by kernel_rfl) (by kernel_rfl) (fun _ _ _ h => h) ?_ ?_ ?_
              rotate_left 2
              · intro W hW
                go_simp
                try with_reducible rfl
              · go_simp
                try with_reducible rfl
              refine wpH.take 4 (v := ?_) (a' := ?_) rfl (by kernel_rfl) (by kernel_rfl) (by kernel_rfl) (by kernel_rfl) (by kernel_rfl) (fun _ _ _ h => h) ?_ ?_ ?_
              rotate_left 2
              · intro W hW
                have hld0 := hW.1
                go_simp
                try with_reducible rfl
              · go_simp
                try with_reducible rfl
              refine wpH.take 5 (v := ?_) (a' := ?_) rfl (by kernel_rfl) (by kernel_rfl) (by kernel_rfl) (by kernel_rfl) (by kernel_rfl) (fun _ _ _ h => h) ?_ ?_ ?_
              rotate_left 2
              · intro W hW
                go_simp
                try with_reducible rfl
              · go_simp
                try with_reducible rfl
              refine wpH.take 6 (v := ?_) (a' := ?_) rfl (by kernel_rfl) (by kernel_rfl) (by kernel_rfl) (by kernel_rfl) (by kernel_rfl) (fun _ _ _ h => h) ?_ ?_ ?_
              rotate_left 2
              · intro W hW
                have hld0 := hW.2
                go_simp
                try with_reducible rfl
              · go_simp
                try with_reducible rfl
              refine wpH.take 7 (v := ?_) (a' := ?_) rfl (by kernel_rfl) (by kernel_rfl) (by kernel_rfl) (by kernel_rfl) (by kernel_rfl) (fun _ _ _ h => h) ?_ ?_ ?_
              rotate_left 2
              · intro W hW
                go_simp
                try with_reducible rfl
              · go_simp
                try with_reducible rfl
              refine wpH.take 8 (v := ?_) (a' := ?_) rfl (by kernel_rfl) (by kernel_rfl) (by kernel_rfl) (by kernel_rfl) (by kernel_rfl) (fun _ _ _ h => h) ?_ ?_ ?_
              rotate_left 2
              · intro W hW
                go_simp
                try with_reducible rfl
              · go_simp
                try with_reducible rfl
              refine wpH.take 10 (v := ?_) (a' := ?_) rfl (by kernel_rfl) (by kernel_rfl) (by kernel_rfl) (by kernel_rfl) (by kernel_rfl) (fun _ _ _ h => h) ?_ ?_ ?_
              rotate_left 2
              · intro W hW
                go_simp
                try with_reducible rfl
              · go_simp
                try with_reducible rfl
              refine wpH.take 12 (v := ?_) (a' := ?_) rfl (by kernel_rfl) (by kernel_rfl) (by kernel_rfl) (by kernel_rfl) (by kernel_rfl) (fun _ _ _ h => h) ?_ ?_ ?_
              rotate_left 2
              · intro W hW
                go_simp
                try with_reducible rfl
              · go_simp
                try with_reducible rfl
              refine wpH.alone 9 rfl (by kernel_rfl) (by kernel_rfl) hG0 (fun K hK => ?_)
              go_simp
              try go_simp
              refine hK _ _ ?_
              clear hK K
              refine wpH.alone 11 rfl (by kernel_rfl) (by kernel_rfl) hG1 (fun K hK => ?_)
              refine wp_append_run (v := .slice (some ⟨w7.heap.size, 0, none⟩) 0 0) (u := .slice dp bd.length dc) (.tmp 77) (.tmp 78) 26 rfl ?_ ?_ hr8 ?_
              · go_simp
              · go_simp
              try go_simp
              refine hK _ _ ?_
              clear hK K
              refine wpH.take 13 (v := ?_) (a' := ?_) rfl (by kernel_rfl) (by kernel_rfl) (by kernel_rfl) (by kernel_rfl) (by kernel_rfl) (fun _ _ _ h => h) ?_ ?_ ?_
              rotate_left 2
              · intro W hW
                go_simp
                try with_reducible rfl
              · go_simp
                try with_reducible rfl
              refine wpH.alone 14 rfl (by kernel_rfl) (by kernel_rfl) ⟨g5', g0'⟩ (fun K hK => ?_)
              go_simp
              try go_simp
              refine hK _ _ ?_
              clear hK K
              refine wpH.alone 15 rfl (by kernel_rfl) (by kernel_rfl) (hG3 _) (fun K hK => ?_)
              refine wp_append_run (v := rv2) (u := .slice (some ⟨w8.heap.size, 0, none⟩) 1 1) (.tmp 72) (.tmp 82) 55 rfl ?_ ?_ hr9 ?_
              · go_simp
              · go_simp
              try go_simp
              refine hK _ _ ?_
              clear hK K
              refine wpH.take 16 (v := ?_) (a' := ?_) rfl (by kernel_rfl) (by kernel_rfl) (by kernel_rfl) (by kernel_rfl) (by kernel_rfl) (fun _ _ _ h => h) ?_ ?_ ?_
              rotate_left 2
              · intro W hW
                go_simp
                try with_reducible rfl
              · go_simp
                try with_reducible rfl
              refine wpH.take 17 (v := ?_) (a' := ?_) rfl (by kernel_rfl) (by kernel_rfl) (by kernel_rfl) (by kernel_rfl) (by kernel_rfl) (fun _ _ _ h => h) ?_ ?_ ?_
              rotate_left 2
              · intro W hW
                go_simp
                try with_reducible rfl
              · go_simp
                try with_reducible rfl
              refine wpH.alone 18 rfl (by kernel_rfl) (by kernel_rfl) ⟨j1, j3⟩ (fun K hK => ?_)
              go_simp
              try go_simp
              refine hK _ _ ?_
              clear hK K
              refine wpH.done (by kernel_rfl) (by kernel_rfl) ?_
              obtain ⟨hbs, hbl2, hm40⟩ := HM2.out
              have hl8 : bs.length + bd.length ≤ 100000 := by have := H40K.out; have := HN.out; omega
              obtain ⟨po, co, w10, hr10, HV10⟩ := HVN.out.out HDN.out hl8
              have hbs2 : bs ++ bd = refRows L s t e.first (k + 1) := by rw [HRW.out, hbs]
              have hm2 : bs.length + bd.length = 40 * (k + 1) := by have := H40K.out; omega
              have hrl : R ++ refReads L s t e.first k ++ [⟨e.first + k, bd, (lookP s (e.first + k)).isSome⟩] = R ++ refReads L s t e.first (k + 1) := by rw [HRS.out, List.append_assoc]
              rw [how] at hrl
              rw [hrl] at HV10
              have hll : (bs ++ bd).length = bs.length + bd.length := List.length_append
              have hmk := hm40
              subst hbl2
              clear hm40 hmk
              generalize hW9 : w9.setCell ⟨z, 5, none⟩ (.slice (some ⟨g, 0, none⟩) (rl + 1) cap) = W9 at *
              have HM2' := Lib.hid hm2
              clear hm2
              have HBS := Lib.hid hbs
              have HBS2 := Lib.hid hbs2
              have HRL := Lib.hid hrl
              have HLL := Lib.hid hll
              have HW9 := Lib.hid hW9
              have HRL0 := Lib.hid hrl0
              clear hbs hbs2 hrl hll hW9 hrl0
              clear hG0 hG1 hG3 g0' g5' g0 g5 hA1 hA2 hb8 hV7 hdd1 hdd2 j1 j2 j3 hr8 hr9
              go_wp2_with (at_builtin; refine wpList_append_run rfl (.tmp 86) (.tmp 87) 26 rfl rfl rfl hr10 ?_)
              go_roundw
              case rel => exact ⟨k + 1, _, _, _, _, _, _, by omega, by go_num, rfl, Lib.hid ⟨HBS2.out, HLL.out, HM2'.out⟩, HV10⟩
              case measure => simp [intOf]; omega
end Go.Proofs
