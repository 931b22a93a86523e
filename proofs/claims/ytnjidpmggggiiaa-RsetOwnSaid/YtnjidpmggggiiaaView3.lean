/- Package rset: Read. -/
import Derived.Test.YtnjidpmggggiiaaView2
import Derived.Test.YtnjidpmggggiiaaZoom
import Derived.Test.YtnjidpmggggiiaaOutA
import Derived.Test.YtnjidpmggggiiaaCuts2
import Derived.Deep.RegionLaw
import Derived.Deep.RegionHeld3
import Derived.Deep.DeepCutAuto
import Derived.Deep.CutRange
import Derived.Lib.SlBuf
import Derived.BigQuiet
namespace Go.Proofs
open Go.RowKit Sc

theorem infoRead : (Try.prog.info? 64).map (fun i => (i.zero, i.size, i.bytes)) = some (some (.agg #[.int .i64 0, .slice none 0 0, .bool false]), 3, 40) := by kernel_rfl
def readCode (blocks : Int) (S : List Ext) (e : Ext) : Int := if e.len < 1 ∨ 16 < e.len then 3 else if withinB blocks e.first e.len = false then 2 else if addCode 64 S [e] ≠ 0 then 7 else 0
def ReadSaid (W : World) (Z : Asn) (m b sb v : Nat) (blocks last b2 most t : Int) (vs : Vers) (s : List (Int × Bytes)) (S : List Ext) (R : List Sc.Read) (e : Ext) (r : Ending) (w' : World) : Prop :=
  (readCode blocks S e ≠ 0 ∧ r = .returned (.tuple #[.slice none 0 0, .int .i64 (readCode blocks S e)]) ∧ Hid (Sep W [Z, ExtA (.pointer (some ⟨m, 0, none⟩)) blocks last vs, BufA (.pointer (some ⟨b, 0, none⟩)) b2 most s, SetA (.pointer (some ⟨sb, 0, none⟩)) 64 S, ViewA (.pointer (some ⟨v, 0, none⟩)) (.pointer (some ⟨m, 0, none⟩)) (.pointer (some ⟨b, 0, none⟩)) t (.pointer (some ⟨sb, 0, none⟩)) R] w')) ∨
  (readCode blocks S e = 0 ∧ ∃ g o c, r = .returned (.tuple #[.slice (some ⟨g, o, none⟩) (40 * e.len.toNat) c, .int .i64 0]) ∧ Hid (Sep W [Z, ExtA (.pointer (some ⟨m, 0, none⟩)) blocks last vs, BufA (.pointer (some ⟨b, 0, none⟩)) b2 most s, SetA (.pointer (some ⟨sb, 0, none⟩)) 64 (addNext 64 S [e]), ViewA (.pointer (some ⟨v, 0, none⟩)) (.pointer (some ⟨m, 0, none⟩)) (.pointer (some ⟨b, 0, none⟩)) t (.pointer (some ⟨sb, 0, none⟩)) (R ++ readsV vs s t e.first e.len.toNat),
     BytesWA (.slice (some ⟨g, o, none⟩) (40 * e.len.toNat) c) (rowsF (fun i : Nat => blkV vs s t (e.first + i)) e.len.toNat)] w'))

theorem bytesW_sub {F : Foot} {w : World} {g o N c i : Nat} {l r : Bytes} (h : BytesW F w (.slice (some ⟨g, o, none⟩) N c) l) (hi : i + r.length ≤ l.length) (hr : ∀ j, j < r.length → l[i + j]? = r[j]?) : BytesAt F w (.slice (some ⟨g, o + i, none⟩) r.length (c - i)) r := by
  obtain ⟨p, c', hv, h1, h2, h3, h4⟩ := h
  cases hv
  refine ⟨_, c - i, rfl, by omega, by omega, (by intro e; cases e), fun j hj => ?_⟩
  obtain ⟨b', o', hp, hf, hc, _⟩ := h4 (i + j) (by omega)
  cases hp
  refine ⟨g, o + i, rfl, hf, ?_⟩
  unfold byteE
  have e1 : l[i + j] = r[j] := by
    have := hr j hj
    rw [List.getElem?_eq_getElem (by omega), List.getElem?_eq_getElem hj] at this
    exact Option.some.inj this
  rw [Nat.mul_one] at hc ⊢
  rw [show o + i + j = o + (i + j) by omega, hc, e1]
theorem ownsRow_shape {w : World} {B T k n : Nat} {v : Value} {xs : List Value} (h : w.ownsRow B T k v n xs) : ∃ p c, v = .slice p n c := by
  obtain ⟨_, ⟨rfl, rfl⟩ | ⟨g, cap, _, rfl, _⟩⟩ := h
  · exact ⟨none, 0, rfl⟩
  · exact ⟨_, _, rfl⟩
theorem read_more (vs : Vers) (s : List (Int × Bytes)) (t a : Int) (R : List Sc.Read) (k : Nat) {d : Bytes} {own : Bool} (h1 : blkV vs s t (a + k) = d) (h2 : (alook s (a + k)).isSome = own) : R ++ readsV vs s t a k ++ [⟨a + k, d, own⟩] = R ++ readsV vs s t a (k + 1) := by
  rw [readsV_succ, h1, h2, List.append_assoc]

set_option maxRecDepth 100000 in
set_option maxHeartbeats 4000000 in
theorem viewRead_core {W w : World} {Z : Asn} {m b sb v : Nat} {blocks last b2 most t : Int} {vs : Vers} {s : List (Int × Bytes)} {S : List Ext} {R : List Sc.Read}
    (h : Hid (Sep W [Z, ExtA (.pointer (some ⟨m, 0, none⟩)) blocks last vs, BufA (.pointer (some ⟨b, 0, none⟩)) b2 most s, SetA (.pointer (some ⟨sb, 0, none⟩)) 64 S, ViewA (.pointer (some ⟨v, 0, none⟩)) (.pointer (some ⟨m, 0, none⟩)) (.pointer (some ⟨b, 0, none⟩)) t (.pointer (some ⟨sb, 0, none⟩)) R] w))
    (hg : GoodE blocks last vs) (hbl : blocks ≤ 1048576) (hs : BufG b2 s) (hS : SetG S) (nS : S.length ≤ 50000) (nR : R.length ≤ 1000000) (e : Ext) (i1 : I64 e.first) (i2 : I64 e.len) :
    Calls Try.prog 14 #[.pointer (some ⟨v, 0, none⟩), extV e] w (ReadSaid W Z m b sb v blocks last b2 most t vs s S R e) := by
  obtain ⟨E, hE⟩ : ∃ E : Array Value, E = #[.int .i64 e.first, .int .i64 e.len] := ⟨_, rfl⟩
  have hS0 := h.out.new (below_alloc w (.cells #[.int .i64 e.first, .int .i64 e.len] 39)) (BoxA w.heap.size #[.int .i64 e.first, .int .i64 e.len] 39) (F := New w (w.alloc (.cells #[.int .i64 e.first, .int .i64 e.len] 39))) (fun _ h => h) ⟨⟨Nat.le_refl _, by simp⟩, heap_alloc_new w _⟩
  have he0 : (w.alloc (.cells #[.int .i64 e.first, .int .i64 e.len] 39)).cell? ⟨w.heap.size, 0, none⟩ = some (.int .i64 e.first) := by rw [cell_row (heap_alloc_new w _)]; rfl
  have he1 : (w.alloc (.cells #[.int .i64 e.first, .int .i64 e.len] 39)).cell? ⟨w.heap.size, 1, none⟩ = some (.int .i64 e.len) := by rw [cell_row (heap_alloc_new w _)]; rfl
  obtain ⟨bv, rv0, hbv, hvl, hvh, _⟩ := Go.Proofs.Sep.view_cells hS0 4 rfl
  cases hbv
  generalize hw0 : w.alloc (.cells #[.int .i64 e.first, .int .i64 e.len] 39) = w0 at *
  have hv0 : w0.cell? ⟨v, 0, none⟩ = some (.pointer (some ⟨m, 0, none⟩)) := by rw [cell_row hvh]; rfl
  have hv2 : w0.cell? ⟨v, 2, none⟩ = some (.int .i64 t) := by rw [cell_row hvh]; rfl
  have hfail : ∀ c w', readCode blocks S e = c → c ≠ 0 → Below w0.heap.size w0 w' → ReadSaid W Z m b sb v blocks last b2 most t vs s S R e (.returned (.tuple #[.slice none 0 0, .int .i64 c])) w' := fun c w' hc hn hb => .inl ⟨by rw [hc]; exact hn, by rw [hc], (hS0.up hb).take 5⟩
  have hdef : readCode blocks S e = if e.len < 1 ∨ 16 < e.len then 3 else if withinB blocks e.first e.len = false then 2 else if addCode 64 S [e] ≠ 0 then 7 else 0 := rfl
  have H0 := Lib.hid hS0
  clear hS0
  have HS' := Lib.hid hS
  clear hS
  have HS0 := Lib.hid hs
  have HW0 := Lib.hid hw0
  have HVH := Lib.hid hvh
  have HFAIL := Lib.hid hfail
  have HG := Lib.hid hg
  have HS := Lib.hid hs
  have H := Lib.hid h
  have HE := Lib.hid hE
  clear hw0 hvh hfail hg hs h hE
  rcases (show e.len < 1 ∨ (1 ≤ e.len ∧ 16 < e.len) ∨ (1 ≤ e.len ∧ e.len ≤ 16) by omega) with hl | ⟨hl0, hl⟩ | ⟨hl0, hl⟩
  case inl =>
    rw [if_pos (.inl hl)] at hdef
    have hf := HFAIL.out 3 w0 hdef (by decide) (Below.refl _ _)
    have HF := Lib.hid hf
    have HDEF := Lib.hid hdef
    clear hf hdef
    go_enter Try.func14, Try.ntmps14
    go_wp2_with fail
    go_step3
    rw [HW0.out]
    go_wp2_with fail
    rw [Exit.noGoto_ret]
    go_ret2
    exact HF.out
  case inr.inl =>
    rw [if_pos (.inr hl)] at hdef
    have hf := HFAIL.out 3 w0 hdef (by decide) (Below.refl _ _)
    have HF := Lib.hid hf
    have HDEF := Lib.hid hdef
    clear hf hdef
    go_enter Try.func14, Try.ntmps14
    go_wp2_with fail
    go_step3
    rw [HW0.out]
    go_wp2_with fail
    rw [Exit.noGoto_ret]
    go_ret2
    exact HF.out
  case inr.inr =>
    rw [if_neg (by omega)] at hdef
    obtain ⟨FM, hFM, _⟩ := H0.out.get 1 rfl
    have hrng := extRange_any FM _ blocks last vs e.first e.len t w0.drew (hFM.up (below_drewN (Below.refl _ _) 1)) hbl HG.out.d40 (fun x => good_get40 HG.out x t)
    clear hFM
    cases hwi : withinB blocks e.first e.len with
    | false =>
      rw [if_pos hwi] at hdef
      have hrng' : Calls Try.prog 43 #[.pointer (some ⟨m, 0, none⟩), .agg #[.int .i64 e.first, .int .i64 e.len], .int .i64 t] w0.drew fun r w' => r = .returned (.tuple #[.slice none 0 0, .int .i64 2]) ∧ Hid (Below w0.heap.size w0 w') := hrng.mono fun r w' hr => by
        rcases hr with ⟨_, h1, h2⟩ | ⟨h1, _⟩
        · exact ⟨h1, (below_drewN (Below.refl _ _) 1).trans h2⟩
        · rw [hwi] at h1; cases h1
      have HRNG' := Lib.hid hrng'
      have HDEF := Lib.hid hdef
      have HWI := Lib.hid hwi
      clear hrng' hdef hwi
      clear hrng
      go_enter Try.func14, Try.ntmps14
      go_wp2_with fail
      go_step3
      rw [HW0.out]
      go_wp2_with fail
      go_region_held3 (fun W' => W'.cell? ⟨v, 0, none⟩ = some (.pointer (some ⟨m, 0, none⟩)) ∧ W'.cell? ⟨v, 2, none⟩ = some (.int .i64 t) ∧ W'.cell? ⟨w.heap.size, 0, none⟩ = some (.int .i64 e.first) ∧ W'.cell? ⟨w.heap.size, 1, none⟩ = some (.int .i64 e.len))
        (first | exact ⟨hv0, hv2, he0, he1⟩ | go_keep | exact ⟨cell_up HB1.out hv0, cell_up HB1.out hv2, cell_up HB1.out he0, cell_up HB1.out he1⟩)
        ((go_at_call 43
          refine (HRNG'.out).mono ?_
          rintro r w1 ⟨rfl, HB1⟩))
      go_wp2_with fail
      rw [Exit.noGoto_ret]
      go_ret2
      exact HFAIL.out 2 _ HDEF.out (by decide) HB1.out
    | true =>
      rw [if_neg (by rw [hwi]; decide)] at hdef
      have HDEF0 := Lib.hid hdef
      obtain ⟨n, hn⟩ := Int.eq_ofNat_of_zero_le (show 0 ≤ e.len by omega)
      have htn : e.len.toNat = n := by rw [hn]; rfl
      have hf40 : ∀ i : Nat, (blkV vs s t (e.first + i)).length = 40 := fun i => blkV_length HG.out HS.out t _
      have hg40 : ∀ i : Nat, (getV vs (e.first + i) t).1.length = 40 := fun i => good_get40 HG.out _ t
      have hrl : (rangeV vs e.first t n).length = 40 * n := rowsF_length hg40 n
      have hwb : 0 ≤ e.first ∧ e.first ≤ 1048576 := by
        unfold withinB at hwi
        simp only [Bool.and_eq_true, decide_eq_true_eq] at hwi
        omega
      have hrng' : Calls Try.prog 43 #[.pointer (some ⟨m, 0, none⟩), .agg #[.int .i64 e.first, .int .i64 e.len], .int .i64 t] w0.drew fun r w' => ∃ g o c, r = .returned (.tuple #[.slice (some ⟨g, o, none⟩) (40 * n) c, .int .i64 0]) ∧ Hid (40 * n ≤ c ∧ c ≤ 9223372036854775807) ∧ Hid (BytesW (New w0 w') w' (.slice (some ⟨g, o, none⟩) (40 * n) c) (rangeV vs e.first t n)) ∧ Hid (Below w0.heap.size w0 w') := hrng.mono fun r w' hr => by
        rcases hr with ⟨h1, _⟩ | ⟨_, ov, h1, h2, h3⟩
        · rw [hwi] at h1; cases h1
        · rw [htn] at h2
          obtain ⟨g, o, c, rfl, q1, q2⟩ := h2.base (by rw [hrl]; omega)
          rw [hrl] at h1 h2 q1
          exact ⟨g, o, c, h1, ⟨q1, q2⟩, h2, (below_drewN (Below.refl _ _) 1).trans h3⟩
      have HRNG' := Lib.hid hrng'
      have HWI := Lib.hid hwi
      have HF40 := Lib.hid hf40
      have HG40 := Lib.hid hg40
      have HRL := Lib.hid hrl
      have HTN := Lib.hid htn
      have HN := Lib.hid hn
      clear hrng' hwi hf40 hg40 hrl htn hn
      clear hrng
      go_enter Try.func14, Try.ntmps14
      go_wp2_with fail
      go_step3
      rw [HW0.out]
      go_wp2_with fail
      go_region_held3 (fun W' => W'.cell? ⟨v, 0, none⟩ = some (.pointer (some ⟨m, 0, none⟩)) ∧ W'.cell? ⟨v, 2, none⟩ = some (.int .i64 t) ∧ W'.cell? ⟨w.heap.size, 0, none⟩ = some (.int .i64 e.first) ∧ W'.cell? ⟨w.heap.size, 1, none⟩ = some (.int .i64 e.len))
        (first | exact ⟨hv0, hv2, he0, he1⟩ | go_keep | exact ⟨cell_up HB1.out hv0, cell_up HB1.out hv2, cell_up HB1.out he0, cell_up HB1.out he1⟩)
        ((go_at_call 43
          refine (HRNG'.out).mono ?_
          rintro r w1 ⟨g, o, c, rfl, HGC, HO1, HB1⟩))
      have hS1 := H0.out.new HB1.out (BytesWA (.slice (some ⟨g, o, none⟩) (40 * n) c) (rangeV vs e.first t n)) (F := New w0 w1) (fun _ h => h) HO1.out
      have hv3 : w1.cell? ⟨v, 3, none⟩ = some (.pointer (some ⟨sb, 0, none⟩)) := cell_up HB1.out (by rw [cell_row HVH.out]; rfl)
      have hq0 := cell_up HB1.out he0
      have hq1 := cell_up HB1.out he1
      have hSd := hS1.up (w' := w1.drew) (below_drewN (Below.refl _ _) 1)
      have hadd := setAdd_at (h := (hSd : Hid _)) 3 rfl e.first e.len i1 i2 HS'.out nS w1.heap.size rfl
      have HS1 := Lib.hid hS1
      have HSD := Lib.hid hSd
      have HADD := Lib.hid hadd
      clear hS1 hSd hadd
      clear hv0 hv2 he0 he1
      have hadd2 : Calls Try.prog 44 #[.pointer (some ⟨sb, 0, none⟩), .slice (some ⟨w1.heap.size, 0, none⟩) 1 1] (w1.drew.alloc (.cells #[.int .i64 e.first, .int .i64 e.len] 39)) fun r w' => r = .returned (.int .i64 (addCode 64 S [e])) ∧ Hid (w'.cell? ⟨v, 3, none⟩ = some (.pointer (some ⟨sb, 0, none⟩)) ∧ w'.cell? ⟨w.heap.size, 0, none⟩ = some (.int .i64 e.first) ∧ w'.cell? ⟨w.heap.size, 1, none⟩ = some (.int .i64 e.len)) ∧
          Hid (Sep W [Z, ExtA (.pointer (some ⟨m, 0, none⟩)) blocks last vs, BufA (.pointer (some ⟨b, 0, none⟩)) b2 most s, SetA (.pointer (some ⟨sb, 0, none⟩)) 64 (addNext 64 S [e]), ViewA (.pointer (some ⟨v, 0, none⟩)) (.pointer (some ⟨m, 0, none⟩)) (.pointer (some ⟨b, 0, none⟩)) t (.pointer (some ⟨sb, 0, none⟩)) R, BoxA w.heap.size #[.int .i64 e.first, .int .i64 e.len] 39, BytesWA (.slice (some ⟨g, o, none⟩) (40 * n) c) (rangeV vs e.first t n)] w') := HADD.out.mono fun r w' hr => by
        obtain ⟨h1, h2⟩ := hr
        obtain ⟨bv, rv2, hbv, _, hvh2, _⟩ := Go.Proofs.Sep.view_cells h2.out 4 rfl
        cases hbv
        obtain ⟨FB, hFB, _⟩ := h2.out.get 5 rfl
        exact ⟨h1, ⟨by rw [cell_row hvh2]; rfl, by rw [cell_row hFB.2]; rfl, by rw [cell_row hFB.2]; rfl⟩, h2⟩
      by_cases hac : addCode 64 S [e] = 0
      case neg =>
        rw [if_pos hac] at hdef
        have hanx : addNext 64 S [e] = S := by unfold addNext; rw [if_neg hac]
        have hacn : (addCode 64 S [e] != 0) = true := by rw [bne_iff_ne]; exact hac
        rw [hanx] at hadd2
        generalize addCode 64 S [e] = ac at hadd2 hacn
        have HADD2 := Lib.hid hadd2
        have HANX := Lib.hid hanx
        have HDEF := Lib.hid hdef
        clear hadd2 hanx hdef
        clear hac
        go_wp2_with fail
        go_region_held3 (fun W' => W'.cell? ⟨v, 3, none⟩ = some (.pointer (some ⟨sb, 0, none⟩)) ∧ W'.cell? ⟨w.heap.size, 0, none⟩ = some (.int .i64 e.first) ∧ W'.cell? ⟨w.heap.size, 1, none⟩ = some (.int .i64 e.len))
          (first | exact ⟨hv3, hq0, hq1⟩ | go_keep | exact ⟨cell_up (below_alloc w1.drew _) hv3, cell_up (below_alloc w1.drew _) hq0, cell_up (below_alloc w1.drew _) hq1⟩ | exact HK2.out)
          ((go_at_call 44
            refine (HADD2.out).mono ?_
            rintro r w2 ⟨rfl, HK2, HS2⟩))
        go_wp2_with fail
        rw [Exit.noGoto_ret]
        go_ret2
        exact .inl ⟨by rw [HDEF.out]; decide, congrArg (fun c => Ending.returned (.tuple #[.slice none 0 0, .int .i64 c])) HDEF.out.symm, HS2.out.take 5⟩
      case pos =>
        rw [if_neg (by rw [hac]; decide)] at hdef
        rw [hac] at hadd2
        have hmid := midF_zero (fun i : Nat => blkV vs s t (e.first + i)) (fun i : Nat => (getV vs (e.first + i) t).1) n
        obtain ⟨f, hf⟩ : ∃ f, f = fun i : Nat => blkV vs s t (e.first + i) := ⟨_, rfl⟩
        obtain ⟨gf, hgf⟩ : ∃ gf, gf = fun i : Nat => (getV vs (e.first + i) t).1 := ⟨_, rfl⟩
        rw [show rangeV vs e.first t n = midF f gf n 0 by rw [hf, hgf]; exact hmid.symm] at hadd2
        have hf4 : ∀ i, (f i).length = 40 := fun i => by rw [hf]; exact HF40.out i
        have hg4 : ∀ i, (gf i).length = 40 := fun i => by rw [hgf]; exact HG40.out i
        have HADD2 := Lib.hid hadd2
        have HDEF := Lib.hid hdef
        have HMID := Lib.hid hmid
        have HAC := Lib.hid hac
        have HF := Lib.hid hf
        have HGF := Lib.hid hgf
        have HF4 := Lib.hid hf4
        have HG4 := Lib.hid hg4
        clear hadd2 hdef hmid hac hf hgf hf4 hg4
        go_wp2_with fail
        go_region_held3 (fun W' => W'.cell? ⟨v, 3, none⟩ = some (.pointer (some ⟨sb, 0, none⟩)) ∧ W'.cell? ⟨w.heap.size, 0, none⟩ = some (.int .i64 e.first) ∧ W'.cell? ⟨w.heap.size, 1, none⟩ = some (.int .i64 e.len))
          (first | exact ⟨hv3, hq0, hq1⟩ | go_keep | exact ⟨cell_up (below_alloc w1.drew _) hv3, cell_up (below_alloc w1.drew _) hq0, cell_up (below_alloc w1.drew _) hq1⟩ | exact HK2.out)
          ((go_at_call 44
            refine (HADD2.out).mono ?_
            rintro r w2 ⟨rfl, HK2, HS2⟩))
        have hk20 := HK2.out.2.1
        have hk21 := HK2.out.2.2
        generalize hS' : addNext 64 S [e] = S' at *
        have HS' := Lib.hid hS'
        clear hS'
        clear hv3 hq0 hq1
        go_wp2_with fail
        go_step3
        go_wp2_with fail
        go_loopw [55] (fun i wr => ∃ k : Nat, k ≤ n ∧ i = .int .i64 k ∧ Hid (Sep W [Z, ExtA (.pointer (some ⟨m, 0, none⟩)) blocks last vs, BufA (.pointer (some ⟨b, 0, none⟩)) b2 most s, SetA (.pointer (some ⟨sb, 0, none⟩)) 64 S', ViewA (.pointer (some ⟨v, 0, none⟩)) (.pointer (some ⟨m, 0, none⟩)) (.pointer (some ⟨b, 0, none⟩)) t (.pointer (some ⟨sb, 0, none⟩)) (R ++ readsV vs s t e.first k), BoxA w.heap.size #[.int .i64 e.first, .int .i64 e.len] 39, BytesWA (.slice (some ⟨g, o, none⟩) (40 * n) c) (midF f gf n k)] wr)) (fun i _ => n - (intOf i).toNat)
        case atStart =>
          refine ⟨0, by omega, rfl, ?_⟩
          rw [show readsV vs s t e.first 0 = [] from rfl, List.append_nil]
          exact HS2
        case round =>
          obtain ⟨k, hk, rfl, HS⟩ := hrel
          by_cases hlt : k < n
          case neg =>
            have hkn : k = n := by omega
            subst hkn
            have hkl : ¬ (k : Int) < e.len := by have := HN.out; omega
            have hall := midF_all (f := f) HG4.out k
            have HALL := Lib.hid hall
            clear hall
            go_wp2_with fail
            try rw [Exit.noGoto_ret]
            go_ret2
            refine .inr ⟨HDEF.out, g, o, c, congrArg (fun q => Ending.returned (.tuple #[.slice (some ⟨g, o, none⟩) (40 * q) c, .int .i64 0])) HTN.out.symm, ?_⟩
            rw [HTN.out, HS'.out]
            have hfin := HS.out
            rw [HALL.out, HF.out] at hfin
            exact hfin.erase 5
          case pos =>
            have hkl : (k : Int) < e.len := by have := HN.out; omega
            obtain ⟨bv, rv, hbv, hvl2, hvh2, _⟩ := Go.Proofs.Sep.view_cells HS.out 4 rfl
            cases hbv
            obtain ⟨FX, hFX, _⟩ := HS.out.get 5 rfl
            have hx0 : wr.cell? ⟨w.heap.size, 0, none⟩ = some (.int .i64 e.first) := by rw [cell_row hFX.2]; rfl
            have hv1 : wr.cell? ⟨v, 1, none⟩ = some (.pointer (some ⟨b, 0, none⟩)) := by rw [cell_row hvh2]; rfl
            have hk0 : (0 : Int) ≤ (k : Int) := by omega
            have hk16 : (k : Int) ≤ 16 := by omega
            obtain ⟨hgc, hgm⟩ := HGC.out
            have hm1 : IntKind.i64.wrap ((k : Int) * 40) = (k : Int) * 40 := IntWalk.i64_in _ (by omega)
            have hm2 : IntKind.i64.wrap ((k : Int) + 1) = (k : Int) + 1 := IntWalk.i64_in _ (by omega)
            have hm3 : IntKind.i64.wrap (((k : Int) + 1) * 40) = ((k : Int) + 1) * 40 := IntWalk.i64_in _ (by omega)
            have hm4 : IntKind.i64.wrap (e.first + (k : Int)) = e.first + (k : Int) := IntWalk.i64_in _ (by omega)
            obtain ⟨iu, hiu, _⟩ := info_parts infoU8
            have hml := midF_length HF4.out HG4.out (n := n) (i := k) (by omega)
            have hi64 : I64 (e.first + (k : Int)) := i64_small (by omega)
            obtain ⟨FB, hFB, _⟩ := HS.out.get 2 rfl
            have hget := bufGet_any FB _ _ _ s (e.first + (k : Int)) wr.drew (BufIs.up hFB (below_drewN (Below.refl _ _) 1)) HS0.out.d40
            have hfk : f k = blkV vs s t (e.first + k) := by rw [HF.out]
            have hgk : gf k = (getV vs (e.first + k) t).1 := by rw [HGF.out]
            have hnxt := midF_next HF4.out HG4.out (n := n) (i := k) hlt
            have hsam := midF_same HF4.out HG4.out (n := n) (i := k) hlt
            have hrow := midF_row HF4.out HG4.out (n := n) (i := k) hlt
            obtain ⟨ir, hr0, hr1, hr2, hr3⟩ := info_parts infoRead
            have hxr : wr.drew.cell? ⟨w.heap.size, 0, none⟩ = some (.int .i64 e.first) := hx0
            have hvr : wr.drew.cell? ⟨v, 1, none⟩ = some (.pointer (some ⟨b, 0, none⟩)) := hv1
            have hRl : (R ++ readsV vs s t e.first k).length ≤ 1000020 := by rw [List.length_append, readsV_length]; omega
            have HVH2 := Lib.hid hvh2
            have HML := Lib.hid hml
            have HI64 := Lib.hid hi64
            have HGET := Lib.hid hget
            have HFK := Lib.hid hfk
            have HGK := Lib.hid hgk
            have HNXT := Lib.hid hnxt
            have HSAM := Lib.hid hsam
            have HROW := Lib.hid hrow
            have HRL := Lib.hid hRl
            clear hvh2 hml hi64 hget hfk hgk hnxt hsam hrow hRl
            clear hFX hiu hFB
            cases hlk : alook s (e.first + (k : Int)) with
            | some d =>
              have hd40 : d.length = 40 := (HS0.out.ks _ (alook_in hlk)).2.2
              have hfd : f k = d := by rw [HFK.out]; unfold blkV; rw [hlk]; rfl
              have hmore := read_more vs s t e.first R k (d := d) (own := true) (by rw [← HFK.out, hfd]) (by rw [hlk]; rfl)
              have hget2 : Calls Try.prog 45 #[.pointer (some ⟨b, 0, none⟩), .int .i64 (e.first + (k : Int))] wr.drew fun r w' => ∃ p2 c2, r = .returned (.tuple #[.slice p2 40 c2, .bool true]) ∧ Hid (BytesAt (New wr w') w' (.slice p2 40 c2) d) ∧ Hid (Below wr.heap.size wr w') := HGET.out.mono fun r w' hr => by
                rcases hr with ⟨h1, _⟩ | ⟨d', v', h1, h2, h3, h4⟩
                · rw [hlk] at h1; cases h1
                · rw [hlk] at h1
                  cases h1
                  obtain ⟨p2, c2, rfl⟩ := shape_of h3.bytes hd40
                  exact ⟨p2, c2, h2, h3.bytes, (below_drewN (Below.refl _ _) 1).trans h4⟩
              have HGET2 := Lib.hid hget2
              have HD40 := Lib.hid hd40
              have HFD := Lib.hid hfd
              have HMORE := Lib.hid hmore
              have HLK := Lib.hid hlk
              clear hget2 hd40 hfd hmore hlk
              go_wp2_with fail
              go_region_held3 (fun W' => W'.cell? ⟨v, 1, none⟩ = some (.pointer (some ⟨b, 0, none⟩)) ∧ W'.cell? ⟨w.heap.size, 0, none⟩ = some (.int .i64 e.first))
                (first | exact ⟨hvr, hxr⟩ | go_keep | exact ⟨cell_up HB5.out hv1, cell_up HB5.out hx0⟩)
                ((go_at_call 45
                  refine (HGET2.out).mono ?_
                  rintro r w5 ⟨p2, c2, rfl, HD5, HB5⟩))
              have hS5 := HS.out.new HB5.out (DatumA (.slice p2 40 c2) d) (F := New wr w5) (fun _ h => h) HD5.out
              obtain ⟨hS6, hci, hcf⟩ := Go.Proofs.Sep.bytes_splice hS5 6 rfl (k * 40) d (by rw [HML.out, HD40.out]; omega)
              rw [show midF f gf n k = midF f gf n k from rfl] at hS6
              have hnx := HNXT.out
              rw [HFD.out, show 40 * k = k * 40 by omega] at hnx
              rw [hnx] at hS6
              obtain ⟨sbk, so, rfl, hsrc⟩ := bytes_news HD5.out (by rw [HD40.out]; omega)
              have hcp := run_copy_cells (P := Try.prog) w5 26 26 3 5 g (o + k * 40) ((k + 1) * 40 - k * 40) (c - k * 40) ⟨sbk, so, none⟩ 40 c2 (u8v d) Try.underlying26 (by kernel_rfl) (by rw [u8v_length, HD40.out, show (k + 1) * 40 - k * 40 = 40 by omega]; rfl) hsrc (fun j hj => hci j (by rw [u8v_length] at hj; exact hj)) (fun j hj => hcf j (by rw [u8v_length] at hj; exact hj)) (fun x hx => by obtain ⟨y, _, rfl⟩ := List.mem_map.1 hx; rfl)
              generalize hw6 : w5.setCells g (o + k * 40) (u8v d) = w6 at *
              have HS6 := Lib.hid hS6
              have HW6 := Lib.hid hw6
              clear hS6 hw6
              clear hci hcf hsrc hS5 hvr hxr
              go_wp2_with fail
              clear hcp
              have hSd := HS6.out.up (w' := w6.drew) (below_drewN (Below.refl _ _) 1)
              obtain ⟨rv6, css, hh6, hbl6, hrw6, hne6, hnx6⟩ := Go.Proofs.Sep.view_push hSd 4 7 (by decide) rfl rfl
              obtain ⟨FX, hFX, hdX⟩ := hSd.get 5 rfl
              have hx6 : w6.drew.cell? ⟨w.heap.size, 0, none⟩ = some (.int .i64 e.first) := by rw [cell_row hFX.2]; rfl
              have hv6 : w6.drew.cell? ⟨v, 4, none⟩ = some rv6 := by rw [cell_row hh6]; rfl
              obtain ⟨len, hlen⟩ : ∃ len, (R ++ readsV vs s t e.first k).length = len := ⟨_, rfl⟩
              have hRl := HRL.out
              rw [hlen] at hrw6 hnx6 hRl
              obtain ⟨p6, c6, rfl⟩ := ownsRow_shape hrw6
              have hba6 := below_alloc w6.drew (.cells #[.int .i64 (e.first + (k : Int)), .slice (some ⟨sbk, so, none⟩) 40 c2, .bool true] 64)
              have hx6a : (w6.alloc (.cells #[.int .i64 (e.first + (k : Int)), .slice (some ⟨sbk, so, none⟩) 40 c2, .bool true] 64)).cell? ⟨w.heap.size, 0, none⟩ = some (.int .i64 e.first) := cell_up hba6 hx6
              have hv6a : (w6.alloc (.cells #[.int .i64 (e.first + (k : Int)), .slice (some ⟨sbk, so, none⟩) 40 c2, .bool true] 64)).cell? ⟨v, 4, none⟩ = some (.slice p6 len c6) := cell_up hba6 hv6
              have hx6b : w6.cell? ⟨w.heap.size, 0, none⟩ = some (.int .i64 e.first) := hx6
              have hv6b : w6.cell? ⟨v, 4, none⟩ = some (.slice p6 len c6) := hv6
              have hr6a := ownsRow_up hrw6 hba6
              have hh6a := (hba6.block v hbl6).trans hh6
              have HLEN := Lib.hid hlen
              have HH6 := Lib.hid hh6
              have HRW6 := Lib.hid hrw6
              have HNX6 := Lib.hid hnx6
              have HBA6 := Lib.hid hba6
              have HR6A := Lib.hid hr6a
              have HH6A := Lib.hid hh6a
              clear hlen hh6 hrw6 hnx6 hba6 hr6a hh6a
              clear hFX hdX hSd hx0 hv1
              go_region_law ((
                refine step_append_lies _ (by rfl) _ _ _ (by rfl) 0 64 ir (.agg #[.int .i64 0, .slice none 0 0, .bool false]) 3 40 Try.underlying55 hr0 hr1 hr2 hr3 (by rfl) (by decide) _ len css.flatten (by rfl) HR6A.out ⟨w6.heap.size, 0, none⟩ 1 1 [.int .i64 (e.first + (k : Int)), .slice (some ⟨sbk, so, none⟩) 40 c2, .bool true] (by rfl) (by rfl) (World.news_of_block (cs := #[.int .i64 (e.first + (k : Int)), .slice (some ⟨sbk, so, none⟩) 40 c2, .bool true]) (heap_alloc_new w6.drew _)) (by simp [Value.oneCell']) (by decide) (by unfold maxLen; omega) (by omega) (Nat.zero_le _) (w6.heap.size + 1) (by simp) ?_
                intro g9 c9 w9 hown9 hgrow9 hat9 hlt9
                have hh9 := (hgrow9.block v (Nat.lt_of_lt_of_le hbl6 HBA6.out.size) (fun e => hne6 e.symm)).trans HH6A.out
                have hv9 : w9.cell? ⟨v, 4, none⟩ = some (.slice p6 len c6) := by rw [cell_row hh9]; rfl
                have hz9 : w9.frozen? ⟨v, 4, none⟩ = false := fz_row hh9 4))
              all_goals
                have hS10 := HNX6.out w9 g9 c9 (e.first + (k : Int)) true HI64.out hown9 hgrow9 hat9 hlt9
                rw [HMORE.out] at hS10
                have hS11 := hS10.take 7
                have HS11 := Lib.hid hS11
                clear hS11
                clear hS10 hown9 hgrow9 hat9 hlt9 hv9 hz9 hh9
                go_wp2_with fail
                go_roundw
                case rel => exact ⟨k + 1, by omega, by go_num, HS11.out⟩
                case measure => simp [intOf]; omega
            | none =>
              have hfg : f k = gf k := by rw [HFK.out, HGK.out]; unfold blkV; rw [hlk]; rfl
              have hmore := read_more vs s t e.first R k (d := gf k) (own := false) (by rw [← HFK.out, hfg]) (by rw [hlk]; rfl)
              have hget2 : Calls Try.prog 45 #[.pointer (some ⟨b, 0, none⟩), .int .i64 (e.first + (k : Int))] wr.drew fun r w' => ∃ p2 c2, r = .returned (.tuple #[.slice p2 0 c2, .bool false]) ∧ Hid (Below wr.heap.size wr w') := HGET.out.mono fun r w' hr => by
                rcases hr with ⟨_, p2, c2, h1, _, h3⟩ | ⟨d', v', h1, _⟩
                · exact ⟨p2, c2, h1, (below_drewN (Below.refl _ _) 1).trans h3⟩
                · rw [hlk] at h1; cases h1
              have HGET2 := Lib.hid hget2
              have HFG := Lib.hid hfg
              have HMORE := Lib.hid hmore
              have HLK := Lib.hid hlk
              clear hget2 hfg hmore hlk
              go_wp2_with fail
              go_region_held3 (fun W' => W'.cell? ⟨v, 1, none⟩ = some (.pointer (some ⟨b, 0, none⟩)) ∧ W'.cell? ⟨w.heap.size, 0, none⟩ = some (.int .i64 e.first))
                (first | exact ⟨hvr, hxr⟩ | go_keep | exact ⟨cell_up HB5.out hv1, cell_up HB5.out hx0⟩)
                ((go_at_call 45
                  refine (HGET2.out).mono ?_
                  rintro r w5 ⟨p2, c2, rfl, HB5⟩))
              have hS5 := HS.out.up HB5.out
              obtain ⟨bv, rv5, hbv, hbl5, hh5, p6, c6, hrv5⟩ := Go.Proofs.Sep.view_cells hS5 4 rfl
              cases hbv
              obtain ⟨len, hlen⟩ : ∃ len, (R ++ readsV vs s t e.first k).length = len := ⟨_, rfl⟩
              have hRl := HRL.out
              rw [hlen] at hrv5 hRl
              subst hrv5
              have hx5 : w5.cell? ⟨w.heap.size, 0, none⟩ = some (.int .i64 e.first) := cell_up HB5.out hx0
              have hv5 : w5.cell? ⟨v, 4, none⟩ = some (.slice p6 len c6) := by rw [cell_row hh5]; rfl
              obtain ⟨FO, hFO, _⟩ := hS5.get 6 rfl
              have hsub := bytesW_sub hFO (i := k * 40) (r := gf k) (by rw [HML.out, HG4.out]; omega) (fun j hj => by
                have := HROW.out j (by rw [HG4.out] at hj; exact hj)
                rw [show 40 * k + j = k * 40 + j by omega] at this
                exact this)
              rw [HG4.out k, show (40 : Nat) = (k + 1) * 40 - k * 40 by omega] at hsub
              rw [show k * ((k + 1) * 40 - k * 40) = k * 40 by rw [show (k + 1) * 40 - k * 40 = 40 by omega]] at hsub
              have hcl : Calls Try.prog 46 #[.slice (some ⟨g, o + k * 40, none⟩) ((k + 1) * 40 - k * 40) (c - k * 40)] w5.drew fun r w' => ∃ p7 c7, r = .returned (.slice p7 40 c7) ∧ Hid (BytesAt (New w5 w') w' (.slice p7 40 c7) (gf k)) ∧ Hid (Below w5.heap.size w5 w') := (clone_any FO _ (gf k) w5.drew (BytesAt.up hsub (below_drewN (Below.refl _ _) 1)) (by rw [HG4.out]; omega)).mono fun r w' hr => by
                obtain ⟨v7, h1, h2, h3⟩ := hr
                obtain ⟨p7, c7, rfl⟩ := shape_of h2 (HG4.out k)
                exact ⟨p7, c7, h1, h2, (below_drewN (Below.refl _ _) 1).trans h3⟩
              obtain ⟨F4, F5, ⟨bv4, rv4, D4, hbv4, hfb4, hh4, _, ho4, _⟩, hF5, h45, _, _⟩ := hS5.two 4 5 (by decide) rfl rfl
              cases hbv4
              obtain rfl : rv4 = .slice p6 len c6 := by
                have := hh4.symm.trans hh5
                simpa using this
              have hbv : w.heap.size ≠ v := fun e => h45 v hfb4 (e ▸ hF5.1)
              have hnb : (Value.slice p6 len c6).ownBlock ≠ some w.heap.size := fun e => h45 _ (ho4 _ e).1 hF5.1
              have HBV := Lib.hid hbv
              have HNB := Lib.hid hnb
              clear hbv hnb
              clear ho4 h45 hF5 hfb4 hh4
              have HH5 := Lib.hid hh5
              have HS5 := Lib.hid hS5
              have HCL := Lib.hid hcl
              have HLEN := Lib.hid hlen
              clear hS5 hcl hlen
              clear hh5 hFO hsub hvr hxr hx0 hv1
              go_wp2_with fail
              go_region_law ((first
                | (go_simp
                   go_at_call 46
                   refine (HCL.out).mono ?_
                   rintro r w7 ⟨p7, c7, rfl, HD7, HB7⟩
                   have hS7 := HS5.out.new HB7.out (DatumA (.slice p7 40 c7) (gf k)) (F := New w5 w7) (fun _ h => h) HD7.out
                   obtain ⟨rv7, css, hh7, hbl7, hrw7, hne7, hnx7⟩ := Go.Proofs.Sep.view_push hS7 4 7 (by decide) rfl rfl
                   have hee := hh7.symm.trans ((HB7.out.block v hbl5).trans HH5.out)
                   obtain rfl : rv7 = .slice p6 len c6 := by simpa using hee
                   rw [HLEN.out] at hrw7 hnx7
                   have hba7 := below_alloc w7 (.cells #[.int .i64 (e.first + (k : Int)), .slice p7 40 c7, .bool false] 64)
                   have hv7 : w7.cell? ⟨v, 4, none⟩ = some (.slice p6 len c6) := by rw [cell_row hh7]; rfl
                   have hx7 : w7.cell? ⟨w.heap.size, 0, none⟩ = some (.int .i64 e.first) := cell_up HB7.out hx5
                   have hv7a := cell_up hba7 hv7
                   have hx7a := cell_up hba7 hx7
                   have hr7a := ownsRow_up hrw7 hba7
                   have hh7a := (hba7.block v hbl7).trans hh7
                   have hbx7 : w.heap.size < w7.heap.size := World.block_lt_of_cell? _ _ hx7
                   have hnb7 : (Value.slice p6 len c6).ownBlock ≠ some w.heap.size := HNB.out
                   have HNX7 := Lib.hid hnx7
                   have HBA7 := Lib.hid hba7
                   have HR7A := Lib.hid hr7a
                   have HH7A := Lib.hid hh7a
                   clear hS7 hee hh7 hrw7 hnx7 hba7 hr7a hh7a)
                | (refine step_append_lies _ (by rfl) _ _ _ (by rfl) 0 64 ir (.agg #[.int .i64 0, .slice none 0 0, .bool false]) 3 40 Try.underlying55 hr0 hr1 hr2 hr3 (by rfl) (by decide) _ len css.flatten (by rfl) HR7A.out ⟨w7.heap.size, 0, none⟩ 1 1 [.int .i64 (e.first + (k : Int)), .slice p7 40 c7, .bool false] (by rfl) (by rfl) (World.news_of_block (cs := #[.int .i64 (e.first + (k : Int)), .slice p7 40 c7, .bool false]) (heap_alloc_new w7 _)) (by simp [Value.oneCell']) (by decide) (by unfold maxLen; omega) (by omega) (Nat.zero_le _) (w7.heap.size + 1) (by simp) ?_
                   intro g9 c9 w9 hown9 hgrow9 hat9 hlt9
                   have hh9 := (hgrow9.block v (Nat.lt_of_lt_of_le hbl7 HBA7.out.size) (fun e => hne7 e.symm)).trans HH7A.out
                   have hv9 : w9.cell? ⟨v, 4, none⟩ = some (.slice p6 len c6) := by rw [cell_row hh9]; rfl
                   have hz9 : w9.frozen? ⟨v, 4, none⟩ = false := fz_row hh9 4
                   have hx9 : w9.cell? ⟨w.heap.size, 0, none⟩ = some (.int .i64 e.first) := (World.cell?_of_block (hgrow9.block w.heap.size (Nat.lt_of_lt_of_le hbx7 HBA7.out.size) (fun e => hnb7 e.symm))).trans hx7a)))
              all_goals
                have hS10 := HNX7.out w9 g9 c9 (e.first + (k : Int)) false HI64.out hown9 hgrow9 hat9 hlt9
                rw [HMORE.out, HSAM.out HFG.out] at hS10
                have hS11 := hS10.take 7
                have HS11 := Lib.hid hS11
                clear hS11
                clear hS10 hown9 hgrow9 hat9 hlt9 hv9 hz9 hh9
                go_wp2_with fail
                go_roundw
                case rel => exact ⟨k + 1, by omega, by go_num, HS11.out⟩
                case measure => simp [intOf]; omega
end Go.Proofs
