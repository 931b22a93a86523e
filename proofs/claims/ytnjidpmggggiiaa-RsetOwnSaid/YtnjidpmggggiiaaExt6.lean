/- Package extmap: Range. -/
import Derived.Test.YtnjidpmggggiiaaExt5
namespace Go.Proofs
open Go.RowKit Sc

abbrev u8s (l : Bytes) : List Value := l.map fun x => Value.int .u8 (x.toNat : Int)
theorem bytes_news {G : Nat → Prop} {w : World} {dp : Option Addr} {n c : Nat} {l : Bytes} (h : BytesAt G w (.slice dp n c) l) (hl : 0 < l.length) :
    ∃ b o, dp = some ⟨b, o, none⟩ ∧ ∀ j u, (u8s l)[j]? = some u → w.cell? ((⟨b, o, none⟩ : Addr).add j) = some u := by
  obtain ⟨p, c', he, _, _, _, h4⟩ := h
  cases he
  obtain ⟨b, o, rfl, _, _⟩ := h4 0 hl
  refine ⟨b, o, rfl, fun j u hu => ?_⟩
  have hj : j < l.length := by have := (List.getElem?_eq_some_iff.1 hu).1; simpa using this
  obtain ⟨b', o', he, _, hc⟩ := h4 j hj
  cases he
  have hadd : (⟨b, o, none⟩ : Addr).add j = ⟨b, o + j, none⟩ := by unfold Addr.add; split <;> simp_all
  rw [hadd]
  unfold byteE at hc
  rw [Nat.mul_one] at hc
  rw [hc, ← hu, List.getElem?_map, List.getElem?_eq_getElem hj]; rfl

/-- What an extent's blocks were at a time. -/
def rangeV (vs : Vers) (a t : Int) (m : Nat) : Bytes := (List.range m).flatMap fun i : Nat => (getV vs (a + i) t).1
theorem rangeV_succ (vs : Vers) (a t : Int) (m : Nat) : rangeV vs a t (m + 1) = rangeV vs a t m ++ (getV vs (a + m) t).1 := by
  unfold rangeV; rw [List.range_succ, List.flatMap_append]; simp
theorem rangeV_length {vs : Vers} {a t : Int} (h : ∀ b, (getV vs b t).1.length = 40) (m : Nat) : (rangeV vs a t m).length = 40 * m := by
  induction m with
  | zero => rfl
  | succ m ih => rw [rangeV_succ, List.length_append, ih, h]; omega
def ExtRangeSaid (blocks : Int) (vs : Vers) (a n t : Int) (w : World) (e : Ending) (w' : World) : Prop :=
  (withinB blocks a n = false ∧ e = .returned (.tuple #[.slice none 0 0, .int .i64 2]) ∧ Below w.heap.size w w') ∨
  (withinB blocks a n = true ∧ ∃ v, e = .returned (.tuple #[v, .int .i64 0]) ∧ BytesW (New w w') w' v (rangeV vs a t n.toNat) ∧ Below w.heap.size w w')

set_option maxRecDepth 100000 in
set_option maxHeartbeats 2000000 in
theorem extRange_any (F : Nat → Prop) (v : Value) (blocks last : Int) (vs : Vers) (a n t : Int) (w : World) (h : ExtIs F w v blocks last vs) (hbl : blocks ≤ 1048576) (hs : ∀ k l, alook vs k = some l → ∀ p ∈ l, p.data.length ≤ 1000000) (h40 : ∀ b, (getV vs b t).1.length = 40) :
    Calls Try.prog 43 #[v, .agg #[.int .i64 a, .int .i64 n], .int .i64 t] w (ExtRangeSaid blocks vs a n t w) := by
  have H := Lib.hid h
  have HS := Lib.hid hs
  have H4Z := Lib.hid h40
  clear h hs h40
  have hb0 := below_alloc w (.cells #[.int .i64 a, .int .i64 n] 39)
  have hc0 : (w.alloc (.cells #[.int .i64 a, .int .i64 n] 39)).cell? ⟨w.heap.size, 0, none⟩ = some (.int .i64 a) := by rw [cell_row (heap_alloc_new w _)]; rfl
  have hc1 : (w.alloc (.cells #[.int .i64 a, .int .i64 n] 39)).cell? ⟨w.heap.size, 1, none⟩ = some (.int .i64 n) := by rw [cell_row (heap_alloc_new w _)]; rfl
  have hz0 : (w.alloc (.cells #[.int .i64 a, .int .i64 n] 39)).heap.size = w.heap.size + 1 := by simp
  have HB0 := Lib.hid hb0
  clear hb0
  cases hq : withinB blocks a n with
  | false =>
    have HQ := Lib.hid hq
    clear hq
    clear hz0
    go_enter Try.func43, Try.ntmps43
    go_wp2_with fail
    refine (extWithin_any F _ _ _ _ a n _ (H.out.up HB0.out) hbl).mono ?_
    rintro e w1 ⟨rfl, hb1⟩
    rw [HQ.out]
    have hb01 := Below.up HB0.out hb1
    have HB01 := Lib.hid hb01
    clear hb01
    go_wp2
    go_ret2
    exact .inl ⟨HQ.out, rfl, HB01.out⟩
  | true =>
    have hq' := hq
    unfold withinB at hq'
    simp only [Bool.and_eq_true, decide_eq_true_eq] at hq'
    obtain ⟨⟨⟨q1, q2⟩, q3⟩, q4⟩ := hq'
    obtain ⟨N, rfl⟩ := Int.eq_ofNat_of_zero_le (show 0 ≤ n by omega)
    obtain ⟨i0, hi, hp0, hp1, hp2⟩ := info_parts infoU8
    have HQ := Lib.hid hq
    clear hq
    go_enter Try.func43, Try.ntmps43
    go_wp2_with fail
    refine (extWithin_any F _ _ _ _ a N _ (H.out.up HB0.out) hbl).mono ?_
    rintro e w1 ⟨rfl, hb1⟩
    rw [HQ.out]
    have hd0 := (hb1.cell (p := ⟨w.heap.size, 0, none⟩) (by simp only [hz0]; omega)).trans hc0
    have hd1 := (hb1.cell (p := ⟨w.heap.size, 1, none⟩) (by simp only [hz0]; omega)).trans hc1
    have hz1 := hb1.size
    rw [hz0] at hz1
    have hb01 := Below.up HB0.out hb1
    have HB01 := Lib.hid hb01
    clear hb01
    clear hc0 hc1 hb1 hz0
    go_wp2_with fail
    go_loopw [6, 17] (fun vo iv wr => ∃ m : Nat, ∃ po c, m ≤ N ∧ iv = .int .i64 m ∧ vo = .slice po (40 * m) c ∧ Hid (wr.ownsRow w1.heap.size 5 1 (.slice po (40 * m) c) (40 * m) (u8s (rangeV vs a t m))) ∧ Hid (Below w1.heap.size w1 wr)) (fun _ iv _ => N - (intOf iv).toNat)
    case atStart => exact ⟨0, none, 0, by omega, rfl, rfl, World.ownsRow_nil _ _ _ _, Below.refl _ _⟩
    case round =>
      obtain ⟨m, po, c, hm, rfl, rfl, HO, HB⟩ := hrel
      have hbw : Below w.heap.size w wr := HB01.out.trans (HB.out.mono (by omega))
      by_cases hlt : m < N
      case neg =>
        obtain rfl : m = N := by omega
        have HBW := Lib.hid hbw
        clear hbw
        go_wp2_with fail
        go_ret2
        refine .inr ⟨HQ.out, _, rfl, ?_, HBW.out⟩
        have hr := bytesW_own (B := w1.heap.size) (New w wr) (rangeV_length H4Z.out m) (fun q h1 h2 => ⟨by omega, h2⟩) HO.out
        simpa using hr
      case pos =>
        have he0 := (HB.out.cell (p := ⟨w.heap.size, 0, none⟩) (by simp only; omega)).trans hd0
        have hw1 : IntKind.i64.wrap (a + (m : Int)) = a + (m : Int) := IntWalk.i64_in _ (by omega)
        have hbk : blk blocks (a + m) = true := by unfold blk; rw [decide_eq_true (by omega), decide_eq_true (by omega)]; rfl
        have hm0 : (m : Int) < (N : Int) := by omega
        have hget := extGet_any F _ _ _ _ (a + m) t wr (H.out.up hbw) HS.out
        have hlen := H4Z.out (a + m)
        have hsucc := rangeV_succ vs a t m
        generalize (getV vs (a + m) t).2 = since at hget
        have HBK := Lib.hid hbk
        have HBW := Lib.hid hbw
        have HGET := Lib.hid hget
        have HLEN := Lib.hid hlen
        have HSUCC := Lib.hid hsucc
        clear hbk hbw hget hlen hsucc
        clear hd0 hd1
        go_wp2_with fail
        refine (HGET.out).mono ?_
        rintro e w7 (⟨hno, _⟩ | ⟨_, v7, rfl, hv7, hb7⟩)
        · exact absurd (hno.symm.trans HBK.out) (by decide)
        generalize (getV vs (a + m) t).1 = d at *
        obtain ⟨dp, dc, rfl⟩ := shape_of hv7.bytes HLEN.out
        obtain ⟨gb, ob, rfl, hnews⟩ := bytes_news hv7.bytes (by rw [HLEN.out]; omega)
        have hrow7 := row_same (F := fun q => q < wr.heap.size) (fun q hq => hb7.block q hq) HO.out (fun g hg => (HO.out.lt g hg).2)
        have hl1 : (u8s d).length = 40 * 1 := by unfold u8s; rw [List.length_map, HLEN.out]
        have hone : ∀ u ∈ u8s d, u.oneCell' = true := fun u hu => by obtain ⟨z, _, rfl⟩ := List.mem_map.1 hu; rfl
        have hz7 : w1.heap.size ≤ w7.heap.size := Nat.le_trans HB.out.size hb7.size
        have HNEWS := Lib.hid hnews
        have HROW7 := Lib.hid hrow7
        have HB7 := Lib.hid hb7
        have HL1 := Lib.hid hl1
        have HONE := Lib.hid hone
        have HV7 := Lib.hid hv7
        clear hnews hrow7 hb7 hl1 hone hv7
        go_wp2_with (at_builtin; refine wpList_append_lies _ rfl _ _ 26 rfl w1.heap.size 5 i0 (.int .u8 0) 1 1 Try.underlying26 hi hp0 hp1 hp2 rfl (by decide) _ (40 * m) (u8s (rangeV vs a t m)) rfl HROW7.out ⟨gb, ob, none⟩ 40 dc (u8s d) rfl HL1.out HNEWS.out HONE.out (by decide) (by unfold maxLen; omega) (by omega) hz7 w7.heap.size rfl ?_; intro gg cap w8 hown8 hgrow8 hat8 hlt8)
        go_roundw
        case rel =>
          refine ⟨m + 1, some ⟨gg, 0, none⟩, cap, by omega, by go_num, by rw [Nat.mul_succ], ?_, ?_⟩
          · unfold Hid
            rw [HSUCC.out, Nat.mul_succ]
            simpa [u8s] using hown8
          · exact (HB.out.trans (HB7.out.mono HB.out.size)).grown hgrow8 hz7 (fun q hq => (HO.out.lt q hq).1)
        case measure => simp [intOf]; omega
end Go.Proofs
