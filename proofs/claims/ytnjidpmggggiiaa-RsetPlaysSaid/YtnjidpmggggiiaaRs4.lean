/- Texts of this claim, one behind the other: Wbuf1, Wbuf2, RefBufPlain, RefBuf, View1, Ext5, Ext6, BufSep, View2, Zoom, OutA, Cuts, Cuts2. -/
import Derived.Deep.RegionHeld3
import Derived.BigQuiet
import Derived.Deep.QuietTactic
import Derived.Lib.AppendZeros
import Derived.Deep.DeepCutAuto
import Derived.Deep.CutRange
import Derived.Laws.IdiomCopy
import Derived.Deep.AppendLies
import Derived.Test.YtnjidpmggggiiaaRs3

/- Package wbuf: what a Buf holds in memory; New, Get, twice. -/
namespace Go.Proofs
open Go.RowKit Sc

/-- A Buf, in the blocks F: what it holds, in the order of its birth. -/
structure BufIs (F : Nat → Prop) (w : World) (v : Value) (blocks most : Int) (s : List (Int × Bytes)) : Prop where
  out : ∃ b r ml, v = .pointer (some ⟨b, 0, none⟩) ∧ F b ∧ F r ∧ w.heap[b]? = some (.cells #[.int .i64 blocks, .int .i64 most, .map (some r)] 120 (0, 0)) ∧ MapIs w r ml ∧ AL (BytesAt (fun k => F k ∧ k ≠ b ∧ k ≠ r) w) ml s
  dom : Dom F w
theorem BufIs.same {F : Nat → Prop} {w w' : World} {v : Value} {blocks most : Int} {s : List (Int × Bytes)} (h : BufIs F w v blocks most s) (hs : Same F w w') (hz : w.heap.size ≤ w'.heap.size) : BufIs F w' v blocks most s := by
  obtain ⟨⟨b, r, ml, h1, h2, h3, h4, h5, h6⟩, hd⟩ := h
  exact ⟨⟨b, r, ml, h1, h2, h3, by rw [hs b h2]; exact h4, h5.same hs h3, h6.imp fun _ _ h => h.same (hs.mono fun _ h => h.1)⟩, hd.of_size hz⟩
theorem BufIs.up {F : Nat → Prop} {w w' : World} {v : Value} {blocks most : Int} {s : List (Int × Bytes)} (h : BufIs F w v blocks most s) (hb : Below w.heap.size w w') : BufIs F w' v blocks most s := h.same (h.dom.same hb) hb.size
theorem BufIs.more {F : Nat → Prop} {w w' : World} {v : Value} {blocks most : Int} {s : List (Int × Bytes)} (h : BufIs F w v blocks most s) (hb : Below w.heap.size w w') : BufIs (fun k => F k ∨ New w w' k) w' v blocks most s := by
  obtain ⟨⟨b, r, ml, h1, h2, h3, h4, h5, h6⟩, hd⟩ := h.up hb
  exact ⟨⟨b, r, ml, h1, .inl h2, .inl h3, h4, h5, h6.imp fun _ _ h => h.mono fun _ h => ⟨.inl h.1, h.2⟩⟩, fun k hk => hk.elim (hd k) (fun h => h.2)⟩
def BufA (v : Value) (blocks most : Int) (s : List (Int × Bytes)) : Asn := ⟨fun F w => BufIs F w v blocks most s, fun _ _ _ hs hz h => h.same hs hz⟩
theorem BufIs.cells {F : Nat → Prop} {w : World} {v : Value} {blocks most : Int} {s : List (Int × Bytes)} (h : BufIs F w v blocks most s) :
    ∃ b r ml, v = .pointer (some ⟨b, 0, none⟩) ∧ F b ∧ F r ∧ b ≠ r ∧ b < w.heap.size ∧ w.cell? ⟨b, 0, none⟩ = some (.int .i64 blocks) ∧ w.cell? ⟨b, 1, none⟩ = some (.int .i64 most) ∧ w.cell? ⟨b, 2, none⟩ = some (.map (some r)) ∧ MapIs w r ml ∧ AL (BytesAt (fun k => F k ∧ k ≠ b ∧ k ≠ r) w) ml s := by
  obtain ⟨⟨b, r, ml, h1, h2, h3, h4, h5, h6⟩, hd⟩ := h
  refine ⟨b, r, ml, h1, h2, h3, ?_, hd b h2, by rw [cell_row h4]; rfl, by rw [cell_row h4]; rfl, by rw [cell_row h4]; rfl, h5, h6⟩
  rintro rfl
  obtain ⟨_, _, hq, _⟩ := h5
  rw [h4] at hq; cases hq

structure BufB (F : Nat → Prop) (w : World) (b r : Nat) (ml : List (Int × Value)) (blocks most : Int) (s : List (Int × Bytes)) : Prop where
  fb : F b
  fr : F r
  hb : w.heap[b]? = some (.cells #[.int .i64 blocks, .int .i64 most, .map (some r)] 120 (0, 0))
  hm : MapIs w r ml
  ha : AL (BytesAt (fun k => F k ∧ k ≠ b ∧ k ≠ r) w) ml s
  dom : Dom F w
theorem BufIs.parts {F : Nat → Prop} {w : World} {v : Value} {blocks most : Int} {s : List (Int × Bytes)} (h : BufIs F w v blocks most s) : ∃ b r ml, v = .pointer (some ⟨b, 0, none⟩) ∧ BufB F w b r ml blocks most s := by
  obtain ⟨⟨b, r, ml, h1, h2, h3, h4, h5, h6⟩, hd⟩ := h
  exact ⟨b, r, ml, h1, h2, h3, h4, h5, h6, hd⟩
theorem BufB.is {F : Nat → Prop} {w : World} {b r : Nat} {ml : List (Int × Value)} {blocks most : Int} {s : List (Int × Bytes)} (h : BufB F w b r ml blocks most s) : BufIs F w (.pointer (some ⟨b, 0, none⟩)) blocks most s :=
  ⟨⟨b, r, ml, rfl, h.fb, h.fr, h.hb, h.hm, h.ha⟩, h.dom⟩
theorem BufB.ne {F : Nat → Prop} {w : World} {b r : Nat} {ml : List (Int × Value)} {blocks most : Int} {s : List (Int × Bytes)} (h : BufB F w b r ml blocks most s) : b ≠ r := by
  rintro rfl
  obtain ⟨_, _, hq, _⟩ := h.hm
  have := h.hb
  rw [hq] at this; cases this
theorem BufB.put {F : Nat → Prop} {w w7 w8 : World} {b r : Nat} {ml : List (Int × Value)} {blocks most : Int} {s : List (Int × Bytes)} (h : BufB F w b r ml blocks most s) {k : Int} {v : Value} {d : Bytes}
    (hb7 : Below w.heap.size w w7) (hv : BytesAt (New w w7) w7 v d) (hm8 : MapIs w8 r (aset ml k v)) (hT : Turned r w7 w8) :
    BufB (fun q => F q ∨ New w w8 q) w8 b r (aset ml k v) blocks most (aset s k d) ∧ Chg F w w8 := by
  have hbr := h.ne
  have hbl := h.dom b h.fb
  have hrl := h.dom r h.fr
  have hz7 := hb7.size
  have hz8 := hT.size
  have keep : ∀ q, q < w.heap.size → q ≠ r → w8.heap[q]? = w.heap[q]? := fun q hq hne => (hT.block q hne).trans (hb7.block q hq)
  refine ⟨⟨.inl h.fb, .inl h.fr, by rw [keep b hbl hbr]; exact h.hb, hm8, ?_, fun q hq => hq.elim (fun hf => by have := h.dom q hf; omega) (fun hf => hf.2)⟩, ⟨by rw [hT.os, hb7.os], by rw [hT.tape, hb7.tape], by rw [hT.output, hb7.output], by omega, fun q hq hn => keep q hq (fun e => hn (e ▸ h.fr))⟩⟩
  refine AL.set k ?_ (h.ha.imp fun a c hac => ?_)
  · refine (hv.cells fun a => hT.cell a).mono fun q hq => ⟨.inr ⟨hq.1, by have := hq.2; omega⟩, ?_, ?_⟩
    · have := hq.1; omega
    · have := hq.1; omega
  · exact (hac.same fun q hq => keep q (h.dom q hq.1) hq.2.2).mono fun q hq => ⟨.inl hq.1, hq.2⟩
theorem BufB.wider {F F' : Nat → Prop} {w : World} {b r : Nat} {ml : List (Int × Value)} {blocks most : Int} {s : List (Int × Bytes)} (q : BufB F w b r ml blocks most s) (up : ∀ k, F k → F' k) (hd : Dom F' w) : BufB F' w b r ml blocks most s :=
  ⟨up _ q.fb, up _ q.fr, q.hb, q.hm, q.ha.imp fun _ _ h => h.mono fun _ h => ⟨up _ h.1, h.2⟩, hd⟩
def BufNewSaid (n m : Int) (w : World) (e : Ending) (w' : World) : Prop := ∃ b : Nat, e = .returned (.tuple #[.pointer (some ⟨b, 0, none⟩), .int .i64 0]) ∧ BufIs (New w w') w' (.pointer (some ⟨b, 0, none⟩)) n m [] ∧ Below w.heap.size w w'
set_option maxHeartbeats 400000 in
theorem bufNew_any (n m : Int) (w : World) (h1 : 1 ≤ n) (h2 : n ≤ 1048576) (h3 : 0 ≤ m) : Calls Try.prog 39 #[.int .i64 n, .int .i64 m] w (BufNewSaid n m w) := by
  have hmm := @run_makeMap Try.prog
  go_enter Try.func39, Try.ntmps39
  go_wp2
  go_ret2
  have hm := MapIs.made w
  refine ⟨w.heap.size + 1, rfl, ⟨⟨w.heap.size + 1, w.heap.size, [], rfl, by simp [New], by simp [New]; omega, heap_new (by simp), hm.same (G := (· < w.heap.size + 1)) (fun k hk => heap_old (by simpa using hk)) (by simp), trivial⟩, fun k hk => hk.2⟩, ?_⟩
  exact ((Below.refl _ _).alloc (Nat.le_refl _) _).alloc (by simp) _

/-- What Get gives. -/
def BufGetSaid (s : List (Int × Bytes)) (lba : Int) (w : World) (e : Ending) (w' : World) : Prop :=
  (alook s lba = none ∧ ∃ p c, e = .returned (.tuple #[.slice p 0 c, .bool false]) ∧ BytesW (New w w') w' (.slice p 0 c) [] ∧ Below w.heap.size w w') ∨
  (∃ d v, alook s lba = some d ∧ e = .returned (.tuple #[v, .bool true]) ∧ BytesW (New w w') w' v d ∧ Below w.heap.size w w')
set_option maxRecDepth 100000 in
set_option maxHeartbeats 1000000 in
theorem bufGet_any (F : Nat → Prop) (v : Value) (blocks most : Int) (s : List (Int × Bytes)) (lba : Int) (w : World) (h : BufIs F w v blocks most s) (h40 : ∀ x ∈ s, x.2.length ≤ 1000000) :
    Calls Try.prog 45 #[v, .int .i64 lba] w (BufGetSaid s lba w) := by
  obtain ⟨b, r, ml, rfl, _, _, _, hb, hc0, hc1, hc2, hm, ha⟩ := h.cells
  have hl := hm.lookup (P := Try.prog) Try.underlying118 Try.underlying3 (Try.zeroValue26 _) lba true
  rcases ha.look lba with ⟨h1, h2⟩ | ⟨u, d, h1, h2, h3⟩
  · rw [h1] at hl
    simp only [Option.getD_none, Option.isSome_none, if_true] at hl
    have H1 := Lib.hid h1
    have H2 := Lib.hid h2
    clear h1 h2
    clear hm ha h
    have hcn := clone_w (fun _ => False) (.slice none 0 0) [] w SlAt.nil (by simp)
    have HCN := Lib.hid hcn
    clear hcn
    go_enter Try.func45, Try.ntmps45
    go_wp2_with fail
    refine (HCN.out).mono ?_
    rintro e w1 ⟨v1, rfl, hv1, hb1⟩
    obtain ⟨p1, c1, rfl⟩ := shape_of hv1.bytes rfl
    have HV1 := Lib.hid hv1
    have HB1 := Lib.hid hb1
    clear hv1 hb1
    go_wp2_with fail
    go_ret2
    exact .inl ⟨H2.out, p1, c1, rfl, HV1.out, HB1.out⟩
  · rw [h1] at hl
    simp only [Option.getD_some, Option.isSome_some, if_true] at hl
    have hcn := clone_w _ u d w h3 (h40 _ (alook_in h2))
    obtain ⟨pu, cu, rfl⟩ := shape_of h3 rfl
    have H1 := Lib.hid h1
    have H2 := Lib.hid h2
    have HCN := Lib.hid hcn
    clear h1 h2 hcn
    clear hm ha h h3
    go_enter Try.func45, Try.ntmps45
    go_wp2_with fail
    refine (HCN.out).mono ?_
    rintro e w1 ⟨v1, rfl, hv1, hb1⟩
    have HV1 := Lib.hid hv1
    have HB1 := Lib.hid hb1
    clear hv1 hb1
    go_wp2_with fail
    go_ret2
    exact .inr ⟨d, v1, H2.out, rfl, HV1.out, HB1.out⟩
theorem bufGet_nil (lba : Int) (w : World) : Calls Try.prog 45 #[.pointer none, .int .i64 lba] w fun e w' => e = .returned (.tuple #[.slice none 0 0, .bool false]) ∧ w = w' := by
  go_enter Try.func45, Try.ntmps45
  go_wp2
  go_ret2
  exact ⟨rfl, rfl⟩

/-- Stands an LBA twice? -/
def twiceB : List Put → Bool
  | [] => false
  | p :: l => (l.any fun q => q.lba == p.lba) || twiceB l
theorem twiceB_no {l : List Put} : twiceB l = false ↔ (l.map (·.lba)).Nodup := by
  induction l with
  | nil => simp [twiceB]
  | cons p l ih =>
    simp only [twiceB, Bool.or_eq_false_iff, List.map_cons, List.nodup_cons, ih]
    constructor
    · rintro ⟨h1, h2⟩
      refine ⟨fun hm => ?_, h2⟩
      obtain ⟨q, hq, he⟩ := List.mem_map.1 hm
      rw [List.any_eq_false] at h1
      exact h1 q hq (by simpa using he)
    · rintro ⟨h1, h2⟩
      refine ⟨?_, h2⟩
      rw [List.any_eq_false]
      intro q hq he
      exact h1 (List.mem_map.2 ⟨q, hq, by simpa using he⟩)
/-- What the map of counts holds behind the first so many, no two of which are one. -/
def metOf (l : List Put) (k : Nat) : List (Int × Value) := (l.take k).map fun p => (p.lba, .int .i64 1)
theorem metOf_len (l : List Put) (k : Nat) : (metOf l k).length ≤ l.length := by unfold metOf; rw [List.length_map, List.length_take]; omega
theorem metOf_look {l : List Put} {k : Nat} {n : Int} : (n ∈ (l.take k).map (·.lba) → alook (metOf l k) n = some (.int .i64 1)) ∧ (n ∉ (l.take k).map (·.lba) → alook (metOf l k) n = none) := by
  unfold metOf
  generalize l.take k = m
  induction m with
  | nil => simp [alook]
  | cons p m ih =>
    simp only [List.map_cons, List.mem_cons, alook]
    by_cases h : p.lba = n
    · simp [h]
    · have h' : ¬ n = p.lba := fun e => h e.symm
      simp only [h, if_false, h', false_or]
      exact ih
set_option maxRecDepth 100000 in
set_option maxHeartbeats 2000000 in
theorem twice_any (G : Nat → Prop) (v : Value) (l : List Put) (w : World) (hG : Dom G w) (hv : PutsAt G w v l) (hl : l.length ≤ 1000000) :
    Calls Try.prog 58 #[v] w fun e w' => e = .returned (.bool (twiceB l)) ∧ Below w.heap.size w w' := by
  have hmm := @run_makeMap Try.prog
  obtain ⟨p, c, rfl, h1, h2, h3, h4⟩ := hv
  have hb0 := below_alloc w (.map #[] 0)
  have hm0 := MapIs.made w
  have H4 := Lib.hid h4
  have HB0 := Lib.hid hb0
  have HM0 := Lib.hid hm0
  clear h4 hb0 hm0
  clear h3
  go_enter Try.func58, Try.ntmps58
  go_wp2_with fail
  go_step3
  go_wp2_with fail
  go_step3
  go_wp2_with fail
  go_loopw [9] (fun i wr => ∃ k : Nat, k ≤ l.length ∧ i = .int .i64 k ∧ Hid (MapIs wr w.heap.size (metOf l k)) ∧ Hid (Below w.heap.size w wr) ∧ Hid (((l.take k).map (·.lba)).Nodup)) (fun i _ => l.length - (intOf i).toNat)
  case atStart => exact ⟨0, by omega, rfl, HM0.out, HB0.out, by unfold Hid; simp⟩
  case round =>
    obtain ⟨k, hk, rfl, HM, HB, HN⟩ := hrel
    by_cases hlt : k < l.length
    case neg =>
      obtain rfl : k = l.length := by omega
      have hn := HN.out
      rw [List.take_length] at hn
      have ht := twiceB_no.2 hn
      have HN := Lib.hid hn
      have HT := Lib.hid ht
      clear hn ht
      go_wp2_with fail
      try rw [Exit.noGoto_ret]
      go_ret
      exact ⟨congrArg boolRet HT.out.symm, HB.out⟩
    case pos =>
      obtain ⟨g, o, rfl, hg, hca, hci, dv, hcb, hd⟩ := H4.out k hlt
      have hgl := hG g hg
      have hca' := (HB.out.cell (p := ⟨g, o + k * 2, none⟩) hgl).trans hca
      have hcb' := (HB.out.cell (p := ⟨g, o + k * 2 + 1, none⟩) hgl).trans hcb
      have htk := take_snoc l k hlt
      obtain ⟨dp, dc, rfl⟩ := shape_of hd rfl
      have hmem := List.getElem_mem hlt
      generalize hx : l[k] = x at *
      obtain ⟨wa, hwa⟩ : ∃ wa, wr.alloc (.cells #[.int .i64 x.lba, .slice dp x.data.length dc] 61) = wa := ⟨_, rfl⟩
      have hba : Below wr.heap.size wr wa := by rw [← hwa]; exact below_alloc wr _
      have hka : wa.cell? ⟨wr.heap.size, 0, none⟩ = some (.int .i64 x.lba) := by rw [← hwa, cell_row (heap_alloc_new wr _)]; rfl
      have hma := HM.out.up hba
      have hl1 := hma.lookup (P := Try.prog) Try.underlying141 Try.underlying3 (Try.zeroValue3 _) x.lba false
      have hwb : Below w.heap.size w wa := HB.out.trans (hba.mono HB.out.size)
      by_cases hin : x.lba ∈ (l.take k).map (·.lba)
      case neg =>
        have hno := (metOf_look (l := l) (k := k) (n := x.lba)).2 hin
        rw [hno] at hl1
        simp only [Option.getD_none, Bool.false_eq_true, if_false] at hl1
        obtain ⟨w2, hu, hm2, hT⟩ := hma.update (P := Try.prog) Try.underlying141 Try.underlying3 x.lba (.int .i64 1)
        have hset : aset (metOf l k) x.lba (.int .i64 1) = metOf l (k + 1) := by
          rw [aset_new (alook_none.1 hno)]
          unfold metOf
          rw [htk, List.map_append]; rfl
        rw [hset] at hm2
        have hl2 := hm2.lookup (P := Try.prog) Try.underlying141 Try.underlying3 (Try.zeroValue3 _) x.lba false
        have hyes : alook (metOf l (k + 1)) x.lba = some (.int .i64 1) := (metOf_look (l := l) (k := k + 1) (n := x.lba)).1 (by rw [htk]; simp)
        rw [hyes] at hl2
        simp only [Option.getD_some, Bool.false_eq_true, if_false] at hl2
        have hk2 : w2.cell? ⟨wr.heap.size, 0, none⟩ = some (.int .i64 x.lba) := (hT.cell _).trans hka
        have hb2 : Below w.heap.size w w2 := hwb.trans (hT.below (Nat.le_refl _))
        have hnd : ((l.take (k + 1)).map (·.lba)).Nodup := by
          rw [htk, List.map_append, List.nodup_append]
          exact ⟨HN.out, by simp, fun a ha b hb e => by simp at hb; subst hb; exact hin (e ▸ ha)⟩
        subst hwa
        have HM2 := Lib.hid hm2
        have HB2 := Lib.hid hb2
        have HND := Lib.hid hnd
        have HTK := Lib.hid htk
        have HX := Lib.hid hx
        clear hm2 hb2 hnd htk hx
        clear hma hset hno hyes hin hT hwb hba hca hcb hd hgl
        go_wp2_with fail
        go_roundw
        case rel => exact ⟨k + 1, by omega, by go_num, HM2.out, HB2.out, HND.out⟩
        case measure => simp [intOf]; omega
      case pos =>
        have hyes0 := (metOf_look (l := l) (k := k) (n := x.lba)).1 hin
        rw [hyes0] at hl1
        simp only [Option.getD_some, Bool.false_eq_true, if_false] at hl1
        obtain ⟨w2, hu, hm2, hT⟩ := hma.update (P := Try.prog) Try.underlying141 Try.underlying3 x.lba (.int .i64 2)
        have hl2 := hm2.lookup (P := Try.prog) Try.underlying141 Try.underlying3 (Try.zeroValue3 _) x.lba false
        have hyes : alook (aset (metOf l k) x.lba (.int .i64 2)) x.lba = some (.int .i64 2) := by rw [alook_aset, if_pos rfl]
        rw [hyes] at hl2
        simp only [Option.getD_some, Bool.false_eq_true, if_false] at hl2
        have hk2 : w2.cell? ⟨wr.heap.size, 0, none⟩ = some (.int .i64 x.lba) := (hT.cell _).trans hka
        have hb2 : Below w.heap.size w w2 := hwb.trans (hT.below (Nat.le_refl _))
        have htw : twiceB l = true := by
          cases hq : twiceB l with
          | true => rfl
          | false =>
            exfalso
            have h1 := twiceB_no.1 hq
            have h2 : (l.take (k + 1)).map (·.lba) = (l.take k).map (·.lba) ++ [x.lba] := by rw [htk, List.map_append]; rfl
            have h3 : ((l.take (k + 1)).map (·.lba)).Nodup := h1.sublist ((List.take_sublist _ _).map _)
            rw [h2, List.nodup_append] at h3
            exact h3.2.2 _ hin _ (by simp) rfl
        subst hwa
        have HM2 := Lib.hid hm2
        have HB2 := Lib.hid hb2
        have HTK := Lib.hid htk
        have HX := Lib.hid hx
        have HTW := Lib.hid htw
        clear hm2 hb2 htk hx htw
        clear hma hyes hin hT hwb hba hca hcb hd hgl hyes0
        go_wp2_with fail
        try rw [Exit.noGoto_ret]
        go_ret
        exact ⟨congrArg boolRet HTW.out.symm, HB2.out⟩
end Go.Proofs

/- Package wbuf: Write. -/
namespace Go.Proofs
open Go.RowKit Sc

def outB (blocks : Int) (p : Put) : Bool := decide (p.lba < 0) || decide (blocks ≤ p.lba)
def len40 (p : Put) : Bool := !decide (p.data.length = 40)
set_option maxHeartbeats 400000 in
theorem writeC1_any (G : Nat → Prop) (x : Put) (ev : Value) (bx b : Nat) (blocks : Int) (W : World) (he : putV G W ev x) (h0 : W.cell? ⟨bx, 0, none⟩ = some (.pointer (some ⟨b, 0, none⟩))) (h1 : W.cell? ⟨b, 0, none⟩ = some (.int .i64 blocks)) :
    Calls Try.prog 56 #[ev, .pointer (some ⟨bx, 0, none⟩)] W fun e w' => e = .returned (.bool (outB blocks x)) ∧ Below W.heap.size W w' := by
  obtain ⟨dv, rfl, hi, hd⟩ := he
  obtain ⟨dp, dc, rfl⟩ := shape_of hd rfl
  have hb0 := below_alloc W (.cells #[.int .i64 x.lba, .slice dp x.data.length dc] 61)
  have hk0 : (W.alloc (.cells #[.int .i64 x.lba, .slice dp x.data.length dc] 61)).cell? ⟨W.heap.size, 0, none⟩ = some (.int .i64 x.lba) := by rw [cell_row (heap_alloc_new W _)]; rfl
  have h0' := cell_up hb0 h0
  have h1' := cell_up hb0 h1
  have hdef : outB blocks x = (decide (x.lba < 0) || decide (blocks ≤ x.lba)) := rfl
  have HB0 := Lib.hid hb0
  clear hb0
  clear h0 h1 hd
  by_cases c1 : x.lba < 0
  · rw [decide_eq_true c1] at hdef
    have c1' : decide (x.lba < 0) = true := decide_eq_true c1
    have HDEF := Lib.hid hdef
    clear hdef
    go_enter Try.func56, Try.ntmps56
    go_wp2
    go_quiet (fail)
    go_wp2
    go_ret
    exact ⟨congrArg boolRet HDEF.out.symm, below_drewN HB0.out _⟩
  · have c1' : decide (x.lba < 0) = false := decide_eq_false c1
    rw [c1', Bool.false_or] at hdef
    have HDEF := Lib.hid hdef
    clear hdef
    clear c1
    go_enter Try.func56, Try.ntmps56
    go_wp2
    go_quiet (fail)
    go_wp2
    go_ret
    refine ⟨congrArg boolRet ?_, below_drewN HB0.out _⟩
    rw [HDEF.out]
theorem writeC2_any (G : Nat → Prop) (x : Put) (ev : Value) (W : World) (he : putV G W ev x) :
    Calls Try.prog 57 #[ev] W fun e w' => e = .returned (.bool (len40 x)) ∧ Below W.heap.size W w' := by
  obtain ⟨dv, rfl, hi, hd⟩ := he
  obtain ⟨dp, dc, rfl⟩ := shape_of hd rfl
  have hb0 := below_alloc W (.cells #[.int .i64 x.lba, .slice dp x.data.length dc] 61)
  have HB0 := Lib.hid hb0
  clear hb0
  clear hd
  by_cases h : x.data.length = 40
  · have hl : len40 x = false := by unfold len40; rw [decide_eq_true h]; rfl
    have h1 : ((x.data.length : Int) != 40) = false := by rw [bne_eq_false_iff_eq]; omega
    have HL := Lib.hid hl
    clear hl
    clear h
    go_enter Try.func57, Try.ntmps57
    go_wp2
    go_ret
    refine ⟨congrArg boolRet ?_, HB0.out⟩
    rw [HL.out]
  · have hl : len40 x = true := by unfold len40; rw [decide_eq_false h]; rfl
    have h1 : ((x.data.length : Int) != 40) = true := by rw [bne_iff_ne]; omega
    have HL := Lib.hid hl
    clear hl
    clear h
    go_enter Try.func57, Try.ntmps57
    go_wp2
    go_ret
    refine ⟨congrArg boolRet ?_, HB0.out⟩
    rw [HL.out]
/-- How many of some blocks are new. -/
def freshN (s : List (Int × Bytes)) (l : List Put) : Nat := (l.filter fun p => (alook s p.lba).isNone).length
theorem freshN_take (s : List (Int × Bytes)) (l : List Put) (k : Nat) (h : k < l.length) : freshN s (l.take (k + 1)) = freshN s (l.take k) + if (alook s l[k].lba).isNone then 1 else 0 := by
  unfold freshN
  rw [take_snoc l k h, List.filter_append, List.length_append]
  congr 1
  cases hq : (alook s l[k].lba).isNone <;> simp [hq]
def putsTo (s : List (Int × Bytes)) (l : List Put) : List (Int × Bytes) := l.foldl (fun s p => aset s p.lba p.data) s
theorem putsTo_snoc (s : List (Int × Bytes)) (l : List Put) (p : Put) : putsTo s (l ++ [p]) = aset (putsTo s l) p.lba p.data := by simp [putsTo]
def bufCode (blocks most : Int) (s : List (Int × Bytes)) (l : List Put) : Int :=
  if l = [] then 1 else if l.any (outB blocks) then 2 else if l.any len40 then 3 else if twiceB l then 4 else if most < ((s.length + freshN s l : Nat) : Int) then 7 else 0
def bufNext (blocks most : Int) (s : List (Int × Bytes)) (l : List Put) : List (Int × Bytes) := if bufCode blocks most s l = 0 then putsTo s l else s

def BufWriteSaid (F : Nat → Prop) (v : Value) (blocks most : Int) (s : List (Int × Bytes)) (l : List Put) (w : World) (e : Ending) (w' : World) : Prop :=
  e = .returned (.int .i64 (bufCode blocks most s l)) ∧ Chg F w w' ∧ BufIs (fun k => F k ∨ New w w' k) w' v blocks most (bufNext blocks most s l)
theorem buf_fail {F : Nat → Prop} {v : Value} {blocks most c : Int} {s : List (Int × Bytes)} {l : List Put} {w w' : World} (h : BufIs F w v blocks most s) (hb : Below w.heap.size w w') (hc : bufCode blocks most s l = c) (h0 : c ≠ 0) : BufWriteSaid F v blocks most s l w (.returned (.int .i64 c)) w' := by
  refine ⟨by rw [hc], Chg.of_below hb (fun k h1 h2 => by omega), ?_⟩
  unfold bufNext
  rw [if_neg (by rw [hc]; exact h0)]
  exact h.more hb

set_option maxRecDepth 100000 in
set_option maxHeartbeats 8000000 in
theorem bufWrite_any (F G : Nat → Prop) (v lv : Value) (blocks most : Int) (s : List (Int × Bytes)) (l : List Put) (w : World) (hm : BufIs F w v blocks most s) (hl : PutsAt G w lv l) (hG : Dom G w) (hFG : ∀ k, F k → ¬ G k) (n0 : s.length ≤ 1000000) (n1 : l.length ≤ 1000000) :
    Calls Try.prog 25 #[v, lv] w (BufWriteSaid F v blocks most s l w) := by
  have HM := Lib.hid hm
  have HLL := Lib.hid hl
  obtain ⟨b, r, ml, rfl, hFb, hFr, hbr, hbl, hc0, hc1, hc2, hmp, hal⟩ := hm.cells
  have hl2 := hl
  obtain ⟨lp, lc, rfl, q1, q2, q3, q4⟩ := hl2
  have hb0 := below_alloc w (.cells #[.pointer (some ⟨b, 0, none⟩)] 30)
  have hbx : (w.alloc (.cells #[.pointer (some ⟨b, 0, none⟩)] 30)).cell? ⟨w.heap.size, 0, none⟩ = some (.pointer (some ⟨b, 0, none⟩)) := by rw [cell_row (heap_alloc_new w _)]; rfl
  have hq0 := cell_up hb0 hc0
  have hq1 := cell_up hb0 hc1
  have hq2 := cell_up hb0 hc2
  have hlB := PutsAt.up hl hb0
  have hGB : Dom G (w.alloc (.cells #[.pointer (some ⟨b, 0, none⟩)] 30)) := hG.below hb0
  have hml := All2.length hal
  have HQ4 := Lib.hid q4
  have HB0 := Lib.hid hb0
  have HLB := Lib.hid hlB
  have HMP := Lib.hid hmp
  have HAL := Lib.hid hal
  have HML := Lib.hid hml
  have HGB := Lib.hid hGB
  clear q4 hb0 hlB hmp hal hml hGB
  clear hm hl q3
  by_cases hnil : l = []
  case pos =>
    subst hnil
    have hcd : bufCode blocks most s [] = 1 := rfl
    have HCD := Lib.hid hcd
    clear hcd
    go_enter Try.func25, Try.ntmps25
    go_wp2
    go_ret
    exact buf_fail HM.out HB0.out HCD.out (by decide)
  case neg =>
    have hpos := List.length_pos_iff.2 hnil
    have hl0 : ((l.length : Int) == 0) = false := by rw [beq_eq_false_iff_ne]; omega
    have hcd0 : bufCode blocks most s l = if l.any (outB blocks) then 2 else if l.any len40 then 3 else if twiceB l then 4 else if most < ((s.length + freshN s l : Nat) : Int) then 7 else 0 := by unfold bufCode; rw [if_neg hnil]
    have HCD0 := Lib.hid hcd0
    clear hcd0
    go_enter Try.func25, Try.ntmps25
    go_wp2_with fail
    refine (anyPut_any G _ l (outB blocks) 56 #[.pointer (some ⟨w.heap.size, 0, none⟩)] (by go_simp) _ HGB.out HLB.out (fun i hi W ev hb hev => writeC1_any G _ ev w.heap.size b blocks W hev (cell_up hb hbx) (cell_up hb hq0))).mono ?_
    rintro e w1 ⟨rfl, hb1⟩
    have h1x := cell_up hb1 hbx
    have h11 := cell_up hb1 hq1
    have h12 := cell_up hb1 hq2
    have hl1 := PutsAt.up HLB.out hb1
    have hB1 := Below.up HB0.out hb1
    have HB1' := Lib.hid hb1
    clear hb1
    have HL1 := Lib.hid hl1
    have HB1 := Lib.hid hB1
    clear hl1 hB1
    clear hbx hq0 hq1 hq2
    cases ha : l.any (outB blocks) with
    | true =>
      have hcd : bufCode blocks most s l = 2 := by rw [HCD0.out, if_pos ha]
      have HCD := Lib.hid hcd
      have HA := Lib.hid ha
      clear hcd ha
      go_wp2_with fail
      go_ret
      exact buf_fail HM.out HB1.out HCD.out (by decide)
    | false =>
      have hcd1 := HCD0.out
      rw [ha, if_neg (by decide)] at hcd1
      have HA := Lib.hid ha
      have HCD1 := Lib.hid hcd1
      clear ha hcd1
      go_wp2_with fail
      refine (anyPut_any G _ l len40 57 #[] (by go_simp) _ (HGB.out.below HB1'.out) HL1.out (fun i hi W ev hb hev => writeC2_any G _ ev W hev)).mono ?_
      rintro e w2 ⟨rfl, hb2⟩
      have h2x := cell_up hb2 h1x
      have h21 := cell_up hb2 h11
      have h22 := cell_up hb2 h12
      have hB2 := Below.up HB1.out hb2
      have hl2 := PutsAt.up HL1.out hb2
      have hG2 := (HGB.out.below HB1'.out).below hb2
      have HL2 := Lib.hid hl2
      have HB2 := Lib.hid hB2
      have HG2 := Lib.hid hG2
      clear hl2 hB2 hG2
      clear h1x h11 h12 hb2
      cases hb : l.any len40 with
      | true =>
        have hcd : bufCode blocks most s l = 3 := by rw [HCD1.out, if_pos hb]
        have HCD := Lib.hid hcd
        have HB := Lib.hid hb
        clear hcd hb
        go_wp2_with fail
        go_ret
        exact buf_fail HM.out HB2.out HCD.out (by decide)
      | false =>
        have hcd2 := HCD1.out
        rw [hb, if_neg (by decide)] at hcd2
        have h40all : ∀ x ∈ l, x.data.length = 40 := fun x hx => by
          rw [List.any_eq_false] at hb
          have := hb x hx
          unfold len40 at this
          simpa using this
        have HB := Lib.hid hb
        have HCD2 := Lib.hid hcd2
        have H40ALL := Lib.hid h40all
        clear hb hcd2 h40all
        go_wp2_with fail
        refine (twice_any G _ l _ HG2.out HL2.out n1).mono ?_
        rintro e w3 ⟨rfl, hb3⟩
        have h3x := cell_up hb3 h2x
        have h31 := cell_up hb3 h21
        have h32 := cell_up hb3 h22
        have hB3 := Below.up HB2.out hb3
        have HB3 := Lib.hid hB3
        clear hB3
        clear h2x h21 h22 hb3
        cases ht : twiceB l with
        | true =>
          have hcd : bufCode blocks most s l = 4 := by rw [HCD2.out, if_pos ht]
          have HCD := Lib.hid hcd
          have HT := Lib.hid ht
          clear hcd ht
          go_wp2_with fail
          go_ret
          exact buf_fail HM.out HB3.out HCD.out (by decide)
        | false =>
          have hcd3 := HCD2.out
          rw [ht, if_neg (by decide)] at hcd3
          have hnd := twiceB_no.1 ht
          have hm3 := HMP.out.up HB3.out
          have hlen := hm3.len (P := Try.prog) Try.underlying118 3
          rw [HML.out] at hlen
          have HT := Lib.hid ht
          have HCD3 := Lib.hid hcd3
          have HND := Lib.hid hnd
          have HM3 := Lib.hid hm3
          clear ht hcd3 hnd hm3
          go_wp2_with fail
          clear hlen
          go_loopw [5, 37] (fun n i wr => ∃ k : Nat, k ≤ l.length ∧ i = .int .i64 k ∧ n = .int .i64 ((s.length + freshN s (l.take k) : Nat) : Int) ∧ Hid (Below w3.heap.size w3 wr)) (fun _ i _ => l.length - (intOf i).toNat)
          case atStart => exact ⟨0, by omega, rfl, by simp [freshN], Below.refl _ _⟩
          case round =>
            obtain ⟨k, hk, rfl, rfl, HB⟩ := hrel
            have hx3 := cell_up HB.out h3x
            have hx1 := cell_up HB.out h31
            have hx2 := cell_up HB.out h32
            have hbw := Below.up HB3.out HB.out
            by_cases hlt : k < l.length
            case pos =>
              obtain ⟨g, o, rfl, hg, hca, hci, dv, hcb, hd⟩ := HQ4.out k hlt
              have hca' := (hbw.cell (p := ⟨g, o + k * 2, none⟩) (hG g hg)).trans hca
              have hcb' := (hbw.cell (p := ⟨g, o + k * 2 + 1, none⟩) (hG g hg)).trans hcb
              have hfr := freshN_take s l k hlt
              obtain ⟨dp, dc, rfl⟩ := shape_of hd rfl
              have hfb : freshN s (l.take k) ≤ l.length := by unfold freshN; exact Nat.le_trans (List.length_filter_le _ _) (by rw [List.length_take]; omega)
              generalize l[k] = x at *
              have hba := below_alloc wr (.cells #[.int .i64 x.lba, .slice dp x.data.length dc] 61)
              have hka : (wr.alloc (.cells #[.int .i64 x.lba, .slice dp x.data.length dc] 61)).cell? ⟨wr.heap.size, 0, none⟩ = some (.int .i64 x.lba) := by rw [cell_row (heap_alloc_new wr _)]; rfl
              have hya := cell_up hba hx3
              have hyb := cell_up hba hx2
              have hma := (HMP.out.up hbw).up hba
              have hlk := fun n => ((hma.up (below_drewN (Below.refl _ _) n)).lookup (P := Try.prog) Try.underlying118 Try.underlying3 (Try.zeroValue26 _) x.lba true)
              have hlk0 := hma.lookup (P := Try.prog) Try.underlying118 Try.underlying3 (Try.zeroValue26 _) x.lba true
              have hba3 := Below.up HB.out hba
              generalize freshN s (l.take k) = q at *
              have hql : ((s.length + q : Nat) : Int) ≤ 2000000 := by omega
              rcases HAL.out.look x.lba with ⟨e1, e2⟩ | ⟨u, d, e1, e2, _⟩
              · rw [e1] at hlk hlk0
                rw [e2] at hfr
                simp only [Option.getD_none, Option.isSome_none, Option.isNone_none, if_true] at hlk hlk0 hfr
                have HFR := Lib.hid hfr
                have HBA3 := Lib.hid hba3
                have HBW := Lib.hid hbw
                have HE1 := Lib.hid e1
                have HE2 := Lib.hid e2
                clear hfr hba3 hbw e1 e2
                clear hma hba hca hcb hd hx3 hx2 hfb
                go_wp2_with fail
                go_quiet (fail)
                go_wp2_with fail
                go_roundw
                case rel => exact ⟨k + 1, by omega, by go_num, by rw [HFR.out]; go_num, below_drewN HBA3.out _⟩
                case measure => simp [intOf]; omega
              · rw [e1] at hlk hlk0
                rw [e2] at hfr
                simp only [Option.getD_some, Option.isSome_some, Option.isNone_some, if_true] at hlk hlk0 hfr
                have HFR := Lib.hid hfr
                have HBA3 := Lib.hid hba3
                have HBW := Lib.hid hbw
                have HE1 := Lib.hid e1
                have HE2 := Lib.hid e2
                clear hfr hba3 hbw e1 e2
                clear hma hba hca hcb hd hx3 hx2 hfb
                go_wp2_with fail
                go_quiet (fail)
                go_wp2_with fail
                go_roundw
                case rel => exact ⟨k + 1, by omega, by go_num, by rw [HFR.out]; simp, below_drewN HBA3.out _⟩
                case measure => simp [intOf]; omega
            case neg =>
              obtain rfl : k = l.length := by omega
              rw [List.take_length]
              have hfb : freshN s l ≤ l.length := by unfold freshN; exact List.length_filter_le _ _
              generalize hfn : freshN s l = fn at *
              have HFN := Lib.hid hfn
              clear hfn
              have hcd4 := HCD3.out
              obtain ⟨nn, hnn⟩ : ∃ nn : Int, ((s.length + fn : Nat) : Int) = nn := ⟨_, rfl⟩
              rw [hnn] at hcd4 ⊢
              have HNN := Lib.hid hnn
              clear hnn
              by_cases hbig : most < nn
              case pos =>
                have hcd : bufCode blocks most s l = 7 := by rw [hcd4, if_pos hbig]
                have HCD := Lib.hid hcd
                have HBW := Lib.hid hbw
                have HCD4 := Lib.hid hcd4
                clear hcd hbw hcd4
                go_wp2_with fail
                go_ret
                exact buf_fail HM.out HBW.out HCD.out (by decide)
              case neg =>
                have hcd : bufCode blocks most s l = 0 := by rw [hcd4, if_neg hbig]
                have hbig' : nn ≤ most := by omega
                have HCD := Lib.hid hcd
                have HBW := Lib.hid hbw
                have HCD4 := Lib.hid hcd4
                clear hcd hbw hcd4
                clear hbig
                have hW4l := PutsAt.up HLL.out HBW.out
                have hBu4 : BufIs (fun q => F q ∨ (wr.heap.size ≤ q ∧ q < wr.heap.size)) wr (.pointer (some ⟨b, 0, none⟩)) blocks most s := by
                  obtain ⟨⟨b', r', ml', g1, g2, g3, g4, g5, g6⟩, gd⟩ := HM.out.up HBW.out
                  exact ⟨⟨b', r', ml', g1, .inl g2, .inl g3, g4, g5, g6.imp fun _ _ h => h.mono fun _ h => ⟨.inl h.1, h.2⟩⟩, fun k hk => hk.elim (gd k) (fun h => h.2)⟩
                have hFd : Dom F w := HM.out.dom
                obtain ⟨W4, rfl⟩ : ∃ W4 : World, W4 = wr := ⟨_, rfl⟩
                have hwz := HBW.out.size
                have hG4 : Dom G W4 := hG.below HBW.out
                have HW4L := Lib.hid hW4l
                have HBU4 := Lib.hid hBu4
                have HFD := Lib.hid hFd
                have HG4 := Lib.hid hG4
                clear hW4l hBu4 hFd hG4
                go_wp2_with fail
                clear hfb h31 h32 hx1 hx2 h3x
                go_loopw [64] (fun i wr => ∃ k : Nat, k ≤ l.length ∧ i = .int .i64 k ∧ Hid (BufIs (fun q => F q ∨ (W4.heap.size ≤ q ∧ q < wr.heap.size)) wr (.pointer (some ⟨b, 0, none⟩)) blocks most (putsTo s (l.take k))) ∧ Hid (Chg F W4 wr)) (fun i _ => l.length - (intOf i).toNat)
                case atStart => exact ⟨0, by omega, rfl, HBU4.out, Chg.refl _ _⟩
                case round =>
                  obtain ⟨k, hk, rfl, HBU, HCH⟩ := hrel
                  by_cases hlt : k < l.length
                  case neg =>
                    obtain rfl : k = l.length := by omega
                    have hbu := HBU.out
                    rw [List.take_length] at hbu
                    have hnext : bufNext blocks most s l = putsTo s l := by unfold bufNext; rw [if_pos HCD.out]
                    have hz4 := HCH.out.size
                    have HBU := Lib.hid hbu
                    have HNEXT := Lib.hid hnext
                    clear hbu hnext
                    go_wp2_with fail
                    go_ret
                    refine ⟨by rw [HCD.out]; rfl, (Chg.of_below HBW.out (fun k h1 h2 => by omega)).trans HCH.out, ?_⟩
                    rw [HNEXT.out]
                    obtain ⟨⟨b', r', ml', g1, g2, g3, g4, g5, g6⟩, gd⟩ := HBU.out
                    have up : ∀ q, (F q ∨ (W4.heap.size ≤ q ∧ q < wr.heap.size)) → F q ∨ New w wr q := fun q h => h.imp id fun h => ⟨by omega, h.2⟩
                    exact ⟨⟨b', r', ml', g1, up _ g2, up _ g3, g4, g5, g6.imp fun _ _ h => h.mono fun _ h => ⟨up _ h.1, h.2⟩⟩, fun k hk => hk.elim (fun hf => by have := HFD.out k hf; omega) (fun h => h.2)⟩
                  case pos =>
                    have hz4 := HCH.out.size
                    have hlw : PutsAt G wr (.slice lp l.length lc) l := PutsAt.same HW4L.out (HCH.out.same fun q hq => ⟨HG4.out q hq, fun hf => hFG q hf hq⟩)
                    obtain ⟨lp', lc', he, _, _, _, h4'⟩ := hlw
                    cases he
                    obtain ⟨g, o, rfl, hg, hca, hci, dv, hcb, hd⟩ := h4' k hlt
                    have htk := take_snoc l k hlt
                    obtain ⟨dp, dc, rfl⟩ := shape_of hd rfl
                    have h40x := H40ALL.out _ (List.getElem_mem hlt)
                    generalize l[k] = x at *
                    have hput : putsTo s (l.take (k + 1)) = aset (putsTo s (l.take k)) x.lba x.data := by rw [htk, putsTo_snoc]
                    have h40 : x.data.length ≤ 1000000 := by omega
                    obtain ⟨b', r', ml', g1, hBB⟩ := HBU.out.parts
                    cases g1
                    have i2 : wr.cell? ⟨b, 2, none⟩ = some (.map (some r')) := by rw [cell_row hBB.hb]; rfl
                    have hmW := hBB.hm
                    have hbxW : wr.cell? ⟨w.heap.size, 0, none⟩ = some (.pointer (some ⟨b, 0, none⟩)) := HCH.out.cell (fun hf => by have := HFD.out _ hf; omega) hx3
                    have hba := below_alloc wr (.cells #[.int .i64 x.lba, .slice dp x.data.length dc] 61)
                    have hka : (wr.alloc (.cells #[.int .i64 x.lba, .slice dp x.data.length dc] 61)).cell? ⟨wr.heap.size, 0, none⟩ = some (.int .i64 x.lba) := by rw [cell_row (heap_alloc_new wr _)]; rfl
                    have hkb : (wr.alloc (.cells #[.int .i64 x.lba, .slice dp x.data.length dc] 61)).cell? ⟨wr.heap.size, 1, none⟩ = some (.slice dp x.data.length dc) := by rw [cell_row (heap_alloc_new wr _)]; rfl
                    have hya := cell_up hba hbxW
                    have hyb := cell_up hba i2
                    have hda := BytesAt.up hd hba
                    have hzz := hba.size
                    have HPUT := Lib.hid hput
                    have H40 := Lib.hid h40
                    have HMW := Lib.hid hmW
                    have HBB := Lib.hid hBB
                    have HDA := Lib.hid hda
                    have HBA := Lib.hid hba
                    have HTK := Lib.hid htk
                    have HCI := Lib.hid hci
                    have H40X := Lib.hid h40x
                    clear hput h40 hmW hBB hda hba htk hci h40x
                    go_wp2_with fail
                    go_region_held3 (fun W => W.cell? ⟨w.heap.size, 0, none⟩ = some (.pointer (some ⟨b, 0, none⟩)) ∧ W.cell? ⟨b, 2, none⟩ = some (.map (some r')) ∧ W.cell? ⟨wr.heap.size, 0, none⟩ = some (.int .i64 x.lba) ∧ W.cell? ⟨wr.heap.size, 1, none⟩ = some (.slice dp x.data.length dc))
                      (first
                        | (go_split_ands; exact ⟨cell_up hb7 (by assumption), cell_up hb7 (by assumption), cell_up hb7 (by assumption), cell_up hb7 (by assumption)⟩)
                        | (go_split_ands; exact ⟨(hT8.cell _).trans (by assumption), (hT8.cell _).trans (by assumption), (hT8.cell _).trans (by assumption), (hT8.cell _).trans (by assumption)⟩)
                        | go_keep)
                      ((first
                        | (go_at_call 46
                           refine (clone_any G _ x.data _ (by exact BytesAt.up HDA.out (below_drewN (Below.refl _ _) 1)) H40.out).mono ?_
                           rintro e w7 ⟨v7, rfl, hnv, hb7⟩
                           have hbA7 := Below.up (below_drewN HBA.out 1) hb7
                           have hm7 := HMW.out.up hbA7
                           obtain ⟨w8, hu8, hm8, hT8⟩ := hm7.update (P := Try.prog) Try.underlying118 Try.underlying3 x.lba v7)))
                    all_goals
                      have hput8 := HBB.out.put (k := x.lba) hbA7 (hnv.mono fun q hq => ⟨by have := hq.1; simp at this; omega, hq.2⟩) hm8 hT8
                      obtain ⟨hp1, hp2⟩ := hput8
                      have hz8 := hp2.size
                      have hbu8 := (hp1.wider (F' := fun q => F q ∨ (W4.heap.size ≤ q ∧ q < w8.heap.size)) (fun q hq => by
                        rcases hq with (h | h) | h
                        · exact .inl h
                        · exact .inr ⟨h.1, by omega⟩
                        · exact .inr ⟨by have := h.1; omega, h.2⟩) (fun q hq => hq.elim (fun hf => by have := HFD.out q hf; omega) (fun h => h.2))).is
                      rw [← HPUT.out] at hbu8
                      have hch8 : Chg F W4 w8 := HCH.out.trans' hp2 (fun i hi h => h.elim id fun h => by have := h.1; omega)
                      have HBU8 := Lib.hid hbu8
                      have HCH8 := Lib.hid hch8
                      clear hbu8 hch8
                      clear hp1 hp2 hm8 hT8 hm7 hbA7 hb7 hnv hu8
                      go_wp2_with fail
                      go_roundw
                      case rel => exact ⟨k + 1, by omega, by go_num, HBU8.out, HCH8.out⟩
                      case measure => simp [intOf]; omega
end Go.Proofs

/- scarpref11's Buf, in plain Lean: a row of Puts by rising LBA, and what a Write makes of it. -/
namespace Go.Proofs
open Go.RowKit Sc

def lookP (L : List Put) (k : Int) : Option Bytes := (L.find? fun p => p.lba == k).map (·.data)
def Asc (L : List Put) : Prop := L.Pairwise (fun p q => p.lba < q.lba)
theorem lookP_nil (k : Int) : lookP [] k = none := rfl
theorem lookP_cons (p : Put) (L : List Put) (k : Int) : lookP (p :: L) k = if p.lba = k then some p.data else lookP L k := by
  unfold lookP
  rw [List.find?_cons]
  by_cases h : p.lba = k
  · have : (p.lba == k) = true := by rw [beq_iff_eq]; exact h
    rw [this, if_pos h]; rfl
  · have : (p.lba == k) = false := by rw [beq_eq_false_iff_ne]; exact h
    rw [this, if_neg h]
theorem lookP_append (A B : List Put) (k : Int) : lookP (A ++ B) k = (lookP A k).or (lookP B k) := by
  induction A with
  | nil => rfl
  | cons p A ih =>
    rw [List.cons_append, lookP_cons, lookP_cons, ih]
    split <;> rfl
theorem lookP_none {L : List Put} {k : Int} : lookP L k = none ↔ ∀ p ∈ L, p.lba ≠ k := by
  induction L with
  | nil => simp [lookP_nil]
  | cons p L ih =>
    rw [lookP_cons]
    by_cases h : p.lba = k
    · rw [if_pos h]; simp [h]
    · rw [if_neg h, ih]; simp [h]
theorem lookP_mem {L : List Put} {k : Int} {d : Bytes} (h : lookP L k = some d) : (⟨k, d⟩ : Put) ∈ L := by
  induction L with
  | nil => cases h
  | cons p L ih =>
    rw [lookP_cons] at h
    by_cases hk : p.lba = k
    · rw [if_pos hk] at h
      cases h
      subst hk
      exact List.mem_cons_self ..
    · rw [if_neg hk] at h
      exact List.mem_cons_of_mem _ (ih h)
theorem lookP_at {L : List Put} (h : Asc L) {p : Put} (hp : p ∈ L) : lookP L p.lba = some p.data := by
  induction L with
  | nil => cases hp
  | cons q L ih =>
    rw [lookP_cons]
    obtain ⟨h1, h2⟩ := List.pairwise_cons.1 h
    rcases List.mem_cons.1 hp with rfl | hp
    · rw [if_pos rfl]
    · rw [if_neg (by have := h1 p hp; omega)]
      exact ih h2 hp
theorem asc_ext : ∀ {A B : List Put}, Asc A → Asc B → (∀ k, lookP A k = lookP B k) → A = B
  | [], [], _, _, _ => rfl
  | [], q :: B, _, _, h => by have := h q.lba; rw [lookP_cons, if_pos rfl] at this; cases this
  | p :: A, [], _, _, h => by have := h p.lba; rw [lookP_cons, if_pos rfl] at this; cases this
  | p :: A, q :: B, ha, hb, h => by
    obtain ⟨a1, a2⟩ := List.pairwise_cons.1 ha
    obtain ⟨b1, b2⟩ := List.pairwise_cons.1 hb
    have hpq : p.lba = q.lba := by
      have e1 := h p.lba
      have e2 := h q.lba
      rw [lookP_cons, if_pos rfl, lookP_cons] at e1
      rw [lookP_cons, lookP_cons, if_pos rfl] at e2
      rcases (show p.lba = q.lba ∨ p.lba < q.lba ∨ q.lba < p.lba by omega) with e | e | e
      · exact e
      · rw [if_neg (by omega)] at e1
        have := b1 _ (lookP_mem e1.symm)
        simp only at this
        omega
      · rw [if_neg (by omega)] at e2
        have := a1 _ (lookP_mem e2)
        simp only at this
        omega
    have hd : p.data = q.data := by
      have e1 := h p.lba
      rw [lookP_cons, if_pos rfl, lookP_cons, if_pos hpq.symm] at e1
      exact Option.some.inj e1
    have hpe : p = q := by obtain ⟨x, y⟩ := p; obtain ⟨z, t⟩ := q; simp only at hpq hd; rw [hpq, hd]
    subst hpe
    rw [asc_ext a2 b2 fun k => ?_]
    have e := h k
    rw [lookP_cons, lookP_cons] at e
    by_cases hk : p.lba = k
    · rw [lookP_none.2 fun r hr => by have := a1 r hr; omega, lookP_none.2 fun r hr => by have := b1 r hr; omega]
    · rw [if_neg hk, if_neg hk] at e
      exact e

/-- One round of the walk that lays a Put into its place. -/
def insStep (x : Put) (s : List Put × Bool) (y : Put) : List Put × Bool :=
  let s1 : List Put × Bool := if s.2 = false ∧ x.lba ≤ y.lba then (s.1 ++ [x], true) else s
  if y.lba = x.lba then s1 else (s1.1 ++ [y], s1.2)
def insTo (x : Put) (L : List Put) (k : Nat) : List Put × Bool := (L.take k).foldl (insStep x) ([], false)
def insEnd (x : Put) (s : List Put × Bool) : List Put := if s.2 then s.1 else s.1 ++ [x]
def rIns (L : List Put) (x : Put) : List Put := insEnd x (insTo x L L.length)
theorem insTo_succ (x : Put) (L : List Put) (k : Nat) (h : k < L.length) : insTo x L (k + 1) = insStep x (insTo x L k) L[k] := by
  unfold insTo
  rw [take_snoc L k h, List.foldl_append]; rfl
theorem ins_true (x : Put) : ∀ (L out : List Put), (∀ y ∈ L, x.lba < y.lba) → L.foldl (insStep x) (out, true) = (out ++ L, true)
  | [], out, _ => by simp
  | y :: L, out, h => by
    have hy := h y (List.mem_cons_self ..)
    have e : insStep x (out, true) y = (out ++ [y], true) := by
      unfold insStep
      simp only [Bool.true_eq_false, false_and, if_false]
      rw [if_neg (by omega)]
    rw [List.foldl_cons, e, ins_true x L _ fun z hz => h z (List.mem_cons_of_mem _ hz), List.append_assoc]; rfl
theorem ins_false (x : Put) : ∀ (L out : List Put), Asc L → insEnd x (L.foldl (insStep x) (out, false)) = out ++ (L.filter (fun y => decide (y.lba < x.lba)) ++ x :: L.filter fun y => decide (x.lba < y.lba))
  | [], out, _ => rfl
  | y :: L, out, h => by
    obtain ⟨h1, h2⟩ := List.pairwise_cons.1 h
    rw [List.foldl_cons]
    rcases (show y.lba < x.lba ∨ y.lba = x.lba ∨ x.lba < y.lba by omega) with e | e | e
    · have hs : insStep x (out, false) y = (out ++ [y], false) := by
        unfold insStep
        simp only [true_and]
        rw [if_neg (by omega), if_neg (by omega)]
      rw [hs, ins_false x L _ h2]
      simp [e, show ¬ x.lba < y.lba by omega]
    · have hs : insStep x (out, false) y = (out ++ [x], true) := by
        have c1 : x.lba ≤ y.lba := by omega
        simp only [insStep, true_and, if_pos c1, if_pos e]
      have hl : ∀ z ∈ L, x.lba < z.lba := fun z hz => by have := h1 z hz; omega
      rw [hs, ins_true x L _ hl]
      have f1 : L.filter (fun z => decide (z.lba < x.lba)) = [] := List.filter_eq_nil_iff.2 fun z hz => by have := hl z hz; simp; omega
      have f2 : L.filter (fun z => decide (x.lba < z.lba)) = L := List.filter_eq_self.2 fun z hz => by have := hl z hz; simpa using this
      simp [insEnd, e, f1, f2]
    · have hs : insStep x (out, false) y = (out ++ [x] ++ [y], true) := by
        have c1 : x.lba ≤ y.lba := by omega
        have c2 : ¬ y.lba = x.lba := by omega
        simp only [insStep, true_and, if_pos c1, if_neg c2]
      have hl : ∀ z ∈ L, x.lba < z.lba := fun z hz => by have := h1 z hz; omega
      rw [hs, ins_true x L _ hl]
      have f1 : L.filter (fun z => decide (z.lba < x.lba)) = [] := List.filter_eq_nil_iff.2 fun z hz => by have := hl z hz; simp; omega
      have f2 : L.filter (fun z => decide (x.lba < z.lba)) = L := List.filter_eq_self.2 fun z hz => by have := hl z hz; simpa using this
      simp [insEnd, e, f1, f2, show ¬ y.lba < x.lba by omega]
theorem rIns_eq (L : List Put) (x : Put) (h : Asc L) : rIns L x = L.filter (fun y => decide (y.lba < x.lba)) ++ x :: L.filter fun y => decide (x.lba < y.lba) := by
  have := ins_false x L [] h
  rw [List.nil_append] at this
  unfold rIns insTo
  rw [List.take_length]
  exact this
theorem lookP_filter (f : Int → Bool) (k : Int) : ∀ L : List Put, lookP (L.filter fun y => f y.lba) k = if f k then lookP L k else none
  | [] => by simp [lookP_nil]
  | p :: L => by
    rw [List.filter_cons]
    by_cases hp : f p.lba = true
    · rw [if_pos hp, lookP_cons, lookP_cons, lookP_filter f k L]
      by_cases hk : p.lba = k
      · subst hk; rw [if_pos rfl, if_pos rfl, if_pos hp]
      · rw [if_neg hk, if_neg hk]
    · rw [if_neg hp, lookP_cons, lookP_filter f k L]
      by_cases hk : p.lba = k
      · subst hk; rw [if_neg hp, if_neg hp]
      · rw [if_neg hk]
theorem rIns_good {L : List Put} (h : Asc L) (x : Put) : Asc (rIns L x) ∧ ∀ k, lookP (rIns L x) k = if k = x.lba then some x.data else lookP L k := by
  rw [rIns_eq L x h]
  refine ⟨List.pairwise_append.2 ⟨List.Pairwise.filter _ h, List.pairwise_cons.2 ⟨fun y hy => ?_, List.Pairwise.filter _ h⟩, fun a ha b hb => ?_⟩, fun k => ?_⟩
  · have := (List.mem_filter.1 hy).2; simpa using this
  · have h1 := (List.mem_filter.1 ha).2
    simp only [decide_eq_true_eq] at h1
    rcases List.mem_cons.1 hb with rfl | hb
    · exact h1
    · have h2 := (List.mem_filter.1 hb).2
      simp only [decide_eq_true_eq] at h2
      omega
  · rw [lookP_append, lookP_cons, lookP_filter (fun y => decide (y < x.lba)) k, lookP_filter (fun y => decide (x.lba < y)) k]
    rcases (show k < x.lba ∨ k = x.lba ∨ x.lba < k by omega) with e | e | e
    · simp [e, show ¬ k = x.lba by omega, show ¬ x.lba = k by omega, show ¬ x.lba < k by omega]
    · subst e; simp
    · simp [e, show ¬ k = x.lba by omega, show ¬ x.lba = k by omega, show ¬ k < x.lba by omega]
theorem rIns_len (L : List Put) (x : Put) : (rIns L x).length ≤ L.length + 1 := by
  have key : ∀ (l : List Put) (s : List Put × Bool), (l.foldl (insStep x) s).1.length + (if (l.foldl (insStep x) s).2 then 0 else 1) ≤ s.1.length + (if s.2 then 0 else 1) + l.length := by
    intro l
    induction l with
    | nil => intro s; exact Nat.le_refl _
    | cons y l ih =>
      intro s
      rw [List.foldl_cons, List.length_cons]
      have h1 := ih (insStep x s y)
      have h2 : (insStep x s y).1.length + (if (insStep x s y).2 then 0 else 1) ≤ s.1.length + (if s.2 then 0 else 1) + 1 := by
        obtain ⟨o, d⟩ := s
        unfold insStep
        cases d
        · by_cases hx : x.lba ≤ y.lba <;> by_cases hy : y.lba = x.lba <;> simp [hx, hy] <;> omega
        · by_cases hy : y.lba = x.lba <;> simp [hy]
      omega
  have := key (L.take L.length) ([], false)
  unfold rIns insEnd insTo
  rw [List.take_length] at this ⊢
  simp only [List.length_nil, Bool.false_eq_true, if_false] at this
  split
  · rename_i h; rw [if_pos h] at this; omega
  · rename_i h; rw [if_neg h] at this; rw [List.length_append, List.length_singleton]; omega

/-- The Buf's row, and the map's. -/
structure BufR (s : List (Int × Bytes)) (L : List Put) : Prop where
  asc : Asc L
  look : ∀ k, lookP L k = alook s k
  nd : (s.map (·.1)).Nodup
theorem BufR.start : BufR [] [] := ⟨List.Pairwise.nil, fun _ => rfl, List.nodup_nil⟩
theorem aset_nd {s : List (Int × Bytes)} {k : Int} {d : Bytes} (h : (s.map (·.1)).Nodup) : ((aset s k d).map (·.1)).Nodup := by
  induction s with
  | nil => simp [aset]
  | cons p s ih =>
    obtain ⟨a, x⟩ := p
    simp only [List.map_cons, List.nodup_cons] at h
    unfold aset
    split
    · rename_i e; subst e; simpa using h
    · rename_i e
      simp only [List.map_cons, List.nodup_cons]
      refine ⟨fun hm => ?_, ih h.2⟩
      obtain ⟨y, hy, he⟩ := List.mem_map.1 hm
      rcases aset_mem hy with rfl | hy
      · exact e he.symm
      · exact h.1 (List.mem_map.2 ⟨y, hy, he⟩)
theorem BufR.one {s : List (Int × Bytes)} {L : List Put} (h : BufR s L) (p : Put) : BufR (aset s p.lba p.data) (rIns L p) := by
  obtain ⟨h1, h2⟩ := rIns_good h.asc p
  exact ⟨h1, fun k => by rw [h2, alook_aset, h.look], aset_nd h.nd⟩
theorem BufR.all {s : List (Int × Bytes)} : ∀ (l : List Put) {s : List (Int × Bytes)} {L : List Put}, BufR s L → BufR (putsTo s l) (l.foldl rIns L)
  | [], _, _, h => h
  | p :: l, _, _, h => BufR.all (s := []) l (h.one p)
theorem BufR.len {s : List (Int × Bytes)} {L : List Put} (h : BufR s L) : L.length = s.length := by
  have hn : (L.map (·.lba)).Nodup := by
    unfold List.Nodup
    rw [List.pairwise_map]
    exact h.asc.imp fun h => by omega
  have hp : (L.map (·.lba)).Perm (s.map (·.1)) := by
    refine (List.perm_ext_iff_of_nodup hn h.nd).2 fun k => ?_
    have h1 : k ∈ L.map (·.lba) ↔ lookP L k ≠ none := by
      rw [ne_eq, lookP_none]
      constructor
      · intro hm hall
        obtain ⟨p, hp, rfl⟩ := List.mem_map.1 hm
        exact hall p hp rfl
      · intro hne
        simp only [Classical.not_forall, Decidable.not_not] at hne
        obtain ⟨p, hp, he⟩ := hne
        exact List.mem_map.2 ⟨p, hp, he⟩
    have h2 : k ∈ s.map (·.1) ↔ alook s k ≠ none := by
      rw [ne_eq, alook_none]
      constructor
      · intro hm hall
        obtain ⟨p, hp, rfl⟩ := List.mem_map.1 hm
        exact hall p hp rfl
      · intro hne
        simp only [Classical.not_forall, Decidable.not_not] at hne
        obtain ⟨p, hp, he⟩ := hne
        exact List.mem_map.2 ⟨p, hp, he⟩
    rw [h1, h2, h.look]
  have := hp.length_eq
  rwa [List.length_map, List.length_map] at this
def freshP (L l : List Put) : Nat := (l.filter fun p => (lookP L p.lba).isNone).length
theorem freshP_take (L l : List Put) (k : Nat) (h : k < l.length) : freshP L (l.take (k + 1)) = freshP L (l.take k) + if (lookP L l[k].lba).isNone then 1 else 0 := by
  unfold freshP
  rw [take_snoc l k h, List.filter_append, List.length_append]
  congr 1
  cases h1 : (lookP L l[k].lba).isNone <;> simp [h1]
theorem freshP_le (L l : List Put) : freshP L l ≤ l.length := List.length_filter_le _ _
theorem BufR.fresh {s : List (Int × Bytes)} {L : List Put} (h : BufR s L) (l : List Put) : freshP L l = freshN s l := by
  unfold freshP freshN
  simp only [h.look]
/-- What a Write of the reference answers, and leaves. -/
def rbCode (blocks most : Int) (L l : List Put) : Int :=
  if l = [] then 1 else if l.any (outB blocks) then 2 else if l.any len40 then 3 else if twiceB l then 4 else if most < ((L.length + freshP L l : Nat) : Int) then 7 else 0
def rbNext (blocks most : Int) (L l : List Put) : List Put := if rbCode blocks most L l = 0 then l.foldl rIns L else L
theorem BufR.code {blocks most : Int} {s : List (Int × Bytes)} {L : List Put} (h : BufR s L) (l : List Put) : rbCode blocks most L l = bufCode blocks most s l := by
  unfold rbCode bufCode
  rw [h.len, h.fresh]
theorem BufR.next {blocks most : Int} {s : List (Int × Bytes)} {L : List Put} (h : BufR s L) (l : List Put) : BufR (bufNext blocks most s l) (rbNext blocks most L l) := by
  unfold bufNext rbNext
  rw [h.code]
  split
  · exact h.all l (s := [])
  · exact h
theorem rIns_foldl_len (l : List Put) : ∀ L : List Put, (l.foldl rIns L).length ≤ L.length + l.length := by
  induction l with
  | nil => intro L; simp
  | cons p l ih =>
    intro L
    rw [List.foldl_cons, List.length_cons]
    have := ih (rIns L p)
    have := rIns_len L p
    omega
end Go.Proofs

/- scarpref11's Buf: Get. -/
namespace Go.Proofs
open Go.RowKit Sc

def RBufP (v : Value) (blocks most : Int) (L : List Put) (F : Nat → Prop) (w : World) : Prop :=
  ∃ b lv, v = .pointer (some ⟨b, 0, none⟩) ∧ F b ∧ w.heap[b]? = some (.cells #[.int .i64 blocks, .int .i64 most, lv] 124 (0, 0)) ∧ PutsAt (fun q => F q ∧ q ≠ b) w lv L
theorem RBufP.same {v : Value} {blocks most : Int} {L : List Put} {F : Nat → Prop} {w w' : World} (h : RBufP v blocks most L F w) (hsm : Same F w w') : RBufP v blocks most L F w' := by
  obtain ⟨b, lv, h1, h2, h3, h4⟩ := h
  exact ⟨b, lv, h1, h2, (hsm b h2).trans h3, h4.same (fun q hq => hsm q hq.1)⟩
def RBufA (v : Value) (blocks most : Int) (L : List Put) : Asn := ⟨fun F w => RBufP v blocks most L F w, fun _ _ _ hs _ h => h.same hs⟩
theorem putsAt_shape {G : Nat → Prop} {w : World} {v : Value} {l : List Put} (h : PutsAt G w v l) : ∃ p c, v = .slice p l.length c := by
  obtain ⟨p, c, rfl, _⟩ := h; exact ⟨p, c, rfl⟩
theorem putsAt_get {G : Nat → Prop} {w : World} {p : Option Addr} {n c : Nat} {l : List Put} (h : PutsAt G w (.slice p n c) l) (k : Nat) (hk : k < l.length) :
    ∃ g o dp dc, p = some ⟨g, o, none⟩ ∧ G g ∧ w.cell? ⟨g, o + k * 2, none⟩ = some (.int .i64 l[k].lba) ∧ w.cell? ⟨g, o + k * 2 + 1, none⟩ = some (.slice dp l[k].data.length dc) ∧ I64 l[k].lba ∧ BytesAt G w (.slice dp l[k].data.length dc) l[k].data := by
  obtain ⟨p', c', he, _, _, _, h4⟩ := h
  cases he
  obtain ⟨g, o, rfl, hg, h1, h2, dv, h3, h5⟩ := h4 k hk
  obtain ⟨dp, dc, rfl, _⟩ := id h5
  exact ⟨g, o, dp, dc, rfl, hg, h1, h3, h2, h5⟩

set_option maxRecDepth 100000 in
set_option maxHeartbeats 1000000 in
theorem refBufGet_any (F : Nat → Prop) (v : Value) (blocks most : Int) (L : List Put) (lba : Int) (w : World) (hp : RBufP v blocks most L F w) (hlen : L.length ≤ 1000000) :
    Calls Try.prog 61 #[v, .int .i64 lba] w fun e w' => ∃ dv, e = .returned (.tuple #[dv, .bool (lookP L lba).isSome]) ∧ Hid (BytesAt F w' dv ((lookP L lba).getD [])) ∧ Hid (Below w.heap.size w w') := by
  obtain ⟨b, lv, rfl, hFb, hh, h4⟩ := hp
  obtain ⟨p, c, rfl⟩ := putsAt_shape h4
  have hc2 : w.cell? ⟨b, 2, none⟩ = some (.slice p L.length c) := by rw [cell_row hh]; rfl
  have H4 := Lib.hid h4
  have HH := Lib.hid hh
  clear h4 hh
  go_enter Try.func61, Try.ntmps61
  go_wp2_with fail
  go_loopw [6] (fun i wr => ∃ k : Nat, k ≤ L.length ∧ i = .int .i64 k ∧ Hid (Below w.heap.size w wr) ∧ Hid (lookP (L.take k) lba = none)) (fun i _ => L.length - (intOf i).toNat)
  case atStart => exact ⟨0, by omega, rfl, Lib.hid (Below.refl _ _), Lib.hid rfl⟩
  case round =>
    obtain ⟨k, hk, rfl, HB, HN⟩ := hrel
    have hc2' := cell_up HB.out hc2
    by_cases hlt : k < L.length
    case pos =>
      obtain ⟨g, o, dp, dc, rfl, _, hk1, hk2, _, hkd⟩ := putsAt_get (PutsAt.up H4.out HB.out) k hlt
      have hkI : (k : Int) < (L.length : Int) := by omega
      have hnx : lookP (L.take (k + 1)) lba = if L[k].lba = lba then some L[k].data else none := by
        rw [take_snoc _ _ hlt, lookP_append, HN.out, lookP_cons, lookP_nil]
        rfl
      have hall : L[k].lba = lba → lookP L lba = some L[k].data := fun e => by
        have h0 : lookP (L.take (k + 1) ++ L.drop (k + 1)) lba = some L[k].data := by rw [lookP_append, hnx, if_pos e]; rfl
        rwa [List.take_append_drop] at h0
      generalize L[k] = x at *
      by_cases hx : x.lba = lba
      case pos =>
        have hxb : (x.lba == lba) = true := by rw [beq_iff_eq]; exact hx
        have hfin := hall hx
        have hby : BytesAt F wr (.slice dp x.data.length dc) x.data := BytesAt.mono hkd fun q hq => hq.1
        have HFIN := Lib.hid hfin
        have HX := Lib.hid hx
        have HNX := Lib.hid hnx
        have HALL := Lib.hid hall
        have HKD := Lib.hid hkd
        have HBY := Lib.hid hby
        clear hfin hx hnx hall hkd hby
        go_wp2_with fail
        go_ret2
        rw [HFIN.out]
        exact ⟨_, rfl, HBY, HB⟩
      case neg =>
        have hxb : (x.lba == lba) = false := by rw [beq_eq_false_iff_ne]; exact hx
        rw [if_neg hx] at hnx
        have HX := Lib.hid hx
        have HNX := Lib.hid hnx
        have HALL := Lib.hid hall
        have HKD := Lib.hid hkd
        clear hx hnx hall hkd
        go_wp2_with fail
        go_roundw
        case rel => exact ⟨k + 1, by omega, by go_num, HB, HNX⟩
        case measure => simp [intOf]; omega
    case neg =>
      have hfin : lookP L lba = none := by
        have := HN.out
        rwa [List.take_of_length_le (by omega)] at this
      have HFIN := Lib.hid hfin
      clear hfin
      go_wp2_with fail
      go_ret2
      rw [HFIN.out]
      exact ⟨_, rfl, Lib.hid SlAt.nil, HB⟩
theorem refBufGet_sep {W w : World} {L : List Asn} (h : Hid (Sep W L w)) (i : Nat) {v : Value} {blocks most : Int} {s : List Put} (hi : L[i]? = some (RBufA v blocks most s)) (lba : Int) (hlen : s.length ≤ 1000000) :
    Calls Try.prog 61 #[v, .int .i64 lba] w fun e w' => ∃ dv, e = .returned (.tuple #[dv, .bool (lookP s lba).isSome]) ∧ Hid (BytesAt (fun _ => True) w' dv ((lookP s lba).getD [])) ∧ Hid (Below w.heap.size w w') := by
  obtain ⟨F, hF, _⟩ := h.out.get i hi
  refine (refBufGet_any F v blocks most s lba w hF hlen).mono ?_
  rintro e w' ⟨dv, rfl, h1, h2⟩
  exact ⟨dv, rfl, BytesAt.mono h1.out fun _ _ => trivial, h2⟩
end Go.Proofs

/- Package rset: what a View is; one read more; New, At, and what nothing answers. -/
namespace Go.Proofs
open Go.RowKit Sc

/-- What a Read's cells hold. -/
def readR (D : Nat → Prop) (w : World) (cs : List Value) (x : Sc.Read) : Prop := ∃ dv, cs = [.int .i64 x.lba, dv, .bool x.own] ∧ I64 x.lba ∧ BytesAt D w dv x.data
theorem readR_stable : RStable readR := fun _ _ _ _ _ _ hd hs ⟨dv, h1, h2, h3⟩ => ⟨dv, h1, h2, (h3.same hs).mono hd⟩
def ViewP (v mp bp : Value) (at_ : Int) (sp : Value) (R : List Sc.Read) (F : Nat → Prop) (w : World) : Prop :=
  ∃ b rv D, v = .pointer (some ⟨b, 0, none⟩) ∧ F b ∧ w.heap[b]? = some (.cells #[mp, bp, .int .i64 at_, sp, rv] 98 (0, 0)) ∧ OutS 64 3 readR 0 w rv R D ∧ (∀ g, rv.ownBlock = some g → F g ∧ g ≠ b) ∧ (∀ q, D q → F q ∧ q ≠ b)
def ViewA (v mp bp : Value) (at_ : Int) (sp : Value) (R : List Sc.Read) : Asn := ⟨fun F w => ViewP v mp bp at_ sp R F w, fun _ _ _ hs hz ⟨b, rv, D, h1, h2, h3, h4, h5, h6⟩ =>
  ⟨b, rv, D, h1, h2, (hs b h2).trans h3, h4.same readR_stable hs hz (fun g hg => (h5 g hg).1) (fun q hq => (h6 q hq).1), h5, h6⟩⟩
/-- Bytes that are read. -/
def DatumA (v : Value) (d : Bytes) : Asn := ⟨fun F w => BytesAt F w v d, fun _ _ _ hs _ h => h.same hs⟩
theorem Sep.view_cells {W w : World} {L : List Asn} (h : Sep W L w) (i : Nat) {v mp bp sp : Value} {at_ : Int} {R : List Sc.Read} (hi : L[i]? = some (ViewA v mp bp at_ sp R)) :
    ∃ b rv, v = .pointer (some ⟨b, 0, none⟩) ∧ b < w.heap.size ∧ w.heap[b]? = some (.cells #[mp, bp, .int .i64 at_, sp, rv] 98 (0, 0)) ∧ (∃ p c, rv = .slice p R.length c) := by
  obtain ⟨F, ⟨b, rv, D, h1, h2, h3, h4, _⟩, hd⟩ := h.get i hi
  obtain ⟨css, _, _, h5, _⟩ := h4
  refine ⟨b, rv, h1, hd b h2, h3, ?_⟩
  obtain ⟨_, ⟨rfl, hl⟩ | ⟨g, cap, _, rfl, _⟩⟩ := h5
  · exact ⟨none, 0, by rw [hl]⟩
  · exact ⟨_, _, rfl⟩
/-- One read more: its data comes along. -/
theorem Sep.view_push {W w : World} {L : List Asn} (h : Sep W L w) (i j : Nat) (hij : i ≠ j) {b : Nat} {mp bp sp dv : Value} {at_ : Int} {R : List Sc.Read} {d : Bytes} (hi : L[i]? = some (ViewA (.pointer (some ⟨b, 0, none⟩)) mp bp at_ sp R)) (hj : L[j]? = some (DatumA dv d)) :
    ∃ (rv : Value) (css : List (List Value)), w.heap[b]? = some (.cells #[mp, bp, .int .i64 at_, sp, rv] 98 (0, 0)) ∧ b < w.heap.size ∧ w.ownsRow 0 64 3 rv R.length css.flatten ∧ rv.ownBlock ≠ some b ∧
      ∀ (w3 : World) (g c : Nat) (n : Int) (own : Bool), I64 n →
        w3.ownsRow 0 64 3 (.slice (some ⟨g, 0, none⟩) (R.length + 1) c) (R.length + 1) (css.flatten ++ [.int .i64 n, dv, .bool own]) → (w.alloc (.cells #[.int .i64 n, dv, .bool own] 64)).grownBy w3 rv.ownBlock → (rv.ownBlock = some g ∨ g = w.heap.size + 1) → g < w3.heap.size →
        Sep W ((L.set j TrueA).set i (ViewA (.pointer (some ⟨b, 0, none⟩)) mp bp at_ sp (R ++ [⟨n, d, own⟩]))) (w3.setCell ⟨b, 4, none⟩ (.slice (some ⟨g, 0, none⟩) (R.length + 1) c)) := by
  obtain ⟨F, F2, G, hA, hB, hF12, _, _, hdF, hdF2, _, K⟩ := h.both i j hij hi hj
  obtain ⟨b', rv, D, hv, hFb, hh, ⟨css, q1, q2, q3, q4, q5⟩, ho, hD⟩ := hA
  cases hv
  refine ⟨rv, css, hh, hdF b hFb, q3, fun e => (ho b e).2 rfl, fun w3 g c n own hn hown hg hat hlt => ?_⟩
  have hbl := hdF b hFb
  have hb1 := below_alloc w (.cells #[.int .i64 n, dv, .bool own] 64)
  have hsz : (w.alloc (.cells #[.int .i64 n, dv, .bool own] 64)).heap.size = w.heap.size + 1 := by simp
  have hsn : OutS 64 3 readR 0 w3 (.slice (some ⟨g, 0, none⟩) (R.length + 1) c) (R ++ [⟨n, d, own⟩]) (fun q => D q ∨ F2 q) := by
    refine OutS.snoc (v := rv) (w := w.alloc (.cells #[.int .i64 n, dv, .bool own] 64)) (D3 := F2) readR_stable q1 q2 ?_ ?_ (cs := [.int .i64 n, dv, .bool own]) (x := ⟨n, d, own⟩) rfl ⟨_, rfl, hn, BytesAt.up hB hb1⟩ ?_ hown hg (by rw [hsz]; exact hat)
    · exact fun a b c => readR_stable _ _ _ _ _ _ (fun _ h => h) (fun q hq => hb1.block q (q5 q hq).2.1) (q4 a b c)
    · exact fun q hq => ⟨Nat.zero_le _, by have := (q5 q hq).2.1; omega, (q5 q hq).2.2⟩
    · exact fun q hq => ⟨Nat.zero_le _, by have := hdF2 q hq; omega, fun e => hF12 q (ho q e).1 hq⟩
  have hgb : g ≠ b := by
    rcases hat with h | h
    · exact (ho g h).2
    · omega
  have hbo : rv.ownBlock ≠ some b := fun e => (ho b e).2 rfl
  have hh3 : w3.heap[b]? = some (.cells #[mp, bp, .int .i64 at_, sp, rv] 98 (0, 0)) := by
    rw [hg.block b (by rw [hsz]; omega) (fun e => hbo e.symm), hb1.block b hbl]; exact hh
  have hsame : Same (fun q => q ≠ b) w3 (w3.setCell ⟨b, 4, none⟩ (.slice (some ⟨g, 0, none⟩) (R.length + 1) c)) := fun q hq => Below.heap_setCell _ _ _ q hq
  have hz4 : (w3.setCell ⟨b, 4, none⟩ (.slice (some ⟨g, 0, none⟩) (R.length + 1) c)).heap.size = w3.heap.size := by simp [World.setCell]
  have hgz := hg.size
  refine K _ (fun q => (F q ∨ F2 q) ∨ New w (w3.setCell ⟨b, 4, none⟩ (.slice (some ⟨g, 0, none⟩) (R.length + 1) c)) q) (ViewA (.pointer (some ⟨b, 0, none⟩)) mp bp at_ sp (R ++ [⟨n, d, own⟩])) ?_ (fun q hq => hq) ?_
  · exact (Chg.after_up hb1 (chg_grown hg fun q hq => .inl (ho q hq).1)).trans (chg_set w3 b 4 _ (.inl hFb))
  · refine ⟨b, .slice (some ⟨g, 0, none⟩) (R.length + 1) c, fun q => D q ∨ F2 q, rfl, .inl (.inl hFb), by rw [heap_set_same hh3]; rfl, ?_, ?_, ?_⟩
    · have := hsn.same (F := fun q => q ≠ b) readR_stable hsame (by rw [hz4]; exact Nat.le_refl _) (fun q hq => by
        obtain rfl : g = q := by simpa [Value.ownBlock] using hq
        exact hgb) (fun q hq => by
        rcases hq with hq | hq
        · exact (hD q hq).2
        · exact fun e => hF12 b hFb (e ▸ hq))
      have hl : (R ++ [(⟨n, d, own⟩ : Sc.Read)]).length = R.length + 1 := by simp
      rw [← hl] at this ⊢
      exact this
    · intro q hq
      obtain rfl : g = q := by simpa [Value.ownBlock] using hq
      refine ⟨?_, hgb⟩
      rcases hat with h | h
      · exact .inl (.inl (ho g h).1)
      · exact .inr ⟨by omega, by rw [hz4]; exact hlt⟩
    · rintro q (hq | hq)
      · exact ⟨.inl (.inl (hD q hq).1), (hD q hq).2⟩
      · exact ⟨.inl (.inr hq), fun e => hF12 b hFb (e ▸ hq)⟩

theorem viewNew_sep {W w : World} {L : List Asn} (h : Sep W L w) (m b : Nat) (t : Int) :
    Calls Try.prog 20 #[.pointer (some ⟨m, 0, none⟩), .pointer (some ⟨b, 0, none⟩), .int .i64 t] w fun e w' => ∃ s v : Nat, e = .returned (.pointer (some ⟨v, 0, none⟩)) ∧ Hid (Below w.heap.size w w') ∧
      Hid (Sep W (L ++ [SetA (.pointer (some ⟨s, 0, none⟩)) 64 [], ViewA (.pointer (some ⟨v, 0, none⟩)) (.pointer (some ⟨m, 0, none⟩)) (.pointer (some ⟨b, 0, none⟩)) t (.pointer (some ⟨s, 0, none⟩)) []]) w') := by
  have H := Lib.hid h
  clear h
  go_enter Try.func20, Try.ntmps20
  go_wp2_with fail
  refine (setNew_any 64 w).mono ?_
  rintro e w1 ⟨s, rfl, hm, hb1⟩
  have hS1 := H.out.new hb1 (SetA _ 64 []) (fun _ h => h) hm
  have hS2 := hS1.new (below_alloc w1 (.cells #[.pointer (some ⟨m, 0, none⟩), .pointer (some ⟨b, 0, none⟩), .int .i64 t, .pointer (some ⟨s, 0, none⟩), .slice none 0 0] 98)) (ViewA (.pointer (some ⟨w1.heap.size, 0, none⟩)) (.pointer (some ⟨m, 0, none⟩)) (.pointer (some ⟨b, 0, none⟩)) t (.pointer (some ⟨s, 0, none⟩)) []) (F := New w1 (w1.alloc (.cells #[.pointer (some ⟨m, 0, none⟩), .pointer (some ⟨b, 0, none⟩), .int .i64 t, .pointer (some ⟨s, 0, none⟩), .slice none 0 0] 98))) (fun _ h => h)
    ⟨w1.heap.size, .slice none 0 0, fun _ => False, rfl, ⟨Nat.le_refl _, by simp⟩, heap_alloc_new w1 _, OutS.nil, by simp [Value.ownBlock], fun _ h => h.elim⟩
  have hbb := Below.up hb1 (below_alloc w1 (.cells #[.pointer (some ⟨m, 0, none⟩), .pointer (some ⟨b, 0, none⟩), .int .i64 t, .pointer (some ⟨s, 0, none⟩), .slice none 0 0] 98))
  have HS2 := Lib.hid hS2
  have HBB := Lib.hid hbb
  clear hS2 hbb
  clear hS1 hm hb1
  go_wp2
  go_ret
  refine ⟨s, w1.heap.size, rfl, HBB.out, ?_⟩
  have := HS2.out
  rw [List.append_assoc] at this
  exact this
theorem viewNew_nil (t : Int) (w : World) : Calls Try.prog 20 #[.pointer none, .pointer none, .int .i64 t] w fun e w' => e = .returned (.pointer none) ∧ w' = w := by
  go_enter Try.func20, Try.ntmps20
  go_wp2
  go_ret
  exact ⟨rfl, rfl⟩
theorem viewAt_nil (w : World) : Calls Try.prog 22 #[.pointer none] w fun e w' => e = .returned (.int .i64 0) ∧ w' = w := by
  go_enter Try.func22, Try.ntmps22
  go_wp2
  go_ret
  exact ⟨rfl, rfl⟩
theorem viewReads_nil (w : World) : Calls Try.prog 21 #[.pointer none] w fun e w' => e = .returned (.slice none 0 0) ∧ w' = w := by
  go_enter Try.func21, Try.ntmps21
  go_wp2
  go_ret
  exact ⟨rfl, rfl⟩
theorem viewSet_nil {W w : World} {L : List Asn} (h : Sep W L w) : Calls Try.prog 19 #[.pointer none] w fun e w' => ∃ s : Nat, e = .returned (.pointer (some ⟨s, 0, none⟩)) ∧ Hid (Below w.heap.size w w') ∧ Hid (Sep W (L ++ [SetA (.pointer (some ⟨s, 0, none⟩)) 64 []]) w') := by
  have H := Lib.hid h
  clear h
  go_enter Try.func19, Try.ntmps19
  go_wp2_with fail
  refine (setNew_any 64 w).mono ?_
  rintro e w1 ⟨s, rfl, hm, hb1⟩
  have hS1 := H.out.new hb1 (SetA _ 64 []) (fun _ h => h) hm
  have HS1 := Lib.hid hS1
  have HB1 := Lib.hid hb1
  clear hS1 hb1
  go_wp2
  go_ret
  exact ⟨s, rfl, HB1.out, HS1.out⟩
theorem viewRead_nil (e : Ext) (w : World) : Calls Try.prog 14 #[.pointer none, extV e] w fun r w' => r = .returned (.tuple #[.slice none 0 0, .int .i64 (if e.len < 1 ∨ 16 < e.len then 3 else 2)]) ∧ Below w.heap.size w w' := by
  have hb0 := below_alloc w (.cells #[.int .i64 e.first, .int .i64 e.len] 39)
  have HB0 := Lib.hid hb0
  clear hb0
  rcases (show e.len < 1 ∨ (1 ≤ e.len ∧ 16 < e.len) ∨ (1 ≤ e.len ∧ e.len ≤ 16) by omega) with h | ⟨h0, h⟩ | ⟨h0, h⟩
  · rw [if_pos (.inl h)]
    go_enter Try.func14, Try.ntmps14
    go_wp2_with fail
    go_step3
    go_wp2_with fail
    rw [Exit.noGoto_ret]
    go_ret2
    exact ⟨rfl, HB0.out⟩
  · rw [if_pos (.inr h)]
    go_enter Try.func14, Try.ntmps14
    go_wp2_with fail
    go_step3
    go_wp2_with fail
    rw [Exit.noGoto_ret]
    go_ret2
    exact ⟨rfl, HB0.out⟩
  · rw [if_neg (by omega)]
    go_enter Try.func14, Try.ntmps14
    go_wp2_with fail
    go_step3
    go_wp2_with fail
    rw [Exit.noGoto_ret]
    go_ret2
    exact ⟨rfl, HB0.out⟩
end Go.Proofs

/- Package extmap: within, Range. -/
namespace Go.Proofs
open Go.RowKit Sc

def withinB (blocks a n : Int) : Bool := decide (0 ≤ a) && decide (1 ≤ n) && decide (n ≤ blocks) && decide (a ≤ blocks - n)
theorem withinB_no {blocks a n : Int} (h : ¬ (0 ≤ a ∧ 1 ≤ n ∧ n ≤ blocks ∧ a ≤ blocks - n)) : withinB blocks a n = false := by
  unfold withinB
  rw [← Bool.not_eq_true]
  simp only [Bool.and_eq_true, decide_eq_true_eq]
  omega
theorem withinB_yes {blocks a n : Int} (h : 0 ≤ a ∧ 1 ≤ n ∧ n ≤ blocks ∧ a ≤ blocks - n) : withinB blocks a n = true := by
  unfold withinB
  simp only [Bool.and_eq_true, decide_eq_true_eq]
  omega

set_option maxRecDepth 100000 in
set_option maxHeartbeats 1000000 in
theorem extWithin_any (F : Nat → Prop) (v : Value) (blocks last : Int) (vs : Vers) (a n : Int) (w : World) (h : ExtIs F w v blocks last vs) (hbl : blocks ≤ 1048576) :
    Calls Try.prog 67 #[v, .agg #[.int .i64 a, .int .i64 n]] w fun e w' => e = .returned (.bool (withinB blocks a n)) ∧ Below w.heap.size w w' := by
  have H := Lib.hid h
  obtain ⟨b, r, ml, rfl, _⟩ := h.cells
  clear h
  have hbk : ∀ W, Below w.heap.size w W → Calls Try.prog 72 #[.pointer (some ⟨b, 0, none⟩)] W fun e w' => e = .returned (.int .i64 blocks) ∧ w' = W := fun W hb => (extBlocks_any F (.pointer (some ⟨b, 0, none⟩)) blocks last vs W (H.out.up hb)).mono fun _ _ ⟨h1, h2⟩ => ⟨h1, h2.symm⟩
  have hw0 := below_alloc w (.cells #[.int .i64 a, .int .i64 n] 39)
  by_cases h1 : 0 ≤ a
  · by_cases h2 : 1 ≤ n
    · by_cases h3 : n ≤ blocks
      · have hw1 : IntKind.i64.wrap (blocks - n) = blocks - n := IntWalk.i64_in _ (by omega)
        by_cases h4 : a ≤ blocks - n
        · have hb := withinB_yes ⟨h1, h2, h3, h4⟩
          have HB := Lib.hid hb
          have HBK := Lib.hid hbk
          have HW0 := Lib.hid hw0
          clear hb hbk hw0
          go_enter Try.func67, Try.ntmps67
          go_wp2
          go_quiet ((go_at_call 72; exact Calls.quiet_of_same (HBK.out _ (below_drewN HW0.out _))))
          go_wp2
          go_ret
          exact ⟨congrArg boolRet HB.out.symm, below_drewN HW0.out _⟩
        · have hb : withinB blocks a n = false := withinB_no (by omega)
          have h4' : decide (a ≤ blocks - n) = false := decide_eq_false h4
          have HB := Lib.hid hb
          have HBK := Lib.hid hbk
          have HW0 := Lib.hid hw0
          clear hb hbk hw0
          clear h4
          go_enter Try.func67, Try.ntmps67
          go_wp2
          go_quiet ((go_at_call 72; exact Calls.quiet_of_same (HBK.out _ (below_drewN HW0.out _))))
          go_wp2
          go_ret
          exact ⟨congrArg boolRet HB.out.symm, below_drewN HW0.out _⟩
      · have hb : withinB blocks a n = false := withinB_no (by omega)
        have h3' : decide (n ≤ blocks) = false := decide_eq_false h3
        have HB := Lib.hid hb
        have HBK := Lib.hid hbk
        have HW0 := Lib.hid hw0
        clear hb hbk hw0
        clear h3
        go_enter Try.func67, Try.ntmps67
        go_wp2
        go_quiet ((go_at_call 72; exact Calls.quiet_of_same (HBK.out _ (below_drewN HW0.out _))))
        go_wp2
        go_ret
        exact ⟨congrArg boolRet HB.out.symm, below_drewN HW0.out _⟩
    · have hb : withinB blocks a n = false := withinB_no (by omega)
      have h2' : decide (1 ≤ n) = false := decide_eq_false h2
      have HB := Lib.hid hb
      have HW0 := Lib.hid hw0
      clear hb hw0
      clear h2 hbk
      go_enter Try.func67, Try.ntmps67
      go_wp2
      go_quiet (fail)
      go_wp2
      go_ret
      exact ⟨congrArg boolRet HB.out.symm, below_drewN HW0.out _⟩
  · have hb : withinB blocks a n = false := withinB_no (by omega)
    have h1' : decide (0 ≤ a) = false := decide_eq_false h1
    have HB := Lib.hid hb
    have HW0 := Lib.hid hw0
    clear hb hw0
    clear h1 hbk
    go_enter Try.func67, Try.ntmps67
    go_wp2
    go_quiet (fail)
    go_wp2
    go_ret
    exact ⟨congrArg boolRet HB.out.symm, below_drewN HW0.out _⟩
end Go.Proofs

/- Package extmap: Range. -/
namespace Go.Proofs
open Go.RowKit Sc

abbrev u8s (l : Bytes) : List Value := l.map fun x => Value.int .u8 (x.toNat : Int)
theorem bytes_news {G : Nat → Prop} {w : World} {dp : Option Addr} {n c : Nat} {l : Bytes} (h : BytesAt G w (.slice dp n c) l) (hl : 0 < l.length) :
    ∃ b o, dp = some ⟨b, o, none⟩ ∧ ∀ j u, (u8s l)[j]? = some u → w.cell? ((⟨b, o, none⟩ : Addr).add j) = some u := by
  obtain ⟨p, c', he, _, _, _, h4⟩ := h
  cases he
  obtain ⟨b, o, rfl, _, _⟩ := h4 0 hl
  refine ⟨b, o, rfl, fun j u hu => ?_⟩
  have hj : j < l.length := by have := (List.getElem?_eq_some_iff.1 hu).1; simpa using this
  obtain ⟨b', o', he, _, hc⟩ := h4 j hj
  cases he
  have hadd : (⟨b, o, none⟩ : Addr).add j = ⟨b, o + j, none⟩ := by unfold Addr.add; split <;> simp_all
  rw [hadd]
  unfold byteE at hc
  rw [Nat.mul_one] at hc
  rw [hc, ← hu, List.getElem?_map, List.getElem?_eq_getElem hj]; rfl

/-- What an extent's blocks were at a time. -/
def rangeV (vs : Vers) (a t : Int) (m : Nat) : Bytes := (List.range m).flatMap fun i : Nat => (getV vs (a + i) t).1
theorem rangeV_succ (vs : Vers) (a t : Int) (m : Nat) : rangeV vs a t (m + 1) = rangeV vs a t m ++ (getV vs (a + m) t).1 := by
  unfold rangeV; rw [List.range_succ, List.flatMap_append]; simp
theorem rangeV_length {vs : Vers} {a t : Int} (h : ∀ b, (getV vs b t).1.length = 40) (m : Nat) : (rangeV vs a t m).length = 40 * m := by
  induction m with
  | zero => rfl
  | succ m ih => rw [rangeV_succ, List.length_append, ih, h]; omega
def ExtRangeSaid (blocks : Int) (vs : Vers) (a n t : Int) (w : World) (e : Ending) (w' : World) : Prop :=
  (withinB blocks a n = false ∧ e = .returned (.tuple #[.slice none 0 0, .int .i64 2]) ∧ Below w.heap.size w w') ∨
  (withinB blocks a n = true ∧ ∃ v, e = .returned (.tuple #[v, .int .i64 0]) ∧ BytesW (New w w') w' v (rangeV vs a t n.toNat) ∧ Below w.heap.size w w')

set_option maxRecDepth 100000 in
set_option maxHeartbeats 2000000 in
theorem extRange_any (F : Nat → Prop) (v : Value) (blocks last : Int) (vs : Vers) (a n t : Int) (w : World) (h : ExtIs F w v blocks last vs) (hbl : blocks ≤ 1048576) (hs : ∀ k l, alook vs k = some l → ∀ p ∈ l, p.data.length ≤ 1000000) (h40 : ∀ b, (getV vs b t).1.length = 40) :
    Calls Try.prog 43 #[v, .agg #[.int .i64 a, .int .i64 n], .int .i64 t] w (ExtRangeSaid blocks vs a n t w) := by
  have H := Lib.hid h
  have HS := Lib.hid hs
  have H4Z := Lib.hid h40
  clear h hs h40
  have hb0 := below_alloc w (.cells #[.int .i64 a, .int .i64 n] 39)
  have hc0 : (w.alloc (.cells #[.int .i64 a, .int .i64 n] 39)).cell? ⟨w.heap.size, 0, none⟩ = some (.int .i64 a) := by rw [cell_row (heap_alloc_new w _)]; rfl
  have hc1 : (w.alloc (.cells #[.int .i64 a, .int .i64 n] 39)).cell? ⟨w.heap.size, 1, none⟩ = some (.int .i64 n) := by rw [cell_row (heap_alloc_new w _)]; rfl
  have hz0 : (w.alloc (.cells #[.int .i64 a, .int .i64 n] 39)).heap.size = w.heap.size + 1 := by simp
  have HB0 := Lib.hid hb0
  clear hb0
  cases hq : withinB blocks a n with
  | false =>
    have HQ := Lib.hid hq
    clear hq
    clear hz0
    go_enter Try.func43, Try.ntmps43
    go_wp2_with fail
    refine (extWithin_any F _ _ _ _ a n _ (H.out.up HB0.out) hbl).mono ?_
    rintro e w1 ⟨rfl, hb1⟩
    rw [HQ.out]
    have hb01 := Below.up HB0.out hb1
    have HB01 := Lib.hid hb01
    clear hb01
    go_wp2
    go_ret2
    exact .inl ⟨HQ.out, rfl, HB01.out⟩
  | true =>
    have hq' := hq
    unfold withinB at hq'
    simp only [Bool.and_eq_true, decide_eq_true_eq] at hq'
    obtain ⟨⟨⟨q1, q2⟩, q3⟩, q4⟩ := hq'
    obtain ⟨N, rfl⟩ := Int.eq_ofNat_of_zero_le (show 0 ≤ n by omega)
    obtain ⟨i0, hi, hp0, hp1, hp2⟩ := info_parts infoU8
    have HQ := Lib.hid hq
    clear hq
    go_enter Try.func43, Try.ntmps43
    go_wp2_with fail
    refine (extWithin_any F _ _ _ _ a N _ (H.out.up HB0.out) hbl).mono ?_
    rintro e w1 ⟨rfl, hb1⟩
    rw [HQ.out]
    have hd0 := (hb1.cell (p := ⟨w.heap.size, 0, none⟩) (by simp only [hz0]; omega)).trans hc0
    have hd1 := (hb1.cell (p := ⟨w.heap.size, 1, none⟩) (by simp only [hz0]; omega)).trans hc1
    have hz1 := hb1.size
    rw [hz0] at hz1
    have hb01 := Below.up HB0.out hb1
    have HB01 := Lib.hid hb01
    clear hb01
    clear hc0 hc1 hb1 hz0
    go_wp2_with fail
    go_loopw [6, 17] (fun vo iv wr => ∃ m : Nat, ∃ po c, m ≤ N ∧ iv = .int .i64 m ∧ vo = .slice po (40 * m) c ∧ Hid (wr.ownsRow w1.heap.size 5 1 (.slice po (40 * m) c) (40 * m) (u8s (rangeV vs a t m))) ∧ Hid (Below w1.heap.size w1 wr)) (fun _ iv _ => N - (intOf iv).toNat)
    case atStart => exact ⟨0, none, 0, by omega, rfl, rfl, World.ownsRow_nil _ _ _ _, Below.refl _ _⟩
    case round =>
      obtain ⟨m, po, c, hm, rfl, rfl, HO, HB⟩ := hrel
      have hbw : Below w.heap.size w wr := HB01.out.trans (HB.out.mono (by omega))
      by_cases hlt : m < N
      case neg =>
        obtain rfl : m = N := by omega
        have HBW := Lib.hid hbw
        clear hbw
        go_wp2_with fail
        go_ret2
        refine .inr ⟨HQ.out, _, rfl, ?_, HBW.out⟩
        have hr := bytesW_own (B := w1.heap.size) (New w wr) (rangeV_length H4Z.out m) (fun q h1 h2 => ⟨by omega, h2⟩) HO.out
        simpa using hr
      case pos =>
        have he0 := (HB.out.cell (p := ⟨w.heap.size, 0, none⟩) (by simp only; omega)).trans hd0
        have hw1 : IntKind.i64.wrap (a + (m : Int)) = a + (m : Int) := IntWalk.i64_in _ (by omega)
        have hbk : blk blocks (a + m) = true := by unfold blk; rw [decide_eq_true (by omega), decide_eq_true (by omega)]; rfl
        have hm0 : (m : Int) < (N : Int) := by omega
        have hget := extGet_any F _ _ _ _ (a + m) t wr (H.out.up hbw) HS.out
        have hlen := H4Z.out (a + m)
        have hsucc := rangeV_succ vs a t m
        generalize (getV vs (a + m) t).2 = since at hget
        have HBK := Lib.hid hbk
        have HBW := Lib.hid hbw
        have HGET := Lib.hid hget
        have HLEN := Lib.hid hlen
        have HSUCC := Lib.hid hsucc
        clear hbk hbw hget hlen hsucc
        clear hd0 hd1
        go_wp2_with fail
        refine (HGET.out).mono ?_
        rintro e w7 (⟨hno, _⟩ | ⟨_, v7, rfl, hv7, hb7⟩)
        · exact absurd (hno.symm.trans HBK.out) (by decide)
        generalize (getV vs (a + m) t).1 = d at *
        obtain ⟨dp, dc, rfl⟩ := shape_of hv7.bytes HLEN.out
        obtain ⟨gb, ob, rfl, hnews⟩ := bytes_news hv7.bytes (by rw [HLEN.out]; omega)
        have hrow7 := row_same (F := fun q => q < wr.heap.size) (fun q hq => hb7.block q hq) HO.out (fun g hg => (HO.out.lt g hg).2)
        have hl1 : (u8s d).length = 40 * 1 := by unfold u8s; rw [List.length_map, HLEN.out]
        have hone : ∀ u ∈ u8s d, u.oneCell' = true := fun u hu => by obtain ⟨z, _, rfl⟩ := List.mem_map.1 hu; rfl
        have hz7 : w1.heap.size ≤ w7.heap.size := Nat.le_trans HB.out.size hb7.size
        have HNEWS := Lib.hid hnews
        have HROW7 := Lib.hid hrow7
        have HB7 := Lib.hid hb7
        have HL1 := Lib.hid hl1
        have HONE := Lib.hid hone
        have HV7 := Lib.hid hv7
        clear hnews hrow7 hb7 hl1 hone hv7
        go_wp2_with (at_builtin; refine wpList_append_lies _ rfl _ _ 26 rfl w1.heap.size 5 i0 (.int .u8 0) 1 1 Try.underlying26 hi hp0 hp1 hp2 rfl (by decide) _ (40 * m) (u8s (rangeV vs a t m)) rfl HROW7.out ⟨gb, ob, none⟩ 40 dc (u8s d) rfl HL1.out HNEWS.out HONE.out (by decide) (by unfold maxLen; omega) (by omega) hz7 w7.heap.size rfl ?_; intro gg cap w8 hown8 hgrow8 hat8 hlt8)
        go_roundw
        case rel =>
          refine ⟨m + 1, some ⟨gg, 0, none⟩, cap, by omega, by go_num, by rw [Nat.mul_succ], ?_, ?_⟩
          · unfold Hid
            rw [HSUCC.out, Nat.mul_succ]
            simpa [u8s] using hown8
          · exact (HB.out.trans (HB7.out.mono HB.out.size)).grown hgrow8 hz7 (fun q hq => (HO.out.lt q hq).1)
        case measure => simp [intOf]; omega
end Go.Proofs

/- Bufs side by side with other things (for seats without the laws of chapter 14). -/
namespace Go.Proofs
open Go.RowKit Sc

theorem putsTo_keys (l : List Put) : ∀ s : List (Int × Bytes), ∀ x ∈ putsTo s l, (x ∈ s) ∨ ∃ p ∈ l, x = (p.lba, p.data) := by
  induction l with
  | nil => intro s x hx; exact .inl hx
  | cons p l ih =>
    intro s x hx
    rcases ih (aset s p.lba p.data) x hx with h | ⟨q, hq, rfl⟩
    · rcases aset_mem h with rfl | h
      · exact .inr ⟨p, by simp, rfl⟩
      · exact .inl h
    · exact .inr ⟨q, by simp [hq], rfl⟩
theorem putsTo_nodup (l : List Put) : ∀ s : List (Int × Bytes), (s.map (·.1)).Nodup → ((putsTo s l).map (·.1)).Nodup := by
  induction l with
  | nil => intro s h; exact h
  | cons p l ih => intro s h; exact ih _ (nodup_aset h _ _)
theorem aset_len (s : List (Int × Bytes)) (k : Int) (d : Bytes) : (aset s k d).length = s.length + if (alook s k).isNone then 1 else 0 := by
  induction s with
  | nil => rfl
  | cons x t ih =>
    obtain ⟨n, y⟩ := x
    by_cases h : n = k
    · subst h; simp [aset, alook]
    · simp [aset, alook, h, ih]; omega
theorem putsTo_len (l : List Put) : ∀ s : List (Int × Bytes), (l.map (·.lba)).Nodup → (putsTo s l).length = s.length + freshN s l := by
  induction l with
  | nil => intro s _; rfl
  | cons p l ih =>
    intro s hn
    simp only [List.map_cons, List.nodup_cons] at hn
    show (putsTo (aset s p.lba p.data) l).length = _
    rw [ih _ hn.2, aset_len]
    have : freshN (aset s p.lba p.data) l = freshN s l := by
      unfold freshN
      congr 1
      refine List.filter_congr fun q hq => ?_
      rw [alook_aset, if_neg (fun e => hn.1 (List.mem_map.2 ⟨q, hq, e⟩))]
    rw [this]
    unfold freshN
    rw [List.filter_cons]
    split <;> simp_all <;> omega
/-- A Buf that came of Writes. -/
structure BufG (blocks : Int) (s : List (Int × Bytes)) : Prop where
  nd : (s.map (·.1)).Nodup
  ks : ∀ x ∈ s, 0 ≤ x.1 ∧ x.1 < blocks ∧ x.2.length = 40
theorem BufG.start (blocks : Int) : BufG blocks [] := ⟨List.nodup_nil, by simp⟩
theorem bufCode_zero {blocks most : Int} {s : List (Int × Bytes)} {l : List Put} (h : bufCode blocks most s l = 0) : l ≠ [] ∧ (∀ p ∈ l, 0 ≤ p.lba ∧ p.lba < blocks) ∧ (∀ p ∈ l, p.data.length = 40) ∧ (l.map (·.lba)).Nodup ∧ ((s.length + freshN s l : Nat) : Int) ≤ most := by
  unfold bufCode at h
  split at h
  · cases h
  rename_i h1
  split at h
  · cases h
  rename_i h2
  split at h
  · cases h
  rename_i h3
  split at h
  · cases h
  rename_i h4
  split at h
  · cases h
  rename_i h5
  refine ⟨h1, fun p hp => ?_, fun p hp => ?_, twiceB_no.1 (by simpa using h4), by omega⟩
  · simp only [List.any_eq_true, not_exists, not_and, outB, Bool.or_eq_true, decide_eq_true_eq] at h2
    have := h2 p hp; omega
  · simp only [List.any_eq_true, not_exists, not_and, len40] at h3
    have := h3 p hp
    simpa using this
theorem BufG.next {blocks most : Int} {s : List (Int × Bytes)} (h : BufG blocks s) (l : List Put) : BufG blocks (bufNext blocks most s l) := by
  unfold bufNext
  split
  · rename_i hc
    obtain ⟨_, h2, h3, _, _⟩ := bufCode_zero hc
    refine ⟨putsTo_nodup l s h.nd, fun x hx => ?_⟩
    rcases putsTo_keys l s x hx with hx | ⟨p, hp, rfl⟩
    · exact h.ks x hx
    · exact ⟨(h2 p hp).1, (h2 p hp).2, h3 p hp⟩
  · exact h
theorem bufNext_len {blocks most : Int} {s : List (Int × Bytes)} (l : List Put) : (bufNext blocks most s l).length ≤ s.length + l.length ∧ ((s.length : Int) ≤ most → ((bufNext blocks most s l).length : Int) ≤ most) := by
  unfold bufNext
  split
  · rename_i hc
    obtain ⟨_, _, _, h4, h5⟩ := bufCode_zero hc
    rw [putsTo_len l s h4]
    have : freshN s l ≤ l.length := by unfold freshN; exact List.length_filter_le _ _
    exact ⟨by omega, fun _ => h5⟩
  · exact ⟨by omega, fun h => h⟩
theorem BufG.i64 {blocks : Int} {s : List (Int × Bytes)} (h : BufG blocks s) (hb : blocks ≤ 1048576) : ∀ x ∈ s, I64 x.1 := fun x hx => by have := h.ks x hx; unfold I64; omega
theorem BufG.d40 {blocks : Int} {s : List (Int × Bytes)} (h : BufG blocks s) : ∀ x ∈ s, x.2.length ≤ 1000000 := fun x hx => by have := h.ks x hx; omega

theorem bufNew_sep {W w : World} {L : List Asn} (h : Sep W L w) (n m : Int) (h1 : 1 ≤ n) (h2 : n ≤ 1048576) (h3 : 0 ≤ m) :
    Calls Try.prog 39 #[.int .i64 n, .int .i64 m] w fun e w' => ∃ b : Nat, e = .returned (.tuple #[.pointer (some ⟨b, 0, none⟩), .int .i64 0]) ∧ Hid (Sep W (L ++ [BufA (.pointer (some ⟨b, 0, none⟩)) n m []]) w') := by
  refine (bufNew_any n m w h1 h2 h3).mono ?_
  rintro e w' ⟨b, rfl, hm, hb⟩
  exact ⟨b, rfl, h.new hb (BufA _ n m []) (fun _ h => h) hm⟩
theorem bufWrite_sep {W w : World} {L : List Asn} (h : Sep W L w) (i : Nat) {v lv : Value} {blocks most : Int} {s : List (Int × Bytes)} (hi : L[i]? = some (BufA v blocks most s)) (l : List Put) (hl : ∀ G, Sc.Rest L i G w → PutsAt G w lv l) (n0 : s.length ≤ 1000000) (n1 : l.length ≤ 1000000) :
    Calls Try.prog 25 #[v, lv] w fun e w' => e = .returned (.int .i64 (bufCode blocks most s l)) ∧ Hid (Sep W (L.set i (BufA v blocks most (bufNext blocks most s l))) w') := by
  obtain ⟨F, G, hF, hR, hFG, hdF, hdG, K⟩ := h.at i hi
  refine (bufWrite_any F G v lv blocks most s l w hF (hl G hR) hdG hFG n0 n1).mono ?_
  rintro e w' ⟨rfl, hc, hm⟩
  exact ⟨rfl, K w' _ (BufA v blocks most (bufNext blocks most s l)) hc (fun k hk => hk) hm⟩
/-- Bytes that are read. -/
def ByA (v : Value) (d : Bytes) : Asn := ⟨fun F w => BytesAt F w v d, fun _ _ _ hs _ h => h.same hs⟩
theorem puts_box1 {G : Nat → Prop} {w : World} {g : Nat} {n : Int} {dv : Value} {d : Bytes} {T : TypeId} (hh : w.heap[g]? = some (.cells #[.int .i64 n, dv] T (0, 0))) (hg : G g) (hn : I64 n) (hd : BytesAt G w dv d) : PutsAt G w (.slice (some ⟨g, 0, none⟩) 1 1) [⟨n, d⟩] := by
  refine ⟨_, 1, rfl, Nat.le_refl _, by omega, (by intro h; cases h), fun i hi => ?_⟩
  simp only [List.length_cons, List.length_nil] at hi
  obtain rfl : i = 0 := by omega
  exact ⟨g, 0, rfl, hg, by rw [cell_row hh]; rfl, hn, dv, by rw [cell_row hh]; rfl, hd⟩
theorem puts_box2 {G : Nat → Prop} {w : World} {g : Nat} {n m : Int} {dv ev : Value} {d e : Bytes} {T : TypeId} (hh : w.heap[g]? = some (.cells #[.int .i64 n, dv, .int .i64 m, ev] T (0, 0))) (hg : G g) (hn : I64 n) (hm : I64 m) (hd : BytesAt G w dv d) (he : BytesAt G w ev e) : PutsAt G w (.slice (some ⟨g, 0, none⟩) 2 2) [⟨n, d⟩, ⟨m, e⟩] := by
  refine ⟨_, 2, rfl, Nat.le_refl _, by omega, (by intro h; cases h), fun i hi => ?_⟩
  simp only [List.length_cons, List.length_nil] at hi
  rcases (show i = 0 ∨ i = 1 by omega) with rfl | rfl
  · exact ⟨g, 0, rfl, hg, by rw [cell_row hh]; rfl, hn, dv, by rw [cell_row hh]; rfl, hd⟩
  · exact ⟨g, 0, rfl, hg, by rw [cell_row hh]; rfl, hm, ev, by rw [cell_row hh]; rfl, he⟩
theorem bufWrite_one {W w : World} {L : List Asn} (h : Hid (Sep W L w)) (i j : Nat) (hij : j ≠ i) {v dv : Value} {d : Bytes} {blocks most : Int} {s : List (Int × Bytes)} (hi : L[i]? = some (BufA v blocks most s)) (hj : L[j]? = some (ByA dv d)) (n : Int) (hn : I64 n) (g : Nat) (hg : w.heap.size = g) (n0 : s.length ≤ 1000000) :
    Calls Try.prog 25 #[v, .slice (some ⟨g, 0, none⟩) 1 1] (w.alloc (.cells #[.int .i64 n, dv] 61)) fun e w' => e = .returned (.int .i64 (bufCode blocks most s [⟨n, d⟩])) ∧ Hid (Sep W (L.set i (BufA v blocks most (bufNext blocks most s [⟨n, d⟩]))) w') := by
  subst hg
  have hil : i < L.length := (List.getElem?_eq_some_iff.1 hi).1
  have hjl : j < L.length := (List.getElem?_eq_some_iff.1 hj).1
  have h1 := h.out.new (below_alloc w _) (BoxA w.heap.size #[.int .i64 n, dv] 61) (F := New w (w.alloc (.cells #[.int .i64 n, dv] 61))) (fun _ h => h) ⟨⟨Nat.le_refl _, by simp⟩, heap_alloc_new w _⟩
  refine (bufWrite_sep h1 i (by rw [List.getElem?_append_left hil]; exact hi) [⟨n, d⟩] (fun G hR => ?_) n0 (by simp)).mono ?_
  · obtain ⟨F1, a1, a2⟩ := hR j (ByA dv d) hij (by rw [List.getElem?_append_left hjl]; exact hj)
    obtain ⟨F2, b1, b2⟩ := hR L.length (BoxA w.heap.size #[.int .i64 n, dv] 61) (by omega) (by rw [List.getElem?_append_right (Nat.le_refl _)]; simp)
    exact puts_box1 b2.2 (b1 _ b2.1) hn (BytesAt.mono a2 a1)
  · rintro e w' ⟨rfl, hS⟩
    refine ⟨rfl, ?_⟩
    have := hS.out.take L.length
    rw [List.set_append_left _ _ hil, List.take_left' (by simp)] at this
    exact this
end Go.Proofs

/- Package rset: what a read gives, plain; bytes laid over bytes. -/
namespace Go.Proofs
open Go.RowKit Sc

/-- Rows of forty bytes, one behind the other. -/
def rowsF (f : Nat → Bytes) (m : Nat) : Bytes := (List.range m).flatMap f
theorem rowsF_succ (f : Nat → Bytes) (m : Nat) : rowsF f (m + 1) = rowsF f m ++ f m := by unfold rowsF; rw [List.range_succ, List.flatMap_append]; simp
theorem rowsF_length {f : Nat → Bytes} (h : ∀ i, (f i).length = 40) (m : Nat) : (rowsF f m).length = 40 * m := by
  induction m with
  | zero => rfl
  | succ m ih => rw [rowsF_succ, List.length_append, ih, h]; omega
theorem rowsF_drop {f : Nat → Bytes} (h : ∀ i, (f i).length = 40) : ∀ (n i : Nat), i < n → (rowsF f n).drop (40 * i) = f i ++ (rowsF f n).drop (40 * (i + 1))
  | 0, i, hi => absurd hi (by omega)
  | n + 1, i, hi => by
    have hl := rowsF_length h n
    rw [rowsF_succ]
    by_cases he : i = n
    · subst he
      rw [List.drop_append_of_le_length (by omega), List.drop_eq_nil_of_le (by omega), List.nil_append, List.drop_eq_nil_of_le (by rw [List.length_append, hl, h]; omega), List.append_nil]
    · rw [List.drop_append_of_le_length (by omega), List.drop_append_of_le_length (by omega), rowsF_drop h n i (by omega), List.append_assoc]
/-- The first rows of the one, the rest of the other. -/
def midF (f g : Nat → Bytes) (n i : Nat) : Bytes := rowsF f i ++ (rowsF g n).drop (40 * i)
theorem midF_length {f g : Nat → Bytes} (hf : ∀ i, (f i).length = 40) (hg : ∀ i, (g i).length = 40) {n i : Nat} (hi : i ≤ n) : (midF f g n i).length = 40 * n := by
  unfold midF; rw [List.length_append, List.length_drop, rowsF_length hf, rowsF_length hg]; omega
theorem midF_zero (f g : Nat → Bytes) (n : Nat) : midF f g n 0 = rowsF g n := by unfold midF; rw [Nat.mul_zero, List.drop_zero]; rfl
theorem midF_all {f g : Nat → Bytes} (hg : ∀ i, (g i).length = 40) (n : Nat) : midF f g n n = rowsF f n := by
  unfold midF; rw [List.drop_eq_nil_of_le (by rw [rowsF_length hg]; omega), List.append_nil]
theorem midF_at {f g : Nat → Bytes} (_hf : ∀ i, (f i).length = 40) (hg : ∀ i, (g i).length = 40) {n i : Nat} (hi : i < n) : midF f g n i = rowsF f i ++ (g i ++ (rowsF g n).drop (40 * (i + 1))) := by
  unfold midF; rw [rowsF_drop hg n i hi]
theorem midF_next {f g : Nat → Bytes} (hf : ∀ i, (f i).length = 40) (hg : ∀ i, (g i).length = 40) {n i : Nat} (hi : i < n) : (midF f g n i).take (40 * i) ++ f i ++ (midF f g n i).drop (40 * i + (f i).length) = midF f g n (i + 1) := by
  have h1 := rowsF_length hf i
  rw [midF_at hf hg hi, List.take_append_of_le_length (by omega), List.take_of_length_le (by omega), List.drop_append, h1, hf, List.drop_eq_nil_of_le (by omega), List.nil_append, show 40 * i + 40 - 40 * i = 40 by omega, List.drop_append_of_le_length (by rw [hg]; omega), List.drop_eq_nil_of_le (by rw [hg]; omega), List.nil_append]
  unfold midF
  rw [rowsF_succ]
theorem midF_same {f g : Nat → Bytes} (hf : ∀ i, (f i).length = 40) (hg : ∀ i, (g i).length = 40) {n i : Nat} (hi : i < n) (he : f i = g i) : midF f g n i = midF f g n (i + 1) := by
  rw [midF_at hf hg hi, ← he, ← List.append_assoc, ← rowsF_succ]; rfl
theorem midF_row {f g : Nat → Bytes} (hf : ∀ i, (f i).length = 40) (hg : ∀ i, (g i).length = 40) {n i : Nat} (hi : i < n) (j : Nat) (hj : j < 40) : (midF f g n i)[40 * i + j]? = (g i)[j]? := by
  have h1 := rowsF_length hf i
  rw [midF_at hf hg hi, List.getElem?_append_right (by omega), h1, show 40 * i + j - 40 * i = j by omega, List.getElem?_append_left (by rw [hg]; omega)]

def blkV (vs : Vers) (s : List (Int × Bytes)) (t x : Int) : Bytes := (alook s x).getD (getV vs x t).1
def readsV (vs : Vers) (s : List (Int × Bytes)) (t a : Int) (m : Nat) : List Sc.Read := (List.range m).map fun i : Nat => ⟨a + i, blkV vs s t (a + i), (alook s (a + i)).isSome⟩
theorem readsV_succ (vs : Vers) (s : List (Int × Bytes)) (t a : Int) (m : Nat) : readsV vs s t a (m + 1) = readsV vs s t a m ++ [⟨a + m, blkV vs s t (a + m), (alook s (a + m)).isSome⟩] := by unfold readsV; rw [List.range_succ]; simp
theorem readsV_length (vs : Vers) (s : List (Int × Bytes)) (t a : Int) (m : Nat) : (readsV vs s t a m).length = m := by simp [readsV]
theorem good_get40 {blocks last : Int} {vs : Vers} (h : GoodE blocks last vs) (x t : Int) : (getV vs x t).1.length = 40 := by
  rw [getV_eq]
  split
  · rename_i p hp
    split
    · rfl
    · cases hq : alook vs x with
      | none => rw [hq] at hp; simp at hp
      | some l =>
        rw [hq] at hp
        exact ((h.ts x l hq).2.2 p (List.mem_of_getElem? hp)).1
  · rfl
theorem blkV_length {blocks last b2 : Int} {vs : Vers} {s : List (Int × Bytes)} (h : GoodE blocks last vs) (hs : BufG b2 s) (t x : Int) : (blkV vs s t x).length = 40 := by
  unfold blkV
  cases hq : alook s x with
  | none => exact good_get40 h x t
  | some d => exact (hs.ks _ (alook_in hq)).2.2

theorem chg_setCells (b : Nat) {S : Nat → Prop} (hb : S b) : ∀ (vs : List Value) (o : Nat) (w : World), Chg S w (w.setCells b o vs)
  | [], _, w => Chg.refl S w
  | v :: vs, o, w => (chg_set w b o v hb).trans (chg_setCells b hb vs (o + 1) (w.setCell ⟨b, o, none⟩ v))
def u8v (l : Bytes) : List Value := l.map fun x => .int .u8 (x.toNat : Int)
theorem u8v_length (l : Bytes) : (u8v l).length = l.length := by simp [u8v]
/-- Bytes that are laid over others. -/
theorem Sep.bytes_splice {W w : World} {L : List Asn} (h : Sep W L w) (k : Nat) {g o n c : Nat} {l : Bytes} (hk : L[k]? = some (BytesWA (.slice (some ⟨g, o, none⟩) n c) l)) (i : Nat) (d : Bytes) (hd : i + d.length ≤ l.length) :
    Sep W (L.set k (BytesWA (.slice (some ⟨g, o, none⟩) n c) (l.take i ++ d ++ l.drop (i + d.length)))) (w.setCells g (o + i) (u8v d)) ∧ (∀ j, j < d.length → (w.cell? ⟨g, o + i + j, none⟩).isSome = true) ∧ (∀ j, j < d.length → w.frozen? ⟨g, o + i + j, none⟩ = false) := by
  obtain ⟨F, G, hF, _, _, hdF, _, K⟩ := h.at k hk
  have hF' := hF
  obtain ⟨p, c', hv, h1, h2, h3, h4⟩ := hF
  cases hv
  have hcell : ∀ j, j < l.length → F g ∧ w.cell? ⟨g, o + j, none⟩ = some (.int .u8 ((l.getD j 0).toNat : Int)) ∧ w.frozen? ⟨g, o + j, none⟩ = false := fun j hj => by
    obtain ⟨b', o', hp, hf, hc⟩ := h4 j hj
    cases hp
    rw [Nat.mul_one] at hc
    rw [List.getD_eq_getElem?_getD, List.getElem?_eq_getElem hj]
    exact ⟨hf, hc.1, hc.2⟩
  have hin : ∀ j, j < (u8v d).length → (w.cell? ⟨g, o + i + j, none⟩).isSome = true := fun j hj => by
    rw [u8v_length] at hj
    rw [show o + i + j = o + (i + j) by omega, (hcell (i + j) (by omega)).2.1]; rfl
  have hfz : ∀ j, j < d.length → w.frozen? ⟨g, o + i + j, none⟩ = false := fun j hj => by
    rw [show o + i + j = o + (i + j) by omega]; exact (hcell (i + j) (by omega)).2.2
  refine ⟨?_, fun j hj => hin j (by rw [u8v_length]; exact hj), hfz⟩
  by_cases h0 : d = []
  · subst h0
    have e1 : l.take i ++ [] ++ l.drop (i + ([] : Bytes).length) = l := by simp
    rw [e1]
    exact K w F (BytesWA (.slice (some ⟨g, o, none⟩) l.length c) l) (Chg.refl _ _) (fun k hk => .inl hk) hF'
  · have hpos := List.length_pos_iff.2 h0
    have hFg : F g := (hcell i (by omega)).1
    have hlen : (l.take i ++ d ++ l.drop (i + d.length)).length = l.length := by simp; omega
    refine K _ F (BytesWA (.slice (some ⟨g, o, none⟩) l.length c) _) (chg_setCells g hFg _ _ _) (fun k hk => .inl hk) ?_
    refine ⟨some ⟨g, o, none⟩, c, by rw [hlen], by rw [hlen]; exact h1, h2, (by intro e; cases e), fun j hj => ⟨g, o, rfl, hFg, ?_⟩⟩
    rw [hlen] at hj
    rw [Nat.mul_one]
    refine ⟨?_, by rw [World.frozen?_setCells]; exact (hcell j hj).2.2⟩
    by_cases hlo : j < i
    · rw [World.cell?_setCells_out g _ _ _ _ (fun _ _ => .inl (by simp only; omega)), (hcell j hj).2.1]
      congr 3
      rw [List.getElem_append_left (by simp; omega), List.getElem_append_left (by simp; omega), List.getElem_take]
      rw [List.getD_eq_getElem?_getD, List.getElem?_eq_getElem hj]; rfl
    · by_cases hhi : j < i + d.length
      · have := World.cell?_setCells_in g (u8v d) (o + i) w hin (j - i) (by rw [u8v_length]; omega)
        rw [show o + i + (j - i) = o + j by omega] at this
        rw [this]
        congr 1
        simp only [u8v, List.getElem_map]
        congr 3
        rw [List.getElem_append_left (by simp; omega), List.getElem_append_right (by simp; omega)]
        congr 1
        rw [List.length_take]
        omega
      · rw [World.cell?_setCells_out g _ _ _ _ (fun _ _ => .inr (by rw [u8v_length]; simp only; omega)), (hcell j hj).2.1]
        congr 3
        rw [List.getElem_append_right (by simp; omega), List.getElem_drop, List.getD_eq_getElem?_getD, List.getElem?_eq_getElem hj]
        have e : i + d.length + (j - (l.take i ++ d).length) = j := by rw [List.length_append, List.length_take]; omega
        simp only [Option.getD_some, e]
end Go.Proofs

/- Some of the separate things, looked at by themselves; what is not among them stays. Of no program. -/
namespace Sc
open Go Go.RowKit

def setAll : List Asn → List Nat → List Asn → List Asn
  | L, i :: is, B :: Bs => setAll (L.set i B) is Bs
  | L, _, _ => L
theorem setAll_get : ∀ (is : List Nat) (L Bs : List Asn) (i : Nat), is.Nodup → is.length = Bs.length → (∀ j ∈ is, j < L.length) → (setAll L is Bs)[i]? = if i ∈ is then Bs[is.idxOf i]? else L[i]?
  | [], L, [], i, _, _, _ => by simp [setAll]
  | a :: is, L, B :: Bs, i, hn, hl, hb => by
    have hn' := List.nodup_cons.1 hn
    have ih := setAll_get is (L.set a B) Bs i hn'.2 (by simpa using hl) (fun j hj => by rw [List.length_set]; exact hb j (by simp [hj]))
    show (setAll (L.set a B) is Bs)[i]? = _
    rw [ih]
    by_cases hia : i = a
    · subst hia
      rw [if_neg hn'.1, if_pos (by simp), List.getElem?_set_self (hb i (by simp))]
      simp
    · rw [List.getElem?_set_ne (fun e => hia e.symm)]
      by_cases hi : i ∈ is
      · rw [if_pos hi, if_pos (by simp [hi])]
        have hne : (a == i) = false := by rw [beq_eq_false_iff_ne]; exact fun e => hia e.symm
        rw [List.idxOf_cons, hne]
        simp
      · rw [if_neg hi, if_neg (by simp [hi, hia])]
  | [], _, _ :: _, _, _, h, _ => by simp at h
  | _ :: _, _, [], _, _, h, _ => by simp at h
/-- What lies outside of some blocks, as it was. -/
def FrameA (w : World) (S : Foot) : Asn := ⟨fun F w' => (∀ k, k < w.heap.size → ¬ S k → F k) ∧ Same (fun k => k < w.heap.size ∧ ¬ S k) w w', fun _ _ _ hs _ h => ⟨h.1, h.2.trans (hs.mono fun k hk => h.1 k hk.1 hk.2)⟩⟩
theorem Sep.zoom {W w : World} {L : List Asn} (h : Sep W L w) (is : List Nat) (As : List Asn) (hn : is.Nodup) (hl : is.length = As.length) (hA : ∀ j (hj : j < is.length), L[is[j]]? = some (As[j]'(by omega))) :
    ∃ Z : Asn, Sep w (Z :: As) w ∧ ∀ w' Bs, Bs.length = As.length → Sep w (Z :: Bs) w' → Sep W (setAll L is Bs) w' := by
  obtain ⟨hg, Fs, h1, h2, h3⟩ := h
  have hb : ∀ j ∈ is, j < L.length := fun j hj => by
    obtain ⟨q, hq, rfl⟩ := List.mem_iff_getElem.1 hj
    exact (List.getElem?_eq_some_iff.1 (hA q hq)).1
  let S : Foot := fun k => ∃ j, ∃ hj : j < is.length, Fs (is[j]) k
  refine ⟨FrameA w S, ⟨Grow.refl w, fun i k => if i = 0 then k < w.heap.size ∧ ¬ S k else if hi : i - 1 < is.length then Fs (is[i - 1]) k else False, ?_, ?_, ?_⟩, ?_⟩
  · intro i k hk
    by_cases h0 : i = 0
    · simp only [h0, if_true] at hk; exact hk.1
    · simp only [h0, if_false] at hk
      split at hk
      · exact h1 _ k hk
      · exact hk.elim
  · intro i j k hij hk hk'
    by_cases hi : i = 0 <;> by_cases hj : j = 0
    · omega
    · simp only [hi, if_true, hj, if_false] at hk hk'
      split at hk'
      · exact hk.2 ⟨_, _, hk'⟩
      · exact hk'
    · simp only [hj, if_true, hi, if_false] at hk hk'
      split at hk
      · exact hk'.2 ⟨_, _, hk⟩
      · exact hk
    · simp only [hi, hj, if_false] at hk hk'
      split at hk
      · split at hk'
        · rename_i q1 q2
          refine h2 _ _ k (fun e => ?_) hk hk'
          have := (List.getElem_inj hn).1 e
          omega
        · exact hk'
      · exact hk
  · intro i A hi
    cases i with
    | zero =>
      cases hi
      exact ⟨fun k hk hs => by simp only [if_true]; exact ⟨hk, hs⟩, Same.refl _ _⟩
    | succ i =>
      rw [List.getElem?_cons_succ] at hi
      obtain ⟨hlt, rfl⟩ := List.getElem?_eq_some_iff.1 hi
      have hil : i < is.length := by omega
      simp only [Nat.add_one_ne_zero, if_false, Nat.add_sub_cancel, hil, dif_pos]
      exact h3 _ _ (hA i hil)
  · intro w' Bs hBl ⟨hg', Gs, k1, k2, k3⟩
    have k0 := k3 0 _ rfl
    have kz : w.heap.size ≤ w'.heap.size := hg'.size
    have hFs : ∀ i, i ∉ is → ∀ k, Fs i k → Gs 0 k ∧ w'.heap[k]? = w.heap[k]? := fun i hi k hk => by
      have hns : ¬ S k := fun ⟨j, hj, hj'⟩ => h2 _ _ k (fun e => hi (by rw [← e]; exact List.getElem_mem hj)) hj' hk
      exact ⟨k0.1 k (h1 i k hk) hns, k0.2 k ⟨h1 i k hk, hns⟩⟩
    refine ⟨hg.trans hg', fun i => if i ∈ is then Gs (is.idxOf i + 1) else Fs i, ?_, ?_, ?_⟩
    · intro i k hk
      by_cases hi : i ∈ is
      · simp only [hi, if_true] at hk; exact k1 _ k hk
      · simp only [hi, if_false] at hk; exact Nat.lt_of_lt_of_le (h1 i k hk) kz
    · intro i j k hij hk hk'
      by_cases hi : i ∈ is <;> by_cases hj : j ∈ is
      · simp only [hi, hj, if_true] at hk hk'
        refine k2 _ _ k (fun e => hij ?_) hk hk'
        have e' : is.idxOf i = is.idxOf j := by omega
        have g1 := List.getElem_idxOf (List.idxOf_lt_length_iff.2 hi)
        have g2 := List.getElem_idxOf (List.idxOf_lt_length_iff.2 hj)
        rw [← g1, ← g2]
        simp only [e']
      · simp only [hi, hj, if_true, if_false] at hk hk'
        exact k2 _ 0 k (by omega) hk (hFs j hj k hk').1
      · simp only [hi, hj, if_true, if_false] at hk hk'
        exact k2 _ 0 k (by omega) hk' (hFs i hi k hk).1
      · simp only [hi, hj, if_false] at hk hk'
        exact h2 i j k hij hk hk'
    · intro i A hA'
      rw [setAll_get is L Bs i hn (by omega) hb] at hA'
      by_cases hi : i ∈ is
      · simp only [hi, if_true] at hA' ⊢
        exact k3 (is.idxOf i + 1) A (by rw [List.getElem?_cons_succ]; exact hA')
      · simp only [hi, if_false] at hA' ⊢
        exact A.loc _ _ _ (fun k hk => (hFs i hi k hk).2) kz (h3 i A hA')
/-- One of them forgotten. -/
theorem Sep.erase {W w : World} {L : List Asn} (h : Sep W L w) (i : Nat) : Sep W (L.eraseIdx i) w := by
  obtain ⟨hg, Fs, h1, h2, h3⟩ := h
  refine ⟨hg, fun j => if j < i then Fs j else Fs (j + 1), fun j k hk => ?_, fun j j' k hjj hk hk' => ?_, fun j A hA => ?_⟩
  · simp only at hk
    split at hk
    · exact h1 _ k hk
    · exact h1 _ k hk
  · simp only at hk hk'
    split at hk <;> split at hk'
    · exact h2 _ _ k hjj hk hk'
    · exact h2 _ _ k (by omega) hk hk'
    · exact h2 _ _ k (by omega) hk hk'
    · exact h2 _ _ k (by omega) hk hk'
  · rw [List.getElem?_eraseIdx] at hA
    split at hA
    · rename_i hlt; simp only [hlt, if_true]; exact h3 j A hA
    · rename_i hlt; simp only [hlt, if_false]; exact h3 (j + 1) A hA
end Sc

/- A list of Puts that is being built, side by side with other things. Of no program. -/
namespace Sc
open Go Go.RowKit

def OutPA (T : TypeId) (v : Value) (l : List Put) : Asn := ⟨fun F w => ∃ D, OutS T 2 putR 0 w v l D ∧ (∀ g, v.ownBlock = some g → F g) ∧ (∀ b, D b → F b), fun _ _ _ hs hz ⟨D, h1, h2, h3⟩ => ⟨D, h1.same putR_stable hs hz h2 h3, h2, h3⟩⟩
theorem ownsRow_up {w w' : World} {B T k n : Nat} {v : Value} {xs : List Value} (h : w.ownsRow B T k v n xs) (hb : Below w.heap.size w w') : w'.ownsRow B T k v n xs :=
  row_same (F := fun q => q < w.heap.size) (fun q hq => hb.block q hq) h (fun g hg => (h.lt g hg).2)
theorem Sep.outP_new {W w : World} {L : List Asn} (h : Sep W L w) (T : TypeId) : Sep W (L ++ [OutPA T (.slice none 0 0) []]) w :=
  h.new (Below.refl _ _) (OutPA T (.slice none 0 0) []) (F := fun _ => False) (fun _ h => h.elim) ⟨fun _ => False, OutS.nil, by simp [Value.ownBlock], fun _ h => h⟩
theorem Sep.outP_step {W w : World} {L : List Asn} (h : Sep W L w) (i : Nat) {T : TypeId} {v : Value} {l : List Put} (hi : L[i]? = some (OutPA T v l)) :
    ∃ (css : List (List Value)) (D : Nat → Prop), w.ownsRow 0 T 2 v l.length css.flatten ∧
      (∀ j (hj : j < l.length), ∃ dv, css.flatten[j * 2]? = some (.int .i64 l[j].lba) ∧ css.flatten[j * 2 + 1]? = some dv ∧ I64 l[j].lba ∧ BytesAt D w dv l[j].data) ∧
      ∀ (w2 w' : World) (g c : Nat) (n : Int) (dv : Value) (d : Bytes), Below w.heap.size w w2 → I64 n → BytesAt (fun q => D q ∨ New w w2 q) w2 dv d →
        w'.ownsRow 0 T 2 (.slice (some ⟨g, 0, none⟩) (l.length + 1) c) (l.length + 1) (css.flatten ++ [.int .i64 n, dv]) → (w2.alloc (.cells #[.int .i64 n, dv] T)).grownBy w' v.ownBlock → (v.ownBlock = some g ∨ g = w2.heap.size + 1) → g < w'.heap.size →
        Sep W (L.set i (OutPA T (.slice (some ⟨g, 0, none⟩) (l.length + 1) c) (l ++ [⟨n, d⟩]))) w' := by
  obtain ⟨F, G, ⟨D, ⟨css, q1, q2, q3, q4, q5⟩, hv, hD⟩, hR, hFG, hdF, hdG, K⟩ := h.at i hi
  refine ⟨css, D, q3, fun j hj => ?_, fun w2 w' g c n dv d hb hn hd hown hg hat hlt => ?_⟩
  · have hjc : j < css.length := by omega
    obtain ⟨dv, e1, e2, e3⟩ := q4 j hjc hj
    refine ⟨dv, ?_, ?_, e2, e3⟩
    · have := flat_get q2 j hjc 0 (by omega)
      rw [Nat.add_zero] at this
      rw [this, e1]; rfl
    · rw [flat_get q2 j hjc 1 (by omega), e1]; rfl
  · have hz := hb.size
    have hb2 : Below w.heap.size w (w2.alloc (.cells #[.int .i64 n, dv] T)) := Below.up hb (below_alloc w2 _)
    have hsz : (w2.alloc (.cells #[.int .i64 n, dv] T)).heap.size = w2.heap.size + 1 := by simp
    have hvl : ∀ q, v.ownBlock = some q → q < w.heap.size := fun q hq => hdF q (hv q hq)
    have hsn : OutS T 2 putR 0 w' (.slice (some ⟨g, 0, none⟩) (l.length + 1) c) (l ++ [⟨n, d⟩]) (fun q => D q ∨ (D q ∨ New w w2 q)) := by
      refine OutS.snoc (v := v) (w := w2.alloc (.cells #[.int .i64 n, dv] T)) (D3 := fun q => D q ∨ New w w2 q) putR_stable q1 q2 ?_ ?_ (cs := [.int .i64 n, dv]) (x := ⟨n, d⟩) rfl ⟨_, rfl, hn, BytesAt.up hd (below_alloc _ _)⟩ ?_ hown hg (by rw [hsz]; exact hat)
      · exact fun a b c => putR_stable _ _ _ _ _ _ (fun _ h => h) (fun q hq => hb2.block q (q5 q hq).2.1) (q4 a b c)
      · exact fun q hq => ⟨Nat.zero_le _, by have := (q5 q hq).2.1; omega, (q5 q hq).2.2⟩
      · rintro q (hq | hq)
        · exact ⟨Nat.zero_le _, by have := (q5 q hq).2.1; omega, (q5 q hq).2.2⟩
        · exact ⟨Nat.zero_le _, by have := hq.2; omega, fun e => by have := hvl q e; have := hq.1; omega⟩
    have hgz := hg.size
    refine K w' (fun q => F q ∨ New w w' q) (OutPA T (.slice (some ⟨g, 0, none⟩) (l.length + 1) c) (l ++ [⟨n, d⟩])) (Chg.after_up hb2 (chg_grown hg fun q hq => hv q hq)) (fun q hq => hq) ⟨_, hsn, ?_, ?_⟩
    · intro q hq
      have : g = q := by simpa [Value.ownBlock] using hq
      subst this
      rcases hat with h | h
      · exact .inl (hv g h)
      · exact .inr ⟨by omega, hlt⟩
    · rintro q (hq | hq | hq)
      · exact .inl (hD q hq)
      · exact .inl (hD q hq)
      · exact .inr ⟨hq.1, by have := hq.2; omega⟩
theorem outPA_puts {T : TypeId} {v : Value} {l : List Put} {F : Nat → Prop} {w : World} (h : (OutPA T v l).P F w) : PutsAt F w v l := by
  obtain ⟨D, ⟨css, a1, a2, a3, a4, _⟩, h2, h3⟩ := h
  have hrow := a3
  obtain ⟨hx, hc | ⟨g, cap, cur, rfl, hb, hg, hnc, hcm, hcs, htake⟩⟩ := a3
  · obtain ⟨rfl, hl0⟩ := hc
    obtain rfl : l = [] := List.length_eq_zero_iff.1 hl0
    exact SlAt.nil
  · refine ⟨_, cap, rfl, hnc, by unfold maxLen at hcm; omega, (by intro hh; cases hh), fun i hi => ⟨g, 0, rfl, h2 g rfl, ?_⟩⟩
    have hi' : i < css.length := by omega
    obtain ⟨dv, e1, e2, e3⟩ := a4 i hi' hi
    have f0 := flat_get a2 i hi' 0 (by omega)
    have f1 := flat_get a2 i hi' 1 (by omega)
    rw [e1] at f0 f1
    rw [Nat.add_zero] at f0
    refine ⟨?_, e2, dv, ?_, BytesAt.mono e3 h3⟩
    · rw [Nat.zero_add, hrow.cellAt (i * 2) (by omega), f0]; rfl
    · rw [Nat.zero_add, hrow.cellAt (i * 2 + 1) (by omega), f1]; rfl
end Sc

/- Cuts of slices, as equations that hold in every world; a map that is turned while it is ranged over. Of no program. -/
namespace Sc
open Go Go.RowKit Go.ChangeMaps Go.ChangeShapes Go.WideShapes Go.MapKept
theorem addr_plus (g o j : Nat) : (⟨g, o, none⟩ : Addr).add j = ⟨g, o + j, none⟩ := by unfold Addr.add; split <;> simp_all
section
variable {P : Program} {t e : TypeId} {k : Nat} {i0 : TypeInfo}
theorem cut_from (hu : P.underlying t = some (.slice (P.elem t))) (he : P.elem t = e) (hk : P.cellsOf e = k) (hi : P.info? e = some i0) (g o n c j : Nat) (hj : j < c) (hn : j ≤ n) (W : World) :
    (Instr.slice t (.slice (some ⟨g, o, none⟩) n c) (some (.int .i64 (j : Int))) none none).run P W = .ok (.slice (some ⟨g, o + j * k, none⟩) (n - j) (c - j)) W := by
  rw [run_slice_l (P := P) (w := W) t _ n c hu .i64 (j : Int) (by omega) (by omega), he, run_sizeOf (P := P) W hi]
  simp only [Result.andThen, sliced, Int.toNat_natCast, if_neg (show ¬ c = j by omega), Option.map_some, addr_plus, hk]
theorem cut_to (hu : P.underlying t = some (.slice (P.elem t))) (he : P.elem t = e) (hi : P.info? e = some i0) (g o n c j : Nat) (hj : j ≤ c) (W : World) :
    (Instr.slice t (.slice (some ⟨g, o, none⟩) n c) none (some (.int .i64 (j : Int))) none).run P W = .ok (.slice (some ⟨g, o, none⟩) j c) W := by
  rw [run_slice_h (P := P) (w := W) t _ n c hu .i64 (j : Int) (by omega) (by omega), he, run_sizeOf (P := P) W hi]
  simp only [Result.andThen, sliced, Option.map_some, addr_plus, Nat.zero_mul, Nat.add_zero, ite_self, Nat.sub_zero, Int.toNat_natCast]
end
theorem flatten_drop {α : Type} {k : Nat} : ∀ (css : List (List α)) (_ : ∀ cs ∈ css, cs.length = k) (j : Nat), (css.drop j).flatten = css.flatten.drop (j * k)
  | [], _, j => by simp
  | c :: t, h, 0 => by simp
  | c :: t, h, j + 1 => by
    have hc := h c (by simp)
    have h0 : c.drop (j * k + k) = [] := List.drop_eq_nil_of_le (by omega)
    rw [List.drop_succ_cons, List.flatten_cons, List.drop_append, hc, Nat.succ_mul, show j * k + k - k = j * k by omega, h0, List.nil_append]
    exact flatten_drop t (fun cs hcs => h cs (by simp [hcs])) j
/-- 'm[k] = v' in a range over m, where k was met: what is still to come stays. -/
theorem Ranges.update {P : Program} {t k e : TypeId} {w : World} {it r : Nat} {m left : List (Int × Value)} (h : Ranges w it r m left) (ht : P.underlying t = some (.map k e)) (hk : P.underlying k = some (.int .i64)) (n : Int) (v : Value)
    (hin : ∃ u, (n, u) ∈ m) (hout : ∀ x ∈ left, x.1 ≠ n) :
    ∃ w', (Instr.mapUpdate t (.map (some r)) (.int .i64 n) v).run P w = .ok () w' ∧ Ranges w' it r (aset m n v) left ∧ Turned r w w' := by
  obtain ⟨es, clock, seen, hb, hm, hn, hbo, hbn, hit, rfl⟩ := h
  have hmi : MapIs w r m := ⟨es, clock, hb, hm, hn, hbo, hbn⟩
  obtain ⟨es', clock', hb', hm', hn', hbo', hbn', hf⟩ := hmi.find n
  rw [hb] at hb'
  cases hb'
  have hkey : IsKey (.int .i64) (.int .i64 n) := rfl
  rcases hf with ⟨h1, h2⟩ | ⟨j, x, u, h1, h2, h3, h4, h5⟩
  · obtain ⟨u, hu⟩ := hin
    exact absurd rfl (h2 _ hu)
  · have hj : es[j]? = some x := by simpa using h2
    have hjl : j < es.toList.length := (List.getElem?_eq_some_iff.1 h2).1
    have hx : es.toList[j] = x := by rw [List.getElem?_eq_getElem hjl] at h2; exact Option.some.inj h2
    have hmod : (es.modify j (fun e' => { e' with key := .int .i64 n, val := v })).toList = es.toList.set j { x with key := .int .i64 n, val := v } := by
      rw [Array.toList_modify, modify_eq_set _ _ _ _ h2]
    have hne : it ≠ r := by intro e; rw [e, hb] at hit; cases hit
    have hseen : seen.contains x.born = true := by
      by_cases hs : seen.contains x.born = true
      · exact hs
      · exfalso
        have hxl : x ∈ (leftOf es seen).toList := by
          unfold leftOf
          rw [Array.toList_filter, List.mem_filter]
          exact ⟨List.mem_of_getElem? h2, by simpa using hs⟩
        have := hout (unp x) (List.mem_map.2 ⟨x, hxl, rfl⟩)
        apply this
        simp [unp, h3, intOf]
    refine ⟨setBlock w r (.map (es.modify j (fun e' => { e' with key := .int .i64 n, val := v })) clock), ?_, ⟨_, clock, seen, heap_setBlock_same hb _, ?_, nodup_aset hn n v, ?_, ?_, ?_, ?_⟩, turned_set hb⟩
    · simp [Instr.mapUpdate, run_underlying ht, MapKept.run_getObj_map hb, run_checkKey hk hkey, run_findKey hk h1, hj, h3, run_keyThatStays hkey, MapKept.run_setObj_map _ hb, Result.andThen, setBlock]
    · rw [hmod, aset_at hn h5, List.map_set, hm, List.map_set]; rfl
    · intro y hy
      rw [hmod] at hy
      rcases List.mem_or_eq_of_mem_set hy with hy | rfl
      · exact hbo y hy
      · exact hbo x (List.mem_of_getElem? h2)
    · rw [hmod, List.map_set]
      have : (es.toList.map (·.born)).set j x.born = es.toList.map (·.born) := by
        apply List.ext_getElem
        · simp
        · intro i h1 h2
          simp only [List.getElem_set]
          split
          · rename_i hij; subst hij; simp [← hx]
          · rfl
      show ((es.toList.map (·.born)).set j x.born).Nodup
      rw [this]; exact hbn
    · rw [sb_other hne]; exact hit
    · unfold leftOf
      rw [Array.toList_filter, Array.toList_filter, hmod]
      congr 1
      have hset : ∀ (l : List MapEntry) (j : Nat) (y : MapEntry) (q : MapEntry → Bool), l[j]? = some x → q x = false → q y = false → (l.set j y).filter q = l.filter q := by
        intro l
        induction l with
        | nil => intro j y q _ _ _; rfl
        | cons a l ih =>
          intro j y q ha hq hy
          cases j with
          | zero =>
            simp at ha; subst ha
            simp [hq, hy]
          | succ j =>
            simp only [List.getElem?_cons_succ] at ha
            simp only [List.set_cons_succ, List.filter_cons, ih j y q ha hq hy]
      rw [hset es.toList j _ _ h2 (by simpa using hseen) (by simpa using hseen)]
end Sc

/- Cuts of slices that read as lists. Of no program. -/
namespace Sc
open Go Go.RowKit
section
variable {P : Program} {t e : TypeId} {k : Nat} {i0 : TypeInfo} {α : Type} {E : Elem α} {G : Nat → Prop}
theorem sl_from (hu : P.underlying t = some (.slice (P.elem t))) (he : P.elem t = e) (hk : P.cellsOf e = k) (hi : P.info? e = some i0) {w : World} {p : Option Addr} {c : Nat} {l : List α} (h : SlAt G k E w (.slice p l.length c) l) (j : Nat) (hj : j ≤ l.length) :
    ∃ p', (∀ W, (Instr.slice t (.slice p l.length c) (some (.int .i64 (j : Int))) none none).run P W = .ok (.slice p' (l.length - j) (c - j)) W) ∧ ∀ w', SlAt G k E w' (.slice p l.length c) l → SlAt G k E w' (.slice p' (l.length - j) (c - j)) (l.drop j) := by
  obtain ⟨p0, c0, he0, h1, h2, h3, h4⟩ := h
  cases he0
  refine ⟨if c = j then p else p.map fun a => a.add (j * k), fun W => ?_, fun w' hw' => ?_⟩
  · rw [run_slice_l (P := P) (w := W) t _ l.length c hu .i64 (j : Int) (by omega) (by omega), he, run_sizeOf (P := P) W hi]
    simp only [Result.andThen, sliced, Int.toNat_natCast, hk]
  · obtain ⟨p0, c0, he0, g1, g2, g3, g4⟩ := hw'
    cases he0
    have hln : l.length - j = (l.drop j).length := by rw [List.length_drop]
    refine ⟨_, c - j, by rw [hln], by rw [List.length_drop]; omega, by omega, fun hn => ?_, fun i hi => ?_⟩
    · split at hn
      · omega
      · cases p with
        | none => have := g3 rfl; omega
        | some a => cases hn
    · rw [List.length_drop] at hi
      obtain ⟨b, o, rfl, hb, hx⟩ := g4 (j + i) (by omega)
      rw [if_neg (by omega)]
      refine ⟨b, o + j * k, by simp [addr_plus], hb, ?_⟩
      rw [List.getElem_drop, show o + j * k + i * k = o + (j + i) * k by rw [Nat.add_mul]; omega]
      exact hx
theorem sl_to (hu : P.underlying t = some (.slice (P.elem t))) (he : P.elem t = e) (hi : P.info? e = some i0) {w : World} {p : Option Addr} {c : Nat} {l : List α} (h : SlAt G k E w (.slice p l.length c) l) (j : Nat) (hj : j ≤ l.length) :
    (∀ W, (Instr.slice t (.slice p l.length c) none (some (.int .i64 (j : Int))) none).run P W = .ok (.slice p j c) W) ∧ ∀ w', SlAt G k E w' (.slice p l.length c) l → SlAt G k E w' (.slice p j c) (l.take j) := by
  obtain ⟨p0, c0, he0, h1, h2, h3, h4⟩ := h
  cases he0
  refine ⟨fun W => ?_, fun w' hw' => ?_⟩
  · rw [run_slice_h (P := P) (w := W) t _ l.length c hu .i64 (j : Int) (by omega) (by omega), he, run_sizeOf (P := P) W hi]
    cases p with
    | none => simp only [Result.andThen, sliced, Option.map_none, Nat.sub_zero, Int.toNat_natCast, ite_self]
    | some a =>
      obtain ⟨b, o, q⟩ := a
      have : ((⟨b, o, q⟩ : Addr).add 0) = ⟨b, o, q⟩ := by unfold Addr.add; split <;> simp_all
      simp only [Result.andThen, sliced, Option.map_some, Nat.zero_mul, this, Nat.sub_zero, Int.toNat_natCast, ite_self]
  · obtain ⟨p0, c0, he0, g1, g2, g3, g4⟩ := hw'
    cases he0
    have hln : j = (l.take j).length := by rw [List.length_take]; omega
    refine ⟨p, c, by rw [← hln], by omega, g2, g3, fun i hi => ?_⟩
    rw [List.length_take] at hi
    obtain ⟨b, o, rfl, hb, hx⟩ := g4 i (by omega)
    exact ⟨b, o, rfl, hb, by rw [List.getElem_take]; exact hx⟩
end
end Sc
