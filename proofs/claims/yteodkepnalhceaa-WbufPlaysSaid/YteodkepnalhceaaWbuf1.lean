/- Package wbuf: what a Buf holds in memory; New, Get, twice. -/
import Derived.Test.YteodkepnalhceaaClone
import Derived.Test.YteodkepnalhceaaFind
import Derived.Test.YteodkepnalhceaaMaps
import Derived.Test.YteodkepnalhceaaSep
import Derived.Test.YteodkepnalhceaaDat
import Derived.Deep.RegionHeld3
namespace Go.Proofs
open Go.RowKit Sc

/-- A Buf, in the blocks F: what it holds, in the order of its birth. -/
structure BufIs (F : Nat → Prop) (w : World) (v : Value) (blocks most : Int) (s : List (Int × Bytes)) : Prop where
  out : ∃ b r ml, v = .pointer (some ⟨b, 0, none⟩) ∧ F b ∧ F r ∧ w.heap[b]? = some (.cells #[.int .i64 blocks, .int .i64 most, .map (some r)] 86 (0, 0)) ∧ MapIs w r ml ∧ AL (BytesAt (fun k => F k ∧ k ≠ b ∧ k ≠ r) w) ml s
  dom : Dom F w
theorem BufIs.same {F : Nat → Prop} {w w' : World} {v : Value} {blocks most : Int} {s : List (Int × Bytes)} (h : BufIs F w v blocks most s) (hs : Same F w w') (hz : w.heap.size ≤ w'.heap.size) : BufIs F w' v blocks most s := by
  obtain ⟨⟨b, r, ml, h1, h2, h3, h4, h5, h6⟩, hd⟩ := h
  exact ⟨⟨b, r, ml, h1, h2, h3, by rw [hs b h2]; exact h4, h5.same hs h3, h6.imp fun _ _ h => h.same (hs.mono fun _ h => h.1)⟩, hd.of_size hz⟩
theorem BufIs.up {F : Nat → Prop} {w w' : World} {v : Value} {blocks most : Int} {s : List (Int × Bytes)} (h : BufIs F w v blocks most s) (hb : Below w.heap.size w w') : BufIs F w' v blocks most s := h.same (h.dom.same hb) hb.size
theorem BufIs.more {F : Nat → Prop} {w w' : World} {v : Value} {blocks most : Int} {s : List (Int × Bytes)} (h : BufIs F w v blocks most s) (hb : Below w.heap.size w w') : BufIs (fun k => F k ∨ New w w' k) w' v blocks most s := by
  obtain ⟨⟨b, r, ml, h1, h2, h3, h4, h5, h6⟩, hd⟩ := h.up hb
  exact ⟨⟨b, r, ml, h1, .inl h2, .inl h3, h4, h5, h6.imp fun _ _ h => h.mono fun _ h => ⟨.inl h.1, h.2⟩⟩, fun k hk => hk.elim (hd k) (fun h => h.2)⟩
def BufA (v : Value) (blocks most : Int) (s : List (Int × Bytes)) : Asn := ⟨fun F w => BufIs F w v blocks most s, fun _ _ _ hs hz h => h.same hs hz⟩
theorem BufIs.cells {F : Nat → Prop} {w : World} {v : Value} {blocks most : Int} {s : List (Int × Bytes)} (h : BufIs F w v blocks most s) :
    ∃ b r ml, v = .pointer (some ⟨b, 0, none⟩) ∧ F b ∧ F r ∧ b ≠ r ∧ b < w.heap.size ∧ w.cell? ⟨b, 0, none⟩ = some (.int .i64 blocks) ∧ w.cell? ⟨b, 1, none⟩ = some (.int .i64 most) ∧ w.cell? ⟨b, 2, none⟩ = some (.map (some r)) ∧ MapIs w r ml ∧ AL (BytesAt (fun k => F k ∧ k ≠ b ∧ k ≠ r) w) ml s := by
  obtain ⟨⟨b, r, ml, h1, h2, h3, h4, h5, h6⟩, hd⟩ := h
  refine ⟨b, r, ml, h1, h2, h3, ?_, hd b h2, by rw [cell_row h4]; rfl, by rw [cell_row h4]; rfl, by rw [cell_row h4]; rfl, h5, h6⟩
  rintro rfl
  obtain ⟨_, _, hq, _⟩ := h5
  rw [h4] at hq; cases hq

structure BufB (F : Nat → Prop) (w : World) (b r : Nat) (ml : List (Int × Value)) (blocks most : Int) (s : List (Int × Bytes)) : Prop where
  fb : F b
  fr : F r
  hb : w.heap[b]? = some (.cells #[.int .i64 blocks, .int .i64 most, .map (some r)] 86 (0, 0))
  hm : MapIs w r ml
  ha : AL (BytesAt (fun k => F k ∧ k ≠ b ∧ k ≠ r) w) ml s
  dom : Dom F w
theorem BufIs.parts {F : Nat → Prop} {w : World} {v : Value} {blocks most : Int} {s : List (Int × Bytes)} (h : BufIs F w v blocks most s) : ∃ b r ml, v = .pointer (some ⟨b, 0, none⟩) ∧ BufB F w b r ml blocks most s := by
  obtain ⟨⟨b, r, ml, h1, h2, h3, h4, h5, h6⟩, hd⟩ := h
  exact ⟨b, r, ml, h1, h2, h3, h4, h5, h6, hd⟩
theorem BufB.is {F : Nat → Prop} {w : World} {b r : Nat} {ml : List (Int × Value)} {blocks most : Int} {s : List (Int × Bytes)} (h : BufB F w b r ml blocks most s) : BufIs F w (.pointer (some ⟨b, 0, none⟩)) blocks most s :=
  ⟨⟨b, r, ml, rfl, h.fb, h.fr, h.hb, h.hm, h.ha⟩, h.dom⟩
theorem BufB.ne {F : Nat → Prop} {w : World} {b r : Nat} {ml : List (Int × Value)} {blocks most : Int} {s : List (Int × Bytes)} (h : BufB F w b r ml blocks most s) : b ≠ r := by
  rintro rfl
  obtain ⟨_, _, hq, _⟩ := h.hm
  have := h.hb
  rw [hq] at this; cases this
theorem BufB.put {F : Nat → Prop} {w w7 w8 : World} {b r : Nat} {ml : List (Int × Value)} {blocks most : Int} {s : List (Int × Bytes)} (h : BufB F w b r ml blocks most s) {k : Int} {v : Value} {d : Bytes}
    (hb7 : Below w.heap.size w w7) (hv : BytesAt (New w w7) w7 v d) (hm8 : MapIs w8 r (aset ml k v)) (hT : Turned r w7 w8) :
    BufB (fun q => F q ∨ New w w8 q) w8 b r (aset ml k v) blocks most (aset s k d) ∧ Chg F w w8 := by
  have hbr := h.ne
  have hbl := h.dom b h.fb
  have hrl := h.dom r h.fr
  have hz7 := hb7.size
  have hz8 := hT.size
  have keep : ∀ q, q < w.heap.size → q ≠ r → w8.heap[q]? = w.heap[q]? := fun q hq hne => (hT.block q hne).trans (hb7.block q hq)
  refine ⟨⟨.inl h.fb, .inl h.fr, by rw [keep b hbl hbr]; exact h.hb, hm8, ?_, fun q hq => hq.elim (fun hf => by have := h.dom q hf; omega) (fun hf => hf.2)⟩, ⟨by rw [hT.os, hb7.os], by rw [hT.tape, hb7.tape], by rw [hT.output, hb7.output], by omega, fun q hq hn => keep q hq (fun e => hn (e ▸ h.fr))⟩⟩
  refine AL.set k ?_ (h.ha.imp fun a c hac => ?_)
  · refine (hv.cells fun a => hT.cell a).mono fun q hq => ⟨.inr ⟨hq.1, by have := hq.2; omega⟩, ?_, ?_⟩
    · have := hq.1; omega
    · have := hq.1; omega
  · exact (hac.same fun q hq => keep q (h.dom q hq.1) hq.2.2).mono fun q hq => ⟨.inl hq.1, hq.2⟩
theorem BufB.wider {F F' : Nat → Prop} {w : World} {b r : Nat} {ml : List (Int × Value)} {blocks most : Int} {s : List (Int × Bytes)} (q : BufB F w b r ml blocks most s) (up : ∀ k, F k → F' k) (hd : Dom F' w) : BufB F' w b r ml blocks most s :=
  ⟨up _ q.fb, up _ q.fr, q.hb, q.hm, q.ha.imp fun _ _ h => h.mono fun _ h => ⟨up _ h.1, h.2⟩, hd⟩
def BufNewSaid (n m : Int) (w : World) (e : Ending) (w' : World) : Prop := ∃ b : Nat, e = .returned (.tuple #[.pointer (some ⟨b, 0, none⟩), .int .i64 0]) ∧ BufIs (New w w') w' (.pointer (some ⟨b, 0, none⟩)) n m [] ∧ Below w.heap.size w w'
set_option maxHeartbeats 400000 in
theorem bufNew_any (n m : Int) (w : World) (h1 : 1 ≤ n) (h2 : n ≤ 1048576) (h3 : 0 ≤ m) : Calls Try.prog 27 #[.int .i64 n, .int .i64 m] w (BufNewSaid n m w) := by
  have hmm := @run_makeMap Try.prog
  go_enter Try.func27, Try.ntmps27
  go_wp2
  go_ret2
  have hm := MapIs.made w
  refine ⟨w.heap.size + 1, rfl, ⟨⟨w.heap.size + 1, w.heap.size, [], rfl, by simp [New], by simp [New]; omega, heap_new (by simp), hm.same (G := (· < w.heap.size + 1)) (fun k hk => heap_old (by simpa using hk)) (by simp), trivial⟩, fun k hk => hk.2⟩, ?_⟩
  exact ((Below.refl _ _).alloc (Nat.le_refl _) _).alloc (by simp) _

/-- What Get gives. -/
def BufGetSaid (s : List (Int × Bytes)) (lba : Int) (w : World) (e : Ending) (w' : World) : Prop :=
  (alook s lba = none ∧ ∃ p c, e = .returned (.tuple #[.slice p 0 c, .bool false]) ∧ BytesW (New w w') w' (.slice p 0 c) [] ∧ Below w.heap.size w w') ∨
  (∃ d v, alook s lba = some d ∧ e = .returned (.tuple #[v, .bool true]) ∧ BytesW (New w w') w' v d ∧ Below w.heap.size w w')
set_option maxRecDepth 100000 in
set_option maxHeartbeats 1000000 in
theorem bufGet_any (F : Nat → Prop) (v : Value) (blocks most : Int) (s : List (Int × Bytes)) (lba : Int) (w : World) (h : BufIs F w v blocks most s) (h40 : ∀ x ∈ s, x.2.length ≤ 1000000) :
    Calls Try.prog 36 #[v, .int .i64 lba] w (BufGetSaid s lba w) := by
  obtain ⟨b, r, ml, rfl, _, _, _, hb, hc0, hc1, hc2, hm, ha⟩ := h.cells
  have hl := hm.lookup (P := Try.prog) Try.underlying84 Try.underlying3 (Try.zeroValue51 _) lba true
  rcases ha.look lba with ⟨h1, h2⟩ | ⟨u, d, h1, h2, h3⟩
  · rw [h1] at hl
    simp only [Option.getD_none, Option.isSome_none, if_true] at hl
    have H1 := Lib.hid h1
    have H2 := Lib.hid h2
    clear h1 h2
    clear hm ha h
    have hcn := clone_w (fun _ => False) (.slice none 0 0) [] w SlAt.nil (by simp)
    have HCN := Lib.hid hcn
    clear hcn
    go_enter Try.func36, Try.ntmps36
    go_wp2_with fail
    refine (HCN.out).mono ?_
    rintro e w1 ⟨v1, rfl, hv1, hb1⟩
    obtain ⟨p1, c1, rfl⟩ := shape_of hv1.bytes rfl
    have HV1 := Lib.hid hv1
    have HB1 := Lib.hid hb1
    clear hv1 hb1
    go_wp2_with fail
    go_ret2
    exact .inl ⟨H2.out, p1, c1, rfl, HV1.out, HB1.out⟩
  · rw [h1] at hl
    simp only [Option.getD_some, Option.isSome_some, if_true] at hl
    have hcn := clone_w _ u d w h3 (h40 _ (alook_in h2))
    obtain ⟨pu, cu, rfl⟩ := shape_of h3 rfl
    have H1 := Lib.hid h1
    have H2 := Lib.hid h2
    have HCN := Lib.hid hcn
    clear h1 h2 hcn
    clear hm ha h h3
    go_enter Try.func36, Try.ntmps36
    go_wp2_with fail
    refine (HCN.out).mono ?_
    rintro e w1 ⟨v1, rfl, hv1, hb1⟩
    have HV1 := Lib.hid hv1
    have HB1 := Lib.hid hb1
    clear hv1 hb1
    go_wp2_with fail
    go_ret2
    exact .inr ⟨d, v1, H2.out, rfl, HV1.out, HB1.out⟩
theorem bufGet_nil (lba : Int) (w : World) : Calls Try.prog 36 #[.pointer none, .int .i64 lba] w fun e w' => e = .returned (.tuple #[.slice none 0 0, .bool false]) ∧ w = w' := by
  go_enter Try.func36, Try.ntmps36
  go_wp2
  go_ret2
  exact ⟨rfl, rfl⟩

/-- Stands an LBA twice? -/
def twiceB : List Put → Bool
  | [] => false
  | p :: l => (l.any fun q => q.lba == p.lba) || twiceB l
theorem twiceB_no {l : List Put} : twiceB l = false ↔ (l.map (·.lba)).Nodup := by
  induction l with
  | nil => simp [twiceB]
  | cons p l ih =>
    simp only [twiceB, Bool.or_eq_false_iff, List.map_cons, List.nodup_cons, ih]
    constructor
    · rintro ⟨h1, h2⟩
      refine ⟨fun hm => ?_, h2⟩
      obtain ⟨q, hq, he⟩ := List.mem_map.1 hm
      rw [List.any_eq_false] at h1
      exact h1 q hq (by simpa using he)
    · rintro ⟨h1, h2⟩
      refine ⟨?_, h2⟩
      rw [List.any_eq_false]
      intro q hq he
      exact h1 (List.mem_map.2 ⟨q, hq, by simpa using he⟩)
/-- What the map of counts holds behind the first so many, no two of which are one. -/
def metOf (l : List Put) (k : Nat) : List (Int × Value) := (l.take k).map fun p => (p.lba, .int .i64 1)
theorem metOf_len (l : List Put) (k : Nat) : (metOf l k).length ≤ l.length := by unfold metOf; rw [List.length_map, List.length_take]; omega
theorem metOf_look {l : List Put} {k : Nat} {n : Int} : (n ∈ (l.take k).map (·.lba) → alook (metOf l k) n = some (.int .i64 1)) ∧ (n ∉ (l.take k).map (·.lba) → alook (metOf l k) n = none) := by
  unfold metOf
  generalize l.take k = m
  induction m with
  | nil => simp [alook]
  | cons p m ih =>
    simp only [List.map_cons, List.mem_cons, alook]
    by_cases h : p.lba = n
    · simp [h]
    · have h' : ¬ n = p.lba := fun e => h e.symm
      simp only [h, if_false, h', false_or]
      exact ih
set_option maxRecDepth 100000 in
set_option maxHeartbeats 2000000 in
theorem twice_any (G : Nat → Prop) (v : Value) (l : List Put) (w : World) (hG : Dom G w) (hv : PutsAt G w v l) (hl : l.length ≤ 1000000) :
    Calls Try.prog 56 #[v] w fun e w' => e = .returned (.bool (twiceB l)) ∧ Below w.heap.size w w' := by
  have hmm := @run_makeMap Try.prog
  obtain ⟨p, c, rfl, h1, h2, h3, h4⟩ := hv
  have hb0 := below_alloc w (.map #[] 0)
  have hm0 := MapIs.made w
  have H4 := Lib.hid h4
  have HB0 := Lib.hid hb0
  have HM0 := Lib.hid hm0
  clear h4 hb0 hm0
  clear h3
  go_enter Try.func56, Try.ntmps56
  go_wp2_with fail
  go_step3
  go_wp2_with fail
  go_step3
  go_wp2_with fail
  go_loopw [9] (fun i wr => ∃ k : Nat, k ≤ l.length ∧ i = .int .i64 k ∧ Hid (MapIs wr w.heap.size (metOf l k)) ∧ Hid (Below w.heap.size w wr) ∧ Hid (((l.take k).map (·.lba)).Nodup)) (fun i _ => l.length - (intOf i).toNat)
  case atStart => exact ⟨0, by omega, rfl, HM0.out, HB0.out, by unfold Hid; simp⟩
  case round =>
    obtain ⟨k, hk, rfl, HM, HB, HN⟩ := hrel
    by_cases hlt : k < l.length
    case neg =>
      obtain rfl : k = l.length := by omega
      have hn := HN.out
      rw [List.take_length] at hn
      have ht := twiceB_no.2 hn
      have HN := Lib.hid hn
      have HT := Lib.hid ht
      clear hn ht
      go_wp2_with fail
      try rw [Exit.noGoto_ret]
      go_ret
      exact ⟨congrArg boolRet HT.out.symm, HB.out⟩
    case pos =>
      obtain ⟨g, o, rfl, hg, hca, hci, dv, hcb, hd⟩ := H4.out k hlt
      have hgl := hG g hg
      have hca' := (HB.out.cell (p := ⟨g, o + k * 2, none⟩) hgl).trans hca
      have hcb' := (HB.out.cell (p := ⟨g, o + k * 2 + 1, none⟩) hgl).trans hcb
      have htk := take_snoc l k hlt
      obtain ⟨dp, dc, rfl⟩ := shape_of hd rfl
      have hmem := List.getElem_mem hlt
      generalize hx : l[k] = x at *
      obtain ⟨wa, hwa⟩ : ∃ wa, wr.alloc (.cells #[.int .i64 x.lba, .slice dp x.data.length dc] 54) = wa := ⟨_, rfl⟩
      have hba : Below wr.heap.size wr wa := by rw [← hwa]; exact below_alloc wr _
      have hka : wa.cell? ⟨wr.heap.size, 0, none⟩ = some (.int .i64 x.lba) := by rw [← hwa, cell_row (heap_alloc_new wr _)]; rfl
      have hma := HM.out.up hba
      have hl1 := hma.lookup (P := Try.prog) Try.underlying104 Try.underlying3 (Try.zeroValue3 _) x.lba false
      have hwb : Below w.heap.size w wa := HB.out.trans (hba.mono HB.out.size)
      by_cases hin : x.lba ∈ (l.take k).map (·.lba)
      case neg =>
        have hno := (metOf_look (l := l) (k := k) (n := x.lba)).2 hin
        rw [hno] at hl1
        simp only [Option.getD_none, Bool.false_eq_true, if_false] at hl1
        obtain ⟨w2, hu, hm2, hT⟩ := hma.update (P := Try.prog) Try.underlying104 Try.underlying3 x.lba (.int .i64 1)
        have hset : aset (metOf l k) x.lba (.int .i64 1) = metOf l (k + 1) := by
          rw [aset_new (alook_none.1 hno)]
          unfold metOf
          rw [htk, List.map_append]; rfl
        rw [hset] at hm2
        have hl2 := hm2.lookup (P := Try.prog) Try.underlying104 Try.underlying3 (Try.zeroValue3 _) x.lba false
        have hyes : alook (metOf l (k + 1)) x.lba = some (.int .i64 1) := (metOf_look (l := l) (k := k + 1) (n := x.lba)).1 (by rw [htk]; simp)
        rw [hyes] at hl2
        simp only [Option.getD_some, Bool.false_eq_true, if_false] at hl2
        have hk2 : w2.cell? ⟨wr.heap.size, 0, none⟩ = some (.int .i64 x.lba) := (hT.cell _).trans hka
        have hb2 : Below w.heap.size w w2 := hwb.trans (hT.below (Nat.le_refl _))
        have hnd : ((l.take (k + 1)).map (·.lba)).Nodup := by
          rw [htk, List.map_append, List.nodup_append]
          exact ⟨HN.out, by simp, fun a ha b hb e => by simp at hb; subst hb; exact hin (e ▸ ha)⟩
        subst hwa
        have HM2 := Lib.hid hm2
        have HB2 := Lib.hid hb2
        have HND := Lib.hid hnd
        have HTK := Lib.hid htk
        have HX := Lib.hid hx
        clear hm2 hb2 hnd htk hx
        clear hma hset hno hyes hin hT hwb hba hca hcb hd hgl
        go_wp2_with fail
        go_roundw
        case rel => exact ⟨k + 1, by omega, by go_num, HM2.out, HB2.out, HND.out⟩
        case measure => simp [intOf]; omega
      case pos =>
        have hyes0 := (metOf_look (l := l) (k := k) (n := x.lba)).1 hin
        rw [hyes0] at hl1
        simp only [Option.getD_some, Bool.false_eq_true, if_false] at hl1
        obtain ⟨w2, hu, hm2, hT⟩ := hma.update (P := Try.prog) Try.underlying104 Try.underlying3 x.lba (.int .i64 2)
        have hl2 := hm2.lookup (P := Try.prog) Try.underlying104 Try.underlying3 (Try.zeroValue3 _) x.lba false
        have hyes : alook (aset (metOf l k) x.lba (.int .i64 2)) x.lba = some (.int .i64 2) := by rw [alook_aset, if_pos rfl]
        rw [hyes] at hl2
        simp only [Option.getD_some, Bool.false_eq_true, if_false] at hl2
        have hk2 : w2.cell? ⟨wr.heap.size, 0, none⟩ = some (.int .i64 x.lba) := (hT.cell _).trans hka
        have hb2 : Below w.heap.size w w2 := hwb.trans (hT.below (Nat.le_refl _))
        have htw : twiceB l = true := by
          cases hq : twiceB l with
          | true => rfl
          | false =>
            exfalso
            have h1 := twiceB_no.1 hq
            have h2 : (l.take (k + 1)).map (·.lba) = (l.take k).map (·.lba) ++ [x.lba] := by rw [htk, List.map_append]; rfl
            have h3 : ((l.take (k + 1)).map (·.lba)).Nodup := h1.sublist ((List.take_sublist _ _).map _)
            rw [h2, List.nodup_append] at h3
            exact h3.2.2 _ hin _ (by simp) rfl
        subst hwa
        have HM2 := Lib.hid hm2
        have HB2 := Lib.hid hb2
        have HTK := Lib.hid htk
        have HX := Lib.hid hx
        have HTW := Lib.hid htw
        clear hm2 hb2 htk hx htw
        clear hma hyes hin hT hwb hba hca hcb hd hgl hyes0
        go_wp2_with fail
        try rw [Exit.noGoto_ret]
        go_ret
        exact ⟨congrArg boolRet HTW.out.symm, HB2.out⟩
end Go.Proofs
