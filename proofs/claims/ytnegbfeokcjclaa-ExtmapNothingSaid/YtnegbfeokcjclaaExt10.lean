/- Package extmap: Dump; and what nothing answers. -/
import Derived.Test.YtnegbfeokcjclaaExt8
import Derived.BigQuiet
import Derived.Deep.QuietTactic
import Derived.Test.YtnegbfeokcjclaaInfo
namespace Go.Proofs
open Go.RowKit Sc

/-- The last bytes of some versions. -/
def lastD (l : List Put) : Bytes := ((l.getLast?).map (·.data)).getD []
theorem lastD_get {l : List Put} {j : Nat} (h : l.length = j + 1) : lastD l = (l[j]'(by omega)).data := by
  unfold lastD
  rw [List.getLast?_eq_getElem?, List.getElem?_eq_getElem (by omega)]
  simp [h]
def dumpV (vs : Vers) : List Put := (keysUp (vs.map (·.1))).map fun k => ⟨k, lastD ((alook vs k).getD [])⟩
def DumpSaid (vs : Vers) (w : World) (e : Ending) (w' : World) : Prop := ∃ v, e = .returned v ∧ PutsW (New w w') w' v (dumpV vs) ∧ Below w.heap.size w w'

set_option maxRecDepth 100000 in
set_option maxHeartbeats 2000000 in
theorem extDump_any (F : Nat → Prop) (v : Value) (blocks last : Int) (vs : Vers) (w : World) (h : ExtIs F w v blocks last vs) (h1 : 1 ≤ blocks) (hi : ∀ x ∈ vs, I64 x.1) (hl : vs.length ≤ 1000000) (hne : ∀ x ∈ vs, x.2 ≠ []) (h40 : ∀ k l, alook vs k = some l → ∀ p ∈ l, p.data.length ≤ 1000000) :
    Calls Try.prog 26 #[v] w (DumpSaid vs w) := by
  have H := Lib.hid h
  obtain ⟨b, r, ml, rfl, hbl, hc0, hc1, hc2, h5, h6⟩ := h.cells
  obtain ⟨i0, hp0, hp1, hp2, hp3⟩ := info_parts infoPut
  have hkk := AL.keys h6
  have hml := al_len h6
  have hkeysV := keysVer_any r w
  have H5 := Lib.hid h5
  have H6 := Lib.hid h6
  have HKK := Lib.hid hkk
  have HI := Lib.hid hi
  have H40 := Lib.hid h40
  have HL := Lib.hid hl
  have HML := Lib.hid hml
  have HNE := Lib.hid hne
  have HC0 := Lib.hid hc0
  have HC2 := Lib.hid hc2
  clear h5 h6 hkk hi h40 hl hml hne hc0 hc2
  clear h
  go_enter Try.func26, Try.ntmps26
  go_wp2_with fail
  refine (extGone_any F _ _ _ _ _ H.out h1).mono ?_
  rintro e w1 ⟨rfl, rfl⟩
  go_wp2_with fail
  refine (keysVer_any r _).mono ?_
  rintro e w1 ⟨rfl, rfl⟩
  go_wp2_with fail
  refine (sortedVer_any r w.heap.size ml _ (H5.out.alloc _) (fun x hx => ?_) (by have := HL.out; have := HML.out; omega) (by simp) (by go_simp)).mono ?_
  · have : x.1 ∈ vs.map (·.1) := by rw [← HKK.out]; exact List.mem_map.2 ⟨x, hx, rfl⟩
    obtain ⟨y, hy, he⟩ := List.mem_map.1 this
    rw [← he]; exact HI.out y hy
  rintro e w2 ⟨kv, rfl, hrow, hb2⟩
  rw [HKK.out] at hrow
  have hlen : (keysUp (vs.map (·.1))).length = (vs.map (·.1)).length := (List.mergeSort_perm _ _).length_eq
  rw [List.length_map] at hlen hrow
  have hb02 := Below.up (below_alloc w _) hb2
  have HLEN := Lib.hid hlen
  have HROW := Lib.hid hrow
  have HB02 := Lib.hid hb02
  clear hlen hrow hb02
  clear hb2
  have hki : ∀ x ∈ keysUp (vs.map (·.1)), I64 x ∧ x ∈ vs.map (·.1) := by
    intro x hx
    have hx' : x ∈ vs.map (·.1) := (List.mergeSort_perm _ _).subset hx
    obtain ⟨y, hy, he⟩ := List.mem_map.1 hx'
    exact ⟨by rw [← he]; exact HI.out y hy, hx'⟩
  have HKI := Lib.hid hki
  have hints := intsAt_own (fun _ => True) HLEN.out (fun x hx => (hki x hx).1) (fun _ _ _ => trivial) HROW.out
  obtain ⟨kp, kc, rfl, hk1, hk2, hk3, hk4⟩ := hints
  rw [HLEN.out] at hk1 ⊢
  have HK4 := Lib.hid hk4
  have hc12 := cell_up HB02.out hc1
  have HAL := Lib.hid (show (dumpV vs).length = vs.length by unfold dumpV; rw [List.length_map]; exact HLEN.out)
  clear hk3 hk4 hki
  go_wp2_with fail
  go_loopw [2, 15] (fun out i wr => ∃ k : Nat, ∃ D, k ≤ vs.length ∧ i = .int .i64 k ∧ Hid (OutS 38 2 putRW w2.heap.size wr out ((dumpV vs).take k) D) ∧ Below w2.heap.size w2 wr) (fun _ i _ => vs.length - (intOf i).toNat)
  case atStart => exact ⟨0, _, by omega, rfl, OutS.nil, Below.refl _ _⟩
  case round =>
    obtain ⟨k, D, hk, rfl, hout, hbk⟩ := hrel
    by_cases hlt : k < vs.length
    · obtain ⟨g, o, rfl, _, hck, _⟩ := HK4.out k (by rw [HLEN.out]; exact hlt)
      rw [Nat.mul_one] at hck
      have hckr := cell_up hbk hck
      have hc1r := cell_up hbk hc12
      have hmem := (HKI.out _ (List.getElem_mem (show k < (keysUp (vs.map (·.1))).length by rw [HLEN.out]; exact hlt)))
      have htk : (dumpV vs).take (k + 1) = (dumpV vs).take k ++ [⟨(keysUp (vs.map (·.1)))[k]'(by rw [HLEN.out]; exact hlt), lastD ((alook vs ((keysUp (vs.map (·.1)))[k]'(by rw [HLEN.out]; exact hlt))).getD [])⟩] := by
        rw [take_snoc _ k (by rw [HAL.out]; exact hlt)]
        simp [dumpV]
      have hbwr := Below.up HB02.out hbk
      have hmr := H5.out.up hbwr
      generalize (keysUp (vs.map (·.1)))[k]'(by rw [HLEN.out]; exact hlt) = key at hckr hmem htk
      have hlk := hmr.lookup (P := Try.prog) Try.underlying81 Try.underlying3 (Try.zeroValue88 _) key false
      have hdat : ∃ u l, alook ml key = some u ∧ alook vs key = some l ∧ PutsAt (Old w) w u l := by
        rcases H6.out.look key with ⟨h, _⟩ | h
        · exfalso
          rw [← HKK.out] at hmem
          obtain ⟨x, hx, he⟩ := List.mem_map.1 hmem.2
          exact alook_none.1 h x hx he
        · exact h
      obtain ⟨u, l, hd1, hd2, hd3⟩ := hdat
      rw [hd1] at hlk
      rw [hd2] at htk
      simp only [Option.getD_some, Bool.false_eq_true, if_false] at hlk htk
      have hln := List.length_pos_iff.2 (HNE.out _ (alook_in hd2))
      simp only at hln
      obtain ⟨j, hj⟩ : ∃ j, l.length = j + 1 := ⟨l.length - 1, by omega⟩
      have hdl : (lastD l).length ≤ 1000000 := by rw [lastD_get hj]; exact H40.out _ _ hd2 _ (List.getElem_mem _)
      obtain ⟨p, c, rfl, p1, p2, _, p4⟩ := hd3
      obtain ⟨gq, oq, rfl, e1, e2, e3, dv, hcd, hd3⟩ := p4 j (by omega)
      rw [← lastD_get hj] at hd3
      rw [hj] at hlk
      have hcdr := cell_up hbwr hcd
      generalize lastD l = d at *
      obtain ⟨dp, dc, rfl⟩ := shape_of hd3 rfl
      have hd3' := hd3.up hbwr
      have hmem' := hmem.1
      have hej : (((j + 1 : Nat) : Int) - 1) = (j : Int) := by omega
      have hw2 : IntKind.i64.wrap (((j + 1 : Nat) : Int) - 1) = (j : Int) := by rw [hej]; exact IntWalk.i64_in _ (by omega)
      have hj1 : (j : Int) < ((j + 1 : Nat) : Int) := by omega
      have hjb : (j : Int) ≤ 9223372036854775806 := by omega
      have hzr := hbk.size
      have HOUT := hout
      have HTK := Lib.hid htk
      have HDL := Lib.hid hdl
      have HBK := Lib.hid hbk
      have HD3' := Lib.hid hd3'
      clear htk hdl hbk hd3'
      clear hd1 hd2 hd3 hmr hbwr hout hck hmem p4 hln e1 e2 e3 hj p1 p2 hcd
      go_wp2_with fail
      refine (clone_w (Old w) _ d _ HD3'.out HDL.out).mono ?_
      rintro e w3 ⟨v3, rfl, hnv, hb3⟩
      obtain ⟨np, nc, rfl⟩ := shape_of hnv.bytes rfl
      have hzw3 := hb3.size
      have hownlt : ∀ q, Value.ownBlock u2 = some q → w2.heap.size ≤ q ∧ q < wr.heap.size := by obtain ⟨xs, hx⟩ := HOUT.out.own; exact fun q hq => hx.lt q hq
      obtain ⟨css, q1, q2, q3, q4, q5⟩ := (HOUT.out.up putRW_stable hb3).up putRW_stable (below_alloc w3 (.cells #[.int .i64 key, .slice np d.length nc] 38))
      have HQ1 := Lib.hid q1
      have HQ2 := Lib.hid q2
      have HQ4 := Lib.hid q4
      have HQ5 := Lib.hid q5
      have HNV := Lib.hid hnv
      have HB3 := Lib.hid hb3
      have HOWNLT := Lib.hid hownlt
      clear q1 q2 q4 q5 hnv hb3 hownlt
      generalize hll : ((dumpV vs).take k).length = ll at q3
      have hll2 : ll ≤ 1000000 := by have := HL.out; rw [← hll, List.length_take, HAL.out]; omega
      have HLL := Lib.hid hll
      have HLL2 := Lib.hid hll2
      clear hll hll2
      go_wp2_with (at_builtin; refine wpList_append_lies _ rfl _ _ 30 rfl w2.heap.size 38 i0 (.agg #[.int .i64 0, .slice none 0 0]) 2 32 Try.underlying30 hp0 hp1 hp2 hp3 rfl (by decide) _ ll css.flatten rfl q3 ⟨w3.heap.size, 0, none⟩ 1 1 [.int .i64 key, .slice np d.length nc] rfl rfl (World.news_of_block (cs := #[.int .i64 key, .slice np d.length nc]) (heap_alloc_new w3 _)) (by simp [Value.oneCell']) (by decide) (by have := HLL2.out; unfold maxLen; omega) (by have := HLL2.out; omega) (by simp; omega) (w3.heap.size + 1) (by simp) ?_; intro gg cap w5 hown5 hgrow5 hat5 hlt5)
      go_roundw
      case rel =>
        refine ⟨k + 1, fun b => D b ∨ New wr w3 b, by omega, by go_num, ?_, ?_⟩
        · unfold Hid
          rw [HTK.out]
          have hll := HLL.out
          subst hll
          have hg : w3.heap.size + 1 = (w3.alloc (.cells #[.int .i64 key, .slice np d.length nc] 38)).heap.size := by simp
          refine OutS.snoc (v := u2) (D3 := New wr w3) putRW_stable HQ1.out HQ2.out HQ4.out HQ5.out (cs := [.int .i64 key, .slice np d.length nc]) (x := ⟨key, d⟩) rfl ⟨_, rfl, hmem', HNV.out.up (below_alloc _ _)⟩ (fun q hq => ?_) hown5 hgrow5 (hg ▸ hat5)
          have h1 := hq.1
          have h2 := hq.2
          exact ⟨by omega, by simp; omega, fun e => by have := (HOWNLT.out q e).2; omega⟩
        · have hb1 : Below w2.heap.size w2 (w3.alloc (.cells #[.int .i64 key, .slice np d.length nc] 38)) := (HBK.out.trans (HB3.out.mono (by omega))).trans ((below_alloc _ _).mono (by omega))
          exact hb1.grown hgrow5 (by simp; omega) (fun q hq => (HOWNLT.out q hq).1)
      case measure => simp [intOf]; omega
    · have hkl : k = vs.length := by omega
      have HK2 := Lib.hid hkl
      have HBK := Lib.hid hbk
      clear hkl hbk
      go_wp2_with fail
      go_ret
      have hwz : w.heap.size ≤ w2.heap.size := by have := HB02.out.size; omega
      refine ⟨_, rfl, ?_, HB02.out.trans (HBK.out.mono hwz)⟩
      have := hout.out
      rw [List.take_of_length_le (by rw [HAL.out]; have := HK2.out; omega)] at this
      exact this.putsW fun b h1 h2 => ⟨by omega, h2⟩

theorem extBlocks_nil (w : World) : Calls Try.prog 28 #[.pointer none] w fun e w' => e = .returned (.int .i64 0) ∧ w = w' := by
  go_enter Try.func28, Try.ntmps28
  go_wp2
  go_ret
  exact ⟨rfl, rfl⟩
theorem extGone_nil (w : World) : Calls Try.prog 45 #[.pointer none] w fun e w' => e = .returned (.bool true) ∧ w = w' := by
  go_enter Try.func45, Try.ntmps45
  go_wp2
  go_ret
  exact ⟨rfl, rfl⟩
theorem extLast_nil (w : World) : Calls Try.prog 17 #[.pointer none] w fun e w' => e = .returned (.int .i64 0) ∧ w = w' := by
  go_enter Try.func17, Try.ntmps17
  go_wp2
  go_ret
  exact ⟨rfl, rfl⟩
theorem extDump_nil (w : World) : Calls Try.prog 26 #[.pointer none] w fun e w' => e = .returned (.slice none 0 0) ∧ w = w' := by
  go_enter Try.func26, Try.ntmps26
  go_wp2_with fail
  refine (extGone_nil _).mono ?_
  rintro e w1 ⟨rfl, rfl⟩
  go_wp2
  go_ret
  exact ⟨rfl, rfl⟩
theorem extPrune_nil (t : Int) (w : World) : Calls Try.prog 23 #[.pointer none, .int .i64 t] w fun e w' => e = .returned (.int .i64 0) ∧ w = w' := by
  go_enter Try.func23, Try.ntmps23
  go_wp2_with fail
  refine (extGone_nil _).mono ?_
  rintro e w1 ⟨rfl, rfl⟩
  go_wp2
  go_ret
  exact ⟨rfl, rfl⟩
theorem extBlock_nil (lba : Int) (w : World) : Calls Try.prog 47 #[.pointer none, .int .i64 lba] w fun e w' => e = .returned (.bool false) ∧ w = w' := by
  by_cases h : 0 ≤ lba
  · go_enter Try.func47, Try.ntmps47
    go_wp2_with fail
    refine (extBlocks_nil _).mono ?_
    rintro e w1 ⟨rfl, rfl⟩
    go_wp2
    go_ret
    refine ⟨congrArg boolRet ?_, rfl⟩
    first | rfl | (simp; omega)
  · have h' : lba < 0 := by omega
    clear h
    go_enter Try.func47, Try.ntmps47
    go_wp2
    go_ret
    exact ⟨rfl, rfl⟩
theorem extGet_nil (lba t : Int) (w : World) : Calls Try.prog 18 #[.pointer none, .int .i64 lba, .int .i64 t] w fun e w' => e = .returned (.tuple #[.slice none 0 0, .int .i64 0]) ∧ w = w' := by
  go_enter Try.func18, Try.ntmps18
  go_wp2_with fail
  refine (extBlock_nil _ _).mono ?_
  rintro e w1 ⟨rfl, rfl⟩
  go_wp2
  go_ret2
  exact ⟨rfl, rfl⟩
theorem extWithin_nil (a n : Int) (w : World) : Calls Try.prog 52 #[.pointer none, .agg #[.int .i64 a, .int .i64 n]] w fun e w' => e = .returned (.bool false) ∧ Below w.heap.size w w' := by
  have hb := below_alloc w (.cells #[.int .i64 a, .int .i64 n] 45)
  have hbk : ∀ W, Calls Try.prog 28 #[.pointer none] W fun e w' => e = .returned (.int .i64 0) ∧ w' = W := fun W => (extBlocks_nil W).mono fun _ _ ⟨h1, h2⟩ => ⟨h1, h2.symm⟩
  have HB := Lib.hid hb
  have HBK := Lib.hid hbk
  clear hb hbk
  by_cases h1 : 0 ≤ a
  · by_cases h2 : 1 ≤ n
    · have h3' : decide (n ≤ 0) = false := decide_eq_false (by omega)
      go_enter Try.func52, Try.ntmps52
      go_wp2
      go_quiet ((go_at_call 28; exact Calls.quiet_of_same (HBK.out _)))
      go_wp2
      go_ret
      exact ⟨rfl, below_drewN HB.out _⟩
    · have h2' : decide (1 ≤ n) = false := decide_eq_false h2
      clear h2 HBK
      go_enter Try.func52, Try.ntmps52
      go_wp2
      go_quiet (fail)
      go_wp2
      go_ret
      exact ⟨rfl, below_drewN HB.out _⟩
  · have h1' : decide (0 ≤ a) = false := decide_eq_false h1
    clear h1 HBK
    go_enter Try.func52, Try.ntmps52
    go_wp2
    go_quiet (fail)
    go_wp2
    go_ret
    exact ⟨rfl, below_drewN HB.out _⟩
theorem extRange_nil (a n t : Int) (w : World) : Calls Try.prog 20 #[.pointer none, .agg #[.int .i64 a, .int .i64 n], .int .i64 t] w fun e w' => e = .returned (.tuple #[.slice none 0 0, .int .i64 2]) ∧ Below w.heap.size w w' := by
  have hb := below_alloc w (.cells #[.int .i64 a, .int .i64 n] 45)
  have HB := Lib.hid hb
  clear hb
  go_enter Try.func20, Try.ntmps20
  go_wp2_with fail
  refine (extWithin_nil a n _).mono ?_
  rintro e w1 ⟨rfl, hb1⟩
  have hb2 := Below.up HB.out hb1
  have HB1 := Lib.hid hb1
  have HB2 := Lib.hid hb2
  clear hb1 hb2
  go_wp2
  go_ret2
  exact ⟨rfl, HB2.out⟩
theorem extWritten_nil (a n t : Int) (w : World) : Calls Try.prog 21 #[.pointer none, .agg #[.int .i64 a, .int .i64 n], .int .i64 t] w fun e w' => e = .returned (.bool false) ∧ Below w.heap.size w w' := by
  have hb := below_alloc w (.cells #[.int .i64 a, .int .i64 n] 45)
  have HB := Lib.hid hb
  clear hb
  go_enter Try.func21, Try.ntmps21
  go_wp2_with fail
  refine (extGone_nil _).mono ?_
  rintro e w1 ⟨rfl, rfl⟩
  go_wp2
  go_ret
  exact ⟨rfl, HB.out⟩
theorem extApply_nil (tv : Value) (t : Int) (pv : Value) (w : World) (htv : tv = .agg #[.int .i64 t, pv]) (hone : pv.oneCell' = true) : Calls Try.prog 16 #[.pointer none, tv] w fun e w' => e = .returned (.int .i64 1) ∧ Below w.heap.size w w' := by
  subst htv
  have hb := below_alloc w (.cells #[.int .i64 t, pv] 32)
  have HB := Lib.hid hb
  clear hb
  go_enter Try.func16, Try.ntmps16
  go_wp2_with fail
  refine (extGone_nil _).mono ?_
  rintro e w1 ⟨rfl, rfl⟩
  go_wp2
  go_ret
  exact ⟨rfl, HB.out⟩
end Go.Proofs
