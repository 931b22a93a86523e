/- Package model: All: what an M holds, by rising LBA. -/
import Derived.Test.YtjomlcemnbfnfaaModel
import Derived.Test.YtjomlcemnbfnfaaKeys
import Derived.Test.YtjomlcemnbfnfaaOut
import Derived.Test.YtjomlcemnbfnfaaInfo
namespace Go.Proofs
open Go.RowKit Sc

/-- What is there, by rising keys. -/
def allPuts (s : List (Int × Bytes)) : List Put := (keysUp (s.map (·.1))).map fun k => ⟨k, (alook s k).getD []⟩
def AllSaidW (s : List (Int × Bytes)) (w : World) (e : Ending) (w' : World) : Prop := ∃ v, e = .returned v ∧ PutsW (New w w') w' v (allPuts s) ∧ Below w.heap.size w w'
def AllSaid (s : List (Int × Bytes)) (w : World) (e : Ending) (w' : World) : Prop := ∃ v, e = .returned v ∧ PutsAt (New w w') w' v (allPuts s) ∧ Below w.heap.size w w'

set_option maxRecDepth 100000 in
set_option maxHeartbeats 1000000 in
theorem modelAll_w (F : Nat → Prop) (v : Value) (n : Int) (s : List (Int × Bytes)) (w : World) (hm : ModelIs F w v n s) (hi : ∀ x ∈ s, I64 x.1) (hl : s.length ≤ 1000000) (h40 : ∀ x ∈ s, x.2.length ≤ 1000000) :
    Calls Try.prog 26 #[v] w (AllSaidW s w) := by
  obtain ⟨⟨b, r, ml, rfl, h2, h3, h4, h5, h6⟩, hd⟩ := hm
  have hc1 : w.cell? ⟨b, 1, none⟩ = some (.map (some r)) := by rw [cell_row h4]; rfl
  obtain ⟨i0, hp0, hp1, hp2, hp3⟩ := info_parts infoPut
  have hkeys := AL.keys h6
  have hmlen : ml.length = s.length := All2.length h6
  have H5 := Lib.hid h5
  have H6 := Lib.hid h6
  have HK := Lib.hid hkeys
  have HI := Lib.hid hi
  have H40 := Lib.hid h40
  have HL := Lib.hid hl
  have HML := Lib.hid hmlen
  clear h4 h5 h6 hkeys hi h40 hl hmlen
  go_enter Try.func26, Try.ntmps26
  go_wp2_with fail
  refine (keysDat_any r _).mono ?_
  rintro e w1 ⟨rfl, rfl⟩
  go_wp2_with fail
  refine (sortedDat_any r w.heap.size ml _ (H5.out.alloc _) (fun x hx => ?_) (by have := HL.out; have := HML.out; omega) (by simp) (by go_simp)).mono ?_
  · have : x.1 ∈ s.map (·.1) := by rw [← HK.out]; exact List.mem_map.2 ⟨x, hx, rfl⟩
    obtain ⟨y, hy, he⟩ := List.mem_map.1 this
    rw [← he]; exact HI.out y hy
  rintro e w2 ⟨kv, rfl, hrow, hb2⟩
  rw [HK.out] at hrow
  have hlen : (keysUp (s.map (·.1))).length = (s.map (·.1)).length := (List.mergeSort_perm _ _).length_eq
  rw [List.length_map] at hlen hrow
  have HLEN := Lib.hid hlen
  have HROW := Lib.hid hrow
  have hb02 := Below.up (below_alloc w _) hb2
  have HB02 := Lib.hid hb02
  clear hb2 hlen
  have hki : ∀ x ∈ keysUp (s.map (·.1)), I64 x ∧ x ∈ s.map (·.1) := by
    intro x hx
    have hx' : x ∈ s.map (·.1) := (List.mergeSort_perm _ _).subset hx
    obtain ⟨y, hy, he⟩ := List.mem_map.1 hx'
    exact ⟨by rw [← he]; exact HI.out y hy, hx'⟩
  have HKI := Lib.hid hki
  have hints := intsAt_own (fun _ => True) HLEN.out (fun x hx => (hki x hx).1) (fun _ _ _ => trivial) HROW.out
  obtain ⟨kp, kc, rfl, hk1, hk2, hk3, hk4⟩ := hints
  rw [HLEN.out] at hk1 ⊢
  have HK4 := Lib.hid hk4
  have hbl := (World.block_lt_of_cell? w _ hc1 : b < w.heap.size)
  have hc12 := cell_up hb02 hc1
  have HAL := Lib.hid (show (allPuts s).length = s.length by unfold allPuts; rw [List.length_map]; exact HLEN.out)
  clear hk3 hk4 hki hrow hb02
  go_wp2_with fail
  go_loopw [2, 14] (fun out i wr => ∃ k : Nat, ∃ D, k ≤ s.length ∧ i = .int .i64 k ∧ Hid (OutS 39 2 putRW w2.heap.size wr out ((allPuts s).take k) D) ∧ Below w2.heap.size w2 wr) (fun _ i _ => s.length - (intOf i).toNat)
  case atStart => exact ⟨0, _, by omega, rfl, OutS.nil, Below.refl _ _⟩
  case round =>
    obtain ⟨k, D, hk, rfl, hout, hbk⟩ := hrel
    by_cases hlt : k < s.length
    · obtain ⟨g, o, rfl, _, hck, _⟩ := HK4.out k (by rw [HLEN.out]; exact hlt)
      rw [Nat.mul_one] at hck
      have hckr := cell_up hbk hck
      have hc1r := cell_up hbk hc12
      have hmem := (HKI.out _ (List.getElem_mem (show k < (keysUp (s.map (·.1))).length by rw [HLEN.out]; exact hlt)))
      have htk : (allPuts s).take (k + 1) = (allPuts s).take k ++ [⟨(keysUp (s.map (·.1)))[k]'(by rw [HLEN.out]; exact hlt), (alook s ((keysUp (s.map (·.1)))[k]'(by rw [HLEN.out]; exact hlt))).getD []⟩] := by
        rw [take_snoc _ k (by rw [HAL.out]; exact hlt)]
        simp [allPuts]
      have hbwr := Below.up HB02.out hbk
      have hmr := H5.out.up hbwr
      generalize (keysUp (s.map (·.1)))[k]'(by rw [HLEN.out]; exact hlt) = key at hckr hmem htk
      have hlk := hmr.lookup (P := Try.prog) Try.underlying80 Try.underlying3 (Try.zeroValue35 _) key false
      have hdat : ∃ dv d, alook ml key = some dv ∧ alook s key = some d ∧ BytesAt F w dv d := by
        rcases H6.out.look key with ⟨h, _⟩ | h
        · exfalso
          rw [← HK.out] at hmem
          obtain ⟨x, hx, he⟩ := List.mem_map.1 hmem.2
          exact alook_none.1 h x hx he
        · exact h
      obtain ⟨dv, d, hd1, hd2, hd3⟩ := hdat
      rw [hd1] at hlk
      rw [hd2] at htk
      simp only [Option.getD_some, Bool.false_eq_true, if_false] at hlk htk
      have hdl : d.length ≤ 1000000 := by
        exact H40.out _ (alook_in hd2)
      obtain ⟨dp, dc, rfl⟩ := shape_of hd3 rfl
      have HD3 := Lib.hid (hd3.up hbwr)
      have hmem' := hmem.1
      have HTK := Lib.hid htk
      have HDL := Lib.hid hdl
      have HBK := Lib.hid hbk
      have HOUT := hout
      have hzr := hbk.size
      clear hdl htk hd1 hd2 hd3 hmr hbwr hbk hout hck hmem
      go_wp2_with fail
      refine (clone_w F _ d _ HD3.out HDL.out).mono ?_
      rintro e w3 ⟨v3, rfl, hnv, hb3⟩
      obtain ⟨np, nc, rfl⟩ := shape_of hnv.bytes rfl
      have hzw3 := hb3.size
      have hownlt : ∀ q, Value.ownBlock u2 = some q → w2.heap.size ≤ q ∧ q < wr.heap.size := by obtain ⟨xs, hx⟩ := HOUT.out.own; exact fun q hq => hx.lt q hq
      obtain ⟨css, q1, q2, q3, q4, q5⟩ := (HOUT.out.up putRW_stable hb3).up putRW_stable (below_alloc w3 (.cells #[.int .i64 key, .slice np d.length nc] 39))
      have Q2 := Lib.hid q2
      have Q4 := Lib.hid q4
      have Q5 := Lib.hid q5
      have Q1 := Lib.hid q1
      have HOL := Lib.hid hownlt
      have HNV := Lib.hid hnv
      have HB3 := Lib.hid hb3
      clear q2 q4 q5 q1 hnv hb3 hownlt
      generalize hll : ((allPuts s).take k).length = ll at q3
      have HLL := Lib.hid hll
      have hll2 : ll ≤ 1000000 := by have := HL.out; rw [← hll, List.length_take, HAL.out]; omega
      have HLL2 := Lib.hid hll2
      clear hll hll2
      go_wp2_with (at_builtin; refine wpList_append_lies _ rfl _ _ 23 rfl w2.heap.size 39 i0 (.agg #[.int .i64 0, .slice none 0 0]) 2 32 Try.underlying23 hp0 hp1 hp2 hp3 rfl (by decide) _ ll css.flatten rfl q3 ⟨w3.heap.size, 0, none⟩ 1 1 [.int .i64 key, .slice np d.length nc] rfl rfl (World.news_of_block (cs := #[.int .i64 key, .slice np d.length nc]) (heap_alloc_new w3 _)) (by simp [Value.oneCell']) (by decide) (by have := HLL2.out; unfold maxLen; omega) (by have := HLL2.out; omega) (by simp; omega) (w3.heap.size + 1) (by simp) ?_; intro gg cap w5 hown5 hgrow5 hat5 hlt5)
      go_roundw
      case rel =>
        refine ⟨k + 1, fun b => D b ∨ New wr w3 b, by omega, by go_num, ?_, ?_⟩
        · unfold Hid
          rw [HTK.out]
          have hll := HLL.out
          subst hll
          have hg : w3.heap.size + 1 = (w3.alloc (.cells #[.int .i64 key, .slice np d.length nc] 39)).heap.size := by simp
          refine OutS.snoc (v := u2) (D3 := New wr w3) putRW_stable Q1.out Q2.out Q4.out Q5.out (cs := [.int .i64 key, .slice np d.length nc]) (x := ⟨key, d⟩) rfl ⟨_, rfl, hmem', HNV.out.up (below_alloc _ _)⟩ (fun q hq => ?_) hown5 hgrow5 (hg ▸ hat5)
          have h1 := hq.1
          have h2 := hq.2
          exact ⟨by omega, by simp; omega, fun e => by have := (HOL.out q e).2; omega⟩
        · have hb1 : Below w2.heap.size w2 (w3.alloc (.cells #[.int .i64 key, .slice np d.length nc] 39)) := (HBK.out.trans (HB3.out.mono (by omega))).trans ((below_alloc _ _).mono (by omega))
          exact hb1.grown hgrow5 (by simp; omega) (fun q hq => (HOL.out q hq).1)
      case measure => simp [intOf]; omega
    · have hkl : k = s.length := by omega
      have HK2 := Lib.hid hkl
      have HBK := Lib.hid hbk
      clear hkl hbk
      go_wp2_with fail
      go_ret
      refine ⟨u2, rfl, ?_, Below.up HB02.out HBK.out⟩
      have h := hout.out
      rw [HK2.out, ← HAL.out, List.take_length] at h
      exact h.putsW fun q h1 h2 => ⟨by have := HB02.out.size; omega, h2⟩
theorem modelAll_any (F : Nat → Prop) (v : Value) (n : Int) (s : List (Int × Bytes)) (w : World) (hm : ModelIs F w v n s) (hi : ∀ x ∈ s, I64 x.1) (hl : s.length ≤ 1000000) (h40 : ∀ x ∈ s, x.2.length ≤ 1000000) :
    Calls Try.prog 26 #[v] w (AllSaid s w) := (modelAll_w F v n s w hm hi hl h40).mono fun _ _ ⟨v, h1, h2, h3⟩ => ⟨v, h1, h2.puts, h3⟩
end Go.Proofs
