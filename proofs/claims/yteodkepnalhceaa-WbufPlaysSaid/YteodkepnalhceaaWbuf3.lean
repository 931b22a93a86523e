/- Package wbuf: Puts, Len, Set; and what nothing answers. -/
import Derived.Test.YteodkepnalhceaaWbuf2
import Derived.Test.YteodkepnalhceaaKeys
import Derived.Test.YteodkepnalhceaaOut
import Derived.Test.YteodkepnalhceaaInfo
namespace Go.Proofs
open Go.RowKit Sc

def bufPuts (s : List (Int × Bytes)) : List Put := (keysUp (s.map (·.1))).map fun k => ⟨k, (alook s k).getD []⟩
def PutsSaid (s : List (Int × Bytes)) (w : World) (e : Ending) (w' : World) : Prop := ∃ v, e = .returned v ∧ PutsW (New w w') w' v (bufPuts s) ∧ Below w.heap.size w w'

set_option maxRecDepth 100000 in
set_option maxHeartbeats 2000000 in
theorem bufPuts_any (F : Nat → Prop) (v : Value) (blocks most : Int) (vs : List (Int × Bytes)) (w : World) (h : BufIs F w v blocks most vs) (hi : ∀ x ∈ vs, I64 x.1) (hl : vs.length ≤ 1000000) (h40 : ∀ x ∈ vs, x.2.length ≤ 1000000) :
    Calls Try.prog 33 #[v] w (PutsSaid vs w) := by
  obtain ⟨b, r, ml, rfl, _, _, _, hbl, hc0, hc2, hc1, h5, h6⟩ := h.cells
  obtain ⟨i0, hp0, hp1, hp2, hp3⟩ := info_parts infoPut
  have hkk := AL.keys h6
  have hml := All2.length h6
  have H5 := Lib.hid h5
  have H6 := Lib.hid h6
  have HKK := Lib.hid hkk
  have HI := Lib.hid hi
  have H40 := Lib.hid h40
  have HL := Lib.hid hl
  have HML := Lib.hid hml
  have HC0 := Lib.hid hc0
  have HC2 := Lib.hid hc2
  clear h5 h6 hkk hi h40 hl hml hc0 hc2
  clear h
  go_enter Try.func33, Try.ntmps33
  go_wp2_with fail
  refine (keysDat_any r _).mono ?_
  rintro e w1 ⟨rfl, rfl⟩
  go_wp2_with fail
  refine (sortedDat_any r w.heap.size ml _ (H5.out.alloc _) (fun x hx => ?_) (by have := HL.out; have := HML.out; omega) (by simp) (by go_simp)).mono ?_
  · have : x.1 ∈ vs.map (·.1) := by rw [← HKK.out]; exact List.mem_map.2 ⟨x, hx, rfl⟩
    obtain ⟨y, hy, he⟩ := List.mem_map.1 this
    rw [← he]; exact HI.out y hy
  rintro e w2 ⟨kv, rfl, hrow, hb2⟩
  rw [HKK.out] at hrow
  have hlen : (keysUp (vs.map (·.1))).length = (vs.map (·.1)).length := (List.mergeSort_perm _ _).length_eq
  rw [List.length_map] at hlen hrow
  have hb02 := Below.up (below_alloc w _) hb2
  have HLEN := Lib.hid hlen
  have HROW := Lib.hid hrow
  have HB02 := Lib.hid hb02
  clear hlen hrow hb02
  clear hb2
  have hki : ∀ x ∈ keysUp (vs.map (·.1)), I64 x ∧ x ∈ vs.map (·.1) := by
    intro x hx
    have hx' : x ∈ vs.map (·.1) := (List.mergeSort_perm _ _).subset hx
    obtain ⟨y, hy, he⟩ := List.mem_map.1 hx'
    exact ⟨by rw [← he]; exact HI.out y hy, hx'⟩
  have HKI := Lib.hid hki
  have hints := intsAt_own (fun _ => True) HLEN.out (fun x hx => (hki x hx).1) (fun _ _ _ => trivial) HROW.out
  obtain ⟨kp, kc, rfl, hk1, hk2, hk3, hk4⟩ := hints
  rw [HLEN.out] at hk1 ⊢
  have HK4 := Lib.hid hk4
  have hc12 := cell_up HB02.out hc1
  have HAL := Lib.hid (show (bufPuts vs).length = vs.length by unfold bufPuts; rw [List.length_map]; exact HLEN.out)
  clear hk3 hk4 hki
  go_wp2_with fail
  go_loopw [2, 14] (fun out i wr => ∃ k : Nat, ∃ D, k ≤ vs.length ∧ i = .int .i64 k ∧ Hid (OutS 54 2 putRW w2.heap.size wr out ((bufPuts vs).take k) D) ∧ Below w2.heap.size w2 wr) (fun _ i _ => vs.length - (intOf i).toNat)
  case atStart => exact ⟨0, _, by omega, rfl, OutS.nil, Below.refl _ _⟩
  case round =>
    obtain ⟨k, D, hk, rfl, hout, hbk⟩ := hrel
    by_cases hlt : k < vs.length
    · obtain ⟨g, o, rfl, _, hck, _⟩ := HK4.out k (by rw [HLEN.out]; exact hlt)
      rw [Nat.mul_one] at hck
      have hckr := cell_up hbk hck
      have hc1r := cell_up hbk hc12
      have hmem := (HKI.out _ (List.getElem_mem (show k < (keysUp (vs.map (·.1))).length by rw [HLEN.out]; exact hlt)))
      have htk : (bufPuts vs).take (k + 1) = (bufPuts vs).take k ++ [⟨(keysUp (vs.map (·.1)))[k]'(by rw [HLEN.out]; exact hlt), (alook vs ((keysUp (vs.map (·.1)))[k]'(by rw [HLEN.out]; exact hlt))).getD []⟩] := by
        rw [take_snoc _ k (by rw [HAL.out]; exact hlt)]
        simp [bufPuts]
      have hbwr := Below.up HB02.out hbk
      have hmr := H5.out.up hbwr
      generalize (keysUp (vs.map (·.1)))[k]'(by rw [HLEN.out]; exact hlt) = key at hckr hmem htk
      have hlk := hmr.lookup (P := Try.prog) Try.underlying84 Try.underlying3 (Try.zeroValue51 _) key false
      have hdat : ∃ u d, alook ml key = some u ∧ alook vs key = some d ∧ BytesAt (fun k => F k ∧ k ≠ b ∧ k ≠ r) w u d := by
        rcases H6.out.look key with ⟨h, _⟩ | h
        · exfalso
          rw [← HKK.out] at hmem
          obtain ⟨x, hx, he⟩ := List.mem_map.1 hmem.2
          exact alook_none.1 h x hx he
        · exact h
      obtain ⟨u, d, hd1, hd2, hd3⟩ := hdat
      rw [hd1] at hlk
      rw [hd2] at htk
      simp only [Option.getD_some, Bool.false_eq_true, if_false] at hlk htk
      have hdl : d.length ≤ 1000000 := H40.out _ (alook_in hd2)
      obtain ⟨dp, dc, rfl⟩ := shape_of hd3 rfl
      have hd3' := hd3.up hbwr
      have hmem' := hmem.1
      have hzr := hbk.size
      have HOUT := hout
      have HTK := Lib.hid htk
      have HDL := Lib.hid hdl
      have HBK := Lib.hid hbk
      have HD3' := Lib.hid hd3'
      clear htk hdl hbk hd3'
      clear hd1 hd2 hd3 hmr hbwr hout hck hmem
      go_wp2_with fail
      refine (clone_w _ _ d _ HD3'.out HDL.out).mono ?_
      rintro e w3 ⟨v3, rfl, hnv, hb3⟩
      obtain ⟨np, nc, rfl⟩ := shape_of hnv.bytes rfl
      have hzw3 := hb3.size
      have hownlt : ∀ q, Value.ownBlock u2 = some q → w2.heap.size ≤ q ∧ q < wr.heap.size := by obtain ⟨xs, hx⟩ := HOUT.out.own; exact fun q hq => hx.lt q hq
      obtain ⟨css, q1, q2, q3, q4, q5⟩ := (HOUT.out.up putRW_stable hb3).up putRW_stable (below_alloc w3 (.cells #[.int .i64 key, .slice np d.length nc] 54))
      have HQ1 := Lib.hid q1
      have HQ2 := Lib.hid q2
      have HQ4 := Lib.hid q4
      have HQ5 := Lib.hid q5
      have HNV := Lib.hid hnv
      have HB3 := Lib.hid hb3
      have HOWNLT := Lib.hid hownlt
      clear q1 q2 q4 q5 hnv hb3 hownlt
      generalize hll : ((bufPuts vs).take k).length = ll at q3
      have hll2 : ll ≤ 1000000 := by have := HL.out; rw [← hll, List.length_take, HAL.out]; omega
      have HLL := Lib.hid hll
      have HLL2 := Lib.hid hll2
      clear hll hll2
      go_wp2_with (at_builtin; refine wpList_append_lies _ rfl _ _ 50 rfl w2.heap.size 54 i0 (.agg #[.int .i64 0, .slice none 0 0]) 2 32 Try.underlying50 hp0 hp1 hp2 hp3 rfl (by decide) _ ll css.flatten rfl q3 ⟨w3.heap.size, 0, none⟩ 1 1 [.int .i64 key, .slice np d.length nc] rfl rfl (World.news_of_block (cs := #[.int .i64 key, .slice np d.length nc]) (heap_alloc_new w3 _)) (by simp [Value.oneCell']) (by decide) (by have := HLL2.out; unfold maxLen; omega) (by have := HLL2.out; omega) (by simp; omega) (w3.heap.size + 1) (by simp) ?_; intro gg cap w5 hown5 hgrow5 hat5 hlt5)
      go_roundw
      case rel =>
        refine ⟨k + 1, fun b => D b ∨ New wr w3 b, by omega, by go_num, ?_, ?_⟩
        · unfold Hid
          rw [HTK.out]
          have hll := HLL.out
          subst hll
          have hg : w3.heap.size + 1 = (w3.alloc (.cells #[.int .i64 key, .slice np d.length nc] 54)).heap.size := by simp
          refine OutS.snoc (v := u2) (D3 := New wr w3) putRW_stable HQ1.out HQ2.out HQ4.out HQ5.out (cs := [.int .i64 key, .slice np d.length nc]) (x := ⟨key, d⟩) rfl ⟨_, rfl, hmem', HNV.out.up (below_alloc _ _)⟩ (fun q hq => ?_) hown5 hgrow5 (hg ▸ hat5)
          have h1 := hq.1
          have h2 := hq.2
          exact ⟨by omega, by simp; omega, fun e => by have := (HOWNLT.out q e).2; omega⟩
        · have hb1 : Below w2.heap.size w2 (w3.alloc (.cells #[.int .i64 key, .slice np d.length nc] 54)) := (HBK.out.trans (HB3.out.mono (by omega))).trans ((below_alloc _ _).mono (by omega))
          exact hb1.grown hgrow5 (by simp; omega) (fun q hq => (HOWNLT.out q hq).1)
      case measure => simp [intOf]; omega
    · have hkl : k = vs.length := by omega
      have HK2 := Lib.hid hkl
      have HBK := Lib.hid hbk
      clear hkl hbk
      go_wp2_with fail
      go_ret
      have hwz : w.heap.size ≤ w2.heap.size := by have := HB02.out.size; omega
      refine ⟨_, rfl, ?_, HB02.out.trans (HBK.out.mono hwz)⟩
      have := hout.out
      rw [List.take_of_length_le (by rw [HAL.out]; have := HK2.out; omega)] at this
      exact this.putsW fun b h1 h2 => ⟨by omega, h2⟩
end Go.Proofs
