/- Bytes that hang on a number: what scarpalike's Block and Data give. -/
import Derived.Test.YtjomlcemnbfnfaaAlike
namespace Go.Proofs
open Go.RowKit Sc

theorem infoU8 : (Try.prog.info? 5).map (fun i => (i.zero, i.size, i.bytes)) = some (some (.int .u8 0), 1, 1) := by kernel_rfl
def blockV (k : Int) (m j : Nat) : Value := .int .u8 (if j < m then roundN (wrap64 (wrap64 (wrap64 ((j : Int) * j) + wrap64 (k * 7)) + 1)) 251 else 0)
set_option maxHeartbeats 400000 in
theorem block_any (n : Nat) (k : Int) (w : World) (hn : n ≤ 4096) :
    Calls Try.prog 51 #[.int .i64 n, .int .i64 k] w fun e w' => e = .returned (.slice (some ⟨w.heap.size, 0, none⟩) n n) ∧
      w'.ownsRow w.heap.size 5 1 (.slice (some ⟨w.heap.size, 0, none⟩) n n) n ((List.range n).map (blockV k n)) ∧ Below w.heap.size w w' := by
  obtain ⟨i0, hi, hz0, hz1, hz2⟩ := info_parts infoU8
  have hmax : max (n : Int) 0 = n := by omega
  go_enter Try.func51, Try.ntmps51
  go_wp2_with (at_make; refine wpList_make_full _ rfl _ _ 35 rfl w.heap.size 5 i0 (.int .u8 0) 1 Try.underlying35 hi hz0 hz1 _ _ _ _ n rfl rfl (by omega) (by omega) (by rw [hz2]; omega) (by unfold maxLen; omega) (Nat.le_refl _) ?_; intro w0 hown0 hgrow0)
  have hmade : (madeCells (Value.int .u8 0).cells (n * 1)).toList = (List.range n).map (blockV k 0) := by
    apply List.ext_getElem
    · simp [madeCells]
    · intro j h1 h2
      simp [madeCells, blockV, Value.cells, Nat.mod_one]
  rw [hmade] at hown0
  clear hmade hi hz0 hz1 hz2 hmax
  go_loopw [6] (fun i wr => ∃ m : Nat, m ≤ n ∧ i = .int .i64 m ∧ wr.ownsRow w.heap.size 5 1 (.slice (some ⟨w.heap.size, 0, none⟩) n n) n ((List.range n).map (blockV k m)) ∧ Below w.heap.size w wr) (fun i _ => n - (intOf i).toNat)
  case atStart => exact ⟨0, by omega, rfl, hown0, (Below.refl _ _).grown hgrow0 (Nat.le_refl _) (fun j hj => by cases hj)⟩
  case round =>
    obtain ⟨m, hm, rfl, hown, hbw⟩ := hrel
    by_cases hlt : m < n
    · have hcell : wr.cell? ⟨w.heap.size, m, none⟩ = some (blockV k m m) := by
        rw [hown.cellAt m (by omega)]; simp [hlt]
      have hfz := hown.frozenAt m
      have hst := hown.stored m
      have HST := Lib.hid hst
      have hz := hbw.size
      have hone : (blockV k m m).oneCell' = true := rfl
      generalize blockV k m m = bv at hcell hone
      clear hst hown
      go_wp2_with fail
      refine (round_any _ 251 _ (by omega) (by omega)).mono ?_
      rintro e w1 ⟨rfl, rfl⟩
      have hr := roundN_bd (wrap64 (wrap64 (wrap64 ((m : Int) * m) + wrap64 (k * 7)) + 1)) (show (0 : Int) < 251 by omega)
      generalize hq : roundN (wrap64 (wrap64 (wrap64 ((m : Int) * m) + wrap64 (k * 7)) + 1)) 251 = r at *
      have HQ := Lib.hid hq
      clear hq
      have hmod : r % 256 = r := Int.emod_eq_of_lt (by omega) (by omega)
      go_wp2_with fail
      go_roundw
      case rel =>
        refine ⟨m + 1, by omega, by go_num, ?_, hbw.setCell (Nat.le_refl _) _⟩
        have h := (HST.out (.int .u8 r)).1
        have hl : ((List.range n).map (blockV k m)).set m (.int .u8 r) = (List.range n).map (blockV k (m + 1)) := by
          apply List.ext_getElem
          · simp
          · intro j h1 h2
            simp only [List.getElem_set, List.getElem_map, List.getElem_range]
            by_cases hj : m = j
            · subst hj; simp [blockV, HQ.out]
            · have : (j < m + 1) ↔ j < m := by omega
              simp only [blockV, if_neg hj, this]
        rw [hl] at h
        exact h
      case measure => simp [intOf]; omega
    · have hmn : m = n := by omega
      subst hmn
      go_wp2_with fail
      go_ret
      exact ⟨rfl, hown, hbw⟩

/-- The bytes themselves. -/
def blockB (k : Int) (n : Nat) : Bytes := (List.range n).map fun (j : Nat) => UInt8.ofNat (roundN (wrap64 (wrap64 (wrap64 ((j : Int) * j) + wrap64 (k * 7)) + 1)) 251).toNat
def dataB (k : Int) : Bytes := blockB k 40
theorem blockB_length (k : Int) (n : Nat) : (blockB k n).length = n := by simp [blockB]
theorem dataB_length (k : Int) : (dataB k).length = 40 := blockB_length k 40

/-- A row that the call owns, as bytes. -/
theorem bytesW_row {w : World} {B g n : Nat} {c : Nat} {l : Bytes} (G : Nat → Prop) (hG : G g) (hl : l.length = n) (hc : n ≤ c) (hc2 : c ≤ 9223372036854775807) (h : w.ownsRow B 5 1 (.slice (some ⟨g, 0, none⟩) n c) n (l.map fun x => .int .u8 (x.toNat : Int))) :
    BytesW G w (.slice (some ⟨g, 0, none⟩) n c) l := by
  subst hl
  refine ⟨_, c, rfl, hc, hc2, (by intro hh; cases hh), fun i hi => ⟨g, 0, rfl, hG, ?_⟩⟩
  unfold byteW
  rw [show 0 + i * 1 = i by omega, h.cellAt i (by omega)]
  exact ⟨by simp [hi], h.frozenAt i⟩
theorem bytesAt_row {w : World} {B g n : Nat} {c : Nat} {l : Bytes} (G : Nat → Prop) (hG : G g) (hl : l.length = n) (hc : n ≤ c) (hc2 : c ≤ 9223372036854775807) (h : w.ownsRow B 5 1 (.slice (some ⟨g, 0, none⟩) n c) n (l.map fun x => .int .u8 (x.toNat : Int))) :
    BytesAt G w (.slice (some ⟨g, 0, none⟩) n c) l := (bytesW_row G hG hl hc hc2 h).bytes

/-- A new slice of bytes: it lies in new memory. -/
def NewBytesW (l : Bytes) (w : World) (e : Ending) (w' : World) : Prop := ∃ v, e = .returned v ∧ BytesW (fun b => w.heap.size ≤ b ∧ b < w'.heap.size) w' v l ∧ Below w.heap.size w w'
def NewBytes (l : Bytes) (w : World) (e : Ending) (w' : World) : Prop := ∃ v, e = .returned v ∧ BytesAt (fun b => w.heap.size ≤ b ∧ b < w'.heap.size) w' v l ∧ Below w.heap.size w w'

theorem newBytes {l : Bytes} {w w' : World} {e : Ending} : NewBytesW l w e w' → NewBytes l w e w' := fun ⟨v, h1, h2, h3⟩ => ⟨v, h1, h2.bytes, h3⟩
theorem block_w (n : Nat) (k : Int) (w : World) (hn : n ≤ 4096) :
    Calls Try.prog 51 #[.int .i64 n, .int .i64 k] w (NewBytesW (blockB k n) w) := by
  refine (block_any n k w hn).mono ?_
  rintro e w' ⟨rfl, hown, hb⟩
  have hlt := hown.lt w.heap.size rfl
  refine ⟨_, rfl, bytesW_row (B := w.heap.size) _ ⟨Nat.le_refl _, hlt.2⟩ (blockB_length k n) (Nat.le_refl _) (by omega) ?_, hb⟩
  have : (blockB k n).map (fun x => Value.int .u8 (x.toNat : Int)) = (List.range n).map (blockV k n) := by
    unfold blockB
    rw [List.map_map]
    refine List.map_congr_left fun j hj => ?_
    have hj' := List.mem_range.1 hj
    have hr := roundN_bd (wrap64 (wrap64 (wrap64 ((j : Int) * j) + wrap64 (k * 7)) + 1)) (show (0 : Int) < 251 by omega)
    simp only [Function.comp, blockV, if_pos hj']
    congr 1
    rw [UInt8.toNat_ofNat']
    omega
  rw [this]; exact hown

set_option maxHeartbeats 400000 in
theorem data_w (k : Int) (w : World) :
    Calls Try.prog 25 #[.int .i64 k] w (NewBytesW (dataB k) w) := by
  go_enter Try.func25, Try.ntmps25
  go_wp2_with fail
  refine (block_w 40 k _ (by omega)).mono ?_
  rintro e w1 ⟨v, rfl, h1, h2⟩
  go_wp2_with fail
  go_ret
  exact ⟨v, rfl, h1, h2⟩
theorem block_new (n : Nat) (k : Int) (w : World) (hn : n ≤ 4096) : Calls Try.prog 51 #[.int .i64 n, .int .i64 k] w (NewBytes (blockB k n) w) := (block_w n k w hn).mono fun _ _ => newBytes
theorem data_any (k : Int) (w : World) : Calls Try.prog 25 #[.int .i64 k] w (NewBytes (dataB k) w) := (data_w k w).mono fun _ _ => newBytes
end Go.Proofs
