/- Package model: what an M holds in memory; New, block. -/
import Derived.Test.YtjomlcemnbfnfaaClone
import Derived.Test.YtjomlcemnbfnfaaFind
import Derived.Test.YtjomlcemnbfnfaaMaps
namespace Go.Proofs
open Go.RowKit Sc

/-- An M, in the blocks F: so many blocks, and what those hold that are not noughts. -/
structure ModelIs (F : Nat → Prop) (w : World) (v : Value) (n : Int) (s : List (Int × Bytes)) : Prop where
  out : ∃ b r ml, v = .pointer (some ⟨b, 0, none⟩) ∧ F b ∧ F r ∧ w.heap[b]? = some (.cells #[.int .i64 n, .map (some r)] 82 (0, 0)) ∧ MapIs w r ml ∧ AL (BytesAt F w) ml s
  dom : Dom F w
theorem ModelIs.same {F : Nat → Prop} {w w' : World} {v : Value} {n : Int} {s : List (Int × Bytes)} (h : ModelIs F w v n s) (hs : Same F w w') : ModelIs F w' v n s := by
  obtain ⟨⟨b, r, ml, h1, h2, h3, h4, h5, h6⟩, hd⟩ := h
  have hsz : Dom F w' := fun k hk => by
    have h := hd k hk
    have h' := hs k hk
    rw [Array.getElem?_eq_getElem h] at h'
    exact (Array.getElem?_eq_some_iff.1 h').1
  exact ⟨⟨b, r, ml, h1, h2, h3, by rw [hs b h2]; exact h4, h5.same hs h3, h6.imp fun _ _ h => h.same hs⟩, hsz⟩

theorem ModelIs.more {F : Nat → Prop} {w w' : World} {v : Value} {n : Int} {s : List (Int × Bytes)} (h : ModelIs F w v n s) (hb : Below w.heap.size w w') : ModelIs (fun k => F k ∨ New w w' k) w' v n s := by
  obtain ⟨⟨b, r, ml, h1, h2, h3, h4, h5, h6⟩, hd⟩ := h.same (h.dom.same hb)
  exact ⟨⟨b, r, ml, h1, .inl h2, .inl h3, h4, h5, h6.imp fun _ _ h => h.mono fun _ h => .inl h⟩, fun k hk => hk.elim (hd k) (fun h => h.2)⟩

def ModelNew (n : Int) (w : World) (e : Ending) (w' : World) : Prop := ∃ v, e = .returned (.tuple #[v, .int .i64 0]) ∧ ModelIs (New w w') w' v n [] ∧ Below w.heap.size w w'

set_option maxHeartbeats 400000 in
theorem modelNew_any (n : Int) (w : World) (h1 : 1 ≤ n) (h2 : n ≤ 1048576) :
    Calls Try.prog 18 #[.int .i64 n] w (ModelNew n w) := by
  have hmm := @run_makeMap Try.prog
  go_enter Try.func18, Try.ntmps18
  go_wp2
  go_ret2
  have hm := MapIs.made w
  refine ⟨_, rfl, ⟨⟨w.heap.size + 1, w.heap.size, [], by simp, by simp [New], by simp [New]; omega, ?_, hm.same (G := (· < w.heap.size + 1)) (fun k hk => ?_) (by simp), trivial⟩, fun k hk => hk.2⟩, ?_⟩
  · exact heap_new (by simp)
  · exact heap_old (by simpa using hk)
  · exact ((Below.refl _ _).alloc (Nat.le_refl _) _).alloc (by simp) _

set_option maxHeartbeats 400000 in
theorem block_is (b : Nat) (r : Nat) (n lba : Int) (w : World) (hb : w.heap[b]? = some (.cells #[.int .i64 n, .map (some r)] 82 (0, 0))) :
    Calls Try.prog 43 #[.pointer (some ⟨b, 0, none⟩), .int .i64 lba] w fun e w' => e = .returned (.bool (blk n lba)) ∧ w = w' := by
  have hc0 : w.cell? ⟨b, 0, none⟩ = some (.int .i64 n) := by rw [cell_row hb]; rfl
  have hdef : blk n lba = (decide (0 ≤ lba) && decide (lba < n)) := rfl
  have HD := Lib.hid hdef
  clear hb hdef
  by_cases h1 : 0 ≤ lba
  · by_cases h2 : lba < n
    all_goals
      go_enter Try.func43, Try.ntmps43
      go_wp2
      go_ret
      rw [HD.out]
      simp [h1, h2]
  · go_enter Try.func43, Try.ntmps43
    go_wp2
    go_ret
    refine ⟨?_, rfl⟩
    rw [HD.out]
    exact congrArg boolRet (by rw [decide_eq_false (by omega : ¬ 0 ≤ lba)]; rfl)
theorem block_nil (lba : Int) (w : World) :
    Calls Try.prog 43 #[.pointer none, .int .i64 lba] w fun e w' => e = .returned (.bool false) ∧ w = w' := by
  go_enter Try.func43, Try.ntmps43
  go_wp2
  go_ret
  exact ⟨rfl, rfl⟩

def GetSaidW (n lba : Int) (s : List (Int × Bytes)) (w : World) (e : Ending) (w' : World) : Prop :=
  (blk n lba = false ∧ e = .returned (.tuple #[.slice none 0 0, .int .i64 2]) ∧ Below w.heap.size w w') ∨
  (blk n lba = true ∧ ∃ v, e = .returned (.tuple #[v, .int .i64 0]) ∧ BytesW (New w w') w' v ((alook s lba).getD zeroB) ∧ Below w.heap.size w w')
def GetSaid (n lba : Int) (s : List (Int × Bytes)) (w : World) (e : Ending) (w' : World) : Prop :=
  (blk n lba = false ∧ e = .returned (.tuple #[.slice none 0 0, .int .i64 2]) ∧ Below w.heap.size w w') ∨
  (blk n lba = true ∧ ∃ v, e = .returned (.tuple #[v, .int .i64 0]) ∧ BytesAt (New w w') w' v ((alook s lba).getD zeroB) ∧ Below w.heap.size w w')

set_option maxHeartbeats 400000 in
theorem modelGet_w (F : Nat → Prop) (v : Value) (n lba : Int) (s : List (Int × Bytes)) (w : World) (hm : ModelIs F w v n s) (hs : ∀ k d, alook s k = some d → d.length = 40) :
    Calls Try.prog 21 #[v, .int .i64 lba] w (GetSaidW n lba s w) := by
  obtain ⟨⟨b, r, ml, rfl, h2, h3, h4, h5, h6⟩, hd⟩ := hm
  have hc1 : w.cell? ⟨b, 1, none⟩ = some (.map (some r)) := by rw [cell_row h4]; rfl
  have hl := h5.lookup Try.underlying80 Try.underlying3 (Try.zeroValue35 w) lba true
  have hb := block_is b r n lba w h4
  have H5 := Lib.hid h5
  have H6 := Lib.hid h6
  have HS := Lib.hid hs
  clear h4 h5 h6 hs
  cases hq : blk n lba with
  | false =>
    rw [hq] at hb
    clear hl
    have HB := Lib.hid hb
    have HQ := Lib.hid hq
    clear hq hb
    go_enter Try.func21, Try.ntmps21
    go_wp2_with (go_at_call 43; refine (HB.out).mono ?_; rintro e w' ⟨rfl, rfl⟩)
    go_ret2
    exact .inl ⟨HQ.out, rfl, Below.refl _ _⟩
  | true =>
    rw [hq] at hb
    have HB := Lib.hid hb
    have HQ := Lib.hid hq
    clear hq hb
    rcases H6.out.look lba with ⟨h7, h8⟩ | ⟨dv, d, h7, h8, h9⟩
    · rw [h7] at hl
      simp only [Option.getD_none, Option.isSome_none] at hl
      have H8 := Lib.hid h8
      clear h7 h8
      obtain ⟨i0, hi, hz0, hz1, hz2⟩ := info_parts infoU8
      go_enter Try.func21, Try.ntmps21
      go_wp2_with (first
        | (go_at_call 43; refine (HB.out).mono ?_; rintro e w' ⟨rfl, rfl⟩)
        | (at_make; refine wpList_make_full _ rfl _ _ 35 rfl w.heap.size 5 i0 (.int .u8 0) 1 Try.underlying35 hi hz0 hz1 _ _ _ _ 40 rfl rfl rfl rfl (by rw [hz2]; omega) (by unfold maxLen; omega) (Nat.le_refl _) ?_; intro w0 hown0 hgrow0))
      go_ret2
      have hlt := hown0.lt w.heap.size rfl
      refine .inr ⟨HQ.out, _, rfl, ?_, (Below.refl _ _).grown hgrow0 (Nat.le_refl _) (fun j hj => by cases hj)⟩
      rw [H8.out]
      exact bytesW_row (B := w.heap.size) (l := zeroB) _ ⟨Nat.le_refl _, hlt.2⟩ (by decide) (Nat.le_refl _) (by omega) (by rw [made_u8] at hown0; exact hown0)
    · rw [h7] at hl
      simp only [Option.getD_some, Option.isSome_some] at hl
      have H8 := Lib.hid h8
      have H9 := Lib.hid h9
      clear h7 h8 h9
      go_enter Try.func21, Try.ntmps21
      go_wp2_with (first
        | (go_at_call 43; refine (HB.out).mono ?_; rintro e w' ⟨rfl, rfl⟩)
        | (go_at_call 44; refine (clone_w F _ d _ H9.out (by rw [HS.out _ _ H8.out]; omega)).mono ?_; rintro e w' ⟨nv, rfl, hnv, hbl⟩))
      go_ret2
      refine .inr ⟨HQ.out, _, rfl, ?_, hbl⟩
      rw [H8.out]
      exact hnv

theorem modelGet_any (F : Nat → Prop) (v : Value) (n lba : Int) (s : List (Int × Bytes)) (w : World) (hm : ModelIs F w v n s) (hs : ∀ k d, alook s k = some d → d.length = 40) :
    Calls Try.prog 21 #[v, .int .i64 lba] w (GetSaid n lba s w) :=
  (modelGet_w F v n lba s w hm hs).mono fun _ _ h => h.imp id fun ⟨h1, v, h2, h3, h4⟩ => ⟨h1, v, h2, h3.bytes, h4⟩
/-- Are all bytes noughts? -/
def zero40 (d : Bytes) : Bool := d.all (· == 0)
theorem nought_one (x : UInt8) (w : World) :
    Calls Try.prog 66 (#[.int .u8 (x.toNat : Int)] ++ #[]) w fun e w' => e = .returned (.bool (x != 0)) ∧ Below w.heap.size w w' := by
  have hx : (((x.toNat : Nat) : Int) != 0) = (x != 0) := by
    rw [Bool.eq_iff_iff]; simp only [bne_iff_ne, ne_eq]; rw [← UInt8.toNat_inj]; simp
  show Calls _ _ #[.int .u8 (x.toNat : Int)] _ _
  go_enter Try.func66, Try.ntmps66
  go_wp2
  go_ret
  exact ⟨rfl, Below.refl _ _⟩
set_option maxHeartbeats 400000 in
theorem noughts_any (G : Nat → Prop) (v : Value) (l : Bytes) (w : World) (hv : BytesAt G w v l) :
    Calls Try.prog 45 #[v] w fun e w' => e = .returned (.bool (zero40 l)) ∧ Below w.heap.size w w' := by
  have hz : zero40 l = !(l.any fun x => x != 0) := by
    unfold zero40
    rw [Bool.eq_iff_iff]
    simp
  rw [hz]
  go_enter Try.func45, Try.ntmps45
  go_wp2_with (go_at_call 65; refine (anyByte_any G v l (fun x => x != 0) 66 #[] (by go_simp) _ hv (fun i hi W hb => nought_one _ _)).mono ?_; rintro e w' ⟨rfl, hb'⟩)
  go_ret
  exact ⟨rfl, hb'⟩
end Go.Proofs
