/- Package scarpref20: blocks, as the document has them: New, Get, blank. -/
import Derived.Test.YtjomlcemnbfnfaaClone
import Derived.Test.YtjomlcemnbfnfaaSep
import Derived.Test.YtjomlcemnbfnfaaInfo
import Derived.Test.YtjomlcemnbfnfaaMaps
namespace Go.Proofs
open Go.RowKit Sc

theorem All2.set {α β : Type} {R : α → β → Prop} {a : α} {b : β} (h : R a b) : ∀ {l : List α} {m : List β} (i : Nat), All2 R l m → All2 R (l.set i a) (m.set i b)
  | [], [], _, _ => trivial
  | _ :: _, _ :: _, 0, ⟨_, h2⟩ => ⟨h, h2⟩
  | _ :: _, _ :: _, i + 1, ⟨h1, h2⟩ => ⟨h1, All2.set h i h2⟩
  | [], _ :: _, _, h' => h'.elim
  | _ :: _, [], _, h' => h'.elim

/-- An M of the document, in the blocks F: its blocks, those that were never written empty. -/
def RefIs (F : Nat → Prop) (w : World) (v : Value) (ls : List Bytes) : Prop :=
  ∃ b g c vs, v = .pointer (some ⟨b, 0, none⟩) ∧ F b ∧ F g ∧ w.heap[b]? = some (.cells #[.slice (some ⟨g, 0, none⟩) ls.length c] 99 (0, 0)) ∧
    w.ownsRow 0 35 1 (.slice (some ⟨g, 0, none⟩) ls.length c) ls.length vs ∧ All2 (BytesAt (fun k => F k ∧ k ≠ g) w) vs ls
theorem RefIs.same {F : Nat → Prop} {w w' : World} {v : Value} {ls : List Bytes} (h : RefIs F w v ls) (hs : Same F w w') : RefIs F w' v ls :=
  let ⟨b, g, c, vs, h1, h2, h3, h4, h5, h6⟩ := h
  ⟨b, g, c, vs, h1, h2, h3, by rw [hs b h2]; exact h4, row_same hs h5 (fun q hq => by cases hq; exact h3), All2.imp (fun _ _ h => h.same (hs.mono fun _ h => h.1)) h6⟩
theorem RefIs.mono {F F' : Nat → Prop} {w : World} {v : Value} {ls : List Bytes} (h : RefIs F w v ls) (hF : ∀ k, F k → F' k) : RefIs F' w v ls :=
  let ⟨b, g, c, vs, h1, h2, h3, h4, h5, h6⟩ := h
  ⟨b, g, c, vs, h1, hF _ h2, hF _ h3, h4, h5, All2.imp (fun _ _ h => h.mono fun k hk => ⟨hF k hk.1, hk.2⟩) h6⟩
def RefA (v : Value) (ls : List Bytes) : Asn := ⟨fun F w => RefIs F w v ls, fun _ _ _ hs _ h => h.same hs⟩

theorem all2_nils (F : Nat → Prop) (w : World) : ∀ n, All2 (BytesAt F w) (List.replicate n (.slice none 0 0)) (List.replicate n [])
  | 0 => trivial
  | n + 1 => ⟨SlAt.nil, all2_nils F w n⟩

def RefNew (n : Nat) (w : World) (e : Ending) (w' : World) : Prop := ∃ v, e = .returned (.tuple #[v, .int .i64 0]) ∧ RefIs (New w w') w' v (List.replicate n []) ∧ Below w.heap.size w w'
set_option maxRecDepth 100000 in
set_option maxHeartbeats 400000 in
theorem refNew_any (n : Nat) (w : World) (h1 : 1 ≤ n) (h2 : n ≤ 1000000) : Calls Try.prog 27 #[.int .i64 n] w (RefNew n w) := by
  obtain ⟨i0, hi, hz0, hz1, hz2⟩ := info_parts infoRow
  have hn1 : (1 : Int) ≤ n := by omega
  have hn2 : (n : Int) ≤ 1000000 := by omega
  go_enter Try.func27, Try.ntmps27
  go_wp2_with (at_make; refine wpList_make_full _ rfl _ _ 97 rfl 0 35 i0 (.slice none 0 0) 1 Try.underlying97 hi hz0 hz1 _ _ _ _ n rfl rfl rfl rfl (by rw [hz2]; omega) (by unfold maxLen; omega) (Nat.zero_le _) ?_; intro w1 hown hgrow)
  go_ret2
  have hlt := hown.lt w.heap.size rfl
  rw [made_one (z := .slice none 0 0) rfl] at hown
  have hb1 : Below w.heap.size w w1 := (Below.refl _ _).grown hgrow (Nat.le_refl _) (fun j hj => by cases hj)
  refine ⟨_, rfl, ⟨w1.heap.size, w.heap.size, n, _, rfl, ⟨hb1.size, by simp⟩, ⟨Nat.le_refl _, by simp; omega⟩, ?_, by rw [List.length_replicate]; exact hown.alloc _, all2_nils _ _ n⟩, Below.up hb1 (below_alloc _ _)⟩
  rw [List.length_replicate]
  exact heap_alloc_new _ _
theorem refNew_no (n : Int) (w : World) (h : n < 1) : Calls Try.prog 27 #[.int .i64 n] w fun e w' => e = .returned (.tuple #[.pointer none, .int .i64 1]) ∧ w = w' := by
  go_enter Try.func27, Try.ntmps27
  go_wp2
  go_ret2
  exact ⟨rfl, rfl⟩

theorem all2_at {F : Nat → Prop} {w : World} {vs : List Value} {ls : List Bytes} (h : All2 (BytesAt F w) vs ls) (i : Nat) (hi : i < ls.length) : ∃ v, vs[i]? = some v ∧ BytesAt F w v ls[i] := by
  have hl := All2.length h
  exact ⟨vs[i]'(by omega), List.getElem?_eq_getElem (by omega), All2.get h i (by omega) hi⟩
/-- What a Get says. -/
def refGet (ls : List Bytes) (lba : Int) : Bytes := let d := ls.getD lba.toNat []; if d.length = 0 then zeroB' else d
where zeroB' : Bytes := List.replicate 40 0
def RefGetSaid (F : Nat → Prop) (ls : List Bytes) (lba : Int) (w : World) (e : Ending) (w' : World) : Prop :=
  ((lba < 0 ∨ (ls.length : Int) ≤ lba) ∧ e = .returned (.tuple #[.slice none 0 0, .int .i64 2]) ∧ w = w') ∨
  ((0 ≤ lba ∧ lba < ls.length) ∧ ∃ v, e = .returned (.tuple #[v, .int .i64 0]) ∧ BytesAt (fun k => F k ∨ New w w' k) w' v (refGet ls lba) ∧ Below w.heap.size w w')
set_option maxHeartbeats 400000 in
theorem refGet_any (F : Nat → Prop) (v : Value) (ls : List Bytes) (lba : Int) (w : World) (h : RefIs F w v ls) (hls : ls.length ≤ 1000000) :
    Calls Try.prog 29 #[v, .int .i64 lba] w (RefGetSaid F ls lba w) := by
  obtain ⟨b, g, c, vs, rfl, h2, h3, h4, h5, h6⟩ := h
  have hc0 : w.cell? ⟨b, 0, none⟩ = some (.slice (some ⟨g, 0, none⟩) ls.length c) := by rw [cell_row h4]; rfl
  by_cases hr : lba < 0 ∨ (ls.length : Int) ≤ lba
  · have HR := Lib.hid hr
    clear h4 h5 h6
    rcases hr with h | h
    · go_enter Try.func29, Try.ntmps29
      go_wp2
      go_ret2
      exact .inl ⟨HR.out, rfl, rfl⟩
    · have h0 : 0 ≤ lba := by omega
      go_enter Try.func29, Try.ntmps29
      go_wp2
      go_ret2
      exact .inl ⟨HR.out, rfl, rfl⟩
  · obtain ⟨k, rfl⟩ := Int.eq_ofNat_of_zero_le (show 0 ≤ lba by omega)
    have hk : k < ls.length := by omega
    obtain ⟨dv, hdv, hd⟩ := all2_at h6 k hk
    have hck : w.cell? ⟨g, k, none⟩ = some dv := by rw [h5.cellAt k (by omega)]; exact hdv
    have hget : refGet ls (k : Int) = if ls[k].length = 0 then refGet.zeroB' else ls[k] := by
      unfold refGet; simp [List.getD, hk]
    have hr1 : ¬ (k : Int) < 0 := by omega
    have hr2 : ¬ (ls.length : Int) ≤ k := by omega
    generalize ls[k] = d at hd hget
    have HD := Lib.hid hd
    obtain ⟨p, c', rfl, q1, q2, q3, q4⟩ := hd
    have HGET := Lib.hid hget
    have HDV := Lib.hid hdv
    have H5 := Lib.hid h5
    have H6 := Lib.hid h6
    clear hget hdv h5 h6
    clear h4 q3 q4 hr
    by_cases h0 : d.length = 0
    · have H0 := Lib.hid h0
      obtain ⟨i0, hi, hz0, hz1, hz2⟩ := info_parts infoU8
      have hz : (((d.length : Nat) : Int) == 0) = true := by rw [beq_iff_eq]; omega
      clear h0
      go_enter Try.func29, Try.ntmps29
      go_wp2_with (at_make; refine wpList_make_full _ rfl _ _ 35 rfl w.heap.size 5 i0 (.int .u8 0) 1 Try.underlying35 hi hz0 hz1 _ _ _ _ 40 rfl rfl rfl rfl (by rw [hz2]; omega) (by unfold maxLen; omega) (Nat.le_refl _) ?_; intro w0 hown0 hgrow0)
      go_ret2
      have hlt := hown0.lt w.heap.size rfl
      refine .inr ⟨by omega, _, rfl, ?_, (Below.refl _ _).grown hgrow0 (Nat.le_refl _) (fun j hj => by cases hj)⟩
      rw [HGET.out, if_pos H0.out]
      exact bytesAt_row (B := w.heap.size) (l := refGet.zeroB') _ (.inr ⟨Nat.le_refl _, hlt.2⟩) (by decide) (Nat.le_refl _) (by omega) (by rw [made_u8] at hown0; exact hown0)
    · have H0 := Lib.hid h0
      have hz : (((d.length : Nat) : Int) == 0) = false := by rw [beq_eq_false_iff_ne]; omega
      clear h0
      go_enter Try.func29, Try.ntmps29
      go_wp2
      go_ret2
      refine .inr ⟨by omega, _, rfl, ?_, Below.refl _ _⟩
      rw [HGET.out, if_neg H0.out]
      exact BytesAt.mono HD.out fun _ h => .inl h.1

set_option maxHeartbeats 400000 in
theorem blank_any (G : Nat → Prop) (v : Value) (l : Bytes) (w : World) (hv : BytesAt G w v l) :
    Calls Try.prog 54 #[v] w fun e w' => e = .returned (.bool (l.all (· == 0))) ∧ w = w' := by
  obtain ⟨p, c, rfl, h1, h2, h3, h4⟩ := hv
  have H4 := Lib.hid h4
  clear h3 h4
  go_enter Try.func54, Try.ntmps54
  go_wp2
  go_loop [3] (fun i => ∃ k : Nat, k ≤ l.length ∧ i = .int .i64 k ∧ Hid (∀ j (h : j < k) (h' : j < l.length), l[j] = 0)) (fun i => l.length - (intOf i).toNat)
  case atStart => exact ⟨0, by omega, rfl, fun j hj => absurd hj (by omega)⟩
  case round =>
    obtain ⟨k, hk, rfl, A⟩ := hrel
    by_cases hlt : k < l.length
    · obtain ⟨b, o, rfl, _, hc⟩ := H4.out k hlt
      unfold byteE at hc
      rw [Nat.mul_one] at hc
      have hx : ∃ x, l[k] = x := ⟨_, rfl⟩
      obtain ⟨x, hx⟩ := hx
      rw [hx] at hc
      have HX := Lib.hid hx
      clear hx
      by_cases h0 : x = 0
      · subst h0
        have hd : ((((0 : UInt8).toNat : Nat) : Int) != 0) = false := rfl
        go_wp2
        go_round
        case rel =>
          refine ⟨k + 1, by omega, by go_num, fun j hj hj' => ?_⟩
          by_cases e : j = k
          · subst e; exact HX.out
          · exact A.out j (by omega) hj'
        case measure => simp [intOf]; omega
      · have hd : (((x.toNat : Nat) : Int) != 0) = true := by
          rw [bne_iff_ne]; intro e; exact h0 (UInt8.toNat_inj.1 (by simpa using e))
        have H0 := Lib.hid h0
        clear h0
        go_wp2
        go_ret
        refine ⟨?_, rfl⟩
        have : l.all (· == 0) = false := by
          rw [List.all_eq_false]
          exact ⟨l[k], List.getElem_mem hlt, by rw [HX.out]; simpa using H0.out⟩
        exact congrArg boolRet this.symm
    · have HK := Lib.hid (show k = l.length by omega)
      go_wp2
      go_ret
      refine ⟨?_, rfl⟩
      have : l.all (· == 0) = true := by
        rw [List.all_eq_true]
        intro y hy
        obtain ⟨j, hj, rfl⟩ := List.getElem_of_mem hy
        rw [A.out j (by have := HK.out; omega) hj]; rfl
      exact congrArg boolRet this.symm
end Go.Proofs
