/- Texts of this claim, one behind the other: Ref20, Find, Model, Run, Out, Ref20Run, Lays, Keys, All, Ref20All, Range, Same, Plain22. -/
import Derived.Test.YtjomlcemnbfnfaaChecked
import Derived.Shelf.Abstract
import Derived.Deep.LoopGhost
import Derived.Deep.QuietTactic
import Derived.BigQuiet
import Derived.Deep.RegionHeld3
import Derived.Deep.AppendLies
import Derived.Shelf.SlIterI.Nil
import Derived.Shelf.SortM.Plain
import Derived.Shelf.SortM.SortNone
import Derived.Ground.GgzProg
import Derived.Ground.SlgmProg
import Derived.Lib.Hide
import Derived.Maps.RangeRun
import Derived.Laws.IdiomRangeMap
import Derived.Test.YtjomlcemnbfnfaaAu1

/- Package scarpref20: blocks, as the document has them: New, Get, blank. -/
namespace Go.Proofs
open Go.RowKit Sc

theorem All2.set {α β : Type} {R : α → β → Prop} {a : α} {b : β} (h : R a b) : ∀ {l : List α} {m : List β} (i : Nat), All2 R l m → All2 R (l.set i a) (m.set i b)
  | [], [], _, _ => trivial
  | _ :: _, _ :: _, 0, ⟨_, h2⟩ => ⟨h, h2⟩
  | _ :: _, _ :: _, i + 1, ⟨h1, h2⟩ => ⟨h1, All2.set h i h2⟩
  | [], _ :: _, _, h' => h'.elim
  | _ :: _, [], _, h' => h'.elim

/-- An M of the document, in the blocks F: its blocks, those that were never written empty. -/
def RefIs (F : Nat → Prop) (w : World) (v : Value) (ls : List Bytes) : Prop :=
  ∃ b g c vs, v = .pointer (some ⟨b, 0, none⟩) ∧ F b ∧ F g ∧ w.heap[b]? = some (.cells #[.slice (some ⟨g, 0, none⟩) ls.length c] 99 (0, 0)) ∧
    w.ownsRow 0 35 1 (.slice (some ⟨g, 0, none⟩) ls.length c) ls.length vs ∧ All2 (BytesAt (fun k => F k ∧ k ≠ g) w) vs ls
theorem RefIs.same {F : Nat → Prop} {w w' : World} {v : Value} {ls : List Bytes} (h : RefIs F w v ls) (hs : Same F w w') : RefIs F w' v ls :=
  let ⟨b, g, c, vs, h1, h2, h3, h4, h5, h6⟩ := h
  ⟨b, g, c, vs, h1, h2, h3, by rw [hs b h2]; exact h4, row_same hs h5 (fun q hq => by cases hq; exact h3), All2.imp (fun _ _ h => h.same (hs.mono fun _ h => h.1)) h6⟩
theorem RefIs.mono {F F' : Nat → Prop} {w : World} {v : Value} {ls : List Bytes} (h : RefIs F w v ls) (hF : ∀ k, F k → F' k) : RefIs F' w v ls :=
  let ⟨b, g, c, vs, h1, h2, h3, h4, h5, h6⟩ := h
  ⟨b, g, c, vs, h1, hF _ h2, hF _ h3, h4, h5, All2.imp (fun _ _ h => h.mono fun k hk => ⟨hF k hk.1, hk.2⟩) h6⟩
def RefA (v : Value) (ls : List Bytes) : Asn := ⟨fun F w => RefIs F w v ls, fun _ _ _ hs _ h => h.same hs⟩

theorem all2_nils (F : Nat → Prop) (w : World) : ∀ n, All2 (BytesAt F w) (List.replicate n (.slice none 0 0)) (List.replicate n [])
  | 0 => trivial
  | n + 1 => ⟨SlAt.nil, all2_nils F w n⟩

def RefNew (n : Nat) (w : World) (e : Ending) (w' : World) : Prop := ∃ v, e = .returned (.tuple #[v, .int .i64 0]) ∧ RefIs (New w w') w' v (List.replicate n []) ∧ Below w.heap.size w w'
set_option maxRecDepth 100000 in
set_option maxHeartbeats 400000 in
theorem refNew_any (n : Nat) (w : World) (h1 : 1 ≤ n) (h2 : n ≤ 1000000) : Calls Try.prog 27 #[.int .i64 n] w (RefNew n w) := by
  obtain ⟨i0, hi, hz0, hz1, hz2⟩ := info_parts infoRow
  have hn1 : (1 : Int) ≤ n := by omega
  have hn2 : (n : Int) ≤ 1000000 := by omega
  go_enter Try.func27, Try.ntmps27
  go_wp2_with (at_make; refine wpList_make_full _ rfl _ _ 97 rfl 0 35 i0 (.slice none 0 0) 1 Try.underlying97 hi hz0 hz1 _ _ _ _ n rfl rfl rfl rfl (by rw [hz2]; omega) (by unfold maxLen; omega) (Nat.zero_le _) ?_; intro w1 hown hgrow)
  go_ret2
  have hlt := hown.lt w.heap.size rfl
  rw [made_one (z := .slice none 0 0) rfl] at hown
  have hb1 : Below w.heap.size w w1 := (Below.refl _ _).grown hgrow (Nat.le_refl _) (fun j hj => by cases hj)
  refine ⟨_, rfl, ⟨w1.heap.size, w.heap.size, n, _, rfl, ⟨hb1.size, by simp⟩, ⟨Nat.le_refl _, by simp; omega⟩, ?_, by rw [List.length_replicate]; exact hown.alloc _, all2_nils _ _ n⟩, Below.up hb1 (below_alloc _ _)⟩
  rw [List.length_replicate]
  exact heap_alloc_new _ _
theorem refNew_no (n : Int) (w : World) (h : n < 1) : Calls Try.prog 27 #[.int .i64 n] w fun e w' => e = .returned (.tuple #[.pointer none, .int .i64 1]) ∧ w = w' := by
  go_enter Try.func27, Try.ntmps27
  go_wp2
  go_ret2
  exact ⟨rfl, rfl⟩

theorem all2_at {F : Nat → Prop} {w : World} {vs : List Value} {ls : List Bytes} (h : All2 (BytesAt F w) vs ls) (i : Nat) (hi : i < ls.length) : ∃ v, vs[i]? = some v ∧ BytesAt F w v ls[i] := by
  have hl := All2.length h
  exact ⟨vs[i]'(by omega), List.getElem?_eq_getElem (by omega), All2.get h i (by omega) hi⟩
/-- What a Get says. -/
def refGet (ls : List Bytes) (lba : Int) : Bytes := let d := ls.getD lba.toNat []; if d.length = 0 then zeroB' else d
where zeroB' : Bytes := List.replicate 40 0
def RefGetSaid (F : Nat → Prop) (ls : List Bytes) (lba : Int) (w : World) (e : Ending) (w' : World) : Prop :=
  ((lba < 0 ∨ (ls.length : Int) ≤ lba) ∧ e = .returned (.tuple #[.slice none 0 0, .int .i64 2]) ∧ w = w') ∨
  ((0 ≤ lba ∧ lba < ls.length) ∧ ∃ v, e = .returned (.tuple #[v, .int .i64 0]) ∧ BytesAt (fun k => F k ∨ New w w' k) w' v (refGet ls lba) ∧ Below w.heap.size w w')
set_option maxHeartbeats 400000 in
theorem refGet_any (F : Nat → Prop) (v : Value) (ls : List Bytes) (lba : Int) (w : World) (h : RefIs F w v ls) (hls : ls.length ≤ 1000000) :
    Calls Try.prog 29 #[v, .int .i64 lba] w (RefGetSaid F ls lba w) := by
  obtain ⟨b, g, c, vs, rfl, h2, h3, h4, h5, h6⟩ := h
  have hc0 : w.cell? ⟨b, 0, none⟩ = some (.slice (some ⟨g, 0, none⟩) ls.length c) := by rw [cell_row h4]; rfl
  by_cases hr : lba < 0 ∨ (ls.length : Int) ≤ lba
  · have HR := Lib.hid hr
    clear h4 h5 h6
    rcases hr with h | h
    · go_enter Try.func29, Try.ntmps29
      go_wp2
      go_ret2
      exact .inl ⟨HR.out, rfl, rfl⟩
    · have h0 : 0 ≤ lba := by omega
      go_enter Try.func29, Try.ntmps29
      go_wp2
      go_ret2
      exact .inl ⟨HR.out, rfl, rfl⟩
  · obtain ⟨k, rfl⟩ := Int.eq_ofNat_of_zero_le (show 0 ≤ lba by omega)
    have hk : k < ls.length := by omega
    obtain ⟨dv, hdv, hd⟩ := all2_at h6 k hk
    have hck : w.cell? ⟨g, k, none⟩ = some dv := by rw [h5.cellAt k (by omega)]; exact hdv
    have hget : refGet ls (k : Int) = if ls[k].length = 0 then refGet.zeroB' else ls[k] := by
      unfold refGet; simp [List.getD, hk]
    have hr1 : ¬ (k : Int) < 0 := by omega
    have hr2 : ¬ (ls.length : Int) ≤ k := by omega
    generalize ls[k] = d at hd hget
    have HD := Lib.hid hd
    obtain ⟨p, c', rfl, q1, q2, q3, q4⟩ := hd
    have HGET := Lib.hid hget
    have HDV := Lib.hid hdv
    have H5 := Lib.hid h5
    have H6 := Lib.hid h6
    clear hget hdv h5 h6
    clear h4 q3 q4 hr
    by_cases h0 : d.length = 0
    · have H0 := Lib.hid h0
      obtain ⟨i0, hi, hz0, hz1, hz2⟩ := info_parts infoU8
      have hz : (((d.length : Nat) : Int) == 0) = true := by rw [beq_iff_eq]; omega
      clear h0
      go_enter Try.func29, Try.ntmps29
      go_wp2_with (at_make; refine wpList_make_full _ rfl _ _ 35 rfl w.heap.size 5 i0 (.int .u8 0) 1 Try.underlying35 hi hz0 hz1 _ _ _ _ 40 rfl rfl rfl rfl (by rw [hz2]; omega) (by unfold maxLen; omega) (Nat.le_refl _) ?_; intro w0 hown0 hgrow0)
      go_ret2
      have hlt := hown0.lt w.heap.size rfl
      refine .inr ⟨by omega, _, rfl, ?_, (Below.refl _ _).grown hgrow0 (Nat.le_refl _) (fun j hj => by cases hj)⟩
      rw [HGET.out, if_pos H0.out]
      exact bytesAt_row (B := w.heap.size) (l := refGet.zeroB') _ (.inr ⟨Nat.le_refl _, hlt.2⟩) (by decide) (Nat.le_refl _) (by omega) (by rw [made_u8] at hown0; exact hown0)
    · have H0 := Lib.hid h0
      have hz : (((d.length : Nat) : Int) == 0) = false := by rw [beq_eq_false_iff_ne]; omega
      clear h0
      go_enter Try.func29, Try.ntmps29
      go_wp2
      go_ret2
      refine .inr ⟨by omega, _, rfl, ?_, Below.refl _ _⟩
      rw [HGET.out, if_neg H0.out]
      exact BytesAt.mono HD.out fun _ h => .inl h.1

set_option maxHeartbeats 400000 in
theorem blank_any (G : Nat → Prop) (v : Value) (l : Bytes) (w : World) (hv : BytesAt G w v l) :
    Calls Try.prog 54 #[v] w fun e w' => e = .returned (.bool (l.all (· == 0))) ∧ w = w' := by
  obtain ⟨p, c, rfl, h1, h2, h3, h4⟩ := hv
  have H4 := Lib.hid h4
  clear h3 h4
  go_enter Try.func54, Try.ntmps54
  go_wp2
  go_loop [3] (fun i => ∃ k : Nat, k ≤ l.length ∧ i = .int .i64 k ∧ Hid (∀ j (h : j < k) (h' : j < l.length), l[j] = 0)) (fun i => l.length - (intOf i).toNat)
  case atStart => exact ⟨0, by omega, rfl, fun j hj => absurd hj (by omega)⟩
  case round =>
    obtain ⟨k, hk, rfl, A⟩ := hrel
    by_cases hlt : k < l.length
    · obtain ⟨b, o, rfl, _, hc⟩ := H4.out k hlt
      unfold byteE at hc
      rw [Nat.mul_one] at hc
      have hx : ∃ x, l[k] = x := ⟨_, rfl⟩
      obtain ⟨x, hx⟩ := hx
      rw [hx] at hc
      have HX := Lib.hid hx
      clear hx
      by_cases h0 : x = 0
      · subst h0
        have hd : ((((0 : UInt8).toNat : Nat) : Int) != 0) = false := rfl
        go_wp2
        go_round
        case rel =>
          refine ⟨k + 1, by omega, by go_num, fun j hj hj' => ?_⟩
          by_cases e : j = k
          · subst e; exact HX.out
          · exact A.out j (by omega) hj'
        case measure => simp [intOf]; omega
      · have hd : (((x.toNat : Nat) : Int) != 0) = true := by
          rw [bne_iff_ne]; intro e; exact h0 (UInt8.toNat_inj.1 (by simpa using e))
        have H0 := Lib.hid h0
        clear h0
        go_wp2
        go_ret
        refine ⟨?_, rfl⟩
        have : l.all (· == 0) = false := by
          rw [List.all_eq_false]
          exact ⟨l[k], List.getElem_mem hlt, by rw [HX.out]; simpa using H0.out⟩
        exact congrArg boolRet this.symm
    · have HK := Lib.hid (show k = l.length by omega)
      go_wp2
      go_ret
      refine ⟨?_, rfl⟩
      have : l.all (· == 0) = true := by
        rw [List.all_eq_true]
        intro y hy
        obtain ⟨j, hj, rfl⟩ := List.getElem_of_mem hy
        rw [A.out j (by have := HK.out; omega) hj]; rfl
      exact congrArg boolRet this.symm
end Go.Proofs

/- slices.IndexFunc and slices.ContainsFunc at what the program asks them of: the first element of which a function says yes. -/
namespace Go.Proofs
open Go.RowKit Sc

/-- The first place where p holds, or -1. -/
def idxOf {α : Type} (p : α → Bool) (l : List α) : Int := match l.findIdx? p with
  | some i => i
  | none => -1
theorem idxOf_hit {α : Type} {p : α → Bool} {l : List α} {i : Nat} (hi : i < l.length) (hp : p l[i] = true) (hn : ∀ j (h : j < i), p (l[j]'(by omega)) = false) : idxOf p l = i := by
  have : l.findIdx? p = some i := by
    rw [List.findIdx?_eq_some_iff_getElem]
    exact ⟨hi, hp, fun j hj => by simp [hn j hj]⟩
  simp [idxOf, this]
theorem idxOf_miss {α : Type} {p : α → Bool} {l : List α} (hn : ∀ j (h : j < l.length), p l[j] = false) : idxOf p l = -1 := by
  have : l.findIdx? p = none := by
    rw [List.findIdx?_eq_none_iff]
    intro x hx
    obtain ⟨j, hj, rfl⟩ := List.getElem_of_mem hx
    simp [hn j hj]
  simp [idxOf, this]
theorem idxOf_nonneg {α : Type} (p : α → Bool) (l : List α) : decide (0 ≤ idxOf p l) = l.any p := by
  unfold idxOf
  cases h : l.findIdx? p with
  | none =>
    rw [List.findIdx?_eq_none_iff] at h
    have : l.any p = false := by rw [List.any_eq_false]; intro x hx; simp [h x hx]
    rw [this]; rfl
  | some i =>
    rw [List.findIdx?_eq_some_iff_getElem] at h
    obtain ⟨hi, hp, _⟩ := h
    have : l.any p = true := by rw [List.any_eq_true]; exact ⟨l[i], List.getElem_mem hi, hp⟩
    rw [this]; simp

/-- An element as it is handed on. -/
def putV (G : Nat → Prop) (w : World) (v : Value) (x : Put) : Prop := ∃ dv, v = .agg #[.int .i64 x.lba, dv] ∧ I64 x.lba ∧ BytesAt G w dv x.data
theorem putV.same {G : Nat → Prop} {w w' : World} {v : Value} {x : Put} (h : putV G w v x) (hs : Same G w w') : putV G w' v x := let ⟨dv, h1, h2, h3⟩ := h; ⟨dv, h1, h2, h3.same hs⟩

set_option maxHeartbeats 1000000 in
theorem idxPut_any (G : Nat → Prop) (v : Value) (l : List Put) (p : Put → Bool) (g : Nat) (cb : Array Value) (eg : ∀ args w, (callFunc g args).run Try.prog w = .ok (.enter g args) w) (w : World)
    (hG : Dom G w) (hv : PutsAt G w v l)
    (hf : ∀ i (h : i < l.length) W ev, Below w.heap.size w W → putV G W ev l[i] → Calls Try.prog g (#[ev] ++ cb) W fun e w' => e = .returned (.bool (p l[i])) ∧ Below W.heap.size W w') :
    Calls Try.prog 64 #[v, .func (.func g) #[] cb] w fun e w' => e = .returned (.int .i64 (idxOf p l)) ∧ Below w.heap.size w w' := by
  obtain ⟨ptr, c, rfl, h1, h2, h3, h4⟩ := hv
  have H4 := Lib.hid h4
  have HF := Lib.hid hf
  clear h4 hf h3
  go_enter Try.func64, Try.ntmps64
  go_wp2
  go_loopg [5, 8] l.length (fun gg _ s8 wr => ∃ k : Nat, k ≤ l.length ∧ l.length - k ≤ gg ∧ s8 = .int .i64 k ∧ Hid (Below w.heap.size w wr) ∧ Hid (∀ j (h : j < k) (h' : j < l.length), p l[j] = false))
  case atStart => exact ⟨0, Nat.zero_le _, by omega, rfl, Below.refl _ w, fun j hj => absurd hj (Nat.not_lt_zero _)⟩
  case round =>
    obtain ⟨k, hk, hg, rfl, BW, A⟩ := hrel
    by_cases hlt : k < l.length
    · obtain ⟨b, o, rfl, hb, hc1, hi, dv, hc2, hd⟩ := H4.out k hlt
      have hbl := World.block_lt_of_cell? w _ hc1
      have hc1' := (BW.out.cell (p := ⟨b, o + k * 2, none⟩) hbl).trans hc1
      have hc2' := (BW.out.cell (p := ⟨b, o + k * 2 + 1, none⟩) hbl).trans hc2
      have hcall := HF.out k hlt wr (.agg #[.int .i64 l[k].lba, dv]) BW.out ⟨dv, rfl, hi, hd.same (hG.same BW.out)⟩
      have hone : dv.oneCell' = true := by obtain ⟨_, _, rfl, _⟩ := hd; rfl
      generalize hy : l[k] = y at hc1' hcall
      have B := Lib.hid hy
      clear hy hc1 hc2 hd hi hb
      cases hq : p y with
      | true =>
        rw [hq] at hcall
        have HQ := Lib.hid hq
        have HC := Lib.hid hcall
        clear hq hcall
        go_wp2_with (go_at_fn g; refine (HC.out).mono ?_; rintro e w' ⟨rfl, hb'⟩)
        go_ret
        refine ⟨?_, BW.out.trans (hb'.mono BW.out.size)⟩
        rw [idxOf_hit hlt (by rw [B.out]; exact HQ.out) (fun j hj => A.out j hj (by omega))]
        rfl
      | false =>
        rw [hq] at hcall
        have HQ := Lib.hid hq
        have HC := Lib.hid hcall
        clear hq hcall
        go_wp2_with (go_at_fn g; refine (HC.out).mono ?_; rintro e w' ⟨rfl, hb'⟩)
        go_roundg (l.length - (k + 1))
        case measure => omega
        case rel =>
          refine ⟨k + 1, by omega, by omega, by go_num, BW.out.trans (hb'.mono BW.out.size), fun j hj hj' => ?_⟩
          by_cases e : j = k
          · subst e; rw [B.out]; exact HQ.out
          · exact A.out j (by omega) hj'
    · have hkl : k = l.length := by omega
      have HK := Lib.hid hkl
      clear hkl
      go_wp2
      go_ret
      refine ⟨?_, BW.out⟩
      rw [idxOf_miss (fun j hj => A.out j (by have := HK.out; omega) hj)]
      rfl

set_option maxHeartbeats 400000 in
theorem anyPut_any (G : Nat → Prop) (v : Value) (l : List Put) (p : Put → Bool) (g : Nat) (cb : Array Value) (eg : ∀ args w, (callFunc g args).run Try.prog w = .ok (.enter g args) w) (w : World)
    (hG : Dom G w) (hv : PutsAt G w v l)
    (hf : ∀ i (h : i < l.length) W ev, Below w.heap.size w W → putV G W ev l[i] → Calls Try.prog g (#[ev] ++ cb) W fun e w' => e = .returned (.bool (p l[i])) ∧ Below W.heap.size W w') :
    Calls Try.prog 41 #[v, .func (.func g) #[] cb] w fun e w' => e = .returned (.bool (l.any p)) ∧ Below w.heap.size w w' := by
  rw [← idxOf_nonneg]
  go_enter Try.func41, Try.ntmps41
  go_wp2_with (go_at_call 64; refine (idxPut_any G v l p g cb eg _ hG hv hf).mono ?_; rintro e w' ⟨rfl, hb'⟩)
  go_ret
  exact ⟨rfl, hb'⟩
set_option maxHeartbeats 1000000 in
theorem idxByte_any (G : Nat → Prop) (v : Value) (l : Bytes) (p : UInt8 → Bool) (g : Nat) (cb : Array Value) (eg : ∀ args w, (callFunc g args).run Try.prog w = .ok (.enter g args) w) (w : World)
    (hv : BytesAt G w v l)
    (hf : ∀ i (h : i < l.length) W, Below w.heap.size w W → Calls Try.prog g (#[.int .u8 (l[i].toNat : Int)] ++ cb) W fun e w' => e = .returned (.bool (p l[i])) ∧ Below W.heap.size W w') :
    Calls Try.prog 82 #[v, .func (.func g) #[] cb] w fun e w' => e = .returned (.int .i64 (idxOf p l)) ∧ Below w.heap.size w w' := by
  obtain ⟨ptr, c, rfl, h1, h2, h3, h4⟩ := hv
  have H4 := Lib.hid h4
  have HF := Lib.hid hf
  clear h4 hf h3
  go_enter Try.func82, Try.ntmps82
  go_wp2
  go_loopg [5, 8] l.length (fun gg _ s8 wr => ∃ k : Nat, k ≤ l.length ∧ l.length - k ≤ gg ∧ s8 = .int .i64 k ∧ Hid (Below w.heap.size w wr) ∧ Hid (∀ j (h : j < k) (h' : j < l.length), p l[j] = false))
  case atStart => exact ⟨0, Nat.zero_le _, by omega, rfl, Below.refl _ w, fun j hj => absurd hj (Nat.not_lt_zero _)⟩
  case round =>
    obtain ⟨k, hk, hg, rfl, BW, A⟩ := hrel
    by_cases hlt : k < l.length
    · obtain ⟨b, o, rfl, hb, hc1⟩ := H4.out k hlt
      unfold byteE at hc1
      rw [Nat.mul_one] at hc1
      have hbl := World.block_lt_of_cell? w _ hc1
      have hc1' := (BW.out.cell (p := ⟨b, o + k, none⟩) hbl).trans hc1
      have hcall := HF.out k hlt wr BW.out
      generalize hy : l[k] = y at hc1' hcall
      have B := Lib.hid hy
      clear hy hc1 hb
      cases hq : p y with
      | true =>
        rw [hq] at hcall
        have HQ := Lib.hid hq
        have HC := Lib.hid hcall
        clear hq hcall
        go_wp2_with (go_at_fn g; refine (HC.out).mono ?_; rintro e w' ⟨rfl, hb'⟩)
        go_ret
        refine ⟨?_, BW.out.trans (hb'.mono BW.out.size)⟩
        rw [idxOf_hit hlt (by rw [B.out]; exact HQ.out) (fun j hj => A.out j hj (by omega))]
        rfl
      | false =>
        rw [hq] at hcall
        have HQ := Lib.hid hq
        have HC := Lib.hid hcall
        clear hq hcall
        go_wp2_with (go_at_fn g; refine (HC.out).mono ?_; rintro e w' ⟨rfl, hb'⟩)
        go_roundg (l.length - (k + 1))
        case measure => omega
        case rel =>
          refine ⟨k + 1, by omega, by omega, by go_num, BW.out.trans (hb'.mono BW.out.size), fun j hj hj' => ?_⟩
          by_cases e : j = k
          · subst e; rw [B.out]; exact HQ.out
          · exact A.out j (by omega) hj'
    · have hkl : k = l.length := by omega
      have HK := Lib.hid hkl
      clear hkl
      go_wp2
      go_ret
      refine ⟨?_, BW.out⟩
      rw [idxOf_miss (fun j hj => A.out j (by have := HK.out; omega) hj)]
      rfl

set_option maxHeartbeats 400000 in
theorem anyByte_any (G : Nat → Prop) (v : Value) (l : Bytes) (p : UInt8 → Bool) (g : Nat) (cb : Array Value) (eg : ∀ args w, (callFunc g args).run Try.prog w = .ok (.enter g args) w) (w : World)
    (hv : BytesAt G w v l)
    (hf : ∀ i (h : i < l.length) W, Below w.heap.size w W → Calls Try.prog g (#[.int .u8 (l[i].toNat : Int)] ++ cb) W fun e w' => e = .returned (.bool (p l[i])) ∧ Below W.heap.size W w') :
    Calls Try.prog 65 #[v, .func (.func g) #[] cb] w fun e w' => e = .returned (.bool (l.any p)) ∧ Below w.heap.size w w' := by
  rw [← idxOf_nonneg]
  go_enter Try.func65, Try.ntmps65
  go_wp2_with (go_at_call 82; refine (idxByte_any G v l p g cb eg _ hv hf).mono ?_; rintro e w' ⟨rfl, hb'⟩)
  go_ret
  exact ⟨rfl, hb'⟩
end Go.Proofs

/- Package model: what an M holds in memory; New, block. -/
namespace Go.Proofs
open Go.RowKit Sc

/-- An M, in the blocks F: so many blocks, and what those hold that are not noughts. -/
structure ModelIs (F : Nat → Prop) (w : World) (v : Value) (n : Int) (s : List (Int × Bytes)) : Prop where
  out : ∃ b r ml, v = .pointer (some ⟨b, 0, none⟩) ∧ F b ∧ F r ∧ w.heap[b]? = some (.cells #[.int .i64 n, .map (some r)] 82 (0, 0)) ∧ MapIs w r ml ∧ AL (BytesAt F w) ml s
  dom : Dom F w
theorem ModelIs.same {F : Nat → Prop} {w w' : World} {v : Value} {n : Int} {s : List (Int × Bytes)} (h : ModelIs F w v n s) (hs : Same F w w') : ModelIs F w' v n s := by
  obtain ⟨⟨b, r, ml, h1, h2, h3, h4, h5, h6⟩, hd⟩ := h
  have hsz : Dom F w' := fun k hk => by
    have h := hd k hk
    have h' := hs k hk
    rw [Array.getElem?_eq_getElem h] at h'
    exact (Array.getElem?_eq_some_iff.1 h').1
  exact ⟨⟨b, r, ml, h1, h2, h3, by rw [hs b h2]; exact h4, h5.same hs h3, h6.imp fun _ _ h => h.same hs⟩, hsz⟩

theorem ModelIs.more {F : Nat → Prop} {w w' : World} {v : Value} {n : Int} {s : List (Int × Bytes)} (h : ModelIs F w v n s) (hb : Below w.heap.size w w') : ModelIs (fun k => F k ∨ New w w' k) w' v n s := by
  obtain ⟨⟨b, r, ml, h1, h2, h3, h4, h5, h6⟩, hd⟩ := h.same (h.dom.same hb)
  exact ⟨⟨b, r, ml, h1, .inl h2, .inl h3, h4, h5, h6.imp fun _ _ h => h.mono fun _ h => .inl h⟩, fun k hk => hk.elim (hd k) (fun h => h.2)⟩

def ModelNew (n : Int) (w : World) (e : Ending) (w' : World) : Prop := ∃ v, e = .returned (.tuple #[v, .int .i64 0]) ∧ ModelIs (New w w') w' v n [] ∧ Below w.heap.size w w'

set_option maxHeartbeats 400000 in
theorem modelNew_any (n : Int) (w : World) (h1 : 1 ≤ n) (h2 : n ≤ 1048576) :
    Calls Try.prog 18 #[.int .i64 n] w (ModelNew n w) := by
  have hmm := @run_makeMap Try.prog
  go_enter Try.func18, Try.ntmps18
  go_wp2
  go_ret2
  have hm := MapIs.made w
  refine ⟨_, rfl, ⟨⟨w.heap.size + 1, w.heap.size, [], by simp, by simp [New], by simp [New]; omega, ?_, hm.same (G := (· < w.heap.size + 1)) (fun k hk => ?_) (by simp), trivial⟩, fun k hk => hk.2⟩, ?_⟩
  · exact heap_new (by simp)
  · exact heap_old (by simpa using hk)
  · exact ((Below.refl _ _).alloc (Nat.le_refl _) _).alloc (by simp) _

set_option maxHeartbeats 400000 in
theorem block_is (b : Nat) (r : Nat) (n lba : Int) (w : World) (hb : w.heap[b]? = some (.cells #[.int .i64 n, .map (some r)] 82 (0, 0))) :
    Calls Try.prog 43 #[.pointer (some ⟨b, 0, none⟩), .int .i64 lba] w fun e w' => e = .returned (.bool (blk n lba)) ∧ w = w' := by
  have hc0 : w.cell? ⟨b, 0, none⟩ = some (.int .i64 n) := by rw [cell_row hb]; rfl
  have hdef : blk n lba = (decide (0 ≤ lba) && decide (lba < n)) := rfl
  have HD := Lib.hid hdef
  clear hb hdef
  by_cases h1 : 0 ≤ lba
  · by_cases h2 : lba < n
    all_goals
      go_enter Try.func43, Try.ntmps43
      go_wp2
      go_ret
      rw [HD.out]
      simp [h1, h2]
  · go_enter Try.func43, Try.ntmps43
    go_wp2
    go_ret
    refine ⟨?_, rfl⟩
    rw [HD.out]
    exact congrArg boolRet (by rw [decide_eq_false (by omega : ¬ 0 ≤ lba)]; rfl)
theorem block_nil (lba : Int) (w : World) :
    Calls Try.prog 43 #[.pointer none, .int .i64 lba] w fun e w' => e = .returned (.bool false) ∧ w = w' := by
  go_enter Try.func43, Try.ntmps43
  go_wp2
  go_ret
  exact ⟨rfl, rfl⟩

def GetSaidW (n lba : Int) (s : List (Int × Bytes)) (w : World) (e : Ending) (w' : World) : Prop :=
  (blk n lba = false ∧ e = .returned (.tuple #[.slice none 0 0, .int .i64 2]) ∧ Below w.heap.size w w') ∨
  (blk n lba = true ∧ ∃ v, e = .returned (.tuple #[v, .int .i64 0]) ∧ BytesW (New w w') w' v ((alook s lba).getD zeroB) ∧ Below w.heap.size w w')
def GetSaid (n lba : Int) (s : List (Int × Bytes)) (w : World) (e : Ending) (w' : World) : Prop :=
  (blk n lba = false ∧ e = .returned (.tuple #[.slice none 0 0, .int .i64 2]) ∧ Below w.heap.size w w') ∨
  (blk n lba = true ∧ ∃ v, e = .returned (.tuple #[v, .int .i64 0]) ∧ BytesAt (New w w') w' v ((alook s lba).getD zeroB) ∧ Below w.heap.size w w')

set_option maxHeartbeats 400000 in
theorem modelGet_w (F : Nat → Prop) (v : Value) (n lba : Int) (s : List (Int × Bytes)) (w : World) (hm : ModelIs F w v n s) (hs : ∀ k d, alook s k = some d → d.length = 40) :
    Calls Try.prog 21 #[v, .int .i64 lba] w (GetSaidW n lba s w) := by
  obtain ⟨⟨b, r, ml, rfl, h2, h3, h4, h5, h6⟩, hd⟩ := hm
  have hc1 : w.cell? ⟨b, 1, none⟩ = some (.map (some r)) := by rw [cell_row h4]; rfl
  have hl := h5.lookup Try.underlying80 Try.underlying3 (Try.zeroValue35 w) lba true
  have hb := block_is b r n lba w h4
  have H5 := Lib.hid h5
  have H6 := Lib.hid h6
  have HS := Lib.hid hs
  clear h4 h5 h6 hs
  cases hq : blk n lba with
  | false =>
    rw [hq] at hb
    clear hl
    have HB := Lib.hid hb
    have HQ := Lib.hid hq
    clear hq hb
    go_enter Try.func21, Try.ntmps21
    go_wp2_with (go_at_call 43; refine (HB.out).mono ?_; rintro e w' ⟨rfl, rfl⟩)
    go_ret2
    exact .inl ⟨HQ.out, rfl, Below.refl _ _⟩
  | true =>
    rw [hq] at hb
    have HB := Lib.hid hb
    have HQ := Lib.hid hq
    clear hq hb
    rcases H6.out.look lba with ⟨h7, h8⟩ | ⟨dv, d, h7, h8, h9⟩
    · rw [h7] at hl
      simp only [Option.getD_none, Option.isSome_none] at hl
      have H8 := Lib.hid h8
      clear h7 h8
      obtain ⟨i0, hi, hz0, hz1, hz2⟩ := info_parts infoU8
      go_enter Try.func21, Try.ntmps21
      go_wp2_with (first
        | (go_at_call 43; refine (HB.out).mono ?_; rintro e w' ⟨rfl, rfl⟩)
        | (at_make; refine wpList_make_full _ rfl _ _ 35 rfl w.heap.size 5 i0 (.int .u8 0) 1 Try.underlying35 hi hz0 hz1 _ _ _ _ 40 rfl rfl rfl rfl (by rw [hz2]; omega) (by unfold maxLen; omega) (Nat.le_refl _) ?_; intro w0 hown0 hgrow0))
      go_ret2
      have hlt := hown0.lt w.heap.size rfl
      refine .inr ⟨HQ.out, _, rfl, ?_, (Below.refl _ _).grown hgrow0 (Nat.le_refl _) (fun j hj => by cases hj)⟩
      rw [H8.out]
      exact bytesW_row (B := w.heap.size) (l := zeroB) _ ⟨Nat.le_refl _, hlt.2⟩ (by decide) (Nat.le_refl _) (by omega) (by rw [made_u8] at hown0; exact hown0)
    · rw [h7] at hl
      simp only [Option.getD_some, Option.isSome_some] at hl
      have H8 := Lib.hid h8
      have H9 := Lib.hid h9
      clear h7 h8 h9
      go_enter Try.func21, Try.ntmps21
      go_wp2_with (first
        | (go_at_call 43; refine (HB.out).mono ?_; rintro e w' ⟨rfl, rfl⟩)
        | (go_at_call 44; refine (clone_w F _ d _ H9.out (by rw [HS.out _ _ H8.out]; omega)).mono ?_; rintro e w' ⟨nv, rfl, hnv, hbl⟩))
      go_ret2
      refine .inr ⟨HQ.out, _, rfl, ?_, hbl⟩
      rw [H8.out]
      exact hnv

theorem modelGet_any (F : Nat → Prop) (v : Value) (n lba : Int) (s : List (Int × Bytes)) (w : World) (hm : ModelIs F w v n s) (hs : ∀ k d, alook s k = some d → d.length = 40) :
    Calls Try.prog 21 #[v, .int .i64 lba] w (GetSaid n lba s w) :=
  (modelGet_w F v n lba s w hm hs).mono fun _ _ h => h.imp id fun ⟨h1, v, h2, h3, h4⟩ => ⟨h1, v, h2, h3.bytes, h4⟩
/-- Are all bytes noughts? -/
def zero40 (d : Bytes) : Bool := d.all (· == 0)
theorem nought_one (x : UInt8) (w : World) :
    Calls Try.prog 66 (#[.int .u8 (x.toNat : Int)] ++ #[]) w fun e w' => e = .returned (.bool (x != 0)) ∧ Below w.heap.size w w' := by
  have hx : (((x.toNat : Nat) : Int) != 0) = (x != 0) := by
    rw [Bool.eq_iff_iff]; simp only [bne_iff_ne, ne_eq]; rw [← UInt8.toNat_inj]; simp
  show Calls _ _ #[.int .u8 (x.toNat : Int)] _ _
  go_enter Try.func66, Try.ntmps66
  go_wp2
  go_ret
  exact ⟨rfl, Below.refl _ _⟩
set_option maxHeartbeats 400000 in
theorem noughts_any (G : Nat → Prop) (v : Value) (l : Bytes) (w : World) (hv : BytesAt G w v l) :
    Calls Try.prog 45 #[v] w fun e w' => e = .returned (.bool (zero40 l)) ∧ Below w.heap.size w w' := by
  have hz : zero40 l = !(l.any fun x => x != 0) := by
    unfold zero40
    rw [Bool.eq_iff_iff]
    simp
  rw [hz]
  go_enter Try.func45, Try.ntmps45
  go_wp2_with (go_at_call 65; refine (anyByte_any G v l (fun x => x != 0) 66 #[] (by go_simp) _ hv (fun i hi W hb => nought_one _ _)).mono ?_; rintro e w' ⟨rfl, hb'⟩)
  go_ret
  exact ⟨rfl, hb'⟩
end Go.Proofs

/- Package model: Run. -/
namespace Go.Proofs
open Go.RowKit Sc

/-- What the closure in Run says: the block is not there. -/
theorem runNot_is (b r bx : Nat) (n : Int) (x : Put) (G : Nat → Prop) (ev : Value) (W : World) (hb : W.heap[b]? = some (.cells #[.int .i64 n, .map (some r)] 82 (0, 0)))
    (hx : W.cell? ⟨bx, 0, none⟩ = some (.pointer (some ⟨b, 0, none⟩))) (he : putV G W ev x) :
    Calls Try.prog 42 #[ev, .pointer (some ⟨bx, 0, none⟩)] W fun e w' => e = .returned (.bool (!blk n x.lba)) ∧ Below W.heap.size W w' := by
  obtain ⟨dv, rfl, hi, hd⟩ := he
  have hone : dv.oneCell' = true := by obtain ⟨_, _, rfl, _⟩ := hd; rfl
  have hbl := World.block_lt_of_cell? W _ hx
  have hbb := (Array.getElem?_eq_some_iff.1 hb).1
  have HB := Lib.hid hb
  clear hb hd hi
  go_enter Try.func42, Try.ntmps42
  go_wp2_with (go_at_call 43; refine (block_is b r n x.lba _ (by rw [heap_old hbb]; exact HB.out)).mono ?_; rintro e w' ⟨rfl, rfl⟩)
  go_ret
  exact ⟨rfl, (Below.refl _ _).alloc (Nat.le_refl _) _⟩

/-- What a Run of these Puts says; n: how many blocks. -/
def runCode (n : Int) (l : List Put) : Int :=
  if l.any (fun p => !blk n p.lba) then 2
  else if decide ((l.map (·.lba)).Nodup) && l.all (fun p => decide (p.data.length = 40)) then 0 else 1
def runStep (s : List (Int × Bytes)) (p : Put) : List (Int × Bytes) := if zero40 p.data then adel s p.lba else aset s p.lba p.data
def runPuts (s : List (Int × Bytes)) (l : List Put) : List (Int × Bytes) := l.foldl runStep s

def RunSaid (F : Nat → Prop) (v : Value) (n : Int) (s : List (Int × Bytes)) (l : List Put) (w : World) (e : Ending) (w' : World) : Prop :=
  e = .returned (.int .i64 (runCode n l)) ∧ Chg F w w' ∧ ModelIs (fun k => F k ∨ New w w' k) w' v n (if runCode n l = 0 then runPuts s l else s)

theorem run_fail {F : Nat → Prop} {v : Value} {n : Int} {s : List (Int × Bytes)} {l : List Put} {w w' : World} {c : Int} (hm : ModelIs F w v n s) (hb : Below w.heap.size w w') (hc : runCode n l = c) (h0 : c ≠ 0) :
    RunSaid F v n s l w (.returned (.int .i64 c)) w' := by
  refine ⟨by rw [hc], Chg.of_below hb (fun k h1 h2 => by omega), ?_⟩
  rw [hc, if_neg h0]
  exact hm.more hb
theorem code_of_dup {n : Int} {l : List Put} (hq : l.any (fun p => !blk n p.lba) = false) (hd : ¬ ((l.map (·.lba)).Nodup ∧ ∀ p ∈ l, p.data.length = 40)) : runCode n l = 1 := by
  unfold runCode
  rw [hq, if_neg (by simp), if_neg]
  intro h
  simp only [Bool.and_eq_true, decide_eq_true_eq, List.all_eq_true] at h
  exact hd h
theorem code_of_ok {n : Int} {l : List Put} (hq : l.any (fun p => !blk n p.lba) = false) (hd : (l.map (·.lba)).Nodup ∧ ∀ p ∈ l, p.data.length = 40) : runCode n l = 0 := by
  unfold runCode
  rw [hq, if_neg (by simp), if_pos]
  simp only [Bool.and_eq_true, decide_eq_true_eq, List.all_eq_true]
  exact hd
def metOf (l : List Put) : List (Int × Value) := l.map fun p => (p.lba, .int .i64 1)
theorem alook_met {l : List Put} {n : Int} (h : n ∈ l.map (·.lba)) : alook (metOf l) n = some (.int .i64 1) := by
  induction l with
  | nil => simp at h
  | cons a t ih =>
    by_cases ha : a.lba = n
    · simp [metOf, alook, ha]
    · have h' : n ∈ t.map (·.lba) := by
        simp only [List.map_cons, List.mem_cons] at h
        rcases h with h | h
        · exact absurd h.symm ha
        · exact h
      have := ih h'
      simpa [metOf, alook, ha] using this
theorem met_not {l : List Put} {n : Int} (h : ¬ n ∈ l.map (·.lba)) : ∀ x ∈ metOf l, x.1 ≠ n := by
  intro x hx e
  obtain ⟨p, hp, rfl⟩ := List.mem_map.1 hx
  exact h (List.mem_map.2 ⟨p, hp, e⟩)

set_option maxRecDepth 100000 in
set_option maxHeartbeats 1000000 in
theorem modelRun_any (F G : Nat → Prop) (v tv : Value) (n : Int) (s : List (Int × Bytes)) (t : Tx) (w : World) (hn : n ≠ 0) (hm : ModelIs F w v n s) (ht : TxAt G w tv t) (hG : Dom G w) (hFG : ∀ k, F k → ¬ G k) :
    Calls Try.prog 19 #[v, tv] w (RunSaid F v n s t.puts w) := by
  have HMOD := Lib.hid hm
  obtain ⟨⟨b, r, ml, rfl, h2, h3, h4, h5, h6⟩, hd⟩ := hm
  obtain ⟨pv, rfl, hti, hp⟩ := ht
  have hbb := (Array.getElem?_eq_some_iff.1 h4).1
  have hc0 : w.cell? ⟨b, 0, none⟩ = some (.int .i64 n) := by rw [cell_row h4]; rfl
  have hc1 : w.cell? ⟨b, 1, none⟩ = some (.map (some r)) := by rw [cell_row h4]; rfl
  have hn0 : (n == 0) = false := by rw [beq_eq_false_iff_ne]; exact hn
  have HP := Lib.hid hp
  obtain ⟨pp, pc, rfl, hp1, hp2, hp3, hp4⟩ := hp
  have HP4 := Lib.hid hp4
  have HP3 := Lib.hid hp3
  have hmm := @run_makeMap Try.prog
  have H4 := Lib.hid h4
  have H5 := Lib.hid h5
  have H6 := Lib.hid h6
  clear h4 h5 h6 hp4 hp3 hn
  cases hq : t.puts.any (fun p => !blk n p.lba) with
  | true =>
    have HQ := Lib.hid hq
    clear hq
    go_enter Try.func19, Try.ntmps19
    go_wp2_with fail
    refine (anyPut_any G _ t.puts (fun p => !blk n p.lba) 42 _ (by go_simp) _ ?_ ?_ ?_).mono ?_
    · intro k hk; have := hG k hk; simp; omega
    · exact HP.out.same (hG.same (((Below.refl _ _).alloc (Nat.le_refl _) _).alloc (by simp) _))
    · intro i hi W ev hbw hev
      have hbz := hbw.size
      refine runNot_is b r w.heap.size n _ G ev W ?_ ?_ hev
      · rw [hbw.block b (by simp; omega), heap_old (by simp; omega), heap_old hbb]; exact H4.out
      · exact (hbw.cell (p := ⟨w.heap.size, 0, none⟩) (by simp; omega)).trans (by go_simp)
    rintro e w1 ⟨rfl, hb1⟩
    rw [HQ.out]
    go_wp2
    go_ret
    have hbw : Below w.heap.size w w1 := (((Below.refl _ _).alloc (Nat.le_refl _) _).alloc (by simp) _).trans (hb1.mono (by simp; omega))
    exact run_fail HMOD.out hbw (by unfold runCode; rw [if_pos HQ.out]) (by omega)
  | false =>
    have HQ := Lib.hid hq
    clear hq
    go_enter Try.func19, Try.ntmps19
    go_wp2_with fail
    refine (anyPut_any G _ t.puts (fun p => !blk n p.lba) 42 _ (by go_simp) _ ?_ ?_ ?_).mono ?_
    · intro k hk; have := hG k hk; simp; omega
    · exact HP.out.same (hG.same (((Below.refl _ _).alloc (Nat.le_refl _) _).alloc (by simp) _))
    · intro i hi W ev hbw hev
      have hbz := hbw.size
      refine runNot_is b r w.heap.size n _ G ev W ?_ ?_ hev
      · rw [hbw.block b (by simp; omega), heap_old (by simp; omega), heap_old hbb]; exact H4.out
      · exact (hbw.cell (p := ⟨w.heap.size, 0, none⟩) (by simp; omega)).trans (by go_simp)
    rintro e w1 ⟨rfl, hb1⟩
    rw [HQ.out]
    have hs1 : w.heap.size + 2 ≤ w1.heap.size := by have := hb1.size; simpa using this
    have e0 : w1.cell? ⟨w.heap.size, 0, none⟩ = some (.pointer (some ⟨b, 0, none⟩)) := (hb1.cell (p := ⟨w.heap.size, 0, none⟩) (by simp; omega)).trans (by go_simp)
    have e1 : w1.cell? ⟨w.heap.size + 1, 1, none⟩ = some (.slice pp t.puts.length pc) := (hb1.cell (p := ⟨w.heap.size + 1, 1, none⟩) (by simp)).trans (by go_simp)
    have hbw : Below w.heap.size w w1 := (((Below.refl _ _).alloc (Nat.le_refl _) _).alloc (by simp) _).trans (hb1.mono (by simp; omega))
    have hz0 : w.heap.size < w1.heap.size := by omega
    have hz1 : w.heap.size + 1 < w1.heap.size := by omega
    go_wp2_with fail
    go_loopw [29] (fun i wr => ∃ k : Nat, k ≤ t.puts.length ∧ i = .int .i64 k ∧ MapIs wr w1.heap.size (metOf (t.puts.take k)) ∧ Below w1.heap.size w1 wr ∧ Hid (((t.puts.take k).map (·.lba)).Nodup ∧ ∀ p ∈ t.puts.take k, p.data.length = 40)) (fun i _ => t.puts.length - (intOf i).toNat)
    case atStart => exact ⟨0, by omega, rfl, MapIs.made w1, (Below.refl _ _).alloc (Nat.le_refl _) _, by unfold Hid; simp⟩
    case round =>
      obtain ⟨k, hk, rfl, hmk, hbk, hnd⟩ := hrel
      by_cases hlt : k < t.puts.length
      · obtain ⟨pb, po, rfl, hGb, hca, hi, dv, hcb, hd0⟩ := HP4.out k hlt
        have hbl : pb < w.heap.size := World.block_lt_of_cell? w _ hca
        have hca' := ((hbk.cell (p := ⟨pb, po + k * 2, none⟩) (by show pb < _; omega)).trans (hbw.cell (p := ⟨pb, po + k * 2, none⟩) hbl)).trans hca
        have hcb' := ((hbk.cell (p := ⟨pb, po + k * 2 + 1, none⟩) (by show pb < _; omega)).trans (hbw.cell (p := ⟨pb, po + k * 2 + 1, none⟩) hbl)).trans hcb
        obtain ⟨dp, dc, rfl, hd1, hd2, hd3, hd4⟩ := hd0
        have HT := Lib.hid (take_snoc t.puts k hlt)
        have HM := Lib.hid (List.getElem_mem hlt)
        generalize t.puts[k] = y at hca hca' hcb hcb' hi hd1 hd4 HT HM
        generalize hdl : y.data.length = dl at hcb hcb' hd1
        have HDL := Lib.hid hdl
        have hdl1 : dl ≤ 9223372036854775807 := by omega
        have hm1 := hmk.alloc (.cells #[.int .i64 y.lba, .slice dp dl dc] 39)
        have hNl := hmk.lt
        have hl1 := hm1.lookup Try.underlying85 Try.underlying3 (Try.zeroValue3 _) y.lba false
        clear hca hcb hdl hd1 hd2 hd3 hd4 hi
        by_cases hin : y.lba ∈ (t.puts.take k).map (·.lba)
        · rw [alook_met hin] at hl1
          simp only [Option.getD_some, Bool.false_eq_true, if_false] at hl1
          obtain ⟨w2, hu, hm2, hT⟩ := hm1.update Try.underlying85 Try.underlying3 y.lba (.int .i64 2)
          have hl2 := hm2.lookup Try.underlying85 Try.underlying3 (Try.zeroValue3 _) y.lba false
          rw [alook_aset, if_pos rfl] at hl2
          simp only [Option.getD_some, Bool.false_eq_true, if_false] at hl2
          have q0 : w2.cell? ⟨wr.heap.size, 0, none⟩ = some (.int .i64 y.lba) := (hT.cell _).trans (by go_simp)
          have HIN := Lib.hid hin
          have HT2 := Lib.hid hT
          clear hin hT hm1 hm2
          go_wp2
          go_ret
          have hbz : Below w.heap.size w w2 := (hbw.trans (hbk.mono (by omega))).trans (((Below.refl _ _).alloc (by omega) _).trans (HT2.out.below (by omega)))
          refine run_fail HMOD.out hbz (code_of_dup HQ.out fun hh => ?_) (by omega)
          have h1 := hh.1.sublist ((List.take_sublist (k + 1) t.puts).map (·.lba))
          rw [HT.out, List.map_append, List.nodup_append] at h1
          exact h1.2.2 _ HIN.out _ (by simp) rfl
        · rw [alook_none.2 (met_not hin)] at hl1
          simp only [Option.getD_none, Bool.false_eq_true, if_false] at hl1
          obtain ⟨w2, hu, hm2, hT⟩ := hm1.update Try.underlying85 Try.underlying3 y.lba (.int .i64 1)
          have hl2 := hm2.lookup Try.underlying85 Try.underlying3 (Try.zeroValue3 _) y.lba false
          rw [alook_aset, if_pos rfl] at hl2
          simp only [Option.getD_some, Bool.false_eq_true, if_false] at hl2
          have q0 : w2.cell? ⟨wr.heap.size, 0, none⟩ = some (.int .i64 y.lba) := (hT.cell _).trans (by go_simp)
          have q1 : w2.cell? ⟨wr.heap.size, 1, none⟩ = some (.slice dp dl dc) := (hT.cell _).trans (by go_simp)
          have HIN := Lib.hid hin
          have HT2 := Lib.hid hT
          have HM2 := Lib.hid hm2
          clear hin hT hm1 hm2
          by_cases hd40 : dl = 40
          · have hne : ((dl : Int) != 40) = false := by rw [bne_eq_false_iff_eq]; omega
            have H40 := Lib.hid hd40
            clear hd40
            go_wp2
            go_roundw
            case rel =>
              refine ⟨k + 1, by omega, by go_num, ?_, hbk.trans (((Below.refl _ _).alloc (by omega) _).trans (HT2.out.below (by omega))), ?_⟩
              · have h := HM2.out
                rw [aset_new (met_not HIN.out)] at h
                rw [HT.out]; unfold metOf at h ⊢; rw [List.map_append]; exact h
              · unfold Hid
                rw [HT.out, List.map_append, List.nodup_append]
                refine ⟨⟨hnd.out.1, by simp, fun a ha b hb e => ?_⟩, fun p hp => ?_⟩
                · simp only [List.map_cons, List.map_nil, List.mem_singleton] at hb
                  exact HIN.out (by rw [← hb, ← e]; exact ha)
                · rw [List.mem_append] at hp
                  rcases hp with hp | hp
                  · exact hnd.out.2 p hp
                  · rw [List.mem_singleton] at hp; subst hp; rw [HDL.out]; exact H40.out
            case measure => simp [intOf]; omega
          · have hne : ((dl : Int) != 40) = true := by rw [bne_iff_ne]; omega
            have H40 := Lib.hid hd40
            clear hd40
            go_wp2
            go_ret
            have hbz : Below w.heap.size w w2 := (hbw.trans (hbk.mono (by omega))).trans (((Below.refl _ _).alloc (by omega) _).trans (HT2.out.below (by omega)))
            refine run_fail HMOD.out hbz (code_of_dup HQ.out fun hh => ?_) (by omega)
            have h1 := hh.2 y HM.out
            rw [HDL.out] at h1
            exact H40.out h1
      · have hkl : k = t.puts.length := by omega
        have hok : runCode n t.puts = 0 := code_of_ok HQ.out (by have := hnd.out; rw [hkl, List.take_length] at this; exact this)
        have h40 : ∀ p ∈ t.puts, p.data.length = 40 := by have := hnd.out.2; rw [hkl, List.take_length] at this; exact this
        have HOK := Lib.hid hok
        have H40 := Lib.hid h40
        have hbr : b ≠ r := by
          intro e
          obtain ⟨es, c, hh, _⟩ := H5.out
          rw [← e, H4.out] at hh
          cases hh
        have hrl := H5.out.lt
        have hNl := hmk.lt
        have hbw2 : Below w.heap.size w wr := hbw.trans (hbk.mono (by omega))
        have hmr : MapIs wr r ml := H5.out.same (G := (· < w.heap.size)) (fun q hq => hbw2.block q hq) hrl
        have ha : AL (BytesAt (fun q => F q ∨ New w wr q) wr) ml s := H6.out.imp fun _ _ h => (h.same (hd.same hbw2)).mono fun _ h => .inl h
        have f0 : wr.cell? ⟨w.heap.size, 0, none⟩ = some (.pointer (some ⟨b, 0, none⟩)) := (hbk.cell (p := ⟨w.heap.size, 0, none⟩) hz0).trans e0
        have f1 : wr.cell? ⟨w.heap.size + 1, 1, none⟩ = some (.slice pp t.puts.length pc) := (hbk.cell (p := ⟨w.heap.size + 1, 1, none⟩) hz1).trans e1
        have f2 : wr.cell? ⟨b, 1, none⟩ = some (.map (some r)) := (hbw2.cell (p := ⟨b, 1, none⟩) hbb).trans hc1
        have HMR := Lib.hid hmr
        have HA := Lib.hid ha
        clear hkl hok h40 hnd hmk hmr ha
        obtain ⟨W2, rfl⟩ : ∃ W2 : World, W2 = wr := ⟨_, rfl⟩
        go_wp2
        go_loopw [53] (fun i wr => ∃ k : Nat, ∃ ml', k ≤ t.puts.length ∧ i = .int .i64 k ∧ MapIs wr r ml' ∧ AL (BytesAt (fun q => F q ∨ New w wr q) wr) ml' (runPuts s (t.puts.take k)) ∧ Chg (· = r) W2 wr) (fun i _ => t.puts.length - (intOf i).toNat)
        case atStart => exact ⟨0, ml, by omega, rfl, HMR.out, HA.out, Chg.refl _ _⟩
        case round =>
          obtain ⟨k, ml', hk, rfl, hmx, hax, hcx⟩ := hrel
          have hzx := hcx.size
          have g0 : wr.cell? ⟨w.heap.size, 0, none⟩ = some (.pointer (some ⟨b, 0, none⟩)) := hcx.cell (by omega) f0
          have g2 : wr.cell? ⟨b, 1, none⟩ = some (.map (some r)) := hcx.cell hbr f2
          by_cases hlt : k < t.puts.length
          · obtain ⟨pb, po, rfl, hGb, hca, hi, dv, hcb, hd0⟩ := HP4.out k hlt
            have hbl : pb < w.heap.size := World.block_lt_of_cell? w _ hca
            have hpr : ¬ pb = r := fun e => hFG r h3 (e ▸ hGb)
            have hca' : wr.cell? ⟨pb, po + k * 2, none⟩ = some (.int .i64 t.puts[k].lba) := hcx.cell hpr ((hbw2.cell (p := ⟨pb, po + k * 2, none⟩) hbl).trans hca)
            have hcb' : wr.cell? ⟨pb, po + k * 2 + 1, none⟩ = some dv := hcx.cell hpr ((hbw2.cell (p := ⟨pb, po + k * 2 + 1, none⟩) hbl).trans hcb)
            have hGx : Same G w wr := fun q hq => (hcx.block q (by have := hG q hq; have := hbw2.size; omega) (fun e => hFG r h3 (e ▸ hq))).trans (hbw2.block q (hG q hq))
            have hdx := hd0.same hGx
            have HT := Lib.hid (take_snoc t.puts k hlt)
            have HM := Lib.hid (H40.out _ (List.getElem_mem hlt))
            generalize t.puts[k] = y at hca hca' hi hdx hd0 HT HM
            obtain ⟨dp, dc, rfl, hd1, hd2, hd3, hd4⟩ := hd0
            generalize hdl : y.data.length = dl at hcb hcb' hd1 hdx
            have HDL := Lib.hid hdl
            have HDX := Lib.hid hdx
            have HMX := Lib.hid hmx
            have HAX := Lib.hid hax
            have HCX := Lib.hid hcx
            have HGX := Lib.hid hGx
            clear hca hcb hdl hd1 hd2 hd3 hd4 hi hdx hmx hax hcx hGx
            have k0 : w.heap.size < wr.heap.size := by omega
            have k1 : b < wr.heap.size := by omega
            go_wp2
            go_region_held3 (fun W => W.cell? ⟨w.heap.size, 0, none⟩ = some (.pointer (some ⟨b, 0, none⟩)) ∧ W.cell? ⟨b, 1, none⟩ = some (.map (some r)) ∧ W.cell? ⟨wr.heap.size, 0, none⟩ = some (.int .i64 y.lba) ∧ W.cell? ⟨wr.heap.size, 1, none⟩ = some (.slice dp dl dc))
              (first
                | go_keep
                | (go_split_ands
                   exact ⟨cell_up hb3 (by assumption), cell_up hb3 (by assumption), cell_up hb3 (by assumption), cell_up hb3 (by assumption)⟩)
                | (go_split_ands
                   exact ⟨(hT4.cell _).trans (by assumption), (hT4.cell _).trans (by assumption), (hT4.cell _).trans (by assumption), (hT4.cell _).trans (by assumption)⟩))
              ((first
                | (go_at_call 44; refine (clone_any G _ y.data _ (by exact BytesAt.up HDX.out (below_drewN (below_alloc _ _) _)) (by have := HM.out; omega)).mono ?_; rintro e w3 ⟨v3, rfl, hnv, hb3⟩; have hm3 := HMX.out.up (Below.up (below_drewN (below_alloc wr _) _) hb3); obtain ⟨w4, hu, hm4, hT4⟩ := hm3.update Try.underlying80 Try.underlying3 y.lba v3)))
            have q0 : w4.cell? ⟨wr.heap.size, 0, none⟩ = some (.int .i64 y.lba) := (hT4.cell _).trans (cell_up hb3 (by go_simp))
            have q1 : w4.cell? ⟨wr.heap.size, 1, none⟩ = some (.slice dp dl dc) := (hT4.cell _).trans (cell_up hb3 (by go_simp))
            have q2 : w4.cell? ⟨w.heap.size, 0, none⟩ = some (.pointer (some ⟨b, 0, none⟩)) := (hT4.cell _).trans (cell_up hb3 (by go_simp))
            have q3 : w4.cell? ⟨b, 1, none⟩ = some (.map (some r)) := (hT4.cell _).trans (cell_up hb3 (by go_simp))
            have hb34 : Below wr.heap.size wr w3 := Below.up (below_drewN (below_alloc wr _) _) hb3
            have z3 := hb34.size
            have z4 := hT4.size
            have HNV := Lib.hid hnv
            have HT4 := Lib.hid hT4
            have HM4 := Lib.hid hm4
            have HB3 := Lib.hid hb3
            have HB34 := Lib.hid hb34
            clear hnv hT4 hm3 hm4 hu hb3 hb34
            go_wp2_with fail
            refine (noughts_any G _ y.data w4 (by exact ((HDX.out.up HB34.out).cells HT4.out.cell))).mono ?_
            rintro e w5 ⟨rfl, hb5⟩
            have z5 := hb5.size
            have r0 : w5.cell? ⟨wr.heap.size, 0, none⟩ = some (.int .i64 y.lba) := cell_up hb5 q0
            have r2 : w5.cell? ⟨w.heap.size, 0, none⟩ = some (.pointer (some ⟨b, 0, none⟩)) := cell_up hb5 q2
            have r3 : w5.cell? ⟨b, 1, none⟩ = some (.map (some r)) := cell_up hb5 q3
            have hal : AL (BytesAt (fun q => F q ∨ New w w5 q) w5) (aset ml' y.lba v3) (aset (runPuts s (t.puts.take k)) y.lba y.data) := by
              refine AL.set _ ?_ (HAX.out.imp fun _ _ h => ?_)
              · exact ((HNV.out.cells HT4.out.cell).up hb5).mono (fun q hq => .inr ⟨by have := hq.1; simp at this; omega, by have := hq.2; omega⟩)
              · exact (((h.up HB34.out).cells HT4.out.cell).up hb5).mono (fun q hq => hq.imp id fun h => ⟨h.1, by have := h.2; omega⟩)
            have hch : Chg (· = r) W2 w5 := HCX.out.trans ((Chg.after_up HB34.out (HT4.out.chg (S := (· = r)) rfl)).then_up hb5)
            have hm5 := HM4.out.up hb5
            have hrp : runPuts s (t.puts.take (k + 1)) = runStep (runPuts s (t.puts.take k)) y := by
              rw [HT.out]; simp [runPuts]
            have HAL := Lib.hid hal
            have HCH := Lib.hid hch
            have HRP := Lib.hid hrp
            clear hal hch hrp
            cases hz : zero40 y.data with
            | false =>
              have HZ := Lib.hid hz
              have HM5 := Lib.hid hm5
              clear hz hm5
              go_wp2
              go_roundw
              case rel =>
                refine ⟨k + 1, _, by omega, by go_num, HM5.out, ?_, HCH.out⟩
                rw [HRP.out, runStep, if_neg (by rw [HZ.out]; decide)]
                exact HAL.out
              case measure => simp [intOf]; omega
            | true =>
              obtain ⟨w6, hdl, hm6, hT6⟩ := (hm5.up (w' := w5.drew) (below_drewN (Below.refl _ _) 1)).delete (ty := 0) Try.underlying80 Try.underlying3 y.lba
              have HZ := Lib.hid hz
              have HM6 := Lib.hid hm6
              have HT6 := Lib.hid hT6
              clear hz hm5 hm6 hT6
              go_wp2
              go_region
              all_goals go_wp2
              go_roundw
              case rel =>
                refine ⟨k + 1, _, by omega, by go_num, HM6.out, ?_, HCH.out.trans ((Chg.after_up (below_drewN (Below.refl _ _) 1) (HT6.out.chg (S := (· = r)) rfl)))⟩
                rw [HRP.out, runStep, if_pos HZ.out, ← adel_aset _ _ y.data]
                refine (HAL.out.del y.lba).imp fun _ _ h => (BytesAt.cells h (fun a => HT6.out.cell a)).mono fun q hq => hq.imp id fun h => ⟨h.1, ?_⟩
                have := HT6.out.size
                have h2 := h.2
                show q < w6.heap.size
                rw [this]; exact h2
              case measure => simp [intOf]; omega
          · have hkl : k = t.puts.length := by omega
            subst hkl
            rw [List.take_length] at hax
            have hbwr : Chg F w wr := (Chg.of_below hbw2 (fun q h1 h2 => by omega)).trans' hcx (fun i hi h => by rw [h]; exact h3)
            have hd' : Dom (fun q => F q ∨ New w wr q) wr := fun q hq => hq.elim (fun h => by have := hd q h; have := hbw2.size; omega) (fun h => h.2)
            have hmod : ModelIs (fun q => F q ∨ New w wr q) wr (.pointer (some ⟨b, 0, none⟩)) n (runPuts s t.puts) := by
              refine ⟨⟨b, r, ml', rfl, .inl h2, .inl h3, ?_, hmx, hax⟩, hd'⟩
              rw [hcx.block b (by omega) hbr, hbw2.block b hbb]; exact H4.out
            have HMD := Lib.hid hmod
            have HBW := Lib.hid hbwr
            clear hmx hax hcx hbwr hd' hmod
            go_wp2
            go_ret
            refine ⟨by rw [HOK.out]; rfl, HBW.out, ?_⟩
            rw [HOK.out, if_pos rfl]
            exact HMD.out
end Go.Proofs

/- Lists of structs that a call builds by append, each with data of its own; of whatever program. -/
namespace Sc
open Go Go.RowKit

/-- v is a slice that the call from B on owns: its elements' cells, k each, are css; R says what an element's cells hold; what they lead to lies in D, apart from the slice's own block. -/
def OutS {α : Type} (T : TypeId) (k : Nat) (R : (Nat → Prop) → World → List Value → α → Prop) (B : Nat) (w : World) (v : Value) (l : List α) (D : Nat → Prop) : Prop :=
  ∃ css : List (List Value), css.length = l.length ∧ (∀ cs ∈ css, cs.length = k) ∧ w.ownsRow B T k v l.length css.flatten ∧
    (∀ i (h : i < css.length) (h' : i < l.length), R D w css[i] l[i]) ∧ ∀ b, D b → B ≤ b ∧ b < w.heap.size ∧ v.ownBlock ≠ some b

def RStable {α : Type} (R : (Nat → Prop) → World → List Value → α → Prop) : Prop := ∀ D D' w w' cs x, (∀ b, D b → D' b) → Same D w w' → R D w cs x → R D' w' cs x

theorem OutS.nil {α : Type} {T k : Nat} {R : (Nat → Prop) → World → List Value → α → Prop} {B : Nat} {w : World} : OutS T k R B w (.slice none 0 0) [] (fun _ => False) :=
  ⟨[], rfl, by simp, World.ownsRow_nil _ _ _ _, fun i h => absurd h (by simp), fun b h => h.elim⟩

theorem OutS.own {α : Type} {T k : Nat} {R : (Nat → Prop) → World → List Value → α → Prop} {B : Nat} {w : World} {v : Value} {l : List α} {D : Nat → Prop} (h : OutS T k R B w v l D) : ∃ xs, w.ownsRow B T k v l.length xs :=
  let ⟨_, _, _, h3, _⟩ := h; ⟨_, h3⟩

/-- While memory grows it stays. -/
theorem OutS.up {α : Type} {T k : Nat} {R : (Nat → Prop) → World → List Value → α → Prop} (hR : RStable R) {B : Nat} {w w' : World} {v : Value} {l : List α} {D : Nat → Prop} (h : OutS T k R B w v l D) (hb : Below w.heap.size w w') : OutS T k R B w' v l D := by
  obtain ⟨css, h1, h2, h3, h4, h5⟩ := h
  refine ⟨css, h1, h2, h3.kept (row := none) ⟨hb.os, hb.tape, hb.output, hb.size, fun q hq _ => hb.block q hq⟩ ?_, fun i a b => hR D D w w' _ _ (fun _ h => h) (fun q hq => hb.block q (h5 q hq).2.1) (h4 i a b), fun b hd => ⟨(h5 b hd).1, Nat.lt_of_lt_of_le (h5 b hd).2.1 hb.size, (h5 b hd).2.2⟩⟩
  cases v.ownBlock <;> simp

/-- One element more, behind an append. -/
theorem OutS.snoc {α : Type} {T k : Nat} {R : (Nat → Prop) → World → List Value → α → Prop} (hR : RStable R) {B : Nat} {w w' : World} {v : Value} {l : List α} {D D3 : Nat → Prop} {css : List (List Value)} {cs : List Value} {x : α} {g cap : Nat}
    (h1 : css.length = l.length) (h2 : ∀ cs ∈ css, cs.length = k) (h4 : ∀ i (h : i < css.length) (h' : i < l.length), R D w css[i] l[i]) (h5 : ∀ b, D b → B ≤ b ∧ b < w.heap.size ∧ v.ownBlock ≠ some b)
    (hcs : cs.length = k) (hx : R D3 w cs x) (h3 : ∀ b, D3 b → B ≤ b ∧ b < w.heap.size ∧ v.ownBlock ≠ some b)
    (hown : w'.ownsRow B T k (.slice (some ⟨g, 0, none⟩) (l.length + 1) cap) (l.length + 1) (css.flatten ++ cs)) (hg : w.grownBy w' v.ownBlock) (hat : v.ownBlock = some g ∨ g = w.heap.size) :
    OutS T k R B w' (.slice (some ⟨g, 0, none⟩) (l.length + 1) cap) (l ++ [x]) (fun b => D b ∨ D3 b) := by
  have hs : ∀ {E : Nat → Prop}, (∀ b, E b → B ≤ b ∧ b < w.heap.size ∧ v.ownBlock ≠ some b) → Same E w w' := fun hE q hq => hg.block q (hE q hq).2.1 (fun e => (hE q hq).2.2 e.symm)
  refine ⟨css ++ [cs], by simp [h1], fun c hc => ?_, by simpa using hown, fun i hi hi' => ?_, fun b hb => ?_⟩
  · rcases List.mem_append.1 hc with hc | hc
    · exact h2 c hc
    · rw [List.mem_singleton] at hc; subst hc; exact hcs
  · by_cases hlt : i < l.length
    · rw [List.getElem_append_left (by omega), List.getElem_append_left hlt]
      exact hR _ _ _ _ _ _ (fun _ h => .inl h) (hs h5) (h4 i (by omega) hlt)
    · have hi0 : i = l.length := by simp at hi'; omega
      subst hi0
      rw [List.getElem_append_right (by omega), List.getElem_append_right (Nat.le_refl _)]
      simp only [h1, Nat.sub_self, List.getElem_cons_zero]
      exact hR _ _ _ _ _ _ (fun _ h => .inr h) (hs h3) hx
  · have hB := hb.elim (h5 b) (h3 b)
    refine ⟨hB.1, Nat.lt_of_lt_of_le hB.2.1 hg.size, fun e => ?_⟩
    have e' : g = b := by simpa [Value.ownBlock] using e
    subst e'
    rcases hat with hat | hat
    · exact hB.2.2 hat
    · have := hB.2.1; omega

theorem flat_get {k : Nat} : ∀ {css : List (List Value)} (_ : ∀ cs ∈ css, cs.length = k) (i : Nat) (hi : i < css.length) (j : Nat) (_hj : j < k), css.flatten[i * k + j]? = css[i][j]?
  | [], _, i, hi, _, _ => absurd hi (by simp)
  | c :: t, h, 0, _, j, hj => by
    have hc := h c (by simp)
    simp only [List.flatten_cons, Nat.zero_mul, Nat.zero_add, List.getElem_cons_zero]
    rw [List.getElem?_append_left (by omega)]
  | c :: t, h, i + 1, hi, j, hj => by
    have hc := h c (by simp)
    have ih := flat_get (css := t) (fun x hx => h x (by simp [hx])) i (by simpa using hi) j hj
    simp only [List.flatten_cons, List.getElem_cons_succ]
    rw [List.getElem?_append_right (by rw [hc, Nat.succ_mul]; omega), hc, show (i + 1) * k + j - k = i * k + j by rw [Nat.succ_mul]; omega]
    exact ih

/-- Read as any other slice. -/
theorem OutS.slAt {α : Type} {T k : Nat} {R : (Nat → Prop) → World → List Value → α → Prop} {B : Nat} {w : World} {v : Value} {l : List α} {D : Nat → Prop} {E : Elem α} {G : Nat → Prop} (h : OutS T k R B w v l D)
    (hG : ∀ b, B ≤ b → b < w.heap.size → G b) (hE : ∀ b o cs x, cs.length = k → (∀ j, j < k → w.cell? ⟨b, o + j, none⟩ = cs[j]?) → (∀ j, w.frozen? ⟨b, o + j, none⟩ = false) → R D w cs x → E w b o x) : SlAt G k E w v l := by
  obtain ⟨css, h1, h2, h3, h4, h5⟩ := h
  have hlt := h3.lt
  obtain ⟨hx, hc | ⟨g, cap, cur, rfl, hb, hg, hnc, hcm, hcs, htake⟩⟩ := h3
  · obtain ⟨rfl, hl0⟩ := hc
    obtain rfl : l = [] := List.length_eq_zero_iff.1 hl0
    exact SlAt.nil
  · have hgl := hlt g rfl
    have hrow : w.ownsRow B T k (.slice (some ⟨g, 0, none⟩) l.length cap) l.length css.flatten := ⟨hx, .inr ⟨g, cap, cur, rfl, hb, hg, hnc, hcm, hcs, htake⟩⟩
    refine ⟨_, cap, rfl, hnc, by unfold maxLen at hcm; omega, (by intro hh; cases hh), fun i hi => ⟨g, 0, rfl, hG g hgl.1 hgl.2, ?_⟩⟩
    have hi' : i < css.length := by omega
    have hck := h2 _ (List.getElem_mem hi')
    refine hE g (0 + i * k) css[i] l[i] hck (fun j hj => ?_) (fun j => hrow.frozenAt _) (h4 i hi' hi)
    rw [Nat.zero_add, hrow.cellAt (i * k + j) ?_]
    · exact flat_get h2 i hi' j hj
    · have h1 : (i + 1) * k ≤ l.length * k := Nat.mul_le_mul_right k (by omega)
      rw [Nat.succ_mul] at h1; omega

/-- What a Put's cells hold. -/
def putR (D : Nat → Prop) (w : World) (cs : List Value) (x : Put) : Prop := ∃ dv, cs = [.int .i64 x.lba, dv] ∧ I64 x.lba ∧ BytesAt D w dv x.data
theorem putR_stable : RStable putR := fun _D _D' _w _w' _cs _x hd hs ⟨dv, h1, h2, h3⟩ => ⟨dv, h1, h2, (h3.same hs).mono hd⟩
theorem OutS.puts {T : Nat} {B : Nat} {w : World} {v : Value} {l : List Put} {D : Nat → Prop} {G : Nat → Prop} (h : OutS T 2 putR B w v l D) (hG : ∀ b, B ≤ b → b < w.heap.size → G b) : PutsAt G w v l := by
  have hD : ∀ b, D b → G b := by obtain ⟨_, _, _, _, _, h5⟩ := h; exact fun b hb => hG b (h5 b hb).1 (h5 b hb).2.1
  refine h.slAt hG fun b o cs x hl hc _ ⟨dv, he, hi, hd⟩ => ?_
  subst he
  exact ⟨by first | (simp; done) | (have := hc 0 (by omega); simpa using this), hi, dv, by first | (simp; done) | (have := hc 1 (by omega); simpa using this), hd.mono hD⟩
/-- Puts that may be written. -/
def putW (G : Nat → Prop) : Elem Put := fun w b o x => w.cell? ⟨b, o, none⟩ = some (.int .i64 x.lba) ∧ I64 x.lba ∧ w.frozen? ⟨b, o, none⟩ = false ∧ ∃ v, w.cell? ⟨b, o + 1, none⟩ = some v ∧ BytesW G w v x.data
def PutsW (G : Nat → Prop) : World → Value → List Put → Prop := SlAt G 2 (putW G)
theorem PutsW.puts {G : Nat → Prop} {w : World} {v : Value} {l : List Put} (h : PutsW G w v l) : PutsAt G w v l := SlAt.mono h (fun _ h => h) (fun _ _ _ ⟨h1, h2, _, v, h3, h4⟩ => ⟨h1, h2, v, h3, h4.bytes⟩)
def putRW (D : Nat → Prop) (w : World) (cs : List Value) (x : Put) : Prop := ∃ dv, cs = [.int .i64 x.lba, dv] ∧ I64 x.lba ∧ BytesW D w dv x.data
theorem putRW_stable : RStable putRW := fun _D _D' _w _w' _cs _x hd hs ⟨dv, h1, h2, h3⟩ => ⟨dv, h1, h2, (h3.same hs).mono hd⟩
theorem OutS.putsW {T : Nat} {B : Nat} {w : World} {v : Value} {l : List Put} {D : Nat → Prop} {G : Nat → Prop} (h : OutS T 2 putRW B w v l D) (hG : ∀ b, B ≤ b → b < w.heap.size → G b) : PutsW G w v l := by
  have hD : ∀ b, D b → G b := by obtain ⟨_, _, _, _, _, h5⟩ := h; exact fun b hb => hG b (h5 b hb).1 (h5 b hb).2.1
  refine h.slAt hG fun b o cs x hl hc hf ⟨dv, he, hi, hd⟩ => ?_
  subst he
  exact ⟨by first | (simp; done) | (have := hc 0 (by omega); simpa using this), hi, hf 0, dv, by first | (simp; done) | (have := hc 1 (by omega); simpa using this), hd.mono hD⟩
theorem OutS.same {α : Type} {T k : Nat} {R : (Nat → Prop) → World → List Value → α → Prop} (hR : RStable R) {B : Nat} {w w' : World} {v : Value} {l : List α} {D F : Nat → Prop} (h : OutS T k R B w v l D) (hs : Same F w w') (hz : w.heap.size ≤ w'.heap.size)
    (ho : ∀ g, v.ownBlock = some g → F g) (hD : ∀ b, D b → F b) : OutS T k R B w' v l D := by
  obtain ⟨css, h1, h2, h3, h4, h5⟩ := h
  exact ⟨css, h1, h2, row_same hs h3 ho, fun i a b => hR D D w w' _ _ (fun _ h => h) (hs.mono hD) (h4 i a b), fun b hd => ⟨(h5 b hd).1, Nat.lt_of_lt_of_le (h5 b hd).2.1 hz, (h5 b hd).2.2⟩⟩
theorem OutS.more {α : Type} {T k : Nat} {R : (Nat → Prop) → World → List Value → α → Prop} (hR : RStable R) {B : Nat} {w : World} {v : Value} {l : List α} {D D' : Nat → Prop} (h : OutS T k R B w v l D) (hD : ∀ b, D b → D' b) (hD' : ∀ b, D' b → B ≤ b ∧ b < w.heap.size ∧ v.ownBlock ≠ some b) : OutS T k R B w v l D' := by
  obtain ⟨css, h1, h2, h3, h4, h5⟩ := h
  exact ⟨css, h1, h2, h3, fun i a b => hR D D' w w _ _ hD (Same.refl _ _) (h4 i a b), hD'⟩

end Sc

/- Package scarpref20: Run, All. -/
namespace Go.Proofs
open Go.RowKit Sc

def refPuts (ls : List Bytes) (l : List Put) : List Bytes := l.foldl (fun ls p => ls.set p.lba.toNat p.data) ls
theorem refPuts_length (l : List Put) : ∀ ls : List Bytes, (refPuts ls l).length = ls.length := by
  induction l with
  | nil => intro ls; rfl
  | cons p t ih => intro ls; show (refPuts (ls.set p.lba.toNat p.data) t).length = _; rw [ih, List.length_set]
def RefRunSaid (F : Nat → Prop) (v : Value) (ls : List Bytes) (l : List Put) (w : World) (e : Ending) (w' : World) : Prop :=
  e = .returned (.int .i64 (runCode ls.length l)) ∧ Chg F w w' ∧ RefIs (fun k => F k ∨ New w w' k) w' v (if runCode ls.length l = 0 then refPuts ls l else ls)

theorem ref_fail {F : Nat → Prop} {v : Value} {ls : List Bytes} {l : List Put} {w w' : World} {c : Int} (hd : Dom F w) (hm : RefIs F w v ls) (hb : Below w.heap.size w w') (hc : runCode ls.length l = c) (h0 : c ≠ 0) :
    RefRunSaid F v ls l w (.returned (.int .i64 c)) w' := by
  refine ⟨by rw [hc], Chg.of_below hb (fun k h1 h2 => by omega), ?_⟩
  rw [hc, if_neg h0]
  exact (hm.same (hd.same hb)).mono fun _ h => .inl h

set_option maxRecDepth 100000 in
set_option maxHeartbeats 2000000 in
theorem refRun_any (F G : Nat → Prop) (v tv : Value) (ls : List Bytes) (t : Tx) (w : World) (hm : RefIs F w v ls) (hd : Dom F w) (_hls : ls.length ≤ 1000000) (ht : TxAt G w tv t) (hG : Dom G w) (hFG : ∀ k, F k → ¬ G k) :
    Calls Try.prog 28 #[v, tv] w (RefRunSaid F v ls t.puts w) := by
  have HMOD := Lib.hid hm
  obtain ⟨b, g, c, vs, rfl, h2, h3, h4, h5, h6⟩ := hm
  obtain ⟨pv, rfl, hti, hp⟩ := ht
  have HP := Lib.hid hp
  obtain ⟨pp, pc, rfl, hp1, hp2, hp3, hp4⟩ := hp
  have HP4 := Lib.hid hp4
  have hc0 : w.cell? ⟨b, 0, none⟩ = some (.slice (some ⟨g, 0, none⟩) ls.length c) := by rw [cell_row h4]; rfl
  have hbb := hd b h2
  have hgb := hd g h3
  have hbg : b ≠ g := by
    intro e
    subst e
    rcases h5.2 with ⟨hh, _⟩ | ⟨g', cap, cur, hh, _, hg, _⟩
    · cases hh
    · cases hh
      rw [h4] at hg
      cases hg
  have H4 := Lib.hid h4
  have H5 := Lib.hid h5
  have H6 := Lib.hid h6
  clear h4 h5 h6
  clear hp3 hp4
  go_enter Try.func28, Try.ntmps28
  go_wp2
  go_loopw [5] (fun i wr => ∃ k : Nat, k ≤ t.puts.length ∧ i = .int .i64 k ∧ Below (w.heap.size + 1) (w.alloc (.cells #[.int .i64 t.time, .slice pp t.puts.length pc] 25)) wr ∧ Hid (∀ j (h : j < k) (h' : j < t.puts.length), blk ls.length t.puts[j].lba = true)) (fun i _ => t.puts.length - (intOf i).toNat)
  case atStart => exact ⟨0, by omega, rfl, Below.refl _ _, fun j hj => absurd hj (by omega)⟩
  case round =>
    obtain ⟨k, hk, rfl, hbk, HA⟩ := hrel
    have hbw : Below w.heap.size w wr := (below_alloc w _).trans (hbk.mono (by omega))
    have hz := hbk.size
    simp at hz
    have e1 : wr.cell? ⟨w.heap.size, 1, none⟩ = some (.slice pp t.puts.length pc) := (hbk.cell (p := ⟨w.heap.size, 1, none⟩) (by show w.heap.size < _; omega)).trans (by go_simp)
    have e0 := cell_up hbw hc0
    by_cases hlt : k < t.puts.length
    · obtain ⟨pb, po, rfl, hGb, hca, hi, dv, hcb, hd0⟩ := HP4.out k hlt
      have hca' := cell_up hbw hca
      have hnd := HA.out
      have hfail : blk ls.length t.puts[k].lba = false → runCode ls.length t.puts = 2 := by
        intro h
        unfold runCode
        rw [if_pos]
        rw [List.any_eq_true]
        exact ⟨_, List.getElem_mem hlt, by rw [h]; rfl⟩
      have hstep : blk ls.length t.puts[k].lba = true → ∀ j (h : j < k + 1) (h' : j < t.puts.length), blk ls.length t.puts[j].lba = true := by
        intro h j hj hj'
        by_cases e : j = k
        · subst e; exact h
        · exact hnd j (by omega) hj'
      obtain ⟨hi0, hi1⟩ := hi
      generalize t.puts[k].lba = x at hca hca' hi0 hi1 hfail hstep
      have HFAIL := Lib.hid hfail
      have HSTEP := Lib.hid hstep
      clear hfail hstep
      clear hnd hca hcb hd0
      by_cases h1 : x < 0
      · have hb : blk ls.length x = false := by unfold blk; rw [decide_eq_false (by omega)]; rfl
        have HB := Lib.hid hb
        clear hb
        go_wp2
        go_quiet (fail)
        go_wp2
        go_ret
        exact ref_fail hd HMOD.out (below_drewN hbw _) (HFAIL.out HB.out) (by decide)
      · by_cases h3 : (ls.length : Int) ≤ x
        · have hb : blk ls.length x = false := by unfold blk; rw [decide_eq_false (p := x < _) (by omega), Bool.and_false]
          have h1' : 0 ≤ x := by omega
          have h1'' : decide (x < 0) = false := by simp; omega
          have HB := Lib.hid hb
          clear hb
          clear h1
          go_wp2
          go_quiet (fail)
          go_wp2
          go_ret
          exact ref_fail hd HMOD.out (below_drewN hbw _) (HFAIL.out HB.out) (by decide)
        · have hb : blk ls.length x = true := by unfold blk; rw [decide_eq_true (by omega), decide_eq_true (by omega)]; rfl
          have h1' : 0 ≤ x := by omega
          have h1'' : decide (x < 0) = false := by simp; omega
          have h3' : x < ls.length := by omega
          have h3'' : decide ((ls.length : Int) ≤ x) = false := by simp; omega
          have HB := Lib.hid hb
          clear hb
          clear h1 h3
          go_wp2
          go_quiet (fail)
          go_wp2
          go_roundw
          case rel => exact ⟨k + 1, by omega, by go_num, below_drewN hbk _, HSTEP.out HB.out⟩
          case measure => simp [intOf]; omega
    · have hkl : k = t.puts.length := by omega
      subst hkl
      have hq : t.puts.any (fun p => !blk ls.length p.lba) = false := by
        rw [List.any_eq_false]
        intro p hp
        obtain ⟨j, hj, rfl⟩ := List.getElem_of_mem hp
        rw [HA.out j hj hj]; decide
      have HQ := Lib.hid hq
      clear hq
      obtain ⟨W2, rfl⟩ : ∃ W2 : World, W2 = wr := ⟨_, rfl⟩
      go_wp2
      clear e1 e0 hbw hz
      go_loopw [6] (fun i wr => ∃ k : Nat, k ≤ t.puts.length ∧ i = .int .i64 k ∧ Below (w.heap.size + 1) (w.alloc (.cells #[.int .i64 t.time, .slice pp t.puts.length pc] 25)) wr ∧ Hid (((t.puts.take k).map (·.lba)).Nodup ∧ ∀ p ∈ t.puts.take k, p.data.length = 40)) (fun i _ => t.puts.length - (intOf i).toNat)
      case atStart => exact ⟨0, by omega, rfl, hbk, by unfold Hid; simp⟩
      case round =>
        obtain ⟨k, hk, rfl, hbk2, HN⟩ := hrel
        have hbw : Below w.heap.size w wr := (below_alloc w _).trans (hbk2.mono (by omega))
        have hz := hbk2.size
        simp at hz
        have e1 : wr.cell? ⟨w.heap.size, 1, none⟩ = some (.slice pp t.puts.length pc) := (hbk2.cell (p := ⟨w.heap.size, 1, none⟩) (by show w.heap.size < _; omega)).trans (by go_simp)
        by_cases hlt : k < t.puts.length
        · obtain ⟨pb, po, rfl, hGb, hca, hi, dv, hcb, hd0⟩ := HP4.out k hlt
          have hca' := cell_up hbw hca
          have hcb' := cell_up hbw hcb
          obtain ⟨dp, dc, rfl, hd1, hd2, hd3, hd4⟩ := hd0
          have HT := Lib.hid (take_snoc t.puts k hlt)
          have HM := Lib.hid (List.getElem_mem hlt)
          generalize hy : t.puts[k] = y at hca hca' hcb hcb' hi hd1 hd4 HT HM
          generalize hdl : y.data.length = dl at hcb hcb' hd1
          have hdl1 : dl ≤ 9223372036854775807 := by omega
          have HDL := Lib.hid hdl
          have HY := Lib.hid hy
          clear hdl hy
          clear hca hcb hd1 hd2 hd3 hd4 hi
          by_cases hd40 : dl = 40
          case neg =>
            have hne : ((dl : Int) != 40) = true := by rw [bne_iff_ne]; omega
            have HD40 := Lib.hid hd40
            clear hd40
            go_wp2
            go_ret
            refine ref_fail hd HMOD.out hbw (code_of_dup HQ.out fun hh => ?_) (by decide)
            have h1 := hh.2 y HM.out
            rw [HDL.out] at h1
            exact HD40.out h1
          case pos =>
            have hne : ((dl : Int) != 40) = false := by rw [bne_eq_false_iff_eq]; omega
            have HD40 := Lib.hid hd40
            clear hd40
            obtain ⟨W3, rfl⟩ : ∃ W3 : World, W3 = wr := ⟨_, rfl⟩
            go_wp2
            clear e1 hbw hz hca' hcb'
            go_loopw [7] (fun i wr => ∃ m : Nat, m ≤ k ∧ i = .int .i64 m ∧ Below (w.heap.size + 1) (w.alloc (.cells #[.int .i64 t.time, .slice (some ⟨pb, po, none⟩) t.puts.length pc] 25)) wr ∧ Hid (∀ j (h : j < m) (h' : j < t.puts.length), t.puts[j].lba ≠ y.lba)) (fun i _ => k - (intOf i).toNat)
            case atStart => exact ⟨0, by omega, rfl, hbk2, fun j hj => absurd hj (by omega)⟩
            case round =>
              obtain ⟨m, hm, rfl, hbk3, HJ⟩ := hrel
              have hbw : Below w.heap.size w wr := (below_alloc w _).trans (hbk3.mono (by omega))
              have hz := hbk3.size
              simp at hz
              have e1 : wr.cell? ⟨w.heap.size, 1, none⟩ = some (.slice (some ⟨pb, po, none⟩) t.puts.length pc) := (hbk3.cell (p := ⟨w.heap.size, 1, none⟩) (by show w.heap.size < _; omega)).trans (by go_simp)
              by_cases hmk : m < k
              · have hml : m < t.puts.length := by omega
                obtain ⟨_, _, hp', _, hcm, _⟩ := HP4.out m hml
                cases hp'
                obtain ⟨_, _, hp', _, hck, _⟩ := HP4.out k hlt
                cases hp'
                have hcm' := cell_up hbw hcm
                have hck' := cell_up hbw hck
                rw [HY.out] at hck'
                have hjj := HJ.out
                have hst : t.puts[m].lba ≠ y.lba → ∀ j (h : j < m + 1) (h' : j < t.puts.length), t.puts[j].lba ≠ y.lba := by
                  intro h j hj hj'
                  by_cases e : j = m
                  · subst e; exact h
                  · exact hjj j (by omega) hj'
                have hno : t.puts[m].lba = y.lba → ¬ ((t.puts.map (·.lba)).Nodup) := by
                  intro h hn
                  have h1 := (List.pairwise_iff_getElem.1 hn) m k (by simpa using hml) (by simpa using hlt) hmk
                  simp only [List.getElem_map] at h1
                  rw [HY.out] at h1
                  exact h1 h
                generalize t.puts[m].lba = xm at hcm' hst hno
                have HST := Lib.hid hst
                have HNO := Lib.hid hno
                clear hst hno
                clear hcm hck hjj
                by_cases he : xm = y.lba
                · subst he
                  have hq : (y.lba == y.lba) = true := by simp
                  go_wp2
                  go_quiet (fail)
                  go_wp2
                  go_ret
                  exact ref_fail hd HMOD.out (below_drewN hbw _) (code_of_dup HQ.out fun hh => HNO.out trivial hh.1) (by decide)
                · have hq : (xm == y.lba) = false := by rw [beq_eq_false_iff_ne]; exact he
                  have HE := Lib.hid he
                  clear he
                  go_wp2
                  go_quiet (fail)
                  go_wp2
                  go_roundw
                  case rel => exact ⟨m + 1, by omega, by go_num, below_drewN hbk3 _, HST.out HE.out⟩
                  case measure => simp [intOf]; omega
              · have hmk2 : m = k := by omega
                subst hmk2
                go_wp2
                go_roundw
                case rel =>
                  refine ⟨m + 1, by omega, by go_num, hbk3, ?_⟩
                  unfold Hid
                  rw [HT.out, List.map_append, List.nodup_append]
                  refine ⟨⟨HN.out.1, by simp, fun a ha b hb e => ?_⟩, fun p hp => ?_⟩
                  · simp only [List.map_cons, List.map_nil, List.mem_singleton] at hb
                    subst hb
                    obtain ⟨p, hp, rfl⟩ := List.mem_map.1 ha
                    obtain ⟨j, hj, rfl⟩ := List.getElem_of_mem hp
                    rw [List.length_take] at hj
                    rw [List.getElem_take] at e
                    exact HJ.out j (by omega) (by omega) e
                  · rw [List.mem_append] at hp
                    rcases hp with hp | hp
                    · exact HN.out.2 p hp
                    · rw [List.mem_singleton] at hp; subst hp; rw [HDL.out]; exact HD40.out
                case measure => simp [intOf]; omega
        · have hkl : k = t.puts.length := by omega
          have hok : runCode ls.length t.puts = 0 := code_of_ok HQ.out (by have := HN.out; rw [hkl, List.take_length] at this; exact this)
          have h40 : ∀ p ∈ t.puts, p.data.length = 40 := by have := HN.out.2; rw [hkl, List.take_length] at this; exact this
          have hin : ∀ p ∈ t.puts, 0 ≤ p.lba ∧ p.lba < ls.length := by
            intro p hp
            have := HQ.out
            rw [List.any_eq_false] at this
            have := this p hp
            simpa [blk] using this
          have HKL := Lib.hid hkl
          have HOK := Lib.hid hok
          have H40 := Lib.hid h40
          have HIN := Lib.hid hin
          clear hkl hok h40 hin
          obtain ⟨W3, rfl⟩ : ∃ W3 : World, W3 = wr := ⟨_, rfl⟩
          go_wp2
          clear e1 hz
          obtain ⟨i0, hi, hz0, hz1, hz2⟩ := info_parts infoU8
          go_loopw [8] (fun i wr => ∃ k : Nat, ∃ vs', k ≤ t.puts.length ∧ i = .int .i64 k ∧ Hid (wr.ownsRow 0 35 1 (.slice (some ⟨g, 0, none⟩) ls.length c) ls.length vs') ∧ Hid (All2 (BytesAt (fun q => (F q ∨ New w wr q) ∧ q ≠ g) wr) vs' (refPuts ls (t.puts.take k))) ∧ Hid (Chg (· = g) W3 wr)) (fun i _ => t.puts.length - (intOf i).toNat)
          case atStart => exact ⟨0, vs, by omega, rfl, row_same (hd.same hbw) H5.out (fun q hq => by cases hq; exact h3), All2.imp (fun _ _ h => (BytesAt.same h ((hd.same hbw).mono fun _ h => h.1)).mono fun _ h => ⟨.inl h.1, h.2⟩) H6.out, Chg.refl _ _⟩
          case round =>
            obtain ⟨k, vs', hk, rfl, HO, HV, HC⟩ := hrel
            have hz3 := hbw.size
            have hzc := HC.out.size
            have hbox : w.heap.size < W3.heap.size := by have := hbk2.size; simp at this; omega
            have e1 : wr.cell? ⟨w.heap.size, 1, none⟩ = some (.slice pp t.puts.length pc) := HC.out.cell (by omega) ((hbk2.cell (p := ⟨w.heap.size, 1, none⟩) (by show w.heap.size < _; omega)).trans (by go_simp))
            have e0 : wr.cell? ⟨b, 0, none⟩ = some (.slice (some ⟨g, 0, none⟩) ls.length c) := HC.out.cell hbg (cell_up hbw hc0)
            by_cases hlt : k < t.puts.length
            · obtain ⟨pb, po, rfl, hGb, hca, hi, dv, hcb, hd0⟩ := HP4.out k hlt
              have hpg : ¬ pb = g := fun e => hFG g h3 (e ▸ hGb)
              have hca' := HC.out.cell hpg (cell_up hbw hca)
              have hcb' := HC.out.cell hpg (cell_up hbw hcb)
              have hGx : Same G w wr := fun q hq => (HC.out.block q (by have := hG q hq; omega) (fun e => hFG g h3 (e ▸ hq))).trans (hbw.block q (hG q hq))
              have hdx := hd0.same hGx
              have HT := Lib.hid (take_snoc t.puts k hlt)
              have h40 := H40.out _ (List.getElem_mem hlt)
              obtain ⟨hin0, hin1⟩ := HIN.out _ (List.getElem_mem hlt)
              generalize t.puts[k] = y at hca hca' hdx hd0 HT h40 hin0 hin1
              obtain ⟨r, hr⟩ := Int.eq_ofNat_of_zero_le hin0
              rw [hr] at hca' hin0 hin1
              have hrl : r < ls.length := by omega
              have hvl : vs'.length = ls.length := by have := All2.length HV.out; rw [refPuts_length] at this; exact this
              have hrow : wr.cell? ⟨g, r, none⟩ = some (vs'[r]'(by omega)) := by rw [HO.out.cellAt r (by omega), List.getElem?_eq_getElem]
              have hrf : wr.frozen? ⟨g, r, none⟩ = false := HO.out.frozenAt r
              generalize vs'[r]'(by omega) = old at hrow
              have HDX := Lib.hid hdx
              obtain ⟨da, dc, rfl, hd1, hd2, hd3, hd4⟩ := hdx
              obtain ⟨db, dof, rfl, hdG, hdE⟩ := hd4 0 (by omega)
              clear hdE
              have hnews : ∀ j u, (y.data.map fun x => Value.int .u8 (x.toNat : Int))[j]? = some u → wr.cell? ((⟨db, dof, none⟩ : Addr).add j) = some u := by
                intro j u hj
                simp only [List.getElem?_map, Option.map_eq_some_iff] at hj
                obtain ⟨x, hx, rfl⟩ := hj
                obtain ⟨hjl, rfl⟩ := List.getElem?_eq_some_iff.1 hx
                obtain ⟨b', o', hp, _, he⟩ := hd4 j hjl
                cases hp
                unfold byteE at he
                rw [Nat.mul_one] at he
                have hadd : (⟨db, dof, none⟩ : Addr).add j = ⟨db, dof + j, none⟩ := by unfold Addr.add; split <;> simp_all
                rw [hadd]; exact he
              have hnl : (y.data.map fun x => Value.int .u8 (x.toNat : Int)).length = 40 * 1 := by simp [h40]
              have hone : ∀ u ∈ (y.data.map fun x => Value.int .u8 (x.toNat : Int)), u.oneCell' = true := by
                intro u hu; obtain ⟨x, _, rfl⟩ := List.mem_map.1 hu; rfl
              generalize hnw : (y.data.map fun x => Value.int .u8 (x.toNat : Int)) = news at *
              simp only [h40] at hcb'
              have hwg : w.heap.size ≠ g := by omega
              have k0 : (0 : Int) ≤ (k : Int) := by omega
              have hfa : ∀ o, (wr.alloc o).drew.frozen? ⟨g, r, none⟩ = false := fun o => ((below_alloc wr o).frozen (p := ⟨g, r, none⟩) (World.block_lt_of_cell? wr _ hrow)).trans hrf
              have k1 : (k : Int) < (t.puts.length : Int) := by omega
              have hb1 := World.block_lt_of_cell? wr _ hca'
              have hg1 := World.block_lt_of_cell? wr _ hrow
              have hb2 := World.block_lt_of_cell? wr _ e0
              have hx1 := World.block_lt_of_cell? wr _ e1
              have HNEWS := Lib.hid hnews
              have HNL := Lib.hid hnl
              have HONE := Lib.hid hone
              have HNW := Lib.hid hnw
              have HR := Lib.hid hr
              have H40 := Lib.hid h40
              clear hnews hnl hone hnw hr h40
              clear hca hcb hd0 hd1 hd2 hd3 hd4 hi hGx
              go_wp2
              go_region_held3 (fun W => W.cell? ⟨b, 0, none⟩ = some (.slice (some ⟨g, 0, none⟩) ls.length c) ∧ W.cell? ⟨w.heap.size, 1, none⟩ = some (.slice (some ⟨pb, po, none⟩) t.puts.length pc) ∧ W.cell? ⟨pb, po + k * 2, none⟩ = some (.int .i64 r) ∧ W.cell? ⟨pb, po + k * 2 + 1, none⟩ = some (.slice (some ⟨db, dof, none⟩) 40 dc))
                (first
                  | go_keep
                  | (go_split_ands
                     exact ⟨(hgrow5.cell_far _ (by simp; omega) (by simp [Value.ownBlock]; omega)).trans (by assumption), (hgrow5.cell_far _ (by simp; omega) (by simp [Value.ownBlock]; omega)).trans (by assumption), (hgrow5.cell_far _ (by simp; omega) (by simp [Value.ownBlock]; omega)).trans (by assumption), (hgrow5.cell_far _ (by simp; omega) (by simp [Value.ownBlock]; omega)).trans (by assumption)⟩)
                  | (go_split_ands
                     exact ⟨(cell_set_other hbg).trans (by assumption), (cell_set_other hwg).trans (by assumption), (cell_set_other hpg).trans (by assumption), (cell_set_other hpg).trans (by assumption)⟩))
                ((refine step_append_lies _ (by rfl) _ _ _ (by rfl) 0 5 i0 (.int .u8 0) 1 1 Try.underlying35 hi hz0 hz1 hz2 (by rfl) (by decide) _ 0 [] (by rfl) (World.ownsRow_made wr #[] 0 (Nat.zero_le _) (by decide) rfl) ⟨db, dof, none⟩ 40 dc news (by rfl) HNL.out (fun j u hj => cell_alloc_old (HNEWS.out j u hj)) HONE.out (by decide) (by decide) (by decide) (Nat.zero_le _) (wr.heap.size + 1) (by simp) ?_; intro gg cap w5 hown5 hgrow5 hat5 hlt5; have q1 : w5.cell? ⟨g, r, none⟩ = some old := (hgrow5.cell_far _ (by simp; omega) (by simp [Value.ownBlock]; omega)).trans (cell_alloc_old hrow); have q2 : w5.frozen? ⟨g, r, none⟩ = false := (hgrow5.frozen_far _ (by simp; omega) (by simp [Value.ownBlock]; omega)).trans (hfa _)))
              have hlt5' := hlt5
              have hz5 : wr.heap.size < w5.heap.size := by have := hgrow5.size; simp at this; omega
              have hgt5 : gg = wr.heap.size ∨ gg = wr.heap.size + 1 := by
                rcases hat5 with h | h
                · simp [Value.ownBlock] at h; exact .inl h.symm
                · exact .inr h
              have hb5 : Below wr.heap.size wr w5 := (below_drewN (below_alloc wr (.cells #[] 5)) 1).grown hgrow5 (by simp) (fun q hq => by simp [Value.ownBlock] at hq; omega)
              have hc6 : Chg (· = g) wr (w5.setCell ⟨g, r, none⟩ (.slice (some ⟨gg, 0, none⟩) 40 cap)) := Chg.after_up hb5 (chg_set w5 g r _ rfl)
              have hst := HO.out
              have hrow5 : w5.ownsRow 0 35 1 (.slice (some ⟨g, 0, none⟩) ls.length c) ls.length vs' := row_same (F := (· = g)) (fun q hq => hb5.block q (by omega)) HO.out (fun q hq => by cases hq; rfl)
              obtain ⟨hrow6, _⟩ := hrow5.stored r (.slice (some ⟨gg, 0, none⟩) 40 cap)
              have hdn : BytesAt (fun q => (F q ∨ New w (w5.setCell ⟨g, r, none⟩ (.slice (some ⟨gg, 0, none⟩) 40 cap)) q) ∧ q ≠ g) (w5.setCell ⟨g, r, none⟩ (.slice (some ⟨gg, 0, none⟩) 40 cap)) (.slice (some ⟨gg, 0, none⟩) 40 cap) y.data := by
                have h1 := bytesAt_own (B := wr.heap.size) (n := 40) (l := y.data) (New wr w5) H40.out (fun _ h1 h2 => ⟨h1, h2⟩) (by rw [HNW.out]; exact ownsRow_base (by simpa using hown5) (by omega))
                refine (h1.same (fun q hq => Below.heap_setCell _ _ _ q (by have := hq.1; show q ≠ g; omega))).mono fun q hq => ?_
                have := hq.1
                exact ⟨.inr ⟨by omega, by have := hq.2; simpa using this⟩, by omega⟩
              have hall : All2 (BytesAt (fun q => (F q ∨ New w (w5.setCell ⟨g, r, none⟩ (.slice (some ⟨gg, 0, none⟩) 40 cap)) q) ∧ q ≠ g) (w5.setCell ⟨g, r, none⟩ (.slice (some ⟨gg, 0, none⟩) 40 cap))) (vs'.set r (.slice (some ⟨gg, 0, none⟩) 40 cap)) ((refPuts ls (t.puts.take k)).set r y.data) := by
                refine All2.set hdn r (All2.imp (fun _ _ h => ?_) HV.out)
                refine (BytesAt.same h (fun q hq => ?_)).mono fun q hq => ⟨hq.1.imp id fun h => ⟨h.1, by have := h.2; simp; omega⟩, hq.2⟩
                have hql : q < wr.heap.size := hq.1.elim (fun h => by have := hd q h; omega) (fun h => h.2)
                exact (Below.heap_setCell _ _ _ q hq.2).trans (hb5.block q hql)
              have hrp : refPuts ls (t.puts.take (k + 1)) = (refPuts ls (t.puts.take k)).set r y.data := by
                rw [HT.out]; simp [refPuts, HR.out]
              have hc7 := HC.out.trans hc6
              have HROW6 := Lib.hid hrow6
              have HALL := Lib.hid hall
              have HRP := Lib.hid hrp
              have HC7 := Lib.hid hc7
              clear hrow6 hall hrp hc7
              clear hdn hc6 hrow5 hown5 hgrow5 hst
              go_wp2
              go_roundw
              case rel =>
                refine ⟨k + 1, _, by omega, by go_num, HROW6.out, ?_, HC7.out⟩
                unfold Hid
                rw [HRP.out]; exact HALL.out
              case measure => simp [intOf]; omega
            · have hkl : k = t.puts.length := by omega
              subst hkl
              have hfin := HV.out
              rw [List.take_length] at hfin
              have HFIN := Lib.hid hfin
              clear hfin
              go_wp2
              go_ret
              have hch : Chg F w wr := (Chg.of_below (S := F) hbw (fun q h1 h2 => by omega)).trans (HC.out.mono (fun q hq e => by subst e; exact h3))
              refine ⟨by rw [HOK.out]; rfl, hch, ?_⟩
              rw [HOK.out, if_pos rfl]
              refine ⟨b, g, c, vs', rfl, .inl h2, .inl h3, ?_, by rw [refPuts_length]; exact HO.out, HFIN.out⟩
              rw [refPuts_length]
              exact (HC.out.block b (by omega) hbg).trans ((hbw.block b hbb).trans H4.out)
end Go.Proofs

/- The layings of slices.Sorted over maps.Keys at this translation: by program. -/
/-
  DERIVED: THE SHELF's CONTRACTS AT THIS DUMP, IN PLAIN WORDS (tools/lay-plain.mjs out of 'TmpShelf.lean', which tools/lay-shelf.mjs wrote): THE SAME DECLARATIONS UNDER THE SAME NAMES: 'import', 'namespace', 'open', 'def', 'theorem' AND NOTHING ELSE: no command of the shelf's: FOR A HAND-IN. Each laying: the table of numbers ('.._ren') and one theorem, a field a fact of the dump's own or the kernel's comparison; each contract: ONE APPLICATION.
-/
namespace Go.Proofs
open Go.Shelf
def Try.keys53_ren : Go.Shelf.Ren := ⟨fun | 7 => 53 | 10 => 71 | n => n, fun | 23 => 80 | 26 => 3 | 3 => 35 | 28 => 95 | 0 => 0 | 27 => 94 | 33 => 62 | 4 => 4 | n => n, fun | n => n⟩
theorem Try.keys53 : Go.Proofs.SlLaysZI.n7 Try.prog Try.keys53_ren := {
  mixed := by kernel_rfl
  f7 := ⟨Try.f53.name, by decide, Try.func53.trans (congrArg some (by kernel_rfl))⟩
  f10 := ⟨Try.f71.name, by decide, Try.func71.trans (congrArg some (by kernel_rfl))⟩
  t0 := Try.underlying0
  a0 := Try.isAgg0
  z0 := Try.sizeOf0
  v0 := Try.zeroValue0
  t4 := Try.underlying4
  a4 := Try.isAgg4
  z4 := Try.sizeOf4
  v4 := Try.zeroValue4
  t23 := Try.underlying80
  a23 := Try.isAgg80
  z23 := Try.sizeOf80
  v23 := Try.zeroValue80
  t26 := Try.underlying3
  a26 := Try.isAgg3
  z26 := Try.sizeOf3
  v26 := Try.zeroValue3
  t27 := Try.underlying94
  a27 := Try.isAgg94
  z27 := Try.sizeOf94
  v27 := Try.zeroValue94
  t28 := Try.underlying95
  a28 := Try.isAgg95
  z28 := Try.sizeOf95
  v28 := Try.zeroValue95
  t33 := Try.underlying62
  a33 := Try.isAgg62
  z33 := Try.sizeOf62
  v33 := Try.zeroValue62 }
def Try.sortedA_ren : Go.Shelf.Ren := ⟨fun | 6 => 52 | 8 => 69 | 9 => 70 | 11 => 85 | 13 => 87 | 12 => 86 | 23 => 105 | 24 => 106 | 14 => 96 | 15 => 97 | 16 => 98 | 17 => 99 | 18 => 100 | 19 => 101 | 20 => 102 | 21 => 103 | 22 => 104 | 25 => 110 | 26 => 111 | 27 => 112 | 28 => 113 | 29 => 114 | 30 => 68 | 31 => 116 | n => n, fun | 26 => 3 | 28 => 95 | 24 => 60 | 0 => 0 | 3 => 3 | 37 => 123 | 48 => 136 | 50 => 138 | 4 => 4 | 40 => 131 | 39 => 130 | 45 => 72 | 5 => 5 | 9 => 9 | 51 => 140 | 55 => 144 | 57 => 146 | 58 => 147 | 33 => 62 | n => n, fun | n => n⟩
theorem Try.sortedA : Go.Proofs.SlLaysZI.n6 Try.prog Try.sortedA_ren := {
  mixed := by kernel_rfl
  f6 := ⟨Try.f52.name, by decide, Try.func52.trans (congrArg some (by kernel_rfl))⟩
  f8 := ⟨Try.f69.name, by decide, Try.func69.trans (congrArg some (by kernel_rfl))⟩
  f11 := ⟨Try.f85.name, by decide, Try.func85.trans (congrArg some (by kernel_rfl))⟩
  t0 := Try.underlying0
  a0 := Try.isAgg0
  z0 := Try.sizeOf0
  v0 := Try.zeroValue0
  t24 := Try.underlying60
  a24 := Try.isAgg60
  z24 := Try.sizeOf60
  v24 := Try.zeroValue60
  t26 := Try.underlying3
  a26 := Try.isAgg3
  z26 := Try.sizeOf3
  v26 := Try.zeroValue3
  t28 := Try.underlying95
  a28 := Try.isAgg95
  z28 := Try.sizeOf95
  v28 := Try.zeroValue95
  i26 := by kernel_rfl }
def Try.sortA_ren : Go.Shelf.Ren := ⟨fun | 5 => 70 | 8 => 87 | 7 => 86 | 19 => 105 | 20 => 106 | 10 => 96 | 11 => 97 | 12 => 98 | 13 => 99 | 14 => 100 | 15 => 101 | 16 => 102 | 17 => 103 | 18 => 104 | 30 => 110 | 31 => 111 | 32 => 112 | 33 => 113 | 34 => 114 | 35 => 68 | 40 => 116 | n => n, fun | 23 => 60 | 25 => 3 | 3 => 3 | 32 => 123 | 22 => 60 | 0 => 0 | 44 => 136 | 46 => 138 | 4 => 4 | 36 => 131 | 35 => 130 | 41 => 72 | 5 => 5 | 9 => 9 | 53 => 140 | 57 => 144 | 63 => 146 | 64 => 147 | n => n, fun | n => n⟩
theorem Try.sortA : Go.Proofs.SlLaysM.n5 Try.prog Try.sortA_ren := {
  mixed := by kernel_rfl
  f5 := ⟨Try.f70.name, by decide, Try.func70.trans (congrArg some (by kernel_rfl))⟩
  f7 := ⟨Try.f86.name, by decide, Try.func86.trans (congrArg some (by kernel_rfl))⟩
  f8 := Try.func87.trans (congrArg some (by kernel_rfl))
  f10 := ⟨Try.f96.name, by decide, Try.func96.trans (congrArg some (by kernel_rfl))⟩
  f11 := ⟨Try.f97.name, by decide, Try.func97.trans (congrArg some (by kernel_rfl))⟩
  f12 := ⟨Try.f98.name, by decide, Try.func98.trans (congrArg some (by kernel_rfl))⟩
  f13 := ⟨Try.f99.name, by decide, Try.func99.trans (congrArg some (by kernel_rfl))⟩
  f14 := ⟨Try.f100.name, by decide, Try.func100.trans (congrArg some (by kernel_rfl))⟩
  f15 := ⟨Try.f101.name, by decide, Try.func101.trans (congrArg some (by kernel_rfl))⟩
  f16 := ⟨Try.f102.name, by decide, Try.func102.trans (congrArg some (by kernel_rfl))⟩
  f17 := ⟨Try.f103.name, by decide, Try.func103.trans (congrArg some (by kernel_rfl))⟩
  f18 := ⟨Try.f104.name, by decide, Try.func104.trans (congrArg some (by kernel_rfl))⟩
  f19 := Try.func105.trans (congrArg some (by kernel_rfl))
  f20 := Try.func106.trans (congrArg some (by kernel_rfl))
  f30 := ⟨Try.f110.name, by decide, Try.func110.trans (congrArg some (by kernel_rfl))⟩
  f31 := Try.func111.trans (congrArg some (by kernel_rfl))
  f32 := Try.func112.trans (congrArg some (by kernel_rfl))
  f33 := ⟨Try.f113.name, by decide, Try.func113.trans (congrArg some (by kernel_rfl))⟩
  f34 := ⟨Try.f114.name, by decide, Try.func114.trans (congrArg some (by kernel_rfl))⟩
  f35 := ⟨Try.f68.name, by decide, Try.func68.trans (congrArg some (by kernel_rfl))⟩
  f40 := ⟨Try.f116.name, by decide, Try.func116.trans (congrArg some (by kernel_rfl))⟩
  t0 := Try.underlying0
  a0 := Try.isAgg0
  z0 := Try.sizeOf0
  v0 := Try.zeroValue0
  t3 := Try.underlying3
  a3 := Try.isAgg3
  z3 := Try.sizeOf3
  v3 := Try.zeroValue3
  t4 := Try.underlying4
  a4 := Try.isAgg4
  z4 := Try.sizeOf4
  v4 := Try.zeroValue4
  t5 := Try.underlying5
  a5 := Try.isAgg5
  z5 := Try.sizeOf5
  v5 := Try.zeroValue5
  t9 := Try.underlying9
  a9 := Try.isAgg9
  z9 := Try.sizeOf9
  v9 := Try.zeroValue9
  t22 := Try.underlying60
  a22 := Try.isAgg60
  z22 := Try.sizeOf60
  v22 := Try.zeroValue60
  t23 := Try.underlying60
  a23 := Try.isAgg60
  z23 := Try.sizeOf60
  v23 := Try.zeroValue60
  t25 := Try.underlying3
  a25 := Try.isAgg3
  z25 := Try.sizeOf3
  v25 := Try.zeroValue3
  t32 := Try.underlying123
  a32 := Try.isAgg123
  z32 := Try.sizeOf123
  v32 := Try.zeroValue123
  t35 := Try.underlying130
  a35 := Try.isAgg130
  z35 := Try.sizeOf130
  v35 := Try.zeroValue130
  t36 := Try.underlying131
  a36 := Try.isAgg131
  z36 := Try.sizeOf131
  v36 := Try.zeroValue131
  t41 := Try.underlying72
  a41 := Try.isAgg72
  z41 := Try.sizeOf72
  v41 := Try.zeroValue72
  t44 := Try.underlying136
  a44 := Try.isAgg136
  z44 := Try.sizeOf136
  v44 := Try.zeroValue136
  t46 := Try.underlying138
  a46 := Try.isAgg138
  z46 := Try.sizeOf138
  v46 := Try.zeroValue138
  t53 := Try.underlying140
  a53 := Try.isAgg140
  z53 := Try.sizeOf140
  v53 := Try.zeroValue140
  t57 := Try.underlying144
  a57 := Try.isAgg144
  z57 := Try.sizeOf144
  v57 := Try.zeroValue144
  t63 := Try.underlying146
  a63 := Try.isAgg146
  z63 := Try.sizeOf146
  v63 := Try.zeroValue146
  t64 := Try.underlying147
  a64 := Try.isAgg147
  z64 := Try.sizeOf147
  v64 := Try.zeroValue147 }
end Go.Proofs

/- slices.Sorted of a map's keys: the keys, rising, in new memory. -/
namespace Go.Proofs
open Go.RowKit Sc Go.Maps Go.WideShapes Go.Sort Go.Shelf

def rUnit : Value → Option (DataW Unit × List MemPlace) := fun _ => some (.nil, [])
theorem owns_of {P : Program} {w : World} {k : TypeId} {r : Nat} {m : List (Int × Value)} (hk : P.underlying k = some (.int .i64)) (h : MapIs w r m) (hi : ∀ x ∈ m, I64 x.1) (hm : m.length ≤ maxLen) :
    ∃ D : DataW Unit, w.ownsMap P k rUnit r m.length D ∧ (intKeys D).Perm (m.map (·.1)) ∧ Maps.size D = m.length := by
  obtain ⟨es, clock, hb, he, hn, hbo, hbn⟩ := h
  have hlen : es.size = m.length := by have := congrArg List.length he; simpa using this
  have hkey : ∀ x ∈ es.toList, ∃ n, x.key = .int .i64 n ∧ keyOf P k x.key = some (.int .i64 n) := by
    intro x hx
    obtain ⟨n, v, hmem, hxk, _⟩ := keys_of he x hx
    refine ⟨n, hxk, ?_⟩
    rw [hxk]
    exact keyOf_int_mk hk (WalkArith.wf_i64 (hi (n, v) hmem))
  have hrd : ∀ x ∈ es.toList, ∃ n, x.key = .int .i64 n ∧ Go.WideElems.rd P k rUnit x = some (.int .i64 n, .nil) := by
    intro x hx
    obtain ⟨n, h1, h2⟩ := hkey x hx
    exact ⟨n, h1, by simp [Go.WideElems.rd, h2, rUnit]⟩
  have hmap : (es.toList.map (Go.WideElems.rg P k rUnit)).map (fun p => Go.intOf p.1) = m.map (·.1) := by
    have : ∀ x ∈ es.toList, Go.intOf (Go.WideElems.rg P k rUnit x).1 = intOf x.key := by
      intro x hx
      obtain ⟨n, h1, h2⟩ := hrd x hx
      rw [Go.WideElems.rg_of h2, h1]; rfl
    rw [List.map_map, show es.toList.map ((fun p : Lit × DataW Unit => Go.intOf p.1) ∘ Go.WideElems.rg P k rUnit) = es.toList.map (fun x => intOf x.key) from List.map_congr_left this]
    have h2 := congrArg (List.map (fun y : Value × Value => intOf y.1)) he
    simp only [List.map_map] at h2
    have e1 : es.toList.map (fun x => intOf x.key) = es.toList.map ((fun y : Value × Value => intOf y.1) ∘ ent) := rfl
    have e2 : m.map (·.1) = m.map ((fun y : Value × Value => intOf y.1) ∘ pr) := rfl
    rw [e1, e2]; exact h2
  refine ⟨_, ⟨es, clock, hb, ⟨by omega, ⟨hbo, hbn, ?_⟩, fun x hx => ?_⟩, by omega, rfl⟩, ?_, ?_⟩
  · have h2 := congrArg (List.map Prod.fst) he
    simp only [List.map_map] at h2
    have e1 : es.toList.map (·.key) = es.toList.map (Prod.fst ∘ ent) := rfl
    rw [e1, h2]
    have e2 : m.map (Prod.fst ∘ pr) = (m.map (·.1)).map (Value.int .i64) := by rw [List.map_map]; rfl
    rw [e2]
    exact List.Pairwise.map _ (fun a b hab e => hab (by cases e; rfl)) hn
  · obtain ⟨n, _, h2⟩ := hrd x hx
    exact ⟨_, h2⟩
  · show (((es.toList.map (Go.WideElems.rg P k rUnit)).foldr DataW.insert []).map fun p => Go.intOf p.1).Perm _
    have := (sorted_perm (es.toList.map (Go.WideElems.rg P k rUnit))).map (fun p => Go.intOf p.1)
    rw [hmap] at this
    exact this
  · show ((es.toList.map (Go.WideElems.rg P k rUnit)).foldr DataW.insert []).length = _
    rw [(sorted_perm _).length_eq]; simpa using hlen

/-- slices.Sort's contracts, at the fence that asks nothing. -/
theorem sortsIn (n : Nat) : AnyZI.SortsIn Try.prog Try.sortedA_ren Fence.wide n :=
  ⟨fun blk off cap ss W hH hblk hsz => callsIn_wide.2 (AnyM.slices_Sort_int Try.sortA blk off cap ss W hH hblk hsz),
   fun p cap W => callsIn_wide.2 (AnyM.slices_Sort_int_none Try.sortA p cap W)⟩

/-- The keys, rising. -/
def keysUp (m : List Int) : List Int := m.mergeSort (fun x y => decide (x ≤ y))
def SortedKeys (ks : List Int) (w : World) (e : Ending) (w' : World) : Prop :=
  ∃ v, e = .returned v ∧ w'.ownsRow w.heap.size 3 1 v ks.length ((keysUp ks).map (Value.int .i64)) ∧ Below w.heap.size w w'

theorem keysUp_perm {a b : List Int} (h : a.Perm b) : keysUp a = keysUp b := by
  unfold keysUp
  have ht : ∀ (a b c : Int), decide (a ≤ b) = true → decide (b ≤ c) = true → decide (a ≤ c) = true := fun a b c h1 h2 => by simp only [decide_eq_true_eq] at *; omega
  have hto : ∀ (a b : Int), (decide (a ≤ b) || decide (b ≤ a)) = true := fun a b => by simp only [Bool.or_eq_true, decide_eq_true_eq]; omega
  refine List.Perm.eq_of_pairwise (le := fun x y : Int => x ≤ y) (fun x y _ _ h1 h2 => by omega) ?_ ?_ ?_
  · exact (List.pairwise_mergeSort ht hto a).imp (fun h => by simpa using h)
  · exact (List.pairwise_mergeSort ht hto b).imp (fun h => by simpa using h)
  · exact ((List.mergeSort_perm _ _).trans h).trans (List.mergeSort_perm _ _).symm

theorem keysDat_any (r : Nat) (W : World) :
    Calls Try.prog 53 #[.map (some r)] W fun e w' => e = .returned (.func (.func 71) #[] #[.pointer (some ⟨W.heap.size, 0, none⟩)]) ∧ W.alloc (.cells #[.map (some r)] 80) = w' := by
  go_enter Try.func53, Try.ntmps53
  go_wp2
  go_ret
  exact ⟨rfl, rfl⟩

set_option maxHeartbeats 1000000 in
theorem sortedDat_any (r bx : Nat) (m : List (Int × Value)) (w : World) (h : MapIs w r m) (hi : ∀ x ∈ m, I64 x.1) (hm : m.length ≤ 1000000) (hbl : bx < w.heap.size) (hbx : w.cell? ⟨bx, 0, none⟩ = some (.map (some r))) :
    Calls Try.prog 52 #[.func (.func 71) #[] #[.pointer (some ⟨bx, 0, none⟩)]] w (SortedKeys (m.map (·.1)) w) := by
  refine (callsIn_wide (n := 5)).1 ?_
  obtain ⟨D, hown, hperm, hsize⟩ := owns_of (P := Try.prog) Try.underlying3 h hi (by unfold maxLen; omega)
  have hseq : SeqGives Fence.wide 2 Try.prog 71 #[.pointer (some ⟨bx, 0, none⟩)] encZ (fun ss => ss.Perm (intKeys D)) (Maps.size D) w :=
    AnyZI.keys_gives (ρ := Try.keys53_ren) { Try.keys53 with } Fence.wide _ trivial rfl (by omega) bx r m.length D w hbl hbx hown
  have cS := AnyZI.sorted_in Try.sortedA Fence.wide 5 trivial trivial trivial trivial rfl (by omega) (sortsIn _) (enters_of Try.func70 (by kernel_rfl) rfl) 71 #[.pointer (some ⟨bx, 0, none⟩)] trivial (enters_of Try.func71 (by kernel_rfl) rfl) _ _ (by rw [hsize]; unfold maxLen; omega) (by rw [hsize]; omega) _ hseq
  change CallsIn _ _ Try.prog 52 _ _ _ at cS
  refine cS.mono ?_
  rintro e w' ⟨v, ss, rfl, hS, hrow, hnil, hb⟩
  have hp := hS.trans hperm
  have hu := keysUp_perm hp
  refine ⟨v, rfl, ?_, hb⟩
  rw [← hu, ← hp.length_eq]
  exact hrow







end Go.Proofs

/- Package model: All: what an M holds, by rising LBA. -/
namespace Go.Proofs
open Go.RowKit Sc

/-- What is there, by rising keys. -/
def allPuts (s : List (Int × Bytes)) : List Put := (keysUp (s.map (·.1))).map fun k => ⟨k, (alook s k).getD []⟩
def AllSaidW (s : List (Int × Bytes)) (w : World) (e : Ending) (w' : World) : Prop := ∃ v, e = .returned v ∧ PutsW (New w w') w' v (allPuts s) ∧ Below w.heap.size w w'
def AllSaid (s : List (Int × Bytes)) (w : World) (e : Ending) (w' : World) : Prop := ∃ v, e = .returned v ∧ PutsAt (New w w') w' v (allPuts s) ∧ Below w.heap.size w w'

set_option maxRecDepth 100000 in
set_option maxHeartbeats 1000000 in
theorem modelAll_w (F : Nat → Prop) (v : Value) (n : Int) (s : List (Int × Bytes)) (w : World) (hm : ModelIs F w v n s) (hi : ∀ x ∈ s, I64 x.1) (hl : s.length ≤ 1000000) (h40 : ∀ x ∈ s, x.2.length ≤ 1000000) :
    Calls Try.prog 26 #[v] w (AllSaidW s w) := by
  obtain ⟨⟨b, r, ml, rfl, h2, h3, h4, h5, h6⟩, hd⟩ := hm
  have hc1 : w.cell? ⟨b, 1, none⟩ = some (.map (some r)) := by rw [cell_row h4]; rfl
  obtain ⟨i0, hp0, hp1, hp2, hp3⟩ := info_parts infoPut
  have hkeys := AL.keys h6
  have hmlen : ml.length = s.length := All2.length h6
  have H5 := Lib.hid h5
  have H6 := Lib.hid h6
  have HK := Lib.hid hkeys
  have HI := Lib.hid hi
  have H40 := Lib.hid h40
  have HL := Lib.hid hl
  have HML := Lib.hid hmlen
  clear h4 h5 h6 hkeys hi h40 hl hmlen
  go_enter Try.func26, Try.ntmps26
  go_wp2_with fail
  refine (keysDat_any r _).mono ?_
  rintro e w1 ⟨rfl, rfl⟩
  go_wp2_with fail
  refine (sortedDat_any r w.heap.size ml _ (H5.out.alloc _) (fun x hx => ?_) (by have := HL.out; have := HML.out; omega) (by simp) (by go_simp)).mono ?_
  · have : x.1 ∈ s.map (·.1) := by rw [← HK.out]; exact List.mem_map.2 ⟨x, hx, rfl⟩
    obtain ⟨y, hy, he⟩ := List.mem_map.1 this
    rw [← he]; exact HI.out y hy
  rintro e w2 ⟨kv, rfl, hrow, hb2⟩
  rw [HK.out] at hrow
  have hlen : (keysUp (s.map (·.1))).length = (s.map (·.1)).length := (List.mergeSort_perm _ _).length_eq
  rw [List.length_map] at hlen hrow
  have HLEN := Lib.hid hlen
  have HROW := Lib.hid hrow
  have hb02 := Below.up (below_alloc w _) hb2
  have HB02 := Lib.hid hb02
  clear hb2 hlen
  have hki : ∀ x ∈ keysUp (s.map (·.1)), I64 x ∧ x ∈ s.map (·.1) := by
    intro x hx
    have hx' : x ∈ s.map (·.1) := (List.mergeSort_perm _ _).subset hx
    obtain ⟨y, hy, he⟩ := List.mem_map.1 hx'
    exact ⟨by rw [← he]; exact HI.out y hy, hx'⟩
  have HKI := Lib.hid hki
  have hints := intsAt_own (fun _ => True) HLEN.out (fun x hx => (hki x hx).1) (fun _ _ _ => trivial) HROW.out
  obtain ⟨kp, kc, rfl, hk1, hk2, hk3, hk4⟩ := hints
  rw [HLEN.out] at hk1 ⊢
  have HK4 := Lib.hid hk4
  have hbl := (World.block_lt_of_cell? w _ hc1 : b < w.heap.size)
  have hc12 := cell_up hb02 hc1
  have HAL := Lib.hid (show (allPuts s).length = s.length by unfold allPuts; rw [List.length_map]; exact HLEN.out)
  clear hk3 hk4 hki hrow hb02
  go_wp2_with fail
  go_loopw [2, 14] (fun out i wr => ∃ k : Nat, ∃ D, k ≤ s.length ∧ i = .int .i64 k ∧ Hid (OutS 39 2 putRW w2.heap.size wr out ((allPuts s).take k) D) ∧ Below w2.heap.size w2 wr) (fun _ i _ => s.length - (intOf i).toNat)
  case atStart => exact ⟨0, _, by omega, rfl, OutS.nil, Below.refl _ _⟩
  case round =>
    obtain ⟨k, D, hk, rfl, hout, hbk⟩ := hrel
    by_cases hlt : k < s.length
    · obtain ⟨g, o, rfl, _, hck, _⟩ := HK4.out k (by rw [HLEN.out]; exact hlt)
      rw [Nat.mul_one] at hck
      have hckr := cell_up hbk hck
      have hc1r := cell_up hbk hc12
      have hmem := (HKI.out _ (List.getElem_mem (show k < (keysUp (s.map (·.1))).length by rw [HLEN.out]; exact hlt)))
      have htk : (allPuts s).take (k + 1) = (allPuts s).take k ++ [⟨(keysUp (s.map (·.1)))[k]'(by rw [HLEN.out]; exact hlt), (alook s ((keysUp (s.map (·.1)))[k]'(by rw [HLEN.out]; exact hlt))).getD []⟩] := by
        rw [take_snoc _ k (by rw [HAL.out]; exact hlt)]
        simp [allPuts]
      have hbwr := Below.up HB02.out hbk
      have hmr := H5.out.up hbwr
      generalize (keysUp (s.map (·.1)))[k]'(by rw [HLEN.out]; exact hlt) = key at hckr hmem htk
      have hlk := hmr.lookup (P := Try.prog) Try.underlying80 Try.underlying3 (Try.zeroValue35 _) key false
      have hdat : ∃ dv d, alook ml key = some dv ∧ alook s key = some d ∧ BytesAt F w dv d := by
        rcases H6.out.look key with ⟨h, _⟩ | h
        · exfalso
          rw [← HK.out] at hmem
          obtain ⟨x, hx, he⟩ := List.mem_map.1 hmem.2
          exact alook_none.1 h x hx he
        · exact h
      obtain ⟨dv, d, hd1, hd2, hd3⟩ := hdat
      rw [hd1] at hlk
      rw [hd2] at htk
      simp only [Option.getD_some, Bool.false_eq_true, if_false] at hlk htk
      have hdl : d.length ≤ 1000000 := by
        exact H40.out _ (alook_in hd2)
      obtain ⟨dp, dc, rfl⟩ := shape_of hd3 rfl
      have HD3 := Lib.hid (hd3.up hbwr)
      have hmem' := hmem.1
      have HTK := Lib.hid htk
      have HDL := Lib.hid hdl
      have HBK := Lib.hid hbk
      have HOUT := hout
      have hzr := hbk.size
      clear hdl htk hd1 hd2 hd3 hmr hbwr hbk hout hck hmem
      go_wp2_with fail
      refine (clone_w F _ d _ HD3.out HDL.out).mono ?_
      rintro e w3 ⟨v3, rfl, hnv, hb3⟩
      obtain ⟨np, nc, rfl⟩ := shape_of hnv.bytes rfl
      have hzw3 := hb3.size
      have hownlt : ∀ q, Value.ownBlock u2 = some q → w2.heap.size ≤ q ∧ q < wr.heap.size := by obtain ⟨xs, hx⟩ := HOUT.out.own; exact fun q hq => hx.lt q hq
      obtain ⟨css, q1, q2, q3, q4, q5⟩ := (HOUT.out.up putRW_stable hb3).up putRW_stable (below_alloc w3 (.cells #[.int .i64 key, .slice np d.length nc] 39))
      have Q2 := Lib.hid q2
      have Q4 := Lib.hid q4
      have Q5 := Lib.hid q5
      have Q1 := Lib.hid q1
      have HOL := Lib.hid hownlt
      have HNV := Lib.hid hnv
      have HB3 := Lib.hid hb3
      clear q2 q4 q5 q1 hnv hb3 hownlt
      generalize hll : ((allPuts s).take k).length = ll at q3
      have HLL := Lib.hid hll
      have hll2 : ll ≤ 1000000 := by have := HL.out; rw [← hll, List.length_take, HAL.out]; omega
      have HLL2 := Lib.hid hll2
      clear hll hll2
      go_wp2_with (at_builtin; refine wpList_append_lies _ rfl _ _ 23 rfl w2.heap.size 39 i0 (.agg #[.int .i64 0, .slice none 0 0]) 2 32 Try.underlying23 hp0 hp1 hp2 hp3 rfl (by decide) _ ll css.flatten rfl q3 ⟨w3.heap.size, 0, none⟩ 1 1 [.int .i64 key, .slice np d.length nc] rfl rfl (World.news_of_block (cs := #[.int .i64 key, .slice np d.length nc]) (heap_alloc_new w3 _)) (by simp [Value.oneCell']) (by decide) (by have := HLL2.out; unfold maxLen; omega) (by have := HLL2.out; omega) (by simp; omega) (w3.heap.size + 1) (by simp) ?_; intro gg cap w5 hown5 hgrow5 hat5 hlt5)
      go_roundw
      case rel =>
        refine ⟨k + 1, fun b => D b ∨ New wr w3 b, by omega, by go_num, ?_, ?_⟩
        · unfold Hid
          rw [HTK.out]
          have hll := HLL.out
          subst hll
          have hg : w3.heap.size + 1 = (w3.alloc (.cells #[.int .i64 key, .slice np d.length nc] 39)).heap.size := by simp
          refine OutS.snoc (v := u2) (D3 := New wr w3) putRW_stable Q1.out Q2.out Q4.out Q5.out (cs := [.int .i64 key, .slice np d.length nc]) (x := ⟨key, d⟩) rfl ⟨_, rfl, hmem', HNV.out.up (below_alloc _ _)⟩ (fun q hq => ?_) hown5 hgrow5 (hg ▸ hat5)
          have h1 := hq.1
          have h2 := hq.2
          exact ⟨by omega, by simp; omega, fun e => by have := (HOL.out q e).2; omega⟩
        · have hb1 : Below w2.heap.size w2 (w3.alloc (.cells #[.int .i64 key, .slice np d.length nc] 39)) := (HBK.out.trans (HB3.out.mono (by omega))).trans ((below_alloc _ _).mono (by omega))
          exact hb1.grown hgrow5 (by simp; omega) (fun q hq => (HOL.out q hq).1)
      case measure => simp [intOf]; omega
    · have hkl : k = s.length := by omega
      have HK2 := Lib.hid hkl
      have HBK := Lib.hid hbk
      clear hkl hbk
      go_wp2_with fail
      go_ret
      refine ⟨u2, rfl, ?_, Below.up HB02.out HBK.out⟩
      have h := hout.out
      rw [HK2.out, ← HAL.out, List.take_length] at h
      exact h.putsW fun q h1 h2 => ⟨by have := HB02.out.size; omega, h2⟩
theorem modelAll_any (F : Nat → Prop) (v : Value) (n : Int) (s : List (Int × Bytes)) (w : World) (hm : ModelIs F w v n s) (hi : ∀ x ∈ s, I64 x.1) (hl : s.length ≤ 1000000) (h40 : ∀ x ∈ s, x.2.length ≤ 1000000) :
    Calls Try.prog 26 #[v] w (AllSaid s w) := (modelAll_w F v n s w hm hi hl h40).mono fun _ _ ⟨v, h1, h2, h3⟩ => ⟨v, h1, h2.puts, h3⟩
end Go.Proofs

/- Package scarpref20: All. -/
namespace Go.Proofs
open Go.RowKit Sc

def refOne (ls : List Bytes) (i : Nat) : Option Put := if zero40 (ls.getD i []) then none else some ⟨i, ls.getD i []⟩
def refAllTo (ls : List Bytes) (k : Nat) : List Put := (List.range k).filterMap (refOne ls)
theorem refAllTo_succ (ls : List Bytes) (k : Nat) : refAllTo ls (k + 1) = refAllTo ls k ++ (refOne ls k).toList := by
  unfold refAllTo
  rw [List.range_succ, List.filterMap_append]
  cases h : refOne ls k <;> simp [h]
theorem refAllTo_le (ls : List Bytes) (k : Nat) : (refAllTo ls k).length ≤ k := by
  induction k with
  | zero => simp [refAllTo]
  | succ k ih =>
    rw [refAllTo_succ, List.length_append]
    cases refOne ls k <;> simp <;> omega

set_option maxRecDepth 100000 in
set_option maxHeartbeats 1000000 in
theorem refAll_any (F : Nat → Prop) (v : Value) (ls : List Bytes) (w : World) (hm : RefIs F w v ls) (hd : Dom F w) (hls : ls.length ≤ 1000000) :
    Calls Try.prog 31 #[v] w fun e w' => ∃ v', e = .returned v' ∧ PutsAt (Old w') w' v' (refAllTo ls ls.length) ∧ Below w.heap.size w w' := by
  obtain ⟨b, g, c, vs, rfl, h2, h3, h4, h5, h6⟩ := hm
  obtain ⟨i0, hp0, hp1, hp2, hp3⟩ := info_parts infoPut
  have hc0 : w.cell? ⟨b, 0, none⟩ = some (.slice (some ⟨g, 0, none⟩) ls.length c) := by rw [cell_row h4]; rfl
  have H4 := Lib.hid h4
  have H5 := Lib.hid h5
  have H6 := Lib.hid h6
  clear h4 h5 h6
  go_enter Try.func31, Try.ntmps31
  go_wp2_with fail
  go_loopw [3, 4] (fun out i wr => ∃ k : Nat, k ≤ ls.length ∧ i = .int .i64 k ∧ Hid (OutS 39 2 putR 0 wr out (refAllTo ls k) (fun q => F q ∧ q < w.heap.size)) ∧ (∀ q, out.ownBlock = some q → w.heap.size ≤ q) ∧ Below w.heap.size w wr) (fun _ i _ => ls.length - (intOf i).toNat)
  case atStart => exact ⟨0, by omega, rfl, by
    obtain ⟨css, a1, a2, a3, a4, a5⟩ := (OutS.nil (T := 39) (k := 2) (R := putR) (B := 0) (w := w))
    exact ⟨css, a1, a2, a3, fun i h h' => absurd h' (by simp [refAllTo]), fun q hq => ⟨Nat.zero_le _, hq.2, by simp [Value.ownBlock]⟩⟩, fun q hq => by simp [Value.ownBlock] at hq, Below.refl _ _⟩
  case round =>
    obtain ⟨k, hk, rfl, HO, hob, hbk⟩ := hrel
    have e0 := cell_up hbk hc0
    by_cases hlt : k < ls.length
    · obtain ⟨dv, hdv, hdb⟩ := all2_at H6.out k hlt
      have hrow : w.cell? ⟨g, k, none⟩ = some dv := by rw [H5.out.cellAt k (by omega)]; exact hdv
      have hrow' := cell_up hbk hrow
      have hgd : ls.getD k [] = ls[k] := by simp [List.getD, hlt]
      have hsucc := refAllTo_succ ls k
      have hone : refOne ls k = if zero40 ls[k] then none else some ⟨k, ls[k]⟩ := by unfold refOne; rw [hgd]
      generalize ls[k] = d at hdb hone
      have hdb' := BytesAt.up hdb hbk
      obtain ⟨dp, dc, rfl⟩ := shape_of hdb rfl
      have HDB := Lib.hid hdb
      have HDB' := Lib.hid hdb'
      have HSUCC := Lib.hid hsucc
      have HONE := Lib.hid hone
      have HOB := Lib.hid hob
      clear hdb hdb' hsucc hone hob
      clear hdv hrow hgd
      go_wp2_with fail
      refine (blank_any _ _ d _ HDB'.out).mono ?_
      rintro e w' ⟨rfl, rfl⟩
      have hz : (d.all fun x => x == 0) = zero40 d := rfl
      rw [hz]
      clear hz
      cases hq : zero40 d with
      | true =>
        have HQ := Lib.hid hq
        clear hq
        go_wp2_with fail
        go_roundw
        case rel =>
          refine ⟨k + 1, by omega, by go_num, ?_, HOB.out, hbk⟩
          unfold Hid
          rw [HSUCC.out, HONE.out, if_pos HQ.out]
          simpa using HO.out
        case measure => simp [intOf]; omega
      | false =>
        have HQ := Lib.hid hq
        clear hq
        have hll2 := refAllTo_le ls k
        obtain ⟨css, q1, q2, q3, q4, q5⟩ := HO.out.up putR_stable (below_alloc wr (.cells #[.int .i64 (k : Int), .slice dp d.length dc] 39))
        generalize hll : (refAllTo ls k).length = ll at q3 hll2
        have HQ1 := Lib.hid q1
        have HQ2 := Lib.hid q2
        have HQ4 := Lib.hid q4
        have HQ5 := Lib.hid q5
        have HLL := Lib.hid hll
        have HLL2 := Lib.hid hll2
        clear q1 q2 q4 q5 hll hll2
        go_wp2_with (at_builtin; refine wpList_append_lies _ rfl _ _ 23 rfl 0 39 i0 (.agg #[.int .i64 0, .slice none 0 0]) 2 32 Try.underlying23 hp0 hp1 hp2 hp3 rfl (by decide) _ ll css.flatten rfl q3 ⟨wr.heap.size, 0, none⟩ 1 1 [.int .i64 (k : Int), .slice dp d.length dc] rfl rfl (World.news_of_block (cs := #[.int .i64 (k : Int), .slice dp d.length dc]) (heap_alloc_new wr _)) (by simp [Value.oneCell']) (by decide) (by have := HLL2.out; unfold maxLen; omega) (by have := HLL2.out; omega) (Nat.zero_le _) (wr.heap.size + 1) (by simp) ?_; intro gg cap w5 hown5 hgrow5 hat5 hlt5)
        have hz0 := hbk.size
        have hb5 : Below w.heap.size w w5 := ((hbk.alloc hz0 _)).grown hgrow5 (by simp; omega) (fun q hq => HOB.out q hq)
        go_roundw
        case rel =>
          refine ⟨k + 1, by omega, by go_num, ?_, fun q hq => ?_, hb5⟩
          · unfold Hid
            rw [HSUCC.out, HONE.out, if_neg (by rw [HQ.out]; decide)]
            have hll := HLL.out
            subst hll
            have hg : wr.heap.size + 1 = (wr.alloc (.cells #[.int .i64 (k : Int), .slice dp d.length dc] 39)).heap.size := by simp
            have := OutS.snoc (v := u3) (D3 := fun q => F q ∧ q < w.heap.size) putR_stable HQ1.out HQ2.out HQ4.out HQ5.out (cs := [.int .i64 (k : Int), .slice dp d.length dc]) (x := ⟨(k : Int), d⟩) rfl ⟨_, rfl, by unfold I64; simp only; omega, ((BytesAt.up HDB'.out (below_alloc _ _)).mono fun q hq => ⟨hq.1, hd q hq.1⟩)⟩ (fun q hq => ⟨Nat.zero_le _, by simp; omega, fun e => by have := HOB.out q e; omega⟩) hown5 hgrow5 (hg ▸ hat5)
            obtain ⟨css', a1, a2, a3, a4, a5⟩ := this
            exact ⟨css', a1, a2, a3, fun i h h' => putR_stable _ _ _ _ _ _ (fun q hq => hq.elim id id) (Same.refl _ _) (a4 i h h'), fun q hq => a5 q (.inl hq)⟩
          · simp [Value.ownBlock] at hq
            subst hq
            rcases hat5 with h | h
            · exact HOB.out _ h
            · omega
        case measure => simp [intOf]; omega
    · have hkl : k = ls.length := by omega
      subst hkl
      go_wp2_with fail
      go_ret
      exact ⟨_, rfl, HO.out.puts fun q _ h2 => h2, hbk⟩
end Go.Proofs

/- A range over a map whose keys are ints: what is left to come; of whatever program. -/
namespace Sc
open Go Go.RowKit Go.ChangeMaps Go.ChangeShapes Go.WideShapes Go.MapKept

def unp (x : MapEntry) : Int × Value := (Go.RowKit.intOf x.key, x.val)

/-- An iterator has stepped, or the like: no cell has turned. -/
structure Stepped (it : Nat) (w w' : World) : Prop where
  os : w'.os = w.os
  tape : w'.tape = w.tape
  output : w'.output = w.output
  size : w'.heap.size = w.heap.size
  block : ∀ k, k ≠ it → w'.heap[k]? = w.heap[k]?
  cell : ∀ a, w'.cell? a = w.cell? a
  frozen : ∀ a, w'.frozen? a = w.frozen? a
theorem Stepped.chg {r : Nat} {w w' : World} (h : Stepped r w w') {S : Nat → Prop} (hr : S r) : Chg S w w' :=
  ⟨h.os, h.tape, h.output, by rw [h.size]; exact Nat.le_refl _, fun k _ hk => h.block k (fun e => hk (e ▸ hr))⟩
theorem Stepped.below {r B : Nat} {w w' : World} (h : Stepped r w w') (hr : B ≤ r) : Below B w w' :=
  ⟨h.os, h.tape, h.output, by rw [h.size]; exact Nat.le_refl _, fun k hk => h.block k (by omega)⟩

def Ranges (w : World) (it r : Nat) (m left : List (Int × Value)) : Prop :=
  ∃ es clock seen, w.heap[r]? = some (.map es clock) ∧ es.toList.map ent = m.map pr ∧ (m.map (·.1)).Nodup ∧ (∀ x ∈ es.toList, x.born < clock) ∧ (es.toList.map (·.born)).Nodup ∧
    w.heap[it]? = some (.mapIter (some r) clock seen clock) ∧ left = (leftOf es seen).toList.map unp
theorem Ranges.mapIs {w : World} {it r : Nat} {m left : List (Int × Value)} (h : Ranges w it r m left) : MapIs w r m :=
  let ⟨es, c, _, h1, h2, h3, h4, h5, _⟩ := h; ⟨es, c, h1, h2, h3, h4, h5⟩
theorem Ranges.same {w w' : World} {it r : Nat} {m left : List (Int × Value)} (h : Ranges w it r m left) (h1 : w'.heap[r]? = w.heap[r]?) (h2 : w'.heap[it]? = w.heap[it]?) : Ranges w' it r m left :=
  let ⟨es, c, sn, a1, a2, a3, a4, a5, a6, a7⟩ := h; ⟨es, c, sn, h1.trans a1, a2, a3, a4, a5, h2.trans a6, a7⟩
theorem Ranges.lt {w : World} {it r : Nat} {m left : List (Int × Value)} (h : Ranges w it r m left) : it < w.heap.size := by
  obtain ⟨es, c, sn, a1, a2, a3, a4, a5, a6, a7⟩ := h
  exact (Array.getElem?_eq_some_iff.1 a6).1
theorem Ranges.up {w w' : World} {it r : Nat} {m left : List (Int × Value)} (h : Ranges w it r m left) (hb : Below w.heap.size w w') : Ranges w' it r m left :=
  h.same (hb.block r h.mapIs.lt) (hb.block it h.lt)

theorem ent_unp {es : List MapEntry} {m : List (Int × Value)} (h : es.map ent = m.map pr) : es.map unp = m := by
  induction es generalizing m with
  | nil => cases m with
    | nil => rfl
    | cons a t => simp at h
  | cons x t ih => cases m with
    | nil => simp at h
    | cons a l =>
      simp only [List.map_cons, List.cons.injEq] at h
      rw [List.map_cons, ih h.2]
      congr 1
      have h1 := h.1
      simp only [ent, pr, Prod.mk.injEq] at h1
      obtain ⟨a1, a2⟩ := a
      simp only [unp, h1.1, h1.2, Go.RowKit.intOf]
theorem ent_of_unp {es : List MapEntry} {m : List (Int × Value)} (h : es.map ent = m.map pr) {x : MapEntry} (hx : x ∈ es) : x.key = .int .i64 (unp x).1 ∧ x.val = (unp x).2 ∧ unp x ∈ m := by
  obtain ⟨n, v, hm, hk, hv⟩ := keys_of h x hx
  refine ⟨by simp [unp, hk, Go.RowKit.intOf], rfl, ?_⟩
  have : unp x = (n, v) := by simp [unp, hk, hv, Go.RowKit.intOf]
  rw [this]; exact hm

theorem filter_perm {l : List MapEntry} (hn : (l.map (·.born)).Nodup) {e : MapEntry} (he : e ∈ l) : l.Perm (e :: l.filter (fun x => !(x.born == e.born))) := by
  induction l with
  | nil => cases he
  | cons a t ih =>
    simp only [List.map_cons, List.nodup_cons] at hn
    by_cases hae : a = e
    · subst hae
      have hf : t.filter (fun x => !(x.born == a.born)) = t := by
        rw [List.filter_eq_self]
        intro x hx
        have : x.born ≠ a.born := fun e => hn.1 (List.mem_map.2 ⟨x, hx, e⟩)
        simpa using this
      simp [hf]
    · have ht : e ∈ t := by
        rcases List.mem_cons.1 he with h | h
        · exact absurd h.symm hae
        · exact h
      have hb : a.born ≠ e.born := fun h => hn.1 (List.mem_map.2 ⟨e, ht, h.symm⟩)
      have hb' : (!(a.born == e.born)) = true := by simpa using hb
      rw [List.filter_cons, if_pos hb']
      exact ((ih hn.2 ht).cons a).trans (List.Perm.swap e a _)

theorem sb_same {w : World} {b : Nat} {o : Obj} (h : b < w.heap.size) : (setBlock w b o).heap[b]? = some o := by simp [setBlock, h]
theorem sb_other {w : World} {b q : Nat} {o : Obj} (h : q ≠ b) : (setBlock w b o).heap[q]? = w.heap[q]? := by
  have h' : ¬ b = q := fun e => h e.symm
  simp [setBlock, h']
section
variable {P : Program} {w : World} {t k e : TypeId} {it r : Nat} {m left : List (Int × Value)}

/-- 'for .. range m': the iterator. -/
theorem MapIs.range (h : MapIs w r m) (ht : P.underlying t = some (.map k e)) :
    ∃ o, (Instr.range t (.map (some r))).run P w = .ok (.pointer (some ⟨w.heap.size, 0, none⟩)) (w.alloc o) ∧ Ranges (w.alloc o) w.heap.size r m m := by
  obtain ⟨es, clock, hb, hm, hn, hbo, hbn⟩ := h
  have hrl := (Array.getElem?_eq_some_iff.1 hb).1
  refine ⟨_, run_range_map w t k e r es clock ht hb, es, clock, #[], by rw [heap_old hrl]; exact hb, hm, hn, hbo, hbn, heap_new rfl, ?_⟩
  have : leftOf es #[] = es := by unfold leftOf; simp
  rw [this, ent_unp hm]

theorem Ranges.next (h : Ranges w it r m left) (ty : TypeId) :
    (left = [] ∧ (Instr.next (.pointer (some ⟨it, 0, none⟩)) false ty).run P w = .ok (.tuple #[.bool false]) w) ∨
    ∃ n v left' w', left.Perm ((n, v) :: left') ∧ (n, v) ∈ m ∧ (Instr.next (.pointer (some ⟨it, 0, none⟩)) false ty).run P w = .ok (.tuple #[.bool true, .int .i64 n, v]) w' ∧
      (Instr.entry (.pointer (some ⟨it, 0, none⟩))).run P w' = .ok (.tuple #[.int .i64 n, v]) w' ∧ Ranges w' it r m left' ∧ Stepped it w w' := by
  obtain ⟨es, clock, seen, hb, hm, hn, hbo, hbn, hit, rfl⟩ := h
  rcases run_next_at (P := P) w ty it r clock clock seen es clock hit hb hbo (Nat.le_refl _) with ⟨h0, hrun⟩ | ⟨x, hx, w1, hw1, hrun⟩
  · left
    have : leftOf es seen = #[] := Array.eq_empty_of_size_eq_zero h0
    rw [this]
    exact ⟨rfl, hrun⟩
  · right
    have hxe : x ∈ es.toList := by unfold leftOf at hx; simp at hx ⊢; exact hx.1
    obtain ⟨hk, hv, hmem⟩ := ent_of_unp hm hxe
    have hne : it ≠ r := by intro e; rw [e, hb] at hit; cases hit
    have h1 : w1.heap = w.heap := by rcases hw1 with rfl | rfl <;> rfl
    have hit1 : w1.heap[it]? = some (.mapIter (some r) clock seen clock) := by rw [h1]; exact hit
    have hb2 : (setBlock w1 it (.mapIter (some r) clock (seen.push x.born) clock)).heap[r]? = some (.map es clock) := by
      rw [sb_other (fun e => hne e.symm), h1]; exact hb
    have hi2 : (setBlock w1 it (.mapIter (some r) clock (seen.push x.born) clock)).heap[it]? = some (.mapIter (some r) clock (seen.push x.born) clock) := sb_same (Array.getElem?_eq_some_iff.1 hit1).1
    rw [hk, hv] at hrun
    have hen := run_entry_at (P := P) _ it r clock seen es clock x hi2 hb2 hxe hbn
    rw [hk, hv] at hen
    have hoth : ∀ q, q ≠ it → (setBlock w1 it (.mapIter (some r) clock (seen.push x.born) clock)).heap[q]? = w.heap[q]? := fun q hq => by rw [sb_other hq, h1]
    refine ⟨(unp x).1, (unp x).2, (leftOf es (seen.push x.born)).toList.map unp, _, ?_, hmem, hrun, hen, ⟨es, clock, seen.push x.born, hb2, hm, hn, hbo, hbn, hi2, rfl⟩, ?_⟩
    · have hnd : ((leftOf es seen).toList.map (·.born)).Nodup := by
        unfold leftOf
        rw [Array.toList_filter]
        exact hbn.sublist (List.filter_sublist.map _)
      have hp := (filter_perm hnd hx).map unp
      have hf : (leftOf es seen).toList.filter (fun y => !(y.born == x.born)) = (leftOf es (seen.push x.born)).toList := by
        unfold leftOf
        rw [Array.toList_filter, Array.toList_filter, List.filter_filter]
        refine List.filter_congr fun y _ => ?_
        rw [Bool.eq_iff_iff]
        simp [Array.mem_push, and_comm]
      rw [hf] at hp
      exact hp
    · refine ⟨by rcases hw1 with rfl | rfl <;> rfl, by rcases hw1 with rfl | rfl <;> rfl, by rcases hw1 with rfl | rfl <;> rfl, by simp [setBlock, h1], hoth, fun a => ?_, fun a => ?_⟩
      · by_cases ha : a.block = it
        · simp [World.cell?, ha, hi2, hit]
        · exact World.cell?_of_block (hoth _ ha)
      · by_cases ha : a.block = it
        · simp [World.frozen?, ha, hi2, hit]
        · exact World.frozen?_of_block (hoth _ ha)
end
end Sc

/- Package model: Same: two Ms hold the same. -/
namespace Go.Proofs
open Go.RowKit Sc

set_option maxHeartbeats 400000 in
theorem equalB_any (G : Nat → Prop) (va vb : Value) (a b : Bytes) (w : World) (ha : BytesAt G w va a) (hb : BytesAt G w vb b) :
    Calls Try.prog 47 #[va, vb] w fun e w' => e = .returned (.bool (a == b)) ∧ Below w.heap.size w w' := by
  by_cases hlen : a.length = b.length
  case neg =>
    obtain ⟨pa, ca, rfl, ha1, ha2, _⟩ := ha
    obtain ⟨pb, cb, rfl, hb1, hb2, _⟩ := hb
    have hne : (((a.length : Nat) : Int) != ((b.length : Nat) : Int)) = true := by rw [bne_iff_ne]; omega
    have hne2 : (a == b) = false := by rw [beq_eq_false_iff_ne]; intro h; exact hlen (by rw [h])
    have H2 := Lib.hid hne2
    clear hne2
    go_enter Try.func47, Try.ntmps47
    go_wp2
    go_ret
    rw [H2.out]
    exact ⟨rfl, Below.refl _ _⟩
  case pos =>
    rcases ha.base with ⟨rfl, pa, ca, rfl, ha2, _⟩ | ⟨ba, oa, ca, rfl, ha0, ha1, ha2, _, ha4⟩
    · have hb0 : b = [] := List.length_eq_zero_iff.1 (by simpa using hlen.symm)
      subst hb0
      obtain ⟨pb, cb, rfl, _⟩ := hb
      go_enter Try.func47, Try.ntmps47
      go_wp2
      go_loop [13] (fun i => i = .int .i64 0) (fun _ => 0)
      case atStart => rfl
      case round =>
        subst hrel
        go_wp2
        go_ret
        exact ⟨rfl, Below.refl _ _⟩
    rcases hb.base with ⟨rfl, pb, cb, rfl, hb2, _⟩ | ⟨bb, ob, cb, rfl, hb0, hb1, hb2, _, hb4⟩
    · simp at hlen; subst hlen; simp at ha0
    have hcells : ∀ i, i < a.length → w.cell? ⟨ba, oa + i, none⟩ = some (.int .u8 ((a.getD i 0).toNat : Int)) ∧ w.cell? ⟨bb, ob + i, none⟩ = some (.int .u8 ((b.getD i 0).toNat : Int)) := by
      intro i hi
      have h1 := ha4 i hi
      have h2 := hb4 i (by omega)
      unfold byteE at h1 h2
      rw [Nat.mul_one] at h1 h2
      simp only [List.getD, List.getElem?_eq_getElem hi, List.getElem?_eq_getElem (show i < b.length by omega), Option.getD_some]
      exact ⟨h1, h2⟩
    clear ha4 hb4 ha hb
    have HL := Lib.hid hlen
    have heq : (((a.length : Nat) : Int) != ((b.length : Nat) : Int)) = false := by rw [bne_eq_false_iff_eq]; omega
    clear hlen
    go_enter Try.func47, Try.ntmps47
    go_wp2
    go_loopw [13] (fun i wr => ∃ k : Nat, k ≤ a.length ∧ i = .int .i64 k ∧ a.take k = b.take k ∧ Below w.heap.size w wr) (fun i _ => a.length - (intOf i).toNat)
    case atStart => exact ⟨0, by omega, rfl, rfl, Below.refl _ _⟩
    case round =>
      obtain ⟨k, hk, rfl, ht, hbw⟩ := hrel
      have HT := Lib.hid ht
      clear ht
      by_cases hlt : k < a.length
      · obtain ⟨h1, h2⟩ := hcells k hlt
        have h1' := (hbw.cell (p := ⟨ba, oa + k, none⟩) (World.block_lt_of_cell? w _ h1)).trans h1
        have h2' := (hbw.cell (p := ⟨bb, ob + k, none⟩) (World.block_lt_of_cell? w _ h2)).trans h2
        have hltb : k < b.length := by rw [← HL.out]; exact hlt
        have hta := take_snoc a k hlt
        have htb := take_snoc b k hltb
        have ga : a.getD k 0 = a[k] := by simp [List.getD, hlt]
        have gb : b.getD k 0 = b[k] := by simp [List.getD, hltb]
        rw [ga] at h1'
        rw [gb] at h2'
        have HA := Lib.hid hta
        have HB := Lib.hid htb
        generalize a[k] = x at h1' HA
        generalize b[k] = y at h2' HB
        have HC := Lib.hid hcells
        clear hta htb ga gb h1 h2 hcells
        by_cases hxy : x = y
        · subst hxy
          have hd : ((x.toNat : Int) != (x.toNat : Int)) = false := by simp
          go_wp2
          go_quiet (fail)
          go_wp2
          go_roundw
          case rel => exact ⟨k + 1, by omega, by go_num, by rw [HA.out, HB.out, HT.out], by exact below_drewN hbw _⟩
          case measure => simp [intOf]; omega
        · have hd : ((x.toNat : Int) != (y.toNat : Int)) = true := by rw [u8_ne, bne_iff_ne]; exact hxy
          have HX := Lib.hid hxy
          clear hxy
          go_wp2
          go_quiet (fail)
          go_wp2
          go_ret
          refine ⟨?_, ?_⟩
          · have : (a == b) = false := by
              rw [beq_eq_false_iff_ne]; intro h
              have h1 := HA.out; rw [h, HB.out] at h1
              have h2 := (List.append_inj' h1 rfl).2
              exact HX.out (by simpa using h2.symm)
            exact congrArg boolRet this.symm
          · exact below_drewN hbw _
      · have HK := Lib.hid (show k = a.length by omega)
        clear hcells
        go_wp2
        go_ret
        refine ⟨?_, hbw⟩
        have : (a == b) = true := by
          have h := HT.out
          rw [HK.out, List.take_length, HL.out, List.take_length] at h
          rw [h]; simp
        exact congrArg boolRet this.symm


/-- Do two hold the same? -/
def eqM (s1 s2 : List (Int × Bytes)) : Bool := decide (s1.length = s2.length) && s1.all (fun kd => alook s2 kd.1 == some kd.2)

set_option maxHeartbeats 1000000 in
theorem eqFunc_any (F1 F2 : Nat → Prop) (r1 r2 : Nat) (m1 m2 : List (Int × Value)) (s1 s2 : List (Int × Bytes)) (w : World) (h1 : MapIs w r1 m1) (h2 : MapIs w r2 m2) (a1 : AL (BytesAt F1 w) m1 s1) (a2 : AL (BytesAt F2 w) m2 s2) :
    Calls Try.prog 46 #[.map (some r1), .map (some r2), .func (.func 47) #[] #[]] w fun e w' => e = .returned (.bool (eqM s1 s2)) ∧ Below w.heap.size w w' := by
  have hl1 := h1.len (P := Try.prog) Try.underlying80 3
  have hl2 := h2.len (P := Try.prog) Try.underlying80 3
  have hs1 : m1.length = s1.length := All2.length a1
  have hs2 : m2.length = s2.length := All2.length a2
  by_cases hlen : m1.length = m2.length
  case neg =>
    have hne : (((m1.length : Nat) : Int) != ((m2.length : Nat) : Int)) = true := by rw [bne_iff_ne]; omega
    have hq : eqM s1 s2 = false := by unfold eqM; rw [decide_eq_false (by omega)]; rfl
    rw [hq]
    clear hs1 hs2 hq h1 h2 a1 a2
    go_enter Try.func46, Try.ntmps46
    go_wp2
    go_ret
    exact ⟨rfl, Below.refl _ _⟩
  case pos =>
    have hne : (((m1.length : Nat) : Int) != ((m2.length : Nat) : Int)) = false := by rw [bne_eq_false_iff_eq]; omega
    obtain ⟨o, hrg, hR⟩ := h1.range (P := Try.prog) Try.underlying80
    have HL := Lib.hid (show s1.length = s2.length by omega)
    have HM := Lib.hid hs1
    have H1 := Lib.hid h1
    have H2 := Lib.hid h2
    have A1 := Lib.hid a1
    have A2 := Lib.hid a2
    have HR := Lib.hid hR
    have hnd : (m1.map (·.1)).Nodup := by obtain ⟨_, _, _, _, h, _⟩ := h1; exact h
    have HND := Lib.hid hnd
    clear hs1 hs2 hlen h1 h2 a1 a2 hR hnd
    go_enter Try.func46, Try.ntmps46
    go_wp2
    go_loopg [18] m1.length (fun gg _ wr => ∃ left, left.length ≤ gg ∧ Ranges wr w.heap.size r1 m1 left ∧ Hid (Below w.heap.size w wr) ∧ Hid (∀ x ∈ m1, x ∈ left ∨ ∃ d, alook s1 x.1 = some d ∧ alook s2 x.1 = some d))
    case atStart => exact ⟨m1, Nat.le_refl _, HR.out, (below_alloc w o), fun x hx => .inl hx⟩
    case round =>
      obtain ⟨left, hg, hR, hb, hdone⟩ := hrel
      rcases hR.next (P := Try.prog) 0 with ⟨rfl, hn⟩ | ⟨n, v, left', w', hp, hmem, hn, hen, hR', hst⟩
      · have HD := Lib.hid hdone
        have HB := Lib.hid hb
        clear hdone hR hrg hl1 hl2
        go_wp2
        go_ret
        refine ⟨?_, HB.out⟩
        have hq : eqM s1 s2 = true := by
          unfold eqM
          rw [decide_eq_true HL.out, Bool.true_and, List.all_eq_true]
          intro kd hkd
          have hk : kd.1 ∈ m1.map (·.1) := by rw [AL.keys A1.out]; exact List.mem_map.2 ⟨kd, hkd, rfl⟩
          obtain ⟨x, hx, hxe⟩ := List.mem_map.1 hk
          rcases HD.out x hx with h | ⟨d, h1, h2⟩
          · cases h
          · have h3 := alook_mem (m := s1) (by rw [← AL.keys A1.out]; exact HND.out) (n := kd.1) (v := kd.2) hkd
            rw [hxe] at h1 h2
            rw [h1] at h3
            rw [h2, h3]; simp
        rw [hq]; rfl
      · have hm1 := alook_mem HND.out hmem
        have hbw' : Below w.heap.size w w' := hb.out.trans (hst.below (Nat.le_refl _))
        have hlk := (H2.out.up hbw').lookup (P := Try.prog) Try.underlying80 Try.underlying3 (Try.zeroValue35 _) n true
        have hl1 : ∃ d1, alook s1 n = some d1 ∧ BytesAt F1 w v d1 := by
          rcases A1.out.look n with ⟨h, _⟩ | ⟨v1, d1, h, h', h''⟩
          · rw [hm1] at h; cases h
          · rw [hm1] at h; cases h; exact ⟨d1, h', h''⟩
        obtain ⟨d1, hs1, hv1⟩ := hl1
        have hkey : ∃ kd ∈ s1, kd.1 = n ∧ kd.2 = d1 := by
          have hk : n ∈ s1.map (·.1) := by rw [← AL.keys A1.out]; exact List.mem_map.2 ⟨(n, v), hmem, rfl⟩
          obtain ⟨kd, hkd, hke⟩ := List.mem_map.1 hk
          have h3 := alook_mem (m := s1) (by rw [← AL.keys A1.out]; exact HND.out) (n := kd.1) (v := kd.2) hkd
          rw [hke, hs1] at h3
          exact ⟨kd, hkd, hke, (Option.some.inj h3).symm⟩
        have HV1 := Lib.hid (hv1.up hbw')
        have HS1 := Lib.hid hs1
        have HK := Lib.hid hkey
        have HR' := Lib.hid hR'
        have HBW := Lib.hid hbw'
        have HP := Lib.hid hp
        have HD := Lib.hid hdone
        clear hv1 hs1 hkey hR' hR hbw' hp hdone hst hmem hm1 hl1 hl2 hrg
        have hno : ∀ d2, alook s2 n = d2 → d2 ≠ some d1 → eqM s1 s2 = false := by
          intro d2 h2 hne
          obtain ⟨kd, hkd, e1, e2⟩ := HK.out
          unfold eqM
          rw [Bool.and_eq_false_iff]; right
          rw [List.all_eq_false]
          refine ⟨kd, hkd, ?_⟩
          rw [e1, e2, h2]; simpa using hne
        have HNO := Lib.hid hno
        clear hno
        rcases A2.out.look n with ⟨h3, h4⟩ | ⟨v2, d2, h3, h4, h5⟩
        · rw [h3] at hlk
          simp only [Option.getD_none, Option.isSome_none, if_true] at hlk
          have H4 := Lib.hid h4
          clear h3 h4
          go_wp2
          go_ret
          exact ⟨congrArg boolRet (HNO.out _ H4.out (by simp)).symm, HBW.out⟩
        · rw [h3] at hlk
          simp only [Option.getD_some, Option.isSome_some, if_true] at hlk
          have H4 := Lib.hid h4
          have H5 := Lib.hid (h5.up HBW.out)
          have HG := Lib.hid hg
          clear h3 h4 h5 hg
          have HC := Lib.hid (equalB_any (fun k => F1 k ∨ F2 k) v v2 d1 d2 w' (BytesAt.mono HV1.out fun _ h => .inl h) (BytesAt.mono H5.out fun _ h => .inr h))
          by_cases hd : d1 = d2
          · have hb2 : (d1 == d2) = true := by rw [beq_iff_eq]; exact hd
            rw [hb2] at HC
            clear hb2
            have HDD := Lib.hid hd
            clear hd
            go_wp2_with (go_at_call 47; refine (HC.out).mono ?_; rintro e w2 ⟨rfl, hb2⟩)
            go_roundg (left'.length)
            case measure => have h1 := HP.out.length_eq; have h2 := HG.out; simp only [List.length_cons] at h1; omega
            case rel =>
              refine ⟨left', Nat.le_refl _, HR'.out.up hb2, HBW.out.trans (hb2.mono HBW.out.size), fun x hx => ?_⟩
              rcases HD.out x hx with h | h
              · have := HP.out.subset h
                rcases List.mem_cons.1 this with rfl | h
                · exact .inr ⟨d1, HS1.out, by rw [HDD.out]; exact H4.out⟩
                · exact .inl h
              · exact .inr h
          · have hb2 : (d1 == d2) = false := by rw [beq_eq_false_iff_ne]; exact hd
            rw [hb2] at HC
            clear hb2
            have HDD := Lib.hid hd
            clear hd
            go_wp2_with (go_at_call 47; refine (HC.out).mono ?_; rintro e w2 ⟨rfl, hb2⟩)
            go_ret
            exact ⟨congrArg boolRet (HNO.out _ H4.out (by simpa using fun e => HDD.out e.symm)).symm, HBW.out.trans (hb2.mono HBW.out.size)⟩

set_option maxRecDepth 100000 in
set_option maxHeartbeats 1000000 in
theorem modelSame_any (F1 F2 : Nat → Prop) (v1 v2 : Value) (n : Int) (s1 s2 : List (Int × Bytes)) (w : World) (h1 : ModelIs F1 w v1 n s1) (h2 : ModelIs F2 w v2 n s2) :
    Calls Try.prog 20 #[v1, v2] w fun e w' => e = .returned (.bool (eqM s1 s2)) ∧ Below w.heap.size w w' := by
  obtain ⟨⟨b1, r1, m1, rfl, _, _, hb1, hm1, ha1⟩, _⟩ := h1
  obtain ⟨⟨b2, r2, m2, rfl, _, _, hb2, hm2, ha2⟩, _⟩ := h2
  have c10 : w.cell? ⟨b1, 0, none⟩ = some (.int .i64 n) := by rw [cell_row hb1]; rfl
  have c11 : w.cell? ⟨b1, 1, none⟩ = some (.map (some r1)) := by rw [cell_row hb1]; rfl
  have c20 : w.cell? ⟨b2, 0, none⟩ = some (.int .i64 n) := by rw [cell_row hb2]; rfl
  have c21 : w.cell? ⟨b2, 1, none⟩ = some (.map (some r2)) := by rw [cell_row hb2]; rfl
  have hnn : (n == n) = true := by simp
  have HC := Lib.hid (eqFunc_any F1 F2 r1 r2 m1 m2 s1 s2 w.drew (hm1.up (below_drewN (Below.refl _ _) 1)) (hm2.up (below_drewN (Below.refl _ _) 1)) (ha1.imp fun _ _ h => h.up (below_drewN (Below.refl _ _) 1)) (ha2.imp fun _ _ h => h.up (below_drewN (Below.refl _ _) 1)))
  clear hb1 hb2 hm1 hm2 ha1 ha2
  go_enter Try.func20, Try.ntmps20
  go_wp2
  go_region_held3 (fun W => W.cell? ⟨b1, 0, none⟩ = some (.int .i64 n) ∧ W.cell? ⟨b1, 1, none⟩ = some (.map (some r1)) ∧ W.cell? ⟨b2, 0, none⟩ = some (.int .i64 n) ∧ W.cell? ⟨b2, 1, none⟩ = some (.map (some r2)))
    (first
      | go_keep
      | (go_split_ands
         exact ⟨cell_up hb3 (by assumption), cell_up hb3 (by assumption), cell_up hb3 (by assumption), cell_up hb3 (by assumption)⟩))
    ((first
      | (go_at_call 46; refine (HC.out).mono ?_; rintro e w3 ⟨rfl, hb3⟩)))
  go_wp2
  go_ret
  exact ⟨rfl, Below.up (below_drewN (Below.refl _ _) 1) hb3⟩
end Go.Proofs

/- Plain laws on what an M holds. -/
namespace Go.Proofs
open Go.RowKit Sc

theorem ModelIs.nodup {F : Nat → Prop} {w : World} {v : Value} {n : Int} {s : List (Int × Bytes)} (h : ModelIs F w v n s) : (s.map (·.1)).Nodup := by
  obtain ⟨⟨b, r, ml, _, _, _, _, h5, h6⟩, _⟩ := h
  obtain ⟨_, _, _, _, hn, _⟩ := h5
  rw [← AL.keys h6]; exact hn

theorem eqM_refl {s : List (Int × Bytes)} (hn : (s.map (·.1)).Nodup) : eqM s s = true := by
  unfold eqM
  rw [decide_eq_true rfl, Bool.true_and, List.all_eq_true]
  intro kd hkd
  rw [alook_mem hn (n := kd.1) (v := kd.2) hkd]
  simp

def Len40 (s : List (Int × Bytes)) : Prop := ∀ k d, alook s k = some d → d.length = 40
theorem len40_nil : Len40 [] := fun k d h => by simp [alook] at h

theorem zero40_eq {d : Bytes} (hl : d.length = 40) (hz : zero40 d = true) : d = zeroB := by
  unfold zero40 at hz
  rw [List.all_eq_true] at hz
  apply List.ext_getElem
  · rw [hl]; rfl
  · intro i h1 h2
    have := hz d[i] (List.getElem_mem h1)
    simp only [beq_iff_eq] at this
    rw [this]; exact (List.getElem_replicate (n := 40) h2).symm

theorem runStep_look {s : List (Int × Bytes)} (hn : (s.map (·.1)).Nodup) (p : Put) (k : Int) : alook (runStep s p) k = if k = p.lba then (if zero40 p.data then none else some p.data) else alook s k := by
  unfold runStep
  cases hz : zero40 p.data
  · simp only [Bool.false_eq_true, if_false]; exact alook_aset s p.lba k p.data
  · simp only [if_true]; exact alook_adel hn p.lba k
theorem runStep_nodup {s : List (Int × Bytes)} (hn : (s.map (·.1)).Nodup) (p : Put) : ((runStep s p).map (·.1)).Nodup := by
  unfold runStep; split
  · exact nodup_adel hn _
  · exact nodup_aset hn _ _
theorem runPuts_nodup {s : List (Int × Bytes)} (hn : (s.map (·.1)).Nodup) (l : List Put) : ((runPuts s l).map (·.1)).Nodup := by
  unfold runPuts
  induction l generalizing s with
  | nil => exact hn
  | cons p t ih => exact ih (runStep_nodup hn p)
theorem runPuts_other {s : List (Int × Bytes)} (hn : (s.map (·.1)).Nodup) (l : List Put) (k : Int) (hk : ∀ p ∈ l, p.lba ≠ k) : alook (runPuts s l) k = alook s k := by
  unfold runPuts
  induction l generalizing s with
  | nil => rfl
  | cons p t ih =>
    have h1 := ih (runStep_nodup hn p) (fun q hq => hk q (by simp [hq]))
    rw [List.foldl_cons, h1, runStep_look hn, if_neg (fun e => hk p (by simp) e.symm)]
theorem runPuts_look {s : List (Int × Bytes)} (hn : (s.map (·.1)).Nodup) (l : List Put) (hd : (l.map (·.lba)).Nodup) (h40 : ∀ p ∈ l, p.data.length = 40) {p : Put} (hp : p ∈ l) :
    (alook (runPuts s l) p.lba).getD zeroB = p.data := by
  induction l generalizing s with
  | nil => cases hp
  | cons q t ih =>
    simp only [List.map_cons, List.nodup_cons] at hd
    have hstep : runPuts s (q :: t) = runPuts (runStep s q) t := rfl
    rcases List.mem_cons.1 hp with rfl | hp
    · rw [hstep, runPuts_other (runStep_nodup hn _) t _ (fun x hx e => hd.1 (List.mem_map.2 ⟨x, hx, e⟩)), runStep_look hn, if_pos rfl]
      cases hz : zero40 p.data
      · rfl
      · simp only [if_true, Option.getD_none]; exact (zero40_eq (h40 p (by simp)) hz).symm
    · rw [hstep]; exact ih (runStep_nodup hn _) hd.2 (fun x hx => h40 x (by simp [hx])) hp
theorem runPuts_len {s : List (Int × Bytes)} (hn : (s.map (·.1)).Nodup) (hs : Len40 s) (l : List Put) (h40 : ∀ p ∈ l, p.data.length = 40) : Len40 (runPuts s l) := by
  unfold runPuts
  induction l generalizing s with
  | nil => exact hs
  | cons p t ih =>
    refine ih (runStep_nodup hn p) (fun k d h => ?_) (fun x hx => h40 x (by simp [hx]))
    rw [runStep_look hn] at h
    split at h
    · split at h
      · cases h
      · cases h; exact h40 p (by simp)
    · exact hs k d h

theorem code_ok {n : Int} {l : List Put} (h : runCode n l = 0) : (∀ p ∈ l, blk n p.lba = true) ∧ (l.map (·.lba)).Nodup ∧ ∀ p ∈ l, p.data.length = 40 := by
  unfold runCode at h
  split at h
  · omega
  · rename_i ha
    split at h
    · rename_i hb
      simp only [Bool.and_eq_true, decide_eq_true_eq, List.all_eq_true] at hb
      refine ⟨fun p hp => ?_, hb.1, hb.2⟩
      cases hq : blk n p.lba
      · exact absurd (List.any_eq_true.2 ⟨p, hp, by simp [hq]⟩) ha
      · rfl
    · omega
/-- What a Run leaves. -/
def runNext (n : Int) (s : List (Int × Bytes)) (l : List Put) : List (Int × Bytes) := if runCode n l = 0 then runPuts s l else s
theorem runNext_nodup {n : Int} {s : List (Int × Bytes)} (hn : (s.map (·.1)).Nodup) (l : List Put) : ((runNext n s l).map (·.1)).Nodup := by
  unfold runNext; split
  · exact runPuts_nodup hn l
  · exact hn
theorem runNext_len {n : Int} {s : List (Int × Bytes)} (hn : (s.map (·.1)).Nodup) (hs : Len40 s) (l : List Put) : Len40 (runNext n s l) := by
  unfold runNext; split
  · rename_i h; exact runPuts_len hn hs l (code_ok h).2.2
  · exact hs
end Go.Proofs
