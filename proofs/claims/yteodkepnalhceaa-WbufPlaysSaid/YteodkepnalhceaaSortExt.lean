/- slices.SortFunc over extents, by their Firsts: what it leaves. -/
import Derived.Test.YteodkepnalhceaaLaySort
import Derived.Test.YteodkepnalhceaaIval1
namespace Go.Proofs
open Go.RowKit Sc Go.Shelf

instance instExtInh : Inhabited Ext := ⟨⟨0, 0⟩⟩
def encE (x : Ext) : List Value := [.int .i64 x.first, .int .i64 x.len]
def cmpE (x y : Ext) : Int := Lib.compareInt x.first y.first
set_option maxHeartbeats 1000000 in
theorem joinC_any (x y : Ext) (W : World) : Calls Try.prog 64 #[.agg #[.int .i64 x.first, .int .i64 x.len], .agg #[.int .i64 y.first, .int .i64 y.len]] W fun e w' => e = .returned (.int .i64 (cmpE x y)) ∧ ∃ q os', w' = Sort.grow (W.drewN q) os' := by
  have hcon := fun W' => AnyG.cmp_Compare_int Try.cmpInt x.first y.first W'
  change ∀ W', Calls Try.prog 65 _ _ _ at hcon
  change ∀ W', Calls Try.prog 65 _ W' (fun e w' => e = .returned (.int .i64 (cmpE x y)) ∧ w' = W') at hcon
  generalize cmpE x y = r at hcon ⊢
  go_enter Try.func64, Try.ntmps64
  go_wp2_with (go_at_call 65; refine (hcon _).mono ?_; rintro e w' ⟨rfl, rfl⟩)
  go_ret
  exact ⟨rfl, 0, _, by rw [Sort.alloc_eq_grow, Sort.alloc_eq_grow, Sort.grow_grow]; rfl⟩
theorem ltE (x y : Ext) : ltOf cmpE x y = decide (x.first < y.first) := by
  unfold ltOf cmpE Lib.compareInt
  by_cases h1 : x.first < y.first
  · simp [h1]
  · by_cases h2 : y.first < x.first <;> simp [h1, h2]
theorem swoE : Sort.SWO (ltOf cmpE) where
  irrefl x := by rw [ltE]; simp
  trans x y z h1 h2 := by rw [ltE] at *; simp at *; omega
  ntrans x y z h1 h2 := by rw [ltE] at *; simp at *; omega

/-- The cells of a row of extents, at the head of a block. -/
def RowE (w : World) (blk : Nat) (l : List Ext) : Prop :=
  ∀ i (h : i < l.length), w.cell? ⟨blk, i * 2, none⟩ = some (.int .i64 l[i].first) ∧ w.cell? ⟨blk, i * 2 + 1, none⟩ = some (.int .i64 l[i].len) ∧ w.frozen? ⟨blk, i * 2, none⟩ = false ∧ w.frozen? ⟨blk, i * 2 + 1, none⟩ = false
theorem rowE_holds {w : World} {blk : Nat} {l : List Ext} (h : RowE w blk l) : Sort.HoldsK encE 2 w blk 0 l.toArray := by
  intro t ht
  rw [Sort.size_flatK] at ht
  rw [Sort.get_flatK _ _ _ _ ht]
  have hi : t / 2 < l.length := by simp at ht; omega
  obtain ⟨h1, h2, h3, h4⟩ := h (t / 2) hi
  have e : (l.toArray)[t / 2]! = l[t / 2] := by simp [hi]
  rw [e]
  rcases (show t % 2 = 0 ∨ t % 2 = 1 by omega) with h0 | h0
  · rw [h0, show 0 + t = t / 2 * 2 by omega]
    exact ⟨h1, h3⟩
  · rw [h0, show 0 + t = t / 2 * 2 + 1 by omega]
    exact ⟨h2, h4⟩
theorem holds_rowE {w : World} {blk : Nat} {d : Array Ext} (h : Sort.HoldsK encE 2 w blk 0 d) : RowE w blk d.toList := by
  intro i hi
  have hi' : i < d.size := by simpa using hi
  obtain ⟨h1, h3⟩ := Sort.HoldsK.cell h hi' (show 0 < 2 by omega)
  obtain ⟨h2, h4⟩ := Sort.HoldsK.cell h hi' (show 1 < 2 by omega)
  have e : d[i]! = d.toList[i] := by simp [hi']
  rw [e] at h1 h2
  simp only [Nat.zero_add, Nat.add_zero] at h1 h2 h3 h4
  exact ⟨h1, h2, h3, h4⟩
theorem chg_sortWorld (w : World) (blk n : Nat) (d : Array Ext) (os : Array Obj) : Chg (fun b => b = blk) w (sortWorldK encE 2 w blk 0 n d os) := by
  refine ⟨rfl, rfl, rfl, ?_, fun k hk hne => ?_⟩
  · simp [sortWorldK, Sort.putRowK, Sort.putRow, Sort.mapBlock, Sort.grow, Sort.ahead]
  · unfold sortWorldK
    rw [Sort.heap_grow_old _ _ (by simpa [Sort.putRowK, Sort.putRow, Sort.mapBlock, Sort.ahead] using hk)]
    have : blk ≠ k := fun e => hne e.symm
    simp [Sort.putRowK, Sort.putRow, Sort.mapBlock, Sort.ahead, Array.getElem?_modify, this]
def SortedE (l : List Ext) (blk : Nat) (w : World) (e : Ending) (w' : World) : Prop :=
  e = .returned (.tuple #[]) ∧ ∃ l', l'.Perm l ∧ l'.Pairwise (fun a b => a.first ≤ b.first) ∧ Chg (fun b => b = blk) w w' ∧ RowE w' blk l'
theorem sortExt_any (blk cap : Nat) (l : List Ext) (w : World) (hH : RowE w blk l) (hblk : blk < w.heap.size) (hl : l.length ≤ 1000000000) :
    Calls Try.prog 63 #[.slice (some ⟨blk, 0, none⟩) l.length cap, .func (.func 64) #[] #[]] w (SortedE l blk w) := by
  have eg : ∀ args w, (callFunc 64 args).run Try.prog w = .ok (.enter 64 args) w := enters_of Try.func64 (by kernel_rfl) rfl
  have h0 := rowE_holds hH
  have hcon := AnyQ.slices_SortFunc Try.sortExt 2 Try.isAgg28 Try.sizeOf28 encE (fun _ => rfl) (fun x v hv => by simp [encE] at hv; rcases hv with rfl | rfl <;> rfl) cmpE swoE 64 #[] blk 0 cap l.toArray w eg (fun _ _ _ _ x y => joinC_any x y _) h0 hblk (by simp; omega)
  change Calls Try.prog 63 _ _ _ at hcon
  have hsz : l.toArray.size = l.length := by simp
  rw [hsz] at hcon
  refine hcon.mono ?_
  rintro e w' ⟨rfl, d', n, os, ⟨hp1, _, hp3⟩, hs, rfl⟩
  refine ⟨rfl, d'.toList, ?_, ?_, chg_sortWorld _ _ _ _ _, holds_rowE ?_⟩
  · rw [← hsz] at hp3
    have e1 : d'.extract 0 l.toArray.size = d' := by rw [← hp1, Array.extract_size]
    have e2 : l.toArray.extract 0 l.toArray.size = l.toArray := Array.extract_size
    rw [e1, e2] at hp3
    simpa using hp3
  · rw [List.pairwise_iff_getElem]
    intro i j hi hj hij
    have hi' : i < d'.size := by simpa using hi
    have hj' : j < d'.size := by simpa using hj
    have := hs i j (Nat.zero_le _) hij (by rw [← hsz, ← hp1]; exact hj')
    rw [ltE] at this
    have e1 : d'[i]! = d'.toList[i] := by simp [hi']
    have e2 : d'[j]! = d'.toList[j] := by simp [hj']
    rw [e1, e2] at this
    simpa using this
  · refine Sort.holdsK_grow (enc := encE) (k := 2) (w := _) (os := os) (blk := blk) (off := 0) (d := d') ?_ (Sort.holdsK_putRowK (enc := encE) (k := 2) (w := Sort.ahead w n) (blk := blk) (off := 0) (d0 := l.toArray) (d := d') h0 hp1)
    simpa [Sort.putRowK, Sort.putRow, Sort.mapBlock, Sort.ahead] using hblk
end Go.Proofs
