/- A range over a map whose keys are ints: what is left to come; of whatever program. -/
import Derived.Test.YtjomlcemnbfnfaaMaps
import Derived.Maps.RangeRun
import Derived.Laws.IdiomRangeMap
namespace Sc
open Go Go.RowKit Go.ChangeMaps Go.ChangeShapes Go.WideShapes Go.MapKept

def unp (x : MapEntry) : Int × Value := (intOf x.key, x.val)

/-- An iterator has stepped, or the like: no cell has turned. -/
structure Stepped (it : Nat) (w w' : World) : Prop where
  os : w'.os = w.os
  tape : w'.tape = w.tape
  output : w'.output = w.output
  size : w'.heap.size = w.heap.size
  block : ∀ k, k ≠ it → w'.heap[k]? = w.heap[k]?
  cell : ∀ a, w'.cell? a = w.cell? a
  frozen : ∀ a, w'.frozen? a = w.frozen? a
theorem Stepped.chg {r : Nat} {w w' : World} (h : Stepped r w w') {S : Nat → Prop} (hr : S r) : Chg S w w' :=
  ⟨h.os, h.tape, h.output, by rw [h.size]; exact Nat.le_refl _, fun k _ hk => h.block k (fun e => hk (e ▸ hr))⟩
theorem Stepped.below {r B : Nat} {w w' : World} (h : Stepped r w w') (hr : B ≤ r) : Below B w w' :=
  ⟨h.os, h.tape, h.output, by rw [h.size]; exact Nat.le_refl _, fun k hk => h.block k (by omega)⟩

def Ranges (w : World) (it r : Nat) (m left : List (Int × Value)) : Prop :=
  ∃ es clock seen, w.heap[r]? = some (.map es clock) ∧ es.toList.map ent = m.map pr ∧ (m.map (·.1)).Nodup ∧ (∀ x ∈ es.toList, x.born < clock) ∧ (es.toList.map (·.born)).Nodup ∧
    w.heap[it]? = some (.mapIter (some r) clock seen clock) ∧ left = (leftOf es seen).toList.map unp
theorem Ranges.mapIs {w : World} {it r : Nat} {m left : List (Int × Value)} (h : Ranges w it r m left) : MapIs w r m :=
  let ⟨es, c, _, h1, h2, h3, h4, h5, _⟩ := h; ⟨es, c, h1, h2, h3, h4, h5⟩
theorem Ranges.same {w w' : World} {it r : Nat} {m left : List (Int × Value)} (h : Ranges w it r m left) (h1 : w'.heap[r]? = w.heap[r]?) (h2 : w'.heap[it]? = w.heap[it]?) : Ranges w' it r m left :=
  let ⟨es, c, sn, a1, a2, a3, a4, a5, a6, a7⟩ := h; ⟨es, c, sn, h1.trans a1, a2, a3, a4, a5, h2.trans a6, a7⟩
theorem Ranges.lt {w : World} {it r : Nat} {m left : List (Int × Value)} (h : Ranges w it r m left) : it < w.heap.size := by
  obtain ⟨es, c, sn, a1, a2, a3, a4, a5, a6, a7⟩ := h
  exact (Array.getElem?_eq_some_iff.1 a6).1
theorem Ranges.up {w w' : World} {it r : Nat} {m left : List (Int × Value)} (h : Ranges w it r m left) (hb : Below w.heap.size w w') : Ranges w' it r m left :=
  h.same (hb.block r h.mapIs.lt) (hb.block it h.lt)

theorem ent_unp {es : List MapEntry} {m : List (Int × Value)} (h : es.map ent = m.map pr) : es.map unp = m := by
  induction es generalizing m with
  | nil => cases m with
    | nil => rfl
    | cons a t => simp at h
  | cons x t ih => cases m with
    | nil => simp at h
    | cons a l =>
      simp only [List.map_cons, List.cons.injEq] at h
      rw [List.map_cons, ih h.2]
      congr 1
      have h1 := h.1
      simp only [ent, pr, Prod.mk.injEq] at h1
      obtain ⟨a1, a2⟩ := a
      simp only [unp, h1.1, h1.2, intOf]
theorem ent_of_unp {es : List MapEntry} {m : List (Int × Value)} (h : es.map ent = m.map pr) {x : MapEntry} (hx : x ∈ es) : x.key = .int .i64 (unp x).1 ∧ x.val = (unp x).2 ∧ unp x ∈ m := by
  obtain ⟨n, v, hm, hk, hv⟩ := keys_of h x hx
  refine ⟨by simp [unp, hk, intOf], rfl, ?_⟩
  have : unp x = (n, v) := by simp [unp, hk, hv, intOf]
  rw [this]; exact hm

theorem filter_perm {l : List MapEntry} (hn : (l.map (·.born)).Nodup) {e : MapEntry} (he : e ∈ l) : l.Perm (e :: l.filter (fun x => !(x.born == e.born))) := by
  induction l with
  | nil => cases he
  | cons a t ih =>
    simp only [List.map_cons, List.nodup_cons] at hn
    by_cases hae : a = e
    · subst hae
      have hf : t.filter (fun x => !(x.born == a.born)) = t := by
        rw [List.filter_eq_self]
        intro x hx
        have : x.born ≠ a.born := fun e => hn.1 (List.mem_map.2 ⟨x, hx, e⟩)
        simpa using this
      simp [hf]
    · have ht : e ∈ t := by
        rcases List.mem_cons.1 he with h | h
        · exact absurd h.symm hae
        · exact h
      have hb : a.born ≠ e.born := fun h => hn.1 (List.mem_map.2 ⟨e, ht, h.symm⟩)
      have hb' : (!(a.born == e.born)) = true := by simpa using hb
      rw [List.filter_cons, if_pos hb']
      exact ((ih hn.2 ht).cons a).trans (List.Perm.swap e a _)

theorem sb_same {w : World} {b : Nat} {o : Obj} (h : b < w.heap.size) : (setBlock w b o).heap[b]? = some o := by simp [setBlock, h]
theorem sb_other {w : World} {b q : Nat} {o : Obj} (h : q ≠ b) : (setBlock w b o).heap[q]? = w.heap[q]? := by
  have h' : ¬ b = q := fun e => h e.symm
  simp [setBlock, h']
section
variable {P : Program} {w : World} {t k e : TypeId} {it r : Nat} {m left : List (Int × Value)}

/-- 'for .. range m': the iterator. -/
theorem MapIs.range (h : MapIs w r m) (ht : P.underlying t = some (.map k e)) :
    ∃ o, (Instr.range t (.map (some r))).run P w = .ok (.pointer (some ⟨w.heap.size, 0, none⟩)) (w.alloc o) ∧ Ranges (w.alloc o) w.heap.size r m m := by
  obtain ⟨es, clock, hb, hm, hn, hbo, hbn⟩ := h
  have hrl := (Array.getElem?_eq_some_iff.1 hb).1
  refine ⟨_, run_range_map w t k e r es clock ht hb, es, clock, #[], by rw [heap_old hrl]; exact hb, hm, hn, hbo, hbn, heap_new rfl, ?_⟩
  have : leftOf es #[] = es := by unfold leftOf; simp
  rw [this, ent_unp hm]

theorem Ranges.next (h : Ranges w it r m left) (ty : TypeId) :
    (left = [] ∧ (Instr.next (.pointer (some ⟨it, 0, none⟩)) false ty).run P w = .ok (.tuple #[.bool false]) w) ∨
    ∃ n v left' w', left.Perm ((n, v) :: left') ∧ (n, v) ∈ m ∧ (Instr.next (.pointer (some ⟨it, 0, none⟩)) false ty).run P w = .ok (.tuple #[.bool true, .int .i64 n, v]) w' ∧
      (Instr.entry (.pointer (some ⟨it, 0, none⟩))).run P w' = .ok (.tuple #[.int .i64 n, v]) w' ∧ Ranges w' it r m left' ∧ Stepped it w w' := by
  obtain ⟨es, clock, seen, hb, hm, hn, hbo, hbn, hit, rfl⟩ := h
  rcases run_next_at (P := P) w ty it r clock clock seen es clock hit hb hbo (Nat.le_refl _) with ⟨h0, hrun⟩ | ⟨x, hx, w1, hw1, hrun⟩
  · left
    have : leftOf es seen = #[] := Array.eq_empty_of_size_eq_zero h0
    rw [this]
    exact ⟨rfl, hrun⟩
  · right
    have hxe : x ∈ es.toList := by unfold leftOf at hx; simp at hx ⊢; exact hx.1
    obtain ⟨hk, hv, hmem⟩ := ent_of_unp hm hxe
    have hne : it ≠ r := by intro e; rw [e, hb] at hit; cases hit
    have h1 : w1.heap = w.heap := by rcases hw1 with rfl | rfl <;> rfl
    have hit1 : w1.heap[it]? = some (.mapIter (some r) clock seen clock) := by rw [h1]; exact hit
    have hb2 : (setBlock w1 it (.mapIter (some r) clock (seen.push x.born) clock)).heap[r]? = some (.map es clock) := by
      rw [sb_other (fun e => hne e.symm), h1]; exact hb
    have hi2 : (setBlock w1 it (.mapIter (some r) clock (seen.push x.born) clock)).heap[it]? = some (.mapIter (some r) clock (seen.push x.born) clock) := sb_same (Array.getElem?_eq_some_iff.1 hit1).1
    rw [hk, hv] at hrun
    have hen := run_entry_at (P := P) _ it r clock seen es clock x hi2 hb2 hxe hbn
    rw [hk, hv] at hen
    have hoth : ∀ q, q ≠ it → (setBlock w1 it (.mapIter (some r) clock (seen.push x.born) clock)).heap[q]? = w.heap[q]? := fun q hq => by rw [sb_other hq, h1]
    refine ⟨(unp x).1, (unp x).2, (leftOf es (seen.push x.born)).toList.map unp, _, ?_, hmem, hrun, hen, ⟨es, clock, seen.push x.born, hb2, hm, hn, hbo, hbn, hi2, rfl⟩, ?_⟩
    · have hnd : ((leftOf es seen).toList.map (·.born)).Nodup := by
        unfold leftOf
        rw [Array.toList_filter]
        exact hbn.sublist (List.filter_sublist.map _)
      have hp := (filter_perm hnd hx).map unp
      have hf : (leftOf es seen).toList.filter (fun y => !(y.born == x.born)) = (leftOf es (seen.push x.born)).toList := by
        unfold leftOf
        rw [Array.toList_filter, Array.toList_filter, List.filter_filter]
        refine List.filter_congr fun y _ => ?_
        rw [Bool.eq_iff_iff]
        simp [Array.mem_push, and_comm]
      rw [hf] at hp
      exact hp
    · refine ⟨by rcases hw1 with rfl | rfl <;> rfl, by rcases hw1 with rfl | rfl <;> rfl, by rcases hw1 with rfl | rfl <;> rfl, by simp [setBlock, h1], hoth, fun a => ?_, fun a => ?_⟩
      · by_cases ha : a.block = it
        · simp [World.cell?, ha, hi2, hit]
        · exact World.cell?_of_block (hoth _ ha)
      · by_cases ha : a.block = it
        · simp [World.frozen?, ha, hi2, hit]
        · exact World.frozen?_of_block (hoth _ ha)
end
end Sc
