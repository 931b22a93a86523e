/- Sorting by insertion into a list of places: plain. -/
import Derived.Test.YtjomlcemnbfnfaaOrdPlain
namespace Go.Proofs
open Sc Go

def vN (i : Nat) : Value := .int .i64 (i : Int)
structure OrdTo (l : List Hist) (k : Nat) (o : List Nat) : Prop where
  perm : o.Perm ((List.range k).filter (wroteAt l))
  sorted : o.Pairwise (fun i j => ordLe l i j = true)
theorem OrdTo.start (l : List Hist) : OrdTo l 0 [] := ⟨List.Perm.refl _, List.Pairwise.nil⟩
theorem OrdTo.lt {l : List Hist} {k : Nat} {o : List Nat} (h : OrdTo l k o) : ∀ i ∈ o, i < k := fun i hi => by
  have := h.perm.mem_iff.1 hi
  simpa using (List.mem_filter.1 this).1
theorem OrdTo.skip {l : List Hist} {k : Nat} {o : List Nat} (h : OrdTo l k o) (hw : wroteAt l k = false) : OrdTo l (k + 1) o := by
  refine ⟨?_, h.sorted⟩
  rw [List.range_succ, List.filter_append]
  simpa [hw] using h.perm
theorem OrdTo.put {l : List Hist} {k : Nat} {o : List Nat} (h : OrdTo l k o) (hw : wroteAt l k = true) {a : Nat} (ha : a ≤ o.length)
    (c1 : a = 0 ∨ timeAt l (o.getD (a - 1) 0) ≤ timeAt l k) (c2 : ∀ j, a ≤ j → ∀ hj : j < o.length, timeAt l k < timeAt l o[j]) : OrdTo l (k + 1) (o.take a ++ k :: o.drop a) := by
  refine ⟨?_, ?_⟩
  · rw [List.range_succ, List.filter_append]
    have e : [k].filter (wroteAt l) = [k] := by simp [hw]
    rw [e]
    refine List.perm_middle.trans ?_
    rw [List.take_append_drop]
    exact (List.perm_append_singleton k o).symm.trans (h.perm.append_right [k])
  · have hs := h.sorted
    have hs' : (o.take a ++ o.drop a).Pairwise (fun i j => ordLe l i j = true) := by rw [List.take_append_drop]; exact hs
    rw [List.pairwise_append] at hs' ⊢
    obtain ⟨s1, s2, s3⟩ := hs'
    refine ⟨s1, List.pairwise_cons.2 ⟨fun j hj => ?_, s2⟩, fun i hi j hj => ?_⟩
    · obtain ⟨q, hq, rfl⟩ := List.getElem_of_mem hj
      rw [List.getElem_drop]
      have hq' : a + q < o.length := by rw [List.length_drop] at hq; omega
      have := c2 (a + q) (by omega) hq'
      unfold ordLe; rw [decide_eq_true_eq]; exact Or.inl this
    · rcases List.mem_cons.1 hj with rfl | hj
      · obtain ⟨q, hq, rfl⟩ := List.getElem_of_mem hi
        rw [List.getElem_take]
        have hq' : q < a ∧ q < o.length := by rw [List.length_take] at hq; omega
        have hlt : o[q] < j := h.lt _ (List.getElem_mem hq'.2)
        have h1 : timeAt l (o.getD (a - 1) 0) ≤ timeAt l j := c1.resolve_left (by omega)
        have e1 : o.getD (a - 1) 0 = o[a - 1]'(by omega) := by simp [show a - 1 < o.length by omega]
        rw [e1] at h1
        have h2 : timeAt l o[q] ≤ timeAt l (o[a - 1]'(by omega)) := by
          rcases Nat.lt_or_ge q (a - 1) with hh | hh
          · have := List.pairwise_iff_getElem.1 hs q (a - 1) hq'.2 (by omega) hh
            unfold ordLe at this; rw [decide_eq_true_eq] at this; omega
          · have hqa : q = a - 1 := by omega
            subst hqa; exact Int.le_refl _
        unfold ordLe; rw [decide_eq_true_eq]; omega
      · exact s3 i hi j hj
theorem OrdTo.done {l : List Hist} {o : List Nat} (h : OrdTo l l.length o) : o = ordI l := ordI_unique h.perm h.sorted
theorem OrdTo.len {l : List Hist} {k : Nat} {o : List Nat} (h : OrdTo l k o) : o.length ≤ k := by
  rw [h.perm.length_eq]
  exact Nat.le_trans (List.length_filter_le _ _) (by simp)
theorem shift_get (os : List Nat) (q g : Nat) (h : q < os.length) : ((os.take (q + 1) ++ g :: os.drop (q + 1)).map vN)[q]? = some (vN (os[q])) := by
  rw [List.getElem?_map, List.getElem?_append_left (by rw [List.length_take]; omega), List.getElem?_take, if_pos (by omega), List.getElem?_eq_getElem h]; rfl
theorem shift_set (os : List Nat) (q g : Nat) (h : q < os.length) : ((os.take (q + 1) ++ g :: os.drop (q + 1)).map vN).set (q + 1) (vN (os[q])) = (os.take q ++ os[q] :: os.drop q).map vN := by
  rw [← List.map_set]
  congr 1
  rw [List.set_append_right _ _ (by rw [List.length_take]; omega)]
  have e : q + 1 - (os.take (q + 1)).length = 0 := by rw [List.length_take]; omega
  rw [e, List.set_cons_zero, List.take_succ_eq_append_getElem h, List.append_assoc, List.drop_eq_getElem_cons h]
  rfl
theorem end_set (os : List Nat) (a g k : Nat) (h : a ≤ os.length) : ((os.take a ++ g :: os.drop a).map vN).set a (vN k) = (os.take a ++ k :: os.drop a).map vN := by
  rw [← List.map_set]
  congr 1
  rw [List.set_append_right _ _ (by rw [List.length_take]; omega)]
  have e : a - (os.take a).length = 0 := by rw [List.length_take]; omega
  rw [e, List.set_cons_zero]
theorem put_len (os : List Nat) (a k : Nat) (h : a ≤ os.length) : (os.take a ++ k :: os.drop a).length = os.length + 1 := by
  rw [List.length_append, List.length_take, List.length_cons, List.length_drop]; omega
theorem first_row (os : List Nat) : os.map vN ++ [.int .i64 0] = (os.take os.length ++ 0 :: os.drop os.length).map vN := by
  rw [List.take_length, List.drop_length, List.map_append]; rfl
end Go.Proofs
