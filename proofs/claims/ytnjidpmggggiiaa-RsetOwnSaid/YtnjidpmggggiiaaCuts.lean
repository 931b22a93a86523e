/- Cuts of slices, as equations that hold in every world; a map that is turned while it is ranged over. Of no program. -/
import Derived.Test.YtnjidpmggggiiaaRange
namespace Sc
open Go Go.RowKit Go.ChangeMaps Go.ChangeShapes Go.WideShapes Go.MapKept
theorem addr_plus (g o j : Nat) : (⟨g, o, none⟩ : Addr).add j = ⟨g, o + j, none⟩ := by unfold Addr.add; split <;> simp_all
section
variable {P : Program} {t e : TypeId} {k : Nat} {i0 : TypeInfo}
theorem cut_from (hu : P.underlying t = some (.slice (P.elem t))) (he : P.elem t = e) (hk : P.cellsOf e = k) (hi : P.info? e = some i0) (g o n c j : Nat) (hj : j < c) (hn : j ≤ n) (W : World) :
    (Instr.slice t (.slice (some ⟨g, o, none⟩) n c) (some (.int .i64 (j : Int))) none none).run P W = .ok (.slice (some ⟨g, o + j * k, none⟩) (n - j) (c - j)) W := by
  rw [run_slice_l (P := P) (w := W) t _ n c hu .i64 (j : Int) (by omega) (by omega), he, run_sizeOf (P := P) W hi]
  simp only [Result.andThen, sliced, Int.toNat_natCast, if_neg (show ¬ c = j by omega), Option.map_some, addr_plus, hk]
theorem cut_to (hu : P.underlying t = some (.slice (P.elem t))) (he : P.elem t = e) (hi : P.info? e = some i0) (g o n c j : Nat) (hj : j ≤ c) (W : World) :
    (Instr.slice t (.slice (some ⟨g, o, none⟩) n c) none (some (.int .i64 (j : Int))) none).run P W = .ok (.slice (some ⟨g, o, none⟩) j c) W := by
  rw [run_slice_h (P := P) (w := W) t _ n c hu .i64 (j : Int) (by omega) (by omega), he, run_sizeOf (P := P) W hi]
  simp only [Result.andThen, sliced, Option.map_some, addr_plus, Nat.zero_mul, Nat.add_zero, ite_self, Nat.sub_zero, Int.toNat_natCast]
end
theorem flatten_drop {α : Type} {k : Nat} : ∀ (css : List (List α)) (_ : ∀ cs ∈ css, cs.length = k) (j : Nat), (css.drop j).flatten = css.flatten.drop (j * k)
  | [], _, j => by simp
  | c :: t, h, 0 => by simp
  | c :: t, h, j + 1 => by
    have hc := h c (by simp)
    have h0 : c.drop (j * k + k) = [] := List.drop_eq_nil_of_le (by omega)
    rw [List.drop_succ_cons, List.flatten_cons, List.drop_append, hc, Nat.succ_mul, show j * k + k - k = j * k by omega, h0, List.nil_append]
    exact flatten_drop t (fun cs hcs => h cs (by simp [hcs])) j
/-- 'm[k] = v' in a range over m, where k was met: what is still to come stays. -/
theorem Ranges.update {P : Program} {t k e : TypeId} {w : World} {it r : Nat} {m left : List (Int × Value)} (h : Ranges w it r m left) (ht : P.underlying t = some (.map k e)) (hk : P.underlying k = some (.int .i64)) (n : Int) (v : Value)
    (hin : ∃ u, (n, u) ∈ m) (hout : ∀ x ∈ left, x.1 ≠ n) :
    ∃ w', (Instr.mapUpdate t (.map (some r)) (.int .i64 n) v).run P w = .ok () w' ∧ Ranges w' it r (aset m n v) left ∧ Turned r w w' := by
  obtain ⟨es, clock, seen, hb, hm, hn, hbo, hbn, hit, rfl⟩ := h
  have hmi : MapIs w r m := ⟨es, clock, hb, hm, hn, hbo, hbn⟩
  obtain ⟨es', clock', hb', hm', hn', hbo', hbn', hf⟩ := hmi.find n
  rw [hb] at hb'
  cases hb'
  have hkey : IsKey (.int .i64) (.int .i64 n) := rfl
  rcases hf with ⟨h1, h2⟩ | ⟨j, x, u, h1, h2, h3, h4, h5⟩
  · obtain ⟨u, hu⟩ := hin
    exact absurd rfl (h2 _ hu)
  · have hj : es[j]? = some x := by simpa using h2
    have hjl : j < es.toList.length := (List.getElem?_eq_some_iff.1 h2).1
    have hx : es.toList[j] = x := by rw [List.getElem?_eq_getElem hjl] at h2; exact Option.some.inj h2
    have hmod : (es.modify j (fun e' => { e' with key := .int .i64 n, val := v })).toList = es.toList.set j { x with key := .int .i64 n, val := v } := by
      rw [Array.toList_modify, modify_eq_set _ _ _ _ h2]
    have hne : it ≠ r := by intro e; rw [e, hb] at hit; cases hit
    have hseen : seen.contains x.born = true := by
      by_cases hs : seen.contains x.born = true
      · exact hs
      · exfalso
        have hxl : x ∈ (leftOf es seen).toList := by
          unfold leftOf
          rw [Array.toList_filter, List.mem_filter]
          exact ⟨List.mem_of_getElem? h2, by simpa using hs⟩
        have := hout (unp x) (List.mem_map.2 ⟨x, hxl, rfl⟩)
        apply this
        simp [unp, h3, intOf]
    refine ⟨setBlock w r (.map (es.modify j (fun e' => { e' with key := .int .i64 n, val := v })) clock), ?_, ⟨_, clock, seen, heap_setBlock_same hb _, ?_, nodup_aset hn n v, ?_, ?_, ?_, ?_⟩, turned_set hb⟩
    · simp [Instr.mapUpdate, run_underlying ht, MapKept.run_getObj_map hb, run_checkKey hk hkey, run_findKey hk h1, hj, h3, run_keyThatStays hkey, MapKept.run_setObj_map _ hb, Result.andThen, setBlock]
    · rw [hmod, aset_at hn h5, List.map_set, hm, List.map_set]; rfl
    · intro y hy
      rw [hmod] at hy
      rcases List.mem_or_eq_of_mem_set hy with hy | rfl
      · exact hbo y hy
      · exact hbo x (List.mem_of_getElem? h2)
    · rw [hmod, List.map_set]
      have : (es.toList.map (·.born)).set j x.born = es.toList.map (·.born) := by
        apply List.ext_getElem
        · simp
        · intro i h1 h2
          simp only [List.getElem_set]
          split
          · rename_i hij; subst hij; simp [← hx]
          · rfl
      show ((es.toList.map (·.born)).set j x.born).Nodup
      rw [this]; exact hbn
    · rw [sb_other hne]; exact hit
    · unfold leftOf
      rw [Array.toList_filter, Array.toList_filter, hmod]
      congr 1
      have hset : ∀ (l : List MapEntry) (j : Nat) (y : MapEntry) (q : MapEntry → Bool), l[j]? = some x → q x = false → q y = false → (l.set j y).filter q = l.filter q := by
        intro l
        induction l with
        | nil => intro j y q _ _ _; rfl
        | cons a l ih =>
          intro j y q ha hq hy
          cases j with
          | zero =>
            simp at ha; subst ha
            simp [hq, hy]
          | succ j =>
            simp only [List.getElem?_cons_succ] at ha
            simp only [List.set_cons_succ, List.filter_cons, ih j y q ha hq hy]
      rw [hset es.toList j _ _ h2 (by simpa using hseen) (by simpa using hseen)]
end Sc
