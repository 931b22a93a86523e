/- Package ival: joined. -/
import Derived.Test.YteodkepnalhceaaSortExt
import Derived.Test.YteodkepnalhceaaClone
import Derived.Test.YteodkepnalhceaaSep
import Derived.Test.YteodkepnalhceaaInfo
import Derived.Deep.RegionHeld3
import Derived.StillTailTactics
namespace Go.Proofs
open Go.RowKit Sc

set_option maxHeartbeats 400000 in
theorem cloneExt_nil (w : World) : Calls Try.prog 46 #[.slice none 0 0] w fun e w' => e = .returned (.slice none 0 0) ∧ w = w' := by
  have heq := fun (W : World) => Lib.run_eql_slice_nil (P := Try.prog) W 29 28 none 0 0 0 0 Try.underlying29
  go_enter Try.func46, Try.ntmps46
  go_wp2
  go_ret
  exact ⟨rfl, rfl⟩
set_option maxHeartbeats 400000 in
theorem cloneExt_some (a : Addr) (n c : Nat) (news : List Value) (w : World) (hlen : Hid (news.length = n * 2)) (hcell : Hid (∀ j u, news[j]? = some u → w.cell? (a.add j) = some u)) (hone : Hid (∀ u ∈ news, u.oneCell' = true)) (hn : Hid (n ≤ 1000000)) :
    Calls Try.prog 46 #[.slice (some a) n c] w fun e w' => ∃ v', e = .returned v' ∧ Hid (w'.ownsRow w.heap.size 28 2 v' n news) ∧ Hid (Below w.heap.size w w') := by
  obtain ⟨i0, hi, hz0, hz1, hz2⟩ := info_parts infoExt
  have heq := fun (W : World) => Lib.run_eql_slice_nil (P := Try.prog) W 29 28 (some a) n c 0 0 Try.underlying29
  go_enter Try.func46, Try.ntmps46
  go_wp2_with (at_builtin; refine wpList_append_own _ rfl _ _ 29 rfl w.heap.size 28 i0 (.agg #[.int .i64 0, .int .i64 0]) 2 16 Try.underlying29 hi hz0 hz1 hz2 rfl (by decide) _ 0 [] rfl (World.ownsRow_made w _ 0 (Nat.le_refl _) (by decide) rfl) a n c news rfl hlen.out (fun j u hj => cell_alloc_old (hcell.out j u hj)) hone.out (by have := hn.out; unfold maxLen; omega) (by have := hn.out; omega) (by simp) ?_; intro v' w1 hown hgrow hnil)
  go_ret
  refine ⟨v', rfl, by unfold Hid; simpa using hown, ?_⟩
  refine ((Below.refl _ _).alloc (Nat.le_refl _) _).grown hgrow (by simp) (fun k hk => ?_)
  cases hk; exact Nat.le_refl _

/-- Cells of some extents. -/
def flatE (l : List Ext) : List Value := l.flatMap fun e => [.int .i64 e.first, .int .i64 e.len]
theorem flatE_length (l : List Ext) : (flatE l).length = l.length * 2 := by
  unfold flatE
  induction l with
  | nil => rfl
  | cons e l ih => simp [ih]; omega
theorem flatE_get : ∀ (l : List Ext) (i : Nat) (h : i < l.length), (flatE l)[i * 2]? = some (.int .i64 l[i].first) ∧ (flatE l)[i * 2 + 1]? = some (.int .i64 l[i].len)
  | e :: l, 0, _ => ⟨rfl, rfl⟩
  | e :: l, i + 1, h => by
    obtain ⟨h1, h2⟩ := flatE_get l i (by simpa using h)
    have e1 : (i + 1) * 2 = i * 2 + 1 + 1 := by omega
    simp only [e1, List.getElem_cons_succ]
    exact ⟨h1, h2⟩
theorem flatE_append (a b : List Ext) : flatE (a ++ b) = flatE a ++ flatE b := by unfold flatE; simp
theorem flatE_one (l : List Ext) : ∀ u ∈ flatE l, u.oneCell' = true := by
  intro u hu
  obtain ⟨e, _, he⟩ := List.mem_flatMap.1 hu
  simp at he
  rcases he with rfl | rfl <;> rfl
/-- The cells of a slice of extents. -/
theorem extsAt_news {G : Nat → Prop} {w : World} {a : Addr} {n c : Nat} {l : List Ext} (h : ExtsAt G w (.slice (some a) n c) l) : ∀ j u, (flatE l)[j]? = some u → w.cell? (a.add j) = some u := by
  obtain ⟨p, c', he, _, _, _, h4⟩ := h
  cases he
  intro j u hj
  have hjl : j < l.length * 2 := by rw [← flatE_length]; exact (List.getElem?_eq_some_iff.1 hj).1
  obtain ⟨q, hq⟩ : ∃ q, j = q * 2 ∨ j = q * 2 + 1 := ⟨j / 2, by omega⟩
  have hql : q < l.length := by omega
  obtain ⟨b, o, hp, _, h1, h2, _⟩ := h4 q hql
  cases hp
  obtain ⟨g1, g2⟩ := flatE_get l q hql
  have hadd : (⟨b, o, none⟩ : Addr).add j = ⟨b, o + j, none⟩ := by unfold Addr.add; split <;> simp_all
  rw [hadd]
  rcases hq with rfl | rfl
  · rw [g1] at hj; cases hj; exact h1
  · rw [g2] at hj; cases hj; exact h2
theorem extsAt_shape {G : Nat → Prop} {w : World} {v : Value} {l : List Ext} (h : ExtsAt G w v l) : ∃ p c, v = .slice p l.length c := by
  obtain ⟨p, c, rfl, _⟩ := h
  exact ⟨p, c, rfl⟩
/-- A row of extents of one's own. -/
theorem row_extsAt {w : World} {B n : Nat} {v : Value} {l : List Ext} (G : Nat → Prop) (hl : l.length = n) (hi : ∀ e ∈ l, I64 e.first ∧ I64 e.len) (hG : ∀ k, B ≤ k → k < w.heap.size → G k) (h : w.ownsRow B 28 2 v n (flatE l)) : ExtsAt G w v l := by
  have hlt := h.lt
  have hrow := h
  obtain ⟨hx, hc | ⟨g, cap, cur, rfl, hb, hg, hnc, hcm, hcs, htake⟩⟩ := h
  · obtain ⟨rfl, rfl⟩ := hc
    obtain rfl : l = [] := List.length_eq_zero_iff.1 hl
    exact SlAt.nil
  · have hgl := hlt g rfl
    subst hl
    refine ⟨_, cap, rfl, hnc, by unfold maxLen at hcm; omega, (by intro hh; cases hh), fun i hi' => ⟨g, 0, rfl, hG g hgl.1 hgl.2, ?_⟩⟩
    obtain ⟨g1, g2⟩ := flatE_get l i hi'
    have he := hi _ (List.getElem_mem hi')
    refine ⟨?_, ?_, he⟩
    · rw [Nat.zero_add, hrow.cellAt (i * 2) (by omega)]; exact g1
    · rw [Nat.zero_add, hrow.cellAt (i * 2 + 1) (by omega)]; exact g2
end Go.Proofs
