/- Rows of cells that read as elements, wherever they come to lie; of no program. -/
import Derived.Test.YtjomlcemnbfnfaaSep
namespace Sc
open Go Go.RowKit

theorem addr_addV (g o j : Nat) : (⟨g, o, none⟩ : Addr).add j = ⟨g, o + j, none⟩ := by unfold Addr.add; split <;> simp_all
/-- These cells, wherever they lie in a world that has grown from W, are these elements. -/
def RowV {α : Type} (W : World) (k : Nat) (E : Elem α) (l : List α) (xs : List Value) : Prop :=
  xs.length = l.length * k ∧ (∀ u ∈ xs, u.oneCell' = true) ∧ ∀ w b o, Below W.heap.size W w → (∀ j u, xs[j]? = some u → w.cell? ⟨b, o + j, none⟩ = some u) → ∀ i (h : i < l.length), E w b (o + i * k) l[i]
theorem RowV.nil {α : Type} (W : World) (k : Nat) (E : Elem α) : RowV W k E [] [] := ⟨by simp, fun u h => absurd h (by simp), fun w b o _ _ i h => absurd h (by simp)⟩
theorem RowV.append {α : Type} {W : World} {k : Nat} {E : Elem α} {l m : List α} {xs ys : List Value} (h : RowV W k E l xs) (h2 : RowV W k E m ys) : RowV W k E (l ++ m) (xs ++ ys) := by
  obtain ⟨a1, a2, a3⟩ := h
  obtain ⟨b1, b2, b3⟩ := h2
  refine ⟨by rw [List.length_append, List.length_append, a1, b1, Nat.add_mul], fun u hu => (List.mem_append.1 hu).elim (a2 u) (b2 u), fun w b o hb hc i hi => ?_⟩
  by_cases hl : i < l.length
  · rw [List.getElem_append_left hl]
    exact a3 w b o hb (fun j u hu => hc j u (by rw [List.getElem?_append_left (List.getElem?_eq_some_iff.1 hu).1]; exact hu)) i hl
  · have hi' : i - l.length < m.length := by rw [List.length_append] at hi; omega
    rw [List.getElem_append_right (by omega)]
    have := b3 w b (o + l.length * k) hb (fun j u hu => by
      have := hc (l.length * k + j) u (by rw [List.getElem?_append_right (by omega), a1, Nat.add_sub_cancel_left]; exact hu)
      rwa [← Nat.add_assoc] at this) (i - l.length) hi'
    rwa [Nat.add_assoc, ← Nat.add_mul, show l.length + (i - l.length) = i by omega] at this
/-- What is known of an element is known of its cells alone. -/
def Moves {α : Type} (W : World) (k : Nat) (E0 E : Elem α) : Prop :=
  ∀ b o x, E0 W b o x → (∀ t, t < k → ∃ u, W.cell? ⟨b, o + t, none⟩ = some u ∧ u.oneCell' = true) ∧
    ∀ w b' o', Below W.heap.size W w → (∀ t, t < k → ∀ u, W.cell? ⟨b, o + t, none⟩ = some u → w.cell? ⟨b', o' + t, none⟩ = some u) → E w b' o' x
theorem RowV.of_sl {α : Type} {W : World} {G : Nat → Prop} {k : Nat} {E0 E : Elem α} {p : Option Addr} {n c : Nat} {l : List α} (hm : Moves W k E0 E) (hk : 0 < k) (h : SlAt G k E0 W (.slice p n c) l) :
    ∃ xs, RowV W k E l xs ∧ ∀ a, p = some a → ∀ j u, xs[j]? = some u → W.cell? (a.add j) = some u := by
  obtain ⟨p', c', hv, _, _, _, h5⟩ := h
  cases hv
  have key : ∀ m, m ≤ l.length → ∃ xs, RowV W k E (l.take m) xs ∧ ∀ a, p = some a → ∀ j u, xs[j]? = some u → W.cell? (a.add j) = some u := by
    intro m
    induction m with
    | zero => intro _; exact ⟨[], by rw [List.take_zero]; exact RowV.nil W k E, fun a _ j u hu => by simp at hu⟩
    | succ m ih =>
      intro hn
      obtain ⟨xs, h1, h2⟩ := ih (by omega)
      obtain ⟨b, o, rfl, hb, he⟩ := h5 m (by omega)
      obtain ⟨hc, hmv⟩ := hm _ _ _ he
      have hys : ∃ ys : List Value, ys.length = k ∧ ∀ t, t < k → ∃ u, ys[t]? = some u ∧ W.cell? ⟨b, o + m * k + t, none⟩ = some u ∧ u.oneCell' = true := by
        refine ⟨(List.range k).map fun t => (W.cell? ⟨b, o + m * k + t, none⟩).getD (.bool false), by simp, fun t ht => ?_⟩
        obtain ⟨u, hu, h1⟩ := hc t ht
        refine ⟨u, ?_, hu, h1⟩
        rw [List.getElem?_map, List.getElem?_range ht, Option.map_some, hu]; rfl
      obtain ⟨ys, hyl, hy⟩ := hys
      have hone : RowV W k E [l[m]] ys := by
        refine ⟨by simp [hyl], fun u hu => ?_, fun w b' o' hbw hcw i hi => ?_⟩
        · obtain ⟨t, ht, rfl⟩ := List.getElem_of_mem hu
          obtain ⟨u, h1, _, h3⟩ := hy t (by omega)
          rw [List.getElem?_eq_getElem ht] at h1
          cases h1; exact h3
        · have hi0 : i = 0 := by simpa using hi
          subst hi0
          rw [Nat.zero_mul, Nat.add_zero]
          refine hmv w b' o' hbw fun t ht u hu => ?_
          obtain ⟨u', h1, h3, _⟩ := hy t ht
          rw [hu] at h3
          cases h3
          exact hcw t u h1
      have hxl := h1.1
      rw [List.length_take, Nat.min_eq_left (by omega)] at hxl
      refine ⟨xs ++ ys, ?_, fun a ha j u hu => ?_⟩
      · rw [List.take_succ_eq_append_getElem (by omega)]
        exact h1.append hone
      · cases ha
        rcases Nat.lt_or_ge j (m * k) with hj | hj
        · rw [List.getElem?_append_left (by omega)] at hu
          exact h2 _ rfl j u hu
        · rw [List.getElem?_append_right (by omega), hxl] at hu
          have hjl := (List.getElem?_eq_some_iff.1 hu).1
          obtain ⟨u', e1, e2, _⟩ := hy (j - m * k) (by omega)
          rw [hu] at e1
          cases e1
          rw [addr_addV, show o + j = o + m * k + (j - m * k) by omega]
          exact e2
  obtain ⟨xs, h1, h2⟩ := key l.length (Nat.le_refl _)
  rw [List.take_length] at h1
  exact ⟨xs, h1, h2⟩
/-- A row of one's own that holds them. -/
theorem RowV.done {α : Type} {W w : World} {k : Nat} {E : Elem α} {l : List α} {xs : List Value} {B : Nat} {T : TypeId} {v : Value} (h : RowV W k E l xs) (hb : Below W.heap.size W w) (ho : w.ownsRow B T k v l.length xs) : SlAt (fun q => v.ownBlock = some q) k E w v l := by
  have hrow := ho
  obtain ⟨hx, hc | ⟨g, cap, cur, rfl, hbb, hg, hnc, hcm, hcs, htake⟩⟩ := ho
  · obtain ⟨rfl, hl0⟩ := hc
    obtain rfl : l = [] := List.length_eq_zero_iff.1 hl0
    exact SlAt.nil
  · refine ⟨_, cap, rfl, hnc, by unfold maxLen at hcm; omega, (by intro hh; cases hh), fun i hi => ⟨g, 0, rfl, rfl, h.2.2 w g 0 hb (fun j u hu => ?_) i hi⟩⟩
    rw [Nat.zero_add, hrow.cellAt j (by rw [← hx]; exact (List.getElem?_eq_some_iff.1 hu).1)]
    exact hu
/-- A part of a slice. -/
theorem SlAt.cut {α : Type} {W : World} {G : Nat → Prop} {k : Nat} {E : Elem α} {b o n c : Nat} {l : List α} (h : SlAt G k E W (.slice (some ⟨b, o, none⟩) n c) l) (i m : Nat) (hm : i + m ≤ l.length) : SlAt G k E W (.slice (some ⟨b, o + i * k, none⟩) m (c - i)) ((l.drop i).take m) := by
  obtain ⟨p', c', hv, h1, h2, h3, h5⟩ := h
  cases hv
  have hl : ((l.drop i).take m).length = m := by rw [List.length_take, List.length_drop]; omega
  refine ⟨_, c - i, by rw [hl], by omega, by omega, (by intro hh; cases hh), fun j hj => ?_⟩
  rw [hl] at hj
  obtain ⟨b', o', he, hb', hc1⟩ := h5 (i + j) (by omega)
  cases he
  refine ⟨b, o + i * k, rfl, hb', ?_⟩
  rw [List.getElem_take, List.getElem_drop, Nat.add_assoc, ← Nat.add_mul]
  exact hc1
theorem histE_moves (W : World) : Moves W 7 (histE (Old W)) (histE (Old W)) := by
  rintro b o x ⟨h0, h1, h2, h3, h4, hi, ⟨rv, h5, hr⟩, pv, h6, hp⟩
  have hr1 : rv.oneCell' = true := by obtain ⟨p, c, rfl, _⟩ := hr; rfl
  have hp1 : pv.oneCell' = true := by obtain ⟨p, c, rfl, _⟩ := hp; rfl
  refine ⟨fun t ht => ?_, fun w b' o' hb hc => ?_⟩
  · rcases (show t = 0 ∨ t = 1 ∨ t = 2 ∨ t = 3 ∨ t = 4 ∨ t = 5 ∨ t = 6 by omega) with rfl | rfl | rfl | rfl | rfl | rfl | rfl
    · exact ⟨_, h0, rfl⟩
    · exact ⟨_, h1, rfl⟩
    · exact ⟨_, h2, rfl⟩
    · exact ⟨_, h3, rfl⟩
    · exact ⟨_, h4, rfl⟩
    · exact ⟨_, h5, hr1⟩
    · exact ⟨_, h6, hp1⟩
  · have hs : Same (Old W) W w := fun k hk => hb.block k hk
    exact ⟨hc 0 (by omega) _ h0, hc 1 (by omega) _ h1, hc 2 (by omega) _ h2, hc 3 (by omega) _ h3, hc 4 (by omega) _ h4, hi, ⟨rv, hc 5 (by omega) _ h5, hr.same hs⟩, pv, hc 6 (by omega) _ h6, hp.same hs⟩
theorem histE_mono {G G' : Nat → Prop} {w : World} {b o : Nat} {x : Hist} (h : histE G w b o x) (hg : ∀ k, G k → G' k) : histE G' w b o x := by
  obtain ⟨h0, h1, h2, h3, h4, hi, ⟨rv, h5, hr⟩, pv, h6, hp⟩ := h
  exact ⟨h0, h1, h2, h3, h4, hi, ⟨rv, h5, SlAt.mono hr hg (fun _ _ _ h => ⟨h.1, h.2.1, let ⟨v, a, b⟩ := h.2.2.1; ⟨v, a, b.mono hg⟩, h.2.2.2⟩)⟩, pv, h6, hp.mono hg⟩
theorem RowV.one {α : Type} {W : World} {k : Nat} {E0 E : Elem α} {b o : Nat} {x : α} {ys : List Value} (hm : Moves W k E0 E) (he : E0 W b o x) (hl : ys.length = k) (hy : ∀ t, t < k → W.cell? ⟨b, o + t, none⟩ = ys[t]?) : RowV W k E [x] ys := by
  obtain ⟨hc, hmv⟩ := hm _ _ _ he
  refine ⟨by simp [hl], fun u hu => ?_, fun w b' o' hbw hcw i hi => ?_⟩
  · obtain ⟨t, ht, rfl⟩ := List.getElem_of_mem hu
    obtain ⟨u, h1, h3⟩ := hc t (by omega)
    rw [hy t (by omega), List.getElem?_eq_getElem ht] at h1
    cases h1; exact h3
  · have hi0 : i = 0 := by simpa using hi
    subst hi0
    rw [Nat.zero_mul, Nat.add_zero]
    exact hmv w b' o' hbw fun t ht u hu => hcw t u (by rw [← hy t ht]; exact hu)
theorem histE_movesG {W : World} {G : Nat → Prop} (hG : ∀ k, G k → k < W.heap.size) : Moves W 7 (histE G) (histE G) := by
  rintro b o x ⟨h0, h1, h2, h3, h4, hi, ⟨rv, h5, hr⟩, pv, h6, hp⟩
  have hr1 : rv.oneCell' = true := by obtain ⟨p, c, rfl, _⟩ := hr; rfl
  have hp1 : pv.oneCell' = true := by obtain ⟨p, c, rfl, _⟩ := hp; rfl
  refine ⟨fun t ht => ?_, fun w b' o' hb hc => ?_⟩
  · rcases (show t = 0 ∨ t = 1 ∨ t = 2 ∨ t = 3 ∨ t = 4 ∨ t = 5 ∨ t = 6 by omega) with rfl | rfl | rfl | rfl | rfl | rfl | rfl
    · exact ⟨_, h0, rfl⟩
    · exact ⟨_, h1, rfl⟩
    · exact ⟨_, h2, rfl⟩
    · exact ⟨_, h3, rfl⟩
    · exact ⟨_, h4, rfl⟩
    · exact ⟨_, h5, hr1⟩
    · exact ⟨_, h6, hp1⟩
  · have hs : Same G W w := fun k hk => hb.block k (hG k hk)
    exact ⟨hc 0 (by omega) _ h0, hc 1 (by omega) _ h1, hc 2 (by omega) _ h2, hc 3 (by omega) _ h3, hc 4 (by omega) _ h4, hi, ⟨rv, hc 5 (by omega) _ h5, hr.same hs⟩, pv, hc 6 (by omega) _ h6, hp.same hs⟩
end Sc
