/- ValidRows: 'append(append([]api.Tx{}, l...), t)', in whatever order the two new blocks are laid. -/
import Derived.Test.YtnjidpmggggiiaaRows16
namespace Go.Proofs
open Go.RowKit Sc

theorem ownsRow_upT {w w' : World} {B T k n : Nat} {v : Value} {xs : List Value} (h : w.ownsRow B T k v n xs) (hb : Below w.heap.size w w') : w'.ownsRow B T k v n xs :=
  row_same (F := fun q => q < w.heap.size) (fun q hq => hb.block q hq) h (fun g hg => (h.lt g hg).2)
theorem rowT_one {W : World} {l : List Tx} {xs : List Value} (h : RowT W l xs) : ∀ u ∈ xs, u.oneCell' = true := fun u hu => by
  obtain ⟨i, hi, rfl⟩ := List.mem_iff_getElem.1 hu
  have hl := h.1
  obtain ⟨pv, e1, e2, _, e4⟩ := h.2 (i / 2) (by omega)
  rcases (show i = i / 2 * 2 ∨ i = i / 2 * 2 + 1 by omega) with hh | hh
  · rw [← hh, List.getElem?_eq_getElem hi] at e1
    rw [show xs[i] = _ from Option.some.inj e1]; rfl
  · rw [← hh, List.getElem?_eq_getElem hi] at e2
    obtain ⟨_, _, hv, _⟩ := e4
    rw [show xs[i] = _ from Option.some.inj e2, hv]; rfl
/-- The whole argument, onto an empty slice of one's own. -/
theorem pushT_at {w W V : World} {B : Nat} (hW : Below B V W) (hB : B ≤ W.heap.size) {k : Nat} (hk : W.ownsRow B 49 2 (.slice (some ⟨k, 0, none⟩) 0 0) 0 []) {p : Option Addr} {c : Nat} {l : List Tx} {xs : List Value} (hr : RowT w l xs)
    (hp : p = none → l.length = 0 ∧ c = 0) (hx : ∀ a, p = some a → ∀ j u, xs[j]? = some u → W.cell? (a.add j) = some u) (hl : l.length ≤ 100000) :
    ∃ g1 c1 w1, (Builtin.append_ #[78, 78] 78 #[.slice (some ⟨k, 0, none⟩) 0 0, .slice p l.length c]).run Try.prog W = .ok (.slice (some ⟨g1, 0, none⟩) l.length c1) w1 ∧
      Hid (w1.ownsRow B 49 2 (.slice (some ⟨g1, 0, none⟩) l.length c1) l.length xs) ∧ Hid (Below B V w1) ∧ Hid (W.grownBy w1 (some k)) := by
  obtain ⟨i0, hi0, hz0, hz1, hz2⟩ := info_parts infoTx16
  have hkl := (hk.lt k rfl).1
  obtain ⟨v', w', hr, h2, h3, h4⟩ := run_append_any0 (P := Try.prog) W 78 78 B 49 i0 (.agg #[.int .i64 0, .slice none 0 0]) 2 32 Try.underlying78 hi0 hz0 hz1 hz2 rfl (by decide) _ 0 [] hk p l.length c hp xs hr.1 hx (rowT_one hr) (by unfold maxLen; omega) (by omega) hB
  have hb1 : Below B V w' := hW.grown h3 hB (fun q hq => by cases hq; exact hkl)
  rw [Nat.zero_add, List.nil_append] at h2
  obtain ⟨hx, ⟨rfl, _⟩ | ⟨g, cap, cur, rfl, hrest⟩⟩ := id h2
  · exfalso
    rcases h4 with h4 | h4 <;> simp [Value.ownBlock] at h4
  · exact ⟨g, cap, w', hr, h2, hb1, h3⟩
/-- One more. -/
theorem pushT_one {W V : World} {B : Nat} (hW : Below B V W) (hB : B ≤ W.heap.size) {g n c : Nat} {xs : List Value} (hown : W.ownsRow B 49 2 (.slice (some ⟨g, 0, none⟩) n c) n xs) (b : Nat) (x : Int) (pv : Value) (h1 : pv.oneCell' = true) (hc : W.cell? ⟨b, 0, none⟩ = some (.int .i64 x)) (hc2 : W.cell? ⟨b, 1, none⟩ = some pv) (hn : n ≤ 100000) :
    ∃ g2 c2 w2, (Builtin.append_ #[78, 78] 78 #[.slice (some ⟨g, 0, none⟩) n c, .slice (some ⟨b, 0, none⟩) 1 1]).run Try.prog W = .ok (.slice (some ⟨g2, 0, none⟩) (n + 1) c2) w2 ∧
      Hid (w2.ownsRow B 49 2 (.slice (some ⟨g2, 0, none⟩) (n + 1) c2) (n + 1) (xs ++ [.int .i64 x, pv])) ∧ Hid (Below B V w2) := by
  obtain ⟨i0, hi0, hz0, hz1, hz2⟩ := info_parts infoTx16
  have hkl := (hown.lt g rfl).1
  obtain ⟨v', w', hr, h2, h3, h4⟩ := run_append_any0 (P := Try.prog) W 78 78 B 49 i0 (.agg #[.int .i64 0, .slice none 0 0]) 2 32 Try.underlying78 hi0 hz0 hz1 hz2 rfl (by decide) _ n xs hown (some ⟨b, 0, none⟩) 1 1 (fun hp => by cases hp) [.int .i64 x, pv] rfl (fun a ha j u hj => by
    cases ha
    match j with
    | 0 => simp only [List.getElem?_cons_zero] at hj; cases hj; exact hc
    | 1 => simp only [List.getElem?_cons_succ, List.getElem?_cons_zero] at hj; cases hj; exact hc2
    | j + 2 => simp at hj) (fun u hu => by
    rcases List.mem_cons.1 hu with rfl | hu
    · rfl
    · rw [List.mem_singleton] at hu; subst hu; exact h1) (by unfold maxLen; omega) (by omega) hB
  have hb1 : Below B V w' := hW.grown h3 hB (fun q hq => by cases hq; exact hkl)
  obtain ⟨hx, ⟨rfl, _⟩ | ⟨g', cap, cur, rfl, hrest⟩⟩ := id h2
  · exfalso
    rcases h4 with h4 | h4 <;> simp [Value.ownBlock] at h4
  · exact ⟨g', cap, w', hr, h2, hb1⟩
/-- Both, where both blocks are there. -/
theorem pushT_all {w W V : World} {B : Nat} (hW : Below B V W) (hB : B ≤ W.heap.size) {k b : Nat} (hk : W.ownsRow B 49 2 (.slice (some ⟨k, 0, none⟩) 0 0) 0 []) (hb : b ≠ k) {p : Option Addr} {c : Nat} {l : List Tx} {xs : List Value} (hr : RowT w l xs)
    (hp : p = none → l.length = 0 ∧ c = 0) (hx : ∀ a, p = some a → ∀ j u, xs[j]? = some u → W.cell? (a.add j) = some u) (hl : l.length ≤ 90000) (x : Int) (pv : Value) (h1 : pv.oneCell' = true) (hc : W.cell? ⟨b, 0, none⟩ = some (.int .i64 x)) (hc2 : W.cell? ⟨b, 1, none⟩ = some pv) :
    ∃ g1 c1 w1 g2 c2 w2, (Builtin.append_ #[78, 78] 78 #[.slice (some ⟨k, 0, none⟩) 0 0, .slice p l.length c]).run Try.prog W = .ok (.slice (some ⟨g1, 0, none⟩) l.length c1) w1 ∧
      (Builtin.append_ #[78, 78] 78 #[.slice (some ⟨g1, 0, none⟩) l.length c1, .slice (some ⟨b, 0, none⟩) 1 1]).run Try.prog w1 = .ok (.slice (some ⟨g2, 0, none⟩) (l.length + 1) c2) w2 ∧
      Hid (w2.ownsRow B 49 2 (.slice (some ⟨g2, 0, none⟩) (l.length + 1) c2) (l.length + 1) (xs ++ [.int .i64 x, pv])) ∧ Hid (Below B V w2) := by
  obtain ⟨g1, c1, w1, h1', h2, h3, h4⟩ := pushT_at hW hB hk hr hp hx (by omega)
  have hxl := World.block_lt_of_cell? _ _ hc
  have hne : ¬ some k = some b := fun e => hb (by cases e; rfl)
  have hx1 : w1.cell? ⟨b, 0, none⟩ = some (.int .i64 x) := (World.cell?_of_block (h4.out.block b hxl (fun e => hb (by cases e; rfl)))).trans hc
  have hx2 : w1.cell? ⟨b, 1, none⟩ = some pv := (World.cell?_of_block (h4.out.block b hxl (fun e => hb (by cases e; rfl)))).trans hc2
  obtain ⟨g2, c2, w2, k1, k2, k3⟩ := pushT_one h3.out (Nat.le_trans hB h4.out.size) h2.out b x pv h1 hx1 hx2 (by omega)
  exact ⟨g1, c1, w1, g2, c2, w2, h1', k1, k2, k3⟩
/-- What is said of it behind the last append. -/
theorem pushT_done {w V w2 : World} {B : Nat} (hwV : Below w.heap.size w V) (hB : w.heap.size ≤ B) (h : Below B V w2) {l : List Tx} {xs : List Value} (hr : RowT w l xs) {t : Tx} {pv : Value} (ht : I64 t.time) (hp : PutsAt (Old w) w pv t.puts) {v : Value}
    (ho : w2.ownsRow B 49 2 v (l.length + 1) (xs ++ [.int .i64 t.time, pv])) : TxsAt (Old w2) w2 v (l ++ [t]) :=
  (hr.snoc ht hp).txs (hwV.trans (h.mono hB)) (by rw [List.length_append]; exact ho)
end Go.Proofs
