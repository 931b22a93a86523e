/- ValidRows: a slice of transactions of one's own, whose Puts lie in what was handed in. -/
import Derived.Test.YtnjidpmggggiiaaLaw16
import Derived.Test.YtnjidpmggggiiaaRows16Plain
import Derived.Test.YtnjidpmggggiiaaReads16
import Derived.Test.YtnjidpmggggiiaaRefOrder16
import Derived.Test.YtnjidpmggggiiaaConcat0
import Derived.Test.YtnjidpmggggiiaaInfo
namespace Go.Proofs
open Go.RowKit Sc

theorem infoTx16 : (Try.prog.info? 49).map (fun i => (i.zero, i.size, i.bytes)) = some (some (.agg #[.int .i64 0, .slice none 0 0]), 2, 32) := by kernel_rfl
/-- The cells of a row of transactions. -/
def RowT (W : World) (l : List Tx) (xs : List Value) : Prop := xs.length = l.length * 2 ∧ ∀ j (h : j < l.length), ∃ pv, xs[j * 2]? = some (.int .i64 l[j].time) ∧ xs[j * 2 + 1]? = some pv ∧ I64 l[j].time ∧ PutsAt (Old W) W pv l[j].puts
theorem RowT.nil (W : World) : RowT W [] [] := ⟨rfl, fun j h => absurd h (by simp)⟩
theorem RowT.snoc {W : World} {l : List Tx} {xs : List Value} (h : RowT W l xs) {t : Tx} {pv : Value} (ht : I64 t.time) (hp : PutsAt (Old W) W pv t.puts) : RowT W (l ++ [t]) (xs ++ [.int .i64 t.time, pv]) := by
  obtain ⟨h1, h2⟩ := h
  refine ⟨by simp [h1]; omega, fun j hj => ?_⟩
  by_cases hlt : j < l.length
  · obtain ⟨p, e1, e2, e3, e4⟩ := h2 j hlt
    rw [List.getElem_append_left hlt]
    exact ⟨p, by rw [List.getElem?_append_left (by omega)]; exact e1, by rw [List.getElem?_append_left (by omega)]; exact e2, e3, e4⟩
  · have hj0 : j = l.length := by simp at hj; omega
    subst hj0
    rw [List.getElem_append_right (Nat.le_refl _)]
    simp only [Nat.sub_self, List.getElem_cons_zero]
    exact ⟨pv, by rw [List.getElem?_append_right (by omega), h1, Nat.sub_self]; rfl, by rw [List.getElem?_append_right (by omega), h1, show l.length * 2 + 1 - l.length * 2 = 1 by omega]; rfl, ht, hp⟩
theorem RowT.txs {W w : World} {l : List Tx} {xs : List Value} {B : Nat} {T : TypeId} {v : Value} (h : RowT W l xs) (hb : Below W.heap.size W w) (ho : w.ownsRow B T 2 v l.length xs) : TxsAt (Old w) w v l := by
  have hrow := ho
  have hz := hb.size
  obtain ⟨hx, hc | ⟨g, cap, cur, rfl, hbb, hg, hnc, hcm, hcs, htake⟩⟩ := ho
  · obtain ⟨rfl, hl0⟩ := hc
    obtain rfl : l = [] := List.length_eq_zero_iff.1 hl0
    exact SlAt.nil
  · have hgl := (hrow.lt g rfl).2
    refine ⟨_, cap, rfl, hnc, by unfold maxLen at hcm; omega, (by intro hh; cases hh), fun i hi => ⟨g, 0, rfl, hgl, ?_⟩⟩
    obtain ⟨pv, e1, e2, e3, e4⟩ := h.2 i hi
    refine ⟨?_, e3, pv, ?_, (PutsAt.same e4 fun k hk => hb.block k hk).mono fun k (hk : k < W.heap.size) => (show k < w.heap.size by omega)⟩
    · rw [Nat.zero_add, hrow.cellAt (i * 2) (by omega), e1]
    · rw [Nat.zero_add, hrow.cellAt (i * 2 + 1) (by omega), e2]
theorem addr_add16 (g o j : Nat) : (⟨g, o, none⟩ : Addr).add j = ⟨g, o + j, none⟩ := by unfold Addr.add; split <;> simp_all
/-- The cells of an argument. -/
theorem txs_cells {W : World} {p : Option Addr} {c : Nat} {l : List Tx} (h : TxsAt (Old W) W (.slice p l.length c) l) : ∃ xs, RowT W l xs ∧ ∀ a, p = some a → ∀ j u, xs[j]? = some u → W.cell? (a.add j) = some u := by
  obtain ⟨p', c', hv, _, _, _, h5⟩ := h
  cases hv
  have key : ∀ n, n ≤ l.length → ∃ xs, RowT W (l.take n) xs ∧ ∀ a, p = some a → ∀ j u, xs[j]? = some u → W.cell? (a.add j) = some u := by
    intro n
    induction n with
    | zero => intro _; exact ⟨[], by rw [List.take_zero]; exact RowT.nil W, fun a _ j u hu => by simp at hu⟩
    | succ n ih =>
      intro hn
      obtain ⟨xs, h1, h2⟩ := ih (by omega)
      obtain ⟨b, o, rfl, hb, hc1, ht, pv, hc2, hp⟩ := h5 n (by omega)
      refine ⟨xs ++ [.int .i64 l[n].time, pv], ?_, fun a ha j u hu => ?_⟩
      · rw [List.take_succ_eq_append_getElem (by omega)]
        exact h1.snoc ht hp
      · cases ha
        have hxl : xs.length = n * 2 := by have := h1.1; rw [List.length_take] at this; omega
        rcases Nat.lt_or_ge j (n * 2) with hj | hj
        · rw [List.getElem?_append_left (by omega)] at hu
          exact h2 _ rfl j u hu
        · rw [List.getElem?_append_right (by omega), hxl] at hu
          rcases (show j = n * 2 ∨ j = n * 2 + 1 ∨ n * 2 + 2 ≤ j by omega) with rfl | rfl | hj2
          · rw [Nat.sub_self] at hu
            simp only [List.getElem?_cons_zero, Option.some.injEq] at hu
            subst hu
            rw [addr_add16]; exact hc1
          · rw [show n * 2 + 1 - n * 2 = 1 by omega] at hu
            simp only [List.getElem?_cons_succ, List.getElem?_cons_zero, Option.some.injEq] at hu
            subst hu
            rw [addr_add16]; exact hc2
          · rw [List.getElem?_eq_none (by simp; omega)] at hu
            cases hu
  obtain ⟨xs, h1, h2⟩ := key l.length (Nat.le_refl _)
  rw [List.take_length] at h1
  exact ⟨xs, h1, h2⟩
/-- A part of an argument. -/
theorem txs_cut {W w : World} {b o c : Nat} {l : List Tx} (h : TxsAt (Old W) W (.slice (some ⟨b, o, none⟩) l.length c) l) (hb : Below W.heap.size W w) (i n : Nat) (hn : i + n ≤ l.length) (hc : c - i ≤ 9223372036854775807) : TxsAt (Old w) w (.slice (some ⟨b, o + i * 2, none⟩) n (c - i)) ((l.drop i).take n) := by
  obtain ⟨p', c', hv, h1, h2, h3, h5⟩ := h
  cases hv
  have hz := hb.size
  have hl : ((l.drop i).take n).length = n := by rw [List.length_take, List.length_drop]; omega
  refine ⟨_, c - i, by rw [hl], by omega, by omega, (by intro hh; cases hh), fun j hj => ?_⟩
  rw [hl] at hj
  obtain ⟨b', o', he, hb', hc1, ht, pv, hc2, hp⟩ := h5 (i + j) (by omega)
  cases he
  refine ⟨b, o + i * 2, rfl, Nat.lt_of_lt_of_le hb' hz, ?_⟩
  rw [List.getElem_take, List.getElem_drop]
  refine ⟨?_, ht, pv, ?_, (PutsAt.same hp fun k hk => hb.block k hk).mono fun k (hk : k < W.heap.size) => (show k < w.heap.size by omega)⟩
  · rw [show o + i * 2 + j * 2 = o + (i + j) * 2 by omega]
    exact (hb.cell (p := ⟨b, o + (i + j) * 2, none⟩) hb').trans hc1
  · rw [show o + i * 2 + j * 2 = o + (i + j) * 2 by omega]
    exact (hb.cell (p := ⟨b, o + (i + j) * 2 + 1, none⟩) hb').trans hc2
end Go.Proofs
