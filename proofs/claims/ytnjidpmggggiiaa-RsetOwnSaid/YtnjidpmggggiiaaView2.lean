/- Package rset: what a read gives, plain; bytes laid over bytes. -/
import Derived.Test.YtnjidpmggggiiaaView1
import Derived.Test.YtnjidpmggggiiaaExt6
import Derived.Test.YtnjidpmggggiiaaBufSep
import Derived.Test.YtnjidpmggggiiaaPlainExt
namespace Go.Proofs
open Go.RowKit Sc

/-- Rows of forty bytes, one behind the other. -/
def rowsF (f : Nat → Bytes) (m : Nat) : Bytes := (List.range m).flatMap f
theorem rowsF_succ (f : Nat → Bytes) (m : Nat) : rowsF f (m + 1) = rowsF f m ++ f m := by unfold rowsF; rw [List.range_succ, List.flatMap_append]; simp
theorem rowsF_length {f : Nat → Bytes} (h : ∀ i, (f i).length = 40) (m : Nat) : (rowsF f m).length = 40 * m := by
  induction m with
  | zero => rfl
  | succ m ih => rw [rowsF_succ, List.length_append, ih, h]; omega
theorem rowsF_drop {f : Nat → Bytes} (h : ∀ i, (f i).length = 40) : ∀ (n i : Nat), i < n → (rowsF f n).drop (40 * i) = f i ++ (rowsF f n).drop (40 * (i + 1))
  | 0, i, hi => absurd hi (by omega)
  | n + 1, i, hi => by
    have hl := rowsF_length h n
    rw [rowsF_succ]
    by_cases he : i = n
    · subst he
      rw [List.drop_append_of_le_length (by omega), List.drop_eq_nil_of_le (by omega), List.nil_append, List.drop_eq_nil_of_le (by rw [List.length_append, hl, h]; omega), List.append_nil]
    · rw [List.drop_append_of_le_length (by omega), List.drop_append_of_le_length (by omega), rowsF_drop h n i (by omega), List.append_assoc]
/-- The first rows of the one, the rest of the other. -/
def midF (f g : Nat → Bytes) (n i : Nat) : Bytes := rowsF f i ++ (rowsF g n).drop (40 * i)
theorem midF_length {f g : Nat → Bytes} (hf : ∀ i, (f i).length = 40) (hg : ∀ i, (g i).length = 40) {n i : Nat} (hi : i ≤ n) : (midF f g n i).length = 40 * n := by
  unfold midF; rw [List.length_append, List.length_drop, rowsF_length hf, rowsF_length hg]; omega
theorem midF_zero (f g : Nat → Bytes) (n : Nat) : midF f g n 0 = rowsF g n := by unfold midF; rw [Nat.mul_zero, List.drop_zero]; rfl
theorem midF_all {f g : Nat → Bytes} (hg : ∀ i, (g i).length = 40) (n : Nat) : midF f g n n = rowsF f n := by
  unfold midF; rw [List.drop_eq_nil_of_le (by rw [rowsF_length hg]; omega), List.append_nil]
theorem midF_at {f g : Nat → Bytes} (hf : ∀ i, (f i).length = 40) (hg : ∀ i, (g i).length = 40) {n i : Nat} (hi : i < n) : midF f g n i = rowsF f i ++ (g i ++ (rowsF g n).drop (40 * (i + 1))) := by
  unfold midF; rw [rowsF_drop hg n i hi]
theorem midF_next {f g : Nat → Bytes} (hf : ∀ i, (f i).length = 40) (hg : ∀ i, (g i).length = 40) {n i : Nat} (hi : i < n) : (midF f g n i).take (40 * i) ++ f i ++ (midF f g n i).drop (40 * i + (f i).length) = midF f g n (i + 1) := by
  have h1 := rowsF_length hf i
  rw [midF_at hf hg hi, List.take_append_of_le_length (by omega), List.take_of_length_le (by omega), List.drop_append, h1, hf, List.drop_eq_nil_of_le (by omega), List.nil_append, show 40 * i + 40 - 40 * i = 40 by omega, List.drop_append_of_le_length (by rw [hg]; omega), List.drop_eq_nil_of_le (by rw [hg]; omega), List.nil_append]
  unfold midF
  rw [rowsF_succ]
theorem midF_same {f g : Nat → Bytes} (hf : ∀ i, (f i).length = 40) (hg : ∀ i, (g i).length = 40) {n i : Nat} (hi : i < n) (he : f i = g i) : midF f g n i = midF f g n (i + 1) := by
  rw [midF_at hf hg hi, ← he, ← List.append_assoc, ← rowsF_succ]; rfl
theorem midF_row {f g : Nat → Bytes} (hf : ∀ i, (f i).length = 40) (hg : ∀ i, (g i).length = 40) {n i : Nat} (hi : i < n) (j : Nat) (hj : j < 40) : (midF f g n i)[40 * i + j]? = (g i)[j]? := by
  have h1 := rowsF_length hf i
  rw [midF_at hf hg hi, List.getElem?_append_right (by omega), h1, show 40 * i + j - 40 * i = j by omega, List.getElem?_append_left (by rw [hg]; omega)]

def blkV (vs : Vers) (s : List (Int × Bytes)) (t x : Int) : Bytes := (alook s x).getD (getV vs x t).1
def readsV (vs : Vers) (s : List (Int × Bytes)) (t a : Int) (m : Nat) : List Sc.Read := (List.range m).map fun i : Nat => ⟨a + i, blkV vs s t (a + i), (alook s (a + i)).isSome⟩
theorem readsV_succ (vs : Vers) (s : List (Int × Bytes)) (t a : Int) (m : Nat) : readsV vs s t a (m + 1) = readsV vs s t a m ++ [⟨a + m, blkV vs s t (a + m), (alook s (a + m)).isSome⟩] := by unfold readsV; rw [List.range_succ]; simp
theorem readsV_length (vs : Vers) (s : List (Int × Bytes)) (t a : Int) (m : Nat) : (readsV vs s t a m).length = m := by simp [readsV]
theorem good_get40 {blocks last : Int} {vs : Vers} (h : GoodE blocks last vs) (x t : Int) : (getV vs x t).1.length = 40 := by
  rw [getV_eq]
  split
  · rename_i p hp
    split
    · rfl
    · cases hq : alook vs x with
      | none => rw [hq] at hp; simp at hp
      | some l =>
        rw [hq] at hp
        exact ((h.ts x l hq).2.2 p (List.mem_of_getElem? hp)).1
  · rfl
theorem blkV_length {blocks last b2 : Int} {vs : Vers} {s : List (Int × Bytes)} (h : GoodE blocks last vs) (hs : BufG b2 s) (t x : Int) : (blkV vs s t x).length = 40 := by
  unfold blkV
  cases hq : alook s x with
  | none => exact good_get40 h x t
  | some d => exact (hs.ks _ (alook_in hq)).2.2

theorem chg_setCells (b : Nat) {S : Nat → Prop} (hb : S b) : ∀ (vs : List Value) (o : Nat) (w : World), Chg S w (w.setCells b o vs)
  | [], _, w => Chg.refl S w
  | v :: vs, o, w => (chg_set w b o v hb).trans (chg_setCells b hb vs (o + 1) (w.setCell ⟨b, o, none⟩ v))
def u8v (l : Bytes) : List Value := l.map fun x => .int .u8 (x.toNat : Int)
theorem u8v_length (l : Bytes) : (u8v l).length = l.length := by simp [u8v]
/-- Bytes that are laid over others. -/
theorem Sep.bytes_splice {W w : World} {L : List Asn} (h : Sep W L w) (k : Nat) {g o n c : Nat} {l : Bytes} (hk : L[k]? = some (BytesWA (.slice (some ⟨g, o, none⟩) n c) l)) (i : Nat) (d : Bytes) (hd : i + d.length ≤ l.length) :
    Sep W (L.set k (BytesWA (.slice (some ⟨g, o, none⟩) n c) (l.take i ++ d ++ l.drop (i + d.length)))) (w.setCells g (o + i) (u8v d)) ∧ (∀ j, j < d.length → (w.cell? ⟨g, o + i + j, none⟩).isSome = true) ∧ (∀ j, j < d.length → w.frozen? ⟨g, o + i + j, none⟩ = false) := by
  obtain ⟨F, G, hF, _, _, hdF, _, K⟩ := h.at k hk
  have hF' := hF
  obtain ⟨p, c', hv, h1, h2, h3, h4⟩ := hF
  cases hv
  have hcell : ∀ j, j < l.length → F g ∧ w.cell? ⟨g, o + j, none⟩ = some (.int .u8 ((l.getD j 0).toNat : Int)) ∧ w.frozen? ⟨g, o + j, none⟩ = false := fun j hj => by
    obtain ⟨b', o', hp, hf, hc⟩ := h4 j hj
    cases hp
    rw [Nat.mul_one] at hc
    rw [List.getD_eq_getElem?_getD, List.getElem?_eq_getElem hj]
    exact ⟨hf, hc.1, hc.2⟩
  have hin : ∀ j, j < (u8v d).length → (w.cell? ⟨g, o + i + j, none⟩).isSome = true := fun j hj => by
    rw [u8v_length] at hj
    rw [show o + i + j = o + (i + j) by omega, (hcell (i + j) (by omega)).2.1]; rfl
  have hfz : ∀ j, j < d.length → w.frozen? ⟨g, o + i + j, none⟩ = false := fun j hj => by
    rw [show o + i + j = o + (i + j) by omega]; exact (hcell (i + j) (by omega)).2.2
  refine ⟨?_, fun j hj => hin j (by rw [u8v_length]; exact hj), hfz⟩
  by_cases h0 : d = []
  · subst h0
    have e1 : l.take i ++ [] ++ l.drop (i + ([] : Bytes).length) = l := by simp
    rw [e1]
    exact K w F (BytesWA (.slice (some ⟨g, o, none⟩) l.length c) l) (Chg.refl _ _) (fun k hk => .inl hk) hF'
  · have hpos := List.length_pos_iff.2 h0
    have hFg : F g := (hcell i (by omega)).1
    have hlen : (l.take i ++ d ++ l.drop (i + d.length)).length = l.length := by simp; omega
    refine K _ F (BytesWA (.slice (some ⟨g, o, none⟩) l.length c) _) (chg_setCells g hFg _ _ _) (fun k hk => .inl hk) ?_
    refine ⟨some ⟨g, o, none⟩, c, by rw [hlen], by rw [hlen]; exact h1, h2, (by intro e; cases e), fun j hj => ⟨g, o, rfl, hFg, ?_⟩⟩
    rw [hlen] at hj
    rw [Nat.mul_one]
    refine ⟨?_, by rw [World.frozen?_setCells]; exact (hcell j hj).2.2⟩
    by_cases hlo : j < i
    · rw [World.cell?_setCells_out g _ _ _ _ (fun _ _ => .inl (by simp only; omega)), (hcell j hj).2.1]
      congr 3
      rw [List.getElem_append_left (by simp; omega), List.getElem_append_left (by simp; omega), List.getElem_take]
      rw [List.getD_eq_getElem?_getD, List.getElem?_eq_getElem hj]; rfl
    · by_cases hhi : j < i + d.length
      · have := World.cell?_setCells_in g (u8v d) (o + i) w hin (j - i) (by rw [u8v_length]; omega)
        rw [show o + i + (j - i) = o + j by omega] at this
        rw [this]
        congr 1
        simp only [u8v, List.getElem_map]
        congr 3
        rw [List.getElem_append_left (by simp; omega), List.getElem_append_right (by simp; omega)]
        congr 1
        rw [List.length_take]
        omega
      · rw [World.cell?_setCells_out g _ _ _ _ (fun _ _ => .inr (by rw [u8v_length]; simp only; omega)), (hcell j hj).2.1]
        congr 3
        rw [List.getElem_append_right (by simp; omega), List.getElem_drop, List.getD_eq_getElem?_getD, List.getElem?_eq_getElem hj]
        have e : i + d.length + (j - (l.take i ++ d).length) = j := by rw [List.length_append, List.length_take]; omega
        simp only [Option.getD_some, e]
end Go.Proofs
