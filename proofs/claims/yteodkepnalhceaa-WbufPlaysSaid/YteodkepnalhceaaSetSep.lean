/- Sets of extents side by side with other things. -/
import Derived.Test.YteodkepnalhceaaIval5
namespace Go.Proofs
open Go.RowKit Sc

/-- What a Set holds: extents that rise and do not touch, where extents may lie. -/
def SetG (l : List Ext) : Prop := Canon l ∧ ∀ e ∈ l, Oke e
theorem SetG.nil : SetG [] := ⟨Canon.nil, by simp⟩
theorem addOke {l0 l : List Ext} (h : SetG l0) (ha : allB l = true) : ∀ e ∈ l0 ++ l, Oke e := fun e he => (List.mem_append.1 he).elim (h.2 e) fun h => mayB_oke (allB_mem ha e h)
theorem addCode_may {most : Int} {l0 l : List Ext} (h : addCode most l0 l = 0) : allB l = true := by
  unfold addCode at h
  cases hq : allB l with
  | true => rfl
  | false => rw [if_pos hq] at h; cases h
theorem normE_good' {l : List Ext} (h : ∀ e ∈ l, Oke e) : SetG (normE l) ∧ (∀ x, cov (normE l) x ↔ cov l x) ∧ (normE l).length ≤ l.length := by
  obtain ⟨h1, h2, h3, _⟩ := normE_good (fun e he => (h e he).2.2.1)
  exact ⟨⟨h1, normE_oke h⟩, h2, h3⟩
theorem addNext_good {most : Int} {l0 l : List Ext} (h : SetG l0) : SetG (addNext most l0 l) := by
  unfold addNext
  split
  · rename_i hc
    exact (normE_good' (addOke h (addCode_may hc))).1
  · exact h
theorem addNext_len {most : Int} {l0 l : List Ext} (h : SetG l0) : (addNext most l0 l).length ≤ l0.length + l.length := by
  unfold addNext
  split
  · rename_i hc
    have := (normE_good' (addOke h (addCode_may hc))).2.2
    simpa using this
  · omega
theorem addNext_cov {most : Int} {l0 l : List Ext} (h : SetG l0) (hc : addCode most l0 l = 0) (x : Int) : cov (addNext most l0 l) x ↔ cov l0 x ∨ cov l x := by
  unfold addNext
  rw [if_pos hc, (normE_good' (addOke h (addCode_may hc))).2.1, cov_append]
/-- A code of Add, told. -/
theorem addCode_is {most : Int} {l0 l m : List Ext} (h : SetG l0) (ha : allB l = true) (hn : l ≠ []) (hm : normE (l0 ++ l) = m) : addCode most l0 l = (if most < (m.length : Int) then 7 else 0) ∧ addNext most l0 l = if most < (m.length : Int) then l0 else m := by
  have h1 : addCode most l0 l = if most < (m.length : Int) then 7 else 0 := by unfold addCode; rw [if_neg (by rw [ha]; decide), if_neg hn, hm]
  refine ⟨h1, ?_⟩
  unfold addNext
  rw [h1, hm]
  by_cases hb : most < (m.length : Int)
  · rw [if_pos hb, if_pos hb, if_neg (by decide)]
  · rw [if_neg hb, if_neg hb, if_pos rfl]

theorem setNew_sep {W w : World} {L : List Asn} (h : Sep W L w) (n : Int) :
    Calls Try.prog 14 #[.int .i64 n] w fun e w' => ∃ b : Nat, e = .returned (.pointer (some ⟨b, 0, none⟩)) ∧ Hid (Sep W (L ++ [SetA (.pointer (some ⟨b, 0, none⟩)) n []]) w') := by
  refine (setNew_any n w).mono ?_
  rintro e w' ⟨b, rfl, hm, hb⟩
  exact ⟨b, rfl, h.new hb (SetA _ n []) (fun _ h => h) hm⟩
theorem setAdd_sep {W w : World} {L : List Asn} (h : Sep W L w) (i : Nat) {v lv : Value} {most : Int} {l0 : List Ext} (hi : L[i]? = some (SetA v most l0)) (l : List Ext) (hl : ExtsAt (fun _ => True) w lv l) (hg : SetG l0) (n0 : l0.length ≤ 50000) (n1 : l.length ≤ 50000) :
    Calls Try.prog 15 #[v, lv] w fun e w' => e = .returned (.int .i64 (addCode most l0 l)) ∧ Hid (Sep W (L.set i (SetA v most (addNext most l0 l))) w') := by
  obtain ⟨F, G, hF, hR, hFG, hdF, hdG, K⟩ := h.at i hi
  refine (setAdd_any F _ v lv most l0 l w hF hl hg.2 hg.1 n0 n1).mono ?_
  rintro e w' ⟨rfl, hc, hm⟩
  exact ⟨rfl, K w' _ (SetA v most (addNext most l0 l)) hc (fun k hk => hk) hm⟩
theorem exts_one (w : World) (a n : Int) (ha : I64 a) (hn : I64 n) : ExtsAt (fun _ => True) (w.alloc (.cells #[.int .i64 a, .int .i64 n] 28)) (.slice (some ⟨w.heap.size, 0, none⟩) 1 1) [⟨a, n⟩] := by
  refine ⟨_, 1, rfl, Nat.le_refl _, by omega, (by intro h; cases h), fun i hi => ?_⟩
  simp only [List.length_cons, List.length_nil] at hi
  obtain rfl : i = 0 := by omega
  exact ⟨w.heap.size, 0, rfl, trivial, by rw [cell_row (heap_alloc_new w _)]; rfl, by rw [cell_row (heap_alloc_new w _)]; rfl, ha, hn⟩
theorem exts_two (w : World) (a n b m : Int) (ha : I64 a) (hn : I64 n) (hb : I64 b) (hm : I64 m) : ExtsAt (fun _ => True) (w.alloc (.cells #[.int .i64 a, .int .i64 n, .int .i64 b, .int .i64 m] 28)) (.slice (some ⟨w.heap.size, 0, none⟩) 2 2) [⟨a, n⟩, ⟨b, m⟩] := by
  refine ⟨_, 2, rfl, Nat.le_refl _, by omega, (by intro h; cases h), fun i hi => ?_⟩
  simp only [List.length_cons, List.length_nil] at hi
  rcases (show i = 0 ∨ i = 1 by omega) with rfl | rfl
  · exact ⟨w.heap.size, 0, rfl, trivial, by rw [cell_row (heap_alloc_new w _)]; rfl, by rw [cell_row (heap_alloc_new w _)]; rfl, ha, hn⟩
  · exact ⟨w.heap.size, 0, rfl, trivial, by rw [cell_row (heap_alloc_new w _)]; rfl, by rw [cell_row (heap_alloc_new w _)]; rfl, hb, hm⟩
theorem i64_small {n : Int} (h : -1000000000 ≤ n ∧ n ≤ 1000000000) : I64 n := by unfold I64; omega
/-- Add of one extent that is laid for it. -/
theorem setAdd_one {W w : World} {L : List Asn} (h : Hid (Sep W L w)) (i : Nat) {v : Value} {most : Int} {l0 : List Ext} (hi : L[i]? = some (SetA v most l0)) (a n : Int) (ia : I64 a) (inn : I64 n) (hg : SetG l0) (n0 : l0.length ≤ 50000) :
    Calls Try.prog 15 #[v, .slice (some ⟨w.heap.size, 0, none⟩) 1 1] (w.alloc (.cells #[.int .i64 a, .int .i64 n] 28)) fun e w' => e = .returned (.int .i64 (addCode most l0 [⟨a, n⟩])) ∧ Hid (Sep W (L.set i (SetA v most (addNext most l0 [⟨a, n⟩]))) w') :=
  setAdd_sep (h.out.up (below_alloc w _)) i hi [⟨a, n⟩] (exts_one w a n ia inn) hg n0 (by simp)
theorem setAdd_at {W w : World} {L : List Asn} (h : Hid (Sep W L w)) (i : Nat) {v : Value} {most : Int} {l0 : List Ext} (hi : L[i]? = some (SetA v most l0)) (a n : Int) (ia : I64 a) (inn : I64 n) (hg : SetG l0) (n0 : l0.length ≤ 50000) (g : Nat) (hgg : w.heap.size = g) :
    Calls Try.prog 15 #[v, .slice (some ⟨g, 0, none⟩) 1 1] (w.alloc (.cells #[.int .i64 a, .int .i64 n] 28)) fun e w' => e = .returned (.int .i64 (addCode most l0 [⟨a, n⟩])) ∧ Hid (Sep W (L.set i (SetA v most (addNext most l0 [⟨a, n⟩]))) w') := by
  subst hgg
  exact setAdd_one h i hi a n ia inn hg n0
theorem setExtents_sep {W w : World} {L : List Asn} (h : Hid (Sep W L w)) (i : Nat) {v : Value} {most : Int} {l : List Ext} (hi : L[i]? = some (SetA v most l)) (hl : l.length ≤ 1000000) :
    Calls Try.prog 16 #[v] w fun e w' => ∃ p c, e = .returned (.slice p l.length c) ∧ Hid (ExtsAt (New w w') w' (.slice p l.length c) l) ∧ Hid (Below w.heap.size w w') ∧ Hid (Sep W L w') := by
  obtain ⟨F, hF, _⟩ := h.out.get i hi
  refine (setExtents_any F v most l w hF hl).mono ?_
  rintro e w' ⟨p, c, rfl, hx, hb⟩
  exact ⟨p, c, rfl, hx, hb, h.out.up hb⟩
theorem setCount_sep {W w : World} {L : List Asn} (h : Hid (Sep W L w)) (i : Nat) {v : Value} {most : Int} {l : List Ext} (hi : L[i]? = some (SetA v most l)) (hg : SetG l) (hl : l.length ≤ 1000000) :
    Calls Try.prog 17 #[v] w fun e w' => e = .returned (.int .i64 (cntE l)) ∧ Hid (Below w.heap.size w w') ∧ Hid (Sep W L w') := by
  obtain ⟨F, hF, _⟩ := h.out.get i hi
  refine (setCount_any F v most l w hF hg.2 hl).mono ?_
  rintro e w' ⟨rfl, hb⟩
  exact ⟨rfl, hb, h.out.up hb⟩
end Go.Proofs
