/- What an M of the program and an M of the document hold is the same: plain. -/
import Derived.Test.YtjomlcemnbfnfaaRef20All
import Derived.Test.YtjomlcemnbfnfaaPlainLast
namespace Go.Proofs
open Go.RowKit Sc

structure RelM (n : Nat) (s : List (Int × Bytes)) (ls : List Bytes) : Prop where
  len : ls.length = n
  nd : (s.map (·.1)).Nodup
  ks : ∀ x ∈ s, 0 ≤ x.1 ∧ x.1 < n
  lk : ∀ k, k < n → alook s (k : Int) = if zero40 (ls.getD k []) then none else some (ls.getD k [])
  l40 : ∀ k, k < n → ls.getD k [] = [] ∨ (ls.getD k []).length = 40
theorem getD_replicate (n k : Nat) : (List.replicate n ([] : Bytes)).getD k [] = [] := by
  simp only [List.getD, List.getElem?_replicate]; split <;> rfl
theorem RelM.start (n : Nat) : RelM n [] (List.replicate n []) :=
  ⟨List.length_replicate .., List.nodup_nil, by simp, fun k hk => by rw [getD_replicate]; rfl, fun k hk => .inl (getD_replicate n k)⟩
theorem RelM.put {n : Nat} {s : List (Int × Bytes)} {ls : List Bytes} (h : RelM n s ls) {p : Put} (h0 : 0 ≤ p.lba) (h1 : p.lba < n) (hd : p.data.length = 40) : RelM n (runStep s p) (ls.set p.lba.toNat p.data) := by
  obtain ⟨r, hr⟩ := Int.eq_ofNat_of_zero_le h0
  have hrn : r < n := by omega
  have hget : ∀ k, k < n → (ls.set p.lba.toNat p.data).getD k [] = if k = r then p.data else ls.getD k [] := by
    intro k hk
    have : p.lba.toNat = r := by omega
    rw [this]
    have hl := h.len
    by_cases e : k = r
    · subst e; simp [List.getD, hl, hk]
    · have e' : ¬ r = k := fun x => e x.symm
      simp [List.getD, e, e']
  refine ⟨by rw [List.length_set]; exact h.len, runStep_nodup h.nd p, fun x hx => ?_, fun k hk => ?_, fun k hk => ?_⟩
  · unfold runStep at hx
    split at hx
    · exact h.ks x ((adel_sublist _ _).subset hx)
    · rcases aset_mem hx with rfl | hx
      · exact ⟨h0, h1⟩
      · exact h.ks x hx
  · rw [hget k hk, runStep_look h.nd]
    by_cases e : k = r
    · subst e; rw [if_pos hr.symm, if_pos rfl]
    · rw [if_neg (by omega), if_neg e]; exact h.lk k hk
  · rw [hget k hk]
    split
    · exact .inr hd
    · exact h.l40 k hk
theorem RelM.puts {n : Nat} {ls : List Bytes} {l : List Put} {s : List (Int × Bytes)} (h : RelM n s ls) (hin : ∀ p ∈ l, 0 ≤ p.lba ∧ p.lba < n) (hd : ∀ p ∈ l, p.data.length = 40) : RelM n (runPuts s l) (refPuts ls l) := by
  induction l generalizing s ls with
  | nil => exact h
  | cons p t ih => exact ih (h.put (hin p (by simp)).1 (hin p (by simp)).2 (hd p (by simp))) (fun q hq => hin q (by simp [hq])) (fun q hq => hd q (by simp [hq]))
def refNext (ls : List Bytes) (l : List Put) : List Bytes := if runCode ls.length l = 0 then refPuts ls l else ls
theorem RelM.run {n : Nat} {s : List (Int × Bytes)} {ls : List Bytes} (h : RelM n s ls) (l : List Put) : RelM n (runNext n s l) (refNext ls l) := by
  unfold runNext refNext
  rw [h.len]
  split
  · rename_i hc
    obtain ⟨h1, h2, h3⟩ := code_ok hc
    exact h.puts (fun p hp => by have := h1 p hp; simpa [blk] using this) h3
  · exact h
theorem RelM.len40 {n : Nat} {s : List (Int × Bytes)} {ls : List Bytes} (h : RelM n s ls) : Len40 s := by
  intro k d hk
  have hr := h.ks _ (alook_in hk)
  obtain ⟨j, rfl⟩ := Int.eq_ofNat_of_zero_le hr.1
  simp only at hr
  have hj : j < n := by omega
  rw [h.lk j hj] at hk
  split at hk
  · cases hk
  · rename_i hz
    cases hk
    rcases h.l40 j hj with e | e
    · rw [e] at hz; exact absurd rfl hz
    · exact e
theorem RelM.get {n : Nat} {s : List (Int × Bytes)} {ls : List Bytes} (h : RelM n s ls) {k : Nat} (hk : k < n) : (alook s (k : Int)).getD zeroB = refGet ls (k : Int) := by
  have hz : refGet.zeroB' = zeroB := rfl
  rw [h.lk k hk]
  unfold refGet
  simp only [Int.toNat_natCast]
  rcases h.l40 k hk with e | e
  · rw [e]; rfl
  · split
    · rename_i hq
      rw [if_neg (by omega)]
      exact (zero40_eq e hq).symm
    · rw [if_neg (by omega)]; rfl
theorem keysUp_range {ks : List Int} {l : List Int} (hn : ks.Nodup) (hl : l.Pairwise (· < ·)) (hm : ∀ x, x ∈ ks ↔ x ∈ l) : keysUp ks = l := by
  have hln : l.Nodup := hl.imp (fun h => by omega)
  have hp : ks.Perm l := (List.perm_ext_iff_of_nodup hn hln).2 hm
  rw [keysUp_perm hp]
  unfold keysUp
  exact List.mergeSort_of_pairwise (hl.imp fun h => by simp; omega)
theorem RelM.all {n : Nat} {s : List (Int × Bytes)} {ls : List Bytes} (h : RelM n s ls) : allPuts s = refAllTo ls ls.length := by
  have hk : keysUp (s.map (·.1)) = ((List.range n).filter fun k => !zero40 (ls.getD k [])).map fun k : Nat => (k : Int) := by
    refine keysUp_range h.nd ?_ fun x => ?_
    · rw [List.pairwise_map]
      exact (List.pairwise_lt_range.filter _).imp fun h => by omega
    · constructor
      · intro hx
        obtain ⟨y, hy, rfl⟩ := List.mem_map.1 hx
        have hr := h.ks y hy
        obtain ⟨j, hj⟩ := Int.eq_ofNat_of_zero_le hr.1
        have hjn : j < n := by omega
        have hl := alook_mem h.nd (n := y.1) (v := y.2) hy
        rw [hj, h.lk j hjn] at hl
        rw [hj]
        refine List.mem_map.2 ⟨j, List.mem_filter.2 ⟨List.mem_range.2 hjn, ?_⟩, rfl⟩
        split at hl
        · cases hl
        · rename_i hz; simpa using hz
      · intro hx
        obtain ⟨j, hj, rfl⟩ := List.mem_map.1 hx
        obtain ⟨h1, h2⟩ := List.mem_filter.1 hj
        have hjn := List.mem_range.1 h1
        have hl := h.lk j hjn
        rw [if_neg (by simpa using h2)] at hl
        exact List.mem_map.2 ⟨_, alook_in hl, rfl⟩
  unfold allPuts refAllTo
  rw [hk, h.len, List.map_map]
  have : ∀ m, m ≤ n → ((List.range m).filter fun k => !zero40 (ls.getD k [])).map ((fun k : Int => (⟨k, (alook s k).getD []⟩ : Put)) ∘ fun k : Nat => (k : Int)) = (List.range m).filterMap (refOne ls) := by
    intro m hm
    induction m with
    | zero => rfl
    | succ m ih =>
      rw [List.range_succ, List.filter_append, List.map_append, List.filterMap_append, ih (by omega)]
      congr 1
      cases hz : zero40 (ls.getD m []) with
      | true =>
        have hr : refOne ls m = none := by unfold refOne; rw [hz]; rfl
        simp only [List.filter_cons, hz, List.filter_nil, List.filterMap_cons, hr, List.filterMap_nil, Bool.not_true, Bool.false_eq_true, if_false, List.map_nil]
      | false =>
        have hl := h.lk m (by omega)
        rw [hz] at hl
        simp only [Bool.false_eq_true, if_false] at hl
        have hr : refOne ls m = some ⟨(m : Int), ls.getD m []⟩ := by unfold refOne; rw [hz]; rfl
        simp only [List.filter_cons, hz, List.filter_nil, List.filterMap_cons, hr, List.filterMap_nil, Bool.not_false, if_true, List.map_cons, List.map_nil, Function.comp, hl, Option.getD_some]
  exact this n (Nat.le_refl _)
theorem RelM.i64 {n : Nat} {s : List (Int × Bytes)} {ls : List Bytes} (h : RelM n s ls) (hn : n ≤ 1000000) : ∀ x ∈ s, I64 x.1 := fun x hx => by have := h.ks x hx; unfold I64; omega
theorem RelM.small {n : Nat} {s : List (Int × Bytes)} {ls : List Bytes} (h : RelM n s ls) : s.length ≤ n := by
  have h1 : (s.map (·.1)) ⊆ (List.range n).map (fun k : Nat => (k : Int)) := by
    intro x hx
    obtain ⟨y, hy, rfl⟩ := List.mem_map.1 hx
    have hr := h.ks y hy
    obtain ⟨j, hj⟩ := Int.eq_ofNat_of_zero_le hr.1
    exact List.mem_map.2 ⟨j, List.mem_range.2 (by omega), hj.symm⟩
  have := h.nd.length_le_of_subset h1
  simpa using this
theorem RelM.small40 {n : Nat} {s : List (Int × Bytes)} {ls : List Bytes} (h : RelM n s ls) : ∀ x ∈ s, x.2.length ≤ 1000000 := fun x hx => by
  have := h.len40 x.1 x.2 (alook_mem h.nd hx); omega
end Go.Proofs
