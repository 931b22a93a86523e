/- ModelLast, the plain part: what is there behind writes of one block each. -/
import Derived.Test.YtjomlcemnbfnfaaPlain22
import Derived.Test.YtjomlcemnbfnfaaAll
namespace Go.Proofs
open Go.RowKit Sc

theorem roundN_zero {x : Int} (h : roundN x 251 = 0) : ∃ q, x = 251 * q := by
  unfold roundN at h
  have hb := tmod_bd x (show (0 : Int) < 251 by omega)
  have h0 : x.tmod 251 = 0 := by split at h <;> omega
  obtain ⟨q, hq⟩ := Int.dvd_of_tmod_eq_zero h0
  exact ⟨q, hq⟩
theorem blockB_get (k : Int) (n j : Nat) (h : j < n) : (blockB k n)[j]? = some (UInt8.ofNat (roundN (wrap64 (wrap64 (wrap64 ((j : Int) * j) + wrap64 (k * 7)) + 1)) 251).toNat) := by
  simp [blockB, h]
theorem wrap_bd (n : Int) : -9223372036854775808 ≤ wrap64 n ∧ wrap64 n ≤ 9223372036854775807 := by unfold wrap64; omega
theorem wrap_in {n : Int} (h0 : -9223372036854775808 ≤ n) (h1 : n ≤ 9223372036854775807) : wrap64 n = n := by unfold wrap64; omega
theorem two_apart {k : Int} (h0 : ∃ q, wrap64 (wrap64 (wrap64 (((0 : Nat) : Int) * ((0 : Nat) : Int)) + wrap64 (k * 7)) + 1) = 251 * q) (h1 : ∃ q, wrap64 (wrap64 (wrap64 (((1 : Nat) : Int) * ((1 : Nat) : Int)) + wrap64 (k * 7)) + 1) = 251 * q) : False := by
  obtain ⟨p, hp⟩ := h0
  obtain ⟨q, hq⟩ := h1
  obtain ⟨b0, b1⟩ := wrap_bd (k * 7)
  generalize wrap64 (k * 7) = y at *
  rw [show (((0 : Nat) : Int) * ((0 : Nat) : Int)) = 0 from rfl, wrap_in (n := 0) (by omega) (by omega), wrap_in (n := 0 + y) (by omega) (by omega)] at hp
  rw [show (((1 : Nat) : Int) * ((1 : Nat) : Int)) = 1 from rfl, wrap_in (n := 1) (by omega) (by omega)] at hq
  by_cases c1 : y ≤ 9223372036854775805
  · rw [wrap_in (n := 0 + y + 1) (by omega) (by omega)] at hp
    rw [wrap_in (n := 1 + y) (by omega) (by omega), wrap_in (n := 1 + y + 1) (by omega) (by omega)] at hq
    omega
  · by_cases c2 : y = 9223372036854775806
    · subst c2
      rw [show wrap64 (0 + 9223372036854775806 + 1) = 9223372036854775807 by decide +kernel] at hp
      omega
    · have c3 : y = 9223372036854775807 := by omega
      subst c3
      rw [show wrap64 (0 + 9223372036854775807 + 1) = -9223372036854775808 by decide +kernel] at hp
      omega
/-- Data is never noughts. -/
theorem data_nz (k : Int) : zero40 (dataB k) = false := by
  cases hz : zero40 (dataB k) with
  | false => rfl
  | true =>
    exfalso
    unfold zero40 at hz
    rw [List.all_eq_true] at hz
    have h0 := blockB_get k 40 0 (by omega)
    have h1 := blockB_get k 40 1 (by omega)
    have e0 := hz _ (List.mem_of_getElem? h0)
    have e1 := hz _ (List.mem_of_getElem? h1)
    simp only [beq_iff_eq] at e0 e1
    have conv : ∀ x : Int, UInt8.ofNat (roundN x 251).toNat = 0 → roundN x 251 = 0 := by
      intro x hx
      have hb := roundN_bd x (show (0 : Int) < 251 by omega)
      have := congrArg UInt8.toNat hx
      rw [UInt8.toNat_ofNat'] at this
      simp at this
      omega
    exact two_apart (roundN_zero (conv _ e0)) (roundN_zero (conv _ e1))

/-- What is there behind some writes, and behind noughts up to p: xs tells of each block who wrote it last. -/
structure LastI (xs : List Int) (p : Nat) (s : List (Int × Bytes)) : Prop where
  len : xs.length = 10
  nd : (s.map (·.1)).Nodup
  ks : ∀ x ∈ s, 0 ≤ x.1 ∧ x.1 < 10
  lk : ∀ j (h : j < xs.length), alook s j = if xs[j] = 0 ∨ j < p then none else some (dataB xs[j])
theorem LastI.start : LastI (List.replicate 10 0) 0 [] := ⟨rfl, List.nodup_nil, by simp, fun j h => by
  rw [if_pos (.inl (List.getElem_replicate (n := 10) (a := (0 : Int)) h))]; rfl⟩
theorem LastI.l40 {xs : List Int} {p : Nat} {s : List (Int × Bytes)} (h : LastI xs p s) : Len40 s := by
  intro k d hk
  have hm := alook_in hk
  have hr := h.ks _ hm
  obtain ⟨j, rfl⟩ := Int.eq_ofNat_of_zero_le hr.1
  simp only at hr
  have hj : j < xs.length := by rw [h.len]; omega
  rw [h.lk j hj] at hk
  split at hk
  · cases hk
  · cases hk; exact dataB_length _
theorem runPuts_one (s : List (Int × Bytes)) (k d : Int) : runPuts s [⟨k, dataB d⟩] = aset s k (dataB d) := by
  simp only [runPuts, List.foldl, runStep, data_nz]; rfl
theorem runPuts_zero (s : List (Int × Bytes)) (k : Int) : runPuts s [⟨k, zeroB⟩] = adel s k := by
  have : zero40 zeroB = true := by decide +kernel
  simp only [runPuts, List.foldl, runStep, this]; rfl
theorem runCode_one {n k : Int} (d : Bytes) (h0 : 0 ≤ k) (h1 : k < n) (hd : d.length = 40) : runCode n [⟨k, d⟩] = 0 := by
  have : blk n k = true := by simp [blk, h0, h1]
  simp [runCode, this, hd]
theorem LastI.step {xs : List Int} {s : List (Int × Bytes)} (h : LastI xs 0 s) {r : Nat} (hr : r < 10) {d : Int} (hd : 1 ≤ d) : LastI (xs.set r d) 0 (aset s r (dataB d)) := by
  refine ⟨by rw [List.length_set, h.len], nodup_aset h.nd _ _, fun x hx => ?_, fun j hj => ?_⟩
  · rcases aset_mem hx with rfl | hx
    · simp only; omega
    · exact h.ks x hx
  · rw [List.length_set] at hj
    rw [alook_aset, List.getElem_set]
    by_cases e : r = j
    · subst e
      simp only [if_true]
      rw [if_neg (by omega)]
    · rw [if_neg (by omega), if_neg e]
      exact h.lk j hj
theorem LastI.clear {xs : List Int} {s : List (Int × Bytes)} {p : Nat} (h : LastI xs p s) : LastI xs (p + 1) (adel s p) := by
  refine ⟨h.len, nodup_adel h.nd _, fun x hx => h.ks x ((adel_sublist s p).subset hx), fun j hj => ?_⟩
  rw [alook_adel h.nd]
  by_cases e : j = p
  · subst e
    simp only [if_true]
    rw [if_pos (.inr (by omega))]
  · rw [if_neg (by omega), h.lk j hj]
    have : (xs[j] = 0 ∨ j < p) ↔ (xs[j] = 0 ∨ j < p + 1) := by
      constructor
      · rintro (h | h)
        · exact .inl h
        · exact .inr (by omega)
      · rintro (h | h)
        · exact .inl h
        · exact .inr (by omega)
    simp only [this]
theorem LastI.skip {xs : List Int} {s : List (Int × Bytes)} {p : Nat} (h : LastI xs p s) (hp : p < xs.length) (h0 : xs[p] = 0) : LastI xs (p + 1) s := by
  refine ⟨h.len, h.nd, h.ks, fun j hj => ?_⟩
  rw [h.lk j hj]
  by_cases e : j = p
  · subst e; rw [if_pos (.inl h0), if_pos (.inl h0)]
  · have : (xs[j] = 0 ∨ j < p) ↔ (xs[j] = 0 ∨ j < p + 1) := by
      constructor
      · rintro (h | h)
        · exact .inl h
        · exact .inr (by omega)
      · rintro (h | h)
        · exact .inl h
        · exact .inr (by omega)
    simp only [this]
theorem LastI.at {xs : List Int} {s : List (Int × Bytes)} {p : Nat} (h : LastI xs p s) {j : Nat} (hj : j < 10) : ∃ x, xs[j]? = some x ∧ x ∈ xs ∧ alook s j = (if x = 0 ∨ j < p then none else some (dataB x)) ∧ (x = 0 → p = j → LastI xs (p + 1) s) := by
  have hj' : j < xs.length := by rw [h.len]; exact hj
  exact ⟨xs[j], List.getElem?_eq_getElem hj', List.getElem_mem hj', h.lk j hj', fun h0 e => by subst e; exact h.skip hj' h0⟩
theorem LastI.empty {xs : List Int} {s : List (Int × Bytes)} {p : Nat} (h : LastI xs p s) (hx : ∀ j (h : j < xs.length), xs[j] = 0 ∨ j < p) : s = [] := by
  cases s with
  | nil => rfl
  | cons a t =>
    exfalso
    have hr := h.ks a (List.mem_cons_self ..)
    obtain ⟨j, hj⟩ := Int.eq_ofNat_of_zero_le hr.1
    have hjl : j < xs.length := by rw [h.len]; omega
    have hl := h.lk j hjl
    rw [if_pos (hx j hjl)] at hl
    exact alook_none.1 hl a (List.mem_cons_self ..) hj
theorem LastI.full {xs : List Int} {s : List (Int × Bytes)} {j : Nat} (h : LastI xs 0 s) (hj : j < xs.length) (hx : xs[j] ≠ 0) : s ≠ [] := by
  rintro rfl
  have := h.lk j hj
  rw [if_neg (by omega)] at this
  cases this
theorem eqM_nil (s : List (Int × Bytes)) : eqM s [] = decide (s = []) := by
  cases s with
  | nil => rfl
  | cons a t => simp [eqM]
theorem allPuts_length (s : List (Int × Bytes)) : (allPuts s).length = s.length := by
  unfold allPuts keysUp
  rw [List.length_map, (List.mergeSort_perm _ _).length_eq, List.length_map]
end Go.Proofs
