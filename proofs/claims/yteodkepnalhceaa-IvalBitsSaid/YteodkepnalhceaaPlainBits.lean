/- The bits of a number, as extents of one block each, plain. -/
import Derived.Test.YteodkepnalhceaaSetSep
namespace Go.Proofs
open Go.RowKit Sc

theorem bits_and (x y : Nat) (hx : x < 18446744073709551616) (hy : y < 18446744073709551616) : bits .and .u64 (x : Int) (y : Int) = ((x &&& y : Nat) : Int) := by
  unfold bits
  have h1 : ∀ z : Nat, BitVec.ofInt IntKind.u64.bits (z : Int) = BitVec.ofNat 64 z := fun z => BitVec.ofInt_natCast ..
  simp only [h1]
  have h2 : (BitVec.ofNat 64 x &&& BitVec.ofNat 64 y).toNat = x &&& y := by
    rw [BitVec.toNat_and, BitVec.toNat_ofNat, BitVec.toNat_ofNat, Nat.mod_eq_of_lt (by omega), Nat.mod_eq_of_lt (by omega)]
  have h3 : x &&& y ≤ x := Nat.and_le_left
  exact (congrArg IntKind.u64.wrap (congrArg (fun n : Nat => (n : Int)) h2)).trans (IntWalk.u64_in _ (by omega))
theorem bits_at (x k : Nat) (hx : x < 18446744073709551616) : bits .and .u64 ((x : Int) / 2 ^ k) 1 = if x.testBit k then 1 else 0 := by
  have h1 : ((x : Int) / 2 ^ k) = ((x / 2 ^ k : Nat) : Int) := by rw [Int.natCast_ediv, Int.natCast_pow]; rfl
  have h2 : x / 2 ^ k ≤ x := Nat.div_le_self _ _
  have h3 := bits_and (x / 2 ^ k) 1 (by omega) (by omega)
  rw [h1, show (1 : Int) = ((1 : Nat) : Int) from rfl, h3, Nat.and_one_is_mod, Nat.testBit_eq_decide_div_mod_eq]
  have h4 : x / 2 ^ k % 2 < 2 := Nat.mod_lt _ (by omega)
  by_cases h : x / 2 ^ k % 2 = 1
  · simp [h]
  · have : x / 2 ^ k % 2 = 0 := by omega
    simp [this]
theorem and_bits {x y : Nat} (hx : x < 18446744073709551616) : x &&& y = 0 ↔ ∀ k, k < 64 → ¬ (x.testBit k = true ∧ y.testBit k = true) := by
  constructor
  · intro h k _ ⟨h1, h2⟩
    have := congrArg (fun z => z.testBit k) h
    simp [h1, h2] at this
  · intro h
    apply Nat.eq_of_testBit_eq
    intro k
    rw [Nat.testBit_and, Nat.zero_testBit]
    by_cases hk : k < 64
    · have := h k hk
      cases h1 : x.testBit k <;> cases h2 : y.testBit k <;> simp_all
    · have h64 : (2 : Nat) ^ 64 ≤ 2 ^ k := Nat.pow_le_pow_right (by omega) (by omega)
      have h65 : (2 : Nat) ^ 64 = 18446744073709551616 := by decide
      have : x.testBit k = false := Nat.testBit_lt_two_pow (by omega)
      rw [this, Bool.false_and]

/-- Where the k-th look falls. -/
def posB (turn : Bool) (k : Nat) : Nat := if turn then 63 - k else k
def posL (turn : Bool) (k : Nat) : List Nat := (List.range k).map (posB turn)
theorem posL_succ (turn : Bool) (k : Nat) : posL turn (k + 1) = posL turn k ++ [posB turn k] := by unfold posL; rw [List.range_succ]; simp
theorem posL_len (turn : Bool) (k : Nat) : (posL turn k).length = k := by simp [posL]
theorem posB_lt (turn : Bool) {k : Nat} (hk : k < 64) : posB turn k < 64 := by unfold posB; split <;> omega
theorem posL_all (turn : Bool) (i : Nat) : i ∈ posL turn 64 ↔ i < 64 := by
  unfold posL
  rw [List.mem_map]
  constructor
  · rintro ⟨k, hk, rfl⟩; exact posB_lt turn (List.mem_range.1 hk)
  · intro hi
    cases turn with
    | true => exact ⟨63 - i, List.mem_range.2 (by omega), by unfold posB; simp; omega⟩
    | false => exact ⟨i, List.mem_range.2 hi, by unfold posB; simp⟩
def bitE (a : Nat) (l : List Nat) : List Ext := (l.filter fun k => a.testBit k).map fun (k : Nat) => ⟨(k : Int), 1⟩
theorem bitE_snoc (a : Nat) (l : List Nat) (i : Nat) : bitE a (l ++ [i]) = bitE a l ++ if a.testBit i then [⟨(i : Int), 1⟩] else [] := by
  unfold bitE
  rw [List.filter_append, List.map_append]
  cases h : a.testBit i <;> simp [h]
theorem bitE_oke {a : Nat} {l : List Nat} (h : ∀ k ∈ l, k < 64) : ∀ e ∈ bitE a l, Oke e := by
  intro e he
  unfold bitE at he
  obtain ⟨k, hk, rfl⟩ := List.mem_map.1 he
  have := h k (List.mem_filter.1 hk).1
  unfold Oke; simp only; omega
theorem bitE_cov {a : Nat} {l : List Nat} {x : Int} : cov (bitE a l) x ↔ ∃ k ∈ l, a.testBit k = true ∧ x = k := by
  unfold bitE cov
  constructor
  · rintro ⟨e, he, h1, h2⟩
    obtain ⟨k, hk, rfl⟩ := List.mem_map.1 he
    obtain ⟨h3, h4⟩ := List.mem_filter.1 hk
    exact ⟨k, h3, h4, by simp only at h1 h2; omega⟩
  · rintro ⟨k, hk, h1, rfl⟩
    exact ⟨_, List.mem_map.2 ⟨k, List.mem_filter.2 ⟨hk, h1⟩, rfl⟩, by simp only; omega, by simp only; omega⟩
theorem bitE_len (a : Nat) (l : List Nat) : (bitE a l).length ≤ l.length := by unfold bitE; rw [List.length_map]; exact List.length_filter_le _ _
/-- The blocks whose bits stand. -/
def setB (a : Nat) : List Ext := normE (bitE a (List.range 64))
theorem bit_step {a : Nat} {l : List Nat} {i : Nat} (h : ∀ k ∈ l, k < 64) (hi : i < 64) (hl : l.length ≤ 64) (hb : a.testBit i = true) :
    addCode 100 (normE (bitE a l)) [⟨(i : Int), 1⟩] = 0 ∧ addNext 100 (normE (bitE a l)) [⟨(i : Int), 1⟩] = normE (bitE a (l ++ [i])) := by
  have ho := bitE_oke (a := a) h
  obtain ⟨g1, g2, g3⟩ := normE_good' ho
  have hle := bitE_len a l
  have ha : allB [(⟨(i : Int), 1⟩ : Ext)] = true := by
    unfold allB
    simp only [List.all_cons, List.all_nil, Bool.and_true]
    exact mayB_iff.2 (by simp only; omega)
  have hoke : ∀ e ∈ normE (bitE a l) ++ [(⟨(i : Int), 1⟩ : Ext)], Oke e := addOke g1 ha
  have hn : normE (normE (bitE a l) ++ [⟨(i : Int), 1⟩]) = normE (bitE a (l ++ [i])) := by
    obtain ⟨k1, k2, _⟩ := normE_good' (bitE_oke (a := a) (l := l ++ [i]) (fun k hk => (List.mem_append.1 hk).elim (h k) fun e => by rw [List.mem_singleton] at e; omega))
    refine normE_ext (fun e he => (hoke e he).2.2.1) k1.1 fun x => ?_
    rw [k2, bitE_snoc, hb, if_pos rfl, cov_append, cov_append, g2]
  obtain ⟨c1, c2⟩ := addCode_is (most := 100) g1 ha (by simp) hn
  have hlen := (normE_good' hoke).2.2
  rw [hn] at hlen
  simp only [List.length_append, List.length_cons, List.length_nil] at hlen
  rw [if_neg (by omega)] at c1 c2
  exact ⟨c1, c2⟩
theorem bit_skip {a : Nat} {l : List Nat} {i : Nat} (hb : a.testBit i = false) : normE (bitE a (l ++ [i])) = normE (bitE a l) := by
  rw [bitE_snoc, hb]; simp
theorem bit_pos {a : Nat} (turn : Bool) : normE (bitE a (posL turn 64)) = setB a := by
  obtain ⟨k1, k2, _⟩ := normE_good' (bitE_oke (a := a) (l := List.range 64) fun k hk => List.mem_range.1 hk)
  refine normE_ext (fun e he => (bitE_oke (a := a) (fun k hk => (posL_all turn k).1 hk) e he).2.2.1) k1.1 fun x => ?_
  show cov (normE (bitE a (List.range 64))) x ↔ _
  rw [k2, bitE_cov, bitE_cov]
  constructor
  · rintro ⟨k, hk, h⟩; exact ⟨k, (posL_all turn k).2 (List.mem_range.1 hk), h⟩
  · rintro ⟨k, hk, h⟩; exact ⟨k, List.mem_range.2 ((posL_all turn k).1 hk), h⟩
theorem setB_good (a : Nat) : SetG (setB a) ∧ (setB a).length ≤ 64 ∧ ∀ x, cov (setB a) x ↔ ∃ k : Nat, k < 64 ∧ a.testBit k = true ∧ x = k := by
  obtain ⟨k1, k2, k3⟩ := normE_good' (bitE_oke (a := a) (l := List.range 64) fun k hk => List.mem_range.1 hk)
  have := bitE_len a (List.range 64)
  rw [List.length_range] at this
  refine ⟨k1, by unfold setB; omega, fun x => ?_⟩
  unfold setB
  rw [k2, bitE_cov]
  constructor
  · rintro ⟨k, hk, h⟩; exact ⟨k, List.mem_range.1 hk, h⟩
  · rintro ⟨k, hk, h⟩; exact ⟨k, List.mem_range.2 hk, h⟩
theorem setB_has (a i : Nat) : hasB (setB a) (i : Int) = (decide (i < 64) && a.testBit i) := by
  obtain ⟨h1, _, h3⟩ := setB_good a
  rw [Bool.eq_iff_iff, hasB_iff h1.2, h3, Bool.and_eq_true, decide_eq_true_eq]
  constructor
  · rintro ⟨k, hk, hb, he⟩
    have : i = k := by omega
    subst this; exact ⟨hk, hb⟩
  · rintro ⟨h, hb⟩; exact ⟨i, h, hb, rfl⟩
/-- How many numbers are so. -/
def cntP (p : Nat → Bool) : Nat → Nat
  | 0 => 0
  | n + 1 => cntP p n + if p n then 1 else 0
theorem cntP_le (p : Nat → Bool) (n : Nat) : cntP p n ≤ n := by
  induction n with
  | zero => exact Nat.le_refl _
  | succ n ih => unfold cntP; split <;> omega
theorem cntP_congr {p q : Nat → Bool} {n : Nat} (h : ∀ i, i < n → p i = q i) : cntP p n = cntP q n := by
  induction n with
  | zero => rfl
  | succ n ih => unfold cntP; rw [ih fun i hi => h i (by omega), h n (by omega)]
theorem cntP_false (n : Nat) : cntP (fun _ => false) n = 0 := by
  induction n with
  | zero => rfl
  | succ n ih => unfold cntP; rw [ih]; rfl
theorem cntP_or {p q : Nat → Bool} (h : ∀ i, ¬ (p i = true ∧ q i = true)) (n : Nat) : cntP (fun i => p i || q i) n = cntP p n + cntP q n := by
  induction n with
  | zero => rfl
  | succ n ih =>
    unfold cntP
    rw [ih]
    have := h n
    cases hp : p n <;> cases hq : q n <;> simp_all <;> omega
theorem cntP_iv (a b : Int) (h : 0 ≤ a) (n : Nat) : (cntP (fun i => decide (a ≤ (i : Int)) && decide ((i : Int) < b)) n : Int) = max 0 (min b n - min a n) := by
  induction n with
  | zero => simp only [cntP]; omega
  | succ n ih =>
    unfold cntP
    rw [Int.natCast_add, ih]
    by_cases h1 : a ≤ (n : Int) <;> by_cases h2 : (n : Int) < b <;> simp [h1, h2] <;> omega
theorem cnt_cov (N : Nat) : ∀ (l : List Ext), Canon l → (∀ e ∈ l, 0 ≤ e.first ∧ e.first + e.len ≤ N) → cntE l = (cntP (fun i => l.any fun e => decide (e.first ≤ (i : Int)) && decide ((i : Int) < e.first + e.len)) N : Int)
  | [], _, _ => by
    have : cntP (fun i => ([] : List Ext).any fun e => decide (e.first ≤ (i : Int)) && decide ((i : Int) < e.first + e.len)) N = 0 := cntP_false N
    rw [this]; rfl
  | e :: l, hc, hb => by
    obtain ⟨h1, h2, h3⟩ := hc.cons
    have ih := cnt_cov N l h3 fun x hx => hb x (by simp [hx])
    have h0 := hb e (by simp)
    have := cntP_or (p := fun i => decide (e.first ≤ (i : Int)) && decide ((i : Int) < e.first + e.len)) (q := fun i => l.any fun e => decide (e.first ≤ (i : Int)) && decide ((i : Int) < e.first + e.len)) (fun i ⟨ha, hb⟩ => by
      simp only [Bool.and_eq_true, decide_eq_true_eq] at ha
      rw [List.any_eq_true] at hb
      obtain ⟨y, hy, hy2⟩ := hb
      simp only [Bool.and_eq_true, decide_eq_true_eq] at hy2
      have := h2 y hy
      omega) N
    show cntE (e :: l) = (cntP (fun i => (decide (e.first ≤ (i : Int)) && decide ((i : Int) < e.first + e.len)) || _) N : Int)
    rw [this, Int.natCast_add, cntP_iv _ _ h0.1, ← ih]
    unfold cntE
    simp only [List.map_cons, List.sum_cons]
    omega
theorem setB_cnt (a : Nat) : cntE (setB a) = (cntP (fun i => decide (i < 64) && a.testBit i) 66 : Int) := by
  obtain ⟨h1, _, h3⟩ := setB_good a
  rw [cnt_cov 66 (setB a) h1.1 fun e he => by
    have ho := h1.2 e he
    unfold Oke at ho
    obtain ⟨k, hk, _, hx⟩ := (h3 (e.first + e.len - 1)).1 ⟨e, he, by omega, by omega⟩
    omega]
  congr 1
  refine cntP_congr fun i hi => ?_
  rw [Bool.eq_iff_iff, List.any_eq_true, ← setB_has, hasB_iff h1.2]
  unfold cov
  simp only [Bool.and_eq_true, decide_eq_true_eq]
theorem crossB_cov {l m : List Ext} (hl : ∀ e ∈ l, Oke e) (hm : ∀ e ∈ m, Oke e) : crossB l m = true ↔ ∃ x, cov l x ∧ cov m x := by
  unfold crossB
  rw [List.any_eq_true]
  constructor
  · rintro ⟨a, ha, h⟩
    rw [List.any_eq_true] at h
    obtain ⟨b, hb, h⟩ := h
    unfold meetB at h
    simp only [Bool.and_eq_true, decide_eq_true_eq] at h
    have h1 := hl a ha
    have h2 := hm b hb
    unfold Oke at h1 h2
    exact ⟨max a.first b.first, ⟨a, ha, by omega, by omega⟩, ⟨b, hb, by omega, by omega⟩⟩
  · rintro ⟨x, ⟨a, ha, h1, h2⟩, ⟨b, hb, h3, h4⟩⟩
    refine ⟨a, ha, List.any_eq_true.2 ⟨b, hb, ?_⟩⟩
    unfold meetB
    simp only [Bool.and_eq_true, decide_eq_true_eq]
    omega
theorem setB_cross {a : Nat} (b : Nat) (ha : a < 18446744073709551616) : crossB (setB a) (setB b) = !decide (a &&& b = 0) := by
  obtain ⟨h1, _, h3⟩ := setB_good a
  obtain ⟨g1, _, g3⟩ := setB_good b
  rw [Bool.eq_iff_iff, crossB_cov h1.2 g1.2]
  simp only [Bool.not_eq_true', decide_eq_false_iff_not]
  rw [and_bits ha]
  constructor
  · rintro ⟨x, hx, hy⟩ hn
    obtain ⟨k, hk, hb, rfl⟩ := (h3 x).1 hx
    obtain ⟨k', hk', hb', he⟩ := (g3 _).1 hy
    have : k = k' := by omega
    subst this
    exact hn k hk ⟨hb, hb'⟩
  · intro hn
    refine Classical.byContradiction fun hc => hn fun k hk ⟨h, h'⟩ => hc ⟨k, (h3 k).2 ⟨k, hk, h, rfl⟩, (g3 k).2 ⟨k, hk, h', rfl⟩⟩
end Go.Proofs
