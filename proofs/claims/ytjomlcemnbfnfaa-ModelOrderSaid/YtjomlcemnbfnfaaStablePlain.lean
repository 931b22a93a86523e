/- Go's stable sort in plain Lean: ranges exchanged, rotated, merged in place by SymMerge, and blocks of twenty sorted by insertion: what these leave. -/
import Derived.Sort.LotA
import Derived.Sort.WalkA
namespace Go.Proofs
open Go.Sort
variable {α : Type} [Inhabited α]

/-! ### ranges exchanged -/
def swrG (f : Nat → α) (a b n i : Nat) : α := if a ≤ i ∧ i < a + n then f (i - a + b) else if b ≤ i ∧ i < b + n then f (i - b + a) else f i
structure SwR (a b n : Nat) (d d' : Array α) : Prop where
  perm : PermIn a (b + n) d d'
  get : ∀ i, d'[i]! = swrG (fun k => d[k]!) a b n i
theorem SwR.zero (a b : Nat) (d : Array α) : SwR a b 0 d d := ⟨permIn_refl d a _, fun i => by unfold swrG; rw [if_neg (by omega), if_neg (by omega)]⟩
theorem SwR.step {a b n : Nat} {d d' : Array α} (h : SwR a b n d d') (hab : a + n < b) (hb : b + n < d.size) : SwR a b (n + 1) d (swp d' (a + n) (b + n)) := by
  have hsz := h.perm.1
  refine ⟨permIn_trans _ _ _ _ _ (permIn_mono _ _ _ _ a (b + (n + 1)) (Nat.le_refl _) (by omega) (by omega) h.perm) (swp_permIn d' a (b + (n + 1)) (a + n) (b + n) (by omega) (by omega) (by omega) (by omega) (by omega)), fun i => ?_⟩
  rw [swp_get d' (show a + n < d'.size by omega) (show b + n < d'.size by omega), h.get, h.get, h.get]
  unfold swrG
  by_cases h1 : i = b + n
  · subst h1
    rw [if_pos rfl, if_neg (by omega), if_neg (by omega), if_neg (by omega), if_pos (by omega)]
    congr 1; omega
  · rw [if_neg h1]
    by_cases h2 : i = a + n
    · subst h2
      rw [if_pos rfl, if_neg (by omega), if_neg (by omega), if_pos (by omega)]
      congr 1; omega
    · rw [if_neg h2]
      by_cases h3 : a ≤ i ∧ i < a + n
      · rw [if_pos h3, if_pos (by omega)]
      · rw [if_neg h3]
        by_cases h4 : b ≤ i ∧ i < b + n
        · rw [if_pos h4]
          by_cases h5 : a ≤ i ∧ i < a + (n + 1)
          · omega
          · rw [if_neg h5, if_pos (by omega)]
        · rw [if_neg h4, if_neg (by omega), if_neg (by omega)]

/-! ### blocks rotated -/
def rotG (f : Nat → α) (a m b i : Nat) : α := if i < a then f i else if i < a + (b - m) then f (i - a + m) else if i < b then f (i - (b - m)) else f i
structure Rot (a m b : Nat) (d d' : Array α) : Prop where
  perm : PermIn a b d d'
  get : ∀ i, d'[i]! = rotG (fun k => d[k]!) a m b i
theorem Rot.idL (a b : Nat) (h : a ≤ b) (d : Array α) : Rot a a b d d := ⟨permIn_refl d a b, fun i => by
  unfold rotG
  by_cases h1 : i < a
  · rw [if_pos h1]
  · rw [if_neg h1]
    by_cases h2 : i < a + (b - a)
    · rw [if_pos h2]; congr 1; omega
    · rw [if_neg h2]
      by_cases h3 : i < b
      · omega
      · rw [if_neg h3]⟩
theorem Rot.idR (a b : Nat) (_h : a ≤ b) (d : Array α) : Rot a b b d d := ⟨permIn_refl d a b, fun i => by
  unfold rotG
  by_cases h1 : i < a
  · rw [if_pos h1]
  · rw [if_neg h1, if_neg (by omega)]
    by_cases h3 : i < b
    · rw [if_pos h3]; show d[i]! = d[i - (b - b)]!; rw [Nat.sub_self, Nat.sub_zero]
    · rw [if_neg h3]⟩
theorem rot_eq {m i : Nat} {d d' : Array α} (hi : i ≤ m) (h : SwR (m - i) m i d d') : Rot (m - i) m (m + i) d d' := ⟨h.perm, fun k => by
  rw [h.get]; unfold swrG rotG
  by_cases h1 : m - i ≤ k ∧ k < m - i + i
  · rw [if_pos h1, if_neg (by omega), if_pos (by omega)]
  · rw [if_neg h1]
    by_cases h2 : m ≤ k ∧ k < m + i
    · rw [if_pos h2, if_neg (by omega), if_neg (by omega), if_pos (by omega)]; congr 1; omega
    · rw [if_neg h2]
      by_cases h3 : k < m - i
      · rw [if_pos h3]
      · rw [if_neg h3, if_neg (by omega), if_neg (by omega)]⟩
theorem rot_left {m i j : Nat} {d d1 d2 : Array α} (hi : i ≤ m) (hj : j < i) (hb : m + j ≤ d.size) (h : SwR (m - i) m j d d1) (h2 : Rot (m - (i - j)) m (m + j) d1 d2) : Rot (m - i) m (m + j) d d2 := by
  refine ⟨permIn_trans _ _ _ _ _ h.perm (permIn_mono _ _ _ _ _ _ (by omega) (Nat.le_refl _) (by rw [h.perm.1]; exact hb) h2.perm), fun k => ?_⟩
  rw [h2.get]; unfold rotG
  simp only [h.get]
  unfold swrG
  by_cases h1 : k < m - i
  · rw [if_pos (by omega), if_neg (by omega), if_neg (by omega), if_pos h1]
  · rw [if_neg h1]
    by_cases h3 : k < m - i + (m + j - m)
    · rw [if_pos (by omega), if_pos (by omega), if_pos h3]
    · rw [if_neg h3]
      by_cases h4 : k < m + j
      · rw [if_neg (by omega)]
        by_cases h5 : k < m - (i - j) + (m + j - m)
        · rw [if_pos h5, if_neg (by omega), if_pos (by omega), if_pos h4]; congr 1; omega
        · rw [if_neg h5, if_pos h4, if_neg (by omega), if_neg (by omega), if_pos h4]
      · rw [if_neg (by omega), if_neg (by omega), if_neg h4, if_neg (by omega), if_neg (by omega), if_neg h4]
theorem rot_right {m i j : Nat} {d d1 d2 : Array α} (hi : i ≤ m) (hj : i < j) (hb : m + j ≤ d.size) (h : SwR (m - i) (m + j - i) i d d1) (h2 : Rot (m - i) m (m + (j - i)) d1 d2) : Rot (m - i) m (m + j) d d2 := by
  have hp := h.perm
  rw [show m + j - i + i = m + j by omega] at hp
  refine ⟨permIn_trans _ _ _ _ _ hp (permIn_mono _ _ _ _ _ _ (Nat.le_refl _) (by omega) (by rw [h.perm.1]; exact hb) h2.perm), fun k => ?_⟩
  rw [h2.get]; unfold rotG
  simp only [h.get]
  unfold swrG
  by_cases h1 : k < m - i
  · rw [if_pos (by omega), if_neg (by omega), if_neg (by omega), if_pos h1]
  · rw [if_neg h1, if_neg h1]
    by_cases h3 : k < m - i + (m + (j - i) - m)
    · rw [if_pos h3, if_neg (by omega), if_neg (by omega), if_pos (by omega)]
    · rw [if_neg h3]
      by_cases h4 : k < m + (j - i)
      · rw [if_pos h4, if_pos (by omega), if_pos (by omega)]; congr 1; omega
      · rw [if_neg h4, if_neg (by omega)]
        by_cases h5 : k < m + j
        · rw [if_pos (by omega), if_neg (by omega), if_pos h5]; congr 1; omega
        · rw [if_neg (by omega), if_neg (by omega), if_neg h5]
theorem rot_shiftL {a k : Nat} {d d' : Array α} (h : Rot a (a + 1) (k + 1) d d') (hk : a ≤ k) (hb : k + 1 < d.size) : Rot a (a + 1) (k + 2) d (swp d' k (k + 1)) := by
  have hsz := h.perm.1
  refine ⟨permIn_trans _ _ _ _ _ (permIn_mono _ _ _ _ a (k + 2) (Nat.le_refl _) (by omega) (by omega) h.perm) (swp_permIn d' a (k + 2) k (k + 1) (by omega) (by omega) (by omega) (by omega) (by omega)), fun i => ?_⟩
  rw [swp_get d' (show k < d'.size by omega) (show k + 1 < d'.size by omega), h.get, h.get, h.get]
  unfold rotG
  by_cases h1 : i = k + 1
  · subst h1
    rw [if_pos rfl, if_neg (by omega), if_neg (by omega), if_pos (by omega), if_neg (by omega), if_neg (by omega), if_pos (by omega)]
    congr 1; omega
  · rw [if_neg h1]
    by_cases h2 : i = k
    · subst h2
      rw [if_pos rfl, if_neg (by omega), if_neg (by omega), if_neg (by omega), if_neg (by omega), if_pos (by omega)]
      congr 1; omega
    · rw [if_neg h2]
      by_cases h3 : i < a
      · rw [if_pos h3, if_pos h3]
      · rw [if_neg h3, if_neg h3]
        by_cases h4 : i < k
        · rw [if_pos (by omega), if_pos (by omega)]
        · rw [if_neg (by omega), if_neg (by omega), if_neg (by omega), if_neg (by omega)]
theorem rot_shiftR {m k : Nat} {d d' : Array α} (h : Rot (k + 1) m (m + 1) d d') (hk : k < m) (hb : m < d.size) : Rot k m (m + 1) d (swp d' (k + 1) k) := by
  have hsz := h.perm.1
  refine ⟨permIn_trans _ _ _ _ _ (permIn_mono _ _ _ _ k (m + 1) (by omega) (Nat.le_refl _) (by omega) h.perm) (swp_permIn d' k (m + 1) (k + 1) k (by omega) (by omega) (by omega) (by omega) (by omega)), fun i => ?_⟩
  rw [swp_get d' (show k + 1 < d'.size by omega) (show k < d'.size by omega), h.get, h.get, h.get]
  unfold rotG
  by_cases h1 : i = k
  · subst h1
    rw [if_pos rfl, if_neg (by omega), if_pos (by omega), if_neg (by omega), if_pos (by omega)]
    congr 1; omega
  · rw [if_neg h1]
    by_cases h2 : i = k + 1
    · subst h2
      rw [if_pos rfl, if_pos (by omega), if_neg (by omega), if_neg (by omega), if_pos (by omega)]
      congr 1; omega
    · rw [if_neg h2]
      by_cases h3 : i < k
      · rw [if_pos (by omega), if_pos h3]
      · have n1 : ¬ i < k + 1 := by omega
        have n2 : ¬ i < k + 1 + (m + 1 - m) := by omega
        have n3 : ¬ i < k + (m + 1 - m) := by omega
        rw [if_neg n1, if_neg n2, if_neg h3, if_neg n3]

/-! ### an order that tells ties apart -/
variable {lt : α → α → Bool} {tg : α → Nat}
def lx (lt : α → α → Bool) (tg : α → Nat) (x y : α) : Bool := lt x y || (!lt y x && decide (tg x < tg y))
omit [Inhabited α] in
theorem lx_f {x y : α} : lx lt tg x y = false ↔ lt x y = false ∧ (lt y x = true ∨ tg y ≤ tg x) := by
  unfold lx
  cases lt x y <;> cases lt y x <;> simp
omit [Inhabited α] in
theorem lx_t {x y : α} : lx lt tg x y = true ↔ lt x y = true ∨ (lt y x = false ∧ tg x < tg y) := by
  unfold lx
  cases lt x y <;> cases lt y x <;> simp
omit [Inhabited α] in
theorem lx_lt (hS : SWO lt) {x y : α} (h : lt x y = true) : lx lt tg y x = false := lx_f.2 ⟨hS.asymmA h, Or.inl h⟩
omit [Inhabited α] in
theorem lx_tg {x y : α} (h : lt y x = false) (ht : tg x ≤ tg y) : lx lt tg y x = false := lx_f.2 ⟨h, Or.inr ht⟩
omit [Inhabited α] in
theorem lx_swo (hS : SWO lt) : SWO (lx lt tg) where
  irrefl x := lx_f.2 ⟨hS.irrefl x, Or.inr (Nat.le_refl _)⟩
  trans x y z h1 h2 := by
    rw [lx_t] at *
    rcases h1 with h1 | ⟨h1, t1⟩ <;> rcases h2 with h2 | ⟨h2, t2⟩
    · exact Or.inl (hS.trans _ _ _ h1 h2)
    · left
      cases h : lt x z with
      | true => rfl
      | false => have := hS.ntrans _ _ _ h h2; rw [h1] at this; cases this
    · left
      cases h : lt x z with
      | true => rfl
      | false => have := hS.ntrans _ _ _ h1 h; rw [h2] at this; cases this
    · exact Or.inr ⟨hS.ntrans _ _ _ h2 h1, by omega⟩
  ntrans x y z h1 h2 := by
    rw [lx_f] at *
    refine ⟨hS.ntrans _ _ _ h1.1 h2.1, ?_⟩
    rcases h1.2 with h1' | t1
    · left
      cases h : lt z x with
      | true => rfl
      | false => have := hS.ntrans _ _ _ h2.1 h; rw [h1'] at this; cases this
    · rcases h2.2 with h2' | t2
      · left
        cases h : lt z x with
        | true => rfl
        | false => have := hS.ntrans _ _ _ h h1.1; rw [h2'] at this; cases this
      · right; omega

/-! ### SymMerge -/
structure SymPre (lt : α → α → Bool) (tg : α → Nat) (a m b : Nat) (d : Array α) : Prop where
  l : SortedIn (lx lt tg) a m d
  r : SortedIn (lx lt tg) m b d
  t : ∀ p q, a ≤ p → p < m → m ≤ q → q < b → tg d[p]! < tg d[q]!
theorem sorted_le (hS : SWO lt) {a b : Nat} {d : Array α} (h : SortedIn (lx lt tg) a b d) {i j : Nat} (hi : a ≤ i) (hij : i ≤ j) (hj : j < b) : lt d[j]! d[i]! = false := by
  rcases Nat.lt_or_ge i j with hh | hh
  · exact (lx_f.1 (h i j hi hh hj)).1
  · obtain rfl : i = j := by omega
    exact hS.irrefl _
theorem merge_cut (hS : SWO lt) {a m b s e : Nat} {d d1 : Array α} (h : SymPre lt tg a m b d) (h1 : a ≤ s) (h2 : s ≤ m) (h3 : m ≤ e) (h4 : e ≤ b)
    (c1 : a < s → e < b → lt d[e]! d[s - 1]! = false) (c2 : s < m → m < e → lt d[e - 1]! d[s]! = true) (hr : Rot s m e d d1) :
    SymPre lt tg a s (s + (e - m)) d1 ∧ SymPre lt tg (s + (e - m)) e b d1 ∧ ∀ p q, a ≤ p → p < s + (e - m) → s + (e - m) ≤ q → q < b → lx lt tg d1[q]! d1[p]! = false := by
  have gA : ∀ i, i < s → d1[i]! = d[i]! := fun i hi => by rw [hr.get]; unfold rotG; rw [if_pos hi]
  have gB : ∀ i, s ≤ i → i < s + (e - m) → d1[i]! = d[i - s + m]! := fun i hi hi2 => by rw [hr.get]; unfold rotG; rw [if_neg (by omega), if_pos hi2]
  have gC : ∀ i, s + (e - m) ≤ i → i < e → d1[i]! = d[i - (e - m)]! := fun i hi hi2 => by rw [hr.get]; unfold rotG; rw [if_neg (by omega), if_neg (by omega), if_pos hi2]
  have gD : ∀ i, e ≤ i → d1[i]! = d[i]! := fun i hi => by rw [hr.get]; unfold rotG; rw [if_neg (by omega), if_neg (by omega), if_neg (by omega)]
  refine ⟨⟨fun i j hi hij hj => ?_, fun i j hi hij hj => ?_, fun p q hp hp2 hq hq2 => ?_⟩, ⟨fun i j hi hij hj => ?_, fun i j hi hij hj => ?_, fun p q hp hp2 hq hq2 => ?_⟩, fun p q hp hp2 hq hq2 => ?_⟩
  · rw [gA i (by omega), gA j hj]; exact h.l i j hi hij (by omega)
  · rw [gB i hi (by omega), gB j (by omega) hj]; exact h.r _ _ (by omega) (by omega) (by omega)
  · rw [gA p hp2, gB q hq hq2]; exact h.t _ _ hp (by omega) (by omega) (by omega)
  · rw [gC i hi (by omega), gC j (by omega) hj]; exact h.l _ _ (by omega) (by omega) (by omega)
  · rw [gD i hi, gD j (by omega)]; exact h.r _ _ (by omega) hij hj
  · rw [gC p hp hp2, gD q hq]; exact h.t _ _ (by omega) (by omega) (by omega) hq2
  · by_cases hps : p < s
    · rw [gA p hps]
      by_cases hqe : q < e
      · rw [gC q hq hqe]; exact h.l _ _ hp (by omega) (by omega)
      · rw [gD q (by omega)]
        have k1 := sorted_le hS h.l hp (show p ≤ s - 1 by omega) (by omega)
        have k2 := sorted_le hS h.r (show m ≤ e by omega) (show e ≤ q by omega) hq2
        exact lx_tg (hS.ntrans _ _ _ k2 (hS.ntrans _ _ _ (c1 (by omega) (by omega)) k1)) (Nat.le_of_lt (h.t _ _ hp (by omega) (by omega) hq2))
    · rw [gB p (by omega) hp2]
      by_cases hqe : q < e
      · rw [gC q hq hqe]
        have k1 := sorted_le hS h.r (show m ≤ p - s + m by omega) (show p - s + m ≤ e - 1 by omega) (by omega)
        have k2 := sorted_le hS h.l (show a ≤ s by omega) (show s ≤ q - (e - m) by omega) (by omega)
        refine lx_lt hS ?_
        cases hh : lt d[p - s + m]! d[q - (e - m)]! with
        | true => rfl
        | false =>
          have := hS.ntrans _ _ _ k1 (hS.ntrans _ _ _ hh k2)
          rw [c2 (by omega) (by omega)] at this; cases this
      · rw [gD q (by omega)]; exact h.r _ _ (by omega) (by omega) hq2
theorem merge_join {a mid b : Nat} {d1 d2 d3 : Array α} (ha : a ≤ mid) (hmb : mid ≤ b) (hb : b ≤ d1.size) (hx : ∀ p q, a ≤ p → p < mid → mid ≤ q → q < b → lx lt tg d1[q]! d1[p]! = false)
    (h2 : PermIn a mid d1 d2) (s2 : SortedIn (lx lt tg) a mid d2) (h3 : PermIn mid b d2 d3) (s3 : SortedIn (lx lt tg) mid b d3) : SortedIn (lx lt tg) a b d3 := by
  have z2 := h2.1
  have gL : ∀ i, i < mid → d3[i]! = d2[i]! := fun i hi => h3.2.1 i (Or.inl hi)
  have gR : ∀ i, mid ≤ i → d2[i]! = d1[i]! := fun i hi => h2.2.1 i (Or.inr hi)
  have hx2 : ∀ q, mid ≤ q → q < b → ∀ p, a ≤ p → p < mid → lx lt tg d2[q]! d2[p]! = false := fun q hq hq2 =>
    permIn_all d1 d2 a mid (fun x => lx lt tg d2[q]! x = false) (by omega) h2 fun p hp hp2 => by rw [gR q hq]; exact hx p q hp hp2 hq hq2
  have hx3 : ∀ p, a ≤ p → p < mid → ∀ q, mid ≤ q → q < b → lx lt tg d3[q]! d2[p]! = false := fun p hp hp2 =>
    permIn_all d2 d3 mid b (fun x => lx lt tg x d2[p]! = false) (by omega) h3 fun q hq hq2 => hx2 q hq hq2 p hp hp2
  intro i j hi hij hj
  by_cases h : j < mid
  · rw [gL i (by omega), gL j h]; exact s2 i j hi hij h
  · by_cases h' : i < mid
    · rw [gL i h']; exact hx3 i hi h' j (by omega) hj
    · exact s3 i j (by omega) hij hj
theorem merge_oneL (hS : SWO lt) {a b i : Nat} {d d1 : Array α} (hb : b ≤ d.size) (h : SymPre lt tg a (a + 1) b d) (h1 : a + 1 ≤ i) (h2 : i ≤ b)
    (c1 : a + 1 < i → lt d[i - 1]! d[a]! = true) (c2 : i < b → lt d[i]! d[a]! = false) (hr : Rot a (a + 1) i d d1) : SortedIn (lx lt tg) a b d1 := by
  obtain ⟨k1, k2, k3⟩ := merge_cut hS h (Nat.le_refl a) (Nat.le_succ a) h1 h2 (fun hh => absurd hh (Nat.lt_irrefl _)) (fun _ hh => c1 hh) hr
  have z := hr.perm.1
  refine merge_join (by omega) (by omega) (by omega) k3 (permIn_refl d1 a _) k1.r (permIn_refl d1 _ b) ?_
  intro p q hp hpq hq
  by_cases hpi : p < i
  · have e1 : d1[p]! = d[a]! := by rw [hr.get]; unfold rotG; rw [if_neg (by omega), if_neg (by omega), if_pos hpi]; congr 1; omega
    have e2 : d1[q]! = d[q]! := by rw [hr.get]; unfold rotG; rw [if_neg (by omega), if_neg (by omega), if_neg (by omega)]
    rw [e1, e2]
    exact lx_tg (hS.ntrans _ _ _ (sorted_le hS h.r h1 (show i ≤ q by omega) hq) (c2 (by omega))) (Nat.le_of_lt (h.t a q (Nat.le_refl _) (by omega) (by omega) hq))
  · exact k2.r p q (by omega) hpq hq
theorem merge_oneR (hS : SWO lt) {a m i : Nat} {d d1 : Array α} (hb : m + 1 ≤ d.size) (h : SymPre lt tg a m (m + 1) d) (h1 : a ≤ i) (h2 : i ≤ m)
    (c1 : a < i → lt d[m]! d[i - 1]! = false) (c2 : i < m → lt d[m]! d[i]! = true) (hr : Rot i m (m + 1) d d1) : SortedIn (lx lt tg) a (m + 1) d1 := by
  obtain ⟨k1, k2, k3⟩ := merge_cut hS h h1 h2 (Nat.le_succ m) (Nat.le_refl _) (fun _ hh => absurd hh (Nat.lt_irrefl _)) (fun hh _ => c2 hh) hr
  have z := hr.perm.1
  refine merge_join (by omega) (by omega) (by omega) k3 (permIn_refl d1 a _) ?_ (permIn_refl d1 _ (m + 1)) k2.l
  intro p q hp hpq hq
  by_cases hqi : q < i
  · exact k1.l p q hp hpq hqi
  · have e1 : d1[p]! = d[p]! := by rw [hr.get]; unfold rotG; rw [if_pos (by omega)]
    have e2 : d1[q]! = d[m]! := by rw [hr.get]; unfold rotG; rw [if_neg (by omega), if_pos (by omega)]; congr 1; omega
    rw [e1, e2]
    exact lx_tg (hS.ntrans _ _ _ (c1 (by omega)) (sorted_le hS h.l hp (show p ≤ i - 1 by omega) (by omega))) (Nat.le_of_lt (h.t p m hp (by omega) (Nat.le_refl _) (by omega)))

theorem SymPre.upd {a m b lo hi : Nat} {d d' : Array α} (h : SymPre lt tg a m b d) (hp : PermIn lo hi d d') (ho : b ≤ lo ∨ hi ≤ a) (hm1 : a ≤ m) (hm2 : m ≤ b) : SymPre lt tg a m b d' := by
  have e : ∀ i, a ≤ i → i < b → d'[i]! = d[i]! := fun i h1 h2 => hp.2.1 i (by omega)
  refine ⟨fun i j hi hij hj => ?_, fun i j hi hij hj => ?_, fun p q h1 h2 h3 h4 => ?_⟩
  · rw [e i hi (by omega), e j (by omega) (by omega)]; exact h.l i j hi hij hj
  · rw [e i (by omega) (by omega), e j (by omega) hj]; exact h.r i j hi hij hj
  · rw [e p h1 (by omega), e q (by omega) h4]; exact h.t p q h1 h2 h3 h4
theorem SymPre.one {a m b : Nat} {d : Array α} (h : SymPre lt tg a m b d) (ho : a = m ∨ m = b) : SortedIn (lx lt tg) a b d := by
  rcases ho with rfl | rfl
  · exact h.r
  · exact h.l
theorem merge_end {a i m en mid b : Nat} {d d1 d2 d3 : Array α} (h1 : a ≤ i) (h2 : i ≤ mid) (h3 : mid ≤ en) (h4 : en ≤ b) (hb : b ≤ d.size) (hr : Rot i m en d d1) (hx : ∀ p q, a ≤ p → p < mid → mid ≤ q → q < b → lx lt tg d1[q]! d1[p]! = false)
    (p2 : PermIn a mid d1 d2) (s2 : SortedIn (lx lt tg) a mid d2) (p3 : PermIn mid b d2 d3) (s3 : SortedIn (lx lt tg) mid b d3) : PermIn a b d d3 ∧ SortedIn (lx lt tg) a b d3 := by
  have z1 := hr.perm.1
  have z2 := p2.1
  exact ⟨permIn_trans _ _ _ _ _ (permIn_mono _ _ _ _ a b h1 h4 hb hr.perm) (permIn_trans _ _ _ _ _ (permIn_mono _ _ _ _ a b (Nat.le_refl _) (by omega) (by omega) p2) (permIn_mono _ _ _ _ a b (by omega) (Nat.le_refl _) (by omega) p3)),
    merge_join (by omega) (by omega) (by omega) hx p2 s2 p3 s3⟩

/-! ### blocks sorted by insertion -/
theorem insInner_lx {a : Nat} : ∀ (j : Nat) (d : Array α), j < d.size → (∀ p, a ≤ p → p < j → tg d[p]! ≤ tg d[j]!) → insInner (lx lt tg) a j d = insInner lt a j d
  | 0, d, _, _ => by unfold insInner; rfl
  | j + 1, d, hj, h => by
    unfold insInner
    by_cases hja : j + 1 > a
    · have e : lx lt tg d[j + 1]! d[j]! = lt d[j + 1]! d[j]! := by
        have := h j (by omega) (by omega)
        unfold lx
        rw [decide_eq_false (show ¬ tg d[j + 1]! < tg d[j]! by omega)]; simp
      rw [e]
      by_cases hl : lt d[j + 1]! d[j]! = true
      · rw [hl, decide_eq_true hja]
        simp only [Bool.and_self, if_true]
        refine insInner_lx j _ (by rw [swp_size]; omega) fun p hp hpj => ?_
        have g := swp_get d hj (show j < d.size by omega)
        rw [g, g, if_neg (by omega), if_neg (by omega), if_pos rfl]
        exact h p hp (by omega)
      · have hl' : lt d[j + 1]! d[j]! = false := by simpa using hl
        rw [hl']; simp
    · rw [decide_eq_false hja]; simp
theorem insOuter_lx (hS : SWO lt) {a b : Nat} : ∀ (n i : Nat) (d : Array α), b - i = n → a < i → b ≤ d.size → SortedIn (lx lt tg) a i d → (∀ p q, a ≤ p → p < q → i ≤ q → q < b → tg d[p]! ≤ tg d[q]!) → insOuter (lx lt tg) a b i d = insOuter lt a b i d
  | 0, i, d, hn, _, _, _, _ => by rw [insOuter, if_neg (by omega), insOuter, if_neg (by omega)]
  | n + 1, i, d, hn, hai, hb, hs, ht => by
    have hlt : i < b := by omega
    rw [insOuter_go _ _ _ _ _ hlt, insOuter_go _ _ _ _ _ hlt]
    have e := insInner_lx (lt := lt) (tg := tg) (a := a) i d (by omega) fun p hp hpi => ht p i hp hpi (Nat.le_refl _) hlt
    have h1 := insInner_spec (lx_swo (tg := tg) hS) swp_permIn permIn_refl permIn_trans a (i + 1) i (Nat.lt_succ_self _) i d (by omega) (Nat.le_refl _) (by omega) ⟨fun p q hap hpq hqi _ hq => hs p q hap hpq (by omega), fun q h1 h2 => by omega⟩
    rw [e] at h1 ⊢
    refine insOuter_lx hS n (i + 1) _ (by omega) (by omega) (by rw [h1.1.1]; exact hb) h1.2 fun p q hp hpq hq hqb => ?_
    have eq : (insInner lt a i d)[q]! = d[q]! := h1.1.2.1 q (Or.inr (by omega))
    rw [eq]
    by_cases hpi : p < i + 1
    · exact permIn_all d _ a (i + 1) (fun x => tg x ≤ tg d[q]!) (by omega) h1.1 (fun r hr hr2 => ht r q hr (by omega) (by omega) hqb) p hp hpi
    · rw [h1.1.2.1 p (Or.inr (by omega))]
      exact ht p q hp hpq (by omega) hqb
theorem insertion_stable (hS : SWO lt) {a b : Nat} {d : Array α} (hab : a ≤ b) (hb : b ≤ d.size) (ht : ∀ p q, a ≤ p → p < q → q < b → tg d[p]! ≤ tg d[q]!) :
    PermIn a b d (insertionSort lt d a b) ∧ SortedIn (lx lt tg) a b (insertionSort lt d a b) := by
  have h := insertionSort_holds (lx_swo (tg := tg) hS) d a b hab hb
  have e : insertionSort (lx lt tg) d a b = insertionSort lt d a b := by
    unfold insertionSort
    by_cases hh : a < b
    · exact insOuter_lx hS _ (a + 1) d rfl (by omega) hb (fun i j h1 h2 h3 => by omega) fun p q hp hpq _ hq => ht p q hp hpq hq
    · rw [insOuter, if_neg (by omega), insOuter, if_neg (by omega)]
  rwa [e] at h

/-! ### the whole: blocks of bs, each sorted, each with the tags of its places -/
structure Blk (lt : α → α → Bool) (tg : α → Nat) (bs n : Nat) (d : Array α) : Prop where
  s : ∀ i j, i < j → j < n → i / bs = j / bs → lx lt tg d[j]! d[i]! = false
  t : ∀ i, i < n → tg d[i]! / bs = i / bs
/-- Up to a all blocks of 20 are sorted, behind it all is as it was. -/
structure BlkA (lt : α → α → Bool) (tg : α → Nat) (bs n a : Nat) (d0 d : Array α) : Prop where
  perm : PermIn 0 n d0 d
  s : ∀ i j, i < j → j < a → i / bs = j / bs → lx lt tg d[j]! d[i]! = false
  t : ∀ i, i < n → tg d[i]! / bs = i / bs
  old : ∀ i, a ≤ i → i < n → tg d[i]! = i
theorem BlkA.start {n : Nat} {d : Array α} (bs : Nat) (h : ∀ i, i < n → tg d[i]! = i) : BlkA lt tg bs n 0 d d := ⟨permIn_refl d 0 n, fun i j _ hj _ => absurd hj (Nat.not_lt_zero _), fun i hi => by rw [h i hi], fun i _ hi => h i hi⟩
theorem BlkA.step (hS : SWO lt) {bs n q b : Nat} {d0 d : Array α} (hbs : 0 < bs) (h : BlkA lt tg bs n (q * bs) d0 d) (hn : n ≤ d0.size) (h1 : q * bs ≤ b) (h2 : b ≤ n) (h3 : b ≤ (q + 1) * bs) :
    BlkA lt tg bs n b d0 (insertionSort lt d (q * bs) b) := by
  have z := h.perm.1
  obtain ⟨p1, s1⟩ := insertion_stable (tg := tg) hS h1 (show b ≤ d.size by omega) fun p r hp hpr hr => by rw [h.old p hp (by omega), h.old r (by omega) (by omega)]; omega
  have hdiv : ∀ i, q * bs ≤ i → i < b → i / bs = q := fun i hi hi2 => by
    rw [Nat.div_eq_iff hbs]
    have : (q + 1) * bs = q * bs + bs := by rw [Nat.add_mul, Nat.one_mul]
    have : bs * q = q * bs := Nat.mul_comm _ _
    omega
  refine ⟨permIn_trans _ _ _ _ _ h.perm (permIn_mono _ _ _ _ 0 n (Nat.zero_le _) h2 (by omega) p1), fun i j hij hj he => ?_, fun i hi => ?_, fun i hi hi2 => ?_⟩
  · by_cases hjq : j < q * bs
    · rw [p1.2.1 i (Or.inl (by omega)), p1.2.1 j (Or.inl hjq)]; exact h.s i j hij hjq he
    · have hj' := hdiv j (by omega) hj
      have hi' : q * bs ≤ i := by
        rw [hj'] at he
        have := Nat.div_mul_le_self i bs
        rw [he] at this
        omega
      exact s1 i j hi' hij hj
  · by_cases hi2 : q * bs ≤ i ∧ i < b
    · rw [hdiv i hi2.1 hi2.2]
      exact permIn_all d _ (q * bs) b (fun x => tg x / bs = q) (by omega) p1 (fun r hr hr2 => by rw [h.t r (by omega), hdiv r hr hr2]) i hi2.1 hi2.2
    · rw [p1.2.1 i (by omega)]; exact h.t i hi
  · rw [p1.2.1 i (Or.inr hi)]; exact h.old i (by omega) hi2
/-- Blocks of bs from a on; blocks of twice that up to a. -/
structure BlkB (lt : α → α → Bool) (tg : α → Nat) (bs n a : Nat) (d0 d : Array α) : Prop where
  perm : PermIn 0 n d0 d
  s2 : ∀ i j, i < j → j < a → j < n → i / (bs * 2) = j / (bs * 2) → lx lt tg d[j]! d[i]! = false
  s1 : ∀ i j, a ≤ i → i < j → j < n → i / bs = j / bs → lx lt tg d[j]! d[i]! = false
  t2 : ∀ i, i < a → i < n → tg d[i]! / (bs * 2) = i / (bs * 2)
  t1 : ∀ i, a ≤ i → i < n → tg d[i]! / bs = i / bs
theorem BlkB.start {bs n : Nat} {d0 d : Array α} (hp : PermIn 0 n d0 d) (h : Blk lt tg bs n d) : BlkB lt tg bs n 0 d0 d := ⟨hp, fun i j _ hj => absurd hj (Nat.not_lt_zero _), fun i j _ hij hj he => h.s i j hij hj he, fun i hi => absurd hi (Nat.not_lt_zero _), fun i _ hi => h.t i hi⟩
theorem BlkA.done {bs n : Nat} {d0 d : Array α} (h : BlkA lt tg bs n n d0 d) : Blk lt tg bs n d := ⟨h.s, h.t⟩
theorem BlkB.done {bs n a : Nat} {d0 d : Array α} (h : BlkB lt tg bs n a d0 d) (ha : n ≤ a) : Blk lt tg (bs * 2) n d := ⟨fun i j hij hj he => h.s2 i j hij (by omega) hj he, fun i hi => h.t2 i (by omega) hi⟩
/-- One block alone is left. -/
theorem BlkB.done1 {bs n q : Nat} {d0 d : Array α} (hbs : 0 < bs) (h : BlkB lt tg bs n (q * (bs * 2)) d0 d) (ha : n ≤ q * (bs * 2) + bs) : Blk lt tg (bs * 2) n d := by
  have hd2 : ∀ i, q * (bs * 2) ≤ i → i < n → i / (bs * 2) = q := fun i hi hi2 => by
    rw [Nat.div_eq_iff (by omega)]
    have : bs * 2 * q = q * (bs * 2) := Nat.mul_comm _ _
    omega
  have hd1 : ∀ i, q * (bs * 2) ≤ i → i < n → i / bs = q * 2 := fun i hi hi2 => by
    rw [Nat.div_eq_iff hbs]
    have : bs * (q * 2) = q * (bs * 2) := by rw [Nat.mul_comm q 2, ← Nat.mul_assoc, Nat.mul_comm (bs * 2) q]
    have : q * 2 * bs = q * (bs * 2) := by rw [Nat.mul_assoc, Nat.mul_comm 2 bs]
    omega
  refine ⟨fun i j hij hj he => ?_, fun i hi => ?_⟩
  · by_cases hjq : j < q * (bs * 2)
    · exact h.s2 i j hij hjq hj he
    · have hi' : q * (bs * 2) ≤ i := by
        rw [hd2 j (by omega) hj] at he
        have := Nat.div_mul_le_self i (bs * 2)
        rw [he] at this
        omega
      exact h.s1 i j hi' hij hj (by rw [hd1 i hi' (by omega), hd1 j (by omega) hj])
  · by_cases hiq : i < q * (bs * 2)
    · exact h.t2 i hiq hi
    · have := h.t1 i (by omega) hi
      rw [← Nat.div_div_eq_div_mul, ← Nat.div_div_eq_div_mul, this]
theorem BlkB.pre {bs n q b : Nat} {d0 d : Array α} (hbs : 0 < bs) (h : BlkB lt tg bs n (q * (bs * 2)) d0 d) (h1 : q * (bs * 2) + bs < b) (h2 : b ≤ n) (h3 : b ≤ (q + 1) * (bs * 2)) :
    SymPre lt tg (q * (bs * 2)) (q * (bs * 2) + bs) b d := by
  have e3 : (q + 1) * (bs * 2) = q * (bs * 2) + bs * 2 := by rw [Nat.add_mul, Nat.one_mul]
  have hd1 : ∀ i, q * (bs * 2) ≤ i → i < q * (bs * 2) + bs → i / bs = q * 2 := fun i hi hi2 => by
    rw [Nat.div_eq_iff hbs]
    have : bs * (q * 2) = q * (bs * 2) := by rw [Nat.mul_comm q 2, ← Nat.mul_assoc, Nat.mul_comm (bs * 2) q]
    have : q * 2 * bs = q * (bs * 2) := by rw [Nat.mul_assoc, Nat.mul_comm 2 bs]
    omega
  have hd2 : ∀ i, q * (bs * 2) + bs ≤ i → i < b → i / bs = q * 2 + 1 := fun i hi hi2 => by
    rw [Nat.div_eq_iff hbs]
    have : bs * (q * 2 + 1) = q * (bs * 2) + bs := by rw [Nat.mul_add, Nat.mul_one, Nat.mul_comm q 2, ← Nat.mul_assoc, Nat.mul_comm (bs * 2) q]
    have : (q * 2 + 1) * bs = q * (bs * 2) + bs := by rw [Nat.mul_comm]; exact this
    omega
  refine ⟨fun i j hi hij hj => h.s1 i j hi hij (by omega) (by rw [hd1 i hi (by omega), hd1 j (by omega) hj]), fun i j hi hij hj => h.s1 i j (by omega) hij (by omega) (by rw [hd2 i hi (by omega), hd2 j (by omega) hj]), fun p r hp hp2 hr hr2 => ?_⟩
  have t1 := h.t1 p hp (by omega)
  have t2 := h.t1 r (by omega) (by omega)
  rw [hd1 p hp hp2] at t1
  rw [hd2 r hr hr2] at t2
  refine Nat.lt_of_not_le fun hh => ?_
  have := Nat.div_le_div_right (c := bs) hh
  omega
theorem BlkB.step {bs n q b : Nat} {d0 d d' : Array α} (hbs : 0 < bs) (hn : n ≤ d0.size) (h : BlkB lt tg bs n (q * (bs * 2)) d0 d) (h1 : q * (bs * 2) + bs < b) (h2 : b ≤ n) (h3 : b ≤ (q + 1) * (bs * 2))
    (hp : PermIn (q * (bs * 2)) b d d') (hs : SortedIn (lx lt tg) (q * (bs * 2)) b d') : BlkB lt tg bs n b d0 d' := by
  have z := h.perm.1
  have e3 : (q + 1) * (bs * 2) = q * (bs * 2) + bs * 2 := by rw [Nat.add_mul, Nat.one_mul]
  have hd : ∀ i, q * (bs * 2) ≤ i → i < b → i / (bs * 2) = q := fun i hi hi2 => by
    rw [Nat.div_eq_iff (by omega)]
    have : bs * 2 * q = q * (bs * 2) := Nat.mul_comm _ _
    omega
  refine ⟨permIn_trans _ _ _ _ _ h.perm (permIn_mono _ _ _ _ 0 n (Nat.zero_le _) h2 (by omega) hp), fun i j hij hj hjn he => ?_, fun i j hi hij hj he => ?_, fun i hi hin => ?_, fun i hi hin => ?_⟩
  · by_cases hjq : j < q * (bs * 2)
    · rw [hp.2.1 i (Or.inl (by omega)), hp.2.1 j (Or.inl hjq)]; exact h.s2 i j hij hjq hjn he
    · have hi' : q * (bs * 2) ≤ i := by
        rw [hd j (by omega) hj] at he
        have := Nat.div_mul_le_self i (bs * 2)
        rw [he] at this
        omega
      exact hs i j hi' hij hj
  · rw [hp.2.1 i (Or.inr hi), hp.2.1 j (Or.inr (by omega))]; exact h.s1 i j (by omega) hij hj he
  · by_cases hiq : i < q * (bs * 2)
    · rw [hp.2.1 i (Or.inl hiq)]; exact h.t2 i hiq hin
    · rw [hd i (by omega) hi]
      refine permIn_all d d' (q * (bs * 2)) b (fun x => tg x / (bs * 2) = q) (by omega) hp (fun r hr hr2 => ?_) i (by omega) hi
      have := h.t1 r hr (by omega)
      rw [← Nat.div_div_eq_div_mul, this, Nat.div_div_eq_div_mul, hd r hr hr2]
  · rw [hp.2.1 i (Or.inr hi)]; exact h.t1 i (by omega) hin
theorem Blk.all {bs n : Nat} {d : Array α} (h : Blk lt tg bs n d) (hn : n ≤ bs) : SortedIn (lx lt tg) 0 n d := fun i j _ hij hj => h.s i j hij hj (by rw [Nat.div_eq_of_lt (by omega), Nat.div_eq_of_lt (by omega)])
end Go.Proofs
