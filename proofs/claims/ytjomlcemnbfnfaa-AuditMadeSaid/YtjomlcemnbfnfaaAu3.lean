/- Texts of this claim, one behind the other: PlainLast, PlainRuns, ReplayPlain, Order22Plain, LayIns, SwapRangeI, RotateI, SymMergeI, StableI, RefOrdPlain, RefOrd, SortInt, AuditOrd. -/
import Derived.Shelf.SlSortCmp.InsertionK
import Derived.Shelf.SlSortCmp.Insertion1
import Derived.Shelf.SlicesG.Cmp
import Derived.Ground.SlsfProg
import Derived.Ground.SlgcProg
import Derived.Test.YtjomlcemnbfnfaaChecked
import Derived.Shelf.SlSortCmp.Kit1
import Derived.Sort.WalkB2
import Derived.Sort.WalkB12
import Derived.Deep.LoopGhost
import Derived.Lib.Hide
import Derived.Deep.RegionLaw
import Derived.Test.YtjomlcemnbfnfaaAu2

/- ModelLast, the plain part: what is there behind writes of one block each. -/
namespace Go.Proofs
open Go.RowKit Sc

theorem roundN_zero {x : Int} (h : roundN x 251 = 0) : ∃ q, x = 251 * q := by
  unfold roundN at h
  have hb := tmod_bd x (show (0 : Int) < 251 by omega)
  have h0 : x.tmod 251 = 0 := by split at h <;> omega
  obtain ⟨q, hq⟩ := Int.dvd_of_tmod_eq_zero h0
  exact ⟨q, hq⟩
theorem blockB_get (k : Int) (n j : Nat) (h : j < n) : (blockB k n)[j]? = some (UInt8.ofNat (roundN (wrap64 (wrap64 (wrap64 ((j : Int) * j) + wrap64 (k * 7)) + 1)) 251).toNat) := by
  simp [blockB, h]
theorem wrap_bd (n : Int) : -9223372036854775808 ≤ wrap64 n ∧ wrap64 n ≤ 9223372036854775807 := by unfold wrap64; omega
theorem wrap_in {n : Int} (h0 : -9223372036854775808 ≤ n) (h1 : n ≤ 9223372036854775807) : wrap64 n = n := by unfold wrap64; omega
theorem two_apart {k : Int} (h0 : ∃ q, wrap64 (wrap64 (wrap64 (((0 : Nat) : Int) * ((0 : Nat) : Int)) + wrap64 (k * 7)) + 1) = 251 * q) (h1 : ∃ q, wrap64 (wrap64 (wrap64 (((1 : Nat) : Int) * ((1 : Nat) : Int)) + wrap64 (k * 7)) + 1) = 251 * q) : False := by
  obtain ⟨p, hp⟩ := h0
  obtain ⟨q, hq⟩ := h1
  obtain ⟨b0, b1⟩ := wrap_bd (k * 7)
  generalize wrap64 (k * 7) = y at *
  rw [show (((0 : Nat) : Int) * ((0 : Nat) : Int)) = 0 from rfl, wrap_in (n := 0) (by omega) (by omega), wrap_in (n := 0 + y) (by omega) (by omega)] at hp
  rw [show (((1 : Nat) : Int) * ((1 : Nat) : Int)) = 1 from rfl, wrap_in (n := 1) (by omega) (by omega)] at hq
  by_cases c1 : y ≤ 9223372036854775805
  · rw [wrap_in (n := 0 + y + 1) (by omega) (by omega)] at hp
    rw [wrap_in (n := 1 + y) (by omega) (by omega), wrap_in (n := 1 + y + 1) (by omega) (by omega)] at hq
    omega
  · by_cases c2 : y = 9223372036854775806
    · subst c2
      rw [show wrap64 (0 + 9223372036854775806 + 1) = 9223372036854775807 by decide +kernel] at hp
      omega
    · have c3 : y = 9223372036854775807 := by omega
      subst c3
      rw [show wrap64 (0 + 9223372036854775807 + 1) = -9223372036854775808 by decide +kernel] at hp
      omega
/-- Data is never noughts. -/
theorem data_nz (k : Int) : zero40 (dataB k) = false := by
  cases hz : zero40 (dataB k) with
  | false => rfl
  | true =>
    exfalso
    unfold zero40 at hz
    rw [List.all_eq_true] at hz
    have h0 := blockB_get k 40 0 (by omega)
    have h1 := blockB_get k 40 1 (by omega)
    have e0 := hz _ (List.mem_of_getElem? h0)
    have e1 := hz _ (List.mem_of_getElem? h1)
    simp only [beq_iff_eq] at e0 e1
    have conv : ∀ x : Int, UInt8.ofNat (roundN x 251).toNat = 0 → roundN x 251 = 0 := by
      intro x hx
      have hb := roundN_bd x (show (0 : Int) < 251 by omega)
      have := congrArg UInt8.toNat hx
      rw [UInt8.toNat_ofNat'] at this
      simp at this
      omega
    exact two_apart (roundN_zero (conv _ e0)) (roundN_zero (conv _ e1))

/-- What is there behind some writes, and behind noughts up to p: xs tells of each block who wrote it last. -/
structure LastI (xs : List Int) (p : Nat) (s : List (Int × Bytes)) : Prop where
  len : xs.length = 10
  nd : (s.map (·.1)).Nodup
  ks : ∀ x ∈ s, 0 ≤ x.1 ∧ x.1 < 10
  lk : ∀ j (h : j < xs.length), alook s j = if xs[j] = 0 ∨ j < p then none else some (dataB xs[j])
theorem LastI.start : LastI (List.replicate 10 0) 0 [] := ⟨rfl, List.nodup_nil, by simp, fun j h => by
  rw [if_pos (.inl (List.getElem_replicate (n := 10) (a := (0 : Int)) h))]; rfl⟩
theorem LastI.l40 {xs : List Int} {p : Nat} {s : List (Int × Bytes)} (h : LastI xs p s) : Len40 s := by
  intro k d hk
  have hm := alook_in hk
  have hr := h.ks _ hm
  obtain ⟨j, rfl⟩ := Int.eq_ofNat_of_zero_le hr.1
  simp only at hr
  have hj : j < xs.length := by rw [h.len]; omega
  rw [h.lk j hj] at hk
  split at hk
  · cases hk
  · cases hk; exact dataB_length _
theorem runPuts_one (s : List (Int × Bytes)) (k d : Int) : runPuts s [⟨k, dataB d⟩] = aset s k (dataB d) := by
  simp only [runPuts, List.foldl, runStep, data_nz]; rfl
theorem runPuts_zero (s : List (Int × Bytes)) (k : Int) : runPuts s [⟨k, zeroB⟩] = adel s k := by
  have : zero40 zeroB = true := by decide +kernel
  simp only [runPuts, List.foldl, runStep, this]; rfl
theorem runCode_one {n k : Int} (d : Bytes) (h0 : 0 ≤ k) (h1 : k < n) (hd : d.length = 40) : runCode n [⟨k, d⟩] = 0 := by
  have : blk n k = true := by simp [blk, h0, h1]
  simp [runCode, this, hd]
theorem LastI.step {xs : List Int} {s : List (Int × Bytes)} (h : LastI xs 0 s) {r : Nat} (hr : r < 10) {d : Int} (hd : 1 ≤ d) : LastI (xs.set r d) 0 (aset s r (dataB d)) := by
  refine ⟨by rw [List.length_set, h.len], nodup_aset h.nd _ _, fun x hx => ?_, fun j hj => ?_⟩
  · rcases aset_mem hx with rfl | hx
    · simp only; omega
    · exact h.ks x hx
  · rw [List.length_set] at hj
    rw [alook_aset, List.getElem_set]
    by_cases e : r = j
    · subst e
      simp only [if_true]
      rw [if_neg (by omega)]
    · rw [if_neg (by omega), if_neg e]
      exact h.lk j hj
theorem LastI.clear {xs : List Int} {s : List (Int × Bytes)} {p : Nat} (h : LastI xs p s) : LastI xs (p + 1) (adel s p) := by
  refine ⟨h.len, nodup_adel h.nd _, fun x hx => h.ks x ((adel_sublist s p).subset hx), fun j hj => ?_⟩
  rw [alook_adel h.nd]
  by_cases e : j = p
  · subst e
    simp only [if_true]
    rw [if_pos (.inr (by omega))]
  · rw [if_neg (by omega), h.lk j hj]
    have : (xs[j] = 0 ∨ j < p) ↔ (xs[j] = 0 ∨ j < p + 1) := by
      constructor
      · rintro (h | h)
        · exact .inl h
        · exact .inr (by omega)
      · rintro (h | h)
        · exact .inl h
        · exact .inr (by omega)
    simp only [this]
theorem LastI.skip {xs : List Int} {s : List (Int × Bytes)} {p : Nat} (h : LastI xs p s) (hp : p < xs.length) (h0 : xs[p] = 0) : LastI xs (p + 1) s := by
  refine ⟨h.len, h.nd, h.ks, fun j hj => ?_⟩
  rw [h.lk j hj]
  by_cases e : j = p
  · subst e; rw [if_pos (.inl h0), if_pos (.inl h0)]
  · have : (xs[j] = 0 ∨ j < p) ↔ (xs[j] = 0 ∨ j < p + 1) := by
      constructor
      · rintro (h | h)
        · exact .inl h
        · exact .inr (by omega)
      · rintro (h | h)
        · exact .inl h
        · exact .inr (by omega)
    simp only [this]
theorem LastI.at {xs : List Int} {s : List (Int × Bytes)} {p : Nat} (h : LastI xs p s) {j : Nat} (hj : j < 10) : ∃ x, xs[j]? = some x ∧ x ∈ xs ∧ alook s j = (if x = 0 ∨ j < p then none else some (dataB x)) ∧ (x = 0 → p = j → LastI xs (p + 1) s) := by
  have hj' : j < xs.length := by rw [h.len]; exact hj
  exact ⟨xs[j], List.getElem?_eq_getElem hj', List.getElem_mem hj', h.lk j hj', fun h0 e => by subst e; exact h.skip hj' h0⟩
theorem LastI.empty {xs : List Int} {s : List (Int × Bytes)} {p : Nat} (h : LastI xs p s) (hx : ∀ j (h : j < xs.length), xs[j] = 0 ∨ j < p) : s = [] := by
  cases s with
  | nil => rfl
  | cons a t =>
    exfalso
    have hr := h.ks a (List.mem_cons_self ..)
    obtain ⟨j, hj⟩ := Int.eq_ofNat_of_zero_le hr.1
    have hjl : j < xs.length := by rw [h.len]; omega
    have hl := h.lk j hjl
    rw [if_pos (hx j hjl)] at hl
    exact alook_none.1 hl a (List.mem_cons_self ..) hj
theorem LastI.full {xs : List Int} {s : List (Int × Bytes)} {j : Nat} (h : LastI xs 0 s) (hj : j < xs.length) (hx : xs[j] ≠ 0) : s ≠ [] := by
  rintro rfl
  have := h.lk j hj
  rw [if_neg (by omega)] at this
  cases this
theorem eqM_nil (s : List (Int × Bytes)) : eqM s [] = decide (s = []) := by
  cases s with
  | nil => rfl
  | cons a t => simp [eqM]
theorem allPuts_length (s : List (Int × Bytes)) : (allPuts s).length = s.length := by
  unfold allPuts keysUp
  rw [List.length_map, (List.mergeSort_perm _ _).length_eq, List.length_map]
end Go.Proofs

/- What an M of the program and an M of the document hold is the same: plain. -/
namespace Go.Proofs
open Go.RowKit Sc

structure RelM (n : Nat) (s : List (Int × Bytes)) (ls : List Bytes) : Prop where
  len : ls.length = n
  nd : (s.map (·.1)).Nodup
  ks : ∀ x ∈ s, 0 ≤ x.1 ∧ x.1 < n
  lk : ∀ k, k < n → alook s (k : Int) = if zero40 (ls.getD k []) then none else some (ls.getD k [])
  l40 : ∀ k, k < n → ls.getD k [] = [] ∨ (ls.getD k []).length = 40
theorem getD_replicate (n k : Nat) : (List.replicate n ([] : Bytes)).getD k [] = [] := by
  simp only [List.getD, List.getElem?_replicate]; split <;> rfl
theorem RelM.start (n : Nat) : RelM n [] (List.replicate n []) :=
  ⟨List.length_replicate .., List.nodup_nil, by simp, fun k hk => by rw [getD_replicate]; rfl, fun k hk => .inl (getD_replicate n k)⟩
theorem RelM.put {n : Nat} {s : List (Int × Bytes)} {ls : List Bytes} (h : RelM n s ls) {p : Put} (h0 : 0 ≤ p.lba) (h1 : p.lba < n) (hd : p.data.length = 40) : RelM n (runStep s p) (ls.set p.lba.toNat p.data) := by
  obtain ⟨r, hr⟩ := Int.eq_ofNat_of_zero_le h0
  have hrn : r < n := by omega
  have hget : ∀ k, k < n → (ls.set p.lba.toNat p.data).getD k [] = if k = r then p.data else ls.getD k [] := by
    intro k hk
    have : p.lba.toNat = r := by omega
    rw [this]
    have hl := h.len
    by_cases e : k = r
    · subst e; simp [List.getD, hl, hk]
    · have e' : ¬ r = k := fun x => e x.symm
      simp [List.getD, e, e']
  refine ⟨by rw [List.length_set]; exact h.len, runStep_nodup h.nd p, fun x hx => ?_, fun k hk => ?_, fun k hk => ?_⟩
  · unfold runStep at hx
    split at hx
    · exact h.ks x ((adel_sublist _ _).subset hx)
    · rcases aset_mem hx with rfl | hx
      · exact ⟨h0, h1⟩
      · exact h.ks x hx
  · rw [hget k hk, runStep_look h.nd]
    by_cases e : k = r
    · subst e; rw [if_pos hr.symm, if_pos rfl]
    · rw [if_neg (by omega), if_neg e]; exact h.lk k hk
  · rw [hget k hk]
    split
    · exact .inr hd
    · exact h.l40 k hk
theorem RelM.puts {n : Nat} {ls : List Bytes} {l : List Put} {s : List (Int × Bytes)} (h : RelM n s ls) (hin : ∀ p ∈ l, 0 ≤ p.lba ∧ p.lba < n) (hd : ∀ p ∈ l, p.data.length = 40) : RelM n (runPuts s l) (refPuts ls l) := by
  induction l generalizing s ls with
  | nil => exact h
  | cons p t ih => exact ih (h.put (hin p (by simp)).1 (hin p (by simp)).2 (hd p (by simp))) (fun q hq => hin q (by simp [hq])) (fun q hq => hd q (by simp [hq]))
def refNext (ls : List Bytes) (l : List Put) : List Bytes := if runCode ls.length l = 0 then refPuts ls l else ls
theorem RelM.run {n : Nat} {s : List (Int × Bytes)} {ls : List Bytes} (h : RelM n s ls) (l : List Put) : RelM n (runNext n s l) (refNext ls l) := by
  unfold runNext refNext
  rw [h.len]
  split
  · rename_i hc
    obtain ⟨h1, h2, h3⟩ := code_ok hc
    exact h.puts (fun p hp => by have := h1 p hp; simpa [blk] using this) h3
  · exact h
theorem RelM.len40 {n : Nat} {s : List (Int × Bytes)} {ls : List Bytes} (h : RelM n s ls) : Len40 s := by
  intro k d hk
  have hr := h.ks _ (alook_in hk)
  obtain ⟨j, rfl⟩ := Int.eq_ofNat_of_zero_le hr.1
  simp only at hr
  have hj : j < n := by omega
  rw [h.lk j hj] at hk
  split at hk
  · cases hk
  · rename_i hz
    cases hk
    rcases h.l40 j hj with e | e
    · rw [e] at hz; exact absurd rfl hz
    · exact e
theorem RelM.get {n : Nat} {s : List (Int × Bytes)} {ls : List Bytes} (h : RelM n s ls) {k : Nat} (hk : k < n) : (alook s (k : Int)).getD zeroB = refGet ls (k : Int) := by
  have hz : refGet.zeroB' = zeroB := rfl
  rw [h.lk k hk]
  unfold refGet
  simp only [Int.toNat_natCast]
  rcases h.l40 k hk with e | e
  · rw [e]; rfl
  · split
    · rename_i hq
      rw [if_neg (by omega)]
      exact (zero40_eq e hq).symm
    · rw [if_neg (by omega)]; rfl
theorem keysUp_range {ks : List Int} {l : List Int} (hn : ks.Nodup) (hl : l.Pairwise (· < ·)) (hm : ∀ x, x ∈ ks ↔ x ∈ l) : keysUp ks = l := by
  have hln : l.Nodup := hl.imp (fun h => by omega)
  have hp : ks.Perm l := (List.perm_ext_iff_of_nodup hn hln).2 hm
  rw [keysUp_perm hp]
  unfold keysUp
  exact List.mergeSort_of_pairwise (hl.imp fun h => by simp; omega)
theorem RelM.all {n : Nat} {s : List (Int × Bytes)} {ls : List Bytes} (h : RelM n s ls) : allPuts s = refAllTo ls ls.length := by
  have hk : keysUp (s.map (·.1)) = ((List.range n).filter fun k => !zero40 (ls.getD k [])).map fun k : Nat => (k : Int) := by
    refine keysUp_range h.nd ?_ fun x => ?_
    · rw [List.pairwise_map]
      exact (List.pairwise_lt_range.filter _).imp fun h => by omega
    · constructor
      · intro hx
        obtain ⟨y, hy, rfl⟩ := List.mem_map.1 hx
        have hr := h.ks y hy
        obtain ⟨j, hj⟩ := Int.eq_ofNat_of_zero_le hr.1
        have hjn : j < n := by omega
        have hl := alook_mem h.nd (n := y.1) (v := y.2) hy
        rw [hj, h.lk j hjn] at hl
        rw [hj]
        refine List.mem_map.2 ⟨j, List.mem_filter.2 ⟨List.mem_range.2 hjn, ?_⟩, rfl⟩
        split at hl
        · cases hl
        · rename_i hz; simpa using hz
      · intro hx
        obtain ⟨j, hj, rfl⟩ := List.mem_map.1 hx
        obtain ⟨h1, h2⟩ := List.mem_filter.1 hj
        have hjn := List.mem_range.1 h1
        have hl := h.lk j hjn
        rw [if_neg (by simpa using h2)] at hl
        exact List.mem_map.2 ⟨_, alook_in hl, rfl⟩
  unfold allPuts refAllTo
  rw [hk, h.len, List.map_map]
  have : ∀ m, m ≤ n → ((List.range m).filter fun k => !zero40 (ls.getD k [])).map ((fun k : Int => (⟨k, (alook s k).getD []⟩ : Put)) ∘ fun k : Nat => (k : Int)) = (List.range m).filterMap (refOne ls) := by
    intro m hm
    induction m with
    | zero => rfl
    | succ m ih =>
      rw [List.range_succ, List.filter_append, List.map_append, List.filterMap_append, ih (by omega)]
      congr 1
      cases hz : zero40 (ls.getD m []) with
      | true =>
        have hr : refOne ls m = none := by unfold refOne; rw [hz]; rfl
        simp only [List.filter_cons, hz, List.filter_nil, List.filterMap_cons, hr, List.filterMap_nil, Bool.not_true, Bool.false_eq_true, if_false, List.map_nil]
      | false =>
        have hl := h.lk m (by omega)
        rw [hz] at hl
        simp only [Bool.false_eq_true, if_false] at hl
        have hr : refOne ls m = some ⟨(m : Int), ls.getD m []⟩ := by unfold refOne; rw [hz]; rfl
        simp only [List.filter_cons, hz, List.filter_nil, List.filterMap_cons, hr, List.filterMap_nil, Bool.not_false, if_true, List.map_cons, List.map_nil, Function.comp, hl, Option.getD_some]
  exact this n (Nat.le_refl _)
theorem RelM.i64 {n : Nat} {s : List (Int × Bytes)} {ls : List Bytes} (h : RelM n s ls) (hn : n ≤ 1000000) : ∀ x ∈ s, I64 x.1 := fun x hx => by have := h.ks x hx; unfold I64; omega
theorem RelM.small {n : Nat} {s : List (Int × Bytes)} {ls : List Bytes} (h : RelM n s ls) : s.length ≤ n := by
  have h1 : (s.map (·.1)) ⊆ (List.range n).map (fun k : Nat => (k : Int)) := by
    intro x hx
    obtain ⟨y, hy, rfl⟩ := List.mem_map.1 hx
    have hr := h.ks y hy
    obtain ⟨j, hj⟩ := Int.eq_ofNat_of_zero_le hr.1
    exact List.mem_map.2 ⟨j, List.mem_range.2 (by omega), hj.symm⟩
  have := h.nd.length_le_of_subset h1
  simpa using this
theorem RelM.small40 {n : Nat} {s : List (Int × Bytes)} {ls : List Bytes} (h : RelM n s ls) : ∀ x ∈ s, x.2.length ≤ 1000000 := fun x hx => by
  have := h.len40 x.1 x.2 (alook_mem h.nd hx); omega
end Go.Proofs

/- Replaying rows of Puts: plain. -/
namespace Go.Proofs
open Sc

/-- What running these rows says: the first that is refused. -/
def replayCode (n : Int) : List (List Put) → Int
  | [] => 0
  | p :: t => if runCode n p = 0 then replayCode n t else runCode n p
def runAll (s : List (Int × Bytes)) (l : List (List Put)) : List (Int × Bytes) := l.foldl runPuts s
def refAll (ls : List Bytes) (l : List (List Put)) : List Bytes := l.foldl refPuts ls
theorem replay_ok {n : Int} : ∀ {l : List (List Put)}, replayCode n l = 0 ↔ ∀ p ∈ l, runCode n p = 0
  | [] => by simp [replayCode]
  | p :: t => by
    unfold replayCode
    split
    · rename_i h; rw [replay_ok]; simp [h]
    · rename_i h; simp [h]
theorem replay_drop {n : Int} {l : List (List Put)} {k : Nat} (h : ∀ p ∈ l.take k, runCode n p = 0) : replayCode n l = replayCode n (l.drop k) := by
  induction k generalizing l with
  | zero => rfl
  | succ k ih =>
    cases l with
    | nil => rfl
    | cons p t =>
      rw [List.take_succ_cons] at h
      have e : replayCode n (p :: t) = replayCode n t := by
        show (if runCode n p = 0 then replayCode n t else runCode n p) = _
        rw [if_pos (h p (by simp))]
      rw [e, List.drop_succ_cons]
      exact ih fun q hq => h q (List.mem_cons_of_mem _ hq)
theorem runAll_snoc (s : List (Int × Bytes)) (l : List (List Put)) (p : List Put) : runAll s (l ++ [p]) = runPuts (runAll s l) p := by unfold runAll; rw [List.foldl_append]; rfl
theorem refAll_snoc (s : List Bytes) (l : List (List Put)) (p : List Put) : refAll s (l ++ [p]) = refPuts (refAll s l) p := by unfold refAll; rw [List.foldl_append]; rfl
theorem refAll_len (l : List (List Put)) : ∀ ls : List Bytes, (refAll ls l).length = ls.length := by
  induction l with
  | nil => intro ls; rfl
  | cons p t ih => intro ls; show (refAll (refPuts ls p) t).length = _; rw [ih, refPuts_length]
theorem RelM.all_runs {n : Nat} {l : List (List Put)} : ∀ {s : List (Int × Bytes)} {ls : List Bytes}, RelM n s ls → (∀ p ∈ l, runCode n p = 0) → RelM n (runAll s l) (refAll ls l) := by
  induction l with
  | nil => intro s ls h _; exact h
  | cons p t ih =>
    intro s ls h hp
    have h1 := h.run p
    unfold runNext refNext at h1
    rw [h.len, if_pos (hp p (by simp)), if_pos (hp p (by simp))] at h1
    exact ih h1 fun q hq => hp q (List.mem_cons_of_mem _ hq)
/-- The rows of Puts of histories in their order. -/
def ordP (l : List Hist) : List (List Put) := (ordH l).map (·.puts)
theorem ordP_len (l : List Hist) : (ordP l).length = (ordI l).length := by unfold ordP; rw [List.length_map, ordH_len]
theorem ordP_get {l : List Hist} {i : Nat} (h : i < (ordI l).length) : ∃ h' : (ordI l)[i] < l.length, ∃ h2 : i < (ordP l).length, (ordP l)[i] = l[(ordI l)[i]].puts := by
  obtain ⟨h1, _⟩ := mem_ordI.1 (List.getElem_mem h)
  refine ⟨h1, by rw [ordP_len]; exact h, ?_⟩
  unfold ordP ordH
  rw [List.getElem_map, List.getElem_map]
  congr 1
  simp [h1]
end Go.Proofs

/- Histories in whatever order, if no two have one time: plain. -/
namespace Go.Proofs
open Sc Go.Sort

theorem getD_map (l : List Hist) : (ordIdx l).map (fun i => l.getD i hist0) = wroteL l := by
  have h := congrArg (List.map (fun x : Option Hist => x.getD hist0)) (wroteL_idx l)
  rw [List.map_map, List.map_map] at h
  have e1 : ((fun x : Option Hist => x.getD hist0) ∘ fun i => l[i]?) = fun i => l.getD i hist0 := by
    funext i
    simp [List.getD_eq_getElem?_getD]
  have e2 : ((fun x : Option Hist => x.getD hist0) ∘ some) = id := rfl
  rw [e1, e2, List.map_id] at h
  exact h
theorem ordH_perm (l : List Hist) : (ordH l).Perm (wroteL l) := by
  have := (ordI_perm l).map (fun i => l.getD i hist0)
  rw [getD_map] at this
  exact this
theorem ordH_sorted (l : List Hist) : (ordH l).Pairwise (fun x y => x.time ≤ y.time) := by
  unfold ordH
  rw [List.pairwise_map]
  refine (List.Pairwise.and_mem.1 (ordI_pairwise l)).imp ?_
  rintro i j ⟨hi, hj, h⟩
  obtain ⟨h1, _⟩ := mem_ordI.1 hi
  obtain ⟨h2, _⟩ := mem_ordI.1 hj
  unfold ordLe at h
  rw [decide_eq_true_eq, timeAt_lt h1, timeAt_lt h2] at h
  rw [List.getD_eq_getElem?_getD, List.getElem?_eq_getElem h1, List.getD_eq_getElem?_getD, List.getElem?_eq_getElem h2]
  simp only [Option.getD_some]
  omega
theorem nodup_time {l : List Hist} (h : (l.map (·.time)).Nodup) {x y : Hist} (hx : x ∈ l) (hy : y ∈ l) (ht : x.time = y.time) : x = y := by
  obtain ⟨i, hi, rfl⟩ := List.getElem_of_mem hx
  obtain ⟨j, hj, rfl⟩ := List.getElem_of_mem hy
  have : i = j := by
    refine (List.getElem_inj h (i := i) (j := j) (h₀ := by simpa using hi) (h₁ := by simpa using hj)).1 ?_
    simpa using ht
  subst this; rfl
theorem ordH_of_perm {l m : List Hist} (hp : m.Perm l) (h : (l.map (·.time)).Nodup) : ordH m = ordH l := by
  refine List.Perm.eq_of_pairwise (le := fun x y : Hist => x.time ≤ y.time) (fun x y hx hy h1 h2 => ?_) (ordH_sorted m) (ordH_sorted l) ?_
  · have hx' := (List.mem_filter.1 ((ordH_perm m).mem_iff.1 hx)).1
    have hy' := (List.mem_filter.1 ((ordH_perm l).mem_iff.1 hy)).1
    exact nodup_time h (hp.mem_iff.1 hx') hy' (by omega)
  · exact ((ordH_perm m).trans (hp.filter _)).trans (ordH_perm l).symm
theorem ordP_turned {l : List Hist} (h : (l.map (·.time)).Nodup) (k : Nat) : ordP (l.drop k ++ l.take k) = ordP l := by
  unfold ordP
  rw [ordH_of_perm (List.perm_append_comm.trans (by rw [List.take_append_drop])) h]
theorem nodup_snoc {l : List Hist} {i : Nat} (hi : i < l.length) (h : ((l.take i).map (·.time)).Nodup) (hn : ∀ j (hj : j < i), l[i].time ≠ l[j].time) : ((l.take (i + 1)).map (·.time)).Nodup := by
  rw [take_snoc l i hi, List.map_append, List.nodup_append]
  refine ⟨h, by simp, fun x hx y hy => ?_⟩
  obtain ⟨z, hz, rfl⟩ := List.mem_map.1 hx
  obtain ⟨j, hj, rfl⟩ := List.getElem_of_mem hz
  rw [List.length_take] at hj
  simp only [List.map_cons, List.map_nil, List.mem_singleton] at hy
  subst hy
  rw [List.getElem_take]
  exact fun e => hn j (by omega) e.symm
end Go.Proofs

/- The laying of slices.insertionSortCmpFunc over int and histories at this translation: by program. -/
/-
  DERIVED: THE SHELF's CONTRACTS AT THIS DUMP, IN PLAIN WORDS (tools/lay-plain.mjs out of 'TmpShelf.lean', which tools/lay-shelf.mjs wrote): THE SAME DECLARATIONS UNDER THE SAME NAMES: 'import', 'namespace', 'open', 'def', 'theorem' AND NOTHING ELSE: no command of the shelf's: FOR A HAND-IN. Each laying: the table of numbers ('.._ren') and one theorem, a field a fact of the dump's own or the kernel's comparison; each contract: ONE APPLICATION.
-/
namespace Go.Proofs
open Go.Shelf
def Try.insInt_ren : Go.Shelf.Ren := ⟨fun | 20 => 93 | n => n, fun | 24 => 3 | 22 => 60 | 3 => 3 | 25 => 46 | 4 => 4 | 0 => 0 | n => n, fun | n => n⟩
theorem Try.insInt : Go.Proofs.SlLaysF.n20 Try.prog Try.insInt_ren := {
  mixed := by kernel_rfl
  f20 := ⟨Try.f93.name, by decide, Try.func93.trans (congrArg some (by kernel_rfl))⟩
  t0 := Try.underlying0
  a0 := Try.isAgg0
  z0 := Try.sizeOf0
  v0 := Try.zeroValue0
  t3 := Try.underlying3
  a3 := Try.isAgg3
  z3 := Try.sizeOf3
  v3 := Try.zeroValue3
  t4 := Try.underlying4
  a4 := Try.isAgg4
  z4 := Try.sizeOf4
  v4 := Try.zeroValue4
  t22 := Try.underlying60
  a22 := Try.isAgg60
  z22 := Try.sizeOf60
  v22 := Try.zeroValue60
  a24 := Try.isAgg3
  z24 := Try.sizeOf3
  t25 := Try.underlying46
  a25 := Try.isAgg46
  z25 := Try.sizeOf46
  v25 := Try.zeroValue46 }
def Try.insHist_ren : Go.Shelf.Ren := ⟨fun | 20 => 83 | n => n, fun | 24 => 45 | 22 => 42 | 3 => 3 | 25 => 91 | 4 => 4 | 0 => 0 | n => n, fun | n => n⟩
theorem Try.insHist : Go.Proofs.SlLaysF0.n20 Try.prog Try.insHist_ren := {
  mixed := by kernel_rfl
  f20 := ⟨Try.f83.name, by decide, Try.func83.trans (congrArg some (by kernel_rfl))⟩
  t0 := Try.underlying0
  a0 := Try.isAgg0
  z0 := Try.sizeOf0
  v0 := Try.zeroValue0
  t3 := Try.underlying3
  a3 := Try.isAgg3
  z3 := Try.sizeOf3
  v3 := Try.zeroValue3
  t4 := Try.underlying4
  a4 := Try.isAgg4
  z4 := Try.sizeOf4
  v4 := Try.zeroValue4
  t22 := Try.underlying42
  a22 := Try.isAgg42
  z22 := Try.sizeOf42
  v22 := Try.zeroValue42
  t25 := Try.underlying91
  a25 := Try.isAgg91
  z25 := Try.sizeOf91
  v25 := Try.zeroValue91 }
def Try.cmpInt_ren : Go.Shelf.Ren := ⟨fun | 5 => 50 | 7 => 68 | n => n, fun | 22 => 3 | 3 => 3 | 4 => 4 | n => n, fun | n => n⟩
theorem Try.cmpInt : Go.Proofs.SlLaysC2.n5 Try.prog Try.cmpInt_ren := {
  mixed := by kernel_rfl
  f5 := ⟨Try.f50.name, by decide, Try.func50.trans (congrArg some (by kernel_rfl))⟩
  f7 := ⟨Try.f68.name, by decide, Try.func68.trans (congrArg some (by kernel_rfl))⟩
  t3 := Try.underlying3
  a3 := Try.isAgg3
  z3 := Try.sizeOf3
  v3 := Try.zeroValue3
  t4 := Try.underlying4
  a4 := Try.isAgg4
  z4 := Try.sizeOf4
  v4 := Try.zeroValue4
  t22 := Try.underlying3
  a22 := Try.isAgg3
  z22 := Try.sizeOf3
  v22 := Try.zeroValue3 }
end Go.Proofs

/- slices.swapRangeCmpFunc over int: two ranges exchanged. -/
namespace Go.Proofs
open Go.RowKit Go.Lib Go.Sort Go.Shelf
variable {α : Type} [Inhabited α]

set_option maxHeartbeats 4000000 in
set_option maxRecDepth 1000000 in
theorem swapRangeI (enc : α → Value) (blk off cap a b n : Nat) (d0 d : Array α) (w0 w : World) (fv : Value) (R : Row1 enc w0 blk off d0) (hs : d0.size = d.size) (S : SW enc w0 blk off (d) (w)) (hab : a + n ≤ b) (hb : b + n ≤ d.size) (hsz : d.size < 4611686018427387904) :
    Calls Try.prog 115 #[.slice (some ⟨blk, off, none⟩) d.size cap, .int .i64 a, .int .i64 b, .int .i64 n, fv] w fun e w' => e = .returned (.tuple #[]) ∧ ∃ d', SwR a b n d d' ∧ SW enc w0 blk off (d') (w') := by
  have mixed : Try.prog.follows Departure.mixedOrders = true := by kernel_rfl
  have hcl0 := R.hO.cells
  simp only [Value.cells] at hcl0
  have hst := R.hO.store Try.prog
  have S0 : Aside (SW enc w0 blk off (d) (w)) := S
  clear S
  go_enter Try.func115, Try.ntmps115
  go_wp2
  go_loopg [10] n (fun kx s10 wr => ∃ (i : Nat) (dk : Array α), s10 = .int .i64 i ∧ i ≤ n ∧ n - i ≤ kx ∧ dk.size = d.size ∧ Aside (SW enc w0 blk off (dk) (wr)) ∧ Aside (SwR a b i d dk))
  case atStart => exact ⟨0, d, rfl, by omega, by omega, rfl, S0, SwR.zero a b d⟩
  case round =>
    clear S0
    obtain ⟨i, dk, rfl, hin, hkx, hds, S1, HR⟩ := hrel
    by_cases hlt : i < n
    · have hltz : (i : Int) < (n : Int) := by omega
      obtain ⟨iN100, hiN100⟩ : ∃ q, q = a + i := ⟨_, rfl⟩
      obtain ⟨jN100, hjN100⟩ : ∃ q, q = b + i := ⟨_, rfl⟩
      have ea100 : ((a : Int) + (i : Int)).toNat = iN100 := by omega
      have ec100 : ((b : Int) + (i : Int)).toNat = jN100 := by omega
      have pa100 : (0 : Int) ≤ (a : Int) + (i : Int) := by omega
      have ba100 : (a : Int) + (i : Int) < (d.size : Int) := by omega
      have ra100 : IntKind.i64.wrap ((a : Int) + (i : Int)) = (a : Int) + (i : Int) := by rw [IntKind.wrap_i64]; omega
      have pc100 : (0 : Int) ≤ (b : Int) + (i : Int) := by omega
      have bc100 : (b : Int) + (i : Int) < (d.size : Int) := by omega
      have rc100 : IntKind.i64.wrap ((b : Int) + (i : Int)) = (b : Int) + (i : Int) := by rw [IntKind.wrap_i64]; omega
      obtain ⟨x100, hx100⟩ : ∃ x, x = dk[a + i]! := ⟨_, rfl⟩
      obtain ⟨y100, hy100⟩ : ∃ x, x = dk[b + i]! := ⟨_, rfl⟩
      have S2 : Aside (SW enc w0 blk off (swp dk (a + i) (b + i)) ((((wr).setCell ⟨blk, off + iN100, none⟩ (enc y100)).setCell ⟨blk, off + jN100, none⟩ (enc x100)).drew)) := by rw [hiN100, hjN100, hx100, hy100]; exact S1.out.swapped R (a + i) (b + i) (by omega) (by omega)
      have c100a := S1.out.c1 R (by omega) (a + i) (by omega)
      have c100b := S1.out.c1 R (by omega) (b + i) (by omega)
      have f100a := S1.out.f1 R (by omega) (a + i) (by omega)
      have f100b := S1.out.f1 R (by omega) (b + i) (by omega)
      obtain ⟨u100, c100c⟩ := S1.out.c2 R (by omega) (a + i) (b + i) (by omega) (by omega) (enc y100)
      rw [← hjN100, ← hiN100] at c100c
      rw [← hx100, ← hiN100] at c100a
      rw [← hy100, ← hjN100] at c100b
      rw [← hiN100] at f100a
      rw [← hjN100] at f100b
      clear S1 hx100 hy100 hiN100 hjN100
      go_wp2_with fail
      go_big_region_o
      clear c100a c100b c100c f100a f100b
      generalize (((wr).setCell ⟨blk, off + iN100, none⟩ (enc y100)).setCell ⟨blk, off + jN100, none⟩ (enc x100)).drew = w2 at S2 ⊢
      clear ea100 ec100
      go_wp2
      go_roundg (n - (i + 1))
      case measure => omega
      case rel => exact ⟨i + 1, swp dk (a + i) (b + i), by go_num, by omega, Nat.le_refl _, by rw [size_swp]; exact hds, S2, HR.out.step (by omega) (by omega)⟩
    · have hltz : ¬ (i : Int) < (n : Int) := by omega
      go_wp2
      go_end0
      obtain rfl : i = n := by omega
      exact ⟨rfl, dk, HR.out, S1.out⟩
end Go.Proofs

/- slices.rotateCmpFunc over int: two blocks exchanged. -/
namespace Go.Proofs
open Go.RowKit Go.Lib Go.Sort Go.Shelf
variable {α : Type} [Inhabited α]

set_option maxHeartbeats 4000000 in
set_option maxRecDepth 1000000 in
theorem rotateI (enc : α → Value) (blk off cap a m b : Nat) (d0 d : Array α) (w0 w : World) (fv : Value) (R : Row1 enc w0 blk off d0) (hs : d0.size = d.size) (S : SW enc w0 blk off (d) (w)) (ham : a < m) (hmb : m < b) (hb : b ≤ d.size) (hsz : d.size < 4611686018427387904) :
    Calls Try.prog 108 #[.slice (some ⟨blk, off, none⟩) d.size cap, .int .i64 a, .int .i64 m, .int .i64 b, fv] w fun e w' => e = .returned (.tuple #[]) ∧ ∃ d', Rot a m b d d' ∧ SW enc w0 blk off (d') (w') := by
  have mixed : Try.prog.follows Departure.mixedOrders = true := by kernel_rfl
  have hcl0 := R.hO.cells
  simp only [Value.cells] at hcl0
  have hst := R.hO.store Try.prog
  have S0 : Aside (SW enc w0 blk off (d) (w)) := S
  clear S
  go_enter Try.func108, Try.ntmps108
  go_wp2_with fail
  go_loopg [10, 11] (b - a) (fun kx s10 s11 wr => ∃ (i j : Nat) (dk : Array α), s10 = .int .i64 i ∧ s11 = .int .i64 j ∧ 0 < i ∧ 0 < j ∧ i ≤ m - a ∧ j ≤ b - m ∧ i + j ≤ kx ∧ dk.size = d.size ∧ Aside (SW enc w0 blk off (dk) (wr)) ∧ Aside (∀ d', Rot (m - i) m (m + j) dk d' → Rot a m b d d'))
  case atStart => exact ⟨m - a, b - m, d, by rw [show (m : Int) - (a : Int) = ((m - a : Nat) : Int) by omega], by rw [show (b : Int) - (m : Int) = ((b - m : Nat) : Int) by omega], by omega, by omega, Nat.le_refl _, Nat.le_refl _, by omega, rfl, S0, fun d' h => by rwa [show m - (m - a) = a by omega, show m + (b - m) = b by omega] at h⟩
  case round =>
    clear S0
    obtain ⟨i, j, dk, rfl, rfl, hi0, hj0, him, hjm, hkx, hds, S1, HR⟩ := hrel
    by_cases hij : i = j
    · obtain rfl := hij
      have hc := swapRangeI enc blk off cap (m - i) m i d0 dk w0 wr fv R (by omega) S1.out (by omega) (by omega) (by omega)
      rw [show ((m - i : Nat) : Int) = (m : Int) - (i : Int) by omega, hds] at hc
      go_wp2_with fail
      refine hc.mono ?_
      rintro e w2 ⟨rfl, d2, h2, S2⟩
      have HS2 : Aside _ := S2
      have H2 : Aside _ := h2
      clear S2 h2 hc
      go_wp2
      go_end0
      exact ⟨rfl, d2, HR.out _ (rot_eq (by omega) H2.out), HS2.out⟩
    · have hijz : ¬ (i : Int) = (j : Int) := by omega
      by_cases hgt : j < i
      · have hgtz : (j : Int) < (i : Int) := by omega
        have hc := swapRangeI enc blk off cap (m - i) m j d0 dk w0 wr fv R (by omega) S1.out (by omega) (by omega) (by omega)
        rw [show ((m - i : Nat) : Int) = (m : Int) - (i : Int) by omega, hds] at hc
        go_wp2_with fail
        refine hc.mono ?_
        rintro e w2 ⟨rfl, d2, h2, S2⟩
        have HS2 : Aside _ := S2
        have H2 : Aside _ := h2
        clear S2 h2 hc
        go_wp2
        go_roundg (i - j + j)
        case measure => omega
        case rel => exact ⟨i - j, j, d2, by rw [show (i : Int) - (j : Int) = ((i - j : Nat) : Int) by omega], rfl, by omega, hj0, by omega, hjm, Nat.le_refl _, by rw [H2.out.perm.1]; exact hds, HS2, fun d' h => HR.out d' (rot_left (by omega) hgt (by omega) H2.out h)⟩
      · have hgtz : ¬ (j : Int) < (i : Int) := by omega
        have hc := swapRangeI enc blk off cap (m - i) (m + j - i) i d0 dk w0 wr fv R (by omega) S1.out (by omega) (by omega) (by omega)
        rw [show ((m - i : Nat) : Int) = (m : Int) - (i : Int) by omega, show ((m + j - i : Nat) : Int) = (m : Int) + (j : Int) - (i : Int) by omega, hds] at hc
        go_wp2_with fail
        refine hc.mono ?_
        rintro e w2 ⟨rfl, d2, h2, S2⟩
        have HS2 : Aside _ := S2
        have H2 : Aside _ := h2
        clear S2 h2 hc
        go_wp2
        go_roundg (i + (j - i))
        case measure => omega
        case rel => exact ⟨i, j - i, d2, rfl, by rw [show (j : Int) - (i : Int) = ((j - i : Nat) : Int) by omega], hi0, by omega, him, by omega, Nat.le_refl _, by rw [H2.out.perm.1]; exact hds, HS2, fun d' h => HR.out d' (rot_right (by omega) (by omega) (by omega) H2.out h)⟩
end Go.Proofs

/- slices.symMergeCmpFunc over int: two sorted ranges merged in place, ties in their order. -/
namespace Go.Proofs
open Go.RowKit Go.Lib Go.Sort Go.Shelf
variable {α : Type} [Inhabited α]

set_option maxHeartbeats 16000000 in
set_option maxRecDepth 1000000 in
theorem symMergeI_at (enc : α → Value) (cf : α → α → Int) (tg : α → Nat) (hS : SWO (ltOf cf)) (g : Nat) (cb : Array Value) (blk off cap : Nat) (d0 : Array α) (w0 : World)
    (eg : ∀ args w, (callFunc g args).run Try.prog w = .ok (.enter g args) w) (hcmp : CmpLays1 Try.prog g cb enc cf blk off d0.size w0) (R : Row1 enc w0 blk off d0) (hsz : d0.size < 4611686018427387904) : ∀ (sz a m b : Nat) (d : Array α) (w : World), b - a ≤ sz → d0.size = d.size → SW enc w0 blk off (d) (w) → a < m → m < b → b ≤ d.size → SymPre (ltOf cf) tg a m b d →
    Calls Try.prog 94 #[.slice (some ⟨blk, off, none⟩) d.size cap, .int .i64 a, .int .i64 m, .int .i64 b, .func (.func g) #[] cb] w fun e w' => e = .returned (.tuple #[]) ∧ ∃ d', PermIn a b d d' ∧ SortedIn (lx (ltOf cf) tg) a b d' ∧ SW enc w0 blk off (d') (w') := by
  intro sz
  induction sz with
  | zero => intro a m b d w h _ _ h1 h2; omega
  | succ sz IH =>
  intro a m b d w hn hs S ham hmb hb hpre
  have mixed : Try.prog.follows Departure.mixedOrders = true := by kernel_rfl
  have hcl0 := R.hO.cells
  simp only [Value.cells] at hcl0
  have hst := R.hO.store Try.prog
  have S0 : Aside (SW enc w0 blk off (d) (w)) := S
  have HC : Aside _ := hcmp
  have HP : Aside _ := hpre
  have HI : Aside _ := IH
  clear S hcmp hpre IH
  go_enter Try.func94, Try.ntmps94
  by_cases hm1 : m = a + 1
  · have hm1e : ((m : Int) - (a : Int) == 1) = true := by rw [show (m : Int) - (a : Int) = 1 by omega]; rfl
    have HM1 : Aside (m = a + 1) := hm1
    clear hm1
    go_wp2_with fail
    try simp only [hm1e]
    go_loopg [10, 11] (b - a) (fun kx s10 s11 wr => ∃ i j : Nat, s10 = .int .i64 i ∧ s11 = .int .i64 j ∧ a + 1 ≤ i ∧ i ≤ j ∧ j ≤ b ∧ j - i ≤ kx ∧ Aside (SW enc w0 blk off (d) (wr)) ∧ Aside ((a + 1 < i → ltOf cf d[i - 1]! d[a]! = true) ∧ (j < b → ltOf cf d[j]! d[a]! = false)))
    case atStart => exact ⟨m, b, rfl, rfl, by omega, by omega, Nat.le_refl _, by omega, S0, ⟨fun h => absurd h (by have := HM1.out; omega), fun h => absurd h (Nat.lt_irrefl _)⟩⟩
    case round =>
      clear S0
      obtain ⟨i, j, rfl, rfl, hai, hij, hjb, hkx, S1, HB⟩ := hrel
      by_cases hlt : i < j
      · have hltz : (i : Int) < (j : Int) := by omega
        obtain ⟨h, hh⟩ : ∃ h, (i + j) / 2 = h := ⟨_, rfl⟩
        have hhz : ((i : Int) + (j : Int)) / 2 = (h : Int) := by omega
        have hih : i ≤ h := by omega
        have hhj : h < j := by omega
        cases hlv : ltOf cf d[h]! d[a]! with
        | true =>
          go_wp2_with fail
          obtain ⟨iN100, hiN100⟩ : ∃ q, q = h := ⟨_, rfl⟩
          obtain ⟨jN100, hjN100⟩ : ∃ q, q = a := ⟨_, rfl⟩
          have ea100 : ((h : Int)).toNat = iN100 := by omega
          have ec100 : ((a : Int)).toNat = jN100 := by omega
          have pa100 : (0 : Int) ≤ (h : Int) := by omega
          have ba100 : (h : Int) < (d.size : Int) := by omega
          have ra100 : IntKind.i64.wrap ((h : Int)) = (h : Int) := by rw [IntKind.wrap_i64]; omega
          have pc100 : (0 : Int) ≤ (a : Int) := by omega
          have bc100 : (a : Int) < (d.size : Int) := by omega
          have rc100 : IntKind.i64.wrap ((a : Int)) = (a : Int) := by rw [IntKind.wrap_i64]; omega
          obtain ⟨x100, hx100⟩ : ∃ x, x = d[h]! := ⟨_, rfl⟩
          obtain ⟨y100, hy100⟩ : ∃ x, x = d[a]! := ⟨_, rfl⟩
          have l100a := S1.out.cl R (by omega) (h) (by omega)
          have l100b := S1.out.cl R (by omega) (a) (by omega)
          rw [← hx100, ← hiN100] at l100a
          rw [← hy100, ← hjN100] at l100b
          have hv100 : cf x100 y100 < 0 := by rw [hx100, hy100]; exact of_decide_eq_true hlv
          have hd100 : decide (cf x100 y100 < 0) = true := decide_eq_true hv100
          have hc100 := S1.out.cmp HC.out (by omega) x100 y100
          clear hx100 hy100 hiN100 hjN100
          go_wp2_with fail
          go_quiet_grown (first | (go_at_fn g; refine Calls.grown_of (hc100 _ _)))
          have S2 : Aside (SW enc w0 blk off (d) (grow ((wr).drewN nq) osq)) := S1.out.grown nq osq
          clear l100a l100b hc100 S1
          generalize grow ((wr).drewN nq) osq = w2 at S2 ⊢
          clear nq osq
          clear ea100 ec100
          go_wp2
          go_roundg (j - (h + 1))
          case measure => omega
          case rel => exact ⟨h + 1, j, by go_num, rfl, by omega, by omega, hjb, Nat.le_refl _, S2, ⟨fun _ => by rw [Nat.add_sub_cancel]; exact hlv, HB.out.2⟩⟩
        | false =>
          go_wp2_with fail
          obtain ⟨iN101, hiN101⟩ : ∃ q, q = h := ⟨_, rfl⟩
          obtain ⟨jN101, hjN101⟩ : ∃ q, q = a := ⟨_, rfl⟩
          have ea101 : ((h : Int)).toNat = iN101 := by omega
          have ec101 : ((a : Int)).toNat = jN101 := by omega
          have pa101 : (0 : Int) ≤ (h : Int) := by omega
          have ba101 : (h : Int) < (d.size : Int) := by omega
          have ra101 : IntKind.i64.wrap ((h : Int)) = (h : Int) := by rw [IntKind.wrap_i64]; omega
          have pc101 : (0 : Int) ≤ (a : Int) := by omega
          have bc101 : (a : Int) < (d.size : Int) := by omega
          have rc101 : IntKind.i64.wrap ((a : Int)) = (a : Int) := by rw [IntKind.wrap_i64]; omega
          obtain ⟨x101, hx101⟩ : ∃ x, x = d[h]! := ⟨_, rfl⟩
          obtain ⟨y101, hy101⟩ : ∃ x, x = d[a]! := ⟨_, rfl⟩
          have l101a := S1.out.cl R (by omega) (h) (by omega)
          have l101b := S1.out.cl R (by omega) (a) (by omega)
          rw [← hx101, ← hiN101] at l101a
          rw [← hy101, ← hjN101] at l101b
          have hv101 : ¬ cf x101 y101 < 0 := by rw [hx101, hy101]; exact of_decide_eq_false hlv
          have hd101 : decide (cf x101 y101 < 0) = false := decide_eq_false hv101
          have hc101 := S1.out.cmp HC.out (by omega) x101 y101
          clear hx101 hy101 hiN101 hjN101
          go_wp2_with fail
          go_quiet_grown (first | (go_at_fn g; refine Calls.grown_of (hc101 _ _)))
          have S2 : Aside (SW enc w0 blk off (d) (grow ((wr).drewN nq) osq)) := S1.out.grown nq osq
          clear l101a l101b hc101 S1
          generalize grow ((wr).drewN nq) osq = w2 at S2 ⊢
          clear nq osq
          clear ea101 ec101
          go_wp2
          go_roundg (h - i)
          case measure => omega
          case rel => exact ⟨i, h, rfl, rfl, hai, by omega, by omega, Nat.le_refl _, S2, ⟨HB.out.1, fun _ => hlv⟩⟩
      · obtain rfl : i = j := by omega
        have hltz : ¬ (i : Int) < (i : Int) := by omega
        go_wp2_with fail
        go_loopg [13] (b - a) (fun kx s13 wr => ∃ (k2 : Nat) (dk : Array α), s13 = .int .i64 k2 ∧ a ≤ k2 ∧ k2 + 1 ≤ i ∧ i - k2 ≤ kx ∧ dk.size = d.size ∧ Aside (SW enc w0 blk off (dk) (wr)) ∧ Aside (Rot a (a + 1) (k2 + 1) d dk))
        case atStart => exact ⟨a, d, rfl, Nat.le_refl _, hai, by omega, rfl, S1, Rot.idR a (a + 1) (Nat.le_succ a) d⟩
        case round =>
          clear S1
          obtain ⟨k2, dk, rfl, hak, hki, hkx2, hds, S3, HR⟩ := hrel
          by_cases hlt2 : k2 + 1 < i
          · have hlt2z : (k2 : Int) < (i : Int) - 1 := by omega
            obtain ⟨iN102, hiN102⟩ : ∃ q, q = k2 := ⟨_, rfl⟩
            obtain ⟨jN102, hjN102⟩ : ∃ q, q = k2 + 1 := ⟨_, rfl⟩
            have ea102 : ((k2 : Int)).toNat = iN102 := by omega
            have ec102 : ((k2 : Int) + 1).toNat = jN102 := by omega
            have pa102 : (0 : Int) ≤ (k2 : Int) := by omega
            have ba102 : (k2 : Int) < (d.size : Int) := by omega
            have ra102 : IntKind.i64.wrap ((k2 : Int)) = (k2 : Int) := by rw [IntKind.wrap_i64]; omega
            have pc102 : (0 : Int) ≤ (k2 : Int) + 1 := by omega
            have bc102 : (k2 : Int) + 1 < (d.size : Int) := by omega
            have rc102 : IntKind.i64.wrap ((k2 : Int) + 1) = (k2 : Int) + 1 := by rw [IntKind.wrap_i64]; omega
            obtain ⟨x102, hx102⟩ : ∃ x, x = dk[k2]! := ⟨_, rfl⟩
            obtain ⟨y102, hy102⟩ : ∃ x, x = dk[k2 + 1]! := ⟨_, rfl⟩
            have S4 : Aside (SW enc w0 blk off (swp dk (k2) (k2 + 1)) ((((wr).setCell ⟨blk, off + iN102, none⟩ (enc y102)).setCell ⟨blk, off + jN102, none⟩ (enc x102)).drew)) := by rw [hiN102, hjN102, hx102, hy102]; exact S3.out.swapped R (k2) (k2 + 1) (by omega) (by omega)
            have c102a := S3.out.c1 R (by omega) (k2) (by omega)
            have c102b := S3.out.c1 R (by omega) (k2 + 1) (by omega)
            have f102a := S3.out.f1 R (by omega) (k2) (by omega)
            have f102b := S3.out.f1 R (by omega) (k2 + 1) (by omega)
            obtain ⟨u102, c102c⟩ := S3.out.c2 R (by omega) (k2) (k2 + 1) (by omega) (by omega) (enc y102)
            rw [← hjN102, ← hiN102] at c102c
            rw [← hx102, ← hiN102] at c102a
            rw [← hy102, ← hjN102] at c102b
            rw [← hiN102] at f102a
            rw [← hjN102] at f102b
            clear S3 hx102 hy102 hiN102 hjN102
            go_wp2_with fail
            go_big_region_o
            clear c102a c102b c102c f102a f102b
            generalize (((wr).setCell ⟨blk, off + iN102, none⟩ (enc y102)).setCell ⟨blk, off + jN102, none⟩ (enc x102)).drew = w4 at S4 ⊢
            clear ea102 ec102
            go_wp2
            go_roundg (i - (k2 + 1))
            case measure => omega
            case rel => exact ⟨k2 + 1, swp dk k2 (k2 + 1), by go_num, by omega, by omega, Nat.le_refl _, by rw [size_swp]; exact hds, S4, rot_shiftL HR.out hak (by omega)⟩
          · obtain rfl : i = k2 + 1 := by omega
            have hlt2z : ¬ (k2 : Int) < ((k2 + 1 : Nat) : Int) - 1 := by omega
            go_wp2
            ((try simp only [Exit.inBlock, Exit.then]); refine bodyPost_ret (results_none rfl _ _ _) rfl ?_)
            exact ⟨rfl, dk, permIn_mono _ _ _ _ a b (Nat.le_refl _) hjb (by omega) HR.out.perm, merge_oneL hS (by omega) (by have := HP.out; rwa [HM1.out] at this) (by omega) hjb HB.out.1 HB.out.2 HR.out, S3.out⟩
  · have hm1e : ((m : Int) - (a : Int) == 1) = false := by simp; omega
    by_cases hb1 : b = m + 1
    · have hb1e : ((b : Int) - (m : Int) == 1) = true := by rw [show (b : Int) - (m : Int) = 1 by omega]; rfl
      have HB1 : Aside (b = m + 1) := hb1
      clear hb1
      go_wp2_with fail
      try simp only [hm1e, hb1e]
      go_loopg [14, 15] (m - a) (fun kx s10 s11 wr => ∃ i j : Nat, s10 = .int .i64 i ∧ s11 = .int .i64 j ∧ a ≤ i ∧ i ≤ j ∧ j ≤ m ∧ j - i ≤ kx ∧ Aside (SW enc w0 blk off (d) (wr)) ∧ Aside ((a < i → ltOf cf d[m]! d[i - 1]! = false) ∧ (j < m → ltOf cf d[m]! d[j]! = true)))
      case atStart => exact ⟨a, m, rfl, rfl, Nat.le_refl _, by omega, Nat.le_refl _, by omega, S0, ⟨fun h => absurd h (Nat.lt_irrefl _), fun h => absurd h (Nat.lt_irrefl _)⟩⟩
      case round =>
        clear S0
        obtain ⟨i, j, rfl, rfl, hai, hij, hjb, hkx, S1, HB⟩ := hrel
        by_cases hlt : i < j
        · have hltz : (i : Int) < (j : Int) := by omega
          obtain ⟨h, hh⟩ : ∃ h, (i + j) / 2 = h := ⟨_, rfl⟩
          have hhz : ((i : Int) + (j : Int)) / 2 = (h : Int) := by omega
          have hih : i ≤ h := by omega
          have hhj : h < j := by omega
          cases hlv : ltOf cf d[m]! d[h]! with
          | true =>
            go_wp2_with fail
            obtain ⟨iN103, hiN103⟩ : ∃ q, q = m := ⟨_, rfl⟩
            obtain ⟨jN103, hjN103⟩ : ∃ q, q = h := ⟨_, rfl⟩
            have ea103 : ((m : Int)).toNat = iN103 := by omega
            have ec103 : ((h : Int)).toNat = jN103 := by omega
            have pa103 : (0 : Int) ≤ (m : Int) := by omega
            have ba103 : (m : Int) < (d.size : Int) := by omega
            have ra103 : IntKind.i64.wrap ((m : Int)) = (m : Int) := by rw [IntKind.wrap_i64]; omega
            have pc103 : (0 : Int) ≤ (h : Int) := by omega
            have bc103 : (h : Int) < (d.size : Int) := by omega
            have rc103 : IntKind.i64.wrap ((h : Int)) = (h : Int) := by rw [IntKind.wrap_i64]; omega
            obtain ⟨x103, hx103⟩ : ∃ x, x = d[m]! := ⟨_, rfl⟩
            obtain ⟨y103, hy103⟩ : ∃ x, x = d[h]! := ⟨_, rfl⟩
            have l103a := S1.out.cl R (by omega) (m) (by omega)
            have l103b := S1.out.cl R (by omega) (h) (by omega)
            rw [← hx103, ← hiN103] at l103a
            rw [← hy103, ← hjN103] at l103b
            have hv103 : cf x103 y103 < 0 := by rw [hx103, hy103]; exact of_decide_eq_true hlv
            have hd103 : decide (cf x103 y103 < 0) = true := decide_eq_true hv103
            have hc103 := S1.out.cmp HC.out (by omega) x103 y103
            clear hx103 hy103 hiN103 hjN103
            go_wp2_with fail
            go_quiet_grown (first | (go_at_fn g; refine Calls.grown_of (hc103 _ _)))
            have S2 : Aside (SW enc w0 blk off (d) (grow ((wr).drewN nq) osq)) := S1.out.grown nq osq
            clear l103a l103b hc103 S1
            generalize grow ((wr).drewN nq) osq = w2 at S2 ⊢
            clear nq osq
            clear ea103 ec103
            go_wp2
            go_roundg (h - i)
            case measure => omega
            case rel => exact ⟨i, h, rfl, rfl, hai, by omega, by omega, Nat.le_refl _, S2, ⟨HB.out.1, fun _ => hlv⟩⟩
          | false =>
            go_wp2_with fail
            obtain ⟨iN104, hiN104⟩ : ∃ q, q = m := ⟨_, rfl⟩
            obtain ⟨jN104, hjN104⟩ : ∃ q, q = h := ⟨_, rfl⟩
            have ea104 : ((m : Int)).toNat = iN104 := by omega
            have ec104 : ((h : Int)).toNat = jN104 := by omega
            have pa104 : (0 : Int) ≤ (m : Int) := by omega
            have ba104 : (m : Int) < (d.size : Int) := by omega
            have ra104 : IntKind.i64.wrap ((m : Int)) = (m : Int) := by rw [IntKind.wrap_i64]; omega
            have pc104 : (0 : Int) ≤ (h : Int) := by omega
            have bc104 : (h : Int) < (d.size : Int) := by omega
            have rc104 : IntKind.i64.wrap ((h : Int)) = (h : Int) := by rw [IntKind.wrap_i64]; omega
            obtain ⟨x104, hx104⟩ : ∃ x, x = d[m]! := ⟨_, rfl⟩
            obtain ⟨y104, hy104⟩ : ∃ x, x = d[h]! := ⟨_, rfl⟩
            have l104a := S1.out.cl R (by omega) (m) (by omega)
            have l104b := S1.out.cl R (by omega) (h) (by omega)
            rw [← hx104, ← hiN104] at l104a
            rw [← hy104, ← hjN104] at l104b
            have hv104 : ¬ cf x104 y104 < 0 := by rw [hx104, hy104]; exact of_decide_eq_false hlv
            have hd104 : decide (cf x104 y104 < 0) = false := decide_eq_false hv104
            have hc104 := S1.out.cmp HC.out (by omega) x104 y104
            clear hx104 hy104 hiN104 hjN104
            go_wp2_with fail
            go_quiet_grown (first | (go_at_fn g; refine Calls.grown_of (hc104 _ _)))
            have S2 : Aside (SW enc w0 blk off (d) (grow ((wr).drewN nq) osq)) := S1.out.grown nq osq
            clear l104a l104b hc104 S1
            generalize grow ((wr).drewN nq) osq = w2 at S2 ⊢
            clear nq osq
            clear ea104 ec104
            go_wp2
            go_roundg (j - (h + 1))
            case measure => omega
            case rel => exact ⟨h + 1, j, by go_num, rfl, by omega, by omega, hjb, Nat.le_refl _, S2, ⟨fun _ => by rw [Nat.add_sub_cancel]; exact hlv, HB.out.2⟩⟩
        · obtain rfl : i = j := by omega
          have hltz : ¬ (i : Int) < (i : Int) := by omega
          go_wp2_with fail
          go_loopg [17] (m - a) (fun kx s17 wr => ∃ (k2 : Nat) (dk : Array α), s17 = .int .i64 k2 ∧ i ≤ k2 ∧ k2 ≤ m ∧ k2 - i ≤ kx ∧ dk.size = d.size ∧ Aside (SW enc w0 blk off (dk) (wr)) ∧ Aside (Rot k2 m (m + 1) d dk))
          case atStart => exact ⟨m, d, rfl, hjb, Nat.le_refl _, by omega, rfl, S1, Rot.idL m (m + 1) (Nat.le_succ m) d⟩
          case round =>
            clear S1
            obtain ⟨k2, dk, rfl, hak, hki, hkx2, hds, S3, HR⟩ := hrel
            by_cases hlt2 : i < k2
            · obtain ⟨kp, rfl⟩ : ∃ kp, k2 = kp + 1 := ⟨k2 - 1, by omega⟩
              have hlt2z : (i : Int) < (kp : Int) + 1 := by omega
              have kz : ((kp + 1 : Nat) : Int) = (kp : Int) + 1 := by omega
              have kw : IntKind.i64.wrap (kp : Int) = (kp : Int) := by rw [IntKind.wrap_i64]; omega
              rw [kz]
              obtain ⟨iN105, hiN105⟩ : ∃ q, q = kp + 1 := ⟨_, rfl⟩
              obtain ⟨jN105, hjN105⟩ : ∃ q, q = kp := ⟨_, rfl⟩
              have ea105 : ((kp : Int) + 1).toNat = iN105 := by omega
              have ec105 : ((kp : Int)).toNat = jN105 := by omega
              have pa105 : (0 : Int) ≤ (kp : Int) + 1 := by omega
              have ba105 : (kp : Int) + 1 < (d.size : Int) := by omega
              have ra105 : IntKind.i64.wrap ((kp : Int) + 1) = (kp : Int) + 1 := by rw [IntKind.wrap_i64]; omega
              have pc105 : (0 : Int) ≤ (kp : Int) := by omega
              have bc105 : (kp : Int) < (d.size : Int) := by omega
              have rc105 : IntKind.i64.wrap ((kp : Int)) = (kp : Int) := by rw [IntKind.wrap_i64]; omega
              obtain ⟨x105, hx105⟩ : ∃ x, x = dk[kp + 1]! := ⟨_, rfl⟩
              obtain ⟨y105, hy105⟩ : ∃ x, x = dk[kp]! := ⟨_, rfl⟩
              have S4 : Aside (SW enc w0 blk off (swp dk (kp + 1) (kp)) ((((wr).setCell ⟨blk, off + iN105, none⟩ (enc y105)).setCell ⟨blk, off + jN105, none⟩ (enc x105)).drew)) := by rw [hiN105, hjN105, hx105, hy105]; exact S3.out.swapped R (kp + 1) (kp) (by omega) (by omega)
              have c105a := S3.out.c1 R (by omega) (kp + 1) (by omega)
              have c105b := S3.out.c1 R (by omega) (kp) (by omega)
              have f105a := S3.out.f1 R (by omega) (kp + 1) (by omega)
              have f105b := S3.out.f1 R (by omega) (kp) (by omega)
              obtain ⟨u105, c105c⟩ := S3.out.c2 R (by omega) (kp + 1) (kp) (by omega) (by omega) (enc y105)
              rw [← hiN105, ← hjN105] at c105c
              rw [← hx105, ← hiN105] at c105a
              rw [← hy105, ← hjN105] at c105b
              rw [← hiN105] at f105a
              rw [← hjN105] at f105b
              clear S3 hx105 hy105 hiN105 hjN105
              go_wp2_with fail
              go_big_region_o
              clear c105a c105b c105c f105a f105b
              generalize (((wr).setCell ⟨blk, off + iN105, none⟩ (enc y105)).setCell ⟨blk, off + jN105, none⟩ (enc x105)).drew = w4 at S4 ⊢
              clear ea105 ec105
              go_wp2
              go_roundg (kp - i)
              case measure => omega
              case rel => exact ⟨kp, swp dk (kp + 1) kp, by first | rfl | go_num | (congr 1; omega), by omega, by omega, Nat.le_refl _, by rw [size_swp]; exact hds, S4, rot_shiftR HR.out (by omega) (by omega)⟩
            · obtain rfl : i = k2 := by omega
              have hlt2z : ¬ (i : Int) < (i : Int) := by omega
              go_wp2
              ((try simp only [Exit.inBlock, Exit.then]); refine bodyPost_ret (results_none rfl _ _ _) rfl ?_)
              have hbm := HB1.out
              have hpp := HP.out
              rw [hbm] at hpp
              exact ⟨rfl, dk, permIn_mono _ _ _ _ a b hai (by omega) hb HR.out.perm, by rw [hbm]; exact merge_oneR hS (by omega) hpp hai hjb HB.out.1 HB.out.2 HR.out, S3.out⟩
    · have hb1e : ((b : Int) - (m : Int) == 1) = false := by simp; omega
      obtain ⟨mid, hmid⟩ : ∃ h, (a + b) / 2 = h := ⟨_, rfl⟩
      have hmidz : ((a : Int) + (b : Int)) / 2 = (mid : Int) := by omega
      obtain ⟨st0, hst0⟩ : ∃ s, s = if mid < m then mid + m - b else a := ⟨_, rfl⟩
      obtain ⟨r0, hr0⟩ : ∃ s, s = if mid < m then mid else m := ⟨_, rfl⟩
      have hsr : a ≤ st0 ∧ st0 ≤ r0 ∧ r0 ≤ m ∧ r0 ≤ mid ∧ (mid < m → st0 = mid + m - b ∧ r0 = mid) ∧ (¬ mid < m → st0 = a ∧ r0 = m) := by
        by_cases h : mid < m
        · rw [if_pos h] at hst0 hr0; omega
        · rw [if_neg h] at hst0 hr0; omega
      clear hst0 hr0
      obtain ⟨q1, q2, q3, q4, q5, q6⟩ := hsr
      obtain ⟨pN, hpN⟩ : ∃ p, p + 1 = mid + m := ⟨mid + m - 1, by omega⟩
      have hpz : (mid : Int) + (m : Int) - 1 = (pN : Int) := by omega
      by_cases hmm : mid < m
      · have hmmq := q5 hmm
        have hmmz : (m : Int) > (mid : Int) := by omega
        have HQ : Aside (st0 = mid + m - b ∧ r0 = mid) := hmmq
        clear hmmq q5 q6
        go_wp2_with fail
        try simp only [hm1e, hb1e]
        go_loopg [20, 21] (b - a) (fun kx s20 s21 wr => ∃ i j : Nat, s20 = .int .i64 i ∧ s21 = .int .i64 j ∧ st0 ≤ i ∧ i ≤ j ∧ j ≤ r0 ∧ j - i ≤ kx ∧ Aside (SW enc w0 blk off (d) (wr)) ∧ Aside ((st0 < i → ltOf cf d[pN + 1 - i]! d[i - 1]! = false) ∧ (j < r0 → ltOf cf d[pN - j]! d[j]! = true)))
        case atStart => exact ⟨st0, r0, by have := HQ.out; first | rfl | (congr 1; omega), by have := HQ.out; first | rfl | (congr 1; omega), Nat.le_refl _, q2, Nat.le_refl _, by omega, S0, ⟨fun h => absurd h (Nat.lt_irrefl _), fun h => absurd h (Nat.lt_irrefl _)⟩⟩
        case round =>
          clear S0
          obtain ⟨i, j, rfl, rfl, hai, hij, hjb, hkx, S1, HB⟩ := hrel
          by_cases hlt : i < j
          · have hltz : (i : Int) < (j : Int) := by omega
            obtain ⟨h, hh⟩ : ∃ h, (i + j) / 2 = h := ⟨_, rfl⟩
            have hhz : ((i : Int) + (j : Int)) / 2 = (h : Int) := by omega
            have hih : i ≤ h := by omega
            have hhj : h < j := by omega
            obtain ⟨pc, hpc0⟩ : ∃ pc, pc + h = pN := ⟨pN - h, by have := HQ.out; omega⟩
            have hpcz : (pN : Int) - (h : Int) = (pc : Int) := by omega
            have hpc : pc < b := by have := HQ.out; omega
            cases hlv : ltOf cf d[pc]! d[h]! with
            | true =>
              go_wp2_with fail
              obtain ⟨iN106, hiN106⟩ : ∃ q, q = pc := ⟨_, rfl⟩
              obtain ⟨jN106, hjN106⟩ : ∃ q, q = h := ⟨_, rfl⟩
              have ea106 : ((pc : Int)).toNat = iN106 := by omega
              have ec106 : ((h : Int)).toNat = jN106 := by omega
              have pa106 : (0 : Int) ≤ (pc : Int) := by omega
              have ba106 : (pc : Int) < (d.size : Int) := by omega
              have ra106 : IntKind.i64.wrap ((pc : Int)) = (pc : Int) := by rw [IntKind.wrap_i64]; omega
              have pc106 : (0 : Int) ≤ (h : Int) := by omega
              have bc106 : (h : Int) < (d.size : Int) := by omega
              have rc106 : IntKind.i64.wrap ((h : Int)) = (h : Int) := by rw [IntKind.wrap_i64]; omega
              obtain ⟨x106, hx106⟩ : ∃ x, x = d[pc]! := ⟨_, rfl⟩
              obtain ⟨y106, hy106⟩ : ∃ x, x = d[h]! := ⟨_, rfl⟩
              have l106a := S1.out.cl R (by omega) (pc) (by omega)
              have l106b := S1.out.cl R (by omega) (h) (by omega)
              rw [← hx106, ← hiN106] at l106a
              rw [← hy106, ← hjN106] at l106b
              have hv106 : cf x106 y106 < 0 := by rw [hx106, hy106]; exact of_decide_eq_true hlv
              have hd106 : decide (cf x106 y106 < 0) = true := decide_eq_true hv106
              have hc106 := S1.out.cmp HC.out (by omega) x106 y106
              clear hx106 hy106 hiN106 hjN106
              go_wp2_with fail
              go_quiet_grown (first | (go_at_fn g; refine Calls.grown_of (hc106 _ _)))
              have S2 : Aside (SW enc w0 blk off (d) (grow ((wr).drewN nq) osq)) := S1.out.grown nq osq
              clear l106a l106b hc106 S1
              generalize grow ((wr).drewN nq) osq = w2 at S2 ⊢
              clear nq osq
              clear ea106 ec106
              go_wp2
              go_roundg (h - i)
              case measure => omega
              case rel => exact ⟨i, h, rfl, rfl, hai, by omega, by omega, Nat.le_refl _, S2, ⟨HB.out.1, fun _ => by rw [show pN - h = pc by omega]; exact hlv⟩⟩
            | false =>
              go_wp2_with fail
              obtain ⟨iN107, hiN107⟩ : ∃ q, q = pc := ⟨_, rfl⟩
              obtain ⟨jN107, hjN107⟩ : ∃ q, q = h := ⟨_, rfl⟩
              have ea107 : ((pc : Int)).toNat = iN107 := by omega
              have ec107 : ((h : Int)).toNat = jN107 := by omega
              have pa107 : (0 : Int) ≤ (pc : Int) := by omega
              have ba107 : (pc : Int) < (d.size : Int) := by omega
              have ra107 : IntKind.i64.wrap ((pc : Int)) = (pc : Int) := by rw [IntKind.wrap_i64]; omega
              have pc107 : (0 : Int) ≤ (h : Int) := by omega
              have bc107 : (h : Int) < (d.size : Int) := by omega
              have rc107 : IntKind.i64.wrap ((h : Int)) = (h : Int) := by rw [IntKind.wrap_i64]; omega
              obtain ⟨x107, hx107⟩ : ∃ x, x = d[pc]! := ⟨_, rfl⟩
              obtain ⟨y107, hy107⟩ : ∃ x, x = d[h]! := ⟨_, rfl⟩
              have l107a := S1.out.cl R (by omega) (pc) (by omega)
              have l107b := S1.out.cl R (by omega) (h) (by omega)
              rw [← hx107, ← hiN107] at l107a
              rw [← hy107, ← hjN107] at l107b
              have hv107 : ¬ cf x107 y107 < 0 := by rw [hx107, hy107]; exact of_decide_eq_false hlv
              have hd107 : decide (cf x107 y107 < 0) = false := decide_eq_false hv107
              have hc107 := S1.out.cmp HC.out (by omega) x107 y107
              clear hx107 hy107 hiN107 hjN107
              go_wp2_with fail
              go_quiet_grown (first | (go_at_fn g; refine Calls.grown_of (hc107 _ _)))
              have S2 : Aside (SW enc w0 blk off (d) (grow ((wr).drewN nq) osq)) := S1.out.grown nq osq
              clear l107a l107b hc107 S1
              generalize grow ((wr).drewN nq) osq = w2 at S2 ⊢
              clear nq osq
              clear ea107 ec107
              go_wp2
              go_roundg (j - (h + 1))
              case measure => omega
              case rel => exact ⟨h + 1, j, by go_num, rfl, by omega, by omega, hjb, Nat.le_refl _, S2, ⟨fun _ => by rw [Nat.add_sub_cancel, show pN + 1 - (h + 1) = pc by omega]; exact hlv, HB.out.2⟩⟩
          · obtain rfl : i = j := by omega
            have hltz : ¬ (i : Int) < (i : Int) := by omega
            obtain ⟨en, hen⟩ : ∃ en, mid + m - i = en := ⟨_, rfl⟩
            have hq := HQ.out
            have henz : (mid : Int) + (m : Int) - (i : Int) = (en : Int) := by omega
            have hebr : m ≤ en ∧ en ≤ b ∧ i ≤ m ∧ a ≤ i ∧ i + (en - m) = mid ∧ mid ≤ en ∧ i ≤ mid := by omega
            obtain ⟨e1, e2, e3, e4, e5, e6, e7⟩ := hebr
            have hcut : ∀ d1, Rot i m en d d1 → SymPre (ltOf cf) tg a i mid d1 ∧ SymPre (ltOf cf) tg mid en b d1 ∧ ∀ p q, a ≤ p → p < mid → mid ≤ q → q < b → lx (ltOf cf) tg d1[q]! d1[p]! = false := fun d1 hr => by
              have := merge_cut hS HP.out e4 e3 e1 e2 (fun h1 h2 => by rw [show en = pN + 1 - i by omega]; exact HB.out.1 (by omega)) (fun h1 h2 => by rw [show en - 1 = pN - i by omega]; exact HB.out.2 (by omega)) hr
              rwa [e5] at this
            have HCUT : Aside _ := hcut
            clear hcut hq
            have hr : ∀ wX, Aside (SW enc w0 blk off (d) (wX)) → i < m → m < en → Calls Try.prog 108 #[.slice (some ⟨blk, off, none⟩) d.size cap, .int .i64 i, .int .i64 m, .int .i64 en, .func (.func g) #[] cb] wX fun e w' => e = .returned (.tuple #[]) ∧ ∃ d', Rot i m en d d' ∧ SW enc w0 blk off (d') (w') := fun wX SX h1 h2 => rotateI enc blk off cap i m en d0 d w0 wX _ R hs SX.out h1 h2 (by omega) (by omega)
            have hsy : ∀ (a2 m2 b2 : Nat) d1 wX, b2 - a2 ≤ sz → d1.size = d.size → Aside (SW enc w0 blk off (d1) (wX)) → a2 < m2 → m2 < b2 → b2 ≤ b → SymPre (ltOf cf) tg a2 m2 b2 d1 → Calls Try.prog 94 #[.slice (some ⟨blk, off, none⟩) d.size cap, .int .i64 a2, .int .i64 m2, .int .i64 b2, .func (.func g) #[] cb] wX fun e w' => e = .returned (.tuple #[]) ∧ ∃ d', PermIn a2 b2 d1 d' ∧ SortedIn (lx (ltOf cf) tg) a2 b2 d' ∧ SW enc w0 blk off (d') (w') := fun a2 m2 b2 d1 wX h1 h2 SX h3 h4 h5 h6 => by
              have := HI.out a2 m2 b2 d1 wX h1 (by omega) SX.out h3 h4 (by omega) h6
              rwa [h2] at this
            have HR : Aside _ := hr
            have HSY : Aside _ := hsy
            clear hr hsy HB
            by_cases c1 : i < m ∧ m < en
            · have c1a : (i : Int) < (m : Int) := by omega
              have c1b : (m : Int) < (en : Int) := by omega
              go_wp2_with fail
              refine (HR.out _ S1 c1.1 c1.2).mono ?_
              rintro e wA ⟨rfl, d1, hr1, SA0⟩
              have SA : Aside _ := SA0
              have R1 : Aside _ := hr1
              have z1 : d1.size = d.size := hr1.perm.1
              clear SA0 hr1 S1
              have X1 : Aside _ := HCUT.out d1 R1.out
              by_cases c2 : a < i ∧ i < mid
              · have c2a : (a : Int) < (i : Int) := by omega
                have c2b : (i : Int) < (mid : Int) := by omega
                go_wp2_with fail
                refine (HSY.out a i mid d1 _ (by omega) z1 SA c2.1 c2.2 (by omega) X1.out.1).mono ?_
                rintro e wB ⟨rfl, d2, p2, s2, SB0⟩
                have SB : Aside _ := SB0
                have P2 : Aside (PermIn a mid d1 d2) := p2
                have T2 : Aside _ := s2
                have z2 : d2.size = d.size := p2.1.trans z1
                clear SB0 p2 s2 SA
                by_cases c3 : mid < en ∧ en < b
                · have c3a : (mid : Int) < (en : Int) := by omega
                  have c3b : (en : Int) < (b : Int) := by omega
                  go_wp2_with fail
                  refine (HSY.out mid en b d2 _ (by omega) z2 SB c3.1 c3.2 (Nat.le_refl _) (X1.out.2.1.upd P2.out (Or.inr (Nat.le_refl _)) e6 e2)).mono ?_
                  rintro e wC ⟨rfl, d3, p3, s3, SC0⟩
                  have SC : Aside _ := SC0
                  have P3 : Aside (PermIn mid b d2 d3) := p3
                  have T3 : Aside _ := s3
                  clear SC0 p3 s3 SB
                  go_wp2
                  go_end0
                  obtain ⟨f1, f2⟩ := merge_end e4 e7 e6 e2 hb R1.out X1.out.2.2 P2.out T2.out P3.out T3.out
                  exact ⟨rfl, d3, f1, f2, SC.out⟩
                · have c3a : ¬ ((mid : Int) < (en : Int) ∧ (en : Int) < (b : Int)) := by omega
                  have c3c : (mid : Int) < (en : Int) → ¬ (en : Int) < (b : Int) := fun h1 h2 => c3a ⟨h1, h2⟩
                  go_wp2
                  all_goals
                    go_end0
                    obtain ⟨f1, f2⟩ := merge_end e4 e7 e6 e2 hb R1.out X1.out.2.2 P2.out T2.out (permIn_refl d2 mid b) ((X1.out.2.1.upd P2.out (Or.inr (Nat.le_refl _)) e6 e2).one (by omega))
                    exact ⟨rfl, d2, f1, f2, SB.out⟩
              · have c2a : ¬ ((a : Int) < (i : Int) ∧ (i : Int) < (mid : Int)) := by omega
                have c2c : (a : Int) < (i : Int) → ¬ (i : Int) < (mid : Int) := fun h1 h2 => c2a ⟨h1, h2⟩
                obtain ⟨d2, hd2⟩ : ∃ d2, d2 = d1 := ⟨_, rfl⟩
                have SB : Aside (SW enc w0 blk off (d2) (wA)) := by rw [hd2]; exact SA
                have z2 : d2.size = d.size := by rw [hd2]; exact z1
                have P2 : Aside (PermIn a mid d1 d2) := by rw [hd2]; exact permIn_refl d1 a mid
                have T2 : Aside (SortedIn (lx (ltOf cf) tg) a mid d2) := by rw [hd2]; exact X1.out.1.one (by omega)
                clear hd2 SA
                by_cases c3 : mid < en ∧ en < b
                · exfalso; omega
                · have c3a : ¬ ((mid : Int) < (en : Int) ∧ (en : Int) < (b : Int)) := by omega
                  have c3c : (mid : Int) < (en : Int) → ¬ (en : Int) < (b : Int) := fun h1 h2 => c3a ⟨h1, h2⟩
                  go_wp2
                  all_goals
                    go_end0
                    obtain ⟨f1, f2⟩ := merge_end e4 e7 e6 e2 hb R1.out X1.out.2.2 P2.out T2.out (permIn_refl d2 mid b) ((X1.out.2.1.upd P2.out (Or.inr (Nat.le_refl _)) e6 e2).one (by omega))
                    exact ⟨rfl, d2, f1, f2, SB.out⟩
            · have c1a : ¬ ((i : Int) < (m : Int) ∧ (m : Int) < (en : Int)) := by omega
              have R1 : Aside (Rot i m en d d) := by
                by_cases h : i = m
                · rw [h]; exact Rot.idL m en e1 d
                · rw [show en = m by omega]; exact Rot.idR i m e3 d
              obtain ⟨d1, hd1⟩ : ∃ d1, d1 = d := ⟨_, rfl⟩
              have SA : Aside (SW enc w0 blk off (d1) (wr)) := by rw [hd1]; exact S1
              have z1 : d1.size = d.size := by rw [hd1]
              rw [show Rot i m en d d = Rot i m en d d1 by rw [hd1]] at R1
              clear hd1 S1
              have c1c : (i : Int) < (m : Int) → ¬ (m : Int) < (en : Int) := fun h1 h2 => c1a ⟨h1, h2⟩
              have X1 : Aside _ := HCUT.out d1 R1.out
              by_cases c2 : a < i ∧ i < mid
              · exfalso; omega
              · have c2a : ¬ ((a : Int) < (i : Int) ∧ (i : Int) < (mid : Int)) := by omega
                have c2c : (a : Int) < (i : Int) → ¬ (i : Int) < (mid : Int) := fun h1 h2 => c2a ⟨h1, h2⟩
                obtain ⟨d2, hd2⟩ : ∃ d2, d2 = d1 := ⟨_, rfl⟩
                have SB : Aside (SW enc w0 blk off (d2) (wr)) := by rw [hd2]; exact SA
                have z2 : d2.size = d.size := by rw [hd2]; exact z1
                have P2 : Aside (PermIn a mid d1 d2) := by rw [hd2]; exact permIn_refl d1 a mid
                have T2 : Aside (SortedIn (lx (ltOf cf) tg) a mid d2) := by rw [hd2]; exact X1.out.1.one (by omega)
                clear hd2 SA
                by_cases c3 : mid < en ∧ en < b
                · have c3a : (mid : Int) < (en : Int) := by omega
                  have c3b : (en : Int) < (b : Int) := by omega
                  go_wp2_with fail
                  refine (HSY.out mid en b d2 _ (by omega) z2 SB c3.1 c3.2 (Nat.le_refl _) (X1.out.2.1.upd P2.out (Or.inr (Nat.le_refl _)) e6 e2)).mono ?_
                  rintro e wC ⟨rfl, d3, p3, s3, SC0⟩
                  have SC : Aside _ := SC0
                  have P3 : Aside (PermIn mid b d2 d3) := p3
                  have T3 : Aside _ := s3
                  clear SC0 p3 s3 SB
                  go_wp2
                  go_end0
                  obtain ⟨f1, f2⟩ := merge_end e4 e7 e6 e2 hb R1.out X1.out.2.2 P2.out T2.out P3.out T3.out
                  exact ⟨rfl, d3, f1, f2, SC.out⟩
                · have c3a : ¬ ((mid : Int) < (en : Int) ∧ (en : Int) < (b : Int)) := by omega
                  have c3c : (mid : Int) < (en : Int) → ¬ (en : Int) < (b : Int) := fun h1 h2 => c3a ⟨h1, h2⟩
                  go_wp2
                  all_goals
                    go_end0
                    obtain ⟨f1, f2⟩ := merge_end e4 e7 e6 e2 hb R1.out X1.out.2.2 P2.out T2.out (permIn_refl d2 mid b) ((X1.out.2.1.upd P2.out (Or.inr (Nat.le_refl _)) e6 e2).one (by omega))
                    exact ⟨rfl, d2, f1, f2, SB.out⟩
      · have hmmq := q6 hmm
        have hmmz : ¬ (m : Int) > (mid : Int) := by omega
        have HQ : Aside (st0 = a ∧ r0 = m) := hmmq
        clear hmmq q5 q6
        go_wp2_with fail
        try simp only [hm1e, hb1e]
        go_loopg [20, 21] (b - a) (fun kx s20 s21 wr => ∃ i j : Nat, s20 = .int .i64 i ∧ s21 = .int .i64 j ∧ st0 ≤ i ∧ i ≤ j ∧ j ≤ r0 ∧ j - i ≤ kx ∧ Aside (SW enc w0 blk off (d) (wr)) ∧ Aside ((st0 < i → ltOf cf d[pN + 1 - i]! d[i - 1]! = false) ∧ (j < r0 → ltOf cf d[pN - j]! d[j]! = true)))
        case atStart => exact ⟨st0, r0, by have := HQ.out; first | rfl | (congr 1; omega), by have := HQ.out; first | rfl | (congr 1; omega), Nat.le_refl _, q2, Nat.le_refl _, by omega, S0, ⟨fun h => absurd h (Nat.lt_irrefl _), fun h => absurd h (Nat.lt_irrefl _)⟩⟩
        case round =>
          clear S0
          obtain ⟨i, j, rfl, rfl, hai, hij, hjb, hkx, S1, HB⟩ := hrel
          by_cases hlt : i < j
          · have hltz : (i : Int) < (j : Int) := by omega
            obtain ⟨h, hh⟩ : ∃ h, (i + j) / 2 = h := ⟨_, rfl⟩
            have hhz : ((i : Int) + (j : Int)) / 2 = (h : Int) := by omega
            have hih : i ≤ h := by omega
            have hhj : h < j := by omega
            obtain ⟨pc, hpc0⟩ : ∃ pc, pc + h = pN := ⟨pN - h, by have := HQ.out; omega⟩
            have hpcz : (pN : Int) - (h : Int) = (pc : Int) := by omega
            have hpc : pc < b := by have := HQ.out; omega
            cases hlv : ltOf cf d[pc]! d[h]! with
            | true =>
              go_wp2_with fail
              obtain ⟨iN108, hiN108⟩ : ∃ q, q = pc := ⟨_, rfl⟩
              obtain ⟨jN108, hjN108⟩ : ∃ q, q = h := ⟨_, rfl⟩
              have ea108 : ((pc : Int)).toNat = iN108 := by omega
              have ec108 : ((h : Int)).toNat = jN108 := by omega
              have pa108 : (0 : Int) ≤ (pc : Int) := by omega
              have ba108 : (pc : Int) < (d.size : Int) := by omega
              have ra108 : IntKind.i64.wrap ((pc : Int)) = (pc : Int) := by rw [IntKind.wrap_i64]; omega
              have pc108 : (0 : Int) ≤ (h : Int) := by omega
              have bc108 : (h : Int) < (d.size : Int) := by omega
              have rc108 : IntKind.i64.wrap ((h : Int)) = (h : Int) := by rw [IntKind.wrap_i64]; omega
              obtain ⟨x108, hx108⟩ : ∃ x, x = d[pc]! := ⟨_, rfl⟩
              obtain ⟨y108, hy108⟩ : ∃ x, x = d[h]! := ⟨_, rfl⟩
              have l108a := S1.out.cl R (by omega) (pc) (by omega)
              have l108b := S1.out.cl R (by omega) (h) (by omega)
              rw [← hx108, ← hiN108] at l108a
              rw [← hy108, ← hjN108] at l108b
              have hv108 : cf x108 y108 < 0 := by rw [hx108, hy108]; exact of_decide_eq_true hlv
              have hd108 : decide (cf x108 y108 < 0) = true := decide_eq_true hv108
              have hc108 := S1.out.cmp HC.out (by omega) x108 y108
              clear hx108 hy108 hiN108 hjN108
              go_wp2_with fail
              go_quiet_grown (first | (go_at_fn g; refine Calls.grown_of (hc108 _ _)))
              have S2 : Aside (SW enc w0 blk off (d) (grow ((wr).drewN nq) osq)) := S1.out.grown nq osq
              clear l108a l108b hc108 S1
              generalize grow ((wr).drewN nq) osq = w2 at S2 ⊢
              clear nq osq
              clear ea108 ec108
              go_wp2
              go_roundg (h - i)
              case measure => omega
              case rel => exact ⟨i, h, rfl, rfl, hai, by omega, by omega, Nat.le_refl _, S2, ⟨HB.out.1, fun _ => by rw [show pN - h = pc by omega]; exact hlv⟩⟩
            | false =>
              go_wp2_with fail
              obtain ⟨iN109, hiN109⟩ : ∃ q, q = pc := ⟨_, rfl⟩
              obtain ⟨jN109, hjN109⟩ : ∃ q, q = h := ⟨_, rfl⟩
              have ea109 : ((pc : Int)).toNat = iN109 := by omega
              have ec109 : ((h : Int)).toNat = jN109 := by omega
              have pa109 : (0 : Int) ≤ (pc : Int) := by omega
              have ba109 : (pc : Int) < (d.size : Int) := by omega
              have ra109 : IntKind.i64.wrap ((pc : Int)) = (pc : Int) := by rw [IntKind.wrap_i64]; omega
              have pc109 : (0 : Int) ≤ (h : Int) := by omega
              have bc109 : (h : Int) < (d.size : Int) := by omega
              have rc109 : IntKind.i64.wrap ((h : Int)) = (h : Int) := by rw [IntKind.wrap_i64]; omega
              obtain ⟨x109, hx109⟩ : ∃ x, x = d[pc]! := ⟨_, rfl⟩
              obtain ⟨y109, hy109⟩ : ∃ x, x = d[h]! := ⟨_, rfl⟩
              have l109a := S1.out.cl R (by omega) (pc) (by omega)
              have l109b := S1.out.cl R (by omega) (h) (by omega)
              rw [← hx109, ← hiN109] at l109a
              rw [← hy109, ← hjN109] at l109b
              have hv109 : ¬ cf x109 y109 < 0 := by rw [hx109, hy109]; exact of_decide_eq_false hlv
              have hd109 : decide (cf x109 y109 < 0) = false := decide_eq_false hv109
              have hc109 := S1.out.cmp HC.out (by omega) x109 y109
              clear hx109 hy109 hiN109 hjN109
              go_wp2_with fail
              go_quiet_grown (first | (go_at_fn g; refine Calls.grown_of (hc109 _ _)))
              have S2 : Aside (SW enc w0 blk off (d) (grow ((wr).drewN nq) osq)) := S1.out.grown nq osq
              clear l109a l109b hc109 S1
              generalize grow ((wr).drewN nq) osq = w2 at S2 ⊢
              clear nq osq
              clear ea109 ec109
              go_wp2
              go_roundg (j - (h + 1))
              case measure => omega
              case rel => exact ⟨h + 1, j, by go_num, rfl, by omega, by omega, hjb, Nat.le_refl _, S2, ⟨fun _ => by rw [Nat.add_sub_cancel, show pN + 1 - (h + 1) = pc by omega]; exact hlv, HB.out.2⟩⟩
          · obtain rfl : i = j := by omega
            have hltz : ¬ (i : Int) < (i : Int) := by omega
            obtain ⟨en, hen⟩ : ∃ en, mid + m - i = en := ⟨_, rfl⟩
            have hq := HQ.out
            have henz : (mid : Int) + (m : Int) - (i : Int) = (en : Int) := by omega
            have hebr : m ≤ en ∧ en ≤ b ∧ i ≤ m ∧ a ≤ i ∧ i + (en - m) = mid ∧ mid ≤ en ∧ i ≤ mid := by omega
            obtain ⟨e1, e2, e3, e4, e5, e6, e7⟩ := hebr
            have hcut : ∀ d1, Rot i m en d d1 → SymPre (ltOf cf) tg a i mid d1 ∧ SymPre (ltOf cf) tg mid en b d1 ∧ ∀ p q, a ≤ p → p < mid → mid ≤ q → q < b → lx (ltOf cf) tg d1[q]! d1[p]! = false := fun d1 hr => by
              have := merge_cut hS HP.out e4 e3 e1 e2 (fun h1 h2 => by rw [show en = pN + 1 - i by omega]; exact HB.out.1 (by omega)) (fun h1 h2 => by rw [show en - 1 = pN - i by omega]; exact HB.out.2 (by omega)) hr
              rwa [e5] at this
            have HCUT : Aside _ := hcut
            clear hcut hq
            have hr : ∀ wX, Aside (SW enc w0 blk off (d) (wX)) → i < m → m < en → Calls Try.prog 108 #[.slice (some ⟨blk, off, none⟩) d.size cap, .int .i64 i, .int .i64 m, .int .i64 en, .func (.func g) #[] cb] wX fun e w' => e = .returned (.tuple #[]) ∧ ∃ d', Rot i m en d d' ∧ SW enc w0 blk off (d') (w') := fun wX SX h1 h2 => rotateI enc blk off cap i m en d0 d w0 wX _ R hs SX.out h1 h2 (by omega) (by omega)
            have hsy : ∀ (a2 m2 b2 : Nat) d1 wX, b2 - a2 ≤ sz → d1.size = d.size → Aside (SW enc w0 blk off (d1) (wX)) → a2 < m2 → m2 < b2 → b2 ≤ b → SymPre (ltOf cf) tg a2 m2 b2 d1 → Calls Try.prog 94 #[.slice (some ⟨blk, off, none⟩) d.size cap, .int .i64 a2, .int .i64 m2, .int .i64 b2, .func (.func g) #[] cb] wX fun e w' => e = .returned (.tuple #[]) ∧ ∃ d', PermIn a2 b2 d1 d' ∧ SortedIn (lx (ltOf cf) tg) a2 b2 d' ∧ SW enc w0 blk off (d') (w') := fun a2 m2 b2 d1 wX h1 h2 SX h3 h4 h5 h6 => by
              have := HI.out a2 m2 b2 d1 wX h1 (by omega) SX.out h3 h4 (by omega) h6
              rwa [h2] at this
            have HR : Aside _ := hr
            have HSY : Aside _ := hsy
            clear hr hsy HB
            by_cases c1 : i < m ∧ m < en
            · have c1a : (i : Int) < (m : Int) := by omega
              have c1b : (m : Int) < (en : Int) := by omega
              go_wp2_with fail
              refine (HR.out _ S1 c1.1 c1.2).mono ?_
              rintro e wA ⟨rfl, d1, hr1, SA0⟩
              have SA : Aside _ := SA0
              have R1 : Aside _ := hr1
              have z1 : d1.size = d.size := hr1.perm.1
              clear SA0 hr1 S1
              have X1 : Aside _ := HCUT.out d1 R1.out
              by_cases c2 : a < i ∧ i < mid
              · have c2a : (a : Int) < (i : Int) := by omega
                have c2b : (i : Int) < (mid : Int) := by omega
                go_wp2_with fail
                refine (HSY.out a i mid d1 _ (by omega) z1 SA c2.1 c2.2 (by omega) X1.out.1).mono ?_
                rintro e wB ⟨rfl, d2, p2, s2, SB0⟩
                have SB : Aside _ := SB0
                have P2 : Aside (PermIn a mid d1 d2) := p2
                have T2 : Aside _ := s2
                have z2 : d2.size = d.size := p2.1.trans z1
                clear SB0 p2 s2 SA
                by_cases c3 : mid < en ∧ en < b
                · have c3a : (mid : Int) < (en : Int) := by omega
                  have c3b : (en : Int) < (b : Int) := by omega
                  go_wp2_with fail
                  refine (HSY.out mid en b d2 _ (by omega) z2 SB c3.1 c3.2 (Nat.le_refl _) (X1.out.2.1.upd P2.out (Or.inr (Nat.le_refl _)) e6 e2)).mono ?_
                  rintro e wC ⟨rfl, d3, p3, s3, SC0⟩
                  have SC : Aside _ := SC0
                  have P3 : Aside (PermIn mid b d2 d3) := p3
                  have T3 : Aside _ := s3
                  clear SC0 p3 s3 SB
                  go_wp2
                  go_end0
                  obtain ⟨f1, f2⟩ := merge_end e4 e7 e6 e2 hb R1.out X1.out.2.2 P2.out T2.out P3.out T3.out
                  exact ⟨rfl, d3, f1, f2, SC.out⟩
                · have c3a : ¬ ((mid : Int) < (en : Int) ∧ (en : Int) < (b : Int)) := by omega
                  have c3c : (mid : Int) < (en : Int) → ¬ (en : Int) < (b : Int) := fun h1 h2 => c3a ⟨h1, h2⟩
                  go_wp2
                  all_goals
                    go_end0
                    obtain ⟨f1, f2⟩ := merge_end e4 e7 e6 e2 hb R1.out X1.out.2.2 P2.out T2.out (permIn_refl d2 mid b) ((X1.out.2.1.upd P2.out (Or.inr (Nat.le_refl _)) e6 e2).one (by omega))
                    exact ⟨rfl, d2, f1, f2, SB.out⟩
              · have c2a : ¬ ((a : Int) < (i : Int) ∧ (i : Int) < (mid : Int)) := by omega
                have c2c : (a : Int) < (i : Int) → ¬ (i : Int) < (mid : Int) := fun h1 h2 => c2a ⟨h1, h2⟩
                obtain ⟨d2, hd2⟩ : ∃ d2, d2 = d1 := ⟨_, rfl⟩
                have SB : Aside (SW enc w0 blk off (d2) (wA)) := by rw [hd2]; exact SA
                have z2 : d2.size = d.size := by rw [hd2]; exact z1
                have P2 : Aside (PermIn a mid d1 d2) := by rw [hd2]; exact permIn_refl d1 a mid
                have T2 : Aside (SortedIn (lx (ltOf cf) tg) a mid d2) := by rw [hd2]; exact X1.out.1.one (by omega)
                clear hd2 SA
                by_cases c3 : mid < en ∧ en < b
                · have c3a : (mid : Int) < (en : Int) := by omega
                  have c3b : (en : Int) < (b : Int) := by omega
                  go_wp2_with fail
                  refine (HSY.out mid en b d2 _ (by omega) z2 SB c3.1 c3.2 (Nat.le_refl _) (X1.out.2.1.upd P2.out (Or.inr (Nat.le_refl _)) e6 e2)).mono ?_
                  rintro e wC ⟨rfl, d3, p3, s3, SC0⟩
                  have SC : Aside _ := SC0
                  have P3 : Aside (PermIn mid b d2 d3) := p3
                  have T3 : Aside _ := s3
                  clear SC0 p3 s3 SB
                  go_wp2
                  go_end0
                  obtain ⟨f1, f2⟩ := merge_end e4 e7 e6 e2 hb R1.out X1.out.2.2 P2.out T2.out P3.out T3.out
                  exact ⟨rfl, d3, f1, f2, SC.out⟩
                · have c3a : ¬ ((mid : Int) < (en : Int) ∧ (en : Int) < (b : Int)) := by omega
                  have c3c : (mid : Int) < (en : Int) → ¬ (en : Int) < (b : Int) := fun h1 h2 => c3a ⟨h1, h2⟩
                  go_wp2
                  all_goals
                    go_end0
                    obtain ⟨f1, f2⟩ := merge_end e4 e7 e6 e2 hb R1.out X1.out.2.2 P2.out T2.out (permIn_refl d2 mid b) ((X1.out.2.1.upd P2.out (Or.inr (Nat.le_refl _)) e6 e2).one (by omega))
                    exact ⟨rfl, d2, f1, f2, SB.out⟩
            · have c1a : ¬ ((i : Int) < (m : Int) ∧ (m : Int) < (en : Int)) := by omega
              have R1 : Aside (Rot i m en d d) := by
                by_cases h : i = m
                · rw [h]; exact Rot.idL m en e1 d
                · rw [show en = m by omega]; exact Rot.idR i m e3 d
              obtain ⟨d1, hd1⟩ : ∃ d1, d1 = d := ⟨_, rfl⟩
              have SA : Aside (SW enc w0 blk off (d1) (wr)) := by rw [hd1]; exact S1
              have z1 : d1.size = d.size := by rw [hd1]
              rw [show Rot i m en d d = Rot i m en d d1 by rw [hd1]] at R1
              clear hd1 S1
              have c1c : (i : Int) < (m : Int) → ¬ (m : Int) < (en : Int) := fun h1 h2 => c1a ⟨h1, h2⟩
              have X1 : Aside _ := HCUT.out d1 R1.out
              by_cases c2 : a < i ∧ i < mid
              · have c2a : (a : Int) < (i : Int) := by omega
                have c2b : (i : Int) < (mid : Int) := by omega
                go_wp2_with fail
                refine (HSY.out a i mid d1 _ (by omega) z1 SA c2.1 c2.2 (by omega) X1.out.1).mono ?_
                rintro e wB ⟨rfl, d2, p2, s2, SB0⟩
                have SB : Aside _ := SB0
                have P2 : Aside (PermIn a mid d1 d2) := p2
                have T2 : Aside _ := s2
                have z2 : d2.size = d.size := p2.1.trans z1
                clear SB0 p2 s2 SA
                by_cases c3 : mid < en ∧ en < b
                · exfalso; omega
                · have c3a : ¬ ((mid : Int) < (en : Int) ∧ (en : Int) < (b : Int)) := by omega
                  have c3c : (mid : Int) < (en : Int) → ¬ (en : Int) < (b : Int) := fun h1 h2 => c3a ⟨h1, h2⟩
                  go_wp2
                  all_goals
                    go_end0
                    obtain ⟨f1, f2⟩ := merge_end e4 e7 e6 e2 hb R1.out X1.out.2.2 P2.out T2.out (permIn_refl d2 mid b) ((X1.out.2.1.upd P2.out (Or.inr (Nat.le_refl _)) e6 e2).one (by omega))
                    exact ⟨rfl, d2, f1, f2, SB.out⟩
              · have c2a : ¬ ((a : Int) < (i : Int) ∧ (i : Int) < (mid : Int)) := by omega
                have c2c : (a : Int) < (i : Int) → ¬ (i : Int) < (mid : Int) := fun h1 h2 => c2a ⟨h1, h2⟩
                obtain ⟨d2, hd2⟩ : ∃ d2, d2 = d1 := ⟨_, rfl⟩
                have SB : Aside (SW enc w0 blk off (d2) (wr)) := by rw [hd2]; exact SA
                have z2 : d2.size = d.size := by rw [hd2]; exact z1
                have P2 : Aside (PermIn a mid d1 d2) := by rw [hd2]; exact permIn_refl d1 a mid
                have T2 : Aside (SortedIn (lx (ltOf cf) tg) a mid d2) := by rw [hd2]; exact X1.out.1.one (by omega)
                clear hd2 SA
                by_cases c3 : mid < en ∧ en < b
                · exfalso; omega
                · have c3a : ¬ ((mid : Int) < (en : Int) ∧ (en : Int) < (b : Int)) := by omega
                  have c3c : (mid : Int) < (en : Int) → ¬ (en : Int) < (b : Int) := fun h1 h2 => c3a ⟨h1, h2⟩
                  go_wp2
                  all_goals
                    go_end0
                    obtain ⟨f1, f2⟩ := merge_end e4 e7 e6 e2 hb R1.out X1.out.2.2 P2.out T2.out (permIn_refl d2 mid b) ((X1.out.2.1.upd P2.out (Or.inr (Nat.le_refl _)) e6 e2).one (by omega))
                    exact ⟨rfl, d2, f1, f2, SB.out⟩
end Go.Proofs

/- slices.stableCmpFunc over int: sorted, ties in the order they came in. -/
namespace Go.Proofs
open Go.RowKit Go.Lib Go.Sort Go.Shelf
variable {α : Type} [Inhabited α]

set_option maxHeartbeats 16000000 in
set_option maxRecDepth 1000000 in
theorem stableI_at (enc : α → Value) (cf : α → α → Int) (tg : α → Nat) (hS : SWO (ltOf cf)) (g : Nat) (cb : Array Value) (blk off cap : Nat) (d : Array α) (w0 w : World)
    (eg : ∀ args w, (callFunc g args).run Try.prog w = .ok (.enter g args) w) (hcmp : CmpLays1 Try.prog g cb enc cf blk off d.size w0) (R : Row1 enc w0 blk off d) (hsz : d.size < 1073741824)
    (hins : ∀ (a b : Nat) (dk : Array α) (wX : World), Aside (SW enc w0 blk off (dk) (wX)) → d.size = dk.size → a ≤ b → b ≤ d.size → Calls Try.prog 93 #[.slice (some ⟨blk, off, none⟩) d.size cap, .int .i64 a, .int .i64 b, .func (.func g) #[] cb] wX fun e w' => e = .returned (.tuple #[]) ∧ SW enc w0 blk off (insertionSort (ltOf cf) dk a b) (w'))
    (S : SW enc w0 blk off (d) (w)) (htg : ∀ i, i < d.size → tg d[i]! = i) :
    Calls Try.prog 78 #[.slice (some ⟨blk, off, none⟩) d.size cap, .int .i64 d.size, .func (.func g) #[] cb] w fun e w' => e = .returned (.tuple #[]) ∧ ∃ d', PermIn 0 d.size d d' ∧ SortedIn (lx (ltOf cf) tg) 0 d.size d' ∧ SW enc w0 blk off (d') (w') := by
  have mixed : Try.prog.follows Departure.mixedOrders = true := by kernel_rfl
  have hcl0 := R.hO.cells
  simp only [Value.cells] at hcl0
  have hst := R.hO.store Try.prog
  have hsy : ∀ (a m b : Nat) (dk : Array α) (wX : World), Aside (SW enc w0 blk off (dk) (wX)) → d.size = dk.size → a < m → m < b → b ≤ d.size → SymPre (ltOf cf) tg a m b dk → Calls Try.prog 94 #[.slice (some ⟨blk, off, none⟩) d.size cap, .int .i64 a, .int .i64 m, .int .i64 b, .func (.func g) #[] cb] wX fun e w' => e = .returned (.tuple #[]) ∧ ∃ d', PermIn a b dk d' ∧ SortedIn (lx (ltOf cf) tg) a b d' ∧ SW enc w0 blk off (d') (w') := fun a m b dk wX SX hs h1 h2 h3 hp => by
    have := symMergeI_at enc cf tg hS g cb blk off cap d w0 eg hcmp R (by omega) (b - a) a m b dk wX (Nat.le_refl _) hs SX.out h1 h2 (by omega) hp
    rwa [← hs] at this
  have S0 : Aside (SW enc w0 blk off (d) (w)) := S
  have HIN : Aside _ := hins
  have HSY : Aside _ := hsy
  have HT : Aside _ := htg
  clear S hins hsy htg hcmp
  obtain ⟨n, hn⟩ : ∃ n, d.size = n := ⟨_, rfl⟩
  rw [hn]
  rw [hn] at HIN HSY HT hsz
  have HN : Aside (d.size = n) := hn
  clear hn
  go_enter Try.func78, Try.ntmps78
  go_wp2_with fail
  go_loopg [7, 8] n (fun kx s7 s8 wr => ∃ (a : Nat) (dk : Array α), s7 = .int .i64 a ∧ s8 = .int .i64 ((a : Int) + 20) ∧ a ≤ n ∧ n - a ≤ kx ∧ Aside (n = dk.size) ∧ Aside (SW enc w0 blk off (dk) (wr)) ∧ Aside (∃ q, a = q * 20 ∧ BlkA (ltOf cf) tg 20 n (q * 20) d dk))
  case atStart => exact ⟨0, d, rfl, by go_num, Nat.zero_le _, by omega, HN.out.symm, S0, 0, rfl, by simpa using BlkA.start 20 HT.out⟩
  case round =>
    clear S0
    obtain ⟨a, dk, rfl, rfl, han, hkx, HZ, S1, HB⟩ := hrel
    by_cases hlt : a + 20 ≤ n
    · have hltz : (a : Int) + 20 ≤ (n : Int) := by omega
      have hc := HIN.out a (a + 20) dk wr S1 HZ.out (by omega) hlt
      rw [show ((a + 20 : Nat) : Int) = (a : Int) + 20 by omega] at hc
      have HC := Lib.hid hc
      clear hc
      go_wp2_with fail
      refine HC.out.mono ?_
      rintro e w2 ⟨rfl, s2⟩
      have S2 : Aside _ := s2
      clear s2 HC
      go_wp2
      go_roundg (n - (a + 20))
      case measure => omega
      case rel =>
        obtain ⟨q, hq, hb⟩ := HB.out
        have hst := hb.step hS (by omega) (by rw [HN.out]; exact Nat.le_refl _) (show q * 20 ≤ a + 20 by omega) hlt (by omega)
        rw [show a + 20 = (q + 1) * 20 by omega] at hst
        refine ⟨a + 20, insertionSort (ltOf cf) dk a (a + 20), by go_num, by go_num, hlt, Nat.le_refl _, ?_, S2, q + 1, by omega, ?_⟩
        · show n = _; rw [← HN.out]; have := hst.perm.1; rw [hq, show q * 20 + 20 = (q + 1) * 20 by omega]; exact this.symm
        · rw [hq, show q * 20 + 20 = (q + 1) * 20 by omega]; exact hst
    · have hltz : ¬ (a : Int) + 20 ≤ (n : Int) := by omega
      have HC := Lib.hid (HIN.out a n dk wr S1 HZ.out han (Nat.le_refl _))
      go_wp2_with fail
      refine HC.out.mono ?_
      rintro e w2 ⟨rfl, s2⟩
      have S2 : Aside _ := s2
      clear s2 HC
      obtain ⟨dm, hdm⟩ : ∃ dm, dm = insertionSort (ltOf cf) dk a n := ⟨_, rfl⟩
      rw [← hdm] at S2
      have HM : Aside (PermIn 0 n d dm ∧ Blk (ltOf cf) tg 20 n dm) := by
        obtain ⟨q, hq, hb⟩ := HB.out
        have hst := hb.step hS (by omega) (by rw [HN.out]; exact Nat.le_refl _) (show q * 20 ≤ n by omega) (Nat.le_refl _) (by omega)
        rw [← hq, ← hdm] at hst
        exact ⟨hst.perm, hst.done⟩
      clear hdm HB S1 HZ
      go_wp2_with fail
      go_loopg [6] n (fun kx s6 wr => ∃ (bs : Nat) (dk : Array α), s6 = .int .i64 bs ∧ 0 < bs ∧ bs ≤ 2 * n + 20 ∧ n - bs ≤ kx ∧ Aside (SW enc w0 blk off (dk) (wr)) ∧ Aside (PermIn 0 n d dk ∧ Blk (ltOf cf) tg bs n dk))
      case atStart => exact ⟨20, dm, rfl, by omega, by omega, by omega, S2, HM⟩
      case round =>
        clear S2 HM hltz hlt han hkx
        obtain ⟨bs, dk2, rfl, hb0, hbn, hkx, S3, HB⟩ := hrel
        by_cases hlt2 : bs < n
        · have hlt2z : (bs : Int) < (n : Int) := by omega
          go_wp2_with fail
          go_loopg [7, 8] n (fun kx s7 s8 wr => ∃ (a : Nat) (dk : Array α), s7 = .int .i64 a ∧ s8 = .int .i64 ((a : Int) + 2 * (bs : Int)) ∧ a ≤ n ∧ n - a ≤ kx ∧ Aside (SW enc w0 blk off (dk) (wr)) ∧ Aside (∃ q, a = q * (bs * 2) ∧ BlkB (ltOf cf) tg bs n (q * (bs * 2)) d dk))
          case atStart => exact ⟨0, dk2, rfl, by go_num, Nat.zero_le _, by omega, S3, 0, by omega, by simpa using BlkB.start HB.out.1 HB.out.2⟩
          case round =>
            clear S3 HB
            obtain ⟨a, dk, rfl, rfl, han, hkx2, S1, HB⟩ := hrel
            have HZ : Aside (n = dk.size) := by
              obtain ⟨q, hq, hb⟩ := HB.out
              show n = _; rw [← HN.out]; exact hb.perm.1.symm
            by_cases hlt : a + 2 * bs ≤ n
            · have hltz : (a : Int) + 2 * (bs : Int) ≤ (n : Int) := by omega
              have hc := HSY.out a (a + bs) (a + 2 * bs) dk wr S1 HZ.out (by omega) (by omega) hlt (by
                obtain ⟨q, hq, hb⟩ := HB.out
                have e3 : (q + 1) * (bs * 2) = q * (bs * 2) + bs * 2 := by rw [Nat.add_mul, Nat.one_mul]
                rw [hq]; exact hb.pre hb0 (by omega) (by omega) (by omega))
              rw [show ((a + bs : Nat) : Int) = (a : Int) + (bs : Int) by omega, show ((a + 2 * bs : Nat) : Int) = (a : Int) + 2 * (bs : Int) by omega] at hc
              have HC := Lib.hid hc
              clear hc
              go_wp2_with fail
              refine HC.out.mono ?_
              rintro e w2 ⟨rfl, d2, p2, so2, s2⟩
              have S2 : Aside _ := s2
              have HP2 : Aside _ := p2
              have HO2 : Aside _ := so2
              clear s2 HC p2 so2
              go_wp2
              go_roundg (n - (a + 2 * bs))
              case measure => omega
              case rel =>
                obtain ⟨q, hq, hb⟩ := HB.out
                have e3 : (q + 1) * (bs * 2) = q * (bs * 2) + bs * 2 := by rw [Nat.add_mul, Nat.one_mul]
                have hp2 := HP2.out
                have ho2 := HO2.out
                rw [show a + 2 * bs = (q + 1) * (bs * 2) by omega, hq] at hp2 ho2
                have hst := hb.step (b := (q + 1) * (bs * 2)) hb0 (by rw [HN.out]; exact Nat.le_refl _) (by omega) (by omega) (Nat.le_refl _) hp2 ho2
                exact ⟨a + 2 * bs, d2, by go_num, by go_num, hlt, Nat.le_refl _, S2, q + 1, by omega, hst⟩
            · have hltz : ¬ (a : Int) + 2 * (bs : Int) ≤ (n : Int) := by omega
              by_cases hm : a + bs < n
              · have hmz : (a : Int) + (bs : Int) < (n : Int) := by omega
                have hc := HSY.out a (a + bs) n dk wr S1 HZ.out (by omega) (by omega) (Nat.le_refl _) (by
                  obtain ⟨q, hq, hb⟩ := HB.out
                  have e3 : (q + 1) * (bs * 2) = q * (bs * 2) + bs * 2 := by rw [Nat.add_mul, Nat.one_mul]
                  rw [hq]; exact hb.pre hb0 (by omega) (by omega) (by omega))
                rw [show ((a + bs : Nat) : Int) = (a : Int) + (bs : Int) by omega] at hc
                have HC := Lib.hid hc
                clear hc
                go_wp2_with fail
                refine HC.out.mono ?_
                rintro e w2 ⟨rfl, d2, p2, so2, s2⟩
                have S2 : Aside _ := s2
                have HP2 : Aside _ := p2
                have HO2 : Aside _ := so2
                clear s2 HC p2 so2
                go_wp2
                go_roundg (n - bs * 2)
                case measure => omega
                case rel =>
                  obtain ⟨q, hq, hb⟩ := HB.out
                  have e3 : (q + 1) * (bs * 2) = q * (bs * 2) + bs * 2 := by rw [Nat.add_mul, Nat.one_mul]
                  have hp2 := HP2.out
                  have ho2 := HO2.out
                  rw [hq] at hp2 ho2
                  have hst := hb.step (b := n) hb0 (by rw [HN.out]; exact Nat.le_refl _) (by omega) (Nat.le_refl _) (by omega) hp2 ho2
                  exact ⟨bs * 2, d2, by go_num, by omega, by omega, Nat.le_refl _, S2, hst.perm, hst.done (Nat.le_refl _)⟩
              · have hmz : ¬ (a : Int) + (bs : Int) < (n : Int) := by omega
                go_wp2
                go_roundg (n - bs * 2)
                case measure => omega
                case rel =>
                  obtain ⟨q, hq, hb⟩ := HB.out
                  exact ⟨bs * 2, dk, by go_num, by omega, by omega, Nat.le_refl _, S1, hb.perm, hb.done1 hb0 (by omega)⟩
        · have hlt2z : ¬ (bs : Int) < (n : Int) := by omega
          go_wp2
          go_end0
          exact ⟨rfl, dk2, HB.out.1, HB.out.2.all (by omega), S3.out⟩
end Go.Proofs

/- Sorting by insertion into a list of places: plain. -/
namespace Go.Proofs
open Sc Go

def vN (i : Nat) : Value := .int .i64 (i : Int)
structure OrdTo (l : List Hist) (k : Nat) (o : List Nat) : Prop where
  perm : o.Perm ((List.range k).filter (wroteAt l))
  sorted : o.Pairwise (fun i j => ordLe l i j = true)
theorem OrdTo.start (l : List Hist) : OrdTo l 0 [] := ⟨List.Perm.refl _, List.Pairwise.nil⟩
theorem OrdTo.lt {l : List Hist} {k : Nat} {o : List Nat} (h : OrdTo l k o) : ∀ i ∈ o, i < k := fun i hi => by
  have := h.perm.mem_iff.1 hi
  simpa using (List.mem_filter.1 this).1
theorem OrdTo.skip {l : List Hist} {k : Nat} {o : List Nat} (h : OrdTo l k o) (hw : wroteAt l k = false) : OrdTo l (k + 1) o := by
  refine ⟨?_, h.sorted⟩
  rw [List.range_succ, List.filter_append]
  simpa [hw] using h.perm
theorem OrdTo.put {l : List Hist} {k : Nat} {o : List Nat} (h : OrdTo l k o) (hw : wroteAt l k = true) {a : Nat} (ha : a ≤ o.length)
    (c1 : a = 0 ∨ timeAt l (o.getD (a - 1) 0) ≤ timeAt l k) (c2 : ∀ j, a ≤ j → ∀ hj : j < o.length, timeAt l k < timeAt l o[j]) : OrdTo l (k + 1) (o.take a ++ k :: o.drop a) := by
  refine ⟨?_, ?_⟩
  · rw [List.range_succ, List.filter_append]
    have e : [k].filter (wroteAt l) = [k] := by simp [hw]
    rw [e]
    refine List.perm_middle.trans ?_
    rw [List.take_append_drop]
    exact (List.perm_append_singleton k o).symm.trans (h.perm.append_right [k])
  · have hs := h.sorted
    have hs' : (o.take a ++ o.drop a).Pairwise (fun i j => ordLe l i j = true) := by rw [List.take_append_drop]; exact hs
    rw [List.pairwise_append] at hs' ⊢
    obtain ⟨s1, s2, s3⟩ := hs'
    refine ⟨s1, List.pairwise_cons.2 ⟨fun j hj => ?_, s2⟩, fun i hi j hj => ?_⟩
    · obtain ⟨q, hq, rfl⟩ := List.getElem_of_mem hj
      rw [List.getElem_drop]
      have hq' : a + q < o.length := by rw [List.length_drop] at hq; omega
      have := c2 (a + q) (by omega) hq'
      unfold ordLe; rw [decide_eq_true_eq]; exact Or.inl this
    · rcases List.mem_cons.1 hj with rfl | hj
      · obtain ⟨q, hq, rfl⟩ := List.getElem_of_mem hi
        rw [List.getElem_take]
        have hq' : q < a ∧ q < o.length := by rw [List.length_take] at hq; omega
        have hlt : o[q] < j := h.lt _ (List.getElem_mem hq'.2)
        have h1 : timeAt l (o.getD (a - 1) 0) ≤ timeAt l j := c1.resolve_left (by omega)
        have e1 : o.getD (a - 1) 0 = o[a - 1]'(by omega) := by simp [show a - 1 < o.length by omega]
        rw [e1] at h1
        have h2 : timeAt l o[q] ≤ timeAt l (o[a - 1]'(by omega)) := by
          rcases Nat.lt_or_ge q (a - 1) with hh | hh
          · have := List.pairwise_iff_getElem.1 hs q (a - 1) hq'.2 (by omega) hh
            unfold ordLe at this; rw [decide_eq_true_eq] at this; omega
          · have hqa : q = a - 1 := by omega
            subst hqa; exact Int.le_refl _
        unfold ordLe; rw [decide_eq_true_eq]; omega
      · exact s3 i hi j hj
theorem OrdTo.done {l : List Hist} {o : List Nat} (h : OrdTo l l.length o) : o = ordI l := ordI_unique h.perm h.sorted
theorem OrdTo.len {l : List Hist} {k : Nat} {o : List Nat} (h : OrdTo l k o) : o.length ≤ k := by
  rw [h.perm.length_eq]
  exact Nat.le_trans (List.length_filter_le _ _) (by simp)
theorem shift_get (os : List Nat) (q g : Nat) (h : q < os.length) : ((os.take (q + 1) ++ g :: os.drop (q + 1)).map vN)[q]? = some (vN (os[q])) := by
  rw [List.getElem?_map, List.getElem?_append_left (by rw [List.length_take]; omega), List.getElem?_take, if_pos (by omega), List.getElem?_eq_getElem h]; rfl
theorem shift_set (os : List Nat) (q g : Nat) (h : q < os.length) : ((os.take (q + 1) ++ g :: os.drop (q + 1)).map vN).set (q + 1) (vN (os[q])) = (os.take q ++ os[q] :: os.drop q).map vN := by
  rw [← List.map_set]
  congr 1
  rw [List.set_append_right _ _ (by rw [List.length_take]; omega)]
  have e : q + 1 - (os.take (q + 1)).length = 0 := by rw [List.length_take]; omega
  rw [e, List.set_cons_zero, List.take_succ_eq_append_getElem h, List.append_assoc, List.drop_eq_getElem_cons h]
  rfl
theorem end_set (os : List Nat) (a g k : Nat) (h : a ≤ os.length) : ((os.take a ++ g :: os.drop a).map vN).set a (vN k) = (os.take a ++ k :: os.drop a).map vN := by
  rw [← List.map_set]
  congr 1
  rw [List.set_append_right _ _ (by rw [List.length_take]; omega)]
  have e : a - (os.take a).length = 0 := by rw [List.length_take]; omega
  rw [e, List.set_cons_zero]
theorem put_len (os : List Nat) (a k : Nat) (h : a ≤ os.length) : (os.take a ++ k :: os.drop a).length = os.length + 1 := by
  rw [List.length_append, List.length_take, List.length_cons, List.length_drop]; omega
theorem first_row (os : List Nat) : os.map vN ++ [.int .i64 0] = (os.take os.length ++ 0 :: os.drop os.length).map vN := by
  rw [List.take_length, List.drop_length, List.map_append]; rfl
end Go.Proofs

/- scarpref20.Order: those that wrote, by rising Time. -/
namespace Go.Proofs
open Go.RowKit Sc

theorem SlAt.one {α : Type} {G : Nat → Prop} {k : Nat} {E : Elem α} {w : World} {p : Option Addr} {n c : Nat} {l : List α} (h : SlAt G k E w (.slice p n c) l) : ∃ b o, ∀ i (h : i < l.length), p = some ⟨b, o, none⟩ ∧ G b ∧ E w b (o + i * k) l[i] := by
  rcases h.base with ⟨rfl, _⟩ | ⟨b, o, c', e, _, _, _, h1, h2⟩
  · exact ⟨0, 0, fun i hi => absurd hi (Nat.not_lt_zero _)⟩
  · cases e
    exact ⟨b, o, fun i hi => ⟨rfl, h1, h2 i hi⟩⟩
set_option maxHeartbeats 1000000 in
theorem wrote20_any (st bg tm fr up : Int) (rp pp : Option Addr) (rn rc pn pc : Nat) (w : World) (hpn : pn ≤ 9223372036854775807) :
    Calls Try.prog 72 #[.agg #[.int .i64 st, .int .i64 bg, .int .i64 tm, .int .i64 fr, .int .i64 up, .slice rp rn rc, .slice pp pn pc]] w fun e w' => e = .returned (.bool (decide (st = 3) && decide (0 < pn))) ∧ Below w.heap.size w w' := by
  by_cases h1 : st = 3
  · subst h1
    by_cases h2 : 0 < pn
    · have h2' : (0 : Int) < (pn : Int) := by omega
      rw [decide_eq_true h2]
      go_enter Try.func72, Try.ntmps72
      go_wp2
      go_ret
      exact ⟨rfl, below_alloc _ _⟩
    · have h2' : ¬ (0 : Int) < (pn : Int) := by omega
      rw [decide_eq_false h2]
      go_enter Try.func72, Try.ntmps72
      go_wp2
      go_ret
      exact ⟨rfl, below_alloc _ _⟩
  · have h1' : (st == 3) = false := by rw [beq_eq_false_iff_ne]; exact h1
    rw [decide_eq_false h1]
    go_enter Try.func72, Try.ntmps72
    go_wp2
    go_ret
    exact ⟨rfl, below_alloc _ _⟩
theorem Sep.row_fresh {W w : World} {L : List Asn} (h : Sep W (OldA W :: L) w) (i : Nat) {T k n : Nat} {v : Value} {xs : List Value} (hi : L[i]? = some (RowA T k v n xs)) : w.ownsRow W.heap.size T k v n xs := by
  obtain ⟨F, G, h1, h2, hd, _⟩ := h.two (i + 1) 0 (by omega) (A := RowA T k v n xs) (B := OldA W) hi rfl
  refine ⟨h1.1.1, h1.1.2.imp id fun ⟨g, cap, cur, e1, _, e2⟩ => ⟨g, cap, cur, e1, ?_, e2⟩⟩
  rcases Nat.lt_or_ge g W.heap.size with hh | hh
  · exact absurd (h2.1 g hh) (hd g (h1.2 g (by rw [e1]; rfl)))
  · exact hh
def OrderSaid (l : List Hist) (w : World) (e : Ending) (w' : World) : Prop := ∃ v, e = .returned v ∧ IntsAt (New w w') w' v ((ordI l).map fun i : Nat => (i : Int)) ∧ Below w.heap.size w w'
set_option maxRecDepth 100000 in
set_option maxHeartbeats 8000000 in
theorem refOrder_any (G : Nat → Prop) (v : Value) (l : List Hist) (w : World) (hv : HistsAt G w v l) (hl : l.length ≤ 1000) :
    Calls Try.prog 55 #[v] w (OrderSaid l w) := by
  have hv' := hv
  obtain ⟨p, c, rfl, h1, h2, h3, h4⟩ := hv
  obtain ⟨b, o, hC⟩ := SlAt.one (E := histE G) (k := 7) hv'
  have HC := Lib.hid hC
  clear h1 h2 h3 h4 hC hv'
  have hS0 := (Sep.start w).new (Below.refl _ _) (RowA 3 1 (.slice none 0 0) 0 []) (F := fun _ => False) (fun _ h => h.elim) ⟨World.ownsRow_nil _ _ _ _, by simp [Value.ownBlock]⟩
  have HS0 := Lib.hid hS0
  clear hS0
  go_enter Try.func55, Try.ntmps55
  go_wp2_with fail
  go_loopw [3, 4] (fun s3 s4 wr => ∃ k n : Nat, ∃ po co, ∃ os : List Nat, k ≤ l.length ∧ n ≤ k ∧ s4 = .int .i64 k ∧ s3 = .slice po n co ∧ Hid (os.length = n ∧ OrdTo l k os) ∧ Hid (Sep w [OldA w, RowA 3 1 (.slice po n co) n (os.map vN)] wr)) (fun _ i _ => l.length - (intOf i).toNat)
  case atStart => exact ⟨0, 0, none, 0, [], Nat.zero_le _, Nat.le_refl _, rfl, rfl, ⟨rfl, OrdTo.start l⟩, HS0.out⟩
  case round =>
    obtain ⟨k, n, po, co, os, hk, hnk, rfl, rfl, HO, HS⟩ := hrel
    clear HS0
    by_cases hlt : k < l.length
    case neg =>
      have hkl : k = l.length := by omega
      have HKL := Lib.hid hkl
      clear hkl
      go_wp2
      go_ret
      refine ⟨_, rfl, ?_, HS.out.old⟩
      have ho := HO.out.2
      rw [HKL.out] at ho
      have e := ho.done
      have hlen := HO.out.1
      have hrow := Sep.row_fresh HS.out 0 rfl
      rw [e] at hrow hlen
      have hmap : (ordI l).map vN = ((ordI l).map fun i : Nat => (i : Int)).map (Value.int .i64) := by rw [List.map_map]; rfl
      rw [hmap] at hrow
      refine intsAt_own (New w _) (by rw [List.length_map]; exact hlen) (fun x hx => ?_) (fun q h1 h2 => ⟨h1, h2⟩) hrow
      obtain ⟨i, hi, rfl⟩ := List.mem_map.1 hx
      obtain ⟨hi', _⟩ := mem_ordI.1 hi
      unfold I64; omega
    case pos =>
      obtain ⟨rfl, _, hc0, hc1, hc2, hc3, hc4, hi, ⟨rv, hc5, hrd⟩, pv, hc6, hpd⟩ := HC.out k hlt
      obtain ⟨rp, rc, rfl, hr1, hr2, hr3, hr4⟩ := hrd
      obtain ⟨pp, pc, rfl, hp1, hp2, hp3, hp4⟩ := hpd
      clear hr3 hr4 hp3 hp4
      have ht := timeAt_lt hlt
      have hw : wroteAt l k = (decide (l[k].state = 3) && decide (0 < l[k].puts.length)) := by unfold wroteAt; rw [List.getElem?_eq_getElem hlt]; rfl
      have hup := HS.out.old
      replace hc0 := cell_up hup hc0
      replace hc1 := cell_up hup hc1
      replace hc2 := cell_up hup hc2
      replace hc3 := cell_up hup hc3
      replace hc4 := cell_up hup hc4
      replace hc5 := cell_up hup hc5
      replace hc6 := cell_up hup hc6
      generalize l[k].state = st at *
      generalize l[k].begun = bg at *
      generalize l[k].time = tm at *
      generalize l[k].since = fr at *
      generalize l[k].upto = up at *
      generalize l[k].reads.length = rn at *
      generalize l[k].puts.length = pn at *
      have hwr := fun W => wrote20_any st bg tm fr up rp pp rn rc pn pc W (by omega)
      obtain ⟨q, hq⟩ : ∃ q, q = (decide (st = 3) && decide (0 < pn)) := ⟨_, rfl⟩
      rw [← hq] at hw hwr
      have HWR := Lib.hid hwr
      have HW := Lib.hid hw
      have HT := Lib.hid ht
      have HUP := Lib.hid hup
      have HQ := Lib.hid hq
      clear hwr hw ht hup hq
      clear hi hr1 hr2 hp1 hp2
      cases q with
      | false =>
        go_wp2_with fail
        refine (HWR.out _).mono ?_
        rintro e w1 ⟨rfl, hb1⟩
        have hS1 := HS.out.up hb1
        have HB1 := Lib.hid hb1
        have HS1 := Lib.hid hS1
        clear hb1 hS1
        go_wp2_with fail
        go_roundw
        case rel => exact ⟨k + 1, n, po, co, os, by omega, by omega, by go_num, rfl, ⟨HO.out.1, HO.out.2.skip HW.out⟩, HS1.out⟩
        case measure => simp [intOf]; omega
      | true =>
        go_wp2_with fail
        refine (HWR.out _).mono ?_
        rintro e w1 ⟨rfl, hb1⟩
        have hS1 := HS.out.up hb1
        have hk2 := cell_up hb1 hc2
        have HB1 := Lib.hid hb1
        have HS1 := Lib.hid hS1
        clear hb1 hS1
        clear hc0 hc1 hc2 hc3 hc4 hc5 hc6
        go_wp2_with fail
        go_loopw [5] (fun s5 wr => ∃ a : Nat, s5 = .int .i64 a ∧ a ≤ n ∧ Hid (∀ j, a ≤ j → ∀ hj : j < os.length, timeAt l k < timeAt l os[j]) ∧ Hid (Sep w [OldA w, RowA 3 1 (.slice po n co) n (os.map vN)] wr) ∧ Hid (wr.cell? ⟨b, o + k * 7 + 2, none⟩ = some (.int .i64 tm))) (fun i _ => (intOf i).toNat)
        case atStart => exact ⟨n, rfl, Nat.le_refl _, fun j h1 hj => absurd hj (by have := HO.out.1; omega), HS1.out, hk2⟩
        case round =>
          obtain ⟨a, rfl, han, HA, HS2, HK2⟩ := hrel
          have hck := HK2.out
          clear HS1 HS
          by_cases ha0 : a = 0
          case' pos =>
            have hcond : Hid (a = 0 ∨ timeAt l (os.getD (a - 1) 0) ≤ timeAt l k) := Or.inl ha0
            have haz : ¬ (0 : Int) < (a : Int) := by omega
            have hazd : decide (0 < a) = false := decide_eq_false (by omega)
            have hazn : ¬ 0 < a := by omega
            clear ha0
            go_wp2_with fail
            go_quiet (fail)
          case' neg =>
            obtain ⟨a', ha'⟩ : ∃ a', a' + 1 = a := ⟨a - 1, by omega⟩
            have haz : (0 : Int) < (a : Int) := by omega
            have hazn : 0 < a := by omega
            have ham : (a : Int) - 1 = (a' : Int) := by omega
            obtain ⟨F2, hF2, _⟩ := HS2.out.get 1 rfl
            obtain ⟨gr, cr, he, _⟩ := hF2.1.form (by omega)
            cases he
            clear hF2
            have hon := HO.out.1
            have hao : a' < os.length := by omega
            have hrc := (HS2.out.row_cell 1 rfl a' (by omega)).1
            rw [List.getElem?_map, List.getElem?_eq_getElem hao, Option.map_some] at hrc
            have hx := HO.out.2.lt _ (List.getElem_mem hao)
            have hga : os.getD (a - 1) 0 = os[a'] := by rw [show a - 1 = a' by omega]; simp [hao]
            have hxl : os[a'] < l.length := by omega
            obtain ⟨hy0, hy1, hy2, hy3, hxc, hy4⟩ := HC.out os[a'] hxl
            clear hy0 hy1 hy2 hy3 hy4
            have hxt := timeAt_lt hxl
            replace hxc := cell_up HS2.out.old hxc
            have HAN : Hid (∀ j, a' ≤ j → ∀ hj : j < os.length, timeAt l k < timeAt l os[a'] → timeAt l k < timeAt l os[j]) := fun j h1 hj h2 => by
              by_cases e : j = a'
              · subst e; exact h2
              · exact HA.out j (by omega) hj
            have HTX : Hid (timeAt l (os.getD (a - 1) 0) = l[os[a']].time) := by rw [hga]; exact hxt
            rw [hxt] at HAN
            clear hga hxt
            generalize l[os[a']].time = tx at *
            generalize os[a'] = x at *
            unfold vN at hrc
            by_cases htt : tm < tx
            · go_wp2_with fail
              go_quiet (fail)
              go_wp2_with fail
              go_roundw
              case rel => exact ⟨a', by go_num, by omega, fun j h1 hj => HAN.out j h1 hj (by rw [HT.out]; exact htt), HS2.out.up (below_drewN (Below.refl _ _) _), HK2.out⟩
              case measure => simp [intOf]; omega
            have htn : decide (tm < tx) = false := decide_eq_false htt
            have hcond : Hid (a = 0 ∨ timeAt l (os.getD (a - 1) 0) ≤ timeAt l k) := Or.inr (by rw [HTX.out, HT.out]; omega)
            go_wp2_with fail
            go_quiet (fail)
            clear HTX HAN hxc hrc hx hxl hao
          all_goals
            have HS8 := Lib.hid (HS2.out.up (below_drewN (Below.refl _ _) nq))
            have HK8 : Hid ((wr.drewN nq).cell? ⟨b, o + k * 7 + 2, none⟩ = some (.int .i64 tm)) := HK2.out
            clear HS2 HK2 hck
            clear haz hazn
            obtain ⟨FA, hFA, _⟩ := HS8.out.get 1 rfl
            have hrowA := hFA.1
            obtain ⟨iiA, hiiA, hizA, hiyA, hixA⟩ := info_parts infoInt
            have HROWA := Lib.hid hrowA
            clear hFA hrowA
            go_wp2_with (at_builtin; refine wpList_append_lies _ rfl _ _ 60 rfl 0 3 iiA (.int .i64 0) 1 8 Try.underlying60 hiiA hizA hiyA hixA rfl (by decide) _ (n) (os.map vN) rfl (HROWA.out.alloc _) ⟨(wr.drewN nq).heap.size, 0, none⟩ 1 1 [.int .i64 0] rfl rfl (World.news_of_block (cs := #[.int .i64 0]) (heap_alloc_new (wr.drewN nq) _)) (by simp [Value.oneCell']) (by decide) (by unfold maxLen; omega) (by omega) (Nat.zero_le _) ((wr.drewN nq).heap.size + 1) (by simp) ?_; intro gA cA wA hownA hgrowA hatA hltA)
            have hSA := HS8.out.row_app 1 rfl (below_alloc _ _) hownA hgrowA hatA (by simp) hltA
            clear hownA hgrowA hatA hltA hiiA hizA hiyA hixA
            obtain ⟨W8, rfl⟩ : ∃ W8 : World, W8 = wr := ⟨_, rfl⟩
            have hcsA : os.map vN ++ [.int .i64 0] = (os.take n ++ 0 :: os.drop n).map vN := by rw [← HO.out.1]; exact first_row os
            rw [hcsA] at hSA
            have HSA := Lib.hid hSA
            clear hSA
            clear hcsA
            go_wp2_with fail
            go_loopw [6] (fun s6 wr => ∃ q g : Nat, s6 = .int .i64 q ∧ a ≤ q ∧ q ≤ n ∧ Hid (Sep w [OldA w, RowA 3 1 (.slice (some ⟨gA, 0, none⟩) (n + 1) cA) (n + 1) ((os.take q ++ g :: os.drop q).map vN)] wr)) (fun i _ => (intOf i).toNat)
            case atStart => exact ⟨n, 0, by go_num, han, Nat.le_refl _, HSA.out⟩
            case round =>
              obtain ⟨q, g, rfl, haq, hqn, HS9⟩ := hrel
              clear HSA HS8
              by_cases hqa : a < q
              · obtain ⟨q', rfl⟩ : ∃ q', q = q' + 1 := ⟨q - 1, by omega⟩
                have hqz : ((q' + 1 : Nat) : Int) - 1 = (q' : Int) := by omega
                have hqw : IntKind.i64.wrap (q' : Int) = (q' : Int) := by rw [IntKind.wrap_i64]; omega
                have hon := HO.out.1
                have hqo : q' < os.length := by omega
                have hrc := (HS9.out.row_cell 1 rfl q' (by omega)).1
                rw [shift_get os q' g hqo] at hrc
                have hst := HS9.out.row_cell 1 rfl (q' + 1) (by omega)
                have hst0 : ∃ u, ((os.take (q' + 1) ++ g :: os.drop (q' + 1)).map vN)[q' + 1]? = some u := ⟨_, List.getElem?_eq_getElem (by rw [List.length_map, put_len _ _ _ (by omega)]; omega)⟩
                obtain ⟨u, hu⟩ := hst0
                obtain ⟨hst1, hst2⟩ := hst
                rw [hu] at hst1
                have hS10 := HS9.out.row_set 1 rfl (q' + 1) (vN os[q'])
                rw [shift_set os q' g hqo] at hS10
                have hqe : (((q' + 1 : Nat) : Int)).toNat = q' + 1 := by omega
                unfold vN at hrc
                have hvn : vN os[q'] = .int .i64 (os[q'] : Int) := rfl
                rw [hvn] at hS10
                have HX : Hid (∃ x, x = os[q']) := ⟨_, rfl⟩
                generalize os[q'] = x at hrc hS10
                have HS10 := Lib.hid hS10
                clear hS10
                clear hu hvn HX
                go_wp2_with fail
                go_roundw
                case rel => exact ⟨q', x, by go_num, by omega, by omega, HS10.out⟩
                case measure => simp [intOf] <;> omega
              · obtain rfl : q = a := by omega
                have hst := HS9.out.row_cell 1 rfl q (by omega)
                have hst0 : ∃ u, ((os.take q ++ g :: os.drop q).map vN)[q]? = some u := ⟨_, List.getElem?_eq_getElem (by rw [List.length_map, put_len _ _ _ (by have := HO.out.1; omega), HO.out.1]; omega)⟩
                obtain ⟨u, hu⟩ := hst0
                obtain ⟨hst1, hst2⟩ := hst
                rw [hu] at hst1
                have hS10 := HS9.out.row_set 1 rfl q (vN k)
                rw [end_set os q g k (by have := HO.out.1; omega)] at hS10
                unfold vN at hS10
                have HO10 : Hid ((os.take q ++ k :: os.drop q).length = n + 1 ∧ OrdTo l (k + 1) (os.take q ++ k :: os.drop q)) :=
                  ⟨by rw [put_len _ _ _ (by have := HO.out.1; omega), HO.out.1], HO.out.2.put HW.out (by have := HO.out.1; omega) hcond.out HA.out⟩
                have hqq : ¬ (q : Int) < (q : Int) := by omega
                have HS10 := Lib.hid hS10
                clear hS10
                clear hu
                go_wp2_with fail
                go_roundw
                case rel => exact ⟨k + 1, n + 1, _, _, _, by omega, by omega, by go_num, rfl, HO10, HS10.out⟩
                case measure => simp [intOf]; omega
end Go.Proofs

/- slices.SortStableFunc over the numbers of histories, by their times: what it leaves. -/
namespace Go.Proofs
open Go.RowKit Sc Go.Shelf Go.Sort

/-- A history's number, and its place among those that wrote. -/
structure OI (n : Nat) where
  ix : Nat
  tag : Nat
  lt : ix < n
instance instOIInh {n : Nat} [NeZero n] : Inhabited (OI n) := ⟨⟨0, 0, Nat.pos_of_ne_zero (NeZero.ne n)⟩⟩
def encO {n : Nat} (x : OI n) : Value := .int .i64 x.ix
def cmpI (l : List Hist) (x y : OI l.length) : Int := Lib.compareInt (timeAt l x.ix) (timeAt l y.ix)
theorem ltI (l : List Hist) (x y : OI l.length) : ltOf (cmpI l) x y = decide (timeAt l x.ix < timeAt l y.ix) := by
  unfold ltOf cmpI Lib.compareInt
  by_cases h1 : timeAt l x.ix < timeAt l y.ix
  · simp [h1]
  · by_cases h2 : timeAt l y.ix < timeAt l x.ix <;> simp [h1, h2]
theorem swoI (l : List Hist) : Sort.SWO (ltOf (cmpI l)) where
  irrefl x := by rw [ltI]; simp
  trans x y z h1 h2 := by rw [ltI] at *; simp at *; omega
  ntrans x y z h1 h2 := by rw [ltI] at *; simp at *; omega
set_option maxRecDepth 100000 in
set_option maxHeartbeats 1000000 in
theorem orderC_any (G : Nat → Prop) (l : List Hist) (bx : Nat) (p : Option Addr) (c : Nat) (x y : OI l.length) (W : World) (hbx : W.cell? ⟨bx, 0, none⟩ = some (.slice p l.length c)) (hv : HistsAt G W (.slice p l.length c) l) (_hl : l.length ≤ 1000) :
    Calls Try.prog 62 (#[encO x, encO y] ++ #[.pointer (some ⟨bx, 0, none⟩)]) W fun e w' => e = .returned (.int .i64 (cmpI l x y)) ∧ ∃ q os', w' = Sort.grow (W.drewN q) os' := by
  obtain ⟨b, o, hC⟩ := SlAt.one (E := histE G) (k := 7) hv
  obtain ⟨rfl, -, -, -, hcx, -⟩ := hC x.ix x.lt
  obtain ⟨-, -, -, -, hcy, -⟩ := hC y.ix y.lt
  have hx := x.lt
  have hy := y.lt
  have hxt := timeAt_lt hx
  have hyt := timeAt_lt hy
  rw [← hxt] at hcx
  rw [← hyt] at hcy
  clear hxt hyt hv hC
  have hcon := fun W' => AnyG.cmp_Compare_int Try.cmpInt (timeAt l x.ix) (timeAt l y.ix) W'
  change ∀ W', Calls Try.prog 50 _ _ _ at hcon
  change ∀ W', Calls Try.prog 50 _ W' (fun e w' => e = .returned (.int .i64 (cmpI l x y)) ∧ w' = W') at hcon
  show Calls Try.prog 62 #[.int .i64 x.ix, .int .i64 y.ix, .pointer (some ⟨bx, 0, none⟩)] W _
  generalize cmpI l x y = r at hcon ⊢
  generalize timeAt l x.ix = tx at *
  generalize timeAt l y.ix = ty at *
  generalize x.ix = i at *
  generalize y.ix = j at *
  have HC := Lib.hid hcon
  clear hcon
  go_enter Try.func62, Try.ntmps62
  go_wp2_with fail
  go_region_law ((first
    | (go_simp
       go_at_call 50
       refine (HC.out _).mono ?_
       rintro e w' ⟨rfl, rfl⟩)))
  all_goals
    go_wp2_with fail
    go_ret
    exact ⟨rfl, 1, #[], by rw [grow_empty]; rfl⟩
section
variable {α : Type} [Inhabited α]
theorem chg_sw {enc : α → Value} {w w' : World} {blk : Nat} {d : Array α} (h : SW enc w blk 0 d w') : Chg (fun b => b = blk) w w' := by
  obtain ⟨n, os, rfl⟩ := h
  refine ⟨rfl, rfl, rfl, ?_, fun k hk hne => ?_⟩
  · simp [sortWorld, Sort.putRow, Sort.mapBlock, Sort.grow, Sort.ahead]
  · unfold sortWorld
    rw [Sort.heap_grow_old _ _ (by simpa [Sort.putRow, Sort.mapBlock, Sort.ahead] using hk)]
    have : blk ≠ k := fun e => hne e.symm
    simp [Sort.putRow, Sort.mapBlock, Sort.ahead, Array.getElem?_modify, this]
end
section
variable {l : List Hist} [NeZero l.length]
theorem insInt_w (cf : OI l.length → OI l.length → Int) (g : Nat) (cb : Array Value) (blk off cap a b : Nat) (d0 d : Array (OI l.length)) (w0 w : World)
    (eg : ∀ args w, (callFunc g args).run Try.prog w = .ok (.enter g args) w) (hcmp : CmpLays1 Try.prog g cb encO cf blk off d0.size w0) (R : Row1 encO w0 blk off d0) (hs : d0.size = d.size) (S : SW encO w0 blk off d w) (hab : a ≤ b) (hb : b ≤ d.size) (hsz : d.size < 4611686018427387904) :
    Calls Try.prog 93 #[.slice (some ⟨blk, off, none⟩) d.size cap, .int .i64 a, .int .i64 b, .func (.func g) #[] cb] w fun e w' => e = .returned (.tuple #[]) ∧ SW encO w0 blk off (Sort.insertionSort (ltOf cf) d a b) w' :=
  Any.insertionSortCmpFunc_s Try.insInt encO cf g cb blk off cap a b d0 d w0 w eg hcmp R hs S hab hb hsz
def SortedI (d : Array (OI l.length)) (blk : Nat) (w : World) (e : Ending) (w' : World) : Prop :=
  e = .returned (.tuple #[]) ∧ ∃ d' : Array (OI l.length), d'.size = d.size ∧ d'.toList.Perm d.toList ∧ d'.toList.Pairwise (fun x y => timeAt l x.ix < timeAt l y.ix ∨ (timeAt l x.ix = timeAt l y.ix ∧ x.tag ≤ y.tag)) ∧ Holds encO w' blk 0 d' ∧ Chg (fun b => b = blk) w w'
omit [NeZero l.length] in
theorem lxI {x y : OI l.length} (h : lx (ltOf (cmpI l)) (·.tag) y x = false) : timeAt l x.ix < timeAt l y.ix ∨ (timeAt l x.ix = timeAt l y.ix ∧ x.tag ≤ y.tag) := by
  obtain ⟨h1, h2⟩ := lx_f.1 h
  rw [ltI] at h1 h2
  simp only [decide_eq_false_iff_not, decide_eq_true_eq] at h1 h2
  omega
set_option maxRecDepth 100000 in
theorem sortInt_any (G : Nat → Prop) (blk cap : Nat) (d : Array (OI l.length)) (bx : Nat) (p : Option Addr) (c : Nat) (w : World) (hH : Holds encO w blk 0 d) (hblk : blk < w.heap.size) (hl : d.size < 1073741824) (htg : ∀ i, i < d.size → d[i]!.tag = i)
    (hbx : w.cell? ⟨bx, 0, none⟩ = some (.slice p l.length c)) (hbb : bx ≠ blk) (hbs : bx < w.heap.size) (hv : HistsAt G w (.slice p l.length c) l) (hG : ∀ k, G k → k < w.heap.size ∧ k ≠ blk) (hll : l.length ≤ 1000) :
    Calls Try.prog 61 #[.slice (some ⟨blk, 0, none⟩) d.size cap, .func (.func 62) #[] #[.pointer (some ⟨bx, 0, none⟩)]] w (SortedI d blk w) := by
  have eg : ∀ args w, (callFunc 62 args).run Try.prog w = .ok (.enter 62 args) w := enters_of Try.func62 (by kernel_rfl) rfl
  have hO : OneCell (encO : OI l.length → Value) := fun x => rfl
  have R : Row1 encO w blk 0 d := ⟨hO, hH, hblk⟩
  have hc : CmpLays1 Try.prog 62 #[.pointer (some ⟨bx, 0, none⟩)] encO (cmpI l) blk 0 d.size w := fun m os dk _ x y => by
    have hch := chg_sw (enc := encO) (w := w) (w' := sortWorld encO w blk 0 m dk os) (blk := blk) (d := dk) ⟨m, os, rfl⟩
    exact orderC_any G l bx p c x y _ ((World.cell?_of_block (hch.block bx hbs hbb)).trans hbx) (HistsAt.same hv fun k hk => hch.block k (hG k hk).1 (hG k hk).2) hll
  have hcon := stableI_at encO (cmpI l) (·.tag) (swoI l) 62 #[.pointer (some ⟨bx, 0, none⟩)] blk 0 cap d w w eg hc R hl
    (fun a b dk wX SX hs hab hb => by
      have := insInt_w (cmpI l) 62 #[.pointer (some ⟨bx, 0, none⟩)] blk 0 cap a b d dk w wX eg hc R hs SX.out hab (by omega) (by omega)
      rwa [← hs] at this) (SW.start hH) htg
  have HC0 := Lib.hid hcon
  clear hcon
  go_enter Try.func61, Try.ntmps61
  go_wp2_with fail
  refine HC0.out.mono ?_
  rintro e w' ⟨rfl, d', hp, hs, hw⟩
  have HP : Aside _ := hp
  have HS : Aside _ := hs
  have HW : Aside _ := hw
  clear hp hs hw HC0
  go_wp2
  go_end0
  obtain ⟨l1, l2⟩ := sorted_list HP.out HS.out
  exact ⟨rfl, d', HP.out.1, l1, l2.imp fun h => lxI h, SW.holds HW.out hblk hH HP.out.1, chg_sw HW.out⟩
end
end Go.Proofs

/- audit.Order: the numbers of those that wrote, by rising Time. -/
namespace Go.Proofs
open Go.RowKit Sc Go.Shelf Go.Sort

set_option maxHeartbeats 1000000 in
theorem wroteA_any (st bg tm fr up : Int) (rp pp : Option Addr) (rn rc pn pc : Nat) (w : World) (hpn : pn ≤ 9223372036854775807) :
    Calls Try.prog 60 #[.agg #[.int .i64 st, .int .i64 bg, .int .i64 tm, .int .i64 fr, .int .i64 up, .slice rp rn rc, .slice pp pn pc]] w fun e w' => e = .returned (.bool (decide (st = 3) && decide (0 < pn))) ∧ Below w.heap.size w w' := by
  by_cases h1 : st = 3
  · subst h1
    by_cases h2 : 0 < pn
    · have h2' : (0 : Int) < (pn : Int) := by omega
      rw [decide_eq_true h2]
      go_enter Try.func60, Try.ntmps60
      go_wp2
      go_ret
      exact ⟨rfl, below_alloc _ _⟩
    · have h2' : ¬ (0 : Int) < (pn : Int) := by omega
      rw [decide_eq_false h2]
      go_enter Try.func60, Try.ntmps60
      go_wp2
      go_ret
      exact ⟨rfl, below_alloc _ _⟩
  · have h1' : (st == 3) = false := by rw [beq_eq_false_iff_ne]; exact h1
    rw [decide_eq_false h1]
    go_enter Try.func60, Try.ntmps60
    go_wp2
    go_ret
    exact ⟨rfl, below_alloc _ _⟩
theorem insNoneI (c : Nat) (fv : Value) (w : World) : Calls Try.prog 93 #[.slice none 0 c, .int .i64 0, .int .i64 0, fv] w fun e w' => e = .returned (.tuple #[]) ∧ w = w' := by
  go_enter Try.func93, Try.ntmps93
  go_wp2
  go_loop [8] (fun i => i = .int .i64 1) (fun _ => 0)
  case atStart => rfl
  case round =>
    subst hrel
    go_wp2
    go_end0
    exact ⟨rfl, rfl⟩
theorem stableNoneI (c : Nat) (fv : Value) (w : World) : Calls Try.prog 78 #[.slice none 0 c, .int .i64 0, fv] w fun e w' => e = .returned (.tuple #[]) ∧ w = w' := by
  go_enter Try.func78, Try.ntmps78
  go_wp2_with fail
  go_loop [7, 8] (fun i j => i = .int .i64 0 ∧ j = .int .i64 20) (fun _ _ => 0)
  case atStart => exact ⟨rfl, rfl⟩
  case round =>
    obtain ⟨rfl, rfl⟩ := hrel
    go_wp2_with fail
    refine (insNoneI c fv _).mono ?_
    rintro e w1 ⟨rfl, rfl⟩
    go_wp2_with fail
    go_loop [6] (fun i => i = .int .i64 20) (fun _ => 0)
    case atStart => rfl
    case round =>
      subst hrel
      go_wp2
      go_end0
      exact ⟨rfl, rfl⟩
theorem sortNoneI (c : Nat) (fv : Value) (w : World) : Calls Try.prog 61 #[.slice none 0 c, fv] w fun e w' => e = .returned (.tuple #[]) ∧ w = w' := by
  go_enter Try.func61, Try.ntmps61
  go_wp2_with fail
  refine (stableNoneI c fv _).mono ?_
  rintro e w1 ⟨rfl, rfl⟩
  go_wp2
  go_end0
  exact ⟨rfl, rfl⟩
/-- Those that wrote among the first. -/
def idxTo (l : List Hist) (k : Nat) : List Nat := (List.range k).filter (wroteAt l)
theorem idxTo_succ (l : List Hist) (k : Nat) : idxTo l (k + 1) = if wroteAt l k then idxTo l k ++ [k] else idxTo l k := by
  unfold idxTo
  rw [List.range_succ, List.filter_append]
  by_cases h : wroteAt l k = true
  · rw [if_pos h, List.filter_cons_of_pos h]; rfl
  · rw [if_neg h, List.filter_cons_of_neg h]; simp
theorem idx_lt {l : List Hist} {i : Nat} (h : i < (ordIdx l).length) : (ordIdx l)[i] < l.length := (mem_ordIdx.1 (List.getElem_mem h)).1
def idxArr (l : List Hist) : Array (OI l.length) := Array.ofFn (n := (ordIdx l).length) fun i => ⟨(ordIdx l)[i.val], i.val, idx_lt i.isLt⟩
theorem idxArr_size (l : List Hist) : (idxArr l).size = (ordIdx l).length := by simp [idxArr]
theorem idxArr_get (l : List Hist) (i : Nat) (h : i < (idxArr l).size) : (idxArr l)[i].ix = (ordIdx l)[i]'(by rw [← idxArr_size]; exact h) ∧ (idxArr l)[i].tag = i := by simp [idxArr]
theorem idxArr_mem {l : List Hist} {x : OI l.length} (h : x ∈ (idxArr l).toList) : x.tag < (ordIdx l).length ∧ ∃ h2 : x.tag < (ordIdx l).length, x.ix = (ordIdx l)[x.tag] := by
  obtain ⟨i, hi, rfl⟩ := List.getElem_of_mem h
  have hi' : i < (idxArr l).size := by simpa using hi
  obtain ⟨h1, h2⟩ := idxArr_get l i hi'
  rw [Array.getElem_toList]
  have hlt : (idxArr l)[i].tag < (ordIdx l).length := by rw [h2, ← idxArr_size]; exact hi'
  exact ⟨hlt, hlt, by rw [h1]; congr 1; exact h2.symm⟩
theorem idxArr_list (l : List Hist) : (idxArr l).toList.map (·.ix) = ordIdx l := by
  refine List.ext_getElem (by simp [idxArr]) fun i h1 h2 => ?_
  rw [List.getElem_map, Array.getElem_toList]
  exact (idxArr_get l i (by simpa using h1)).1
theorem sorted_idx {l : List Hist} {d' : Array (OI l.length)} (hp : d'.toList.Perm (idxArr l).toList) (hs : d'.toList.Pairwise (fun x y => timeAt l x.ix < timeAt l y.ix ∨ (timeAt l x.ix = timeAt l y.ix ∧ x.tag ≤ y.tag))) : d'.toList.map (·.ix) = ordI l := by
  refine ordI_unique ?_ ?_
  · have := hp.map (·.ix)
    rwa [idxArr_list] at this
  · rw [List.pairwise_map]
    refine (List.Pairwise.and_mem.1 hs).imp ?_
    rintro x y ⟨hx, hy, h⟩
    obtain ⟨_, hx1, hx2⟩ := idxArr_mem (hp.mem_iff.1 hx)
    obtain ⟨_, hy1, hy2⟩ := idxArr_mem (hp.mem_iff.1 hy)
    unfold ordLe
    rw [decide_eq_true_eq]
    refine h.imp id fun ⟨h4, h5⟩ => ⟨h4, ?_⟩
    rw [hx2, hy2]
    exact rising_le (ordIdx_sorted l) hx1 hy1 h5
theorem ordI_nil {l : List Hist} (h : ordIdx l = []) : ordI l = [] := by
  have := (ordI_perm l).length_eq
  rw [h] at this
  exact List.eq_nil_of_length_eq_zero this

set_option maxRecDepth 100000 in
set_option maxHeartbeats 4000000 in
theorem auditOrder_any (G : Nat → Prop) (v : Value) (l : List Hist) (w : World) (hG : Dom G w) (hv : HistsAt G w v l) (hl : l.length ≤ 1000) :
    Calls Try.prog 36 #[v] w (OrderSaid l w) := by
  have hv' := hv
  obtain ⟨p, c, rfl, h1, h2, h3, h4⟩ := hv
  obtain ⟨b, o, hC⟩ := SlAt.one (E := histE G) (k := 7) hv'
  have HC := Lib.hid hC
  have HV := Lib.hid hv'
  have HG := Lib.hid hG
  clear h1 h2 h3 h4 hC hv' hG
  obtain ⟨bx, hbx⟩ : ∃ bx, w.heap.size = bx := ⟨_, rfl⟩
  have hS0 := ((Sep.start w).new (below_alloc w (.cells #[.slice p l.length c] 42)) (BoxA w.heap.size #[.slice p l.length c] 42) (F := New w (w.alloc (.cells #[.slice p l.length c] 42))) (fun _ h => h) ⟨⟨Nat.le_refl _, by simp⟩, heap_alloc_new w _⟩).new (Below.refl _ _) (RowA 3 1 (.slice none 0 0) 0 []) (F := fun _ => False) (fun _ h => h.elim) ⟨World.ownsRow_nil _ _ _ _, by simp [Value.ownBlock]⟩
  rw [hbx] at hS0
  have HB := Lib.hid hbx
  have HS0 := Lib.hid hS0
  clear hS0
  go_enter Try.func36, Try.ntmps36
  go_wp2_with fail
  go_loopw [2, 7] (fun s2 s7 wr => ∃ k n : Nat, ∃ po co, k ≤ l.length ∧ n ≤ k ∧ s7 = .int .i64 k ∧ s2 = .slice po n co ∧ (0 < n ∨ po = none) ∧ Hid ((idxTo l k).length = n) ∧ Hid (Sep w [OldA w, BoxA bx #[.slice p l.length c] 42, RowA 3 1 (.slice po n co) n ((idxTo l k).map vN)] wr)) (fun _ i _ => l.length - (intOf i).toNat)
  case atStart => exact ⟨0, 0, none, 0, Nat.zero_le _, Nat.le_refl _, by go_num, rfl, .inr rfl, rfl, HS0⟩
  case round =>
    obtain ⟨k, n, po, co, hk, hnk, rfl, rfl, hpo, HN, HS⟩ := hrel
    have HPO := Lib.hid hpo
    clear hpo
    clear HS0
    by_cases hlt : k < l.length
    case neg =>
      have hkl : k = l.length := by omega
      have HIX : Hid (idxTo l k = ordIdx l) := by rw [hkl]; rfl
      clear hkl
      obtain ⟨F2, hF2, hdF2⟩ := HS.out.get 2 rfl
      rcases hF2.1.2 with ⟨hv0, hn0⟩ | ⟨g, cap, cur, hv0, hrest⟩
      case inl =>
        cases hv0
        have hI0 : ordI l = [] := ordI_nil (by rw [← HIX.out]; exact List.eq_nil_of_length_eq_zero HN.out)
        have HI0 := Lib.hid hI0
        clear hF2 hI0 hn0 hdF2
        go_wp2_with fail
        refine (sortNoneI 0 _ _).mono ?_
        rintro e w4 ⟨rfl, rfl⟩
        go_wp2
        go_ret
        refine ⟨_, rfl, ?_, HS.out.old⟩
        rw [HI0.out]
        exact SlAt.nil
      case inr =>
        have hcap : n ≤ cap ∧ cap ≤ maxLen := ⟨hrest.2.2.1, hrest.2.2.2.1⟩
        clear hrest
        cases hv0
        have hn0 : 0 < n := HPO.out.resolve_right (by simp)
        haveI : NeZero l.length := ⟨by omega⟩
        have hidn : (ordIdx l).length = n := by rw [← HIX.out]; exact HN.out
        have hsz : (idxArr l).size = n := by rw [idxArr_size]; exact hidn
        have hhk : Holds encO wr g 0 (idxArr l) := fun j hj => by
          obtain ⟨h1, h2⟩ := HS.out.row_cell 2 rfl j (by omega)
          rw [HIX.out, List.getElem?_map, List.getElem?_eq_getElem (by rw [hidn, ← hsz]; exact hj)] at h1
          rw [Nat.zero_add, getElem!_pos (idxArr l) j hj]
          refine ⟨h1.trans ?_, h2⟩
          unfold encO
          rw [(idxArr_get l j hj).1]; rfl
        have htg : ∀ j, j < (idxArr l).size → (idxArr l)[j]!.tag = j := fun j hj => by
          rw [getElem!_pos (idxArr l) j hj]; exact (idxArr_get l j hj).2
        obtain ⟨FF, GG, hFF, _, _, hdF, _, K⟩ := HS.out.at 2 rfl
        have hFg := hFF.2 g rfl
        obtain ⟨FB, FR, hFB, hFR, hdis, hdB, _⟩ := HS.out.two 1 2 (by decide) rfl rfl
        obtain ⟨FO, FR2, hFO, hFR2, hdis2, _⟩ := HS.out.two 0 2 (by decide) rfl rfl
        have hbg : bx ≠ g := fun e => hdis bx hFB.1 (by rw [e]; exact hFR.2 g rfl)
        have hGg : ∀ q, G q → q < wr.heap.size ∧ q ≠ g := fun q hq => ⟨Nat.lt_of_lt_of_le (HG.out q hq) HS.out.old.size, fun e => hdis2 q (hFO.1 q (HG.out q hq)) (by rw [e]; exact hFR2.2 g rfl)⟩
        have hwg : w.heap.size ≤ g := ((Sep.row_fresh HS.out 1 rfl).lt g rfl).1
        have hbc : wr.cell? ⟨bx, 0, none⟩ = some (.slice p l.length c) := by rw [cell_row hFB.2]; rfl
        have hsort := sortInt_any G g co (idxArr l) bx p c wr hhk (hdF g hFg) (by rw [hsz]; omega) htg hbc hbg (hdB bx hFB.1) (HistsAt.up HV.out HS.out.old) hGg hl
        rw [hsz] at hsort
        have hsort_lt := hdF g hFg
        have HSORT := Lib.hid hsort
        have HK := Lib.hid K
        have HFG := Lib.hid hFg
        have HSZ := Lib.hid hsz
        have HWG := Lib.hid hwg
        have HCAP := Lib.hid hcap
        have HIDN := Lib.hid hidn
        clear hsort K hFg hsz hwg hcap hidn
        clear hF2 hFF hhk htg hdF2 hdF hFB hFR hdis hdB hFO hFR2 hdis2 hbg hGg hbc hn0
        go_wp2_with fail
        refine (HSORT.out).mono ?_
        rintro e w4 ⟨rfl, d', hz, hp, hs, hh, hc⟩
        have HS4 := Lib.hid (HK.out w4 FF TrueA (hc.mono fun q _ hq => by subst hq; exact HFG.out) (fun q hq => .inl hq) trivial)
        have hord := sorted_idx hp hs
        rw [HSZ.out] at hz
        have hint : IntsAt (New w w4) w4 (.slice (some ⟨g, 0, none⟩) n co) ((ordI l).map fun i : Nat => (i : Int)) := by
          have hlen : ((ordI l).map fun i : Nat => (i : Int)).length = n := by rw [← hord]; simp [hz]
          have hgw : g < wr.heap.size := hsort_lt
          refine ⟨some ⟨g, 0, none⟩, co, by rw [hlen], by rw [hlen]; exact HCAP.out.1, by have := HCAP.out.2; unfold maxLen at this; omega, (by intro h; cases h), fun i hi => ⟨g, 0, rfl, ⟨HWG.out, Nat.lt_of_lt_of_le hgw hc.size⟩, ?_, ?_⟩⟩
          · rw [hlen] at hi
            have hd : i < d'.size := by rw [hz]; exact hi
            have hc1 := (hh i hd).1
            rw [getElem!_pos d' i hd] at hc1
            rw [Nat.mul_one, hc1, List.getElem_map]
            simp only [← hord, List.getElem_map, Array.getElem_toList]; rfl
          · rw [List.getElem_map]
            obtain ⟨hx, _⟩ := mem_ordI.1 (List.getElem_mem (l := ordI l) (n := i) (by simpa using hi))
            unfold I64; omega
        have HINT := Lib.hid hint
        clear hint
        clear hp hs hh hc hz HK HS HSORT hord
        go_wp2
        go_ret
        exact ⟨_, rfl, HINT.out, HS4.out.old⟩
    case pos =>
      obtain ⟨rfl, _, hc0, hc1, hc2, hc3, hc4, hi, ⟨rv, hc5, hrd⟩, pv, hc6, hpd⟩ := HC.out k hlt
      obtain ⟨rp, rc, rfl, hr1, hr2, hr3, hr4⟩ := hrd
      obtain ⟨pp, pc, rfl, hp1, hp2, hp3, hp4⟩ := hpd
      clear hr3 hr4 hp3 hp4
      have hw : wroteAt l k = (decide (l[k].state = 3) && decide (0 < l[k].puts.length)) := by unfold wroteAt; rw [List.getElem?_eq_getElem hlt]; rfl
      have hix := idxTo_succ l k
      rw [hw] at hix
      have hup := HS.out.old
      replace hc0 := cell_up hup hc0
      replace hc1 := cell_up hup hc1
      replace hc2 := cell_up hup hc2
      replace hc3 := cell_up hup hc3
      replace hc4 := cell_up hup hc4
      replace hc5 := cell_up hup hc5
      replace hc6 := cell_up hup hc6
      generalize l[k].state = st at *
      generalize l[k].begun = bg at *
      generalize l[k].time = tm at *
      generalize l[k].since = fr at *
      generalize l[k].upto = up at *
      generalize l[k].reads.length = rn at *
      generalize l[k].puts.length = pn at *
      have hwr := fun W => wroteA_any st bg tm fr up rp pp rn rc pn pc W (by omega)
      obtain ⟨q, hq⟩ : ∃ q, q = (decide (st = 3) && decide (0 < pn)) := ⟨_, rfl⟩
      rw [← hq] at hix hwr
      have HWR := Lib.hid hwr
      have HW := Lib.hid hw
      have HUP := Lib.hid hup
      have HQ := Lib.hid hq
      have HIX := Lib.hid hix
      clear hwr hw hup hq hix
      clear hi hr1 hr2 hp1 hp2
      go_wp2_with fail
      refine (HWR.out _).mono ?_
      rintro e w1 ⟨rfl, hb1⟩
      have HS1 := Lib.hid ((HS.out.up (below_alloc wr _)).up hb1)
      clear hb1 hc0 hc1 hc2 hc3 hc4 hc5 hc6
      cases q with
      | false =>
        have HE : Hid (idxTo l (k + 1) = idxTo l k) := by have := HIX.out; unfold Hid; simpa using this
        go_wp2_with fail
        go_roundw
        case rel => exact ⟨k + 1, n, po, co, by omega, by omega, by go_num, rfl, HPO.out, by rw [HE.out]; exact HN, by rw [HE.out]; exact HS1⟩
        case measure => simp [intOf]; omega
      | true =>
        have HE : Hid (idxTo l (k + 1) = idxTo l k ++ [k]) := by have := HIX.out; unfold Hid; simpa using this
        obtain ⟨FA, hFA, _⟩ := HS1.out.get 2 rfl
        have hrowA := hFA.1
        obtain ⟨iiA, hiiA, hizA, hiyA, hixA⟩ := info_parts infoInt
        have HROWA := Lib.hid hrowA
        clear hFA hrowA
        go_wp2_with (at_builtin; refine wpList_append_lies _ rfl _ _ 60 rfl 0 3 iiA (.int .i64 0) 1 8 Try.underlying60 hiiA hizA hiyA hixA rfl (by decide) _ (n) ((idxTo l k).map vN) rfl (HROWA.out.alloc _) ⟨w1.heap.size, 0, none⟩ 1 1 [.int .i64 (k : Int)] rfl rfl (World.news_of_block (cs := #[.int .i64 (k : Int)]) (heap_alloc_new w1 _)) (by simp [Value.oneCell']) (by decide) (by unfold maxLen; omega) (by omega) (Nat.zero_le _) (w1.heap.size + 1) (by simp) ?_; intro gA cA wA hownA hgrowA hatA hltA)
        have hSA := HS1.out.row_app 2 rfl (below_alloc _ _) hownA hgrowA hatA (by simp) hltA
        clear hownA hgrowA hatA hltA hiiA hizA hiyA hixA
        have hme : (idxTo l k).map vN ++ [.int .i64 (k : Int)] = (idxTo l (k + 1)).map vN := by rw [HE.out, List.map_append]; rfl
        rw [hme] at hSA
        have HSA := Lib.hid hSA
        clear hSA
        clear hme
        go_wp2_with fail
        go_roundw
        case rel => exact ⟨k + 1, n + 1, _, _, by omega, by omega, by go_num, rfl, .inl (by omega), by rw [HE.out, List.length_append, HN.out]; rfl, HSA⟩
        case measure => simp [intOf]; omega
end Go.Proofs
