/- scarpref11's Buf, in plain Lean: a row of Puts by rising LBA, and what a Write makes of it. -/
import Derived.Test.YteodkepnalhceaaWbuf2
namespace Go.Proofs
open Go.RowKit Sc

def lookP (L : List Put) (k : Int) : Option Bytes := (L.find? fun p => p.lba == k).map (·.data)
def Asc (L : List Put) : Prop := L.Pairwise (fun p q => p.lba < q.lba)
theorem lookP_nil (k : Int) : lookP [] k = none := rfl
theorem lookP_cons (p : Put) (L : List Put) (k : Int) : lookP (p :: L) k = if p.lba = k then some p.data else lookP L k := by
  unfold lookP
  rw [List.find?_cons]
  by_cases h : p.lba = k
  · have : (p.lba == k) = true := by rw [beq_iff_eq]; exact h
    rw [this, if_pos h]; rfl
  · have : (p.lba == k) = false := by rw [beq_eq_false_iff_ne]; exact h
    rw [this, if_neg h]
theorem lookP_append (A B : List Put) (k : Int) : lookP (A ++ B) k = (lookP A k).or (lookP B k) := by
  induction A with
  | nil => rfl
  | cons p A ih =>
    rw [List.cons_append, lookP_cons, lookP_cons, ih]
    split <;> rfl
theorem lookP_none {L : List Put} {k : Int} : lookP L k = none ↔ ∀ p ∈ L, p.lba ≠ k := by
  induction L with
  | nil => simp [lookP_nil]
  | cons p L ih =>
    rw [lookP_cons]
    by_cases h : p.lba = k
    · rw [if_pos h]; simp [h]
    · rw [if_neg h, ih]; simp [h]
theorem lookP_mem {L : List Put} {k : Int} {d : Bytes} (h : lookP L k = some d) : (⟨k, d⟩ : Put) ∈ L := by
  induction L with
  | nil => cases h
  | cons p L ih =>
    rw [lookP_cons] at h
    by_cases hk : p.lba = k
    · rw [if_pos hk] at h
      cases h
      subst hk
      exact List.mem_cons_self ..
    · rw [if_neg hk] at h
      exact List.mem_cons_of_mem _ (ih h)
theorem lookP_at {L : List Put} (h : Asc L) {p : Put} (hp : p ∈ L) : lookP L p.lba = some p.data := by
  induction L with
  | nil => cases hp
  | cons q L ih =>
    rw [lookP_cons]
    obtain ⟨h1, h2⟩ := List.pairwise_cons.1 h
    rcases List.mem_cons.1 hp with rfl | hp
    · rw [if_pos rfl]
    · rw [if_neg (by have := h1 p hp; omega)]
      exact ih h2 hp
theorem asc_ext : ∀ {A B : List Put}, Asc A → Asc B → (∀ k, lookP A k = lookP B k) → A = B
  | [], [], _, _, _ => rfl
  | [], q :: B, _, _, h => by have := h q.lba; rw [lookP_cons, if_pos rfl] at this; cases this
  | p :: A, [], _, _, h => by have := h p.lba; rw [lookP_cons, if_pos rfl] at this; cases this
  | p :: A, q :: B, ha, hb, h => by
    obtain ⟨a1, a2⟩ := List.pairwise_cons.1 ha
    obtain ⟨b1, b2⟩ := List.pairwise_cons.1 hb
    have hpq : p.lba = q.lba := by
      have e1 := h p.lba
      have e2 := h q.lba
      rw [lookP_cons, if_pos rfl, lookP_cons] at e1
      rw [lookP_cons, lookP_cons, if_pos rfl] at e2
      rcases (show p.lba = q.lba ∨ p.lba < q.lba ∨ q.lba < p.lba by omega) with e | e | e
      · exact e
      · rw [if_neg (by omega)] at e1
        have := b1 _ (lookP_mem e1.symm)
        simp only at this
        omega
      · rw [if_neg (by omega)] at e2
        have := a1 _ (lookP_mem e2)
        simp only at this
        omega
    have hd : p.data = q.data := by
      have e1 := h p.lba
      rw [lookP_cons, if_pos rfl, lookP_cons, if_pos hpq.symm] at e1
      exact Option.some.inj e1
    have hpe : p = q := by obtain ⟨x, y⟩ := p; obtain ⟨z, t⟩ := q; simp only at hpq hd; rw [hpq, hd]
    subst hpe
    rw [asc_ext a2 b2 fun k => ?_]
    have e := h k
    rw [lookP_cons, lookP_cons] at e
    by_cases hk : p.lba = k
    · rw [lookP_none.2 fun r hr => by have := a1 r hr; omega, lookP_none.2 fun r hr => by have := b1 r hr; omega]
    · rw [if_neg hk, if_neg hk] at e
      exact e

/-- One round of the walk that lays a Put into its place. -/
def insStep (x : Put) (s : List Put × Bool) (y : Put) : List Put × Bool :=
  let s1 : List Put × Bool := if s.2 = false ∧ x.lba ≤ y.lba then (s.1 ++ [x], true) else s
  if y.lba = x.lba then s1 else (s1.1 ++ [y], s1.2)
def insTo (x : Put) (L : List Put) (k : Nat) : List Put × Bool := (L.take k).foldl (insStep x) ([], false)
def insEnd (x : Put) (s : List Put × Bool) : List Put := if s.2 then s.1 else s.1 ++ [x]
def rIns (L : List Put) (x : Put) : List Put := insEnd x (insTo x L L.length)
theorem insTo_succ (x : Put) (L : List Put) (k : Nat) (h : k < L.length) : insTo x L (k + 1) = insStep x (insTo x L k) L[k] := by
  unfold insTo
  rw [take_snoc L k h, List.foldl_append]; rfl
theorem ins_true (x : Put) : ∀ (L out : List Put), (∀ y ∈ L, x.lba < y.lba) → L.foldl (insStep x) (out, true) = (out ++ L, true)
  | [], out, _ => by simp
  | y :: L, out, h => by
    have hy := h y (List.mem_cons_self ..)
    have e : insStep x (out, true) y = (out ++ [y], true) := by
      unfold insStep
      simp only [Bool.true_eq_false, false_and, if_false]
      rw [if_neg (by omega)]
    rw [List.foldl_cons, e, ins_true x L _ fun z hz => h z (List.mem_cons_of_mem _ hz), List.append_assoc]; rfl
theorem ins_false (x : Put) : ∀ (L out : List Put), Asc L → insEnd x (L.foldl (insStep x) (out, false)) = out ++ (L.filter (fun y => decide (y.lba < x.lba)) ++ x :: L.filter fun y => decide (x.lba < y.lba))
  | [], out, _ => rfl
  | y :: L, out, h => by
    obtain ⟨h1, h2⟩ := List.pairwise_cons.1 h
    rw [List.foldl_cons]
    rcases (show y.lba < x.lba ∨ y.lba = x.lba ∨ x.lba < y.lba by omega) with e | e | e
    · have hs : insStep x (out, false) y = (out ++ [y], false) := by
        unfold insStep
        simp only [true_and]
        rw [if_neg (by omega), if_neg (by omega)]
      rw [hs, ins_false x L _ h2]
      simp [e, show ¬ x.lba < y.lba by omega]
    · have hs : insStep x (out, false) y = (out ++ [x], true) := by
        have c1 : x.lba ≤ y.lba := by omega
        simp only [insStep, true_and, if_pos c1, if_pos e]
      have hl : ∀ z ∈ L, x.lba < z.lba := fun z hz => by have := h1 z hz; omega
      rw [hs, ins_true x L _ hl]
      have f1 : L.filter (fun z => decide (z.lba < x.lba)) = [] := List.filter_eq_nil_iff.2 fun z hz => by have := hl z hz; simp; omega
      have f2 : L.filter (fun z => decide (x.lba < z.lba)) = L := List.filter_eq_self.2 fun z hz => by have := hl z hz; simpa using this
      simp [insEnd, e, f1, f2]
    · have hs : insStep x (out, false) y = (out ++ [x] ++ [y], true) := by
        have c1 : x.lba ≤ y.lba := by omega
        have c2 : ¬ y.lba = x.lba := by omega
        simp only [insStep, true_and, if_pos c1, if_neg c2]
      have hl : ∀ z ∈ L, x.lba < z.lba := fun z hz => by have := h1 z hz; omega
      rw [hs, ins_true x L _ hl]
      have f1 : L.filter (fun z => decide (z.lba < x.lba)) = [] := List.filter_eq_nil_iff.2 fun z hz => by have := hl z hz; simp; omega
      have f2 : L.filter (fun z => decide (x.lba < z.lba)) = L := List.filter_eq_self.2 fun z hz => by have := hl z hz; simpa using this
      simp [insEnd, e, f1, f2, show ¬ y.lba < x.lba by omega]
theorem rIns_eq (L : List Put) (x : Put) (h : Asc L) : rIns L x = L.filter (fun y => decide (y.lba < x.lba)) ++ x :: L.filter fun y => decide (x.lba < y.lba) := by
  have := ins_false x L [] h
  rw [List.nil_append] at this
  unfold rIns insTo
  rw [List.take_length]
  exact this
theorem lookP_filter (f : Int → Bool) (k : Int) : ∀ L : List Put, lookP (L.filter fun y => f y.lba) k = if f k then lookP L k else none
  | [] => by simp [lookP_nil]
  | p :: L => by
    rw [List.filter_cons]
    by_cases hp : f p.lba = true
    · rw [if_pos hp, lookP_cons, lookP_cons, lookP_filter f k L]
      by_cases hk : p.lba = k
      · subst hk; rw [if_pos rfl, if_pos rfl, if_pos hp]
      · rw [if_neg hk, if_neg hk]
    · rw [if_neg hp, lookP_cons, lookP_filter f k L]
      by_cases hk : p.lba = k
      · subst hk; rw [if_neg hp, if_neg hp]
      · rw [if_neg hk]
theorem rIns_good {L : List Put} (h : Asc L) (x : Put) : Asc (rIns L x) ∧ ∀ k, lookP (rIns L x) k = if k = x.lba then some x.data else lookP L k := by
  rw [rIns_eq L x h]
  refine ⟨List.pairwise_append.2 ⟨List.Pairwise.filter _ h, List.pairwise_cons.2 ⟨fun y hy => ?_, List.Pairwise.filter _ h⟩, fun a ha b hb => ?_⟩, fun k => ?_⟩
  · have := (List.mem_filter.1 hy).2; simpa using this
  · have h1 := (List.mem_filter.1 ha).2
    simp only [decide_eq_true_eq] at h1
    rcases List.mem_cons.1 hb with rfl | hb
    · exact h1
    · have h2 := (List.mem_filter.1 hb).2
      simp only [decide_eq_true_eq] at h2
      omega
  · rw [lookP_append, lookP_cons, lookP_filter (fun y => decide (y < x.lba)) k, lookP_filter (fun y => decide (x.lba < y)) k]
    rcases (show k < x.lba ∨ k = x.lba ∨ x.lba < k by omega) with e | e | e
    · simp [e, show ¬ k = x.lba by omega, show ¬ x.lba = k by omega, show ¬ x.lba < k by omega]
    · subst e; simp
    · simp [e, show ¬ k = x.lba by omega, show ¬ x.lba = k by omega, show ¬ k < x.lba by omega]
theorem rIns_len (L : List Put) (x : Put) : (rIns L x).length ≤ L.length + 1 := by
  have key : ∀ (l : List Put) (s : List Put × Bool), (l.foldl (insStep x) s).1.length + (if (l.foldl (insStep x) s).2 then 0 else 1) ≤ s.1.length + (if s.2 then 0 else 1) + l.length := by
    intro l
    induction l with
    | nil => intro s; exact Nat.le_refl _
    | cons y l ih =>
      intro s
      rw [List.foldl_cons, List.length_cons]
      have h1 := ih (insStep x s y)
      have h2 : (insStep x s y).1.length + (if (insStep x s y).2 then 0 else 1) ≤ s.1.length + (if s.2 then 0 else 1) + 1 := by
        obtain ⟨o, d⟩ := s
        unfold insStep
        cases d
        · by_cases hx : x.lba ≤ y.lba <;> by_cases hy : y.lba = x.lba <;> simp [hx, hy] <;> omega
        · by_cases hy : y.lba = x.lba <;> simp [hy]
      omega
  have := key (L.take L.length) ([], false)
  unfold rIns insEnd insTo
  rw [List.take_length] at this ⊢
  simp only [List.length_nil, Bool.false_eq_true, if_false] at this
  split
  · rename_i h; rw [if_pos h] at this; omega
  · rename_i h; rw [if_neg h] at this; rw [List.length_append, List.length_singleton]; omega

/-- The Buf's row, and the map's. -/
structure BufR (s : List (Int × Bytes)) (L : List Put) : Prop where
  asc : Asc L
  look : ∀ k, lookP L k = alook s k
  nd : (s.map (·.1)).Nodup
theorem BufR.start : BufR [] [] := ⟨List.Pairwise.nil, fun _ => rfl, List.nodup_nil⟩
theorem aset_nd {s : List (Int × Bytes)} {k : Int} {d : Bytes} (h : (s.map (·.1)).Nodup) : ((aset s k d).map (·.1)).Nodup := by
  induction s with
  | nil => simp [aset]
  | cons p s ih =>
    obtain ⟨a, x⟩ := p
    simp only [List.map_cons, List.nodup_cons] at h
    unfold aset
    split
    · rename_i e; subst e; simpa using h
    · rename_i e
      simp only [List.map_cons, List.nodup_cons]
      refine ⟨fun hm => ?_, ih h.2⟩
      obtain ⟨y, hy, he⟩ := List.mem_map.1 hm
      rcases aset_mem hy with rfl | hy
      · exact e he.symm
      · exact h.1 (List.mem_map.2 ⟨y, hy, he⟩)
theorem BufR.one {s : List (Int × Bytes)} {L : List Put} (h : BufR s L) (p : Put) : BufR (aset s p.lba p.data) (rIns L p) := by
  obtain ⟨h1, h2⟩ := rIns_good h.asc p
  exact ⟨h1, fun k => by rw [h2, alook_aset, h.look], aset_nd h.nd⟩
theorem BufR.all {s : List (Int × Bytes)} : ∀ (l : List Put) {s : List (Int × Bytes)} {L : List Put}, BufR s L → BufR (putsTo s l) (l.foldl rIns L)
  | [], _, _, h => h
  | p :: l, _, _, h => BufR.all (s := []) l (h.one p)
theorem BufR.len {s : List (Int × Bytes)} {L : List Put} (h : BufR s L) : L.length = s.length := by
  have hn : (L.map (·.lba)).Nodup := by
    unfold List.Nodup
    rw [List.pairwise_map]
    exact h.asc.imp fun h => by omega
  have hp : (L.map (·.lba)).Perm (s.map (·.1)) := by
    refine (List.perm_ext_iff_of_nodup hn h.nd).2 fun k => ?_
    have h1 : k ∈ L.map (·.lba) ↔ lookP L k ≠ none := by
      rw [ne_eq, lookP_none]
      constructor
      · intro hm hall
        obtain ⟨p, hp, rfl⟩ := List.mem_map.1 hm
        exact hall p hp rfl
      · intro hne
        simp only [Classical.not_forall, Decidable.not_not] at hne
        obtain ⟨p, hp, he⟩ := hne
        exact List.mem_map.2 ⟨p, hp, he⟩
    have h2 : k ∈ s.map (·.1) ↔ alook s k ≠ none := by
      rw [ne_eq, alook_none]
      constructor
      · intro hm hall
        obtain ⟨p, hp, rfl⟩ := List.mem_map.1 hm
        exact hall p hp rfl
      · intro hne
        simp only [Classical.not_forall, Decidable.not_not] at hne
        obtain ⟨p, hp, he⟩ := hne
        exact List.mem_map.2 ⟨p, hp, he⟩
    rw [h1, h2, h.look]
  have := hp.length_eq
  rwa [List.length_map, List.length_map] at this
def freshP (L l : List Put) : Nat := (l.filter fun p => (lookP L p.lba).isNone).length
theorem freshP_take (L l : List Put) (k : Nat) (h : k < l.length) : freshP L (l.take (k + 1)) = freshP L (l.take k) + if (lookP L l[k].lba).isNone then 1 else 0 := by
  unfold freshP
  rw [take_snoc l k h, List.filter_append, List.length_append]
  congr 1
  cases h1 : (lookP L l[k].lba).isNone <;> simp [h1]
theorem freshP_le (L l : List Put) : freshP L l ≤ l.length := List.length_filter_le _ _
theorem BufR.fresh {s : List (Int × Bytes)} {L : List Put} (h : BufR s L) (l : List Put) : freshP L l = freshN s l := by
  unfold freshP freshN
  simp only [h.look]
/-- What a Write of the reference answers, and leaves. -/
def rbCode (blocks most : Int) (L l : List Put) : Int :=
  if l = [] then 1 else if l.any (outB blocks) then 2 else if l.any len40 then 3 else if twiceB l then 4 else if most < ((L.length + freshP L l : Nat) : Int) then 7 else 0
def rbNext (blocks most : Int) (L l : List Put) : List Put := if rbCode blocks most L l = 0 then l.foldl rIns L else L
theorem BufR.code {blocks most : Int} {s : List (Int × Bytes)} {L : List Put} (h : BufR s L) (l : List Put) : rbCode blocks most L l = bufCode blocks most s l := by
  unfold rbCode bufCode
  rw [h.len, h.fresh]
theorem BufR.next {blocks most : Int} {s : List (Int × Bytes)} {L : List Put} (h : BufR s L) (l : List Put) : BufR (bufNext blocks most s l) (rbNext blocks most L l) := by
  unfold bufNext rbNext
  rw [h.code]
  split
  · exact h.all l (s := [])
  · exact h
theorem rIns_foldl_len (l : List Put) : ∀ L : List Put, (l.foldl rIns L).length ≤ L.length + l.length := by
  induction l with
  | nil => intro L; simp
  | cons p l ih =>
    intro L
    rw [List.foldl_cons, List.length_cons]
    have := ih (rIns L p)
    have := rIns_len L p
    omega
end Go.Proofs
