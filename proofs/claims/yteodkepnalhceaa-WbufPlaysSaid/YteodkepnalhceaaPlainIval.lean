/- Sets of extents, plain: extents that rise and do not touch are told by the blocks that they hold; joining. Of no program. -/
import Derived.Test.YteodkepnalhceaaBase
namespace Sc

def Ext.fin (e : Ext) : Int := e.first + e.len
/-- A block lies in one of some extents. -/
def cov (l : List Ext) (x : Int) : Prop := ∃ e ∈ l, e.first ≤ x ∧ x < e.first + e.len
/-- They rise, and do not touch. -/
def Canon (l : List Ext) : Prop := (∀ e ∈ l, 1 ≤ e.len) ∧ l.Pairwise (fun a b => a.first + a.len < b.first)

theorem ext_eta {a b : Ext} (h1 : a.first = b.first) (h2 : a.len = b.len) : a = b := by cases a; cases b; simp_all
theorem cov_nil (x : Int) : ¬ cov [] x := fun ⟨_, h, _⟩ => by cases h
theorem cov_cons {e : Ext} {l : List Ext} {x : Int} : cov (e :: l) x ↔ (e.first ≤ x ∧ x < e.first + e.len) ∨ cov l x := by
  constructor
  · rintro ⟨y, hy, h⟩
    rcases List.mem_cons.1 hy with rfl | hy
    · exact .inl h
    · exact .inr ⟨y, hy, h⟩
  · rintro (h | ⟨y, hy, h⟩)
    · exact ⟨e, by simp, h⟩
    · exact ⟨y, by simp [hy], h⟩
theorem cov_append {a b : List Ext} {x : Int} : cov (a ++ b) x ↔ cov a x ∨ cov b x := by
  constructor
  · rintro ⟨y, hy, h⟩
    rcases List.mem_append.1 hy with hy | hy
    · exact .inl ⟨y, hy, h⟩
    · exact .inr ⟨y, hy, h⟩
  · rintro (⟨y, hy, h⟩ | ⟨y, hy, h⟩)
    · exact ⟨y, by simp [hy], h⟩
    · exact ⟨y, by simp [hy], h⟩
theorem cov_perm {a b : List Ext} (h : a.Perm b) {x : Int} : cov a x ↔ cov b x :=
  ⟨fun ⟨e, he, hx⟩ => ⟨e, h.mem_iff.1 he, hx⟩, fun ⟨e, he, hx⟩ => ⟨e, h.mem_iff.2 he, hx⟩⟩
theorem cov_mem {l : List Ext} {e : Ext} (he : e ∈ l) {x : Int} (h : e.first ≤ x ∧ x < e.first + e.len) : cov l x := ⟨e, he, h⟩
theorem Canon.nil : Canon [] := ⟨by simp, List.Pairwise.nil⟩
theorem Canon.cons {e : Ext} {l : List Ext} (h : Canon (e :: l)) : 1 ≤ e.len ∧ (∀ y ∈ l, e.first + e.len < y.first) ∧ Canon l :=
  ⟨h.1 e (by simp), (List.pairwise_cons.1 h.2).1, fun y hy => h.1 y (by simp [hy]), (List.pairwise_cons.1 h.2).2⟩
theorem Canon.mk1 {e : Ext} (h : 1 ≤ e.len) : Canon [e] := ⟨by simpa using h, by simp⟩

theorem canon_ext : ∀ {l m : List Ext}, Canon l → Canon m → (∀ x, cov l x ↔ cov m x) → l = m
  | [], [], _, _, _ => rfl
  | [], b :: m, _, hm, h => absurd ((h b.first).2 (cov_cons.2 (.inl ⟨Int.le_refl _, by have := hm.cons.1; omega⟩))) (cov_nil _)
  | a :: l, [], hl, _, h => absurd ((h a.first).1 (cov_cons.2 (.inl ⟨Int.le_refl _, by have := hl.cons.1; omega⟩))) (cov_nil _)
  | a :: l, b :: m, hl, hm, h => by
    obtain ⟨a1, a2, a3⟩ := hl.cons
    obtain ⟨b1, b2, b3⟩ := hm.cons
    have la : ∀ x, cov l x → a.first + a.len < x := fun x ⟨y, hy, hx⟩ => by have := a2 y hy; omega
    have lb : ∀ x, cov m x → b.first + b.len < x := fun x ⟨y, hy, hx⟩ => by have := b2 y hy; omega
    have e1 : a.first = b.first := by
      have h1 := (h a.first).1 (cov_cons.2 (.inl ⟨Int.le_refl _, by omega⟩))
      have h2 := (h b.first).2 (cov_cons.2 (.inl ⟨Int.le_refl _, by omega⟩))
      rcases cov_cons.1 h1 with h1 | h1 <;> rcases cov_cons.1 h2 with h2 | h2
      · omega
      · have := la _ h2; omega
      · have := lb _ h1; omega
      · have := la _ h2; have := lb _ h1; omega
    have e2 : a.len = b.len := by
      rcases Int.lt_trichotomy a.len b.len with h1 | h1 | h1
      · have h2 := (h (a.first + a.len)).2 (cov_cons.2 (.inl ⟨by omega, by omega⟩))
        rcases cov_cons.1 h2 with h2 | h2
        · omega
        · have := la _ h2; omega
      · exact h1
      · have h2 := (h (b.first + b.len)).1 (cov_cons.2 (.inl ⟨by omega, by omega⟩))
        rcases cov_cons.1 h2 with h2 | h2
        · omega
        · have := lb _ h2; omega
    have e3 : l = m := by
      refine canon_ext a3 b3 fun x => ⟨fun hx => ?_, fun hx => ?_⟩
      · have := la x hx
        rcases cov_cons.1 ((h x).1 (cov_cons.2 (.inr hx))) with h2 | h2
        · omega
        · exact h2
      · have := lb x hx
        rcases cov_cons.1 ((h x).2 (cov_cons.2 (.inr hx))) with h2 | h2
        · omega
        · exact h2
    rw [ext_eta e1 e2, e3]

/-- May an extent be? -/
def mayB (e : Ext) : Bool := decide (0 ≤ e.first) && decide (e.first ≤ 1048576) && decide (1 ≤ e.len) && decide (e.len ≤ 1048576) && decide (e.first + e.len ≤ 1048577)
theorem mayB_iff {e : Ext} : mayB e = true ↔ 0 ≤ e.first ∧ e.first ≤ 1048576 ∧ 1 ≤ e.len ∧ e.len ≤ 1048576 ∧ e.first + e.len ≤ 1048577 := by
  unfold mayB
  simp only [Bool.and_eq_true, decide_eq_true_eq]
  omega
theorem mayB_no {e : Ext} : mayB e = false ↔ ¬ (0 ≤ e.first ∧ e.first ≤ 1048576 ∧ 1 ≤ e.len ∧ e.len ≤ 1048576 ∧ e.first + e.len ≤ 1048577) := by
  rw [← mayB_iff]; simp
/-- Have two a block in common? -/
def meetB (a b : Ext) : Bool := decide (a.first < b.first + b.len) && decide (b.first < a.first + a.len)
def Sml (e : Ext) : Prop := -1099511627776 ≤ e.first ∧ e.first ≤ 1099511627776 ∧ -1099511627776 ≤ e.len ∧ e.len ≤ 1099511627776
theorem mayB_sml {e : Ext} (h : mayB e = true) : Sml e := by have := mayB_iff.1 h; unfold Sml; omega
/-- Of what is joined: it lies where extents may lie (its length may be one more than an extent's). -/
def Oke (e : Ext) : Prop := 0 ≤ e.first ∧ e.first ≤ 1048576 ∧ 1 ≤ e.len ∧ e.first + e.len ≤ 1048577
theorem mayB_oke {e : Ext} (h : mayB e = true) : Oke e := by have := mayB_iff.1 h; unfold Oke; omega
theorem Oke.sml {e : Ext} (h : Oke e) : Sml e := by unfold Oke at h; unfold Sml; omega
/-- One extent more, which begins at or behind all that begin. -/
def joinStep (out : List Ext) (e : Ext) : List Ext :=
  match out.getLast? with
  | some o => if e.first ≤ o.first + o.len then out.dropLast ++ [⟨o.first, max o.len (e.first + e.len - o.first)⟩] else out ++ [e]
  | none => [e]
def joinL (l : List Ext) : List Ext := l.foldl joinStep []
theorem joinL_snoc (l : List Ext) (e : Ext) : joinL (l ++ [e]) = joinStep (joinL l) e := by simp [joinL]
theorem joinStep_nil (e : Ext) : joinStep [] e = [e] := rfl
theorem joinStep_snoc (out : List Ext) (o e : Ext) : joinStep (out ++ [o]) e = if e.first ≤ o.first + o.len then out ++ [⟨o.first, max o.len (e.first + e.len - o.first)⟩] else out ++ [o] ++ [e] := by
  unfold joinStep
  rw [List.getLast?_concat, List.dropLast_concat]
theorem snoc_of {α : Type} {l : List α} (h : l ≠ []) : ∃ a b, l = a ++ [b] := ⟨l.dropLast, l.getLast h, (List.dropLast_concat_getLast h).symm⟩
theorem canon_snoc {out : List Ext} {o : Ext} : Canon (out ++ [o]) ↔ Canon out ∧ 1 ≤ o.len ∧ ∀ y ∈ out, y.first + y.len < o.first := by
  unfold Canon
  rw [List.pairwise_append]
  constructor
  · rintro ⟨h1, h2, _, h3⟩
    exact ⟨⟨fun e he => h1 e (by simp [he]), h2⟩, h1 o (by simp), fun y hy => h3 y hy o (by simp)⟩
  · rintro ⟨⟨h1, h2⟩, h3, h4⟩
    refine ⟨fun e he => ?_, h2, by simp, fun y hy z hz => ?_⟩
    · rcases List.mem_append.1 he with he | he
      · exact h1 e he
      · rw [List.mem_singleton] at he; rw [he]; exact h3
    · rw [List.mem_singleton] at hz; rw [hz]; exact h4 y hy
theorem joinStep_good {out : List Ext} {e : Ext} (hc : Canon out) (he : 1 ≤ e.len) (hf : ∀ o ∈ out, o.first ≤ e.first) :
    Canon (joinStep out e) ∧ (∀ x, cov (joinStep out e) x ↔ cov out x ∨ (e.first ≤ x ∧ x < e.first + e.len)) ∧ (∀ o ∈ joinStep out e, o.first ≤ e.first) ∧ (joinStep out e).length ≤ out.length + 1 ∧ 0 < (joinStep out e).length := by
  by_cases hn : out = []
  · subst hn
    rw [joinStep_nil]
    refine ⟨Canon.mk1 he, fun x => ?_, by simp, by simp, by simp⟩
    rw [cov_cons]
    have := cov_nil x
    constructor <;> (rintro (h | h) <;> simp_all)
  · obtain ⟨a, o, rfl⟩ := snoc_of hn
    rw [joinStep_snoc]
    obtain ⟨c1, c2, c3⟩ := canon_snoc.1 hc
    have ho := hf o (by simp)
    split
    · rename_i hle
      refine ⟨canon_snoc.2 ⟨c1, by simp only; omega, fun y hy => c3 y hy⟩, fun x => ?_, fun y hy => ?_, by simp, by simp⟩
      · rw [cov_append, cov_append, cov_cons, cov_cons]
        have := cov_nil x
        simp only
        constructor
        · rintro (h | h | h)
          · exact .inl (.inl h)
          · by_cases hx : x < o.first + o.len
            · exact .inl (.inr (.inl ⟨h.1, hx⟩))
            · exact .inr ⟨by omega, by omega⟩
          · exact absurd h this
        · rintro ((h | h | h) | h)
          · exact .inl h
          · exact .inr (.inl ⟨h.1, by omega⟩)
          · exact absurd h this
          · exact .inr (.inl ⟨by omega, by omega⟩)
      · rcases List.mem_append.1 hy with hy | hy
        · exact hf y (by simp [hy])
        · rw [List.mem_singleton] at hy; rw [hy]; exact ho
    · rename_i hgt
      refine ⟨canon_snoc.2 ⟨hc, he, fun y hy => ?_⟩, fun x => ?_, fun y hy => ?_, by simp, by simp⟩
      · rcases List.mem_append.1 hy with hy | hy
        · have := c3 y hy; omega
        · rw [List.mem_singleton] at hy; rw [hy]; omega
      · rw [cov_append, cov_cons]
        have := cov_nil x
        constructor
        · rintro (h | h | h)
          · exact .inl h
          · exact .inr h
          · exact absurd h this
        · rintro (h | h)
          · exact .inl h
          · exact .inr (.inl h)
      · rcases List.mem_append.1 hy with hy | hy
        · exact hf y hy
        · rw [List.mem_singleton] at hy; rw [hy]; exact Int.le_refl _
theorem joinStep_oke {out : List Ext} {e : Ext} (h : ∀ o ∈ out, Oke o) (he : Oke e) : ∀ o ∈ joinStep out e, Oke o := by
  by_cases hn : out = []
  · subst hn; rw [joinStep_nil]; simpa using he
  · obtain ⟨a, o, rfl⟩ := snoc_of hn
    rw [joinStep_snoc]
    have ho := h o (by simp)
    split
    · intro y hy
      rcases List.mem_append.1 hy with hy | hy
      · exact h y (by simp [hy])
      · rw [List.mem_singleton] at hy; subst hy
        unfold Oke at *; simp only; omega
    · intro y hy
      rcases List.mem_append.1 hy with hy | hy
      · exact h y hy
      · rw [List.mem_singleton] at hy; subst hy; exact he
theorem joinL_oke (l : List Ext) (h : ∀ e ∈ l, Oke e) : ∀ o ∈ joinL l, Oke o := by
  induction hl : l.length generalizing l with
  | zero => obtain rfl := List.length_eq_zero_iff.1 hl; simp [joinL]
  | succ n ih =>
    obtain ⟨a, e, rfl⟩ := snoc_of (l := l) (by intro e; rw [e] at hl; simp at hl)
    rw [List.length_append, List.length_singleton] at hl
    rw [joinL_snoc]
    exact joinStep_oke (ih a (fun e he => h e (by simp [he])) (by omega)) (h e (by simp))
theorem joinL_len (l : List Ext) : (joinL l).length ≤ l.length := by
  induction hl : l.length generalizing l with
  | zero => obtain rfl := List.length_eq_zero_iff.1 hl; simp [joinL]
  | succ n ih =>
    obtain ⟨a, e, rfl⟩ := snoc_of (l := l) (by intro e; rw [e] at hl; simp at hl)
    rw [List.length_append, List.length_singleton] at hl
    have := ih a (by omega)
    rw [joinL_snoc]
    by_cases hn : joinL a = []
    · rw [hn, joinStep_nil]; simp
    · obtain ⟨b, o, hb⟩ := snoc_of hn
      rw [hb] at this ⊢
      rw [List.length_append, List.length_singleton] at this
      rw [joinStep_snoc]
      split <;> simp <;> omega
/-- What joining gives, where the firsts rise. -/
theorem joinL_good : ∀ (l : List Ext), (∀ e ∈ l, 1 ≤ e.len) → l.Pairwise (fun a b => a.first ≤ b.first) →
    Canon (joinL l) ∧ (∀ x, cov (joinL l) x ↔ cov l x) ∧ (∀ o ∈ joinL l, ∀ m, (∀ e ∈ l, e.first ≤ m) → o.first ≤ m) ∧ (joinL l).length ≤ l.length ∧ (l ≠ [] → joinL l ≠ []) := by
  intro l
  induction h : l.length generalizing l with
  | zero =>
    obtain rfl := List.length_eq_zero_iff.1 h
    intro _ _
    exact ⟨Canon.nil, fun _ => Iff.rfl, by simp [joinL], by simp [joinL], fun h => absurd rfl h⟩
  | succ n ih =>
    intro h1 h2
    obtain ⟨a, e, rfl⟩ := snoc_of (l := l) (by intro e; rw [e] at h; simp at h)
    rw [List.length_append, List.length_singleton] at h
    rw [List.pairwise_append] at h2
    obtain ⟨g1, g2, g3, g4, _⟩ := ih a (by omega) (fun e he => h1 e (by simp [he])) h2.1
    rw [joinL_snoc]
    have hle : ∀ o ∈ joinL a, o.first ≤ e.first := fun o ho => g3 o ho e.first fun y hy => h2.2.2 y hy e (by simp)
    obtain ⟨k1, k2, k3, k4, k5⟩ := joinStep_good g1 (h1 e (by simp)) hle
    refine ⟨k1, fun x => ?_, fun o ho m hm => ?_, by omega, fun _ hq => ?_⟩
    · rw [k2 x, g2 x, cov_append, cov_cons]
      have := cov_nil x
      constructor
      · rintro (h | h)
        · exact .inl h
        · exact .inr (.inl h)
      · rintro (h | h | h)
        · exact .inl h
        · exact .inr h
        · exact absurd h this
    · exact Int.le_trans (k3 o ho) (hm e (by simp))
    · rw [hq] at k5; simp at k5
/-- The extents that rise and do not touch, of any. -/
def normE (l : List Ext) : List Ext := joinL (l.mergeSort fun a b => decide (a.first ≤ b.first))
theorem sortE_props (l : List Ext) : (l.mergeSort fun a b => decide (a.first ≤ b.first)).Perm l ∧ (l.mergeSort fun a b => decide (a.first ≤ b.first)).Pairwise (fun a b => a.first ≤ b.first) := by
  refine ⟨List.mergeSort_perm _ _, ?_⟩
  have := List.pairwise_mergeSort (le := fun a b : Ext => decide (a.first ≤ b.first)) (fun a b c h1 h2 => by simp at *; omega) (fun a b => by simp; omega) l
  exact this.imp fun h => by simpa using h
theorem normE_good {l : List Ext} (h : ∀ e ∈ l, 1 ≤ e.len) : Canon (normE l) ∧ (∀ x, cov (normE l) x ↔ cov l x) ∧ (normE l).length ≤ l.length ∧ (l ≠ [] → normE l ≠ []) := by
  obtain ⟨h1, h2⟩ := sortE_props l
  obtain ⟨g1, g2, _, g4, g5⟩ := joinL_good _ (fun e he => h e (h1.mem_iff.1 he)) h2
  refine ⟨g1, fun x => (g2 x).trans (cov_perm h1), by rw [← h1.length_eq]; exact g4, fun hn => g5 fun e => hn ?_⟩
  have := h1.length_eq
  rw [e] at this
  exact List.length_eq_zero_iff.1 this.symm
theorem normE_oke {l : List Ext} (h : ∀ e ∈ l, Oke e) : ∀ e ∈ normE l, Oke e := joinL_oke _ fun e he => h e ((sortE_props l).1.mem_iff.1 he)
theorem normE_eq {l l' : List Ext} (h : ∀ e ∈ l, 1 ≤ e.len) (hp : l'.Perm l) (hs : l'.Pairwise (fun a b => a.first ≤ b.first)) : joinL l' = normE l := by
  obtain ⟨g1, g2, _⟩ := joinL_good l' (fun e he => h e (hp.mem_iff.1 he)) hs
  obtain ⟨k1, k2, _⟩ := normE_good h
  exact canon_ext g1 k1 fun x => by rw [g2, k2, cov_perm hp]
theorem normE_ext {l m : List Ext} (h : ∀ e ∈ l, 1 ≤ e.len) (hc : Canon m) (hx : ∀ x, cov m x ↔ cov l x) : normE l = m := by
  obtain ⟨k1, k2, _⟩ := normE_good h
  exact canon_ext k1 hc fun x => by rw [k2, hx]
end Sc
