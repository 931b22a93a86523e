/- Regions that draw their order, walked operation by operation: what only reads may be taken as soon as it is ready, if it reads the same in every world of a class in which all that follows stays. Of no program. -/
import Derived.Orders
import Derived.Tactics
import Derived.Tactics2
import Derived.KernelRfl
namespace Sc
open Go
section
variable {P : Program} {ops : Array Oper} {Q : Exit → Act → World → Prop} {md : Region.Mode}

/-- What an operation leaves differs from what it got by its own temporary (and by what is deferred). -/
theorem wpOp_track {j : Nat} {oj : Oper} (hj : ops[j]? = some oj) {K : Act → World → Prop} {a : Act} {w : World} (h : wpOp P ops Q j K a w) :
    wpOp P ops Q j (fun a' w' => K a' w' ∧ ∃ u ds, a' = Act.put { a with defers := ds } oj.dst u) a w := by
  unfold wpOp at *
  simp only [hj] at *
  split
  · rename_i hw
    simp only [hw, if_true] at h
    rcases h with h | h
    · refine .inl ?_
      unfold Oper.wp at *
      generalize (execOp a.eval oj).run P w = r at *
      cases r with
      | ok n w' =>
        cases n <;> simp only [Oper.upon] at h ⊢
        case value u => exact ⟨h, u, a.defers, rfl⟩
        case skip => exact ⟨h, undef, a.defers, rfl⟩
        case defer d => exact ⟨h, undef, d :: a.defers, rfl⟩
        case enter f args =>
          refine Calls.mono h fun e w'' he => ?_
          cases e with
          | returned u => exact ⟨he, u, a.defers, rfl⟩
          | panicked c => exact he
          | outgrown => exact he
        case row row args => exact Rows.mono h fun u w'' he => ⟨he, u, a.defers, rfl⟩
      | halt x w' => cases x <;> simp only [Oper.upon] at h ⊢ <;> exact h
    · exact .inr h
  · rename_i hw
    simp only [hw] at h
    exact ⟨h, undef, a.defers, rfl⟩

/-- Whatever order is picked from here on, every state lying in a world of G. -/
def wpG (P : Program) (md : Region.Mode) (ops : Array Oper) (Q : Exit → Act → World → Prop) (G : World → Prop) : Nat → Array Bool → Act → World → Prop
  | 0, listed, a, w => G w ∧ Region.ready md ops listed = [] ∧ Q .normal a w
  | fuel + 1, listed, a, w =>
    G w ∧ (Region.ready md ops listed = [] → Q .normal a w) ∧
    ∀ i ∈ Region.ready md ops listed, wpOp P ops Q i (wpG P md ops Q G fuel (listed.setIfInBounds i true)) a w
theorem wpG.g {G : World → Prop} : ∀ {fuel : Nat} {listed : Array Bool} {a : Act} {w : World}, wpG P md ops Q G fuel listed a w → G w
  | 0, _, _, _, h => h.1
  | _ + 1, _, _, _, h => h.1
theorem wpG.any {G : World → Prop} : ∀ {fuel : Nat} {listed : Array Bool} {a : Act} {w : World}, wpG P md ops Q G fuel listed a w → wpAny P md ops Q fuel listed a w
  | 0, _, _, _, h => h.2
  | _ + 1, _, _, _, h => ⟨h.2.1, fun i hi => wpOp_mono (fun _ _ h => wpG.any h) (h.2.2 i hi)⟩
theorem wpG.wide {G G' : World → Prop} (hg : ∀ w, G w → G' w) : ∀ {fuel : Nat} {listed : Array Bool} {a : Act} {w : World}, wpG P md ops Q G fuel listed a w → wpG P md ops Q G' fuel listed a w
  | 0, _, _, _, h => ⟨hg _ h.1, h.2⟩
  | _ + 1, _, _, _, h => ⟨hg _ h.1, h.2.1, fun i hi => wpOp_mono (fun _ _ h => wpG.wide hg h) (h.2.2 i hi)⟩

/-- In every world of G the operation yields v, and leaves the world. -/
def YieldsG (P : Program) (ops : Array Oper) (G : World → Prop) (o : Oper) (v : Value) (a : Act) : Prop :=
  (Region.wanted o (yielded ops a.tmps) = true ∧ ∀ w, G w → (execOp a.eval o).run P w = .ok (.value v) w) ∨
  (Region.wanted o (yielded ops a.tmps) = false ∧ v = undef)
theorem YieldsG.wpOp {G : World → Prop} {i : Nat} {o : Oper} {v : Value} {a : Act} (hi : ops[i]? = some o) (hy : YieldsG P ops G o v a) {K : Act → World → Prop} {w : World} (hG : G w) (h : K (a.put o.dst v) w) : wpOp P ops Q i K a w := by
  unfold Go.wpOp
  simp only [hi]
  rcases hy with ⟨hw, hv⟩ | ⟨hw, rfl⟩
  · rw [if_pos hw]
    refine .inl ?_
    unfold Oper.wp
    rw [hv w hG]
    exact h
  · rw [if_neg (by rw [hw]; decide)]
    exact h
theorem YieldsG.track {G : World → Prop} {oi oj : Oper} {v : Value} {a : Act} (hs : ∀ cs b, oi.op ≠ .select cs b) (hd : ∀ d, oj.dst = some d → d ∉ oi.looksAt ops) (hy : YieldsG P ops G oi v a) (u : Value) (ds : List Deferred) : YieldsG P ops G oi v (Act.put { a with defers := ds } oj.dst u) := by
  unfold YieldsG at *
  rw [wanted_put oi { a with defers := ds } oj.dst u hd, execOp_put oi hs { a with defers := ds } oj.dst u hd]
  exact hy
/-- The same temporary, filled by nothing that is looked at. -/
theorem fake_apart {oi oj : Oper} {v : Value} (h : oi.apart ops oj = true) : ({ oi with op := .move (.const v), guard := none } : Oper).apart ops oj = true := by
  obtain ⟨h1, h2, h3⟩ := Oper.apart_spec h
  unfold Oper.apart
  simp only [Bool.and_eq_true]
  constructor
  · cases hd : oi.dst with
    | none => rfl
    | some d =>
      simp only [Bool.and_eq_true, Bool.not_eq_true', bne_iff_ne, ne_eq]
      exact ⟨by simpa using h1 d hd, h2 d hd⟩
  · cases hd : oj.dst with
    | none => rfl
    | some d => simp [Oper.looksAt, Op.operands]
theorem fake_yields {oi : Oper} {v : Value} (a : Act) : Yields P ops ({ oi with op := .move (.const v), guard := none } : Oper) v a :=
  .inl ⟨by simp [Region.wanted], fun w => by simp [execOp, Act.eval]⟩
theorem takeG_all {G : World → Prop} {i : Nat} {oi : Oper} {v : Value} (hi : ops[i]? = some oi) (hsel : ∀ (j : Nat) (o : Oper) cs b, ops[j]? = some o → o.op ≠ .select cs b)
    (hQ : ∀ c a w, Q (.panic c) (a.put oi.dst v) w → Q (.panic c) a w) :
    ∀ (fuel : Nat) (listed : Array Bool) (a : Act) (w : World),
      (∀ j oj, ops[j]? = some oj → j ≠ i → listed.getD j true = false → (∀ e ∈ oj.after, Region.binds md e = true → e.on ≠ i) → oi.apart ops oj = true) →
      i ∈ Region.ready md ops listed → YieldsG P ops G oi v a →
      wpG P md ops Q G fuel (listed.setIfInBounds i true) (a.put oi.dst v) w → wpG P md ops Q G (fuel + 1) listed a w := by
  intro fuel
  induction fuel with
  | zero =>
    intro listed a w _ hr hy H
    refine ⟨H.1, fun h => absurd (h ▸ hr) (by simp), fun j hj => ?_⟩
    by_cases hji : j = i
    · subst hji; exact hy.wpOp hi H.1 H
    · exact absurd (H.2.1 ▸ ready_mono hj hji) (by simp)
  | succ fuel ih =>
    intro listed a w hfree hr hy H
    refine ⟨H.1, fun h => absurd (h ▸ hr) (by simp), fun j hj => ?_⟩
    by_cases hji : j = i
    · subst hji; exact hy.wpOp hi H.1 H
    · obtain ⟨hjun, oj, hoj, hall⟩ := mem_ready.1 hj
      have hiun := (mem_ready.1 hr).1
      have hap := hfree j oj hoj hji hjun fun e he hb heq => by
        have h1 := hall e he hb
        rw [heq, Array.getD_eq_getD_getElem?] at h1
        rw [Array.getD_eq_getD_getElem?] at hiun
        cases hx : listed[i]? with
        | none => rw [hx] at h1; cases h1
        | some b => rw [hx] at h1 hiun; simp only [Option.getD_some] at h1 hiun; rw [h1] at hiun; cases hiun
      have h1 := H.2.2 j (ready_mono hj hji)
      have h2 := wpOp_track hoj (wpOp_put hoj (fake_apart (v := v) hap) (fun cs b e => by cases e) (fun cs b => hsel j oj cs b hoj) hQ (fake_yields a) h1)
      refine wpOp_mono (fun a' w' h3 => ?_) h2
      obtain ⟨⟨_, h4⟩, u, ds, rfl⟩ := h3
      refine ih _ _ w' (fun k ok hk hki hun hno => hfree k ok hk hki ?_ hno) (ready_mono hr (Ne.symm hji)) (hy.track (fun cs b => hsel i oi cs b hi) (Oper.apart_spec hap).2.2 u ds) ?_
      · by_cases hjk : j = k
        · subst hjk; exact hjun
        · rw [getD_set_ne true hjk] at hun; exact hun
      · rw [Array.setIfInBounds_comm _ _ hji]; exact h4
/-- An operation that only reads is taken as soon as it is ready. -/
theorem wpG.take {G : World → Prop} (i : Nat) {oi : Oper} {v : Value} {fuel : Nat} {listed : Array Bool} {a a' : Act} {w : World} (hi : ops[i]? = some oi) (hs : Region.noSelect ops = true) (hf : Region.free md ops listed i = true) (hr : (Region.ready md ops listed).contains i = true)
    (hw : Region.wanted oi (yielded ops a.tmps) = true) (hQ : ∀ c a w, Q (.panic c) (a.put oi.dst v) w → Q (.panic c) a w) (hy : ∀ w, G w → (execOp a.eval oi).run P w = .ok (.value v) w) (ha : a.put oi.dst v = a')
    (h : wpG P md ops Q G fuel (listed.setIfInBounds i true) a' w) : wpG P md ops Q G (fuel + 1) listed a w := by
  subst ha
  exact takeG_all hi (Region.noSelect_spec hs) hQ fuel listed a w (Region.free_spec hi hf) (by simpa using hr) (.inl ⟨hw, hy⟩) h
/-- One that its guard leaves out. -/
theorem wpG.skip {G : World → Prop} (i : Nat) {oi : Oper} {fuel : Nat} {listed : Array Bool} {a a' : Act} {w : World} (hi : ops[i]? = some oi) (hs : Region.noSelect ops = true) (hf : Region.free md ops listed i = true) (hr : (Region.ready md ops listed).contains i = true)
    (hw : Region.wanted oi (yielded ops a.tmps) = false) (hQ : ∀ c a w, Q (.panic c) (a.put oi.dst undef) w → Q (.panic c) a w) (ha : a.put oi.dst undef = a')
    (h : wpG P md ops Q G fuel (listed.setIfInBounds i true) a' w) : wpG P md ops Q G (fuel + 1) listed a w := by
  subst ha
  exact takeG_all hi (Region.noSelect_spec hs) hQ fuel listed a w (Region.free_spec hi hf) (by simpa using hr) (.inr ⟨hw, rfl⟩) h
/-- One that stands alone: a call, a store, an allocation. -/
theorem wpG.alone {G : World → Prop} (i : Nat) {oi : Oper} {fuel : Nat} {listed : Array Bool} {a : Act} {w : World} (hi : ops[i]? = some oi) (hr : Region.ready md ops listed = [i]) (hw : Region.wanted oi (yielded ops a.tmps) = true) (hG : G w)
    (h : ∀ K : Act → World → Prop, (∀ a w, wpG P md ops Q G fuel (listed.setIfInBounds i true) a w → K a w) → oi.wp P a w K Q) : wpG P md ops Q G (fuel + 1) listed a w := by
  refine ⟨hG, fun h0 => absurd (hr ▸ h0) (by simp), fun j hj => ?_⟩
  rw [hr, List.mem_singleton] at hj
  subst hj
  unfold Go.wpOp
  simp only [hi]
  rw [if_pos hw]
  exact .inl (h _ fun _ _ h => h)
theorem wpG.done {G : World → Prop} {fuel : Nat} {listed : Array Bool} {a : Act} {w : World} (hr : Region.ready md ops listed = []) (hG : G w) (h : Q .normal a w) : wpG P md ops Q G fuel listed a w := by
  cases fuel with
  | zero => exact ⟨hG, hr, h⟩
  | succ n => exact ⟨hG, fun _ => h, by rw [hr]; simp⟩
theorem wp_regionG {id : Nat} (G : World → Prop) {a : Act} {w : World} {l : List Oper} (hm : P.follows .mixedOrders = true) {n : Nat} (hn : l.length = n)
    (h : wpG P .any l.toArray Q G n (Array.replicate n false) a w.drew) : (Code.region id l.toArray true).wp P Q a w := by
  refine wp_region_any hm ?_
  have : l.toArray.size = n := by simpa using hn
  rw [this]
  exact h.any
end
end Sc
