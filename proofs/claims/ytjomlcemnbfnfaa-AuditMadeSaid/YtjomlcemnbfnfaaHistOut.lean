/- A list of histories that is being built, side by side with other things. -/
import Derived.Test.YtjomlcemnbfnfaaAu6
import Derived.Maps.AppendAt
namespace Sc
open Go Go.RowKit
section
variable {α : Type} {T k : Nat} {R : (Nat → Prop) → World → List Value → α → Prop}
/-- A list that is being built; what its elements lead to comes along. -/
def OutA (T k : Nat) (R : (Nat → Prop) → World → List Value → α → Prop) (hR : RStable R) (v : Value) (l : List α) : Asn :=
  ⟨fun F w => ∃ D, OutS T k R 0 w v l D ∧ (∀ g, v.ownBlock = some g → F g) ∧ (∀ b, D b → F b), fun _ _ _ hs hz ⟨D, h1, h2, h3⟩ => ⟨D, h1.same hR hs hz h2 h3, h2, h3⟩⟩
theorem Sep.outA_new {W w : World} {L : List Asn} (h : Sep W L w) (T k : Nat) (R : (Nat → Prop) → World → List Value → α → Prop) (hR : RStable R) : Sep W (L ++ [OutA T k R hR (.slice none 0 0) []]) w :=
  h.new (Below.refl _ _) (OutA T k R hR (.slice none 0 0) []) (F := fun _ => False) (fun _ h => h.elim) ⟨fun _ => False, OutS.nil, by simp [Value.ownBlock], fun _ h => h⟩
/-- One thing, and another within it. -/
def AndA (A B : Asn) : Asn := ⟨fun F w => A.P F w ∧ ∃ F' : Foot, (∀ k, F' k → F k) ∧ B.P F' w, fun _ _ _ hs hz ⟨h1, F', h2, h3⟩ => ⟨A.loc _ _ _ hs hz h1, F', h2, B.loc _ _ _ (hs.mono h2) hz h3⟩⟩
theorem Sep.outA_push {P : Program} {hR : RStable R} {W w w2 : World} {L : List Asn} (h : Sep W L w) (i : Nat) {v : Value} {l : List α} (hi : L[i]? = some (OutA T k R hR v l))
    (t ty : TypeId) (ii : TypeInfo) (z : Value) (bytes : Nat) (ht : P.underlying t = some (.slice T)) (hii : P.info? T = some ii) (hz : ii.zero = some z) (hsize : ii.size = k) (hby : ii.bytes = bytes) (hzs : z.cells.size = k) (hsz : 0 < k)
    {cs : Array Value} {x : α} (hcs : cs.toList.length = k) (hb : Below w.heap.size w w2) (hx : R (New w w2) (w2.alloc (.cells cs T (0, 0))) cs.toList x) (h1 : ∀ u ∈ cs.toList, u.oneCell' = true) (h63 : l.length + 1 ≤ maxLen) (hbytes : (l.length + 1) * bytes ≤ 140737488355328) (B : Nat) (hB : w2.heap.size = B) (E : Asn) (hE : E.P (New w w2) (w2.alloc (.cells cs T (0, 0)))) :
    ∃ g cap w', (Builtin.append_ #[t, t] ty #[v, .slice (some ⟨B, 0, none⟩) 1 1]).run P (w2.alloc (.cells cs T (0, 0))) = .ok (.slice (some ⟨g, 0, none⟩) (l.length + 1) cap) w' ∧
      Sep W (L.set i (AndA (OutA T k R hR (.slice (some ⟨g, 0, none⟩) (l.length + 1) cap) (l ++ [x])) E)) w' := by
  subst hB
  obtain ⟨F, G, ⟨D, hO, hv, hD⟩, _, _, hdF, _, K⟩ := h.at i hi
  have hba := below_alloc w2 (.cells cs T (0, 0))
  have hb2 := Below.up hb hba
  have hz := hb.size
  have hsz2 : (w2.alloc (.cells cs T (0, 0))).heap.size = w2.heap.size + 1 := by simp
  obtain ⟨css, q1, q2, q3, q4, q5⟩ := hO.up hR hb2
  obtain ⟨v', w', hr, ho, hg, hn, hat⟩ := run_append_own_at (P := P) (w2.alloc (.cells cs T (0, 0))) 0 t ty T ii z k bytes ht hii (by assumption) hsize hby hzs hsz v l.length css.flatten q3 ⟨w2.heap.size, 0, none⟩ 1 1 cs.toList (by rw [hcs, Nat.one_mul]) (World.news_of_block (cs := cs) (heap_alloc_new w2 _)) h1 h63 hbytes (Nat.zero_le _)
  have hlt := ho.lt
  obtain ⟨hxx, ⟨rfl, h0⟩ | ⟨g, cap, cur, rfl, hrest⟩⟩ := ho
  · exact absurd h0 (by omega)
  · have hat' : v.ownBlock = some g ∨ g = (w2.alloc (.cells cs T (0, 0))).heap.size := by
      rcases hat with e | e
      · exact .inl e.symm
      · refine .inr ?_
        simpa [Value.ownBlock] using e
    have hvl : ∀ q, v.ownBlock = some q → q < w.heap.size := fun q hq => hdF q (hv q hq)
    have hsn : OutS T k R 0 w' (.slice (some ⟨g, 0, none⟩) (l.length + 1) cap) (l ++ [x]) (fun b => D b ∨ New w w2 b) :=
      OutS.snoc (v := v) (D3 := New w w2) hR q1 q2 q4 q5 hcs hx (fun q hq => ⟨Nat.zero_le _, by have := hq.2; omega, fun e => by have := hvl q e; have := hq.1; omega⟩) ⟨hxx, .inr ⟨g, cap, cur, rfl, hrest⟩⟩ hg hat'
    have hgz := hg.size
    refine ⟨g, cap, w', hr, K w' (fun q => F q ∨ New w w' q) (AndA (OutA T k R hR (.slice (some ⟨g, 0, none⟩) (l.length + 1) cap) (l ++ [x])) E) (Chg.after_up hb2 (chg_grown hg fun q hq => hv q hq)) (fun q hq => hq) ⟨⟨_, hsn, ?_, ?_⟩, New w w2, fun q hq => .inr ⟨hq.1, by have := hq.2; omega⟩, E.loc _ _ _ (fun q hq => hg.block q (by have := hq.2; omega) (fun e => by have := hvl q e.symm; have := hq.1; omega)) hgz hE⟩⟩
    · intro q hq
      have : g = q := by simpa [Value.ownBlock] using hq
      subst this
      rcases hat' with e | e
      · exact .inl (hv g e)
      · exact .inr ⟨by omega, (hlt g rfl).2⟩
    · rintro q (hq | hq)
      · exact .inl (hD q hq)
      · exact .inr ⟨hq.1, by have := hq.2; omega⟩
/-- A cell of one of the elements, overwritten; what its new value leads to comes along. -/
theorem Sep.outA_set {hR : RStable R} {W w w2 : World} {L : List Asn} (h : Sep W L w) (i : Nat) {g c : Nat} {l : List α} (hi : L[i]? = some (OutA T k R hR (.slice (some ⟨g, 0, none⟩) l.length c) l)) (hb : Below w.heap.size w w2) {t : Nat} (ht : t < l.length) (j : Nat) (hj : j < k) (u : Value) (x' : α)
    (hx : ∀ D w' cs, cs.length = k → R D w' cs l[t] → (∀ b, New w w2 b → D b) → Same (New w w2) w2 w' → R D w' (cs.set j u) x') : Sep W (L.set i (OutA T k R hR (.slice (some ⟨g, 0, none⟩) l.length c) (l.set t x'))) (w2.setCell ⟨g, t * k + j, none⟩ u) := by
  obtain ⟨F, G, ⟨D, hO, hv, hD⟩, _, _, hdF, _, K⟩ := h.at i hi
  have hgF := hv g rfl
  have hgw := hdF g hgF
  have hz := hb.size
  obtain ⟨css, q1, q2, q3, q4, q5⟩ := hO.up hR hb
  obtain ⟨s1, s2⟩ := q3.stored (t * k + j) u
  have htc : t < css.length := by omega
  have hflat : css.flatten.set (t * k + j) u = (css.set t (css[t].set j u)).flatten := by
    have key : ∀ (m : List (List Value)) (_ : ∀ cs ∈ m, cs.length = k) (a : Nat) (ha : a < m.length), m.flatten.set (a * k + j) u = (m.set a (m[a].set j u)).flatten := by
      intro m
      induction m with
      | nil => intro _ a ha; simp at ha
      | cons y m ih =>
        intro hm a ha
        have hy := hm y (by simp)
        cases a with
        | zero =>
          simp only [List.flatten_cons, List.set_cons_zero, List.getElem_cons_zero, Nat.zero_mul, Nat.zero_add]
          rw [List.set_append_left _ _ (by omega)]
        | succ a =>
          have ih' := ih (fun cs hcs => hm cs (by simp [hcs])) a (by simpa using ha)
          simp only [List.flatten_cons, List.set_cons_succ, List.getElem_cons_succ]
          rw [List.set_append_right _ _ (by rw [hy, Nat.succ_mul]; omega), hy, show (a + 1) * k + j - k = a * k + j by rw [Nat.succ_mul]; omega, ih']
    exact key css q2 t htc
  have hsm : ∀ E : Nat → Prop, (∀ b, E b → b ≠ g) → Same E w2 (w2.setCell ⟨g, t * k + j, none⟩ u) := fun E hE q hq => Below.heap_setCell _ _ _ q (hE q hq)
  have hDg : ∀ b, D b → b ≠ g := fun b hb' e => (q5 b hb').2.2 (by rw [e]; rfl)
  have hNg : ∀ b, New w w2 b → b ≠ g := fun b hb' e => by have := hb'.1; omega
  have hsz : (w2.setCell ⟨g, t * k + j, none⟩ u).heap.size = w2.heap.size := by simp [World.setCell]
  refine K _ (fun q => F q ∨ New w (w2.setCell ⟨g, t * k + j, none⟩ u) q) (OutA T k R hR (.slice (some ⟨g, 0, none⟩) l.length c) (l.set t x')) (Chg.after_up hb (chg_set w2 g _ u hgF)) (fun q hq => hq) ⟨fun b => D b ∨ New w w2 b, ⟨css.set t (css[t].set j u), ?_, ?_, ?_, ?_, ?_⟩, ?_, ?_⟩
  · rw [List.length_set, List.length_set]; exact q1
  · intro cs hcs
    rcases List.mem_or_eq_of_mem_set hcs with hcs | rfl
    · exact q2 cs hcs
    · rw [List.length_set]; exact q2 _ (List.getElem_mem _)
  · rw [List.length_set, ← hflat]; exact s1
  · intro a ha ha'
    rw [List.length_set] at ha ha'
    have hold := hR D (fun b => D b ∨ New w w2 b) w2 (w2.setCell ⟨g, t * k + j, none⟩ u) css[a] l[a] (fun b hb' => Or.inl hb') (hsm D hDg) (q4 a ha ha')
    by_cases hat : a = t
    · subst hat
      rw [List.getElem_set_self, List.getElem_set_self]
      exact hx _ _ _ (q2 _ (List.getElem_mem _)) hold (fun b hb' => .inr hb') (hsm _ hNg)
    · rw [List.getElem_set_ne (fun e => hat e.symm), List.getElem_set_ne (fun e => hat e.symm)]
      exact hold
  · rintro b (hb' | hb')
    · exact ⟨Nat.zero_le _, by rw [hsz]; exact (q5 b hb').2.1, (q5 b hb').2.2⟩
    · exact ⟨Nat.zero_le _, by rw [hsz]; exact hb'.2, fun e => hNg b hb' (by simpa [Value.ownBlock] using e.symm)⟩
  · intro q hq
    obtain rfl : g = q := by simpa [Value.ownBlock] using hq
    exact .inl hgF
  · rintro q (hq | hq)
    · exact .inl (hD q hq)
    · exact .inr ⟨hq.1, by rw [hsz]; exact hq.2⟩
end
/-- What a history's cells hold. -/
def histR (D : Nat → Prop) (w : World) (cs : List Value) (x : Hist) : Prop := ∃ rv pv, cs = [.int .i64 x.state, .int .i64 x.begun, .int .i64 x.time, .int .i64 x.since, .int .i64 x.upto, rv, pv] ∧ (I64 x.state ∧ I64 x.begun ∧ I64 x.time ∧ I64 x.since ∧ I64 x.upto) ∧ ReadsAt D w rv x.reads ∧ PutsAt D w pv x.puts
theorem histR_stable : RStable histR := fun _ _ _ _ _ _ hd hs ⟨rv, pv, h1, h2, h3, h4⟩ => ⟨rv, pv, h1, h2, SlAt.mono (h3.same hs) hd (fun _ _ _ ⟨a1, a2, ⟨v, a3, a4⟩, a5⟩ => ⟨a1, a2, ⟨v, a3, a4.mono hd⟩, a5⟩), (h4.same hs).mono hd⟩
def HistOA (T : Nat) (v : Value) (l : List Hist) : Asn := OutA T 7 histR histR_stable v l
theorem histOA_hists {T : Nat} {v : Value} {l : List Hist} {F : Nat → Prop} {w : World} (h : (HistOA T v l).P F w) : HistsAt F w v l := by
  obtain ⟨D, hO, h2, h3⟩ := h
  obtain ⟨css, a1, a2, a3, a4, _⟩ := hO
  have hrow := a3
  obtain ⟨hx, hc | ⟨g, cap, cur, rfl, hb, hg, hnc, hcm, hcs, htake⟩⟩ := a3
  · obtain ⟨rfl, hl0⟩ := hc
    obtain rfl : l = [] := List.length_eq_zero_iff.1 hl0
    exact SlAt.nil
  · refine ⟨_, cap, rfl, hnc, by unfold maxLen at hcm; omega, (by intro hh; cases hh), fun i hi => ⟨g, 0, rfl, h2 g rfl, ?_⟩⟩
    have hi' : i < css.length := by omega
    obtain ⟨rv, pv, e1, e2, e3, e4⟩ := a4 i hi' hi
    have hf : ∀ j, j < 7 → w.cell? ⟨g, 0 + i * 7 + j, none⟩ = css[i][j]? := fun j hj => by
      rw [Nat.zero_add, hrow.cellAt (i * 7 + j) (by omega)]
      exact flat_get a2 i hi' j hj
    have f0 := hf 0 (by omega)
    rw [Nat.add_zero] at f0
    rw [e1] at hf f0
    have hr' : ReadsAt F w rv l[i].reads := SlAt.mono e3 h3 (fun _ _ _ ⟨a1, a2, ⟨v, a3, a4⟩, a5⟩ => ⟨a1, a2, ⟨v, a3, a4.mono h3⟩, a5⟩)
    exact ⟨f0, hf 1 (by omega), hf 2 (by omega), hf 3 (by omega), hf 4 (by omega), e2, ⟨rv, hf 5 (by omega), hr'⟩, pv, hf 6 (by omega), e4.mono h3⟩
end Sc
