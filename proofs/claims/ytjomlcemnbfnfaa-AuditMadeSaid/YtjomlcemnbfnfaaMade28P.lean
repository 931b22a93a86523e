/- AuditMade: plain: histories that were made one behind the other. -/
import Derived.Test.YtjomlcemnbfnfaaSerial28P
import Derived.Test.YtjomlcemnbfnfaaPrefLaw28
namespace Go.Proofs
open Sc Go.Sort

/-- A history of the law's: it read a, and wrote b. -/
def mdH (i : Nat) (a : Int) (d : Bytes) (b : Int) (e : Bytes) : Hist := ⟨3, i, (i : Int) + 1, 2 * (i : Int) + 1, 2 * (i : Int) + 2, [⟨a, d, false⟩], [⟨b, e⟩]⟩
structure MdOk (a : Int) (d : Bytes) (b : Int) (e : Bytes) : Prop where
  a0 : 0 ≤ a ∧ a < 8
  b0 : 0 ≤ b ∧ b < 8
  d0 : d.length = 40
  e0 : e.length = 40
def MadeW (l : List Hist) : Prop := ∀ i (hi : i < l.length), ∃ a d b e, MdOk a d b e ∧ l[i] = mdH i a d b e
def mdSt (l : List Hist) (i : Nat) : List (Int × Bytes) := runAll [] ((l.take i).map (·.puts))
def Made (l : List Hist) : Prop := ∀ i (hi : i < l.length), ∃ a b e, MdOk a ((alook (mdSt l i) a).getD zeroB) b e ∧ l[i] = mdH i a ((alook (mdSt l i) a).getD zeroB) b e
theorem Made.w {l : List Hist} (h : Made l) : MadeW l := fun i hi => let ⟨a, b, e, h1, h2⟩ := h i hi; ⟨a, _, b, e, h1, h2⟩
theorem Made.nil : Made [] := fun i hi => absurd hi (by simp)
theorem mdSt_all (l : List Hist) : mdSt l l.length = runAll [] (l.map (·.puts)) := by unfold mdSt; rw [List.take_length]
theorem mdSt_app {l m : List Hist} {i : Nat} (hi : i ≤ l.length) : mdSt (l ++ m) i = mdSt l i := by unfold mdSt; rw [List.take_append_of_le_length hi]
theorem mdSt_snoc (l : List Hist) (x : Hist) : mdSt (l ++ [x]) (l ++ [x]).length = runPuts (mdSt l l.length) x.puts := by
  rw [mdSt_all, mdSt_all, List.map_append]
  unfold runAll
  rw [List.foldl_append]; rfl
theorem Made.snoc {l : List Hist} (h : Made l) {a b : Int} {e : Bytes} (ho : MdOk a ((alook (mdSt l l.length) a).getD zeroB) b e) : Made (l ++ [mdH l.length a ((alook (mdSt l l.length) a).getD zeroB) b e]) := fun i hi => by
  by_cases hlt : i < l.length
  · obtain ⟨a', b', e', h1, h2⟩ := h i hlt
    refine ⟨a', b', e', ?_, ?_⟩
    · rw [mdSt_app (by omega)]; exact h1
    · rw [List.getElem_append_left hlt, mdSt_app (by omega)]; exact h2
  · have : i = l.length := by simp at hi; omega
    subst this
    refine ⟨a, b, e, ?_, ?_⟩
    · rw [mdSt_app (Nat.le_refl _)]; exact ho
    · rw [List.getElem_append_right (Nat.le_refl _), mdSt_app (Nat.le_refl _)]
      simp
section
variable {l : List Hist} (h : MadeW l)
include h
theorem md_wrote : ∀ x ∈ l, wroteH x = true := fun x hx => by
  obtain ⟨i, hi, rfl⟩ := List.mem_iff_getElem.1 hx
  obtain ⟨a, d, b, e, _, h2⟩ := h i hi
  rw [h2]; rfl
theorem md_time {i : Nat} (hi : i < l.length) : timeAt l i = (i : Int) + 1 := by
  rw [timeAt_lt hi]
  obtain ⟨a, d, b, e, _, h2⟩ := h i hi
  rw [h2]; rfl
theorem md_rise : l.Pairwise fun x y => x.time < y.time := by
  rw [List.pairwise_iff_getElem]
  intro i j hi hj hij
  rw [← timeAt_lt hi, ← timeAt_lt hj, md_time h hi, md_time h hj]
  omega
theorem md_ordI : ordI l = List.range l.length := by
  have h1 : ordIdx l = List.range l.length := by
    unfold ordIdx
    rw [List.filter_eq_self]
    intro k hk
    have hk' := List.mem_range.1 hk
    unfold wroteAt
    rw [List.getElem?_eq_getElem hk']
    exact md_wrote h _ (List.getElem_mem hk')
  refine (ordI_unique (by rw [h1]) ?_).symm
  rw [List.pairwise_iff_getElem]
  intro i j hi hj hij
  rw [List.length_range] at hi hj
  rw [List.getElem_range, List.getElem_range]
  unfold ordLe
  rw [decide_eq_true_eq, md_time h hi, md_time h hj]
  exact .inl (by omega)
theorem md_ordP : ordP l = l.map (·.puts) := by
  unfold ordP
  rw [ordH_self (md_wrote h) (md_rise h)]
theorem md_ahead {i : Nat} (hi : i < l.length) : ordP (aheadH l l[i] (ordI l)) = (l.take i).map (·.puts) := by
  have hb : l[i].begun = (i : Int) := by
    obtain ⟨a, d, b, e, _, h2⟩ := h i hi
    rw [h2]; rfl
  have hf : (List.range l.length).filter (aheadP l l[i]) = List.range i := by
    obtain ⟨m, hm⟩ : ∃ m, l.length = i + m := ⟨l.length - i, by omega⟩
    rw [hm, List.range_add, List.filter_append]
    have e1 : (List.range i).filter (aheadP l l[i]) = List.range i := by
      rw [List.filter_eq_self]
      intro k hk
      have hk' := List.mem_range.1 hk
      unfold aheadP
      rw [decide_eq_true_eq, md_time h (by omega), hb]
      omega
    have e2 : ((List.range m).map (i + ·)).filter (aheadP l l[i]) = [] := by
      rw [List.filter_eq_nil_iff]
      intro k hk
      obtain ⟨q, hq, rfl⟩ := List.mem_map.1 hk
      have hq' := List.mem_range.1 hq
      unfold aheadP
      rw [decide_eq_true_eq, md_time h (show i + q < l.length by omega), hb]
      omega
    rw [e1, e2, List.append_nil]
  have ha : aheadH l l[i] (ordI l) = l.take i := by
    unfold aheadH
    rw [md_ordI h, hf]
    apply List.ext_getElem
    · simp; omega
    · intro j h1 h2
      have hj : j < i := by simpa using h1
      have hjl : j < l.length := by omega
      simp [List.getD_eq_getElem?_getD, List.getElem?_eq_getElem hjl]
  unfold ordP
  rw [ha, ordH_self (fun x hx => md_wrote h x (List.mem_of_mem_take hx)) ((md_rise h).sublist (List.take_sublist _ _))]
theorem md_code {i : Nat} (hi : i < l.length) {a : Int} {d : Bytes} {b : Int} {e : Bytes} (hx : l[i] = mdH i a d b e) : oneCode l i l[i] = if (alook (mdSt l i) a).getD zeroB = d then 0 else 13 := by
  have hs : sawB l l[i] = ((alook (mdSt l i) a).getD zeroB == d) := by
    have ha := md_ahead h hi
    unfold sawB
    have hr : l[i].reads = [⟨a, d, false⟩] := by rw [hx]; rfl
    rw [hr]
    simp only [List.all_cons, List.all_nil, Bool.and_true]
    unfold sawAt
    rw [ha]
    simp [mdSt]
  have c1 : (wroteH l[i] && ((ordI l).map fun k : Nat => (k : Int)).any (sameB l i l[i].time)) = false := by
    rw [Bool.and_eq_false_iff]
    refine .inr (List.any_eq_false.2 fun k hk => ?_)
    obtain ⟨q, hq, rfl⟩ := List.mem_map.1 hk
    rw [md_ordI h] at hq
    have hq' := List.mem_range.1 hq
    unfold sameB
    rw [Int.toNat_natCast, md_time h hq', hx]
    simp [mdH]
    omega
  have c3 : (wroteH l[i] && (ordI l).any (hitC l l[i])) = false := by
    rw [Bool.and_eq_false_iff]
    refine .inr (List.any_eq_false.2 fun q hq => ?_)
    rw [md_ordI h] at hq
    have hq' := List.mem_range.1 hq
    unfold hitC
    rw [md_time h hq', hx]
    by_cases hc : (i : Int) < (q : Int) + 1
    · rw [show decide ((q : Int) + 1 < (mdH i a d b e).time) = false from decide_eq_false (by show ¬ (q : Int) + 1 < (i : Int) + 1; omega)]
      simp
    · rw [show decide ((mdH i a d b e).begun < (q : Int) + 1) = false from decide_eq_false hc]
      simp
  have c4 : (ordI l).any (hitT l l[i]) = false := by
    refine List.any_eq_false.2 fun q hq => ?_
    rw [md_ordI h] at hq
    have hq' := List.mem_range.1 hq
    obtain ⟨a', d', b', e', _, h2⟩ := h q hq'
    unfold hitT
    rw [List.getD_eq_getElem?_getD, List.getElem?_eq_getElem hq', md_time h hq', hx]
    show ¬ (decide (0 < l[q].upto) && (decide (l[q].upto < (mdH i a d b e).since) && decide ((mdH i a d b e).begun < (q : Int) + 1))) = true
    rw [h2]
    by_cases hc : (i : Int) < (q : Int) + 1
    · rw [show decide ((mdH q a' d' b' e').upto < (mdH i a d b e).since) = false from decide_eq_false (by show ¬ 2 * (q : Int) + 2 < 2 * (i : Int) + 1; omega)]
      simp
    · rw [show decide ((mdH i a d b e).begun < (q : Int) + 1) = false from decide_eq_false hc]
      simp
  unfold oneCode
  rw [c1, if_neg (by decide), hs, c3, c4]
  by_cases hq : (alook (mdSt l i) a).getD zeroB = d
  · rw [if_pos hq, hq]; simp
  · rw [if_neg hq, if_pos (by rw [beq_eq_false_iff_ne]; exact hq)]
theorem md_may (hn : l.length ≤ 1000) : ∀ x ∈ l, mayB 8 x = true := fun x hx => by
  obtain ⟨i, hi, rfl⟩ := List.mem_iff_getElem.1 hx
  obtain ⟨a, d, b, e, ho, h2⟩ := h i hi
  rw [h2]
  have ha : ∀ (k : Int) (q : Bytes), 0 ≤ k ∧ k < 8 → q.length = 40 → blkA 8 k q = true := fun k q h1 h3 => by
    unfold blkA
    rw [decide_eq_true h1.1, decide_eq_true h1.2, decide_eq_true h3]; rfl
  refine mayB_iff.2 ⟨?_, ?_, by simp [mdH], ?_⟩
  · show (true && true && decide (0 ≤ (i : Int)) && decide ((i : Int) ≤ 1099511627776) && (!true || (decide ((i : Int) < (i : Int) + 1) && decide ((i : Int) + 1 ≤ 1099511627776)))) = true
    rw [decide_eq_true (show 0 ≤ (i : Int) by omega), decide_eq_true (show (i : Int) ≤ 1099511627776 by omega), decide_eq_true (show (i : Int) < (i : Int) + 1 by omega), decide_eq_true (show (i : Int) + 1 ≤ 1099511627776 by omega)]; rfl
  · show (blkA 8 a d && true) = true
    rw [ha a d ho.a0 ho.d0]; rfl
  · show (blkA 8 b e && true) = true
    rw [ha b e ho.b0 ho.e0]; rfl
theorem md_idx (hn : l.length ≤ 1000) : ¬ 0 ≤ idxOf (fun h => !mayB 8 h) l := by
  rw [idxOf_miss]
  · decide
  · intro j hj
    have := md_may h hn _ (List.getElem_mem hj)
    rw [this]; rfl
end
/-- All of them as they were made: they pass. -/
theorem Made.pass {l : List Hist} (h : Made l) (hn : l.length ≤ 1000) : checkRes 8 l = (-1, 0) :=
  checkRes_ok (by omega) (md_idx h.w hn) fun m hm => by
    obtain ⟨a, b, e, _, h2⟩ := h m hm
    rw [md_code h.w hm h2, if_pos rfl]
theorem Made.prefd {l : List Hist} (h : Made l) (hn : l.length ≤ 1000) (h0 : 0 < l.length) : prefixRes 8 l (allPuts (mdSt l l.length)) = ((l.length : Int), true) := by
  have hp := md_ordP h.w
  have hok : okLen 8 (ordP l) = l.length := by
    rw [hp, okLen_all, List.length_map]
    intro p hp
    obtain ⟨x, hx, rfl⟩ := List.mem_map.1 hp
    exact may_run (n := 8) (md_may h.w hn x hx)
  have hb : prefBest (allPuts (mdSt l l.length)) (ordP l) l.length = (l.length : Int) := by
    obtain ⟨k, hk⟩ : ∃ k, l.length = k + 1 := ⟨l.length - 1, by omega⟩
    have hs : samePuts (allPuts (runAll [] ((ordP l).take (k + 1)))) (allPuts (mdSt l l.length)) = true := by
      rw [samePuts_iff, hp, ← hk, mdSt_all, List.take_of_length_le (by simp)]
    rw [show prefBest (allPuts (mdSt l l.length)) (ordP l) l.length = prefBest (allPuts (mdSt l l.length)) (ordP l) (k + 1) by rw [← hk]]
    unfold prefBest
    rw [if_pos hs, hk]
  unfold prefixRes
  rw [if_neg (by omega), hok, hb, if_neg (by omega)]
/-- One read turned: it is found. -/
theorem Made.turned {l : List Hist} (h : Made l) (hn : l.length ≤ 1000) {t : Nat} (ht : t < l.length) {a : Int} {d d' : Bytes} {b : Int} {e : Bytes} (hx : l[t] = mdH t a d b e) (hd : d' ≠ d) (hl : d'.length = 40) : checkRes 8 (l.set t (mdH t a d' b e)) = ((t : Int), 13) := by
  have hlen : (l.set t (mdH t a d' b e)).length = l.length := List.length_set ..
  have hinj : ∀ {a1 d1 b1 e1 a2 d2 b2 e2}, mdH t a1 d1 b1 e1 = mdH t a2 d2 b2 e2 → a1 = a2 ∧ d1 = d2 ∧ b1 = b2 ∧ e1 = e2 := fun h => by
    unfold mdH at h
    simp only [Hist.mk.injEq, List.cons.injEq, Sc.Read.mk.injEq, Sc.Put.mk.injEq, true_and, and_true] at h
    exact ⟨h.1.1, h.1.2, h.2.1, h.2.2⟩
  obtain ⟨a1, b1, e1, ho, h2⟩ := h t ht
  obtain ⟨rfl, rfl, rfl, rfl⟩ := hinj (hx.symm.trans h2)
  have hputs : (l.set t (mdH t a d' b e)).map (·.puts) = l.map (·.puts) := by
    rw [List.map_set]
    apply List.ext_getElem
    · simp
    · intro i h1 h3
      rw [List.getElem_set]
      split
      · rename_i e0
        subst e0
        rw [List.getElem_map, hx]; rfl
      · rfl
  have hst : ∀ i, mdSt (l.set t (mdH t a d' b e)) i = mdSt l i := fun i => by
    unfold mdSt
    rw [List.map_take, List.map_take, hputs]
  have hw : MadeW (l.set t (mdH t a d' b e)) := fun i hi => by
    rw [hlen] at hi
    by_cases hit : i = t
    · subst hit
      exact ⟨a, d', b, e, ⟨ho.a0, ho.b0, hl, ho.e0⟩, by rw [List.getElem_set_self]⟩
    · obtain ⟨a2, b2, e2, k1, k2⟩ := h i hi
      exact ⟨a2, _, b2, e2, k1, by rw [List.getElem_set_ne (fun e => hit e.symm)]; exact k2⟩
  have hself : (l.set t (mdH t a d' b e))[t]'(by rw [hlen]; exact ht) = mdH t a d' b e := List.getElem_set_self ..
  have hcode := md_code hw (i := t) (by rw [hlen]; exact ht) hself
  rw [hst, if_neg (fun e => hd e.symm)] at hcode
  have := checkRes_hit (n := 8) (l := l.set t (mdH t a d' b e)) (i := t) (by omega) (md_idx hw (by rw [hlen]; exact hn)) (by rw [hlen]; exact ht) (by rw [hcode]; decide) (fun m hm hmt => by
    rw [hlen] at hm
    obtain ⟨a2, b2, e2, k1, k2⟩ := h m hm
    have e0 : (l.set t (mdH t a d' b e))[m]'(by rw [hlen]; exact hm) = mdH m a2 ((alook (mdSt l m) a2).getD zeroB) b2 e2 := by rw [List.getElem_set_ne (by omega)]; exact k2
    rw [md_code hw (by rw [hlen]; exact hm) e0, hst, if_pos rfl])
  rw [this, hcode]
theorem check_pos {n : Int} {l : List Hist} (hn : 1 ≤ n ∧ n ≤ 1048576) (h : (checkRes n l).2 ≠ 0) : 0 ≤ (checkRes n l).1 := by
  unfold checkRes at h ⊢
  rw [if_neg (by omega)] at h ⊢
  split
  · assumption
  · rename_i h2
    rw [if_neg h2] at h
    split
    · show (0 : Int) ≤ _
      omega
    · rename_i h3
      rw [h3] at h
      exact absurd rfl h
/-- Two put at one time: that is found. -/
theorem MadeW.twice {l : List Hist} (h : MadeW l) {t : Nat} (ht : t + 1 < l.length) {x : Hist} (hx : x.time = (t : Int) + 1) (hw : wroteH x = true) : 0 ≤ (checkRes 8 (l.set (t + 1) x)).1 ∧ (checkRes 8 (l.set (t + 1) x)).2 ≠ 0 := by
  have hlen : (l.set (t + 1) x).length = l.length := List.length_set ..
  have hne : (checkRes 8 (l.set (t + 1) x)).2 ≠ 0 := fun h0 => by
    obtain ⟨_, hz⟩ := checkRes_zero h0
    have hself : (l.set (t + 1) x)[t + 1]'(by rw [hlen]; exact ht) = x := List.getElem_set_self ..
    have h1 := hz (t + 1) (by rw [hlen]; exact ht)
    rw [hself] at h1
    have hm : t ∈ ordI (l.set (t + 1) x) := by
      refine mem_ordI.2 ⟨by rw [hlen]; omega, ?_⟩
      rw [List.getElem_set_ne (by omega)]
      exact md_wrote h _ (List.getElem_mem _)
    refine (one_zero h1).1 hw t hm (by omega) ?_
    rw [timeAt_lt (by rw [hlen]; omega), List.getElem_set_ne (by omega), ← timeAt_lt (by omega), md_time h (by omega), hx]
  exact ⟨check_pos (by omega) hne, hne⟩
end Go.Proofs
