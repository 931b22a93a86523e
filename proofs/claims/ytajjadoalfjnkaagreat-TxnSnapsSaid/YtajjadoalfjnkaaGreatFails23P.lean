/- TxnFails: plain. -/
import Derived.Test.YtajjadoalfjnkaaGreatTimes23P
import Derived.Test.YtajjadoalfjnkaaGreatClash23P
namespace Go.Proofs
open Go.RowKit Sc
structure FI (i : Nat) (s : MgS) : Prop where
  t : TimesI 0 i s
  q : s.queue = (List.range i).map fun k : Nat => (k : Int) + 1
  o : s.out = 0
  nm : s.num = 0
  l0 : s.last0 = 0
  x : ∀ k : Nat, k < i → txAt s.txs ((k : Int) + 1) = ⟨2, (k : Int) + 1, 0, 0, [((k : Int), dataB k)], [], []⟩
theorem FI.start : FI 0 (mgNew 20 0) := ⟨TimesI.start (by omega) (by omega), rfl, rfl, rfl, rfl, fun k h => by omega⟩
theorem FI.next {i : Nat} {s : MgS} (h : FI i s) (hi : i < 14) : begC s = 0 ∧ begH s = (i : Int) + 1 ∧ MgG (i + 1) (begNext s) ∧ wrCode (begNext s) ((i : Int) + 1) [⟨i, dataB i⟩] = 0 ∧ MgG (i + 1) (wrNext (begNext s) ((i : Int) + 1) [⟨i, dataB i⟩]) ∧ (wrNext (begNext s) ((i : Int) + 1) [⟨i, dataB i⟩]).queue.length ≤ 1000000 ∧
    cmCode (wrNext (begNext s) ((i : Int) + 1) [⟨i, dataB i⟩]) ((i : Int) + 1) = 0 ∧ FI (i + 1) (cmNext (wrNext (begNext s) ((i : Int) + 1) [⟨i, dataB i⟩]) ((i : Int) + 1)) := by
  have hd := data_sz (i : Int)
  obtain ⟨n1, n2, n3, n4, n5, n6, n7, n8, n9⟩ := h.t.next hi hd
  rw [if_pos (by omega)] at n7
  refine ⟨n1, n2, n3, n4, n5, n6, n7, ?_⟩
  obtain ⟨b1, b2, b3⟩ := beg_ok h.t.g (by have := h.t.k; omega)
  obtain ⟨t1, t2, t3, t4⟩ := beg_tx h.t.g (by have := h.t.k; omega)
  have hn := h.t.n
  rw [hn] at b2 t1 t2 t4
  have hb1 : (begNext s).blocks = 20 := by rw [b3]; exact h.t.b
  obtain ⟨w1, w2, w3, w4, w5, w6⟩ := wr_tx (k := (i : Int)) (d := dataB i) t1 (by rw [hb1]; omega) hd (by rw [t2]; show 0 < 16; omega)
  rw [t2] at w4
  have e2 : (wrNext (begNext s) ((i : Int) + 1) [⟨i, dataB i⟩]) = { begNext s with txs := (wrNext (begNext s) ((i : Int) + 1) [⟨i, dataB i⟩]).txs } := by rw [w2]; rfl
  have hgv := h.t.gv
  have hl := h.t.l
  generalize hS : wrNext (begNext s) ((i : Int) + 1) [⟨i, dataB i⟩] = S at *
  have s1 : S.queue = s.queue := by rw [e2, b3]
  have s4 : S.given = s.given := by rw [e2, b3]
  have hbl : ¬ (txOf S ((i : Int) + 1)).buf.length = 0 := by rw [txOf_txAt, w4]; show ¬ 1 = 0; omega
  have hm : mayC S (txOf S ((i : Int) + 1)) = 0 := by
    unfold cmCode at n7
    rw [if_pos w3, if_neg hbl] at n7
    exact n7
  obtain ⟨c1, c2⟩ := cm_ok w3 (by omega) hm
  obtain ⟨y1, y2, y3⟩ := wait_tx w3
  rw [c2] at n9 ⊢
  refine ⟨n9, ?_, by show S.out = 0; rw [e2, b3]; exact h.o, by show S.num = 0; rw [e2, b3]; exact h.nm, by show S.last0 = 0; rw [e2, b3]; exact h.l0, fun k hk => ?_⟩
  · show S.queue ++ [(i : Int) + 1] = _
    rw [s1, h.q, List.range_succ, List.map_append]; rfl
  · by_cases e : k = i
    · subst e
      rw [y1, w4, s4, hgv, hl]
      have e1 : min (0 + (k : Int)) 1099511627776 = (k : Int) := by omega
      rw [e1]; rfl
    · rw [y2 _ (by omega) (by omega), w5 _ (by omega) (by omega), t3 _ (by omega) (by omega)]
      exact h.x k (by omega)
/-- What a batch that fails turns. -/
theorem doneTo_fail {n : Nat} {s : MgS} (g : MgG n s) {code : Int} (hc : code ≠ 0) : ∀ j, j ≤ s.queue.length → (doneTo code s j).vs = s.vs ∧ (doneTo code s j).last = s.last ∧ (doneTo code s j).last0 = s.last0 ∧ ∀ x : Int, 1 ≤ x → txAt (doneTo code s j).txs x = if x ∈ s.queue.take j then endTx (txAt s.txs x) 4 code else txAt s.txs x
  | 0, _ => by rw [doneTo_zero]; exact ⟨rfl, rfl, rfl, fun x _ => by simp⟩
  | j + 1, h => by
    obtain ⟨i1, i2, i3, i4⟩ := doneTo_fail g hc j (by omega)
    have hjl : j < s.queue.length := by omega
    have hl := (doneTo_same code s j (by omega)).2.1
    obtain ⟨q1, q2⟩ := g.qr _ (List.getElem_mem hjl)
    have e : doneTo code s (j + 1) = endNext (doneTo code s j) s.queue[j] 4 code := by
      rw [doneTo_succ code s hjl]
      unfold doStep
      rw [if_neg hc]
    obtain ⟨y1, y2, y3⟩ := end_tx (s := doneTo code s j) (h := s.queue[j]) (st := 4) (cd := code) q1 (by rw [hl]; exact q2)
    have hnm : s.queue[j] ∉ s.queue.take j := fun hm => by
      obtain ⟨q, hq, he⟩ := List.mem_iff_getElem.1 hm
      rw [List.length_take] at hq
      rw [List.getElem_take] at he
      have := (List.nodup_iff_pairwise_ne.1 g.qd)
      exact (List.pairwise_iff_getElem.1 this) q j (by omega) hjl (by omega) he
    rw [e]
    refine ⟨i1, i2, i3, fun x hx => ?_⟩
    rw [take_snoc _ _ hjl]
    by_cases hxe : x = s.queue[j]
    · subst hxe
      rw [y1, i4 _ hx, if_neg hnm, if_pos (List.mem_append_right _ (List.mem_singleton.2 rfl))]
    · rw [y2 x hx hxe, i4 x hx]
      by_cases hm : x ∈ s.queue.take j
      · rw [if_pos hm, if_pos (List.mem_append_left _ hm)]
      · rw [if_neg hm, if_neg (fun hh => (List.mem_append.1 hh).elim hm fun h2 => hxe (List.mem_singleton.1 h2))]
structure FE (N K : Nat) (code : Int) (s : MgS) : Prop where
  g : MgG (N + 128) s
  b : s.blocks = 20
  v : s.vs = []
  l : s.last = 0
  l0 : s.last0 = 0
  o : s.out = 0
  nm : s.num = 0
  q : s.queue = (List.range (N - K)).map fun k : Nat => ((K + k : Nat) : Int) + 1
  r1 : ∀ h : Nat, 1 ≤ h → h ≤ K → resOf s h = (4, 0, code)
  r2 : ∀ h : Nat, K < h → h ≤ N → (resOf s h).1 = 2
  x : ∀ k : Nat, K ≤ k → k < N → txAt s.txs ((k : Int) + 1) = ⟨2, (k : Int) + 1, 0, 0, [((k : Int), dataB k)], [], []⟩
theorem FI.qlen {i : Nat} {s : MgS} (h : FI i s) : s.queue.length = i := by rw [h.q]; simp
theorem FI.fail {N : Nat} {s : MgS} (h : FI N s) (hN : 1 ≤ N) (hN2 : N ≤ 14) {code : Int} (hc : code ≠ 0) : baCode s = 0 ∧ ∃ K : Nat, 1 ≤ K ∧ K ≤ N ∧ K ≤ 8 ∧ formN (waitL s) = K ∧ MgG N (baNext s) ∧ (baNext s).queue.length ≤ 1000000 ∧ (baNext s).out ≤ 8 ∧ baCode (baNext s) = 16 ∧ doneCode (baNext s) = 0 ∧ FE N K code (doneNext (baNext s) code) := by
  have hql := h.qlen
  obtain ⟨a1, a2⟩ := ba_ok h.o (by rw [hql]; omega)
  have h1 := formN_pos (l := waitL s) (by rw [waitL_len, hql]; omega)
  have h2 := formN_bd (waitL s)
  rw [waitL_len, hql] at h2
  obtain ⟨K, hK⟩ : ∃ K, formN (waitL s) = K := ⟨_, rfl⟩
  rw [hK] at h1 h2 a2
  have g1 := h.t.g.batches
  have hlast := h.t.l
  refine ⟨a1, K, by omega, by omega, by omega, hK, g1, by rw [a2]; show s.queue.length ≤ _; omega, by rw [a2]; show (K : Int) ≤ 8; omega, by rw [a2]; exact if_pos (by show (0 : Int) < K; omega), by rw [a2]; exact if_neg (by show ¬ (K : Int) = 0; omega), ?_⟩
  have g2 := g1.dones code (by rw [a2]; show (K : Int) ≤ 8; omega)
  have hd : doneNext (baNext s) code = { doneTo code (baNext s) K with num := s.num, queue := s.queue.drop K, out := 0 } := by
    rw [a2]
    unfold doneNext doneTo
    rw [if_neg (by show ¬ (K : Int) = 0; omega), if_neg hc]
    rfl
  have hqb : (baNext s).queue = s.queue := by rw [a2]
  have htb : (baNext s).txs = s.txs := by rw [a2]
  obtain ⟨f1, f2, f3, f4⟩ := doneTo_fail g1 hc K (by rw [hqb]; omega)
  obtain ⟨z1, z2, z3⟩ := doneTo_same code (baNext s) K (by rw [hqb]; omega)
  have hmem : ∀ k : Nat, ((k : Int) + 1 ∈ s.queue.take K) ↔ k < K := fun k => by
    rw [h.q, ← List.map_take, List.take_range]
    simp only [List.mem_map, List.mem_range]
    constructor
    · rintro ⟨a, ha, e⟩
      omega
    · intro hk
      exact ⟨k, by omega, rfl⟩
  rw [hqb, htb] at f4
  rw [hd] at g2 ⊢
  have hlen : (doneTo code (baNext s) K).txs.length = N := by rw [z2, htb]; exact h.t.n
  have hres : ∀ k : Nat, k < N → resOf { doneTo code (baNext s) K with num := s.num, queue := s.queue.drop K, out := 0 } ((k : Int) + 1) = ((txAt (doneTo code (baNext s) K).txs ((k : Int) + 1)).st, (txAt (doneTo code (baNext s) K).txs ((k : Int) + 1)).tm, (txAt (doneTo code (baNext s) K).txs ((k : Int) + 1)).cd) := fun k hk => res_at (by omega) (by show (k : Int) + 1 ≤ (doneTo code (baNext s) K).txs.length; rw [hlen]; omega)
  refine ⟨g2, ?_, ?_, ?_, ?_, rfl, h.nm, ?_, fun m hm1 hm2 => ?_, fun m hm1 hm2 => ?_, fun k hk1 hk2 => ?_⟩
  · show (doneTo code (baNext s) K).blocks = 20
    rw [z3, a2]; exact h.t.b
  · show (doneTo code (baNext s) K).vs = []
    rw [f1, a2]; exact h.t.v
  · show (doneTo code (baNext s) K).last = 0
    rw [f2, a2]; exact hlast
  · show (doneTo code (baNext s) K).last0 = 0
    rw [f3, a2]; exact h.l0
  · show s.queue.drop K = _
    rw [h.q]
    apply List.ext_getElem
    · simp
    · intro q h3 h4
      simp <;> omega
  · obtain ⟨k, rfl⟩ : ∃ k, m = k + 1 := ⟨m - 1, by omega⟩
    have := hres k (by omega)
    rw [f4 _ (by omega), if_pos ((hmem k).2 (by omega)), h.x k (by omega)] at this
    exact this
  · obtain ⟨k, rfl⟩ : ∃ k, m = k + 1 := ⟨m - 1, by omega⟩
    have := hres k (by omega)
    rw [f4 _ (by omega), if_neg (fun e => by have := (hmem k).1 e; omega), h.x k (by omega)] at this
    exact congrArg Prod.fst this
  · show txAt (doneTo code (baNext s) K).txs ((k : Int) + 1) = _
    rw [f4 _ (by omega), if_neg (fun e => by have := (hmem k).1 e; omega)]
    exact h.x k hk2
theorem FE.qlen {N K : Nat} {code : Int} {s : MgS} (h : FE N K code s) : s.queue.length = N - K := by rw [h.q]; simp
/-- What those behind it leave, when they are done. -/
theorem FE.dones {N K : Nat} {code : Int} {s : MgS} (h : FE N K code s) (hN2 : N ≤ 14) (o : Int) : ∀ j, j ≤ N - K → (doneTo 0 { s with out := o } j).vs.map (·.1) = (List.range j).map (fun k : Nat => ((K + k : Nat) : Int)) ∧ (doneTo 0 { s with out := o } j).last0 = (if j = 0 then 0 else ((K + j : Nat) : Int))
  | 0, _ => by
    rw [doneTo_zero]
    refine ⟨?_, ?_⟩
    · show s.vs.map (·.1) = _
      rw [h.v]; rfl
    · rw [if_pos rfl]; exact h.l0
  | j + 1, hj => by
    obtain ⟨i1, i2⟩ := h.dones hN2 o j (by omega)
    have hql := h.qlen
    have hjl : j < s.queue.length := by omega
    have hqj : s.queue[j] = ((K + j : Nat) : Int) + 1 := by
      have := h.q
      simp only [this]
      simp
    have g : MgG (N + 128) { s with out := 0 } := { h.g with o1 := ⟨Int.le_refl _, by show (0 : Int) ≤ _; omega⟩ }
    have htx := doneTo_tx g 0 j (by show j ≤ s.queue.length; omega) (s.queue[j]) (by show s.queue[j] ∈ s.queue.drop j; rw [List.drop_eq_getElem_cons hjl]; exact List.mem_cons_self)
    have hsame : ∀ j', j' ≤ s.queue.length → doneTo 0 { s with out := o } j' = { doneTo 0 { s with out := 0 } j' with out := o } := fun j' => by
      intro hj'
      induction j' with
      | zero => rw [doneTo_zero, doneTo_zero]
      | succ q ih =>
        rw [doneTo_succ 0 { s with out := o } (by show q < s.queue.length; omega), doneTo_succ 0 { s with out := 0 } (by show q < s.queue.length; omega), ih (by omega)]
        exact doStep_queue 0 (doneTo 0 { s with out := 0 } q) s.queue[q] (doneTo 0 { s with out := 0 } q).queue o
    have hw : waitTx (doneTo 0 { s with out := o } j) s.queue[j] = ⟨((K + j : Nat) : Int) + 1, [⟨((K + j : Nat) : Int), dataB ((K + j : Nat) : Int)⟩]⟩ := by
      rw [hsame j (by omega)]
      show (⟨(txAt (doneTo 0 { s with out := 0 } j).txs s.queue[j]).tm, bufPuts (txAt (doneTo 0 { s with out := 0 } j).txs s.queue[j]).buf⟩ : Tx) = _
      rw [htx]
      show (⟨(txAt s.txs s.queue[j]).tm, bufPuts (txAt s.txs s.queue[j]).buf⟩ : Tx) = _
      rw [hqj, h.x (K + j) (by omega) (by omega)]
      rw [bufPuts_one]
    have hbl : (doneTo 0 { s with out := o } j).blocks = 20 := by rw [(doneTo_same 0 { s with out := o } j (by show j ≤ s.queue.length; omega)).2.2]; exact h.b
    have hap := apply_one (blocks := 20) (last := (doneTo 0 { s with out := o } j).last0) (tm := ((K + j : Nat) : Int) + 1) (k := ((K + j : Nat) : Int)) (d := dataB ((K + j : Nat) : Int)) (by rw [i2]; split <;> omega) (by omega) (by omega) (data_sz _)
    rw [doneTo_succ 0 { s with out := o } (by show j < s.queue.length; omega)]
    unfold doStep
    rw [if_pos rfl]
    have hw' : waitTx (doneTo 0 { s with out := o } j) (({ s with out := o } : MgS).queue[j]'(by show j < s.queue.length; omega)) = _ := hw
    rw [hw', hbl]
    refine ⟨?_, ?_⟩
    · show (applyNext 20 (doneTo 0 { s with out := o } j).last0 (doneTo 0 { s with out := o } j).vs _).map (·.1) = _
      unfold applyNext
      rw [if_pos hap]
      show (aset (doneTo 0 { s with out := o } j).vs ((K + j : Nat) : Int) _).map (·.1) = _
      rw [aset_new, List.map_append, i1, List.range_succ, List.map_append]
      · rfl
      · intro y hy e
        have : y.1 ∈ (doneTo 0 { s with out := o } j).vs.map (·.1) := List.mem_map_of_mem hy
        rw [i1] at this
        obtain ⟨q, hq, he⟩ := List.mem_map.1 this
        have := List.mem_range.1 hq
        omega
    · show applyLast 20 (doneTo 0 { s with out := o } j).last0 _ = _
      unfold applyLast
      rw [if_pos hap, if_neg (by omega)]
      show ((K + j : Nat) : Int) + 1 = _
      omega
theorem dumpV_len (vs : Vers) : (dumpV vs).length = vs.length := by unfold dumpV; rw [List.length_map, keysUp_len, List.length_map]
theorem FE.rest {N K : Nat} {code : Int} {s : MgS} (h : FE N K code s) (hN2 : N ≤ 14) : (N = K → baCode s = 14) ∧ (K < N → baCode s = 0 ∧ MgG (N + 128) (baNext s) ∧ (baNext s).queue.length ≤ 1000000 ∧ (baNext s).out ≤ 8 ∧ doneCode (baNext s) = 0 ∧ MgG (N + 256) (doneNext (baNext s) 0) ∧ (dumpV (doneNext (baNext s) 0).vs).length = formN (waitL s)) := by
  have hql := h.qlen
  refine ⟨fun e => ?_, fun hlt => ?_⟩
  · unfold baCode
    rw [if_neg (by rw [h.o]; omega), if_pos (by omega)]
  · obtain ⟨a1, a2⟩ := ba_ok h.o (by rw [hql]; omega)
    have h1 := formN_pos (l := waitL s) (by rw [waitL_len, hql]; omega)
    have h2 := formN_bd (waitL s)
    rw [waitL_len, hql] at h2
    generalize formN (waitL s) = F at *
    have g1 := h.g.batches
    have g2 := g1.dones 0 (by rw [a2]; show (F : Int) ≤ 8; omega)
    refine ⟨a1, g1, by rw [a2]; show s.queue.length ≤ _; omega, by rw [a2]; show (F : Int) ≤ 8; omega, by rw [a2]; exact if_neg (by show ¬ (F : Int) = 0; omega), g2, ?_⟩
    have hd : (doneNext (baNext s) 0).vs = (doneTo 0 { s with out := (F : Int) } F).vs := by
      rw [a2]
      unfold doneNext doneTo
      rw [if_neg (by show ¬ (F : Int) = 0; omega)]
      rfl
    rw [dumpV_len, hd]
    have := congrArg List.length (h.dones hN2 (F : Int) F (by omega)).1
    simpa using this
end Go.Proofs
