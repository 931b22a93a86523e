/- TxnLoads: plain. -/
import Derived.Test.YtajjadoalfjnkaaGreatReaders23P
namespace Go.Proofs
open Go.RowKit Sc
theorem aset_fresh {α : Type} : ∀ (m : List (Int × α)) (k : Int) (v : α), k ∉ m.map (·.1) → aset m k v = m ++ [(k, v)]
  | [], _, _, _ => rfl
  | (a, x) :: m, k, v, h => by
    have h1 : a ≠ k := fun e => h (by simp [e])
    show (if a = k then (k, v) :: m else (a, x) :: aset m k v) = _
    rw [if_neg h1, aset_fresh m k v (fun hh => h (by simp [hh]))]
    rfl
theorem alook_fresh {α : Type} : ∀ (m : List (Int × α)) (k : Int), k ∉ m.map (·.1) → alook m k = none
  | [], _, _ => rfl
  | (a, x) :: m, k, h => by
    have h1 : a ≠ k := fun e => h (by simp [e])
    show (if a = k then some x else alook m k) = _
    rw [if_neg h1, alook_fresh m k (fun hh => h (by simp [hh]))]
theorem ld_keys (t : Int) : ∀ (l : List Put) (vs : Vers), (l.map (·.lba)).Nodup → (∀ p ∈ l, p.lba ∉ vs.map (·.1)) → (applyVs t vs l).map (·.1) = vs.map (·.1) ++ l.map (·.lba)
  | [], vs, _, _ => by simp [applyVs]
  | p :: l, vs, hn, hv => by
    simp only [List.map_cons, List.nodup_cons] at hn
    have hp := hv p (List.mem_cons_self ..)
    have e : applyOne t vs p = vs ++ [(p.lba, [⟨t, p.data⟩])] := by
      unfold applyOne
      rw [aset_fresh _ _ _ hp, alook_fresh _ _ hp]; rfl
    show (applyVs t (applyOne t vs p) l).map (·.1) = _
    rw [e, ld_keys t l _ hn.2 (fun q hq hm => ?_)]
    · simp
    · rw [List.map_append] at hm
      rcases List.mem_append.1 hm with hm | hm
      · exact hv q (List.mem_cons_of_mem _ hq) hm
      · simp only [List.map_cons, List.map_nil, List.mem_singleton] at hm
        exact hn.1 (by rw [← hm]; exact List.mem_map.2 ⟨q, hq, rfl⟩)
/-- What was loaded is what is dumped. -/
theorem ld_dump {t : Int} {l : List Put} (h : l.Pairwise fun p q => p.lba < q.lba) : dumpV (applyVs t [] l) = l := by
  have hn := pairwise_nodup h
  unfold dumpV
  rw [ld_keys t l [] hn (by simp)]
  have hk : keysUp (([] : Vers).map (·.1) ++ l.map (·.lba)) = l.map (·.lba) := by
    show (l.map (·.lba)).mergeSort (fun x y => decide (x ≤ y)) = _
    refine List.mergeSort_of_pairwise ?_
    rw [List.pairwise_map]
    exact h.imp fun h => decide_eq_true (by omega)
  rw [hk, List.map_map]
  conv => rhs; rw [← List.map_id l]
  refine List.map_congr_left fun p hp => ?_
  show (⟨p.lba, lastD ((alook (applyVs t [] l) p.lba).getD [])⟩ : Put) = p
  rw [applyVs_mine t l [] p hn hp]
  rfl
/-- Behind a load that was taken. -/
structure LdS (last : Int) (l : List Put) (s : MgS) : Prop where
  s1 : ∃ l0, s = { mgNew 20 last with vs := applyVs last [] l, last0 := l0 } ∧ (l ≠ [] → l0 = last) ∧ l0 ≤ last
  b : l ≠ [] → last ≠ 0
  p : l.Pairwise fun p q => p.lba < q.lba
  k : ∀ p ∈ l, 0 ≤ p.lba ∧ p.lba < 20
section
variable {last : Int} {l : List Put}
theorem ld_none (l : List Put) (h : ldCode (mgNew 20 last) l ≠ 0) : (ldNext (mgNew 20 last) l).vs = [] ∧ (ldNext (mgNew 20 last) l).last = last := by
  unfold ldCode at h
  unfold ldNext
  split
  · exact ⟨rfl, rfl⟩
  · rename_i hc
    simp only [not_or] at hc
    rw [if_neg (fun hh => hh.elim hc.1 hc.2.1), if_neg hc.2.2] at h
    refine ⟨?_, rfl⟩
    show applyNext _ _ _ _ = []
    unfold applyNext
    rw [if_neg h]
    rfl
theorem ld_taken (h0 : 0 ≤ last) (h : ldCode (mgNew 20 last) l = 0) : LdS last l (ldNext (mgNew 20 last) l) := by
  unfold ldCode at h
  have hb : (mgNew 20 last).base = last := rfl
  by_cases hl : l.length = 0
  · have e : l = [] := List.eq_nil_of_length_eq_zero hl
    subst e
    refine ⟨⟨0, ?_, fun h => absurd rfl h, h0⟩, fun h => absurd rfl h, List.Pairwise.nil, by simp⟩
    unfold ldNext
    rw [if_pos (.inr (.inr rfl))]
    rfl
  · by_cases hg : 0 < (mgNew 20 last).txs.length ∨ ((mgNew 20 last).base = 0 ∧ 0 < l.length)
    · rw [if_pos hg] at h; cases h
    · rw [if_neg hg, if_neg hl] at h
      have hc := code_zero h
      obtain ⟨c1, c2, c3, c4, c5⟩ := hc
      refine ⟨⟨last, ?_, fun _ => rfl, Int.le_refl _⟩, fun _ e => hg (.inr ⟨e, by omega⟩), riseB_pairwise c3, c4⟩
      unfold ldNext
      rw [if_neg (fun hh => hh.elim (fun a => hg (.inl a)) (fun a => a.elim (fun a => hg (.inr a)) hl))]
      unfold applyNext applyLast
      rw [if_pos h, if_pos h]
      rfl
theorem LdS.facts {s : MgS} (h : LdS last l s) : dumpV s.vs = l ∧ s.last = last ∧ (l ≠ [] → ldCode s l ≠ 0) ∧ ldNext s l = s ∧ l.length ≤ 20 := by
  obtain ⟨⟨l0, rfl, h2, h3⟩, hb, hp, hk⟩ := h
  have hcode : l ≠ [] → ldCode { mgNew 20 last with vs := applyVs last [] l, last0 := l0 } l = 11 := fun hne => by
    have e := h2 hne
    subst e
    have hlen : l.length ≠ 0 := fun e => hne (List.eq_nil_of_length_eq_zero e)
    unfold ldCode
    rw [if_neg (fun hh => hh.elim (fun a => absurd a (Nat.lt_irrefl 0)) (fun a => hb hne a.1)), if_neg hlen]
    unfold applyCode
    rw [if_pos (.inl (Int.le_refl _))]
  refine ⟨ld_dump hp, rfl, fun hne => by rw [hcode hne]; decide, ?_, ?_⟩
  · by_cases hne : l = []
    · unfold ldNext
      rw [if_pos (.inr (.inr (by rw [hne]; rfl)))]
    · have hc := hcode hne
      have e := h2 hne
      subst e
      have hlen : l.length ≠ 0 := fun e => hne (List.eq_nil_of_length_eq_zero e)
      unfold ldNext
      rw [if_neg (fun hh => hh.elim (fun a => absurd a (Nat.lt_irrefl 0)) (fun a => a.elim (fun a => hb hne a.1) hlen))]
      unfold ldCode at hc
      rw [if_neg (fun hh => hh.elim (fun a => absurd a (Nat.lt_irrefl 0)) (fun a => hb hne a.1)), if_neg hlen] at hc
      unfold applyNext applyLast
      rw [if_neg (by rw [hc]; decide), if_neg (by rw [hc]; decide)]
  · have hn := pairwise_nodup hp
    have hsub : ∀ x ∈ l.map (·.lba), x ∈ (List.range 20).map (fun n : Nat => (n : Int)) := fun x hx => by
      obtain ⟨p, hp, rfl⟩ := List.mem_map.1 hx
      have := hk p hp
      exact List.mem_map.2 ⟨p.lba.toNat, List.mem_range.2 (by omega), by omega⟩
    have := List.Nodup.length_le_of_subset hn hsub
    simpa using this
/-- In the loop of reads. -/
structure LdJ (last : Int) (l : List Put) (i : Nat) (s : MgS) : Prop where
  g : MgG (200 + 16 * i) s
  b : s.blocks = 20
  v : s.vs = applyVs last [] l
  r : s.ro = false
  q : s.queue = []
  gv : s.given = last
  la : s.last = last
  n : s.txs.length = 1
  x : (txAt s.txs 1).st = 1 ∧ (txAt s.txs 1).at' = last ∧ (txAt s.txs 1).buf = []
  S : SetG (txAt s.txs 1).S ∧ (txAt s.txs 1).S.length ≤ i
theorem LdS.begins {s : MgS} (h : LdS last l s) {n : Nat} (g : MgG n s) (hn : n < 100) : begC s = 0 ∧ begH s = 1 ∧ LdJ last l 0 (begNext s) ∧ ldCode (begNext s) l = 1 ∧ ldNext (begNext s) l = begNext s := by
  obtain ⟨l0, rfl, h2, h3⟩ := h.s1
  obtain ⟨b1, b2, b3⟩ := beg_ok g (show ([] : List (Int × Int)).length < 16 by simp)
  obtain ⟨t1, t2, t3, t4⟩ := beg_tx g (show ([] : List (Int × Int)).length < 16 by simp)
  have g1 := g.begins (by omega)
  generalize hS : begNext { mgNew 20 last with vs := applyVs last [] l, last0 := l0 } = S at *
  have hx : txAt S.txs 1 = ⟨1, 0, 0, last, [], [], []⟩ := t2
  have hn1 : S.txs.length = 1 := t4
  refine ⟨b1, b2, ⟨g1.mono (by omega), by rw [b3]; rfl, by rw [b3], by rw [b3]; rfl, by rw [b3]; rfl, by rw [b3]; rfl, by rw [b3]; rfl, hn1, by rw [hx]; exact ⟨rfl, rfl, rfl⟩, by rw [hx]; exact ⟨SetG.nil, Nat.le_refl _⟩⟩, ?_, ?_⟩
  · unfold ldCode; rw [if_pos (.inl (by omega))]
  · unfold ldNext; rw [if_pos (.inl (by omega))]
theorem readCode_add {blocks k : Int} {S : List Ext} (h : 0 ≤ k ∧ k < blocks) (hb : blocks ≤ 1048576) (hS : SetG S) (hl : S.length ≤ 60) : readCode blocks S ⟨k, 1⟩ = 0 ∧ SetG (addNext 64 S [⟨k, 1⟩]) ∧ (addNext 64 S [⟨k, 1⟩]).length ≤ S.length + 1 := by
  have ha : allB [(⟨k, 1⟩ : Ext)] = true := by
    unfold allB
    simp only [List.all_cons, List.all_nil, Bool.and_true]
    exact mayB_iff.2 (by simp only; omega)
  have hpos : ∀ e ∈ S ++ [(⟨k, 1⟩ : Ext)], 1 ≤ e.len := fun e he => by
    rcases List.mem_append.1 he with he | he
    · exact (hS.2 e he).2.2.1
    · rw [List.mem_singleton] at he; subst he; simp
  obtain ⟨n1, n2, n3, n4⟩ := normE_good hpos
  have hlen : (S ++ [(⟨k, 1⟩ : Ext)]).length = S.length + 1 := by simp
  rw [hlen] at n3
  obtain ⟨c1, c2⟩ := addCode_is (most := 64) hS ha (by simp) rfl
  rw [if_neg (by omega)] at c1 c2
  refine ⟨?_, by rw [c2]; exact ⟨n1, normE_oke (addOke hS ha)⟩, by rw [c2]; exact n3⟩
  unfold readCode
  rw [if_neg (by simp only; omega), if_neg, if_neg (by rw [c1]; simp)]
  unfold withinB
  rw [decide_eq_true (show (0 : Int) ≤ k by omega), decide_eq_true (show (1 : Int) ≤ 1 by omega), decide_eq_true (show (1 : Int) ≤ blocks by omega), decide_eq_true (show k ≤ blocks - 1 by omega)]
  decide
theorem LdJ.read {i : Nat} {s : MgS} (h : LdJ last l i s) (hp : l.Pairwise fun p q => p.lba < q.lba) (hk : ∀ p ∈ l, 0 ≤ p.lba ∧ p.lba < 20) (hl : l.length ≤ 20) (hi : i < l.length) :
    rdCode s 1 ⟨l[i].lba, 1⟩ = 0 ∧ rdOut s 1 ⟨l[i].lba, 1⟩ = l[i].data ∧ LdJ last l (i + 1) (rdNext s 1 ⟨l[i].lba, 1⟩) := by
  have hmem := List.getElem_mem hi
  generalize l[i] = p at *
  have hpk := hk p hmem
  obtain ⟨c1, c2, c3⟩ := readCode_add (blocks := s.blocks) (k := p.lba) (by rw [h.b]; exact hpk) (by rw [h.b]; omega) h.S.1 (by have := h.S.2; omega)
  have ho : openB s 1 = true := openB_iff.2 ⟨by omega, by rw [h.n]; exact Int.le_refl _, h.x.1⟩
  have hc : rdCode s 1 ⟨p.lba, 1⟩ = 0 := by unfold rdCode; rw [if_pos ho]; exact c1
  have g := h.g.reads 1 ⟨p.lba, 1⟩
  have e : rdNext s 1 ⟨p.lba, 1⟩ = setTx s 1 (rdTx s (txAt s.txs 1) ⟨p.lba, 1⟩) := by unfold rdNext; rw [if_pos hc]; rfl
  have hat : txAt (setTx s 1 (rdTx s (txAt s.txs 1) ⟨p.lba, 1⟩)).txs 1 = rdTx s (txAt s.txs 1) ⟨p.lba, 1⟩ := by
    rw [setTx_at' _ (by omega) (by rw [h.n]; exact Int.le_refl _) (by omega), if_pos rfl]
  refine ⟨hc, ?_, ?_⟩
  · show rowsF (fun i : Nat => blkV s.vs (txAt s.txs 1).buf (txAt s.txs 1).at' (p.lba + i)) 1 = _
    rw [rowsF_succ, h.x.2.2, h.x.2.1, h.v]
    show [] ++ blkV (applyVs last [] l) [] last (p.lba + (0 : Nat)) = _
    rw [List.nil_append, show p.lba + ((0 : Nat) : Int) = p.lba by omega]
    show (getV (applyVs last [] l) p.lba last).1 = p.data
    rw [getV_snoc_le (_vs := []) (l := []) (p := ⟨last, p.data⟩) (by rw [applyVs_mine last l [] p (pairwise_nodup hp) hmem]; rfl) (Int.le_refl _)]
  · rw [e] at g ⊢
    exact ⟨g.mono (by omega), h.b, h.v, h.r, h.q, h.gv, h.la, by rw [setTx_len]; exact h.n, by rw [hat]; exact h.x, by rw [hat]; exact ⟨c2, by have := h.S.2; exact Nat.le_trans c3 (by omega)⟩⟩
theorem LdJ.fin {i : Nat} {s : MgS} (h : LdJ last l i s) (hl : last < 1099511627776) {d : Bytes} (hd : d.length = 40) :
    wrCode s 1 [⟨3, d⟩] = 0 ∧ MgG (200 + 16 * i) (wrNext s 1 [⟨3, d⟩]) ∧ (wrNext s 1 [⟨3, d⟩]).queue.length ≤ 1000000 ∧ cmCode (wrNext s 1 [⟨3, d⟩]) 1 = 0 := by
  have ho : openB s 1 = true := openB_iff.2 ⟨by omega, by rw [h.n]; exact Int.le_refl _, h.x.1⟩
  obtain ⟨w1, w2, w3, w4, w5, w6⟩ := wr_tx (k := 3) (d := d) ho (by rw [h.b]; omega) hd (by rw [h.x.2.2]; show 0 < 16; omega)
  have g3 := h.g.writes 1 [⟨3, d⟩]
  have hws : (wrNext s 1 [⟨3, d⟩]) = { s with txs := (wrNext s 1 [⟨3, d⟩]).txs } := wr_same _ _
  generalize hT : wrNext s 1 [⟨3, d⟩] = T at *
  have v1 : T.queue = [] := by rw [hws]; exact h.q
  have v2 : T.last = last := by rw [hws]; exact h.la
  have v3 : T.ro = false := by rw [hws]; exact h.r
  have v4 : T.given = last := by rw [hws]; exact h.gv
  have hat : (txAt T.txs 1).at' = last := by rw [w4]; exact h.x.2.1
  have hchk : checkCode T.vs (waitL T) (txAt T.txs 1).at' (txAt T.txs 1).S (setB (txAt T.txs 1)) = 0 := by
    refine check_free (fun x _ => wrB_old g3.ge (by rw [hat, ← v2]; exact g3.l0) x) fun q hq' p hp => ?_
    unfold waitL at hq'
    rw [v1] at hq'
    cases hq'
  obtain ⟨c1, c2⟩ := cm_ok w3 (by rw [txOf_txAt, w4]; show 0 < (aset (txAt s.txs 1).buf 3 d).length; rw [h.x.2.2]; show 0 < 1; omega) (by rw [txOf_txAt]; exact may_ok v3 hchk (by rw [v4]; exact hl))
  exact ⟨w1, g3, by rw [v1]; simp, c1⟩
end
end Go.Proofs
