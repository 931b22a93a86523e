/- TxnPrunes: plain: what a reader sees again behind a Prune. -/
import Derived.Test.YtajjadoalfjnkaaGreatPl13
namespace Go.Proofs
open Go.RowKit Sc
theorem lowOf_leB (l : List Int) : ∀ now, lowOf now l ≤ now ∧ (∀ x ∈ l, lowOf now l ≤ x) ∧ (lowOf now l = now ∨ lowOf now l ∈ l) := by
 induction l with
 | nil => exact fun now => ⟨Int.le_refl _, by simp, .inl rfl⟩
 | cons a t ih =>
  intro now
  obtain ⟨h1, h2, h3⟩ := ih (min now a)
  show lowOf (min now a) t ≤ now ∧ (∀ x ∈ a :: t, lowOf (min now a) t ≤ x) ∧ (lowOf (min now a) t = now ∨ lowOf (min now a) t ∈ a :: t)
  refine ⟨by omega, fun x hx => ?_, ?_⟩
  ·rcases List.mem_cons.1 hx with rfl | hx
   ·omega
   ·exact h2 x hx
  ·rcases h3 with h3 | h3
   ·by_cases hna : now ≤ a
    ·left; omega
    ·right; exact List.mem_cons.2 (.inl (by omega))
   ·exact .inr (List.mem_cons_of_mem _ h3)
theorem pn_atN_mono (l : List Put) {h t : Int} (ht : h ≤ t) : atN l h ≤ atN l t := by
 by_cases h0 : 0 < atN l h
 ·obtain ⟨h1, h2⟩ := atN_at l h h0
  by_cases hc : atN l h ≤ atN l t
  ·exact hc
  ·have := atN_above l t (atN l h - 1) h1 (by omega); omega
 ·omega
theorem pn_atN_prune (l : List Put) {h t : Int} (ht : h ≤ t) : atN (pruneOne h l) t = atN l t - (atN l h - 1) := by
 unfold pruneOne
 have hm := pn_atN_mono l ht
 have hle := atN_le l t
 refine atN_is (by rw [List.length_drop]; omega) (fun j hj hj' => ?_) ?_
 ·rw [List.getElem_drop]
  exact atN_above l t _ (by rw [List.length_drop] at hj; omega) (by omega)
 ·by_cases h0 : atN l t = 0
  ·exact .inl (by omega)
  ·obtain ⟨h1, h2⟩ := atN_at l t (by omega)
   refine .inr ⟨by rw [List.length_drop]; omega, ?_⟩
   rw [List.getElem_drop]
   have : atN l h - 1 + (atN l t - (atN l h - 1) - 1) = atN l t - 1 := by omega
   simp only [this]
   exact h2
theorem pn_getV_prune (vs : Vers) (k : Int) {h t : Int} (ht : h ≤ t) : getV (pruneVs h vs) k t = getV vs k t := by
 have hg : (alook (pruneVs h vs) k).getD [] = pruneOne h ((alook vs k).getD []) := by
  rw [alook_pruneM]
  cases alook vs k with
  | none => simp [pruneOne]
  | some l => rfl
 rw [getV_of hg, getV_of (vs := vs) rfl, pn_atN_prune _ ht]
 generalize (alook vs k).getD [] = l
 have hm := pn_atN_mono l ht
 have hle := atN_le l t
 by_cases h0 : atN l t = 0
 ·simp only [h0, Nat.zero_sub, if_true]
  split <;> split <;> rfl
 ·unfold pruneOne
  rw [List.getElem?_drop, show atN l h - 1 + (atN l t - (atN l h - 1) - 1) = atN l t - 1 by omega]
  rw [List.getElem?_eq_getElem (by omega)]
  simp only
  rw [if_neg (by omega), if_neg h0]
theorem pn_blk (vs : Vers) (s : List (Int × Bytes)) (k : Int) {h t : Int} (ht : h ≤ t) : blkV (pruneVs h vs) s t k = blkV vs s t k := by
 unfold blkV
 rw [pn_getV_prune vs k ht]
theorem pn_one_two (h : Int) (l : List Put) : pruneOne h (pruneOne h l) = pruneOne h l := by
 have e := pn_atN_prune l (Int.le_refl h)
 have e2 : atN (pruneOne h l) h - 1 = 0 := by rw [e]; omega
 conv => lhs; unfold pruneOne
 have e3 : atN (List.drop (atN l h - 1) l) h - 1 = 0 := e2
 rw [e3, List.drop_zero]; rfl
theorem pn_two (h : Int) (vs : Vers) : pruneVs h (pruneVs h vs) = pruneVs h vs := by
 unfold pruneVs
 rw [List.map_map]
 refine List.map_congr_left fun x _ => ?_
 show (x.1, pruneOne h (pruneOne h x.2)) = (x.1, pruneOne h x.2)
 rw [pn_one_two]
theorem pn_last {h : Int} {l : List Put} : lastD (pruneOne h l) = lastD l := by
 unfold lastD pruneOne
 have hle := atN_le l h
 by_cases hl : l = []
 ·subst hl; simp
 ·have hp : 0 < l.length := List.length_pos_iff.2 hl
  rw [List.getLast?_drop, if_neg (by omega)]
theorem pn_dump (h : Int) (vs : Vers) : dumpV (pruneVs h vs) = dumpV vs := by
 unfold dumpV
 have e : (pruneVs h vs).map (·.1) = vs.map (·.1) := by unfold pruneVs; rw [List.map_map]; rfl
 rw [e]
 refine List.map_congr_left fun k _ => ?_
 have hg : (alook (pruneVs h vs) k).getD [] = pruneOne h ((alook vs k).getD []) := by
  rw [alook_pruneM]
  cases alook vs k with
  | none => simp [pruneOne]
  | some l => rfl
 rw [hg, pn_last]
theorem rd_twice {blocks : Int} {S : List Ext} {e : Ext} (hS : SetG S) (h : readCode blocks S e = 0) : readCode blocks (addNext 64 S [e]) e = 0 := by
 unfold readCode at h
 split at h
 ·omega
 rename_i h1
 split at h
 ·omega
 rename_i h2
 split at h
 ·omega
 rename_i h3
 have hc : addCode 64 S [e] = 0 := by omega
 have hm := addCode_may hc
 have hok := addOke hS hm
 have hn : addNext 64 S [e] = normE (S ++ [e]) := by unfold addNext; rw [if_pos hc]
 obtain ⟨g1, g2, g3⟩ := normE_good' hok
 have hok2 := addOke g1 hm
 obtain ⟨k1, k2, k3⟩ := normE_good' hok2
 have he : normE (normE (S ++ [e]) ++ [e]) = normE (S ++ [e]) := canon_ext k1.1 g1.1 fun x => by
  rw [k2, cov_append, g2, cov_append]
  constructor
  ·rintro (h | h)
   ·exact h
   ·exact .inr h
  ·exact fun h => .inl h
 unfold readCode
 rw [if_neg h1, if_neg h2, if_neg]
 rw [hn]
 unfold addCode at hc ⊢
 rw [hm] at hc ⊢
 rw [if_neg (by simp), if_neg (by simp)] at hc ⊢
 rw [he]
 split at hc
 ·omega
 ·rename_i h4
  rw [if_neg h4]; simp
def rdB (s : MgS) (h : Int) (e : Ext) : Bytes := if rdCode s h e = 0 then rdOut s h e else []
def rdTo (s : MgS) (e : Ext) : Nat → MgS
 | 0 => s
 | j + 1 => rdNext (rdTo s e j) ((j : Int) + 1) e
theorem rdNext_as (s : MgS) (h : Int) (e : Ext) : (rdNext s h e).vs = s.vs ∧ (rdNext s h e).blocks = s.blocks ∧ (rdNext s h e).tmb = s.tmb ∧ (rdNext s h e).last = s.last ∧ (rdNext s h e).txs.length = s.txs.length := by
 unfold rdNext
 split
 ·exact ⟨rfl, rfl, rfl, rfl, setTx_len ..⟩
 ·exact ⟨rfl, rfl, rfl, rfl, rfl⟩
theorem rdTo_as (s : MgS) (e : Ext) : ∀ j, (rdTo s e j).vs = s.vs ∧ (rdTo s e j).blocks = s.blocks ∧ (rdTo s e j).tmb = s.tmb ∧ (rdTo s e j).last = s.last ∧ (rdTo s e j).txs.length = s.txs.length
 | 0 => ⟨rfl, rfl, rfl, rfl, rfl⟩
 | j + 1 => by
  obtain ⟨a1, a2, a3, a4, a5⟩ := rdTo_as s e j
  obtain ⟨b1, b2, b3, b4, b5⟩ := rdNext_as (rdTo s e j) ((j : Int) + 1) e
  exact ⟨b1.trans a1, b2.trans a2, b3.trans a3, b4.trans a4, b5.trans a5⟩
def rdA (s : MgS) (x : Int) (e : Ext) : TxS := if rdCode s x e = 0 then rdTx s (txAt s.txs x) e else txAt s.txs x
theorem openB_eq {s t : MgS} {x : Int} (hl : t.txs.length = s.txs.length) (h : (txAt t.txs x).st = (txAt s.txs x).st) : openB t x = openB s x := by
 rw [Bool.eq_iff_iff, openB_iff, openB_iff, hl, h]
theorem rdNext_tx (s : MgS) (h : Int) (e : Ext) {x : Int} (hx : 1 ≤ x) : txAt (rdNext s h e).txs x = if x = h then rdA s x e else txAt s.txs x := by
 unfold rdNext rdA
 by_cases hc : rdCode s h e = 0
 ·rw [if_pos hc]
  have ho : openB s h = true := by
   unfold rdCode at hc
   split at hc
   ·assumption
   ·omega
  obtain ⟨o1, o2, _⟩ := openB_iff.1 ho
  rw [show txAt (setTx s h (rdTx s (txOf s h) e)).txs x = if x = h then rdTx s (txOf s h) e else txAt s.txs x from txAt_set _ o1 o2 hx]
  by_cases hxh : x = h
  ·subst hxh
   rw [if_pos rfl, if_pos rfl, if_pos hc]; rfl
  ·rw [if_neg hxh, if_neg hxh]
 ·rw [if_neg hc]
  by_cases hxh : x = h
  ·subst hxh
   rw [if_pos rfl, if_neg hc]
  ·rw [if_neg hxh]
theorem rdA_st (s : MgS) (x : Int) (e : Ext) : (rdA s x e).st = (txAt s.txs x).st ∧ (rdA s x e).at' = (txAt s.txs x).at' ∧ (rdA s x e).buf = (txAt s.txs x).buf := by
 unfold rdA
 split
 ·exact ⟨rfl, rfl, rfl⟩
 ·exact ⟨rfl, rfl, rfl⟩
theorem rdA_eq {s t : MgS} {x : Int} {e : Ext} (h1 : t.vs = s.vs) (h2 : t.blocks = s.blocks) (hl : t.txs.length = s.txs.length) (h : txAt t.txs x = txAt s.txs x) : rdA t x e = rdA s x e := by
 have hc : rdCode t x e = rdCode s x e := by
  unfold rdCode
  rw [openB_eq hl (by rw [h]), h2, txOf_txAt, txOf_txAt, h]
 unfold rdA rdTx
 rw [hc, h, h1]
theorem rdTo_tx (s : MgS) (e : Ext) : ∀ j (x : Int), 1 ≤ x → txAt (rdTo s e j).txs x = if x ≤ j then rdA s x e else txAt s.txs x
 | 0, x, hx => by rw [if_neg (by omega)]; rfl
 | j + 1, x, hx => by
  obtain ⟨a1, a2, a3, a4, a5⟩ := rdTo_as s e j
  have ih := rdTo_tx s e j x hx
  show txAt (rdNext (rdTo s e j) ((j : Int) + 1) e).txs x = _
  rw [rdNext_tx _ _ _ hx]
  by_cases hxj : x = (j : Int) + 1
  ·rw [if_pos hxj, if_pos (by omega)]
   rw [if_neg (by omega)] at ih
   exact rdA_eq a1 a2 a5 ih
  ·rw [if_neg hxj, ih]
   by_cases h : x ≤ (j : Int)
   ·rw [if_pos h, if_pos (by omega)]
   ·rw [if_neg h, if_neg (by omega)]
theorem rdB_eq {s t : MgS} {x : Int} {e : Ext} (h2 : t.blocks = s.blocks) (hl : t.txs.length = s.txs.length) (hst : (txAt t.txs x).st = (txAt s.txs x).st) (hc : openB s x = true → (readCode s.blocks (txAt t.txs x).S e = 0 ↔ readCode s.blocks (txAt s.txs x).S e = 0)) (hd : openB s x = true → readCode s.blocks (txAt s.txs x).S e = 0 → ∀ k, blkV t.vs (txAt t.txs x).buf (txAt t.txs x).at' k = blkV s.vs (txAt s.txs x).buf (txAt s.txs x).at' k) : rdB t x e = rdB s x e := by
 have ho := openB_eq hl hst
 unfold rdB rdCode rdOut
 rw [ho, h2, txOf_txAt, txOf_txAt]
 by_cases hop : openB s x = true
 ·rw [if_pos hop, if_pos hop]
  have h1 := hc hop
  by_cases h0 : readCode s.blocks (txAt s.txs x).S e = 0
  ·rw [if_pos h0, if_pos (h1.2 h0)]
   have h3 := hd hop h0
   congr 1
   funext i
   exact h3 _
  ·rw [if_neg h0, if_neg (fun h => h0 (h1.1 h))]
 ·rw [if_neg hop, if_neg hop, if_neg (by omega), if_neg (by omega)]
theorem rd_again {N : Nat} {s : MgS} (g : MgG N s) (e : Ext) {n k : Nat} (hk : k < n) : rdB (rdTo (prNext (rdTo s e n)) e k) ((k : Int) + 1) e = rdB (rdTo s e k) ((k : Int) + 1) e := by
 obtain ⟨n1, n2, n3, n4, n5⟩ := rdTo_as s e n
 obtain ⟨a1, a2, a3, a4, a5⟩ := rdTo_as s e k
 obtain ⟨t1, t2, t3, t4, t5⟩ := rdTo_as (prNext (rdTo s e n)) e k
 have hx := rdTo_tx s e k ((k : Int) + 1) (by omega)
 rw [if_neg (by omega)] at hx
 have hn := rdTo_tx s e n ((k : Int) + 1) (by omega)
 rw [if_pos (by omega)] at hn
 have ht := rdTo_tx (prNext (rdTo s e n)) e k ((k : Int) + 1) (by omega)
 rw [if_neg (by omega)] at ht
 have ht2 : txAt (rdTo (prNext (rdTo s e n)) e k).txs ((k : Int) + 1) = rdA s ((k : Int) + 1) e := ht.trans hn
 obtain ⟨q1, q2, q3⟩ := rdA_st s ((k : Int) + 1) e
 have hvs : (rdTo (prNext (rdTo s e n)) e k).vs = pruneVs (prH s) s.vs := by
  rw [t1]
  show pruneVs (prH (rdTo s e n)) (rdTo s e n).vs = _
  unfold prH
  rw [n1, n3, n4]
 have hlen : (prNext (rdTo s e n)).txs.length = s.txs.length := n5
 refine rdB_eq ?_ ?_ ?_ ?_ ?_
 ·rw [t2, a2]; exact n2
 ·rw [t5, a5]; exact n5
 ·rw [ht2, hx]; exact q1
 ·intro ho
  rw [ht2, hx, a2]
  have ho' : openB s ((k : Int) + 1) = true := by rw [← openB_eq a5 (by rw [hx])]; exact ho
  obtain ⟨o1, o2, o3⟩ := openB_iff.1 ho'
  have hks : k < s.txs.length := by omega
  have htg := g.tx _ (List.getElem_mem hks)
  have hta : txAt s.txs ((k : Int) + 1) = s.txs[k] := txAt_nat hks
  unfold rdA
  by_cases hc : rdCode s ((k : Int) + 1) e = 0
  ·rw [if_pos hc]
   have hr : readCode s.blocks (txAt s.txs ((k : Int) + 1)).S e = 0 := by
    unfold rdCode at hc
    rw [if_pos ho', txOf_txAt] at hc
    exact hc
   refine ⟨fun _ => hr, fun _ => ?_⟩
   exact rd_twice (by rw [hta]; exact htg.sg) hr
  ·rw [if_neg hc]
 ·intro ho _ j
  rw [ht2, hx, q2, q3, hvs, a1]
  have ho' : openB s ((k : Int) + 1) = true := by rw [← openB_eq a5 (by rw [hx])]; exact ho
  obtain ⟨o1, o2, o3⟩ := openB_iff.1 ho'
  have hb := g.bk _ o1 o2
  rw [if_pos (.inl o3)] at hb
  refine pn_blk _ _ _ ?_
  exact (lowOf_leB (s.tmb.map fun x : Int × Int => x.2) s.last).2.1 _ (List.mem_map.2 ⟨_, alook_inV hb, rfl⟩)
theorem pr_again (s : MgS) (e : Ext) (n : Nat) : nVers (rdTo (prNext s) e n).vs - nVers (pruneVs (prH (rdTo (prNext s) e n)) (rdTo (prNext s) e n).vs) = 0 ∧ dumpV (prNext (rdTo (prNext s) e n)).vs = dumpV s.vs ∧ (rdTo (prNext s) e n).vs = pruneVs (prH s) s.vs := by
 obtain ⟨n1, n2, n3, n4, n5⟩ := rdTo_as (prNext s) e n
 have hv : (rdTo (prNext s) e n).vs = pruneVs (prH s) s.vs := n1
 have hp : prH (rdTo (prNext s) e n) = prH s := by
  unfold prH
  rw [n3, n4]; rfl
 refine ⟨by rw [hp, hv, pn_two, Nat.sub_self], ?_, hv⟩
 show dumpV (pruneVs (prH (rdTo (prNext s) e n)) (rdTo (prNext s) e n).vs) = _
 rw [hp, hv, pn_dump, pn_dump]
end Go.Proofs
