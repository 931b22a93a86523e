/- TxnSnaps: plain. -/
import Derived.Test.YtajjadoalfjnkaaGreatReaders23P
namespace Go.Proofs
open Go.RowKit Sc
def setPuts (ls : List Bytes) (l : List Put) : List Bytes := l.foldl (fun ls p => ls.set p.lba.toNat p.data) ls
theorem setPuts_snoc (ls : List Bytes) (l : List Put) (p : Put) : setPuts ls (l ++ [p]) = (setPuts ls l).set p.lba.toNat p.data := by unfold setPuts; rw [List.foldl_append]; rfl
theorem setPuts_length (l : List Put) : ∀ ls : List Bytes, (setPuts ls l).length = ls.length := by
  induction l with
  | nil => intro ls; rfl
  | cons p t ih => intro ls; show (setPuts (ls.set p.lba.toNat p.data) t).length = _; rw [ih, List.length_set]
theorem setPuts_other : ∀ (l : List Put) (ls : List Bytes) (j : Nat), (∀ p ∈ l, p.lba.toNat ≠ j) → (setPuts ls l).getD j [] = ls.getD j []
  | [], _, _, _ => rfl
  | p :: l, ls, j, h => by
    show (setPuts (ls.set p.lba.toNat p.data) l).getD j [] = _
    rw [setPuts_other l _ j (fun q hq => h q (by simp [hq]))]
    have : p.lba.toNat ≠ j := h p (by simp)
    simp [List.getD, List.getElem?_set_ne this]
theorem setPuts_mine : ∀ (l : List Put) (ls : List Bytes) (p : Put), (l.map (·.lba)).Nodup → (∀ q ∈ l, 0 ≤ q.lba ∧ q.lba < ls.length) → p ∈ l → (setPuts ls l).getD p.lba.toNat [] = p.data
  | q :: l, ls, p, hn, hr, hp => by
    simp only [List.map_cons, List.nodup_cons] at hn
    show (setPuts (ls.set q.lba.toNat q.data) l).getD p.lba.toNat [] = _
    rcases List.mem_cons.1 hp with rfl | hp
    · rw [setPuts_other l _ _ (fun x hx e => hn.1 (List.mem_map.2 ⟨x, hx, by have := hr p (by simp); have := hr x (by simp [hx]); omega⟩))]
      have := hr p (by simp)
      simp [List.getD, show p.lba.toNat < ls.length by omega]
    · exact setPuts_mine l _ p hn.2 (fun x hx => by rw [List.length_set]; exact hr x (by simp [hx])) hp
  | [], _, _, _, _, h => by cases h
def wantB (ls : List Bytes) (j : Nat) : Bytes := if ls.getD j [] = [] then zeroB else ls.getD j []
theorem wantB_mine {ls : List Bytes} {l : List Put} {p : Put} (hn : (l.map (·.lba)).Nodup) (hr : ∀ q ∈ l, 0 ≤ q.lba ∧ q.lba < ls.length) (hp : p ∈ l) (h40 : p.data.length = 40) {j : Nat} (e : p.lba = (j : Int)) : wantB (setPuts ls l) j = p.data := by
  have hm := setPuts_mine l ls p hn hr hp
  rw [e, Int.toNat_natCast] at hm
  unfold wantB
  rw [hm, if_neg]
  intro he
  rw [he] at h40; simp at h40
theorem wantB_other {ls : List Bytes} {l : List Put} {j : Nat} (hr : ∀ q ∈ l, 0 ≤ q.lba) (h : ∀ p ∈ l, p.lba ≠ (j : Int)) : wantB (setPuts ls l) j = wantB ls j := by
  unfold wantB
  rw [setPuts_other l ls j (fun p hp e => h p hp (by have := hr p hp; omega))]
theorem sn_puts_other : ∀ (l : List Put) (s : List (Int × Bytes)) (k : Int), (∀ p ∈ l, p.lba ≠ k) → alook (putsTo s l) k = alook s k
  | [], s, k, _ => rfl
  | p :: l, s, k, h => by
    show alook (putsTo (aset s p.lba p.data) l) k = _
    rw [sn_puts_other l _ k (fun q hq => h q (by simp [hq])), alook_aset, if_neg (fun e => h p (by simp) e.symm)]
theorem sn_puts_mine : ∀ (l : List Put) (s : List (Int × Bytes)) (p : Put), (l.map (·.lba)).Nodup → p ∈ l → alook (putsTo s l) p.lba = some p.data
  | q :: l, s, p, hn, hp => by
    simp only [List.map_cons, List.nodup_cons] at hn
    show alook (putsTo (aset s q.lba q.data) l) p.lba = _
    rcases List.mem_cons.1 hp with rfl | hp
    · rw [sn_puts_other l _ _ (fun x hx e => hn.1 (List.mem_map.2 ⟨x, hx, e⟩)), alook_aset, if_pos rfl]
    · exact sn_puts_mine l _ p hn.2 hp
  | [], _, _, _, h => by cases h
theorem sn_keys {m : List Int} (hn : m.Nodup) : (keysUp m).Pairwise (· < ·) := by
  have h1 : (keysUp m).Pairwise (fun a b => decide (a ≤ b) = true) := List.pairwise_mergeSort (fun a b c h1 h2 => by simp at *; omega) (fun a b => by simp; omega) m
  have h2 : (keysUp m).Nodup := (List.mergeSort_perm m _).nodup_iff.2 hn
  have h3 := h1.and h2
  exact h3.imp fun {a b} h => by
    have := of_decide_eq_true h.1
    have := h.2
    omega
theorem sn_asc {s : List (Int × Bytes)} (hn : (s.map (·.1)).Nodup) : (bufPuts s).Pairwise fun p q => p.lba < q.lba := by
  unfold bufPuts
  rw [List.pairwise_map]
  exact sn_keys hn
theorem sn_put {blocks : Int} {s : List (Int × Bytes)} (hg : BufG blocks s) {p : Put} (hp : p ∈ bufPuts s) : 0 ≤ p.lba ∧ p.lba < blocks ∧ p.data.length = 40 := by
  obtain ⟨k, hk, rfl⟩ := List.mem_map.1 hp
  have hk' : k ∈ s.map (·.1) := (List.mergeSort_perm _ _).subset hk
  obtain ⟨y, hy, rfl⟩ := List.mem_map.1 hk'
  have h1 := hg.ks y hy
  have h2 : alook s y.1 = some y.2 := alook_mem hg.nd hy
  exact ⟨h1.1, h1.2.1, by show ((alook s y.1).getD []).length = 40; rw [h2]; exact h1.2.2⟩
theorem sn_rise {l : List Put} (h : l.Pairwise fun p q => p.lba < q.lba) (h0 : 0 < l.length) : riseB l = true := by
  unfold riseB
  rw [Bool.and_eq_true, decide_eq_true_eq, List.all_eq_true]
  refine ⟨h0, fun i hi => ?_⟩
  have hi := List.mem_range.1 hi
  rw [decide_eq_true_eq]
  have e1 := lbaAt_get (show i < l.length by omega)
  have e2 := lbaAt_get (show i + 1 < l.length by omega)
  unfold lbaAt at e1 e2
  rw [← e1, ← e2]
  rw [List.pairwise_iff_getElem] at h
  exact h i (i + 1) (by omega) (by omega) (by omega)
theorem sn_apply {blocks last : Int} {t : Tx} (h1 : last < t.time) (h2 : t.time ≤ 1099511627776) (h3 : t.puts.Pairwise fun p q => p.lba < q.lba) (h4 : ∀ p ∈ t.puts, 0 ≤ p.lba ∧ p.lba < blocks ∧ p.data.length = 40) (h5 : 0 < t.puts.length) : applyCode blocks last t = 0 := by
  unfold applyCode
  have hb : ∀ i, i < t.puts.length → blk blocks (lbaAt t.puts i) = true := fun i hi => by
    rw [← lbaAt_get hi]
    have := h4 _ (List.getElem_mem hi)
    unfold blk
    rw [decide_eq_true this.1, decide_eq_true this.2.1]; rfl
  rw [if_neg (by omega), if_neg (by rw [sn_rise h3 h5]; decide), if_neg (by rw [hb 0 h5, hb _ (by omega)]; simp), if_neg]
  rw [Bool.not_eq_true, List.any_eq_false]
  intro p hp
  simp [(h4 p hp).2.2]
theorem sn_atN_mono (l : List Put) {h t : Int} (ht : h ≤ t) : atN l h ≤ atN l t := by
  by_cases h0 : 0 < atN l h
  · obtain ⟨h1, h2⟩ := atN_at l h h0
    by_cases hc : atN l h ≤ atN l t
    · exact hc
    · have := atN_above l t (atN l h - 1) h1 (by omega); omega
  · omega
theorem sn_atN_prune (l : List Put) {h t : Int} (ht : h ≤ t) : atN (pruneOne h l) t = atN l t - (atN l h - 1) := by
  unfold pruneOne
  have hm := sn_atN_mono l ht
  have hle := atN_le l t
  refine atN_is (by rw [List.length_drop]; omega) (fun j hj hj' => ?_) ?_
  · rw [List.getElem_drop]
    exact atN_above l t _ (by rw [List.length_drop] at hj; omega) (by omega)
  · by_cases h0 : atN l t = 0
    · exact .inl (by omega)
    · obtain ⟨h1, h2⟩ := atN_at l t (by omega)
      refine .inr ⟨by rw [List.length_drop]; omega, ?_⟩
      rw [List.getElem_drop]
      have : atN l h - 1 + (atN l t - (atN l h - 1) - 1) = atN l t - 1 := by omega
      simp only [this]
      exact h2
theorem sn_getV_prune (vs : Vers) (k : Int) {h t : Int} (ht : h ≤ t) : getV (pruneVs h vs) k t = getV vs k t := by
  have hg : (alook (pruneVs h vs) k).getD [] = pruneOne h ((alook vs k).getD []) := by
    rw [alook_pruneM]
    cases alook vs k with
    | none => simp [pruneOne]
    | some l => rfl
  rw [getV_of hg, getV_of (vs := vs) rfl, sn_atN_prune _ ht]
  generalize (alook vs k).getD [] = l
  have hm := sn_atN_mono l ht
  have hle := atN_le l t
  by_cases h0 : atN l t = 0
  · simp only [h0, Nat.zero_sub, if_true]
    split <;> split <;> rfl
  · unfold pruneOne
    rw [List.getElem?_drop, show atN l h - 1 + (atN l t - (atN l h - 1) - 1) = atN l t - 1 by omega]
    rw [List.getElem?_eq_getElem (by omega)]
    simp only
    rw [if_neg (by omega), if_neg h0]
theorem sn_blk_prune (vs : Vers) (s : List (Int × Bytes)) (k : Int) {h t : Int} (ht : h ≤ t) : blkV (pruneVs h vs) s t k = blkV vs s t k := by
  unfold blkV
  rw [sn_getV_prune vs k ht]
/-- A row of what was read. -/
theorem sn_cut {f : Nat → Bytes} (h : ∀ i, (f i).length = 40) {n k : Nat} (hk : k < n) : ((rowsF f n).drop (40 * k)).take 40 = f k := by
  rw [rowsF_drop h n k hk, List.take_append_of_le_length (by rw [h]; omega), List.take_of_length_le (by rw [h]; omega)]
theorem sn_top {blocks last : Int} {vs : Vers} (g : GoodE blocks last vs) {t t' : Int} (h : last ≤ t) (h' : last ≤ t') (k : Int) : getV vs k t = getV vs k t' := by
  have key : ∀ x : Int, last ≤ x → atN ((alook vs k).getD []) x = ((alook vs k).getD []).length := fun x hx => by
    cases hq : alook vs k with
    | none => rfl
    | some l =>
      obtain ⟨g1, g2, g3⟩ := g.ts k l hq
      refine atN_is (Nat.le_refl _) (fun j hj hj' => by omega) ?_
      have h0 := List.length_pos_iff.2 g1
      refine .inr ⟨by show l.length - 1 < l.length; omega, ?_⟩
      have := (g3 _ (List.getElem_mem (show l.length - 1 < l.length by omega))).2.2
      show (l[l.length - 1]).lba ≤ x
      omega
  rw [getV_of (t := t) rfl, getV_of (t := t') rfl, key t h, key t' h']
def nowTo (s : MgS) (now : List Bytes) (j : Nat) : List Bytes := ((waitL s).take j).foldl (fun ls t => setPuts ls t.puts) now
theorem nowTo_succ (s : MgS) (now : List Bytes) {j : Nat} (hj : j < s.queue.length) : nowTo s now (j + 1) = setPuts (nowTo s now j) (waitTx s s.queue[j]).puts := by
  unfold nowTo
  rw [take_snoc _ _ (by rw [waitL_len]; exact hj), List.foldl_append]
  unfold waitL
  rw [List.getElem_map]; rfl
theorem sn_wait {N : Nat} {s : MgS} (g : MgG N s) {h : Int} (hq : h ∈ s.queue) : (waitTx s h).puts.Pairwise (fun p q => p.lba < q.lba) ∧ (∀ p ∈ (waitTx s h).puts, 0 ≤ p.lba ∧ p.lba < s.blocks ∧ p.data.length = 40) ∧ 0 < (waitTx s h).puts.length := by
  obtain ⟨q1, q2⟩ := g.qr h hq
  have htg := g.tx _ (txAt_mem q1 q2)
  refine ⟨sn_asc htg.bg.nd, fun p hp => sn_put htg.bg hp, ?_⟩
  show 0 < (bufPuts (txAt s.txs h).buf).length
  rw [bufPuts_len]
  exact (g.qp h hq).2
theorem sn_done {N : Nat} {s : MgS} (g : MgG N s) (hb : s.blocks = 20) {now : List Bytes} (hl : now.length = 20) (hw : ∀ j : Nat, j < 20 → (getV s.vs j s.last).1 = wantB now j) :
    ∀ j, j ≤ s.queue.length → (nowTo s now j).length = 20 ∧ (∀ i : Nat, i < 20 → (getV (doneTo 0 s j).vs i (doneTo 0 s j).last).1 = wantB (nowTo s now j) i) ∧ s.last ≤ (doneTo 0 s j).last ∧ ∀ t : Int, t ≤ s.last → ∀ i : Int, getV (doneTo 0 s j).vs i t = getV s.vs i t
  | 0, _ => by
    rw [doneTo_zero]
    exact ⟨hl, hw, Int.le_refl _, fun _ _ _ => rfl⟩
  | j + 1, hj => by
    have hjl : j < s.queue.length := by omega
    obtain ⟨i1, i2, i3, i4⟩ := sn_done g hb hl hw j (by omega)
    have gj := g.doneTo 0 j (by omega)
    have hm := List.getElem_mem hjl
    have hd : s.queue[j] ∈ s.queue.drop j := (List.drop_eq_getElem_cons hjl).symm ▸ List.mem_cons_self ..
    have htx := doneTo_tx g 0 j (by omega) _ hd
    obtain ⟨w1, w2, w3⟩ := sn_wait g hm
    rw [hb] at w2
    have hT : waitTx (doneTo 0 s j) s.queue[j] = waitTx s s.queue[j] := by
      show (⟨(txAt (doneTo 0 s j).txs s.queue[j]).tm, bufPuts (txAt (doneTo 0 s j).txs s.queue[j]).buf⟩ : Tx) = _
      rw [htx]; rfl
    have hbl : (doneTo 0 s j).blocks = 20 := (doneTo_same 0 s j (by omega)).2.2.trans hb
    have hqb := gj.qb s.queue[j] hd
    have hlt := gj.lt
    have hl0 := gj.l0
    have hge := gj.ge
    change (doneTo 0 s j).last < (txAt (doneTo 0 s j).txs s.queue[j]).tm ∧ (txAt (doneTo 0 s j).txs s.queue[j]).tm ≤ (doneTo 0 s j).given at hqb
    change 0 ≤ (doneTo 0 s j).base ∧ (doneTo 0 s j).base ≤ (doneTo 0 s j).last ∧ (doneTo 0 s j).last ≤ (doneTo 0 s j).given ∧ (doneTo 0 s j).given ≤ 1099511627776 at hlt
    change (doneTo 0 s j).last0 ≤ (doneTo 0 s j).last at hl0
    change GoodE (doneTo 0 s j).blocks (doneTo 0 s j).last0 (doneTo 0 s j).vs at hge
    rw [htx] at hqb
    rw [hbl] at hge
    have htime : (waitTx s s.queue[j]).time = (txAt s.txs s.queue[j]).tm := rfl
    have hac := sn_apply (blocks := 20) (last := (doneTo 0 s j).last0) (t := waitTx s s.queue[j]) (by omega) (by omega) w1 w2 w3
    have hvs : (doneTo 0 s (j + 1)).vs = applyVs (waitTx s s.queue[j]).time (doneTo 0 s j).vs (waitTx s s.queue[j]).puts ∧ (doneTo 0 s (j + 1)).last = (waitTx s s.queue[j]).time := by
      rw [doneTo_succ 0 s hjl]
      unfold doStep
      rw [if_pos rfl, hT, hbl]
      refine ⟨?_, ?_⟩
      · show applyNext 20 (doneTo 0 s j).last0 (doneTo 0 s j).vs (waitTx s s.queue[j]) = _
        unfold applyNext
        rw [if_pos hac]
      · show (txAt (doneTo 0 s j).txs s.queue[j]).tm = _
        rw [htx]; rfl
    rw [hvs.1, hvs.2, nowTo_succ s now hjl]
    generalize (waitTx s s.queue[j]) = T at *
    have hnd := pairwise_nodup w1
    refine ⟨by rw [setPuts_length]; exact i1, fun i hi => ?_, by omega, fun t ht i => ?_⟩
    · obtain ⟨e1, e2⟩ := getV_apply hge hac (i : Int) T.time
      by_cases hk : ∃ p ∈ T.puts, p.lba = (i : Int)
      · obtain ⟨p, hp, e⟩ := hk
        rw [e2 (Int.le_refl _) p hp e, wantB_mine hnd (fun q hq => by rw [i1]; have := w2 q hq; omega) hp (w2 p hp).2.2 e]
      · have hne : ∀ p ∈ T.puts, p.lba ≠ (i : Int) := fun p hp e => hk ⟨p, hp, e⟩
        rw [e1 (.inr hne), wantB_other (fun q hq => (w2 q hq).1) hne, ← i2 i hi, sn_top hge (by omega) hl0 (i : Int)]
    · rw [(getV_apply hge hac i t).1 (.inl (by omega))]
      exact i4 t ht i
theorem sn_ended {N : Nat} {s : MgS} (g : MgG N s) : ∀ j, j ≤ s.queue.length → ∀ x ∈ s.queue.take j, (txAt (doneTo 0 s j).txs x).st = 3
  | 0, _ => fun x hx => by simp at hx
  | j + 1, hj => fun x hx => by
    have hjl : j < s.queue.length := by omega
    have hl := (doneTo_same 0 s j (by omega)).2.1
    obtain ⟨q1, q2⟩ := g.qr _ (List.getElem_mem hjl)
    have hnd := g.qd.sublist (List.take_sublist (j + 1) s.queue)
    rw [take_snoc _ _ hjl] at hx hnd
    have hend : ∀ S : MgS, S.txs.length = s.txs.length → (txAt (endNext S s.queue[j] 3 0).txs s.queue[j]).st = 3 ∧ ∀ y : Int, 1 ≤ y → y ≠ s.queue[j] → txAt (endNext S s.queue[j] 3 0).txs y = txAt S.txs y := fun S hS => by
      obtain ⟨y1, y2, _⟩ := end_tx (s := S) (h := s.queue[j]) (st := 3) (cd := 0) q1 (by rw [hS]; exact q2)
      exact ⟨by rw [y1]; rfl, y2⟩
    rw [doneTo_succ 0 s hjl]
    unfold doStep
    rw [if_pos rfl]
    obtain ⟨z1, z2⟩ := hend { doneTo 0 s j with vs := applyNext (doneTo 0 s j).blocks (doneTo 0 s j).last0 (doneTo 0 s j).vs (waitTx (doneTo 0 s j) s.queue[j]), last0 := applyLast (doneTo 0 s j).blocks (doneTo 0 s j).last0 (waitTx (doneTo 0 s j) s.queue[j]), last := (txOf (doneTo 0 s j) s.queue[j]).tm } hl
    by_cases hxj : x = s.queue[j]
    · rw [hxj]; exact z1
    · have hxt : x ∈ s.queue.take j := (List.mem_append.1 hx).resolve_right fun h => hxj (List.mem_singleton.1 h)
      rw [z2 x (g.qr x (List.mem_of_mem_take hxt)).1 hxj]
      exact sn_ended g j (by omega) x hxt
/-- What the law holds by now: the blocks that are committed; of each transaction, what it ought to read. -/
structure SnI (N k : Nat) (s : MgS) (now : List Bytes) (sn : List (List Bytes)) : Prop where
  g : MgG N s
  b : s.blocks = 20
  o : s.out = 0
  n : s.txs.length ≤ k
  nl : now.length = 20
  sl : sn.length = s.txs.length
  rl : ∀ r ∈ sn, r.length = 20
  nw : ∀ j : Nat, j < 20 → (getV s.vs j s.last).1 = wantB now j
  sw : ∀ x : Nat, x < s.txs.length → (txAt s.txs ((x : Int) + 1)).st = 1 → ∀ j : Nat, j < 20 → blkV s.vs (txAt s.txs ((x : Int) + 1)).buf (txAt s.txs ((x : Int) + 1)).at' j = wantB (sn.getD x []) j
section
variable {N k : Nat} {s : MgS} {now : List Bytes} {sn : List (List Bytes)}
theorem SnI.mono {N' k' : Nat} (h : SnI N k s now sn) (h1 : N ≤ N') (h2 : k ≤ k') : SnI N' k' s now sn := ⟨h.g.mono h1, h.b, h.o, by have := h.n; omega, h.nl, h.sl, h.rl, h.nw, h.sw⟩
theorem SnI.start : SnI 0 0 (mgNew 20 0) (List.replicate 20 []) [] :=
  ⟨MgG.new (by omega) (by omega) (by omega) (by omega), rfl, rfl, Nat.le_refl _, by simp, rfl, by simp, fun j hj => by
    have h0 : (List.replicate 20 ([] : Bytes)).getD j [] = [] := by
      simp only [List.getD, List.getElem?_replicate]
      split <;> rfl
    show (getV [] (j : Int) 0).1 = _
    unfold wantB
    rw [if_pos h0]
    rfl, fun x hx => absurd hx (by simp [mgNew])⟩
theorem SnI.keep (h : SnI N k s now sn) {N' : Nat} {s' : MgS} (g : MgG N' s') (hb : s'.blocks = s.blocks) (ho : s'.out = s.out) (hl : s'.txs.length = s.txs.length) (hv : s'.vs = s.vs) (hla : s'.last = s.last)
    (hx : ∀ x : Int, 1 ≤ x → x ≤ s.txs.length → (txAt s'.txs x).st = 1 → SameT (txAt s.txs x) (txAt s'.txs x)) : SnI N' k s' now sn := by
  refine ⟨g, hb.trans h.b, ho.trans h.o, by rw [hl]; exact h.n, h.nl, h.sl.trans hl.symm, h.rl, by rw [hv, hla]; exact h.nw, fun x hxl hst j hj => ?_⟩
  rw [hl] at hxl
  obtain ⟨e1, e2, e3⟩ := hx ((x : Int) + 1) (by omega) (by omega) hst
  rw [hv, e2, e3]
  exact h.sw x hxl (by rw [← e1]; exact hst) j hj
theorem SnI.read (h : SnI N k s now sn) (hd : Int) (e : Ext) : SnI (N + 16) k (rdNext s hd e) now sn := by
  have e2 := rd_same (s := s) hd e
  exact h.keep (h.g.reads hd e) (by rw [e2]) (by rw [e2]) (rd_len hd e) (by rw [e2]) (by rw [e2]) fun x hx _ _ => rd_frame hd e hx
theorem SnI.ab (h : SnI N k s now sn) (hd : Int) : SnI N k (abNext s hd) now sn := by
  have e2 := ab_same (s := s) hd
  refine h.keep (h.g.aborts hd) (by rw [e2]) (by rw [e2]) (ab_len hd) (by rw [e2]) (by rw [e2]) fun x hx hxl hst => ?_
  by_cases hne : x = hd
  · subst hne
    unfold abNext at hst ⊢
    split at hst
    · rename_i ho
      rw [(end_tx (st := 4) (cd := 0) hx hxl).1] at hst
      exact absurd hst (by show ¬ (4 : Int) = 1; omega)
    · rename_i ho
      rw [if_neg ho]
      exact SameT.refl _
  · rw [ab_frame hd hx hne]; exact SameT.refl _
theorem SnI.cm (h : SnI N k s now sn) (hd : Int) : SnI N k (cmNext s hd) now sn := by
  have e2 := (cm_same (s := s) hd).1
  refine h.keep (h.g.commits hd) (by rw [e2]) (by rw [e2]) (cmNext_len s hd) (by rw [e2]) (by rw [e2]) fun x hx hxl hst => ?_
  by_cases hne : x = hd
  · subst hne
    by_cases ho : openB s x = true
    · exfalso
      unfold cmNext at hst
      rw [if_pos ho] at hst
      split at hst
      · rw [(end_tx (s := setTx s x { txOf s x with tm := (txOf s x).at' }) (st := 3) (cd := 0) hx (by rw [setTx_len]; exact hxl)).1] at hst
        exact absurd hst (by show ¬ (3 : Int) = 1; omega)
      · split at hst
        · rw [(end_tx (st := 4) hx hxl).1] at hst
          exact absurd hst (by show ¬ (4 : Int) = 1; omega)
        · rw [(wait_tx ho).1] at hst
          exact absurd hst (by show ¬ (2 : Int) = 1; omega)
    · unfold cmNext
      rw [if_neg ho]
      exact SameT.refl _
  · rw [cm_frame hd hx hne]; exact SameT.refl _
theorem SnI.pr (h : SnI N k s now sn) : SnI N k (prNext s) now sn := by
  obtain ⟨p1, p2, _⟩ := lowOf_le (s.tmb.map (fun x : Int × Int => x.2)) s.last
  refine ⟨h.g.prunes, h.b, h.o, h.n, h.nl, h.sl, h.rl, fun j hj => ?_, fun x hx hst j hj => ?_⟩
  · show (getV (pruneVs (prH s) s.vs) j s.last).1 = _
    rw [sn_getV_prune s.vs j (show prH s ≤ s.last from p1)]
    exact h.nw j hj
  · have hst : (txAt s.txs ((x : Int) + 1)).st = 1 := hst
    have hx : x < s.txs.length := hx
    have hb := h.g.bk ((x : Int) + 1) (by omega) (by omega)
    rw [if_pos (.inl hst)] at hb
    have hle : prH s ≤ (txAt s.txs ((x : Int) + 1)).at' := p2 _ (List.mem_map.2 ⟨_, alook_in hb, rfl⟩)
    show blkV (pruneVs (prH s) s.vs) (txAt s.txs ((x : Int) + 1)).buf (txAt s.txs ((x : Int) + 1)).at' j = _
    rw [sn_blk_prune _ _ _ hle]
    exact h.sw x hx hst j hj
theorem SnI.beg (h : SnI N k s now sn) (hN : N < 1000000) (hc : begC s = 0) : SnI (N + 1) (k + 1) (begNext s) now (sn ++ [now]) := by
  have g := h.g.begins hN
  have h16 : s.tmb.length < 16 := by
    unfold begC OpenOk at hc
    split at hc
    · cases hc
    · split at hc
      · cases hc
      · omega
  obtain ⟨t1, t2, t3, t4⟩ := beg_tx h.g h16
  have e := (beg_ok h.g h16).2.2
  have hv : (begNext s).vs = s.vs := by rw [e]
  refine ⟨g, by rw [e]; exact h.b, by rw [e]; exact h.o, by rw [t4]; have := h.n; omega, h.nl, by rw [List.length_append, t4, h.sl]; rfl, fun r hr => ?_, by rw [e]; exact h.nw, fun x hx hst j hj => ?_⟩
  · rcases List.mem_append.1 hr with hr | hr
    · exact h.rl r hr
    · rw [List.mem_singleton] at hr; subst hr; exact h.nl
  · rw [t4] at hx
    by_cases hxl : x < s.txs.length
    · have e3 := t3 ((x : Int) + 1) (by omega) (by omega)
      rw [e3] at hst ⊢
      rw [hv, h.sw x hxl hst j hj]
      have hg : (sn ++ [now]).getD x [] = sn.getD x [] := by
        unfold List.getD
        rw [List.getElem?_append_left (by rw [h.sl]; exact hxl)]
      rw [hg]
    · obtain rfl : x = s.txs.length := by omega
      rw [t2, hv]
      have hg : (sn ++ [now]).getD s.txs.length [] = now := by
        unfold List.getD
        rw [List.getElem?_append_right (by rw [h.sl]; exact Nat.le_refl _), h.sl, Nat.sub_self]; rfl
      rw [hg]
      exact h.nw j hj
theorem SnI.begNo (h : SnI N k s now sn) (hc : begC s ≠ 0) : begNext s = s := if_neg hc
theorem SnI.wr (h : SnI N k s now sn) (hd : Int) (l : List Put) (hc : wrCode s hd l = 0) : ∃ x : Nat, hd = (x : Int) + 1 ∧ x < sn.length ∧ (∀ p ∈ l, 0 ≤ p.lba ∧ p.lba < 20) ∧ SnI N k (wrNext s hd l) now (sn.set x (setPuts (sn.getD x []) l)) := by
  have ho : openB s hd = true := by
    unfold wrCode at hc
    split at hc
    · assumption
    · cases hc
  obtain ⟨o1, o2, o3⟩ := openB_iff.1 ho
  obtain ⟨x, rfl⟩ : ∃ x : Nat, hd = (x : Int) + 1 := ⟨(hd - 1).toNat, by omega⟩
  have hx : x < s.txs.length := by omega
  have hbc : bufCode s.blocks 16 (txOf s ((x : Int) + 1)).buf l = 0 := by
    unfold wrCode at hc
    rw [if_pos ho] at hc
    exact hc
  obtain ⟨z1, z2, z3, z4, _⟩ := bufCode_zero hbc
  rw [h.b] at z2
  have hsl : x < sn.length := by rw [h.sl]; exact hx
  have hrow : (sn.getD x []).length = 20 := by
    unfold List.getD
    rw [List.getElem?_eq_getElem hsl]
    exact h.rl _ (List.getElem_mem hsl)
  have e2 := wr_same (s := s) ((x : Int) + 1) l
  have hwl := wr_len (s := s) ((x : Int) + 1) l
  have hself : txAt (wrNext s ((x : Int) + 1) l).txs ((x : Int) + 1) = { txAt s.txs ((x : Int) + 1) with buf := putsTo (txAt s.txs ((x : Int) + 1)).buf l } := by
    unfold wrNext
    rw [if_pos ho, setTx_at' _ o1 o2 o1, if_pos rfl]
    have hb : bufNext s.blocks 16 (txOf s ((x : Int) + 1)).buf l = putsTo (txOf s ((x : Int) + 1)).buf l := by unfold bufNext; rw [if_pos hbc]
    rw [hb]; rfl
  refine ⟨x, rfl, hsl, z2, h.g.writes _ l, by rw [e2]; exact h.b, by rw [e2]; exact h.o, by rw [hwl]; exact h.n, h.nl, by rw [List.length_set, hwl]; exact h.sl, fun r hr => ?_, by rw [e2]; exact h.nw, fun y hy hst j hj => ?_⟩
  · rcases List.mem_or_eq_of_mem_set hr with hr | rfl
    · exact h.rl r hr
    · rw [setPuts_length]; exact hrow
  · rw [hwl] at hy
    have hv : (wrNext s ((x : Int) + 1) l).vs = s.vs := by rw [e2]
    by_cases hyx : y = x
    · subst hyx
      have hg : (sn.set y (setPuts (sn.getD y []) l)).getD y [] = setPuts (sn.getD y []) l := by
        unfold List.getD
        rw [List.getElem?_set_self hsl]; rfl
      have hold := h.sw y hy o3 j hj
      rw [hself, hv, hg]
      show (alook (putsTo (txAt s.txs ((y : Int) + 1)).buf l) (j : Int)).getD _ = _
      by_cases hk : ∃ p ∈ l, p.lba = (j : Int)
      · obtain ⟨p, hp, e⟩ := hk
        rw [wantB_mine z4 (fun q hq => by rw [hrow]; exact z2 q hq) hp (z3 p hp) e, ← e, sn_puts_mine l _ p z4 hp]; rfl
      · have hne : ∀ p ∈ l, p.lba ≠ (j : Int) := fun p hp e => hk ⟨p, hp, e⟩
        rw [wantB_other (fun q hq => (z2 q hq).1) hne, sn_puts_other l _ _ hne]
        exact hold
    · have hg : (sn.set x (setPuts (sn.getD x []) l)).getD y [] = sn.getD y [] := by
        unfold List.getD
        rw [List.getElem?_set_ne (fun e => hyx e.symm)]
      have hf := wr_frame (s := s) ((x : Int) + 1) l (x := (y : Int) + 1) (by omega) (by omega)
      rw [hf] at hst ⊢
      rw [hv, hg]
      exact h.sw y hy hst j hj
theorem SnI.wrNo (h : SnI N k s now sn) (hd : Int) (l : List Put) (hc : wrCode s hd l ≠ 0) : SnI N k (wrNext s hd l) now sn := by
  have e2 := wr_same (s := s) hd l
  refine h.keep (h.g.writes hd l) (by rw [e2]) (by rw [e2]) (wr_len hd l) (by rw [e2]) (by rw [e2]) fun x hx hxl hst => ?_
  by_cases hne : x = hd
  · subst hne
    unfold wrNext
    split
    · rename_i ho
      have hbc : ¬ bufCode s.blocks 16 (txOf s x).buf l = 0 := by
        unfold wrCode at hc
        rw [if_pos ho] at hc
        exact hc
      have hb : bufNext s.blocks 16 (txOf s x).buf l = (txOf s x).buf := by unfold bufNext; rw [if_neg hbc]
      rw [setTx_at' _ hx hxl hx, if_pos rfl, hb]
      exact SameT.refl _
    · exact SameT.refl _
  · rw [wr_frame hd l hx hne]; exact SameT.refl _
theorem SnI.rdOk (h : SnI N k s now sn) (hd : Int) (e : Ext) (hc : rdCode s hd e = 0) : ∃ x m f : Nat, hd = (x : Int) + 1 ∧ x < sn.length ∧ e.len = (m : Int) ∧ m ≤ 16 ∧ e.first = (f : Int) ∧ f + m ≤ 20 ∧ (rdOut s hd e).length = 40 * m ∧ ∀ j : Nat, j < m → ((rdOut s hd e).drop (40 * j)).take 40 = wantB (sn.getD x []) (f + j) := by
  have ho : openB s hd = true := by
    unfold rdCode at hc
    split at hc
    · assumption
    · cases hc
  have hrc : readCode s.blocks (txOf s hd).S e = 0 := by
    unfold rdCode at hc
    rw [if_pos ho] at hc
    exact hc
  obtain ⟨r1, r2, r3, r4, _⟩ := readCode_zero hrc
  rw [h.b] at r4
  obtain ⟨o1, o2, o3⟩ := openB_iff.1 ho
  obtain ⟨x, rfl⟩ : ∃ x : Nat, hd = (x : Int) + 1 := ⟨(hd - 1).toNat, by omega⟩
  have hx : x < s.txs.length := by omega
  have htg := h.g.tx _ (txAt_mem o1 o2)
  have h40 : ∀ i : Nat, (blkV s.vs (txOf s ((x : Int) + 1)).buf (txOf s ((x : Int) + 1)).at' (e.first + i)).length = 40 := fun i => by
    unfold blkV
    cases hq : alook (txOf s ((x : Int) + 1)).buf (e.first + i) with
    | none => exact good_get40 h.g.ge _ _
    | some d => exact (htg.bg.ks _ (alook_in hq)).2.2
  refine ⟨x, e.len.toNat, e.first.toNat, rfl, by rw [h.sl]; exact hx, by omega, by omega, by omega, by omega, rowsF_length h40 _, fun j hj => ?_⟩
  have hcut := sn_cut h40 hj
  have hw := h.sw x hx o3 (e.first.toNat + j) (by omega)
  rw [show ((e.first.toNat + j : Nat) : Int) = e.first + j by omega] at hw
  exact hcut.trans hw
theorem SnI.batch (h : SnI N k s now sn) (hc : baCode s = 0) : MgG N (baNext s) ∧ (baNext s).queue.length ≤ 1000000 ∧ (baNext s).out ≤ 8 ∧ doneCode (baNext s) = 0 ∧ (∀ t ∈ waitL s, ∀ p ∈ t.puts, 0 ≤ p.lba ∧ p.lba < 20) ∧ formN (waitL s) ≤ (waitL s).length ∧ (nowTo s now (formN (waitL s))).length = 20 ∧ SnI (N + 128) k (doneNext (baNext s) 0) (nowTo s now (formN (waitL s))) sn := by
  have hq0 : 0 < s.queue.length := by
    unfold baCode at hc
    split at hc
    · cases hc
    · split at hc
      · cases hc
      · omega
  have e : baNext s = { s with out := formN (waitL s) } := if_pos hc
  obtain ⟨b1, b2, b3, b4, b5, b6, b7⟩ := baNext_more s h.o
  have g1 := h.g.batches
  have g2 := g1.dones 0 b6
  obtain ⟨d1, d2, d3, d4, d5, d6, d7⟩ := done_frame g1 0
  have hfb := (formN_bd (waitL s)).1
  have hfp := formN_pos (l := waitL s) (by rw [waitL_len]; exact hq0)
  have hfq : formN (waitL s) ≤ (baNext s).queue.length := by rw [b5, ← waitL_len]; exact hfb
  obtain ⟨s1, s2, s3, s4⟩ := sn_done (N := N) (s := baNext s) (now := now) g1 (by rw [b1]; exact h.b) h.nl (by rw [e]; exact h.nw) (formN (waitL s)) hfq
  have hwl : waitL (baNext s) = waitL s := by rw [e]; rfl
  have hnt : nowTo (baNext s) now (formN (waitL s)) = nowTo s now (formN (waitL s)) := by unfold nowTo; rw [hwl]
  have hlast : (baNext s).last = s.last := by rw [e]
  have hvs : (baNext s).vs = s.vs := by rw [e]
  have hout : (baNext s).out = (formN (waitL s) : Int) := by rw [e]
  have hdn : (doneNext (baNext s) 0).vs = (doneTo 0 (baNext s) (formN (waitL s))).vs ∧ (doneNext (baNext s) 0).last = (doneTo 0 (baNext s) (formN (waitL s))).last := by
    unfold doneNext doneTo
    rw [if_neg (by rw [hout]; omega), hout, Int.toNat_natCast]
    exact ⟨rfl, rfl⟩
  rw [hnt] at s1 s2
  rw [hlast] at s3 s4
  rw [hvs] at s4
  refine ⟨g1, ?_, b6, by unfold doneCode; rw [if_neg (by rw [hout]; omega)], fun t ht p hp => ?_, hfb, s1, g2, by rw [d2, b1]; exact h.b, d1, by rw [d5, b4]; exact h.n, s1, by rw [d5, b4]; exact h.sl, h.rl, by rw [hdn.1, hdn.2]; exact s2, fun x hx hst j hj => ?_⟩
  · have := g1.qlen16; omega
  · obtain ⟨hh, hm, rfl⟩ := List.mem_map.1 ht
    have := (sn_wait h.g hm).2.1 p hp
    rw [h.b] at this
    exact ⟨this.1, this.2.1⟩
  · rw [d5, b4] at hx
    have hnq : ((x : Int) + 1) ∉ (baNext s).queue := fun hm => by
      have hst' := hst
      have hout' : (doneNext (baNext s) 0).txs = (doneTo 0 (baNext s) (formN (waitL s))).txs := by
        unfold doneNext doneTo
        rw [if_neg (by rw [hout]; omega), hout, Int.toNat_natCast]
      by_cases hin : ((x : Int) + 1) ∈ (baNext s).queue.drop (formN (waitL s))
      · rw [hout', doneTo_tx g1 0 _ hfq _ hin, (g1.qp _ hm).1] at hst'
        exact absurd hst' (by decide)
      · have hin2 : ((x : Int) + 1) ∈ (baNext s).queue.take (formN (waitL s)) := by
          rw [← List.take_append_drop (formN (waitL s)) (baNext s).queue] at hm
          exact (List.mem_append.1 hm).resolve_right hin
        rw [hout', sn_ended g1 _ hfq _ hin2] at hst'
        exact absurd hst' (by decide)
    have hf := d7 ((x : Int) + 1) (by omega) hnq
    rw [b4] at hf
    rw [hf] at hst ⊢
    have hat := h.g.ta _ (txAt_mem (show 1 ≤ (x : Int) + 1 by omega) (show (x : Int) + 1 ≤ s.txs.length by omega))
    have hold := h.sw x hx hst j hj
    rw [← hold, hdn.1]
    unfold blkV
    rw [s4 _ hat.2 (j : Int)]
end
end Go.Proofs
