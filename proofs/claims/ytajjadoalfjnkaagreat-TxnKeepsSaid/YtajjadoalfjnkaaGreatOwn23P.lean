/- TxnOwn: plain. -/
import Derived.Test.YtajjadoalfjnkaaGreatClash23P
namespace Go.Proofs
open Go.RowKit Sc
def SOk (lba : Int) (S : List Ext) : Prop := S = [] ∨ S = [⟨lba, 1⟩]
theorem readCode_ok {blocks k : Int} {S : List Ext} (h : 0 ≤ k ∧ k < blocks) (hb : blocks ≤ 1048576) (hS : SOk k S) : readCode blocks S ⟨k, 1⟩ = 0 ∧ addNext 64 S [⟨k, 1⟩] = [⟨k, 1⟩] := by
  rcases hS with rfl | rfl
  · exact readCode_one h hb
  · have hg : SetG [(⟨k, 1⟩ : Ext)] := ⟨Canon.mk1 (by simp), fun e he => by rw [List.mem_singleton] at he; subst he; unfold Oke; simp only; omega⟩
    have ha : allB [(⟨k, 1⟩ : Ext)] = true := by
      unfold allB
      simp only [List.all_cons, List.all_nil, Bool.and_true]
      exact mayB_iff.2 (by simp only; omega)
    have hn : normE ([(⟨k, 1⟩ : Ext)] ++ [⟨k, 1⟩]) = [⟨k, 1⟩] := normE_ext (by simp) (Canon.mk1 (by simp)) fun x => by
      rw [cov_append]
      exact ⟨fun h => .inl h, fun h => h.elim id id⟩
    obtain ⟨c1, c2⟩ := addCode_is (most := 64) hg ha (by simp) hn
    rw [if_neg (by simp)] at c1 c2
    refine ⟨?_, c2⟩
    unfold readCode
    rw [if_neg (by simp only; omega), if_neg, if_neg (by rw [c1]; simp)]
    unfold withinB
    rw [decide_eq_true (show (0 : Int) ≤ k by omega), decide_eq_true (show (1 : Int) ≤ 1 by omega), decide_eq_true (show (1 : Int) ≤ blocks by omega), decide_eq_true (show k ≤ blocks - 1 by omega)]
    decide
/-- A read of one block. -/
theorem rd_one {s : MgS} {h lba : Int} (ho : openB s h = true) (hl : 0 ≤ lba ∧ lba < s.blocks) (hb : s.blocks ≤ 1048576) (hS : SOk lba (txAt s.txs h).S) :
    rdCode s h ⟨lba, 1⟩ = 0 ∧ rdOut s h ⟨lba, 1⟩ = blkV s.vs (txAt s.txs h).buf (txAt s.txs h).at' lba ∧ rdNext s h ⟨lba, 1⟩ = setTx s h { txAt s.txs h with S := [⟨lba, 1⟩], R := (txAt s.txs h).R ++ readsV s.vs (txAt s.txs h).buf (txAt s.txs h).at' lba (1 : Int).toNat } := by
  obtain ⟨c1, c2⟩ := readCode_ok hl hb hS
  have hc : rdCode s h ⟨lba, 1⟩ = 0 := by unfold rdCode; rw [if_pos ho]; exact c1
  refine ⟨hc, ?_, ?_⟩
  · show rowsF (fun i : Nat => blkV s.vs (txAt s.txs h).buf (txAt s.txs h).at' (lba + i)) 1 = _
    rw [rowsF_succ]
    show [] ++ blkV s.vs (txAt s.txs h).buf (txAt s.txs h).at' (lba + (0 : Nat)) = _
    rw [List.nil_append]
    congr 1
    omega
  · unfold rdNext
    rw [if_pos hc]
    show setTx s h { txAt s.txs h with S := addNext 64 (txAt s.txs h).S [⟨lba, 1⟩], R := _ } = _
    rw [c2]
    rfl
theorem blkV_own {vs : Vers} {s : List (Int × Bytes)} {t x : Int} {d : Bytes} (h : alook s x = some d) : blkV vs s t x = d := by unfold blkV; rw [h]; rfl
theorem blkV_nil {t x : Int} : blkV [] [] t x = zeroB := by
  unfold blkV getV
  simp [alook]
theorem blkV_at {t x : Int} {d : Bytes} : blkV [(x, [⟨1, d⟩])] [] t x = if 1 ≤ t then d else zeroB := by
  unfold blkV getV
  by_cases h : 1 ≤ t
  · simp [alook, atN, h]
  · simp [alook, atN, h]
structure OwI (lba : Int) (n : Nat) (bf : List (Int × Bytes)) (s : MgS) : Prop where
  g : MgG n s
  b : s.blocks = 20
  v : s.vs = []
  r : s.ro = false
  q : s.queue = []
  o : s.out = 0
  gv : s.given = 0
  l : s.last = 0
  l0 : s.last0 = 0
  n2 : s.txs.length = 2
  k : s.tmb.length = 2
  x1 : (txAt s.txs 1).st = 1 ∧ (txAt s.txs 1).at' = 0 ∧ (txAt s.txs 1).buf = bf ∧ SOk lba (txAt s.txs 1).S
  x2 : (txAt s.txs 2).st = 1 ∧ (txAt s.txs 2).at' = 0 ∧ (txAt s.txs 2).buf = [] ∧ SOk lba (txAt s.txs 2).S
theorem ow_bf {lba : Int} {bf : List (Int × Bytes)} {i : Nat} {D : Bytes} (h : bf = if i = 0 then [] else [(lba, D)]) : (∀ d, aset bf lba d = [(lba, d)]) ∧ bf.length ≤ 1 := by
  subst h
  split
  · exact ⟨fun d => rfl, by simp⟩
  · exact ⟨fun d => by simp [aset], by simp⟩
theorem ow_beg : begC (mgNew 20 0) = 0 ∧ begH (mgNew 20 0) = 1 ∧ begC (begNext (mgNew 20 0)) = 0 ∧ begH (begNext (mgNew 20 0)) = 2 := ⟨rfl, rfl, rfl, rfl⟩
theorem OwI.start (lba : Int) : MgG 0 (mgNew 20 0) ∧ MgG 1 (begNext (mgNew 20 0)) ∧ OwI lba 2 [] (begNext (begNext (mgNew 20 0))) := by
  have g0 : MgG 0 (mgNew 20 0) := MgG.new (by omega) (by omega) (by omega) (by omega)
  exact ⟨g0, g0.begins (by omega), (g0.begins (by omega)).begins (by omega), rfl, rfl, rfl, rfl, rfl, rfl, rfl, rfl, rfl, rfl, ⟨rfl, rfl, rfl, .inl rfl⟩, ⟨rfl, rfl, rfl, .inl rfl⟩⟩
section
variable {lba : Int} {n : Nat} {bf : List (Int × Bytes)} {s : MgS}
theorem OwI.o1 (h : OwI lba n bf s) : openB s 1 = true := openB_iff.2 ⟨by omega, by rw [h.n2]; omega, h.x1.1⟩
theorem OwI.o2 (h : OwI lba n bf s) : openB s 2 = true := openB_iff.2 ⟨by omega, by rw [h.n2]; omega, h.x2.1⟩
/-- One of the two turned. -/
theorem OwI.turn (h : OwI lba n bf s) {m : Nat} {t : TxS} {bf' : List (Int × Bytes)} (g : MgG m (setTx s 1 t)) (ht : t.st = 1 ∧ t.at' = 0 ∧ t.buf = bf' ∧ SOk lba t.S) : OwI lba m bf' (setTx s 1 t) := by
  have hat := fun {x : Int} hx => setTx_at' (s := s) (h := 1) t (by omega) (by rw [h.n2]; omega) (x := x) hx
  have e1 := hat (x := 1) (by omega)
  have e2 := hat (x := 2) (by omega)
  rw [if_pos rfl] at e1
  rw [if_neg (by omega)] at e2
  exact ⟨g, h.b, h.v, h.r, h.q, h.o, h.gv, h.l, h.l0, (setTx_len ..).trans h.n2, h.k, by rw [e1]; exact ht, by rw [e2]; exact h.x2⟩
theorem OwI.turn2 (h : OwI lba n bf s) {m : Nat} {t : TxS} (g : MgG m (setTx s 2 t)) (ht : t.st = 1 ∧ t.at' = 0 ∧ t.buf = [] ∧ SOk lba t.S) : OwI lba m bf (setTx s 2 t) := by
  have hat := fun {x : Int} hx => setTx_at' (s := s) (h := 2) t (by omega) (by rw [h.n2]; omega) (x := x) hx
  have e1 := hat (x := 1) (by omega)
  have e2 := hat (x := 2) (by omega)
  rw [if_neg (by omega)] at e1
  rw [if_pos rfl] at e2
  exact ⟨g, h.b, h.v, h.r, h.q, h.o, h.gv, h.l, h.l0, (setTx_len ..).trans h.n2, h.k, by rw [e1]; exact h.x1, by rw [e2]; exact ht⟩
theorem OwI.step (h : OwI lba n bf s) (hl : 0 ≤ lba ∧ lba < 20) (hbf : ∀ d, aset bf lba d = [(lba, d)]) (hbl : bf.length ≤ 1) {d : Bytes} (hd : d.length = 40) :
    wrCode s 1 [⟨lba, d⟩] = 0 ∧ MgG n (wrNext s 1 [⟨lba, d⟩]) ∧ rdCode (wrNext s 1 [⟨lba, d⟩]) 1 ⟨lba, 1⟩ = 0 ∧ rdOut (wrNext s 1 [⟨lba, d⟩]) 1 ⟨lba, 1⟩ = d ∧ MgG (n + 16) (rdNext (wrNext s 1 [⟨lba, d⟩]) 1 ⟨lba, 1⟩) ∧
    rdCode (rdNext (wrNext s 1 [⟨lba, d⟩]) 1 ⟨lba, 1⟩) 2 ⟨lba, 1⟩ = 0 ∧ rdOut (rdNext (wrNext s 1 [⟨lba, d⟩]) 1 ⟨lba, 1⟩) 2 ⟨lba, 1⟩ = zeroB ∧ OwI lba (n + 32) [(lba, d)] (rdNext (rdNext (wrNext s 1 [⟨lba, d⟩]) 1 ⟨lba, 1⟩) 2 ⟨lba, 1⟩) := by
  obtain ⟨w1, w2, w3, w4, w5, w6⟩ := wr_tx (k := lba) (d := d) h.o1 (by rw [h.b]; exact hl) hd (by rw [h.x1.2.2.1]; omega)
  have g1 := h.g.writes 1 [⟨lba, d⟩]
  rw [w2] at g1 ⊢
  have h1 : OwI lba n [(lba, d)] (setTx s 1 { txAt s.txs 1 with buf := aset (txAt s.txs 1).buf lba d }) := h.turn g1 ⟨h.x1.1, h.x1.2.1, by show aset (txAt s.txs 1).buf lba d = _; rw [h.x1.2.2.1, hbf], h.x1.2.2.2⟩
  generalize setTx s 1 { txAt s.txs 1 with buf := aset (txAt s.txs 1).buf lba d } = S1 at *
  obtain ⟨r1, r2, r3⟩ := rd_one (lba := lba) h1.o1 (by rw [h1.b]; exact hl) (by rw [h1.b]; omega) h1.x1.2.2.2
  have g2 := g1.reads 1 ⟨lba, 1⟩
  rw [r3] at g2 ⊢
  have h2 := h1.turn g2 ⟨h1.x1.1, h1.x1.2.1, h1.x1.2.2.1, .inr rfl⟩
  rw [h1.x1.2.2.1] at r2
  generalize setTx S1 1 _ = S2 at *
  obtain ⟨q1, q2, q3⟩ := rd_one (lba := lba) h2.o2 (by rw [h2.b]; exact hl) (by rw [h2.b]; omega) h2.x2.2.2.2
  have g3 := g2.reads 2 ⟨lba, 1⟩
  rw [q3] at g3 ⊢
  have h3 := h2.turn2 g3 ⟨h2.x2.1, h2.x2.2.1, h2.x2.2.2.1, .inr rfl⟩
  refine ⟨w1, g1, r1, by rw [r2]; exact blkV_own (by simp [alook]), g2, q1, ?_, h3⟩
  rw [q2, h2.v, h2.x2.2.2.1]
  exact blkV_nil
/-- Behind the end of the first one: c begins; both read. -/
structure OwE (lba : Int) (n : Nat) (vs : Vers) (last : Int) (s : MgS) : Prop where
  g : MgG n s
  b : s.blocks = 20
  v : s.vs = vs
  l : s.last = last
  n2 : s.txs.length = 2
  k : s.tmb.length < 16
  x2 : (txAt s.txs 2).st = 1 ∧ (txAt s.txs 2).at' = 0 ∧ (txAt s.txs 2).buf = [] ∧ SOk lba (txAt s.txs 2).S
theorem OwE.fin {vs : Vers} {last : Int} (h : OwE lba n vs last s) (hl : 0 ≤ lba ∧ lba < 20) (hn : n < 1000) : begC s = 0 ∧ begH s = 3 ∧ MgG (n + 1) (begNext s) ∧ rdCode (begNext s) 3 ⟨lba, 1⟩ = 0 ∧ rdOut (begNext s) 3 ⟨lba, 1⟩ = blkV vs [] last lba ∧ MgG (n + 17) (rdNext (begNext s) 3 ⟨lba, 1⟩) ∧ rdCode (rdNext (begNext s) 3 ⟨lba, 1⟩) 2 ⟨lba, 1⟩ = 0 ∧ rdOut (rdNext (begNext s) 3 ⟨lba, 1⟩) 2 ⟨lba, 1⟩ = blkV vs [] 0 lba := by
  obtain ⟨b1, b2, b3⟩ := beg_ok h.g h.k
  obtain ⟨t1, t2, t3, t4⟩ := beg_tx h.g h.k
  rw [h.n2] at b2 t1 t2 t4
  have g1 := h.g.begins (by omega)
  have hb : (begNext s).blocks = 20 := by rw [b3]; exact h.b
  have hv : (begNext s).vs = vs := by rw [b3]; exact h.v
  have t3' := t3 2 (by omega) (by rw [h.n2]; omega)
  change openB (begNext s) 3 = true at t1
  change txAt (begNext s).txs 3 = _ at t2
  obtain ⟨r1, r2, r3⟩ := rd_one (lba := lba) t1 (by rw [hb]; exact hl) (by rw [hb]; omega) (by rw [t2]; exact .inl rfl)
  have g2 := g1.reads 3 ⟨lba, 1⟩
  rw [t2, hv] at r2
  have r2' : rdOut (begNext s) 3 ⟨lba, 1⟩ = blkV vs [] last lba := by rw [r2, h.l]
  have hat := setTx_at' (s := begNext s) (h := 3) { txAt (begNext s).txs 3 with S := [⟨lba, 1⟩], R := (txAt (begNext s).txs 3).R ++ readsV (begNext s).vs (txAt (begNext s).txs 3).buf (txAt (begNext s).txs 3).at' lba (1 : Int).toNat } (by omega) (by rw [t4]; omega) (x := 2) (by omega)
  rw [if_neg (by omega), t3'] at hat
  rw [r3] at g2 ⊢
  have hlen : (setTx (begNext s) 3 { txAt (begNext s).txs 3 with S := [⟨lba, 1⟩], R := (txAt (begNext s).txs 3).R ++ readsV (begNext s).vs (txAt (begNext s).txs 3).buf (txAt (begNext s).txs 3).at' lba (1 : Int).toNat }).txs.length = 3 := (setTx_len ..).trans t4
  obtain ⟨q1, q2, q3⟩ := rd_one (s := setTx (begNext s) 3 { txAt (begNext s).txs 3 with S := [⟨lba, 1⟩], R := (txAt (begNext s).txs 3).R ++ readsV (begNext s).vs (txAt (begNext s).txs 3).buf (txAt (begNext s).txs 3).at' lba (1 : Int).toNat }) (h := 2) (lba := lba) (openB_iff.2 ⟨by omega, by rw [hlen]; omega, by rw [hat]; exact h.x2.1⟩) (by show 0 ≤ lba ∧ lba < (begNext s).blocks; rw [hb]; exact hl) (by show (begNext s).blocks ≤ _; rw [hb]; omega) (by rw [hat]; exact h.x2.2.2.2)
  refine ⟨b1, by rw [b2]; rfl, g1, r1, r2', g2, q1, ?_⟩
  rw [q2, hat, h.x2.2.1, h.x2.2.2.1]
  show blkV (begNext s).vs [] 0 lba = _
  rw [hv]
theorem OwI.abort (h : OwI lba n bf s) : abCode s 1 = 0 ∧ MgG n (abNext s 1) ∧ baCode (abNext s 1) = 14 ∧ (abNext s 1).queue.length ≤ 1000000 ∧ (abNext s 1).out ≤ 8 ∧ doneNext (abNext s 1) 0 = abNext s 1 ∧ OwE lba n [] 0 (abNext s 1) := by
  have g := h.g.aborts 1
  have e : abNext s 1 = endNext s 1 4 0 := by unfold abNext; rw [if_pos h.o1]
  have hc : abCode s 1 = 0 := by unfold abCode; rw [if_pos h.o1]
  rw [e] at g ⊢
  obtain ⟨y1, y2, y3⟩ := end_tx (s := s) (h := 1) (st := 4) (cd := 0) (by omega) (by rw [h.n2]; omega)
  refine ⟨hc, g, ?_, by show s.queue.length ≤ _; rw [h.q]; simp, by show s.out ≤ 8; rw [h.o]; omega, if_pos h.o, g, h.b, h.v, h.l, y3.trans h.n2, ?_, by rw [y2 2 (by omega) (by omega)]; exact h.x2⟩
  · unfold baCode
    rw [if_neg (by show ¬ 0 < s.out; rw [h.o]; omega), if_pos (by show s.queue.length = 0; rw [h.q]; rfl)]
  · have := adel_len_le s.tmb 1
    have := h.k
    show (adel s.tmb 1).length < 16
    omega
theorem OwI.commit (h : OwI lba n bf s) (hl : 0 ≤ lba ∧ lba < 20) {d : Bytes} (hd : d.length = 40) (hbf : bf = [(lba, d)]) : s.queue.length ≤ 1000000 ∧ cmCode s 1 = 0 ∧ MgG n (cmNext s 1) ∧ (cmNext s 1).queue.length ≤ 1000000 ∧ baCode (cmNext s 1) = 0 ∧ MgG n (baNext (cmNext s 1)) ∧ (baNext (cmNext s 1)).queue.length ≤ 1000000 ∧ (baNext (cmNext s 1)).out ≤ 8 ∧ OwE lba (n + 128) [(lba, [⟨1, d⟩])] 1 (doneNext (baNext (cmNext s 1)) 0) := by
  subst hbf
  have hchk : checkCode s.vs (waitL s) (txAt s.txs 1).at' (txAt s.txs 1).S (setB (txAt s.txs 1)) = 0 := by
    rw [h.v]
    refine check_free (fun x _ => wrB_nil x _) fun q hq' p hp => ?_
    unfold waitL at hq'
    rw [h.q] at hq'
    cases hq'
  obtain ⟨c1, c2⟩ := cm_ok h.o1 (by rw [txOf_txAt, h.x1.2.2.1]; simp) (by rw [txOf_txAt]; exact may_ok h.r hchk (by rw [h.gv]; omega))
  obtain ⟨y1, y2, y3⟩ := wait_tx h.o1
  have g2 := h.g.commits 1
  rw [c2] at g2 ⊢
  have q1 : (cmWait s 1).queue = [1] := by show s.queue ++ [1] = [1]; rw [h.q]; rfl
  obtain ⟨a1, a2⟩ := ba_ok (s := cmWait s 1) h.o (by rw [q1]; simp)
  have g3 := g2.batches
  have hf : formN (waitL (cmWait s 1)) = 1 := by
    have h1 := formN_pos (l := waitL (cmWait s 1)) (by rw [waitL_len, q1]; simp)
    have h2 := (formN_bd (waitL (cmWait s 1))).1
    rw [waitL_len, q1] at h2
    simp at h2
    omega
  rw [a2] at g3 ⊢
  rw [hf] at g3 ⊢
  have g4 := g3.dones 0 (by show (1 : Int) ≤ 8; omega)
  have htm : (txAt (cmWait s 1).txs 1).tm = 1 := by rw [y1]; show s.given + 1 = 1; rw [h.gv]; rfl
  have hbu : (txAt (cmWait s 1).txs 1).buf = [(lba, d)] := by rw [y1]; exact h.x1.2.2.1
  have hw : waitTx { cmWait s 1 with out := ((1 : Nat) : Int) } 1 = ⟨1, [⟨lba, d⟩]⟩ := by
    show (⟨(txAt (cmWait s 1).txs 1).tm, bufPuts (txAt (cmWait s 1).txs 1).buf⟩ : Tx) = _
    rw [htm, hbu, bufPuts_one]
  have hap := apply_one (blocks := 20) (last := 0) (tm := 1) (k := lba) (d := d) (by omega) (by omega) hl hd
  have hs : doStep 0 { cmWait s 1 with out := ((1 : Nat) : Int) } 1 = endNext { cmWait s 1 with out := ((1 : Nat) : Int), vs := [(lba, [⟨1, d⟩])], last0 := 1, last := 1 } 1 3 0 := by
    unfold doStep
    rw [if_pos rfl, hw]
    have e1 : applyNext ({ cmWait s 1 with out := ((1 : Nat) : Int) } : MgS).blocks ({ cmWait s 1 with out := ((1 : Nat) : Int) } : MgS).last0 ({ cmWait s 1 with out := ((1 : Nat) : Int) } : MgS).vs ⟨1, [⟨lba, d⟩]⟩ = [(lba, [⟨1, d⟩])] := by
      show applyNext s.blocks s.last0 s.vs _ = _
      rw [h.b, h.l0, h.v]
      unfold applyNext
      exact (if_pos hap).trans rfl
    have e2 : applyLast ({ cmWait s 1 with out := ((1 : Nat) : Int) } : MgS).blocks ({ cmWait s 1 with out := ((1 : Nat) : Int) } : MgS).last0 ⟨1, [⟨lba, d⟩]⟩ = 1 := by
      show applyLast s.blocks s.last0 _ = _
      rw [h.b, h.l0]
      unfold applyLast
      exact (if_pos hap).trans rfl
    rw [e1, e2]
    have e3 : (txOf ({ cmWait s 1 with out := ((1 : Nat) : Int) } : MgS) 1).tm = 1 := htm
    rw [e3]
  have hdn : doneNext { cmWait s 1 with out := ((1 : Nat) : Int) } 0 = { endNext { cmWait s 1 with out := ((1 : Nat) : Int), vs := [(lba, [⟨1, d⟩])], last0 := 1, last := 1 } 1 3 0 with num := (cmWait s 1).num + 1, queue := [], out := 0 } := by
    unfold doneNext
    rw [if_neg (by show ¬ ((1 : Nat) : Int) = 0; omega)]
    have e1 : ({ cmWait s 1 with out := ((1 : Nat) : Int) } : MgS).queue = [1] := q1
    rw [e1]
    show { doStep 0 { cmWait s 1 with out := ((1 : Nat) : Int) } 1 with num := (cmWait s 1).num + 1, queue := [], out := 0 } = _
    rw [hs]
  rw [hdn] at g4 ⊢
  obtain ⟨z1, z2, z3⟩ := end_tx (s := { cmWait s 1 with out := ((1 : Nat) : Int), vs := [(lba, [⟨1, d⟩])], last0 := 1, last := 1 }) (h := 1) (st := 3) (cd := 0) (by omega) (by show (1 : Int) ≤ (cmWait s 1).txs.length; rw [y3, h.n2]; omega)
  refine ⟨by rw [h.q]; simp, c1, g2, by rw [q1]; simp, a1, g3, by show (cmWait s 1).queue.length ≤ _; rw [q1]; simp, by show (1 : Int) ≤ 8; omega, g4, h.b, rfl, rfl, ?_, ?_, ?_⟩
  · exact z3.trans (y3.trans h.n2)
  · have := adel_len_le s.tmb 1
    have := h.k
    show (adel s.tmb 1).length < 16
    omega
  · have e := z2 2 (by omega) (by omega)
    have e2 : txAt (endNext { cmWait s 1 with out := ((1 : Nat) : Int), vs := [(lba, [⟨1, d⟩])], last0 := 1, last := 1 } 1 3 0).txs 2 = txAt s.txs 2 := e.trans (y2 2 (by omega) (by omega))
    have hx := h.x2
    rw [← e2] at hx
    exact hx
end
end Go.Proofs
