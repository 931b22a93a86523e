/- TxnReaders: plain. -/
import Derived.Test.YtajjadoalfjnkaaGreatFrame23
namespace Go.Proofs
open Go.RowKit Sc
structure RdJ (N k : Nat) (s : MgS) : Prop where
  g : MgG N s
  b : s.blocks = 20
  o : s.out = 0
  gv : s.given ≤ k
  n : s.txs.length ≤ k + 1
  n1 : 1 ≤ s.txs.length
  x : (txAt s.txs 1).st = 1 ∧ (txAt s.txs 1).at' = 0 ∧ (txAt s.txs 1).buf = []
section
variable {N k : Nat} {s : MgS}
theorem RdJ.mono {N' k' : Nat} (h : RdJ N k s) (h1 : N ≤ N') (h2 : k ≤ k') : RdJ N' k' s := ⟨h.g.mono h1, h.b, h.o, by have := h.gv; omega, by have := h.n; omega, h.n1, h.x⟩
theorem RdJ.read (h : RdJ N k s) (hd : Int) (e : Ext) : RdJ (N + 16) k (rdNext s hd e) := by
  have f := rd_frame (s := s) hd e (x := 1) (by omega)
  have e2 := rd_same (s := s) hd e
  have g := h.g.reads hd e
  have hl := rd_len (s := s) hd e
  generalize rdNext s hd e = S at *
  refine ⟨g, ?_, ?_, ?_, by rw [hl]; exact h.n, by rw [hl]; exact h.n1, by rw [f.1, f.2.1, f.2.2]; exact h.x⟩
  · rw [e2]; exact h.b
  · rw [e2]; exact h.o
  · rw [e2]; exact h.gv
theorem RdJ.beg (h : RdJ N k s) (hN : N < 1000000) : RdJ (N + 1) (k + 1) (begNext s) := by
  have g := h.g.begins hN
  by_cases hc : begC s = 0
  · have h16 : s.tmb.length < 16 := by
      unfold begC OpenOk at hc
      split at hc
      · cases hc
      · split at hc
        · cases hc
        · omega
    obtain ⟨t1, t2, t3, t4⟩ := beg_tx h.g h16
    have e := (beg_ok h.g h16).2.2
    have hx := t3 1 (by omega) (by have := h.n1; omega)
    refine ⟨g, by rw [e]; exact h.b, by rw [e]; exact h.o, by rw [e]; have := h.gv; show s.given ≤ _; omega, by rw [t4]; have := h.n; omega, by rw [t4]; omega, by rw [hx]; exact h.x⟩
  · have e : begNext s = s := if_neg hc
    rw [e] at g ⊢
    exact ⟨g, h.b, h.o, by have := h.gv; omega, by have := h.n; omega, h.n1, h.x⟩
theorem RdJ.wr (h : RdJ N k s) {hd : Int} (hne : hd ≠ 1) (l : List Put) : RdJ N k (wrNext s hd l) := by
  have f := wr_frame (s := s) hd l (x := 1) (by omega) (fun e => hne e.symm)
  have e2 := wr_same (s := s) hd l
  have g := h.g.writes hd l
  have hl := wr_len (s := s) hd l
  generalize wrNext s hd l = S at *
  refine ⟨g, ?_, ?_, ?_, by rw [hl]; exact h.n, by rw [hl]; exact h.n1, by rw [f]; exact h.x⟩
  · rw [e2]; exact h.b
  · rw [e2]; exact h.o
  · rw [e2]; exact h.gv
theorem RdJ.cm (h : RdJ N k s) {hd : Int} (hne : hd ≠ 1) : RdJ N (k + 1) (cmNext s hd) := by
  have f := cm_frame (s := s) hd (x := 1) (by omega) (fun e => hne e.symm)
  obtain ⟨e2, e3⟩ := cm_same (s := s) hd
  have g := h.g.commits hd
  have hl := cmNext_len s hd
  generalize cmNext s hd = S at *
  refine ⟨g, ?_, ?_, ?_, by rw [hl]; have := h.n; omega, by rw [hl]; exact h.n1, by rw [f]; exact h.x⟩
  · rw [e2]; exact h.b
  · rw [e2]; exact h.o
  · have := h.gv
    rcases e3 with e | e <;> omega
theorem RdJ.ab (h : RdJ N k s) {hd : Int} (hne : hd ≠ 1) : RdJ N k (abNext s hd) := by
  have f := ab_frame (s := s) hd (x := 1) (by omega) (fun e => hne e.symm)
  have e2 := ab_same (s := s) hd
  have g := h.g.aborts hd
  have hl := ab_len (s := s) hd
  generalize abNext s hd = S at *
  refine ⟨g, ?_, ?_, ?_, by rw [hl]; exact h.n, by rw [hl]; exact h.n1, by rw [f]; exact h.x⟩
  · rw [e2]; exact h.b
  · rw [e2]; exact h.o
  · rw [e2]; exact h.gv
theorem baNext_more (s : MgS) (h0 : s.out = 0) : (baNext s).blocks = s.blocks ∧ (baNext s).given = s.given ∧ (baNext s).ro = s.ro ∧ (baNext s).txs = s.txs ∧ (baNext s).queue = s.queue ∧ (baNext s).out ≤ 8 ∧ (0 < s.queue.length → 1 ≤ (baNext s).out) := by
  unfold baNext
  split
  · have := formN_bd (waitL s)
    refine ⟨rfl, rfl, rfl, rfl, rfl, by show (formN (waitL s) : Int) ≤ 8; omega, fun h => ?_⟩
    have := formN_pos (l := waitL s) (by rw [waitL_len]; exact h)
    show 1 ≤ (formN (waitL s) : Int)
    omega
  · rename_i hc
    refine ⟨rfl, rfl, rfl, rfl, rfl, by omega, fun h => ?_⟩
    exact absurd (by unfold baCode; rw [if_neg (by omega), if_neg (by omega)]) hc
theorem RdJ.batch (h : RdJ N k s) : MgG N (baNext s) ∧ (baNext s).out ≤ 8 ∧ RdJ (N + 128) k (doneNext (baNext s) 0) := by
  obtain ⟨b1, b2, b3, b4, b5, b6, b7⟩ := baNext_more s h.o
  have g := h.g.batches
  have g2 := g.dones 0 b6
  obtain ⟨d1, d2, d3, d4, d5, d6, d7⟩ := done_frame g 0
  have hx : txAt (doneNext (baNext s) 0).txs 1 = txAt s.txs 1 := by
    rw [d7 1 (by omega) (fun hm => ?_), b4]
    have := (g.qp 1 hm).1
    rw [b4, h.x.1] at this
    omega
  exact ⟨g, b6, g2, by rw [d2, b1]; exact h.b, d1, by rw [d3, b2]; exact h.gv, by rw [d5, b4]; exact h.n, by rw [d5, b4]; exact h.n1, by rw [hx]; exact h.x⟩
theorem RdJ.ro (h : RdJ N k s) (q : Bool) : RdJ N k { s with ro := q } := ⟨h.g.reads_only q, h.b, h.o, h.gv, h.n, h.n1, h.x⟩
theorem RdJ.pr (h : RdJ N k s) : RdJ N k (prNext s) := ⟨h.g.prunes, h.b, h.o, h.gv, h.n, h.n1, h.x⟩
theorem MgG.qlen16 (g : MgG N s) : s.queue.length ≤ 16 := by
  have h : ∀ x ∈ s.queue, x ∈ s.tmb.map (·.1) := fun x hx => by
    obtain ⟨q1, q2⟩ := g.qr x hx
    have := g.bk x q1 q2
    rw [if_pos (.inr (g.qp x hx).1)] at this
    exact List.mem_map.2 ⟨_, alook_in this, rfl⟩
  have := List.Nodup.length_le_of_subset g.qd h
  rw [List.length_map] at this
  have := g.k6
  omega
theorem rdJ_start : begH (mgNew 20 0) = 1 ∧ begC (mgNew 20 0) = 0 ∧ RdJ 1 0 (begNext (mgNew 20 0)) := by
  have g0 : MgG 0 (mgNew 20 0) := MgG.new (by omega) (by omega) (by omega) (by omega)
  have g := g0.begins (by omega)
  obtain ⟨b1, b2, b3⟩ := beg_ok g0 (by decide)
  obtain ⟨t1, t2, t3, t4⟩ := beg_tx g0 (by decide)
  refine ⟨b2, b1, g, by rw [b3]; rfl, by rw [b3]; rfl, by rw [b3]; exact Int.le_refl _, by rw [t4]; exact Nat.le_refl _, by rw [t4]; exact Nat.le_refl _, ?_⟩
  have h : txAt (begNext (mgNew 20 0)).txs 1 = _ := t2
  rw [h]
  exact ⟨rfl, rfl, rfl⟩
/-- Behind the reader's commit. -/
structure RdK (N k q : Nat) (s : MgS) : Prop where
  g : MgG N s
  b : s.blocks = 20
  o : s.out = 0
  gv : s.given ≤ k
  n : s.txs.length ≤ k + 1
  r : s.ro = false
  q : s.queue.length ≤ q
theorem RdJ.commit (h : RdJ N k s) : cmCode s 1 = 0 ∧ MgG N (cmNext s 1) ∧ resOf (cmNext s 1) 1 = (3, 0, 0) ∧ RdK N k 16 { cmNext s 1 with ro := false } := by
  have ho : openB s 1 = true := openB_iff.2 ⟨by omega, by have := h.n1; omega, h.x.1⟩
  have hb : (txOf s 1).buf.length = 0 := by rw [txOf_txAt, h.x.2.2]; rfl
  have e1 : cmCode s 1 = 0 := by unfold cmCode; rw [if_pos ho, if_pos hb]
  have e2 : cmNext s 1 = endNext (setTx s 1 { txOf s 1 with tm := (txOf s 1).at' }) 1 3 0 := by unfold cmNext; rw [if_pos ho, if_pos hb]
  have g := h.g.commits 1
  have hq := g.qlen16
  rw [e2] at g hq ⊢
  have hlen : (setTx s 1 { txOf s 1 with tm := (txOf s 1).at' }).txs.length = s.txs.length := setTx_len ..
  obtain ⟨y1, y2, y3⟩ := end_tx (s := setTx s 1 { txOf s 1 with tm := (txOf s 1).at' }) (h := 1) (st := 3) (cd := 0) (by omega) (by rw [hlen]; have := h.n1; omega)
  refine ⟨e1, g, ?_, g.reads_only false, h.b, h.o, h.gv, ?_, rfl, hq⟩
  · rw [res_at (by omega) (by rw [y3, hlen]; have := h.n1; omega), y1, setTx_at' _ (by omega) (by have := h.n1; omega) (by omega), if_pos rfl]
    show ((3 : Int), (txAt s.txs 1).at', (0 : Int)) = _
    rw [h.x.2.1]
  · show (endNext (setTx s 1 { txOf s 1 with tm := (txOf s 1).at' }) 1 3 0).txs.length ≤ k + 1
    rw [y3, hlen]; exact h.n
theorem RdK.batch {q : Nat} (h : RdK N k q s) : MgG N (baNext s) ∧ (baNext s).out ≤ 8 ∧ RdK (N + 128) k (q - 1) (doneNext (baNext s) 0) := by
  obtain ⟨b1, b2, b3, b4, b5, b6, b7⟩ := baNext_more s h.o
  have g := h.g.batches
  have g2 := g.dones 0 b6
  obtain ⟨d1, d2, d3, d4, d5, d6, d7⟩ := done_frame g 0
  refine ⟨g, b6, g2, by rw [d2, b1]; exact h.b, d1, by rw [d3, b2]; exact h.gv, by rw [d5, b4]; exact h.n, by rw [d4, b3]; exact h.r, ?_⟩
  rw [d6, b5, List.length_drop]
  have := h.q
  by_cases h0 : s.queue.length = 0
  · omega
  · have := b7 (by omega)
    omega
/-- All up to a number are ended. -/
structure RdL (N k m : Nat) (s : MgS) : Prop where
  g : MgG N s
  b : s.blocks = 20
  gv : s.given ≤ k
  n : s.txs.length ≤ k + 1
  r : s.ro = false
  q : s.queue = []
  e : ∀ x : Int, 1 ≤ x → x < m → x ≤ s.txs.length → (txAt s.txs x).st ≠ 1
theorem RdK.last (h : RdK N k 0 s) : RdL N k 1 s := ⟨h.g, h.b, h.gv, h.n, h.r, List.eq_nil_of_length_eq_zero (by have := h.q; omega), fun x a b => by omega⟩
theorem RdL.ab {m : Nat} (h : RdL N k m s) (hm : 1 ≤ m) : RdL N k (m + 1) (abNext s (m : Int)) := by
  have e2 := ab_same (s := s) (m : Int)
  have g := h.g.aborts (m : Int)
  have hl := ab_len (s := s) (m : Int)
  have hf := fun {x : Int} (hx : 1 ≤ x) (hne : x ≠ (m : Int)) => ab_frame (s := s) (m : Int) hx hne
  have hself : (m : Int) ≤ s.txs.length → (txAt (abNext s (m : Int)).txs (m : Int)).st ≠ 1 := fun hle => by
    unfold abNext
    split
    · rw [(end_tx (st := 4) (cd := 0) (by omega : 1 ≤ (m : Int)) hle).1]
      show ¬ (4 : Int) = 1
      omega
    · rename_i ho
      intro e
      exact ho (openB_iff.2 ⟨by omega, hle, e⟩)
  generalize abNext s (m : Int) = S at *
  refine ⟨g, ?_, ?_, by rw [hl]; exact h.n, ?_, ?_, fun x a b c => ?_⟩
  · rw [e2]; exact h.b
  · rw [e2]; exact h.gv
  · rw [e2]; exact h.r
  · rw [e2]; exact h.q
  · rw [hl] at c
    by_cases hxm : x = (m : Int)
    · subst hxm
      exact hself c
    · rw [hf a hxm]
      exact h.e x a (by omega) c
theorem wrB_old {blocks last t : Int} {vs : Vers} (g : GoodE blocks last vs) (ht : last ≤ t) (x : Ext) : wrB vs x t = false := by
  unfold wrB writtenB
  rw [Bool.and_eq_false_iff]
  refine .inr (List.any_eq_false.2 fun y hy => ?_)
  obtain ⟨h1, h2, h3⟩ := g.ts y.1 y.2 (alook_mem g.nd hy)
  have hl : lastT y.2 ≤ last := by
    obtain ⟨j, hj⟩ : ∃ j, y.2.length = j + 1 := ⟨y.2.length - 1, by have := List.length_pos_iff.2 h1; omega⟩
    rw [lastT_get hj]
    exact (h3 _ (List.getElem_mem _)).2.2
  unfold hitB
  rw [decide_eq_false (show ¬ t < lastT y.2 by omega)]
  simp
theorem RdL.fin {m : Nat} (h : RdL N k m s) (hm : k + 1 < m) (hk : k < 1000000) (hN : N < 900000) (e : Ext) {d : Bytes} (hd : d.length = 40) : begC s = 0 ∧ MgG (N + 1) (begNext s) ∧ (begNext s).tmb.length = 1 ∧ MgG (N + 17) (rdNext (begNext s) (begH s) e) ∧ wrCode (rdNext (begNext s) (begH s) e) (begH s) [⟨3, d⟩] = 0 ∧ MgG (N + 17) (wrNext (rdNext (begNext s) (begH s) e) (begH s) [⟨3, d⟩]) ∧
    (wrNext (rdNext (begNext s) (begH s) e) (begH s) [⟨3, d⟩]).queue.length ≤ 1000000 ∧ cmCode (wrNext (rdNext (begNext s) (begH s) e) (begH s) [⟨3, d⟩]) (begH s) = 0 := by
  have htm : s.tmb = [] := by
    cases hq : s.tmb with
    | nil => rfl
    | cons y t =>
      exfalso
      have hy : y ∈ s.tmb := by rw [hq]; simp
      have hk1 := h.g.kd.ks y hy
      have hh := h.g.hh
      have hn := h.n
      have hb := h.g.bk y.1 hk1.1 (by omega)
      rw [alook_mem h.g.kn hy] at hb
      have h1 := h.e y.1 hk1.1 (by omega) (by omega)
      have h2 : (txAt s.txs y.1).st ≠ 2 := fun e => by
        have := h.g.qs y.1 hk1.1 (by omega) e
        rw [h.q] at this
        cases this
      rw [if_neg (fun hh => hh.elim h1 h2)] at hb
      cases hb
  obtain ⟨b1, b2, b3⟩ := beg_ok h.g (by rw [htm]; simp)
  obtain ⟨t1, t2, t3, t4⟩ := beg_tx h.g (by rw [htm]; simp)
  have g1 := h.g.begins (by omega)
  rw [← b2] at t1 t2
  have g2 := g1.reads (begH s) e
  have hf := rd_frame (s := begNext s) (begH s) e (x := begH s) (by rw [b2]; omega)
  have hrs := rd_same (s := begNext s) (begH s) e
  have hrl := rd_len (s := begNext s) (begH s) e
  have h1t : (begNext s).tmb.length = 1 := by rw [b3]; show (s.tmb ++ [(s.lastH + 1, s.last)]).length = 1; rw [htm]; rfl
  have hla : (begNext s).last = s.last := by rw [b3]
  generalize hS : rdNext (begNext s) (begH s) e = S at *
  have s1 : S.blocks = 20 := by rw [hrs, b3]; exact h.b
  have s2 : S.queue = [] := by rw [hrs, b3]; exact h.q
  have s3 : S.ro = false := by rw [hrs, b3]; exact h.r
  have s4 : S.given = s.given := by rw [hrs, b3]
  have s5 : S.last = s.last := by rw [hrs, b3]
  have hx := hf
  rw [t2] at hx
  have ho : openB S (begH s) = true := openB_iff.2 ⟨by rw [b2]; omega, by rw [hrl, t4, b2]; omega, by rw [hx.1]⟩
  obtain ⟨w1, w2, w3, w4, w5, w6⟩ := wr_tx (k := 3) (d := d) ho (by rw [s1]; omega) hd (by rw [hx.2.2]; show 0 < 16; omega)
  have g3 := g2.writes (begH s) [⟨3, d⟩]
  have hws : (wrNext S (begH s) [⟨3, d⟩]) = { S with txs := (wrNext S (begH s) [⟨3, d⟩]).txs } := wr_same _ _
  generalize hT : wrNext S (begH s) [⟨3, d⟩] = T at *
  have v1 : T.queue = [] := by rw [hws]; exact s2
  have v2 : T.last = s.last := by rw [hws]; exact s5
  have v3 : T.ro = false := by rw [hws]; exact s3
  have v4 : T.given = s.given := by rw [hws]; exact s4
  have hat : (txAt T.txs (begH s)).at' = s.last := by rw [w4]; exact hx.2.1
  have hchk : checkCode T.vs (waitL T) (txAt T.txs (begH s)).at' (txAt T.txs (begH s)).S (setB (txAt T.txs (begH s))) = 0 := by
    refine check_free (fun x _ => wrB_old g3.ge (by rw [hat, ← v2]; exact g3.l0) x) fun q hq' p hp => ?_
    unfold waitL at hq'
    rw [v1] at hq'
    cases hq'
  have hgv := h.gv
  obtain ⟨c1, c2⟩ := cm_ok w3 (by rw [txOf_txAt, w4]; show 0 < (aset (txAt S.txs (begH s)).buf 3 d).length; rw [hx.2.2]; show 0 < 1; omega) (by rw [txOf_txAt]; exact may_ok v3 hchk (by rw [v4]; omega))
  exact ⟨b1, g1, h1t, g2, w1, g3, by rw [v1]; simp, c1⟩
end
end Go.Proofs
