/- TxnMany: plain. -/
import Derived.Test.YtajjadoalfjnkaaGreatTxnQ
namespace Go.Proofs
open Go.RowKit Sc
structure ManyI (i : Nat) (s : MgS) : Prop where
  g : MgG i s
  b : s.blocks = 5
  k : s.tmb.length = min i 16
  n : s.txs.length = min i 16
  a : ∀ x : Int, 1 ≤ x → x ≤ s.txs.length → txAt s.txs x = ⟨1, 0, 0, 0, [], [], []⟩
  q : s.queue = []
  o : s.out = 0
  r : s.ro = false
  v : s.vs = []
  gv : s.given = 0
  l : s.last = 0
theorem ManyI.start : ManyI 0 (mgNew 5 0) := ⟨MgG.new (by omega) (by omega) (by omega) (by omega), rfl, rfl, rfl, fun x a b => by simp [mgNew] at b; omega, rfl, rfl, rfl, rfl, rfl, rfl⟩
theorem ManyI.lo {i : Nat} {s : MgS} (h : ManyI i s) (hi : i < 16) : begC s = 0 ∧ ManyI (i + 1) (begNext s) := by
  have hk := h.k
  have hn := h.n
  obtain ⟨b1, b2, b3⟩ := beg_ok h.g (by omega)
  obtain ⟨t1, t2, t3, t4⟩ := beg_tx h.g (by omega)
  refine ⟨b1, ⟨h.g.begins (by omega), by rw [b3]; exact h.b, ?_, by rw [t4]; omega, fun x a c => ?_, by rw [b3]; exact h.q, by rw [b3]; exact h.o, by rw [b3]; exact h.r, by rw [b3]; exact h.v, by rw [b3]; exact h.gv, by rw [b3]; exact h.l⟩⟩
  · rw [b3]
    show (s.tmb ++ [(s.lastH + 1, s.last)]).length = _
    rw [List.length_append, List.length_singleton]
    omega
  · rw [t4] at c
    by_cases e : x = s.txs.length + 1
    · rw [e, t2, h.l]
    · rw [t3 x a (by omega)]
      exact h.a x a (by omega)
theorem ManyI.hi {i : Nat} {s : MgS} (h : ManyI i s) (hi : 16 ≤ i) : begC s = 6 ∧ begH s = 0 ∧ ManyI (i + 1) (begNext s) := by
  have hk := h.k
  have hn := h.n
  obtain ⟨b1, b2, b3⟩ := beg_full h.g (by omega)
  refine ⟨b1, b2, ?_⟩
  rw [b3]
  exact ⟨h.g.mono (by omega), h.b, by omega, by omega, h.a, h.q, h.o, h.r, h.v, h.gv, h.l⟩
structure GoneI (m : Nat) (s : MgS) : Prop where
  g : MgG m s
  k : s.tmb.length < 16
  n : 1 ≤ s.txs.length
  st : (txAt s.txs 1).st ≠ 1
theorem GoneI.done {m : Nat} {s : MgS} (h : GoneI m s) : begC s = 0 ∧ abCode (begNext s) 1 = 5 := by
  obtain ⟨b1, b2, b3⟩ := beg_ok h.g h.k
  obtain ⟨t1, t2, t3, t4⟩ := beg_tx h.g h.k
  refine ⟨b1, ?_⟩
  have ho : openB (begNext s) 1 = false := by
    cases hq : openB (begNext s) 1
    · rfl
    · obtain ⟨_, _, h3⟩ := openB_iff.1 hq
      rw [t3 1 (by omega) (by have := h.n; omega)] at h3
      exact absurd h3 h.st
  unfold abCode
  rw [ho]; rfl
theorem adel_less {α : Type} {m : List (Int × α)} {n : Int} {v : α} (h : alook m n = some v) : (adel m n).length = m.length - 1 ∧ 0 < m.length := by
  refine ⟨by rw [adel_length, h]; rfl, ?_⟩
  have := alook_in h
  exact List.length_pos_of_mem this
theorem ManyI.openB {i : Nat} {s : MgS} (h : ManyI i s) (hi : 1 ≤ i) : openB s 1 = true := by
  have hn := h.n
  exact openB_iff.2 ⟨by omega, by omega, by rw [h.a 1 (by omega) (by omega)]⟩
theorem ManyI.look {i : Nat} {s : MgS} (h : ManyI i s) (hi : 1 ≤ i) : alook s.tmb 1 = some 0 := by
  have hn := h.n
  have := h.g.bk 1 (by omega) (by omega)
  rw [h.a 1 (by omega) (by omega)] at this
  exact this
theorem end_gone {m : Nat} {s : MgS} {t cd : Int} (g : MgG m (endNext s 1 t cd)) (ht : t ≠ 1) (hn : 1 ≤ s.txs.length) (h16 : s.tmb.length ≤ 16) (hl : alook s.tmb 1 = some 0) : GoneI m (endNext s 1 t cd) := by
  obtain ⟨y1, y2, y3⟩ := end_tx (s := s) (h := 1) (st := t) (cd := cd) (by omega) (by omega)
  obtain ⟨l1, l2⟩ := adel_less hl
  exact ⟨g, by show (adel s.tmb 1).length < 16; omega, by rw [y3]; exact hn, by rw [y1]; exact ht⟩
theorem ManyI.abort {i : Nat} {s : MgS} (h : ManyI i s) (hi : 1 ≤ i) : GoneI i (abNext s 1) := by
  have hn := h.n
  have g := h.g.aborts 1
  have e : abNext s 1 = endNext s 1 4 0 := by unfold abNext; rw [if_pos (h.openB hi)]
  rw [e] at g ⊢
  exact end_gone g (by omega) (by omega) h.g.k6 (h.look hi)
theorem ManyI.commit {i : Nat} {s : MgS} (h : ManyI i s) (hi : 1 ≤ i) : GoneI i (cmNext s 1) := by
  have hn := h.n
  have g := h.g.commits 1
  have ht := h.a 1 (by omega) (by omega)
  have e : cmNext s 1 = endNext (setTx s 1 { txOf s 1 with tm := (txOf s 1).at' }) 1 3 0 := by
    unfold cmNext
    rw [if_pos (h.openB hi), if_pos (by rw [txOf_txAt, ht]; rfl)]
  rw [e] at g ⊢
  exact end_gone g (by omega) (by rw [setTx_len]; omega) h.g.k6 (h.look hi)
theorem ManyI.write {i : Nat} {s : MgS} (h : ManyI i s) (hi : 1 ≤ i) {d : Bytes} (hd : d.length = 40) : MgG i (wrNext s 1 [⟨0, d⟩]) ∧ (wrNext s 1 [⟨0, d⟩]).queue.length ≤ 1000000 ∧ MgG i (cmNext (wrNext s 1 [⟨0, d⟩]) 1) ∧ (cmNext (wrNext s 1 [⟨0, d⟩]) 1).tmb.length = min i 16 ∧ (cmNext (wrNext s 1 [⟨0, d⟩]) 1).queue.length ≤ 1000000 ∧
    baCode (cmNext (wrNext s 1 [⟨0, d⟩]) 1) = 0 ∧ MgG i (baNext (cmNext (wrNext s 1 [⟨0, d⟩]) 1)) ∧ (baNext (cmNext (wrNext s 1 [⟨0, d⟩]) 1)).queue.length ≤ 1000000 ∧ (baNext (cmNext (wrNext s 1 [⟨0, d⟩]) 1)).out ≤ 8 ∧ GoneI (i + 128) (doneNext (baNext (cmNext (wrNext s 1 [⟨0, d⟩]) 1)) 0) := by
  have hn := h.n
  have hk := h.k
  have ht := h.a 1 (by omega) (by omega)
  obtain ⟨w1, w2, w3, w4, w5, w6⟩ := wr_tx (k := 0) (d := d) (h.openB hi) (by rw [h.b]; omega) hd (by rw [ht]; show 0 < 16; omega)
  rw [ht] at w4
  have g1 := h.g.writes 1 [⟨0, d⟩]
  have e2 : (wrNext s 1 [⟨0, d⟩]) = { s with txs := (wrNext s 1 [⟨0, d⟩]).txs } := by rw [w2]; rfl
  generalize hS : wrNext s 1 [⟨0, d⟩] = S at *
  have s1 : S.queue = [] := by rw [e2]; exact h.q
  have s2 : S.vs = [] := by rw [e2]; exact h.v
  have s3 : S.ro = false := by rw [e2]; exact h.r
  have s4 : S.given = 0 := by rw [e2]; exact h.gv
  have s5 : S.tmb = s.tmb := by rw [e2]
  have s6 : S.out = 0 := by rw [e2]; exact h.o
  have hchk : checkCode S.vs (waitL S) (txAt S.txs 1).at' (txAt S.txs 1).S (setB (txAt S.txs 1)) = 0 := by
    rw [s2]
    refine check_free (fun x _ => wrB_nil x _) fun q hq' p hp => ?_
    unfold waitL at hq'
    rw [s1] at hq'
    cases hq'
  obtain ⟨c1, c2⟩ := cm_ok w3 (by rw [txOf_txAt, w4]; show 0 < 1; omega) (by rw [txOf_txAt]; exact may_ok s3 hchk (by omega))
  obtain ⟨y1, y2, y3⟩ := wait_tx w3
  have g2 := g1.commits 1
  rw [c2] at g2 ⊢
  have q1 : (cmWait S 1).queue = [1] := by show S.queue ++ [1] = [1]; rw [s1]; rfl
  obtain ⟨a1, a2⟩ := ba_ok (s := cmWait S 1) s6 (by rw [q1]; simp)
  have g3 := g2.batches
  have hf : formN (waitL (cmWait S 1)) = 1 := by
    have h1 := formN_pos (l := waitL (cmWait S 1)) (by rw [waitL_len, q1]; simp)
    have h2 := (formN_bd (waitL (cmWait S 1))).1
    rw [waitL_len, q1] at h2
    simp at h2
    omega
  rw [a2] at g3 ⊢
  rw [hf] at g3 ⊢
  have g4 := g3.dones 0 (by show (1 : Int) ≤ 8; omega)
  refine ⟨g1, by rw [s1]; simp, g2, by show S.tmb.length = _; rw [s5]; exact hk, by rw [q1]; simp, a1, g3, by show (cmWait S 1).queue.length ≤ _; rw [q1]; simp, by show (1 : Int) ≤ 8; omega, ?_⟩
  have hdn : doneNext { cmWait S 1 with out := ((1 : Nat) : Int) } 0 = { doStep 0 { cmWait S 1 with out := ((1 : Nat) : Int) } 1 with num := (cmWait S 1).num + 1, queue := [], out := 0 } := by
    unfold doneNext
    rw [if_neg (by show ¬ ((1 : Nat) : Int) = 0; omega)]
    have e1 : ({ cmWait S 1 with out := ((1 : Nat) : Int) } : MgS).queue = [1] := q1
    rw [e1]
    rfl
  rw [hdn] at g4 ⊢
  have hlook : alook S.tmb 1 = some 0 := by rw [s5]; exact h.look hi
  obtain ⟨l1, l2⟩ := adel_less hlook
  have hln : 1 ≤ S.txs.length := by rw [w6]; omega
  have hend := end_tx (s := { cmWait S 1 with out := ((1 : Nat) : Int), vs := applyNext (cmWait S 1).blocks (cmWait S 1).last0 (cmWait S 1).vs (waitTx (cmWait S 1) 1), last0 := applyLast (cmWait S 1).blocks (cmWait S 1).last0 (waitTx (cmWait S 1) 1), last := (txOf (cmWait S 1) 1).tm }) (h := 1) (st := 3) (cd := 0) (by omega) (by show (1 : Int) ≤ (cmWait S 1).txs.length; rw [y3]; omega)
  refine ⟨g4, ?_, ?_, ?_⟩
  · show (adel S.tmb 1).length < 16
    rw [l1, s5]
    omega
  · have := hend.2.2
    show 1 ≤ (endNext _ 1 3 0).txs.length
    refine Nat.le_trans ?_ (Nat.le_of_eq this.symm)
    show 1 ≤ (cmWait S 1).txs.length
    rw [y3]; exact hln
  · intro e
    have e' : (3 : Int) = 1 := (congrArg TxS.st hend.1).symm.trans e
    omega
end Go.Proofs
