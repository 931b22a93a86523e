/- TxnReadOnly: plain. -/
import Derived.Test.YtajjadoalfjnkaaGreatMany23P
namespace Go.Proofs
open Go.RowKit Sc
structure ROI (i : Nat) (s : MgS) : Prop where
  g : MgG i s
  b : s.blocks = 20
  r : s.ro = true
  q : s.queue = []
  o : s.out = 0
  v : s.vs = []
  gv : s.given = 0
  l : s.last = 0
  k : s.tmb = []
  n : s.txs.length = i
theorem ROI.start : ROI 0 { mgNew 20 0 with ro := true } := ⟨(MgG.new (by omega) (by omega) (by omega) (by omega)).reads_only true, rfl, rfl, rfl, rfl, rfl, rfl, rfl, rfl, rfl⟩
theorem ROI.beg {i : Nat} {s : MgS} (h : ROI i s) (hi : i < 1000) : begC s = 0 ∧ begH s = (i : Int) + 1 ∧ MgG (i + 1) (begNext s) ∧ openB (begNext s) ((i : Int) + 1) = true ∧ txAt (begNext s).txs ((i : Int) + 1) = ⟨1, 0, 0, 0, [], [], []⟩ ∧ begNext s = { s with lastH := (i : Int) + 1, tmb := [((i : Int) + 1, 0)], txs := (begNext s).txs } ∧ (begNext s).txs.length = i + 1 := by
  obtain ⟨b1, b2, b3⟩ := beg_ok h.g (by rw [h.k]; simp)
  obtain ⟨t1, t2, t3, t4⟩ := beg_tx h.g (by rw [h.k]; simp)
  have hn := h.n
  rw [hn] at b2 t1 t2 t4
  rw [h.l] at t2
  refine ⟨b1, b2, h.g.begins (by omega), t1, t2, ?_, t4⟩
  have hl : s.lastH = (i : Int) := by rw [h.g.hh, hn]
  conv => lhs; rw [b3]
  rw [b3, hl, h.k, h.l]
  rfl
theorem ended {i : Nat} {S : MgS} {t cd : Int} (g : MgG (i + 1) (endNext S ((i : Int) + 1) t cd)) (hb : S.blocks = 20) (hr : S.ro = true) (hq : S.queue = []) (ho : S.out = 0) (hv : S.vs = []) (hg : S.given = 0) (hl : S.last = 0) (hk : S.tmb = [((i : Int) + 1, 0)]) (hn : S.txs.length = i + 1) : ROI (i + 1) (endNext S ((i : Int) + 1) t cd) := by
  refine ⟨g, hb, hr, hq, ho, hv, hg, hl, ?_, (List.length_set ..).trans hn⟩
  show adel S.tmb ((i : Int) + 1) = []
  rw [hk]
  unfold adel
  simp
theorem ROI.no {i : Nat} {s : MgS} (h : ROI i s) (hi : i < 1000) : cmCode (begNext s) ((i : Int) + 1) = 0 ∧ resOf (cmNext (begNext s) ((i : Int) + 1)) ((i : Int) + 1) = (3, 0, 0) ∧ ROI (i + 1) (cmNext (begNext s) ((i : Int) + 1)) := by
  obtain ⟨b1, b2, b3, b4, b5, b6, b7⟩ := h.beg hi
  have hb : (txOf (begNext s) ((i : Int) + 1)).buf.length = 0 := by rw [txOf_txAt, b5]; rfl
  have e1 : cmCode (begNext s) ((i : Int) + 1) = 0 := by unfold cmCode; rw [if_pos b4, if_pos hb]
  have e2 : cmNext (begNext s) ((i : Int) + 1) = endNext (setTx (begNext s) ((i : Int) + 1) { txOf (begNext s) ((i : Int) + 1) with tm := (txOf (begNext s) ((i : Int) + 1)).at' }) ((i : Int) + 1) 3 0 := by unfold cmNext; rw [if_pos b4, if_pos hb]
  have g := b3.commits ((i : Int) + 1)
  rw [e2] at g ⊢
  have hlen : (setTx (begNext s) ((i : Int) + 1) { txOf (begNext s) ((i : Int) + 1) with tm := (txOf (begNext s) ((i : Int) + 1)).at' }).txs.length = i + 1 := (setTx_len ..).trans b7
  refine ⟨e1, ?_, ended g (by show (begNext s).blocks = 20; rw [b6]; exact h.b) (by show (begNext s).ro = true; rw [b6]; exact h.r) (by show (begNext s).queue = []; rw [b6]; exact h.q) (by show (begNext s).out = 0; rw [b6]; exact h.o) (by show (begNext s).vs = []; rw [b6]; exact h.v) (by show (begNext s).given = 0; rw [b6]; exact h.gv) (by show (begNext s).last = 0; rw [b6]; exact h.l) (by show (begNext s).tmb = _; rw [b6]) hlen⟩
  obtain ⟨y1, y2, y3⟩ := end_tx (s := setTx (begNext s) ((i : Int) + 1) { txOf (begNext s) ((i : Int) + 1) with tm := (txOf (begNext s) ((i : Int) + 1)).at' }) (h := (i : Int) + 1) (st := 3) (cd := 0) (by omega) (by rw [hlen]; omega)
  rw [res_at (by omega) (by rw [y3, hlen]; omega), y1]
  rw [setTx_at' _ (by omega) (by rw [b7]; omega) (by omega), if_pos rfl, txOf_txAt, b5]
  rfl
theorem ROI.yes {i : Nat} {s : MgS} (h : ROI i s) (hi : i < 20) {d : Bytes} (hd : d.length = 40) : wrCode (begNext s) ((i : Int) + 1) [⟨i, d⟩] = 0 ∧ MgG (i + 1) (wrNext (begNext s) ((i : Int) + 1) [⟨i, d⟩]) ∧ (wrNext (begNext s) ((i : Int) + 1) [⟨i, d⟩]).queue.length ≤ 1000000 ∧ cmCode (wrNext (begNext s) ((i : Int) + 1) [⟨i, d⟩]) ((i : Int) + 1) = 10 ∧
    resOf (cmNext (wrNext (begNext s) ((i : Int) + 1) [⟨i, d⟩]) ((i : Int) + 1)) ((i : Int) + 1) = (4, 0, 10) ∧ ROI (i + 1) (cmNext (wrNext (begNext s) ((i : Int) + 1) [⟨i, d⟩]) ((i : Int) + 1)) := by
  obtain ⟨b1, b2, b3, b4, b5, b6, b7⟩ := h.beg (by omega)
  obtain ⟨w1, w2, w3, w4, w5, w6⟩ := wr_tx (k := (i : Int)) (d := d) b4 (by rw [b6, h.b]; omega) hd (by rw [b5]; show 0 < 16; omega)
  rw [b5] at w4
  have g1 := b3.writes ((i : Int) + 1) [⟨i, d⟩]
  have e2 : (wrNext (begNext s) ((i : Int) + 1) [⟨i, d⟩]) = { begNext s with txs := (wrNext (begNext s) ((i : Int) + 1) [⟨i, d⟩]).txs } := by rw [w2]; rfl
  generalize hS : wrNext (begNext s) ((i : Int) + 1) [⟨i, d⟩] = S at *
  have s1 : S.queue = [] := by rw [e2, b6]; exact h.q
  have s2 : S.vs = [] := by rw [e2, b6]; exact h.v
  have s3 : S.ro = true := by rw [e2, b6]; exact h.r
  have s4 : S.given = 0 := by rw [e2, b6]; exact h.gv
  have s5 : S.tmb = [((i : Int) + 1, 0)] := by rw [e2, b6]
  have s6 : S.out = 0 := by rw [e2, b6]; exact h.o
  have s7 : S.blocks = 20 := by rw [e2, b6]; exact h.b
  have s8 : S.last = 0 := by rw [e2, b6]; exact h.l
  have s9 : S.txs.length = i + 1 := w6.trans b7
  obtain ⟨c1, c2⟩ := cm_no (c := 10) w3 (by rw [w4]; show 0 < 1; omega) (if_pos s3) (by decide)
  have g2 := g1.commits ((i : Int) + 1)
  rw [c2] at g2 ⊢
  refine ⟨w1, g1, by rw [s1]; simp, c1, ?_, ended g2 s7 s3 s1 s6 s2 s4 s8 s5 s9⟩
  obtain ⟨y1, y2, y3⟩ := end_tx (s := S) (h := (i : Int) + 1) (st := 4) (cd := 10) (by omega) (by rw [s9]; omega)
  rw [res_at (by omega) (by rw [y3, s9]; omega), y1]
  rfl
theorem ROI.fin {i : Nat} {s : MgS} (h : ROI i s) (hi : i < 1000) {d : Bytes} (hd : d.length = 40) : baCode s = 14 ∧ MgG i { s with ro := false } ∧ begC { s with ro := false } = 0 ∧ begH { s with ro := false } = (i : Int) + 1 ∧ MgG (i + 1) (begNext { s with ro := false }) ∧ wrCode (begNext { s with ro := false }) ((i : Int) + 1) [⟨0, d⟩] = 0 ∧ MgG (i + 1) (wrNext (begNext { s with ro := false }) ((i : Int) + 1) [⟨0, d⟩]) ∧
    (wrNext (begNext { s with ro := false }) ((i : Int) + 1) [⟨0, d⟩]).queue.length ≤ 1000000 ∧ cmCode (wrNext (begNext { s with ro := false }) ((i : Int) + 1) [⟨0, d⟩]) ((i : Int) + 1) = 0 ∧ (cmNext (wrNext (begNext { s with ro := false }) ((i : Int) + 1) [⟨0, d⟩]) ((i : Int) + 1)).queue.length = 1 := by
  have hba : baCode s = 14 := by unfold baCode; rw [if_neg (by rw [h.o]; omega), if_pos (by rw [h.q]; rfl)]
  have g0 := h.g.reads_only false
  obtain ⟨b1, b2, b3⟩ := beg_ok g0 (by show s.tmb.length < 16; rw [h.k]; simp)
  obtain ⟨t1, t2, t3, t4⟩ := beg_tx g0 (by show s.tmb.length < 16; rw [h.k]; simp)
  have hn : ({ s with ro := false } : MgS).txs.length = i := h.n
  rw [hn] at b2 t1 t2 t4
  have g1 := g0.begins (by omega)
  have hbb : (begNext { s with ro := false }).blocks = 20 := by rw [b3]; exact h.b
  obtain ⟨w1, w2, w3, w4, w5, w6⟩ := wr_tx (k := 0) (d := d) t1 (by rw [hbb]; omega) hd (by rw [t2]; show 0 < 16; omega)
  have g2 := g1.writes ((i : Int) + 1) [⟨0, d⟩]
  have e2 : (wrNext (begNext { s with ro := false }) ((i : Int) + 1) [⟨0, d⟩]) = { begNext { s with ro := false } with txs := (wrNext (begNext { s with ro := false }) ((i : Int) + 1) [⟨0, d⟩]).txs } := by rw [w2]; rfl
  rw [t2] at w4
  generalize hS : wrNext (begNext { s with ro := false }) ((i : Int) + 1) [⟨0, d⟩] = S at *
  have s1 : S.queue = [] := by rw [e2, b3]; exact h.q
  have s2 : S.vs = [] := by rw [e2, b3]; exact h.v
  have s3 : S.ro = false := by rw [e2, b3]
  have s4 : S.given = 0 := by rw [e2, b3]; exact h.gv
  have hchk : checkCode S.vs (waitL S) (txAt S.txs ((i : Int) + 1)).at' (txAt S.txs ((i : Int) + 1)).S (setB (txAt S.txs ((i : Int) + 1))) = 0 := by
    rw [s2]
    refine check_free (fun x _ => wrB_nil x _) fun q hq' p hp => ?_
    unfold waitL at hq'
    rw [s1] at hq'
    cases hq'
  obtain ⟨c1, c2⟩ := cm_ok w3 (by rw [txOf_txAt, w4]; show 0 < 1; omega) (by rw [txOf_txAt]; exact may_ok s3 hchk (by omega))
  refine ⟨hba, g0, b1, b2, g1, w1, g2, by rw [s1]; simp, c1, ?_⟩
  rw [c2]
  show (S.queue ++ [(i : Int) + 1]).length = 1
  rw [s1]; rfl
end Go.Proofs
