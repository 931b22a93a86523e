/- TxnKeeps: the states, in plain terms. -/
import Derived.Test.YtajjadoalfjnkaaGreatOwn23P
namespace Go.Proofs
open Go.RowKit Sc
def keR (k : Int) (d : Bytes) : List Sc.Read := [⟨k, d, true⟩]
def ke2 (k : Int) (d : Bytes) : MgS := ⟨20, 0, [], 1, [(1, 0)], [⟨1, 0, 0, 0, [(k, d)], [], []⟩], [], 0, 0, 0, 0, 0, false⟩
def ke3 (k : Int) (d : Bytes) : MgS := ⟨20, 0, [], 1, [(1, 0)], [⟨1, 0, 0, 0, [(k, d)], [⟨k, 1⟩], keR k d⟩], [], 0, 0, 0, 0, 0, false⟩
def ke4 (k : Int) (d : Bytes) : MgS := ⟨20, 0, [], 1, [(1, 0)], [⟨2, 1, 0, 0, [(k, d)], [⟨k, 1⟩], keR k d⟩], [1], 0, 0, 0, 0, 1, false⟩
def ke5 (k : Int) (d : Bytes) : MgS := { ke4 k d with out := 1 }
def ke6 (k : Int) (d : Bytes) : MgS := ⟨20, 1, [(k, [⟨1, d⟩])], 1, [], [⟨3, 1, 0, 0, [(k, d)], [⟨k, 1⟩], keR k d⟩], [], 0, 1, 0, 1, 1, false⟩
def ke7 (k : Int) (d : Bytes) : MgS := ⟨20, 1, [(k, [⟨1, d⟩])], 2, [(2, 1)], [⟨3, 1, 0, 0, [(k, d)], [⟨k, 1⟩], keR k d⟩, ⟨1, 0, 0, 1, [], [], []⟩], [], 0, 1, 0, 1, 1, false⟩
theorem ke_reads (vs : Vers) (k t : Int) (d : Bytes) : readsV vs [(k, d)] t k (1 : Int).toNat = keR k d := by
  have e := readsV_succ vs [(k, d)] t k 0
  have h0 : k + ((0 : Nat) : Int) = k := by omega
  rw [h0] at e
  show readsV vs [(k, d)] t k (0 + 1) = _
  rw [e, blkV_own (d := d) (by simp [alook])]
  simp [readsV, keR, alook]
theorem ke_beg : begC (mgNew 20 0) = 0 ∧ begH (mgNew 20 0) = 1 := ⟨rfl, rfl⟩
section
variable {k : Int} {d : Bytes} (hk : 0 ≤ k ∧ k < 20) (hd : d.length = 40)
include hk hd
theorem ke_wr : wrCode (begNext (mgNew 20 0)) 1 [⟨k, d⟩] = 0 ∧ wrNext (begNext (mgNew 20 0)) 1 [⟨k, d⟩] = ke2 k d := by
  obtain ⟨h1, h2⟩ := wr_one (s := begNext (mgNew 20 0)) (h := 1) (k := k) (d := d) rfl hk hd (by show 0 < 16; omega)
  exact ⟨h1, h2.trans rfl⟩
omit hd in
theorem ke_rd : rdCode (ke2 k d) 1 ⟨k, 1⟩ = 0 ∧ rdOut (ke2 k d) 1 ⟨k, 1⟩ = d ∧ rdNext (ke2 k d) 1 ⟨k, 1⟩ = ke3 k d := by
  obtain ⟨r1, r2, r3⟩ := rd_one (s := ke2 k d) (h := 1) (lba := k) rfl hk (by show (20 : Int) ≤ 1048576; omega) (.inl rfl)
  refine ⟨r1, ?_, ?_⟩
  · rw [r2]
    exact blkV_own (by show alook [(k, d)] k = _; simp [alook])
  · rw [r3]
    show setTx (ke2 k d) 1 ⟨1, 0, 0, 0, [(k, d)], [⟨k, 1⟩], [] ++ readsV [] [(k, d)] 0 k (1 : Int).toNat⟩ = _
    rw [ke_reads]; rfl
omit hk hd in
theorem ke_cm : cmCode (ke3 k d) 1 = 0 ∧ cmNext (ke3 k d) 1 = ke4 k d := by
  obtain ⟨h1, h2⟩ := cm_ok (s := ke3 k d) (h := 1) rfl (by show 0 < 1; omega) (may_ok rfl (check_none _ _ _) (by show (0 : Int) < 1099511627776; omega))
  exact ⟨h1, h2.trans rfl⟩
omit hk hd in
theorem ke_wait : waitL (ke4 k d) = [⟨1, [⟨k, d⟩]⟩] := by
  show [(⟨1, bufPuts [(k, d)]⟩ : Tx)] = _
  rw [bufPuts_one]
omit hk hd in
theorem ke_form : formN (waitL (ke4 k d)) = 1 := by
  have hp := formN_pos (l := waitL (ke4 k d)) (by rw [ke_wait]; simp)
  have hb := (formN_bd (waitL (ke4 k d))).1
  rw [waitL_len] at hb
  have hb' : formN (waitL (ke4 k d)) ≤ 1 := hb
  omega
omit hk hd in
theorem ke_ba : baCode (ke4 k d) = 0 ∧ baNext (ke4 k d) = ke5 k d := by
  obtain ⟨h1, h2⟩ := ba_ok (s := ke4 k d) rfl (by show 0 < 1; omega)
  refine ⟨h1, h2.trans ?_⟩
  rw [ke_form]; rfl
theorem ke_dn : doneCode (ke5 k d) = 0 ∧ doneNext (ke5 k d) 0 = ke6 k d := by
  have hw : waitTx (ke5 k d) 1 = ⟨1, [⟨k, d⟩]⟩ := by
    show (⟨1, bufPuts [(k, d)]⟩ : Tx) = _
    rw [bufPuts_one]
  have hap := apply_one (blocks := 20) (last := 0) (tm := 1) (k := k) (d := d) (by omega) (by omega) hk hd
  have hs : doStep 0 (ke5 k d) 1 = endNext { ke5 k d with vs := [(k, [⟨1, d⟩])], last0 := 1, last := 1 } 1 3 0 := by
    unfold doStep
    rw [if_pos rfl, hw]
    have e1 : applyNext (ke5 k d).blocks (ke5 k d).last0 (ke5 k d).vs ⟨1, [⟨k, d⟩]⟩ = [(k, [⟨1, d⟩])] := by
      show applyNext 20 0 [] _ = _
      unfold applyNext
      exact (if_pos hap).trans rfl
    have e2 : applyLast (ke5 k d).blocks (ke5 k d).last0 ⟨1, [⟨k, d⟩]⟩ = 1 := by
      show applyLast 20 0 _ = _
      unfold applyLast
      exact (if_pos hap).trans rfl
    rw [e1, e2]
    rfl
  refine ⟨rfl, ?_⟩
  unfold doneNext
  rw [if_neg (by show ¬ (1 : Int) = 0; omega)]
  show { doStep 0 (ke5 k d) 1 with num := (1 : Int), queue := [], out := 0 } = _
  rw [hs]
  rfl
omit hk hd in
theorem ke_dump : dumpV (ke6 k d).vs = [⟨k, d⟩] := by
  have : keysUp [k] = [k] := by unfold keysUp; simp
  show dumpV [(k, [⟨1, d⟩])] = _
  unfold dumpV
  simp [this, alook, lastD]
omit hk hd in
theorem ke_beg2 : begC (ke6 k d) = 0 ∧ begH (ke6 k d) = 2 ∧ begNext (ke6 k d) = ke7 k d := ⟨rfl, rfl, rfl⟩
omit hd in
theorem ke_rd2 : rdCode (ke7 k d) 2 ⟨k, 1⟩ = 0 ∧ rdOut (ke7 k d) 2 ⟨k, 1⟩ = d ∧ (rdNext (ke7 k d) 2 ⟨k, 1⟩).txs.length = 2 ∧ txOf (rdNext (ke7 k d) 2 ⟨k, 1⟩) 1 = ⟨3, 1, 0, 0, [(k, d)], [⟨k, 1⟩], keR k d⟩ := by
  obtain ⟨r1, r2, r3⟩ := rd_one (s := ke7 k d) (h := 2) (lba := k) rfl hk (by show (20 : Int) ≤ 1048576; omega) (.inl rfl)
  refine ⟨r1, ?_, ?_, ?_⟩
  · rw [r2]
    show blkV [(k, [⟨1, d⟩])] [] 1 k = d
    rw [blkV_at, if_pos (by omega)]
  · rw [r3]; rfl
  · rw [r3]; rfl
theorem ke_good : MgG 0 (mgNew 20 0) ∧ MgG 1 (begNext (mgNew 20 0)) ∧ MgG 1 (ke2 k d) ∧ MgG 17 (ke3 k d) ∧ MgG 17 (ke4 k d) ∧ MgG 17 (ke5 k d) ∧ MgG 145 (ke6 k d) ∧ MgG 146 (ke7 k d) ∧ MgG 162 (rdNext (ke7 k d) 2 ⟨k, 1⟩) := by
  have g0 : MgG 0 (mgNew 20 0) := MgG.new (by omega) (by omega) (by omega) (by omega)
  have g1 : MgG 1 (begNext (mgNew 20 0)) := g0.begins (by omega)
  have g2 := g1.writes 1 [⟨k, d⟩]
  rw [(ke_wr hk hd).2] at g2
  have g3 := g2.reads 1 ⟨k, 1⟩
  rw [(ke_rd hk).2.2] at g3
  have g4 := g3.commits 1
  rw [ke_cm.2] at g4
  have g5 := g4.batches
  rw [ke_ba.2] at g5
  have g6 := g5.dones 0 (by show (1 : Int) ≤ 8; omega)
  rw [(ke_dn hk hd).2] at g6
  have g7 := g6.begins (by omega)
  rw [ke_beg2.2.2] at g7
  exact ⟨g0, g1, g2, g3, g4, g5, g6, g7, g7.reads 2 ⟨k, 1⟩⟩
end
end Go.Proofs
