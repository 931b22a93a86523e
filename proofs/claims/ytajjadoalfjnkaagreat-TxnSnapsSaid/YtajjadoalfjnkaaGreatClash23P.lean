/- TxnClash: plain. -/
import Derived.Test.YtajjadoalfjnkaaGreatMany23P
namespace Go.Proofs
open Go.RowKit Sc
theorem apply_one {blocks last tm k : Int} {d : Bytes} (h1 : last < tm) (h2 : tm ≤ 1099511627776) (h3 : 0 ≤ k ∧ k < blocks) (h4 : d.length = 40) : applyCode blocks last ⟨tm, [⟨k, d⟩]⟩ = 0 := by
  unfold applyCode
  have e1 : riseB [(⟨k, d⟩ : Put)] = true := by unfold riseB; simp
  have e2 : blk blocks k = true := by unfold blk; rw [decide_eq_true h3.1, decide_eq_true h3.2]; rfl
  rw [if_neg (by simp only; omega), if_neg (by rw [e1]; decide), if_neg (by show ¬ (blk blocks k = false ∨ blk blocks k = false); rw [e2]; simp), if_neg (by simp [h4])]
theorem readCode_one {blocks k : Int} (h : 0 ≤ k ∧ k < blocks) (hb : blocks ≤ 1048576) : readCode blocks [] ⟨k, 1⟩ = 0 ∧ addNext 64 [] [⟨k, 1⟩] = [⟨k, 1⟩] := by
  have ha : allB [(⟨k, 1⟩ : Ext)] = true := by
    unfold allB
    simp only [List.all_cons, List.all_nil, Bool.and_true]
    exact mayB_iff.2 (by simp only; omega)
  have hn : normE ([] ++ [(⟨k, 1⟩ : Ext)]) = [⟨k, 1⟩] := normE_ext (by simp) (Canon.mk1 (by simp)) fun _ => Iff.rfl
  obtain ⟨c1, c2⟩ := addCode_is (most := 64) SetG.nil ha (by simp) hn
  rw [if_neg (by simp)] at c1 c2
  refine ⟨?_, c2⟩
  unfold readCode
  rw [if_neg (by simp only; omega), if_neg, if_neg (by rw [c1]; simp)]
  unfold withinB
  rw [decide_eq_true (show (0 : Int) ≤ k by omega), decide_eq_true (show (1 : Int) ≤ 1 by omega), decide_eq_true (show (1 : Int) ≤ blocks by omega), decide_eq_true (show k ≤ blocks - 1 by omega)]
  decide
theorem check_val {vs : Vers} {queue : List Tx} {t : Int} {r l : List Ext} (hl : cntE l ≠ 0) : checkCode vs queue t r l = if hitsB vs queue t r = true ∨ hitsB vs queue t l = true then 8 else 0 := by
  unfold checkCode
  rw [if_neg hl]
  by_cases h1 : hitsB vs queue t r = true
  · rw [if_pos (Or.inl h1)]; simp [h1]
  · by_cases h2 : hitsB vs queue t l = true
    · rw [if_pos (Or.inr h2)]; simp [h2]
    · rw [if_neg (show ¬ (hitsB vs queue t r = true ∨ hitsB vs queue t l = true) from fun h => h.elim h1 h2)]; simp [h1, h2]
def clT (S : List Ext) (R : List Sc.Read) (buf : List (Int × Bytes)) : TxS := ⟨1, 0, 0, 0, buf, S, R⟩
def clS (t1 t2 : TxS) : MgS := ⟨10, 0, [], 2, [(1, 0), (2, 0)], [t1, t2], [], 0, 0, 0, 0, 0, false⟩
def clW (t1 t2 : TxS) (out : Int) : MgS := ⟨10, 0, [], 2, [(1, 0), (2, 0)], [{ t1 with st := 2, tm := 1 }, t2], [1], out, 0, 0, 0, 1, false⟩
def clD (t1 t2 : TxS) (b : Int) (d : Bytes) : MgS := ⟨10, 1, [(b, [⟨1, d⟩])], 2, [(2, 0)], [{ t1 with st := 3, tm := 1, cd := 0 }, t2], [], 0, 1, 0, 1, 1, false⟩
theorem cl_beg : begC (mgNew 10 0) = 0 ∧ begH (mgNew 10 0) = 1 ∧ begC (begNext (mgNew 10 0)) = 0 ∧ begH (begNext (mgNew 10 0)) = 2 ∧ begNext (begNext (mgNew 10 0)) = clS (clT [] [] []) (clT [] [] []) := ⟨rfl, rfl, rfl, rfl, rfl⟩
theorem cl_rd1 {a : Int} (ha : 0 ≤ a ∧ a < 10) (t2 : TxS) : ∃ R, rdCode (clS (clT [] [] []) t2) 1 ⟨a, 1⟩ = 0 ∧ rdNext (clS (clT [] [] []) t2) 1 ⟨a, 1⟩ = clS (clT [⟨a, 1⟩] R []) t2 := by
  obtain ⟨h1, h2⟩ := readCode_one ha (by omega)
  have hc : rdCode (clS (clT [] [] []) t2) 1 ⟨a, 1⟩ = 0 := h1
  refine ⟨[] ++ readsV [] [] 0 a (1 : Int).toNat, hc, ?_⟩
  unfold rdNext
  rw [if_pos hc]
  show clS { clT [] [] [] with S := addNext 64 [] [⟨a, 1⟩], R := [] ++ readsV [] [] 0 a (1 : Int).toNat } t2 = _
  rw [h2]; rfl
theorem cl_rd2 {c : Int} (hc : 0 ≤ c ∧ c < 10) (t1 : TxS) : ∃ R, rdCode (clS t1 (clT [] [] [])) 2 ⟨c, 1⟩ = 0 ∧ rdNext (clS t1 (clT [] [] [])) 2 ⟨c, 1⟩ = clS t1 (clT [⟨c, 1⟩] R []) := by
  obtain ⟨h1, h2⟩ := readCode_one hc (by omega)
  have hc : rdCode (clS t1 (clT [] [] [])) 2 ⟨c, 1⟩ = 0 := h1
  refine ⟨[] ++ readsV [] [] 0 c (1 : Int).toNat, hc, ?_⟩
  unfold rdNext
  rw [if_pos hc]
  show clS t1 { clT [] [] [] with S := addNext 64 [] [⟨c, 1⟩], R := [] ++ readsV [] [] 0 c (1 : Int).toNat } = _
  rw [h2]; rfl
section
variable {a b c d : Int} {R1 R2 : List Sc.Read} {d1 d2 : Bytes}
theorem cl_wr1 (hb : 0 ≤ b ∧ b < 10) (h1 : d1.length = 40) (t2 : TxS) : wrCode (clS (clT [⟨a, 1⟩] R1 []) t2) 1 [⟨b, d1⟩] = 0 ∧ wrNext (clS (clT [⟨a, 1⟩] R1 []) t2) 1 [⟨b, d1⟩] = clS (clT [⟨a, 1⟩] R1 [(b, d1)]) t2 := by
  obtain ⟨e1, e2⟩ := wr_one (s := clS (clT [⟨a, 1⟩] R1 []) t2) (h := 1) rfl hb h1 (by show 0 < 16; omega)
  exact ⟨e1, e2.trans rfl⟩
theorem cl_wr2 (hd : 0 ≤ d ∧ d < 10) (h2 : d2.length = 40) (t1 : TxS) : wrCode (clS t1 (clT [⟨c, 1⟩] R2 [])) 2 [⟨d, d2⟩] = 0 ∧ wrNext (clS t1 (clT [⟨c, 1⟩] R2 [])) 2 [⟨d, d2⟩] = clS t1 (clT [⟨c, 1⟩] R2 [(d, d2)]) := by
  obtain ⟨e1, e2⟩ := wr_one (s := clS t1 (clT [⟨c, 1⟩] R2 [])) (h := 2) rfl hd h2 (by show 0 < 16; omega)
  exact ⟨e1, e2.trans rfl⟩
theorem cl_cm1 (t2 : TxS) : cmCode (clS (clT [⟨a, 1⟩] R1 [(b, d1)]) t2) 1 = 0 ∧ cmNext (clS (clT [⟨a, 1⟩] R1 [(b, d1)]) t2) 1 = clW (clT [⟨a, 1⟩] R1 [(b, d1)]) t2 0 := by
  obtain ⟨h1, h2⟩ := cm_ok (s := clS (clT [⟨a, 1⟩] R1 [(b, d1)]) t2) (h := 1) rfl (by show 0 < 1; omega) (may_ok rfl (check_none _ _ _) (by show (0 : Int) < 1099511627776; omega))
  exact ⟨h1, h2.trans rfl⟩
theorem cl_ba (t2 : TxS) : baCode (clW (clT [⟨a, 1⟩] R1 [(b, d1)]) t2 0) = 0 ∧ baNext (clW (clT [⟨a, 1⟩] R1 [(b, d1)]) t2 0) = clW (clT [⟨a, 1⟩] R1 [(b, d1)]) t2 1 := by
  obtain ⟨h1, h2⟩ := ba_ok (s := clW (clT [⟨a, 1⟩] R1 [(b, d1)]) t2 0) rfl (by show 0 < 1; omega)
  refine ⟨h1, h2.trans ?_⟩
  have hp := formN_pos (l := waitL (clW (clT [⟨a, 1⟩] R1 [(b, d1)]) t2 0)) (by show 0 < 1; omega)
  have hb : formN (waitL (clW (clT [⟨a, 1⟩] R1 [(b, d1)]) t2 0)) ≤ 1 := (formN_bd _).1
  have e : formN (waitL (clW (clT [⟨a, 1⟩] R1 [(b, d1)]) t2 0)) = 1 := by omega
  rw [e]; rfl
theorem cl_do (hb : 0 ≤ b ∧ b < 10) (h1 : d1.length = 40) (t2 : TxS) : doneNext (clW (clT [⟨a, 1⟩] R1 [(b, d1)]) t2 1) 0 = clD (clT [⟨a, 1⟩] R1 [(b, d1)]) t2 b d1 := by
  have hc := apply_one (blocks := 10) (last := 0) (tm := 1) (k := b) (d := d1) (by omega) (by omega) hb h1
  have hw : waitTx (clW (clT [⟨a, 1⟩] R1 [(b, d1)]) t2 1) 1 = ⟨1, [⟨b, d1⟩]⟩ := by
    show (⟨1, bufPuts [(b, d1)]⟩ : Tx) = _
    rw [bufPuts_one]
  have hs : doStep 0 (clW (clT [⟨a, 1⟩] R1 [(b, d1)]) t2 1) 1 = endNext { clW (clT [⟨a, 1⟩] R1 [(b, d1)]) t2 1 with vs := [(b, [⟨1, d1⟩])], last0 := 1, last := 1 } 1 3 0 := by
    unfold doStep
    rw [if_pos rfl, hw]
    have e1 : applyNext (clW (clT [⟨a, 1⟩] R1 [(b, d1)]) t2 1).blocks (clW (clT [⟨a, 1⟩] R1 [(b, d1)]) t2 1).last0 (clW (clT [⟨a, 1⟩] R1 [(b, d1)]) t2 1).vs ⟨1, [⟨b, d1⟩]⟩ = [(b, [⟨1, d1⟩])] := by
      unfold applyNext
      exact (if_pos hc).trans rfl
    have e2 : applyLast (clW (clT [⟨a, 1⟩] R1 [(b, d1)]) t2 1).blocks (clW (clT [⟨a, 1⟩] R1 [(b, d1)]) t2 1).last0 ⟨1, [⟨b, d1⟩]⟩ = 1 := by
      unfold applyLast
      exact (if_pos hc).trans rfl
    rw [e1, e2]; rfl
  unfold doneNext
  rw [if_neg (by show ¬ (1 : Int) = 0; omega)]
  show { doStep 0 (clW (clT [⟨a, 1⟩] R1 [(b, d1)]) t2 1) 1 with num := (0 : Int) + 1, queue := [], out := 0 } = _
  rw [hs]; rfl
def clHit (b c d : Int) : Bool := b == c || b == d
theorem hits_q {x : Int} (hx : 0 ≤ x ∧ x < 10) : hitsB [] [⟨1, [⟨b, d1⟩]⟩] 0 [⟨x, 1⟩] = true ↔ b = x := by
  unfold hitsB againstB
  simp only [List.any_cons, List.any_nil, Bool.or_false, wrB_nil, Bool.false_or]
  exact hasB_one (by omega)
theorem hits_v {x : Int} (_hx : 0 ≤ x ∧ x < 10) : hitsB [(b, [⟨1, d1⟩])] [] 0 [⟨x, 1⟩] = true ↔ b = x := by
  unfold hitsB wrB writtenB hitB
  simp only [List.any_cons, List.any_nil, Bool.or_false]
  have e : lastT [(⟨1, d1⟩ : Put)] = 1 := rfl
  rw [e]
  simp only [Bool.and_eq_true, decide_eq_true_eq]
  omega
theorem cnt_one (x : Int) : cntE [⟨x, 1⟩] ≠ 0 := by unfold cntE; simp
/-- The second one's commit, ahead of the flush. -/
theorem cl_cm2 (hc : 0 ≤ c ∧ c < 10) (hd : 0 ≤ d ∧ d < 10) : cmCode (clW (clT [⟨a, 1⟩] R1 [(b, d1)]) (clT [⟨c, 1⟩] R2 [(d, d2)]) 0) 2 = (if b = c ∨ b = d then 8 else 0) ∧ ((b = c ∨ b = d) → (resOf (cmNext (clW (clT [⟨a, 1⟩] R1 [(b, d1)]) (clT [⟨c, 1⟩] R2 [(d, d2)]) 0) 2) 2).1 = 4 ∧ (resOf (cmNext (clW (clT [⟨a, 1⟩] R1 [(b, d1)]) (clT [⟨c, 1⟩] R2 [(d, d2)]) 0) 2) 2).2.2 = 8) := by
  have hk : checkCode [] [⟨1, [⟨b, d1⟩]⟩] 0 [⟨c, 1⟩] [⟨d, 1⟩] = if b = c ∨ b = d then 8 else 0 := by
    rw [check_val (cnt_one d)]
    simp only [hits_q hc, hits_q hd]
  have hw : waitL (clW (clT [⟨a, 1⟩] R1 [(b, d1)]) (clT [⟨c, 1⟩] R2 [(d, d2)]) 0) = [⟨1, [⟨b, d1⟩]⟩] := by
    show [(⟨1, bufPuts [(b, d1)]⟩ : Tx)] = _
    rw [bufPuts_one]
  have hs : setB (clT [⟨c, 1⟩] R2 [(d, d2)]) = [⟨d, 1⟩] := setB_one (d := d2) rfl
  have hm : mayC (clW (clT [⟨a, 1⟩] R1 [(b, d1)]) (clT [⟨c, 1⟩] R2 [(d, d2)]) 0) (clT [⟨c, 1⟩] R2 [(d, d2)]) = if b = c ∨ b = d then 8 else 0 := by
    unfold mayC
    rw [if_neg (by show ¬ false = true; decide), hw, hs]
    show (if checkCode [] [⟨1, [⟨b, d1⟩]⟩] 0 [⟨c, 1⟩] [⟨d, 1⟩] ≠ 0 then checkCode [] [⟨1, [⟨b, d1⟩]⟩] 0 [⟨c, 1⟩] [⟨d, 1⟩] else if (1099511627776 : Int) ≤ 1 then 11 else 0) = _
    rw [hk]
    by_cases h : b = c ∨ b = d
    · rw [if_pos h]; rfl
    · rw [if_neg h]; rfl
  by_cases h : b = c ∨ b = d
  · rw [if_pos h] at hm ⊢
    obtain ⟨e1, e2⟩ := cm_no (s := clW (clT [⟨a, 1⟩] R1 [(b, d1)]) (clT [⟨c, 1⟩] R2 [(d, d2)]) 0) (h := 2) rfl (by show 0 < 1; omega) hm (by decide)
    refine ⟨e1, fun _ => ?_⟩
    rw [e2]
    exact ⟨rfl, rfl⟩
  · rw [if_neg h] at hm ⊢
    exact ⟨(cm_ok (s := clW (clT [⟨a, 1⟩] R1 [(b, d1)]) (clT [⟨c, 1⟩] R2 [(d, d2)]) 0) (h := 2) rfl (by show 0 < 1; omega) hm).1, fun hh => absurd hh h⟩
theorem cl_cm3 (hc : 0 ≤ c ∧ c < 10) (hd : 0 ≤ d ∧ d < 10) : cmCode (clD (clT [⟨a, 1⟩] R1 [(b, d1)]) (clT [⟨c, 1⟩] R2 [(d, d2)]) b d1) 2 = (if b = c ∨ b = d then 8 else 0) ∧ ((b = c ∨ b = d) → (resOf (cmNext (clD (clT [⟨a, 1⟩] R1 [(b, d1)]) (clT [⟨c, 1⟩] R2 [(d, d2)]) b d1) 2) 2).1 = 4 ∧ (resOf (cmNext (clD (clT [⟨a, 1⟩] R1 [(b, d1)]) (clT [⟨c, 1⟩] R2 [(d, d2)]) b d1) 2) 2).2.2 = 8) := by
  have hk : checkCode [(b, [⟨1, d1⟩])] [] 0 [⟨c, 1⟩] [⟨d, 1⟩] = if b = c ∨ b = d then 8 else 0 := by
    rw [check_val (cnt_one d)]
    simp only [hits_v hc, hits_v hd]
  have hs : setB (clT [⟨c, 1⟩] R2 [(d, d2)]) = [⟨d, 1⟩] := setB_one (d := d2) rfl
  have hm : mayC (clD (clT [⟨a, 1⟩] R1 [(b, d1)]) (clT [⟨c, 1⟩] R2 [(d, d2)]) b d1) (clT [⟨c, 1⟩] R2 [(d, d2)]) = if b = c ∨ b = d then 8 else 0 := by
    unfold mayC
    rw [if_neg (by show ¬ false = true; decide), hs]
    show (if checkCode [(b, [⟨1, d1⟩])] [] 0 [⟨c, 1⟩] [⟨d, 1⟩] ≠ 0 then checkCode [(b, [⟨1, d1⟩])] [] 0 [⟨c, 1⟩] [⟨d, 1⟩] else if (1099511627776 : Int) ≤ 1 then 11 else 0) = _
    rw [hk]
    by_cases h : b = c ∨ b = d
    · rw [if_pos h]; rfl
    · rw [if_neg h]; rfl
  by_cases h : b = c ∨ b = d
  · rw [if_pos h] at hm ⊢
    obtain ⟨e1, e2⟩ := cm_no (s := clD (clT [⟨a, 1⟩] R1 [(b, d1)]) (clT [⟨c, 1⟩] R2 [(d, d2)]) b d1) (h := 2) rfl (by show 0 < 1; omega) hm (by decide)
    refine ⟨e1, fun _ => ?_⟩
    rw [e2]
    exact ⟨rfl, rfl⟩
  · rw [if_neg h] at hm ⊢
    exact ⟨(cm_ok (s := clD (clT [⟨a, 1⟩] R1 [(b, d1)]) (clT [⟨c, 1⟩] R2 [(d, d2)]) b d1) (h := 2) rfl (by show 0 < 1; omega) hm).1, fun hh => absurd hh h⟩
end
end Go.Proofs
