/- A manager: what a call leaves of the others; and what ends. Plain. -/
import Derived.Test.YtajjadoalfjnkaaGreatFails23P
namespace Go.Proofs
open Go.RowKit Sc
/-- The same one, but for what it read. -/
def SameT (t t' : TxS) : Prop := t'.st = t.st ∧ t'.at' = t.at' ∧ t'.buf = t.buf
theorem SameT.refl (t : TxS) : SameT t t := ⟨rfl, rfl, rfl⟩
section
variable {s : MgS} {n : Nat}
theorem setTx_frame {h x : Int} (t : TxS) (o1 : 1 ≤ h) (o2 : h ≤ s.txs.length) (hx : 1 ≤ x) (hne : x ≠ h) : txAt (setTx s h t).txs x = txAt s.txs x := by rw [setTx_at' t o1 o2 hx, if_neg hne]
theorem rd_len (h : Int) (e : Ext) : (rdNext s h e).txs.length = s.txs.length := by unfold rdNext; split; exact setTx_len ..; rfl
theorem rd_frame (h : Int) (e : Ext) {x : Int} (hx : 1 ≤ x) : SameT (txAt s.txs x) (txAt (rdNext s h e).txs x) := by
  unfold rdNext
  split
  case isFalse => exact SameT.refl _
  case isTrue hc =>
    have ho : openB s h = true := by
      unfold rdCode at hc
      split at hc
      · assumption
      · cases hc
    obtain ⟨o1, o2, o3⟩ := openB_iff.1 ho
    rw [setTx_at' _ o1 o2 hx]
    split
    · rename_i e
      subst e
      exact ⟨rfl, rfl, rfl⟩
    · exact SameT.refl _
theorem rd_same (h : Int) (e : Ext) : (rdNext s h e) = { s with txs := (rdNext s h e).txs } := by unfold rdNext; split <;> rfl
theorem wr_len (h : Int) (l : List Put) : (wrNext s h l).txs.length = s.txs.length := by unfold wrNext; split; exact setTx_len ..; rfl
theorem wr_frame (h : Int) (l : List Put) {x : Int} (hx : 1 ≤ x) (hne : x ≠ h) : txAt (wrNext s h l).txs x = txAt s.txs x := by
  unfold wrNext
  split
  case isFalse => rfl
  case isTrue ho =>
    obtain ⟨o1, o2, o3⟩ := openB_iff.1 ho
    exact setTx_frame _ o1 o2 hx hne
theorem wr_same (h : Int) (l : List Put) : (wrNext s h l) = { s with txs := (wrNext s h l).txs } := by unfold wrNext; split <;> rfl
theorem ab_len (h : Int) : (abNext s h).txs.length = s.txs.length := by unfold abNext; split; exact setTx_len ..; rfl
theorem ab_frame (h : Int) {x : Int} (hx : 1 ≤ x) (hne : x ≠ h) : txAt (abNext s h).txs x = txAt s.txs x := by
  unfold abNext
  split
  case isFalse => rfl
  case isTrue ho =>
    obtain ⟨o1, o2, o3⟩ := openB_iff.1 ho
    exact (end_tx o1 o2).2.1 x hx hne
theorem ab_same (h : Int) : (abNext s h) = { s with txs := (abNext s h).txs, tmb := (abNext s h).tmb } := by unfold abNext; split <;> rfl
theorem cm_frame (h : Int) {x : Int} (hx : 1 ≤ x) (hne : x ≠ h) : txAt (cmNext s h).txs x = txAt s.txs x := by
  unfold cmNext
  split
  case isFalse => rfl
  case isTrue ho =>
    obtain ⟨o1, o2, o3⟩ := openB_iff.1 ho
    split
    · rw [(end_tx (s := setTx s h { txOf s h with tm := (txOf s h).at' }) o1 (by rw [setTx_len]; exact o2)).2.1 x hx hne]
      exact setTx_frame _ o1 o2 hx hne
    · split
      · exact (end_tx o1 o2).2.1 x hx hne
      · exact (wait_tx ho).2.1 x hx hne
theorem cm_same (h : Int) : (cmNext s h) = { s with txs := (cmNext s h).txs, tmb := (cmNext s h).tmb, given := (cmNext s h).given, queue := (cmNext s h).queue } ∧ ((cmNext s h).given = s.given ∨ (cmNext s h).given = s.given + 1) := by
  unfold cmNext
  split
  · split
    · exact ⟨rfl, .inl rfl⟩
    · split
      · exact ⟨rfl, .inl rfl⟩
      · exact ⟨rfl, .inr rfl⟩
  · exact ⟨rfl, .inl rfl⟩
theorem doneTo_other {code : Int} (g : MgG n s) : ∀ j, j ≤ s.queue.length → ∀ x : Int, 1 ≤ x → x ∉ s.queue.take j → txAt (doneTo code s j).txs x = txAt s.txs x
  | 0, _ => fun x _ _ => by rw [doneTo_zero]
  | j + 1, h => fun x hx hn => by
    have hjl : j < s.queue.length := by omega
    rw [take_snoc _ _ hjl] at hn
    have ih := doneTo_other (code := code) g j (by omega) x hx (fun hm => hn (List.mem_append_left _ hm))
    have hne : x ≠ s.queue[j] := fun e => hn (List.mem_append_right _ (List.mem_singleton.2 e))
    have hl := (doneTo_same code s j (by omega)).2.1
    obtain ⟨q1, q2⟩ := g.qr _ (List.getElem_mem hjl)
    rw [doneTo_succ code s hjl, ← ih]
    unfold doStep
    split
    · exact (end_tx (s := { doneTo code s j with vs := _, last0 := _, last := _ }) q1 (by show s.queue[j] ≤ (doneTo code s j).txs.length; rw [hl]; exact q2)).2.1 x hx hne
    · exact (end_tx q1 (by rw [hl]; exact q2)).2.1 x hx hne
theorem doStep_given (code : Int) (S : MgS) (h : Int) : (doStep code S h).given = S.given ∧ (doStep code S h).ro = S.ro := by unfold doStep; split <;> exact ⟨rfl, rfl⟩
theorem doneTo_given (code : Int) : ∀ j, j ≤ s.queue.length → (doneTo code s j).given = s.given ∧ (doneTo code s j).ro = s.ro
  | 0, _ => by rw [doneTo_zero]; exact ⟨rfl, rfl⟩
  | j + 1, h => by
    obtain ⟨h1, h2⟩ := doneTo_given code j (by omega)
    obtain ⟨k1, k2⟩ := doStep_given code (doneTo code s j) s.queue[j]
    rw [doneTo_succ code s (by omega)]
    exact ⟨k1.trans h1, k2.trans h2⟩
/-- A batch that is told to be done. -/
theorem done_frame (g : MgG n s) (code : Int) : (doneNext s code).out = 0 ∧ (doneNext s code).blocks = s.blocks ∧ (doneNext s code).given = s.given ∧ (doneNext s code).ro = s.ro ∧ (doneNext s code).txs.length = s.txs.length ∧ (doneNext s code).queue = s.queue.drop s.out.toNat ∧ ∀ x : Int, 1 ≤ x → x ∉ s.queue → txAt (doneNext s code).txs x = txAt s.txs x := by
  have ho := g.o1
  unfold doneNext
  split
  · rename_i h0
    exact ⟨h0, rfl, rfl, rfl, rfl, by rw [h0]; rfl, fun x _ _ => rfl⟩
  · obtain ⟨z1, z2, z3⟩ := doneTo_same code s s.out.toNat (by omega)
    obtain ⟨y1, y2⟩ := doneTo_given (s := s) code s.out.toNat (by omega)
    refine ⟨rfl, z3, y1, y2, z2, rfl, fun x hx hn => ?_⟩
    exact doneTo_other g s.out.toNat (by omega) x hx (fun hm => hn (List.mem_of_mem_take hm))
end
end Go.Proofs
