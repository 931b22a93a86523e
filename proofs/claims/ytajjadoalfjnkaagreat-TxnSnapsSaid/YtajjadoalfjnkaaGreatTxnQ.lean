/- The calls of a manager at inputs that are told: plain, on. -/
import Derived.Test.YtajjadoalfjnkaaGreatTx7
namespace Go.Proofs
open Go.RowKit Sc

theorem bufPuts_one (k : Int) (d : Bytes) : bufPuts [(k, d)] = [⟨k, d⟩] := by
  have : keysUp [k] = [k] := by unfold keysUp; simp
  unfold bufPuts
  simp [this, alook]
theorem setB_one {t : TxS} {k : Int} {d : Bytes} (h : t.buf = [(k, d)]) : setB t = [⟨k, 1⟩] := by
  unfold setB
  rw [h, bufPuts_one]
  exact normE_ext (by simp [singles]) (Canon.mk1 (by simp)) fun _ => Iff.rfl
theorem hasB_one {k x : Int} (hk : 0 ≤ k ∧ k ≤ 1048575) : hasB [⟨k, 1⟩] x = true ↔ x = k := by
  rw [hasB_iff (fun e he => by rw [List.mem_singleton] at he; subst he; unfold Oke; simp only; omega)]
  constructor
  · rintro ⟨e, he, h1, h2⟩
    rw [List.mem_singleton] at he
    subst he
    simp only at h1 h2
    omega
  · rintro rfl
    exact ⟨⟨x, 1⟩, by simp, by show x ≤ x; omega, by show x < x + 1; omega⟩
theorem hasB_nil (x : Int) : hasB [] x = false := by unfold hasB meetsB; simp
theorem hasB_one_no {k x : Int} (hk : 0 ≤ k ∧ k ≤ 1048575) (h : x ≠ k) : hasB [⟨k, 1⟩] x = false := by
  cases hq : hasB [⟨k, 1⟩] x
  · rfl
  · exact absurd ((hasB_one hk).1 hq) h
/-- One that begins: open, and last. -/
theorem beg_tx {n : Nat} {s : MgS} (g : MgG n s) (h : s.tmb.length < 16) : openB (begNext s) (s.txs.length + 1) = true ∧ txAt (begNext s).txs (s.txs.length + 1) = ⟨1, 0, 0, s.last, [], [], []⟩ ∧ (∀ x : Int, 1 ≤ x → x ≤ s.txs.length → txAt (begNext s).txs x = txAt s.txs x) ∧ (begNext s).txs.length = s.txs.length + 1 := by
  rw [(beg_ok g h).2.2]
  have hat : ∀ x : Int, 1 ≤ x → txAt (s.txs ++ [(⟨1, 0, 0, s.last, [], [], []⟩ : TxS)]) x = if x = s.txs.length + 1 then (⟨1, 0, 0, s.last, [], [], []⟩ : TxS) else txAt s.txs x := fun x hx => txAt_snoc _ hx
  have e := hat (s.txs.length + 1) (by omega)
  rw [if_pos rfl] at e
  refine ⟨openB_iff.2 ⟨by omega, ?_, ?_⟩, e, fun x a b => ?_, by simp⟩
  · show (s.txs.length : Int) + 1 ≤ ((s.txs ++ [(⟨1, 0, 0, s.last, [], [], []⟩ : TxS)]).length : Int)
    simp
  · show (txAt (s.txs ++ [⟨1, 0, 0, s.last, [], [], []⟩]) (s.txs.length + 1)).st = 1
    rw [e]
  · show txAt (s.txs ++ [⟨1, 0, 0, s.last, [], [], []⟩]) x = _
    rw [hat x a, if_neg (by omega)]
theorem setTx_at' {s : MgS} {h : Int} (t : TxS) (h1 : 1 ≤ h) (h2 : h ≤ s.txs.length) {x : Int} (hx : 1 ≤ x) : txAt (setTx s h t).txs x = if x = h then t else txAt s.txs x := txAt_set t h1 h2 hx
/-- A Put that is written into an open one. -/
theorem wr_tx {s : MgS} {h k : Int} {d : Bytes} (ho : openB s h = true) (h1 : 0 ≤ k ∧ k < s.blocks) (h2 : d.length = 40) (h3 : (txAt s.txs h).buf.length < 16) :
    wrCode s h [⟨k, d⟩] = 0 ∧ wrNext s h [⟨k, d⟩] = setTx s h { txAt s.txs h with buf := aset (txAt s.txs h).buf k d } ∧ openB (wrNext s h [⟨k, d⟩]) h = true ∧ txAt (wrNext s h [⟨k, d⟩]).txs h = { txAt s.txs h with buf := aset (txAt s.txs h).buf k d } ∧ (∀ x : Int, 1 ≤ x → x ≠ h → txAt (wrNext s h [⟨k, d⟩]).txs x = txAt s.txs x) ∧ (wrNext s h [⟨k, d⟩]).txs.length = s.txs.length := by
  obtain ⟨e1, e2⟩ := wr_one ho h1 h2 h3
  obtain ⟨o1, o2, o3⟩ := openB_iff.1 ho
  have hat := fun {x : Int} hx => setTx_at' (s := s) (h := h) { txAt s.txs h with buf := aset (txAt s.txs h).buf k d } o1 o2 (x := x) hx
  have e2' : wrNext s h [⟨k, d⟩] = setTx s h { txAt s.txs h with buf := aset (txAt s.txs h).buf k d } := e2
  have eh := hat o1
  rw [if_pos rfl] at eh
  rw [e2']
  refine ⟨e1, rfl, openB_iff.2 ⟨o1, by rw [setTx_len]; exact o2, by rw [eh]; exact o3⟩, eh, fun x a b => by rw [hat a, if_neg b], setTx_len ..⟩
theorem wait_tx {s : MgS} {h : Int} (ho : openB s h = true) : txAt (cmWait s h).txs h = { txAt s.txs h with st := 2, tm := s.given + 1 } ∧ (∀ x : Int, 1 ≤ x → x ≠ h → txAt (cmWait s h).txs x = txAt s.txs x) ∧ (cmWait s h).txs.length = s.txs.length := by
  obtain ⟨o1, o2, o3⟩ := openB_iff.1 ho
  have hat := fun {x : Int} hx => setTx_at' (s := s) (h := h) { txAt s.txs h with st := 2, tm := s.given + 1 } o1 o2 (x := x) hx
  have eh := hat o1
  rw [if_pos rfl] at eh
  exact ⟨eh, fun x a b => by have := hat a; rw [if_neg b] at this; exact this, setTx_len ..⟩
theorem end_tx {s : MgS} {h st cd : Int} (o1 : 1 ≤ h) (o2 : h ≤ s.txs.length) : txAt (endNext s h st cd).txs h = endTx (txAt s.txs h) st cd ∧ (∀ x : Int, 1 ≤ x → x ≠ h → txAt (endNext s h st cd).txs x = txAt s.txs x) ∧ (endNext s h st cd).txs.length = s.txs.length := by
  have hat := fun {x : Int} hx => setTx_at' (s := s) (h := h) (endTx (txAt s.txs h) st cd) o1 o2 (x := x) hx
  have eh := hat o1
  rw [if_pos rfl] at eh
  exact ⟨eh, fun x a b => by have := hat a; rw [if_neg b] at this; exact this, setTx_len ..⟩
theorem res_at {s : MgS} {h : Int} (h1 : 1 ≤ h) (h2 : h ≤ s.txs.length) : resOf s h = ((txAt s.txs h).st, (txAt s.txs h).tm, (txAt s.txs h).cd) := by
  unfold resOf
  rw [if_pos ⟨h1, h2⟩]; rfl
theorem may_full {s : MgS} {t : TxS} (hr : s.ro = false) (hc : checkCode s.vs (waitL s) t.at' t.S (setB t) = 0) (hg : 1099511627776 ≤ s.given) : mayC s t = 11 := by
  unfold mayC
  rw [if_neg (by rw [hr]; decide), if_neg (by rw [hc]; simp), if_pos hg]
theorem cm_no {s : MgS} {h c : Int} (ho : openB s h = true) (hb : 0 < (txAt s.txs h).buf.length) (hm : mayC s (txAt s.txs h) = c) (hc : c ≠ 0) : cmCode s h = c ∧ cmNext s h = endNext s h 4 c := by
  subst hm
  have hb' : ¬ (txOf s h).buf.length = 0 := by rw [txOf_txAt]; omega
  unfold cmCode cmNext
  have hm' : mayC s (txOf s h) ≠ 0 := hc
  rw [if_pos ho, if_pos ho, if_neg hb', if_neg hb', if_pos hm']
  exact ⟨rfl, rfl⟩
theorem adel_len_le {α : Type} (m : List (Int × α)) (n : Int) : (adel m n).length ≤ m.length := (adel_sublist m n).length_le
end Go.Proofs
