/- TxnTimes: plain: a loop's step. -/
import Derived.Test.YtajjadoalfjnkaaGreatTxnQ
namespace Go.Proofs
open Go.RowKit Sc
structure TimesI (last : Int) (i : Nat) (s : MgS) : Prop where
  g : MgG i s
  b : s.blocks = 20
  v : s.vs = []
  r : s.ro = false
  l : s.last = last
  n : s.txs.length = i
  k : s.tmb.length ≤ i
  q : ∀ h ∈ s.queue, ∀ p ∈ bufPuts (txAt s.txs h).buf, p.lba < i
  gv : s.given = min (last + i) 1099511627776
theorem TimesI.start {last : Int} (h1 : 0 ≤ last) (h2 : last ≤ 1099511627776) : TimesI last 0 (mgNew 20 last) :=
  ⟨MgG.new (by omega) (by omega) h1 h2, rfl, rfl, rfl, rfl, rfl, Nat.le_refl _, by simp [mgNew], by show last = _; omega⟩
theorem TimesI.next {last : Int} {i : Nat} {s : MgS} (h : TimesI last i s) (hi : i < 14) {d : Bytes} (hd : d.length = 40) :
    begC s = 0 ∧ begH s = (i : Int) + 1 ∧ MgG (i + 1) (begNext s) ∧ wrCode (begNext s) ((i : Int) + 1) [⟨i, d⟩] = 0 ∧ MgG (i + 1) (wrNext (begNext s) ((i : Int) + 1) [⟨i, d⟩]) ∧ (wrNext (begNext s) ((i : Int) + 1) [⟨i, d⟩]).queue.length ≤ 1000000 ∧
      cmCode (wrNext (begNext s) ((i : Int) + 1) [⟨i, d⟩]) ((i : Int) + 1) = (if (i : Int) < 1099511627776 - last then 0 else 11) ∧
      resOf (cmNext (wrNext (begNext s) ((i : Int) + 1) [⟨i, d⟩]) ((i : Int) + 1)) ((i : Int) + 1) = (if (i : Int) < 1099511627776 - last then (2, last + i + 1, 0) else (4, 0, 11)) ∧
      TimesI last (i + 1) (cmNext (wrNext (begNext s) ((i : Int) + 1) [⟨i, d⟩]) ((i : Int) + 1)) := by
  obtain ⟨b1, b2, b3⟩ := beg_ok h.g (by have := h.k; omega)
  obtain ⟨t1, t2, t3, t4⟩ := beg_tx h.g (by have := h.k; omega)
  have hn := h.n
  rw [hn] at b2 t1 t2 t4
  have g1 := h.g.begins (by omega)
  have hb1 : (begNext s).blocks = 20 := by rw [b3]; exact h.b
  obtain ⟨w1, w2, w3, w4, w5, w6⟩ := wr_tx (k := (i : Int)) (d := d) t1 (by rw [hb1]; omega) hd (by rw [t2]; show 0 < 16; omega)
  rw [t2] at w4
  have g2 := g1.writes ((i : Int) + 1) [⟨i, d⟩]
  have e2 : (wrNext (begNext s) ((i : Int) + 1) [⟨i, d⟩]) = { begNext s with txs := (wrNext (begNext s) ((i : Int) + 1) [⟨i, d⟩]).txs } := by rw [w2]; rfl
  have hgv := h.gv
  have hlast := h.l
  have hlt := h.g.lt
  -- the state behind the write
  generalize hS : wrNext (begNext s) ((i : Int) + 1) [⟨i, d⟩] = S at *
  have s1 : S.queue = s.queue := by rw [e2, b3]
  have s2 : S.vs = [] := by rw [e2, b3]; exact h.v
  have s3 : S.ro = false := by rw [e2, b3]; exact h.r
  have s4 : S.given = s.given := by rw [e2, b3]
  have s5 : S.last = s.last := by rw [e2, b3]
  have s6 : S.blocks = 20 := by rw [e2, b3]; exact h.b
  have s7 : S.tmb.length ≤ i + 1 := by rw [e2, b3]; simp; have := h.k; omega
  have s8 : S.txs.length = i + 1 := w6.trans t4
  have hq : ∀ x ∈ s.queue, txAt S.txs x = txAt s.txs x := fun x hx => by
    have := h.g.qr x hx
    rw [w5 x this.1 (by omega), t3 x this.1 this.2]
  have hql : s.queue.length ≤ i := by
    have h1 : (s.queue.map fun h : Int => (h - 1).toNat).Nodup := by
      rw [List.nodup_iff_pairwise_ne, List.pairwise_map]
      refine (List.Pairwise.and_mem.1 h.g.qd).imp ?_
      rintro a b ⟨ha, hb, hab⟩ e
      have := h.g.qr a ha
      have := h.g.qr b hb
      omega
    have h2 : ∀ y ∈ (s.queue.map fun h : Int => (h - 1).toNat), y ∈ List.range i := fun y hy => by
      obtain ⟨x, hx, rfl⟩ := List.mem_map.1 hy
      have := h.g.qr x hx
      rw [List.mem_range]; omega
    have := List.Nodup.length_le_of_subset h1 h2
    rwa [List.length_map, List.length_range] at this
  have hsb : setB (txAt S.txs ((i : Int) + 1)) = [⟨i, 1⟩] := setB_one (d := d) (by rw [w4]; rfl)
  have hchk : checkCode S.vs (waitL S) (txAt S.txs ((i : Int) + 1)).at' (txAt S.txs ((i : Int) + 1)).S (setB (txAt S.txs ((i : Int) + 1))) = 0 := by
    rw [s2]
    refine check_free (fun x _ => wrB_nil x _) fun q hq' p hp => ?_
    unfold waitL at hq'
    rw [s1] at hq'
    obtain ⟨x, hx, rfl⟩ := List.mem_map.1 hq'
    have hlb : p.lba < i := h.q x hx p (by
      have e : (waitTx S x).puts = bufPuts (txAt s.txs x).buf := by
        unfold waitTx
        rw [txOf_txAt, hq x hx]
      rwa [e] at hp)
    rw [hsb]
    refine ⟨?_, hasB_one_no (by omega) (by omega)⟩
    rw [w4]; exact hasB_nil _
  have hbl : 0 < (txAt S.txs ((i : Int) + 1)).buf.length := by rw [w4]; show 0 < 1; omega
  refine ⟨b1, by rw [b2], g1, w1, g2, by rw [s1]; omega, ?_⟩
  by_cases hlim : (i : Int) < 1099511627776 - last
  · have hg1 : S.given = last + i := by rw [s4, hgv]; omega
    obtain ⟨c1, c2⟩ := cm_ok w3 (by rw [txOf_txAt]; exact hbl) (by rw [txOf_txAt]; exact may_ok s3 hchk (by omega))
    obtain ⟨y1, y2, y3⟩ := wait_tx w3
    have g3 := g2.commits ((i : Int) + 1)
    rw [if_pos hlim, if_pos hlim, c1, c2]
    rw [c2] at g3
    refine ⟨rfl, ?_, ⟨g3, s6, s2, s3, by show S.last = last; rw [s5, hlast], by rw [y3]; exact s8, s7, fun x hx p hp => ?_, by show S.given + 1 = _; rw [hg1]; omega⟩⟩
    · rw [res_at (by omega) (by rw [y3, s8]; omega), y1, w4]
      show ((2 : Int), S.given + 1, (0 : Int)) = _
      rw [hg1]
    · rcases List.mem_append.1 (show x ∈ S.queue ++ [(i : Int) + 1] from hx) with hx | hx
      · rw [s1] at hx
        have := h.g.qr x hx
        rw [y2 x this.1 (by omega), hq x hx] at hp
        have := h.q x hx p hp
        omega
      · rw [List.mem_singleton] at hx
        subst hx
        rw [y1, w4] at hp
        have hp' : p ∈ bufPuts [((i : Int), d)] := hp
        rw [bufPuts_one, List.mem_singleton] at hp'
        rw [hp']
        show (i : Int) < ((i + 1 : Nat) : Int)
        omega
  · have hg1 : S.given = 1099511627776 := by rw [s4, hgv]; omega
    obtain ⟨c1, c2⟩ := cm_no w3 hbl (may_full s3 hchk (by omega)) (by decide)
    obtain ⟨y1, y2, y3⟩ := end_tx (s := S) (h := (i : Int) + 1) (st := 4) (cd := 11) (by omega) (by rw [s8]; omega)
    have g3 := g2.commits ((i : Int) + 1)
    rw [if_neg hlim, if_neg hlim, c1, c2]
    rw [c2] at g3
    refine ⟨rfl, ?_, ⟨g3, s6, s2, s3, by show S.last = last; rw [s5, hlast], by rw [y3]; exact s8, Nat.le_trans (adel_len_le _ _) s7, fun x hx p hp => ?_, by show S.given = _; rw [hg1]; omega⟩⟩
    · rw [res_at (by omega) (by rw [y3, s8]; omega), y1]; rfl
    · have hx' : x ∈ S.queue := hx
      rw [s1] at hx'
      have := h.g.qr x hx'
      rw [y2 x this.1 (by omega), hq x hx'] at hp
      have := h.q x hx' p hp
      omega
end Go.Proofs
