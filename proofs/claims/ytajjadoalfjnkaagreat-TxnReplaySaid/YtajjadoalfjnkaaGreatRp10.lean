/- Texts of this claim, one behind the other: RefBufSet, RefForm, Rm8, RmVers, MgrH, BufMgr, Mgr10, CheckSep, Mgr11, Mgr12, Rm9, Mgr13, Rm10. -/
import Derived.Test.YtajjadoalfjnkaaGreatRp9
namespace Go.Proofs
open Go.RowKit Sc
theorem keysUp_ltS {m : List Int} (hn : m.Nodup) : (keysUp m).Pairwise (· < ·) := by
 have h1 : (keysUp m).Pairwise (fun a b => decide (a ≤ b) = true) := List.pairwise_mergeSort (fun a b c h1 h2 => by simp at *; omega) (fun a b => by simp; omega) m
 have h2 : (keysUp m).Nodup := (List.mergeSort_perm m _).nodup_iff.2 hn
 have h3 := h1.and h2
 exact h3.imp fun {a b} h => by
  have := of_decide_eq_true h.1
  have := h.2
  omega
theorem bufPuts_asc {s : List (Int × Bytes)} (hn : (s.map (·.1)).Nodup) : Asc (bufPuts s) := by
 unfold Asc bufPuts
 rw [List.pairwise_map]
 exact keysUp_ltS hn
theorem lookP_map (f : Int → Bytes) (k : Int) : ∀ l : List Int, lookP (l.map fun x => ⟨x, f x⟩) k = if k ∈ l then some (f k) else none
 | [] => by simp [lookP_nil]
 | a :: l => by
  rw [List.map_cons, lookP_cons, lookP_map f k l]
  by_cases h : a = k
  ·subst h; simp
  ·rw [if_neg h]
   by_cases hk : k ∈ l
   ·rw [if_pos hk, if_pos (List.mem_cons_of_mem _ hk)]
   ·rw [if_neg hk, if_neg (fun hh => (List.mem_cons.1 hh).elim (fun e => h e.symm) hk)]
theorem lookP_puts {s : List (Int × Bytes)} (k : Int) : lookP (bufPuts s) k = alook s k := by
 unfold bufPuts
 rw [lookP_map]
 have hm : k ∈ keysUp (s.map (·.1)) ↔ alook s k ≠ none := by
  have e0 : k ∈ keysUp (s.map (·.1)) ↔ k ∈ s.map (·.1) := (List.mergeSort_perm _ _).mem_iff
  rw [e0, ne_eq, alook_none]
  constructor
  ·intro hm hall
   obtain ⟨p, hp, rfl⟩ := List.mem_map.1 hm
   exact hall p hp rfl
  ·intro hne
   simp only [Classical.not_forall, Decidable.not_not] at hne
   obtain ⟨p, hp, he⟩ := hne
   exact List.mem_map.2 ⟨p, hp, he⟩
 by_cases h : alook s k = none
 ·rw [if_neg (fun hh => hm.1 hh h), h]
 ·rw [if_pos (hm.2 h)]
  obtain ⟨d, hd⟩ := Option.ne_none_iff_exists'.1 h
  rw [hd]; rfl
theorem BufR.puts {s : List (Int × Bytes)} {L : List Put} (h : BufR s L) : bufPuts s = L := asc_ext (bufPuts_asc h.nd) h.asc fun k => by rw [lookP_puts, h.look]
theorem radd_single {l : List Put} {k : Nat} (h : ∀ p ∈ l, 0 ≤ p.lba ∧ p.lba ≤ 1048575) (hk : k < l.length) (hm : l.length ≤ 40000) :
  raddNext 1048576 (normE (singles (l.take k))) [⟨l[k].lba, 1⟩] = normE (singles (l.take (k + 1))) ∧ SetG (normE (singles (l.take k))) ∧ (normE (singles (l.take k))).length ≤ k := by
 obtain ⟨h1, h2, h3, h4⟩ := singles_step (most := 1048576) h hk (by omega)
 refine ⟨?_, h3, h4⟩
 have ha : allB [(⟨l[k].lba, 1⟩ : Ext)] = true := by
  have hpk := h _ (List.getElem_mem hk)
  unfold allB
  simp only [List.all_cons, List.all_nil, Bool.and_true]
  exact mayB_iff.2 (by simp only; omega)
 have hc := (addCode_is (most := 1048576) h3 ha (by simp) rfl)
 rw [h2] at hc
 have hlt : ¬ (1048576 : Int) < ((normE (normE (singles (l.take k)) ++ [⟨l[k].lba, 1⟩])).length : Int) := fun hh => by
  rw [h1] at hc
  rw [if_pos hh] at hc
  exact absurd hc.1 (by decide)
 simp only [if_neg hlt] at hc
 have hr : radd 1048576 (normE (singles (l.take k))) [⟨l[k].lba, 1⟩] = 0 := by
  unfold radd
  rw [if_neg (by rw [ha]; decide), if_neg (by show ¬ max (1048576 : Int) 0 < _; rw [show max (1048576 : Int) 0 = 1048576 from rfl]; exact hlt)]
 unfold raddNext
 rw [if_pos hr]
 exact hc.2.symm
set_option maxRecDepth 100000 in
set_option maxHeartbeats 1000000 in
theorem refBufSet_any (F : Nat → Prop) (v : Value) (blocks most : Int) (l : List Put) (w : World) (hp : RBufP v blocks most l F w) (hb : ∀ p ∈ l, 0 ≤ p.lba ∧ p.lba ≤ 1048575) (hl : l.length ≤ 40000) :
  Calls Tryz.prog 125 #[v] w fun e w' => ∃ s : Nat, e = .returned (.pointer (some ⟨s, 0, none⟩)) ∧ Hid (Below w.heap.size w w') ∧ ∃ p c, w'.cell? ⟨s, 1, none⟩ = some (.slice p (normE (singles l)).length c) ∧ Hid (ExtsAt (fun _ => True) w' (.slice p (normE (singles l)).length c) (normE (singles l))) := by
 obtain ⟨b, lv, rfl, hFb, hh, h4⟩ := hp
 obtain ⟨p, c, rfl⟩ := putsAt_shape h4
 have hc2 : w.cell? ⟨b, 2, none⟩ = some (.slice p l.length c) := by rw [cell_row hh]; rfl
 have hS0 := (Sep.start w).new (below_alloc w (.cells #[.int .i64 1048576, .slice none 0 0] 155)) (RSetA (.pointer (some ⟨w.heap.size, 0, none⟩)) 1048576 []) (F := New w (w.alloc (.cells #[.int .i64 1048576, .slice none 0 0] 155))) (fun _ h => h) ⟨⟨w.heap.size, _, rfl, ⟨Nat.le_refl _, by simp⟩, heap_alloc_new w _, SlAt.nil⟩⟩
 obtain ⟨s, hs⟩ : ∃ s, w.heap.size = s := ⟨_, rfl⟩
 rw [hs] at hS0
 have H4 := Lib.hid h4
 have HH := Lib.hid hh
 have HB := Lib.hid hb
 have HS0 := Lib.hid hS0
 clear h4 hh hb hS0
 go_enter Tryz.func125, Tryz.ntmps125
 go_wp2_with fail
 go_loopw [4] (fun i wr => ∃ k : Nat, k ≤ l.length ∧ i = .int .i64 k ∧ Hid (Sep w [OldA w, RSetA (.pointer (some ⟨s, 0, none⟩)) 1048576 (normE (singles (l.take k)))] wr)) (fun i _ => l.length - (intOf i).toNat)
 case atStart => exact ⟨0, by omega, rfl, Lib.hid (by rw [List.take_zero, show singles [] = [] from rfl, normE_nil]; exact HS0.out)⟩
 case round =>
  obtain ⟨k, hk, rfl, HS⟩ := hrel
  have hold := HS.out.old
  have hc2' := cell_up hold hc2
  by_cases hlt : k < l.length
  case pos =>
   obtain ⟨g, o, dp, dc, rfl, _, hk1, _, hki, _⟩ := putsAt_get (PutsAt.up H4.out hold) k hlt
   obtain ⟨hn1, hg1, hl1⟩ := radd_single HB.out hlt hl
   have hkI : (k : Int) < (l.length : Int) := by omega
   obtain ⟨x, hx⟩ : ∃ x, l[k].lba = x := ⟨_, rfl⟩
   rw [hx] at hk1 hki hn1
   have hba := below_alloc wr (.cells #[.int .i64 x, .int .i64 1] 56)
   have hHH := heap_alloc_new wr (.cells #[.int .i64 x, .int .i64 1] 56)
   have hxs : ExtsAt (fun _ => True) (wr.alloc (.cells #[.int .i64 x, .int .i64 1] 56)) (.slice (some ⟨wr.heap.size, 0, none⟩) 1 1) [⟨x, 1⟩] := by
    refine ⟨_, 1, rfl, Nat.le_refl _, by omega, (by intro h; cases h), fun i hi => ?_⟩
    simp only [List.length_cons, List.length_nil] at hi
    obtain rfl : i = 0 := by omega
    exact ⟨wr.heap.size, 0, rfl, trivial, by rw [cell_row hHH]; rfl, by rw [cell_row hHH]; rfl, hki, show I64 1 from by unfold I64; omega⟩
   have hadd := refAdd_sep (HS.out.up hba) 1 rfl [⟨x, 1⟩] hxs (fun e he => by rw [List.mem_singleton] at he; subst he; exact ⟨hki, show I64 1 from by unfold I64; omega⟩) hg1 (i64_small (by omega)) (by omega) (by simp)
   have HADD := Lib.hid hadd
   have HN1 := Lib.hid hn1
   have HG1 := Lib.hid hg1
   have HL1 := Lib.hid hl1
   have HOLD := Lib.hid hold
   have HBA := Lib.hid hba
   have HHH := Lib.hid hHH
   have HXS := Lib.hid hxs
   have HX := Lib.hid hx
   have HKI := Lib.hid hki
   clear hadd hn1 hg1 hl1 hold hba hHH hxs hx hki
   go_wp2_with fail
   refine (HADD.out).mono ?_
   rintro e w3 ⟨rfl, HS3⟩
   rw [HN1.out] at HS3
   go_wp2_with fail
   go_roundw
   case rel => exact ⟨k + 1, by omega, by go_num, HS3⟩
   case measure => simp [intOf]; omega
  case neg =>
   obtain ⟨F1, hF1, _⟩ := HS.out.get 1 rfl
   obtain ⟨⟨b', sv, hv, _, h3, h5⟩⟩ := hF1
   cases hv
   rw [List.take_of_length_le (by omega)] at h5
   obtain ⟨sp, sc, rfl⟩ := extsAt_shape h5
   have hcell : wr.cell? ⟨s, 1, none⟩ = some (.slice sp (normE (singles l)).length sc) := by rw [cell_row h3]; rfl
   have hxx : ExtsAt (fun _ => True) wr (.slice sp (normE (singles l)).length sc) (normE (singles l)) := SlAt.mono h5 (fun _ _ => trivial) fun _ _ _ h => h
   have HOLD := Lib.hid hold
   have HXX := Lib.hid hxx
   have H5 := Lib.hid h5
   have HCELL := Lib.hid hcell
   clear hold hxx h5 hcell
   go_wp2_with fail
   go_ret
   exact ⟨s, rfl, HOLD, sp, sc, HCELL.out, HXX⟩
end Go.Proofs
namespace Go.Proofs
open Go.RowKit Sc
theorem cntE_zero {l : List Ext} (h : ∀ e ∈ l, Oke e) : cntE l = 0 ↔ l.length = 0 := by
 constructor
 ·intro h0
  cases l with
  | nil => rfl
  | cons a t =>
   exfalso
   have ha := h a (List.mem_cons_self ..)
   have hb : 0 ≤ cntE t := by have := (cntE_bd t (fun e he => h e (List.mem_cons_of_mem _ he)) t.length).1; rwa [List.take_length] at this
   have : cntE (a :: t) = a.len + cntE t := by unfold cntE; simp
   unfold Oke at ha
   omega
 ·intro h0
  cases l with
  | nil => rfl
  | cons a t => simp at h0
theorem alook_inV {α : Type} {s : List (Int × α)} {k : Int} {u : α} (h : alook s k = some u) : (k, u) ∈ s := by
 induction s with
 | nil => simp [alook] at h
 | cons a t ih =>
  obtain ⟨x, y⟩ := a
  unfold alook at h
  split at h
  ·rename_i e; cases h; subst e; exact List.mem_cons_self ..
  ·exact List.mem_cons_of_mem _ (ih h)
theorem wr_any {blocks last t : Int} {vs : Vers} {M : List RVer} (g : GoodE blocks last vs) (hm : MapR vs M) (_hb : blocks ≤ 1048576) {S : List Ext} (hs : ∀ e ∈ S, Oke e) (hl : ∀ e ∈ S, e.len ≤ 1048576) :
  (S.any fun x => wrB vs x t) = M.any fun v => decide (t < v.time) && hasB S v.lba := by
 rw [Bool.eq_iff_iff, List.any_eq_true, List.any_eq_true]
 constructor
 ·rintro ⟨e, he, hw⟩
  unfold wrB writtenB at hw
  rw [Bool.and_eq_true, List.any_eq_true] at hw
  obtain ⟨_, ⟨k, l⟩, hx, hh⟩ := hw
  unfold hitB at hh
  simp only [Bool.and_eq_true, decide_eq_true_eq] at hh
  obtain ⟨⟨h1, h2⟩, h3⟩ := hh
  have hal : alook vs k = some l := by
   obtain ⟨j, hj, hjx⟩ := List.mem_iff_getElem.1 hx
   exact alook_of g.nd (j := j) (by rw [List.getElem?_eq_getElem hj, hjx])
  obtain ⟨hne, _, _⟩ := g.ts k l hal
  have hgr := hm.look k
  rw [hal] at hgr
  simp only [Option.getD_some] at hgr
  obtain ⟨p, hp⟩ : ∃ p, l.getLast? = some p := by
   cases hq : l.getLast? with
   | none => exact absurd (List.getLast?_eq_none_iff.1 hq) hne
   | some p => exact ⟨p, rfl⟩
  have hpl : p ∈ l := List.mem_of_getLast? hp
  have hlt : lastT l = p.lba := by unfold lastT; rw [hp]; rfl
  rw [hgr] at hpl
  unfold grp at hpl
  obtain ⟨v, hv, hvp⟩ := List.mem_map.1 hpl
  obtain ⟨hv1, hv2⟩ := List.mem_filter.1 hv
  have hvk : v.lba = k := by simpa using hv2
  refine ⟨v, hv1, ?_⟩
  rw [Bool.and_eq_true, decide_eq_true_eq, hasB_iff hs]
  refine ⟨?_, e, he, by omega, by omega⟩
  have : p.lba = v.time := by rw [← hvp]
  omega
 ·rintro ⟨v, hv, hh⟩
  rw [Bool.and_eq_true, decide_eq_true_eq, hasB_iff hs] at hh
  obtain ⟨h1, e, he, h2, h3⟩ := hh
  refine ⟨e, he, ?_⟩
  have hgr := hm.look v.lba
  have hin : (⟨v.time, v.data⟩ : Put) ∈ grp M v.lba := List.mem_map.2 ⟨v, List.mem_filter.2 ⟨hv, by simp⟩, rfl⟩
  rw [← hgr] at hin
  cases hal : alook vs v.lba with
  | none => rw [hal] at hin; simp at hin
  | some l =>
   rw [hal] at hin
   simp only [Option.getD_some] at hin
   obtain ⟨hne, hpw, _⟩ := g.ts v.lba l hal
   unfold wrB writtenB
   rw [Bool.and_eq_true, decide_eq_true_eq, List.any_eq_true]
   refine ⟨hl e he, (v.lba, l), alook_inV hal, ?_⟩
   unfold hitB
   simp only [Bool.and_eq_true, decide_eq_true_eq]
   refine ⟨⟨h2, by omega⟩, ?_⟩
   have hlast : v.time ≤ lastT l := by
    obtain ⟨j, hj, hjv⟩ := List.mem_iff_getElem.1 hin
    obtain ⟨n, hn⟩ : ∃ n, l.length = n + 1 := ⟨l.length - 1, by omega⟩
    rw [lastT_get hn]
    rw [List.pairwise_iff_getElem] at hpw
    by_cases hjn : j = n
    ·subst hjn; rw [hjv]; exact Int.le_refl _
    ·have := hpw j n hj (by omega) (by omega)
     rw [hjv] at this
     exact Int.le_of_lt this
   omega
theorem any_or {α : Type} (l : List α) (p q r : α → Bool) : (l.any fun x => p x && (q x || r x)) = ((l.any fun x => p x && q x) || l.any fun x => p x && r x) := by
 induction l with
 | nil => rfl
 | cons a t ih =>
  simp only [List.any_cons, ih]
  cases p a <;> cases q a <;> cases r a <;> simp
theorem any_or2 {α : Type} (l : List α) (q r : α → Bool) : (l.any fun x => q x || r x) = ((l.any q) || l.any r) := by
 induction l with
 | nil => rfl
 | cons a t ih =>
  simp only [List.any_cons, ih]
  cases q a <;> cases r a <;> simp
theorem valid_check {blocks last t : Int} {vs : Vers} {M : List RVer} (g : GoodE blocks last vs) (hm : MapR vs M) (hb : blocks ≤ 1048576) (queue : List Tx) {S Wr : List Ext} (hs : ∀ e ∈ S, Oke e) (hl : ∀ e ∈ S, e.len ≤ 1048576) (hs2 : ∀ e ∈ Wr, Oke e) (hl2 : ∀ e ∈ Wr, e.len ≤ 1048576) : validR M queue t S Wr = checkCode vs queue t S Wr := by
 unfold validR checkCode hitsB
 rw [wr_any g hm hb hs hl, wr_any g hm hb hs2 hl2, any_or, any_or2]
 by_cases hz : Wr.length = 0
 ·rw [if_pos hz, if_pos ((cntE_zero hs2).2 hz)]
 ·rw [if_neg hz, if_neg (fun h => hz ((cntE_zero hs2).1 h))]
  generalize (M.any fun v => decide (t < v.time) && hasB S v.lba) = a
  generalize (M.any fun v => decide (t < v.time) && hasB Wr v.lba) = b
  have e1 : (queue.any fun q => againstB S q) = queue.any (againstB S) := rfl
  have e2 : (queue.any fun q => againstB Wr q) = queue.any (againstB Wr) := rfl
  rw [e1, e2]
  generalize queue.any (againstB S) = c
  generalize queue.any (againstB Wr) = d
  cases a <;> cases b <;> cases c <;> cases d <;> rfl
end Go.Proofs
namespace Go.Proofs
open Go.RowKit Sc
section
variable {W w : World} {L : List Asn} {i : Nat} {c : RmC} {s : MgS}
theorem rx_buf (h : Sep W (OL L i (rmItems c s)) w) (hc : c.cs.length = s.txs.length) {k : Nat} (hk : k < s.txs.length) (hkc : k < c.cs.length) : w.cell? ⟨c.cs[k].bb, 2, none⟩ = some c.cs[k].lv ∧ PutsAt (fun q => q < w.heap.size) w c.cs[k].lv c.cs[k].rb := by
 obtain ⟨F, hF, hd⟩ := h.get (L.length + (4 + (3 * k + 2))) (OL_get.trans (ritems_tx hc hk 2 (by omega)))
 exact ⟨by rw [cell_row hF.2.1]; rfl, hF.2.2.mono fun q hq => hd q hq.1⟩
theorem rm_queue (h : Sep W (OL L i (rmItems c s)) w) (hc : RmOk c s) {N : Nat} (g : MgG N s) : TxsAt (fun q => q < w.heap.size) w c.qv (waitL s) ∧ (∀ x ∈ c.ql, x.2.oneCell' = true) ∧ c.ql.length = s.queue.length := by
 obtain ⟨F, hF, hd⟩ := h.get (L.length + 2) (OL_get.trans (ritems_head 2 (by omega)))
 have hql := hc.ql
 have hlen : c.ql.length = s.queue.length := by rw [hql, List.length_map]
 have hat : ∀ x, x ∈ s.queue → ∃ k : Nat, ∃ hk : k < s.txs.length, ∃ hkc : k < c.cs.length, x = (k : Int) + 1 ∧ txAt s.txs x = s.txs[k] ∧ rxAt c.cs x = c.cs[k] := fun x hx => by
  obtain ⟨h1, h2⟩ := g.qr x hx
  have hk : (x - 1).toNat < s.txs.length := by omega
  have hkc : (x - 1).toNat < c.cs.length := by rw [hc.len]; exact hk
  have e : x = ((x - 1).toNat : Int) + 1 := by omega
  refine ⟨(x - 1).toNat, hk, hkc, e, ?_, ?_⟩
  ·unfold txAt; rw [List.getElem?_eq_getElem hk]; rfl
  ·unfold rxAt; rw [List.getElem?_eq_getElem hkc]; rfl
 refine ⟨?_, fun x hx => ?_, hlen⟩
 ·obtain ⟨p, cp, he, q1, q2, q3, q4⟩ := hF.2.2.1
  refine ⟨p, cp, by rw [he, hlen, waitL_len], by rw [waitL_len, ← hlen]; exact q1, q2, q3, fun j hj => ?_⟩
  have hj' : j < s.queue.length := by rwa [waitL_len] at hj
  have hjq : j < c.ql.length := by rw [hlen]; exact hj'
  obtain ⟨b, o, hp, hFb, h0, h1⟩ := q4 j hjq
  obtain ⟨k, hk, hkc, hx, ht, hr⟩ := hat s.queue[j] (List.getElem_mem hj')
  have e1 : c.ql[j] = (s.txs[k].tm, c.cs[k].lv) := by
   have : c.ql[j] = (s.queue.map fun h => ((txAt s.txs h).tm, (rxAt c.cs h).lv))[j]'(by rw [List.length_map]; exact hj') := by simp only [hql]
   rw [this, List.getElem_map, ht, hr]
  have e2 : (waitL s)[j] = ⟨s.txs[k].tm, c.cs[k].rb⟩ := by
   have e3 : (waitL s)[j] = waitTx s s.queue[j] := by simp [waitL]
   rw [e3]
   unfold waitTx
   rw [txOf_txAt, ht, (hc.bufr k hk hkc).puts]
  rw [e1] at h0 h1
  rw [e2]
  refine ⟨b, o, hp, hd b hFb, h0, ?_, c.cs[k].lv, h1, (rx_buf h hc.len hk hkc).2⟩
  have hb := g.qb _ (List.getElem_mem hj')
  rw [ht] at hb
  have := g.lt
  show I64 s.txs[k].tm
  unfold I64
  omega
 ·rw [hql] at hx
  obtain ⟨y, hy, rfl⟩ := List.mem_map.1 hx
  obtain ⟨k, hk, hkc, _, _, hr⟩ := hat y hy
  simp only [hr]
  obtain ⟨_, _, e, _⟩ := (rx_buf h hc.len hk hkc).2
  rw [e]; rfl
theorem rm_store (h : Sep W (OL L i (rmItems c s)) w) (j : Nat) (u : Value) (s' : MgS) (he : (rmRow c s).setIfInBounds j u = rmRow c s') (e1 : s'.blocks = s.blocks) (e2 : s'.last0 = s.last0) (e3 : s'.tmb = s.tmb) (e4 : s'.queue = s.queue) (e5 : s'.txs = s.txs) : Sep W (OL L i (rmItems c s')) (w.setCell ⟨c.mb, j, none⟩ u) := by
 have h1 := h.box_store (L.length + 0) (OL_get.trans (ritems_head 0 (by omega))) j u
 rw [he, OL_set] at h1
 have e : (rmItems c s).set 0 (BoxA c.mb (rmRow c s') 96) = rmItems c s' := by
  unfold rmItems rmHead rxList
  rw [e1, e2, e3, e4, e5]; rfl
 rwa [e] at h1
theorem rm_fz (h : Sep W (OL L i (rmItems c s)) w) (j : Nat) : w.frozen? ⟨c.mb, j, none⟩ = false := frozen_row0 (rm_heap h) j
theorem rx_view (h : Sep W (OL L i (rmItems c s)) w) (hc : c.cs.length = s.txs.length) {k : Nat} (hk : k < s.txs.length) (hkc : k < c.cs.length) : w.cell? ⟨c.cs[k].vb, 2, none⟩ = some (.int .i64 s.txs[k].at') ∧ ∃ sv, w.cell? ⟨c.cs[k].vb, 4, none⟩ = some sv ∧ ExtsAt (fun q => q < w.heap.size) w sv s.txs[k].S := by
 obtain ⟨F, ⟨rv, sv, D, h1, h2, h3, _⟩, hd⟩ := h.get (L.length + (4 + (3 * k + 1))) (OL_get.trans (ritems_tx hc hk 1 (by omega)))
 exact ⟨by rw [cell_row h2]; rfl, sv, by rw [cell_row h2]; rfl, SlAt.mono h3 (fun q hq => hd q hq.1) (fun _ _ _ h => h)⟩
theorem rm_map (h : Sep W (OL L i (rmItems c s)) w) : RMapIs (fun q => q < w.heap.size) w (pt c.m) s.blocks s.last0 c.M := by
 obtain ⟨F, hF, hd⟩ := h.get (L.length + 1) (OL_get.trans (ritems_head 1 (by omega)))
 exact RMapIs.mono hF hd
end
end Go.Proofs
namespace Go.Proofs
open Go.RowKit Sc
theorem sum_ind {ks : List Int} (hn : ks.Nodup) {x : Int} (hx : x ∈ ks) (f : Int → Nat) : (ks.map fun k => f k + if x = k then 1 else 0).sum = (ks.map f).sum + 1 := by
 induction ks with
 | nil => cases hx
 | cons a t ih =>
  obtain ⟨h1, h2⟩ := List.nodup_cons.1 hn
  simp only [List.map_cons, List.sum_cons]
  by_cases e : x = a
  ·subst e
   have hz : (t.map fun k => f k + if x = k then 1 else 0) = t.map f := List.map_congr_left fun k hk => by
    have hne : ¬ x = k := fun h => h1 (h ▸ hk)
    simp [hne]
   rw [hz, if_pos rfl]; omega
  ·rw [if_neg e, ih h2 ((List.mem_cons.1 hx).resolve_left e)]; omega
theorem sum_zero (ks : List Int) : (ks.map fun _ => 0).sum = 0 := by
 induction ks with
 | nil => rfl
 | cons a t ih => simp [ih]
theorem sum_grp {ks : List Int} (hn : ks.Nodup) : ∀ M : List RVer, (∀ v ∈ M, v.lba ∈ ks) → (ks.map fun k => (grp M k).length).sum = M.length
 | [], _ => by
  have : (ks.map fun k => (grp [] k).length) = ks.map fun _ => 0 := List.map_congr_left fun k _ => rfl
  rw [this, sum_zero]; rfl
 | v :: M, h => by
  have e : (ks.map fun k => (grp (v :: M) k).length) = ks.map fun k => (grp M k).length + if v.lba = k then 1 else 0 := List.map_congr_left fun k _ => by
   unfold grp
   rw [List.length_map, List.length_map]
   by_cases hk : v.lba = k
   ·rw [if_pos hk, List.filter_cons_of_pos (by simpa using hk)]; rfl
   ·rw [if_neg hk, List.filter_cons_of_neg (by simpa using hk)]; rfl
  rw [e, sum_ind hn (h v (List.mem_cons_self ..)), sum_grp hn M fun u hu => h u (List.mem_cons_of_mem _ hu)]
  rfl
theorem MapR.count {blocks last : Int} {vs : Vers} {M : List RVer} (h : MapR vs M) (g : GoodE blocks last vs) : M.length = nVers vs := by
 have hk : ∀ v ∈ M, v.lba ∈ vs.map (·.1) := fun v hv => by
  have hin : (⟨v.time, v.data⟩ : Put) ∈ grp M v.lba := List.mem_map.2 ⟨v, List.mem_filter.2 ⟨hv, by simp⟩, rfl⟩
  rw [← h.look] at hin
  cases ha : alook vs v.lba with
  | none => rw [ha] at hin; simp at hin
  | some l => exact List.mem_map.2 ⟨(v.lba, l), alook_inV ha, rfl⟩
 have := sum_grp g.nd M hk
 rw [← this]
 unfold nVers
 rw [List.map_map]
 congr 1
 refine List.map_congr_left fun x hx => ?_
 have ha : alook vs x.1 = some x.2 := alook_mem g.nd hx
 have hl := h.look x.1
 rw [ha] at hl
 simp only [Option.getD_some] at hl
 show (grp M x.1).length = x.2.length
 rw [← hl]
theorem MgG.qlenV {N : Nat} {s : MgS} (g : MgG N s) : s.queue.length ≤ 16 := by
 have h : ∀ x ∈ s.queue, x ∈ s.tmb.map (·.1) := fun x hx => by
  obtain ⟨q1, q2⟩ := g.qr x hx
  have := g.bk x q1 q2
  rw [if_pos (.inr (g.qp x hx).1)] at this
  exact List.mem_map.2 ⟨_, alook_inV this, rfl⟩
 have := List.Nodup.length_le_of_subset g.qd h
 rw [List.length_map] at this
 have := g.k6
 omega
end Go.Proofs
namespace Go.Proofs
open Go.RowKit Sc
theorem nVersA (vs : Vers) (k : Int) (l : List Put) : nVers (aset vs k l) = nVers vs + l.length - ((alook vs k).getD []).length ∧ ((alook vs k).getD []).length ≤ nVers vs := by
 induction vs with
 | nil => simp [aset, alook, nVers]
 | cons x t ih =>
  obtain ⟨n, y⟩ := x
  unfold nVers at *
  by_cases h : n = k
  ·subst h; simp [aset, alook]; omega
  ·simp [aset, alook, h]; omega
theorem nVersOne (time : Int) (vs : Vers) (p : Put) : nVers (applyOne time vs p) = nVers vs + 1 := by
 unfold applyOne
 obtain ⟨h1, h2⟩ := nVersA vs p.lba ((alook vs p.lba).getD [] ++ [⟨time, p.data⟩])
 rw [List.length_append, List.length_singleton] at h1
 omega
theorem nVersVs (time : Int) : ∀ (l : List Put) (vs : Vers), nVers (applyVs time vs l) = nVers vs + l.length
 | [], vs => rfl
 | p :: l, vs => by
  show nVers (applyVs time (applyOne time vs p) l) = _
  rw [nVersVs time l, nVersOne]; simp; omega
theorem nVersNext (blocks last : Int) (vs : Vers) (t : Tx) : nVers (applyNext blocks last vs t) ≤ nVers vs + t.puts.length := by
 unfold applyNext
 split
 ·rw [nVersVs]; omega
 ·omega
theorem len_nVers {vs : Vers} {k : Int} {l : List Put} (h : alook vs k = some l) : l.length ≤ nVers vs := by
 have := (nVersA vs k []).2
 rw [h] at this
 exact this
theorem alook_pruneM (h : Int) (k : Int) : ∀ vs : Vers, alook (pruneVs h vs) k = (alook vs k).map (pruneOne h)
 | [] => rfl
 | (n, l) :: vs => by
  show (if n = k then some (pruneOne h l) else alook (pruneVs h vs) k) = _
  rw [alook_pruneM h k vs]
  simp only [alook]
  split <;> rfl
theorem nVers_prune (h : Int) : ∀ vs : Vers, nVers (pruneVs h vs) ≤ nVers vs
 | [] => Nat.le_refl _
 | x :: vs => by
  have := nVers_prune h vs
  show (pruneOne h x.2).length + nVers (pruneVs h vs) ≤ x.2.length + nVers vs
  have e : (pruneOne h x.2).length ≤ x.2.length := by unfold pruneOne; rw [List.length_drop]; omega
  omega
theorem GoodE.prune {blocks last : Int} {vs : Vers} (g : GoodE blocks last vs) (h : Int) : GoodE blocks last (pruneVs h vs) := by
 have e : (pruneVs h vs).map (·.1) = vs.map (·.1) := by unfold pruneVs; rw [List.map_map]; rfl
 refine ⟨by rw [e]; exact g.nd, fun x hx => ?_, fun k l hl => ?_, g.l0⟩
 ·have hm : x.1 ∈ vs.map (·.1) := by rw [← e]; exact List.mem_map_of_mem hx
  obtain ⟨y, hy, hyx⟩ := List.mem_map.1 hm
  rw [← hyx]; exact g.ks y hy
 ·rw [alook_pruneM] at hl
  obtain ⟨l2, h2, rfl⟩ := Option.map_eq_some_iff.1 hl
  obtain ⟨g1, g2, g3⟩ := g.ts k l2 h2
  have hs : (pruneOne h l2).Sublist l2 := List.drop_sublist _ _
  refine ⟨fun e => ?_, g2.sublist hs, fun p hp => g3 p (hs.subset hp)⟩
  unfold pruneOne at e
  have h1 := atN_le l2 h
  have h3 : 0 < l2.length := List.length_pos_iff.2 g1
  have := congrArg List.length e
  rw [List.length_drop] at this
  simp at this
  omega
theorem addCode_len {most : Int} {l0 l : List Ext} (hn : l ≠ []) (h : addCode most l0 l = 0) : ((addNext most l0 l).length : Int) ≤ most := by
 unfold addNext
 rw [if_pos h]
 unfold addCode at h
 by_cases ha : allB l = false
 ·rw [if_pos ha] at h; cases h
 ·rw [if_neg ha, if_neg hn] at h
  by_cases hm : most < ((normE (l0 ++ l)).length : Int)
  ·rw [if_pos hm] at h; cases h
  ·omega
theorem openB_q {n : Nat} {s : MgS} (g : MgG n s) {h : Int} (ho : openB s h = true) : h ∉ s.queue := fun hq => by
 have h1 := (openB_iff.1 ho).2.2
 have h2 := (g.qp h hq).1
 omega
theorem MgG.writes {n : Nat} {s : MgS} (g : MgG n s) (h : Int) (l : List Put) : MgG n (wrNext s h l) := by
 unfold wrNext
 split
 case isFalse => exact g
 case isTrue ho =>
  obtain ⟨o1, o2, o3⟩ := openB_iff.1 ho
  have ht := g.tx _ (txAt_mem o1 o2)
  refine g.turn (Nat.le_refl _) ho _ o3 rfl ⟨ht.bg.next _, ?_, ht.sg, ht.sb, ht.sl, ht.rl, ht.rd⟩
  have := (bufNext_len (blocks := s.blocks) (most := 16) (s := (txAt s.txs h).buf) l).2 (by have := ht.bl; omega)
  show (bufNext s.blocks 16 (txAt s.txs h).buf l).length ≤ 16
  omega
theorem readCode_zero {blocks : Int} {S : List Ext} {e : Ext} (h : readCode blocks S e = 0) : 1 ≤ e.len ∧ e.len ≤ 16 ∧ 0 ≤ e.first ∧ e.first + e.len ≤ blocks ∧ addCode 64 S [e] = 0 := by
 unfold readCode at h
 split at h
 ·cases h
 ·split at h
  ·cases h
  ·rename_i h1 h2
   split at h
   ·cases h
   ·rename_i h3
    unfold withinB at h2
    simp only [Bool.and_eq_false_iff, not_or, Bool.not_eq_false, decide_eq_true_eq] at h2
    refine ⟨by omega, by omega, by omega, by omega, ?_⟩
    exact Classical.byContradiction fun hc => h3 hc
theorem MgG.reads {n : Nat} {s : MgS} (g : MgG n s) (h : Int) (e : Ext) : MgG (n + 16) (rdNext s h e) := by
 unfold rdNext
 split
 case isFalse => exact g.mono (by omega)
 case isTrue hc =>
  have ho : openB s h = true := by
   unfold rdCode at hc
   split at hc
   ·assumption
   ·cases hc
  have hc' : readCode s.blocks (txOf s h).S e = 0 := by
   unfold rdCode at hc
   rwa [if_pos ho] at hc
  obtain ⟨o1, o2, o3⟩ := openB_iff.1 ho
  obtain ⟨r1, r2, r3, r4, r5⟩ := readCode_zero hc'
  have ht := g.tx _ (txAt_mem o1 o2)
  refine g.turn (by omega) ho _ o3 rfl ⟨ht.bg, ht.bl, addNext_good ht.sg, ht.sb.add ht.sg (fun x hx => by rw [List.mem_singleton] at hx; subst hx; omega), ?_, ?_, fun x hx => ?_⟩
  ·have := addCode_len (by simp) r5
   show (addNext 64 (txAt s.txs h).S [e]).length ≤ 64
   have h2 : ((addNext 64 (txAt s.txs h).S [e]).length : Int) ≤ 64 := this
   omega
  ·show ((txAt s.txs h).R ++ readsV s.vs (txAt s.txs h).buf (txAt s.txs h).at' e.first e.len.toNat).length ≤ n + 16
   rw [List.length_append, readsV_length]
   have := ht.rl
   omega
  ·rcases List.mem_append.1 hx with hx | hx
   ·exact ht.rd x hx
   ·unfold readsV at hx
    obtain ⟨q, _, rfl⟩ := List.mem_map.1 hx
    exact blkV_length g.ge ht.bg _ _
theorem MgG.aborts {n : Nat} {s : MgS} (g : MgG n s) (h : Int) : MgG n (abNext s h) := by
 unfold abNext
 split
 case isFalse => exact g
 case isTrue ho =>
  obtain ⟨o1, o2, o3⟩ := openB_iff.1 ho
  exact g.ends (m := n) (Nat.le_refl _) (st := 4) (cd := 0) o1 o2 (.inr rfl) (List.Sublist.refl _) (openB_q g ho) (fun x hx _ => hx) g.o1 g.ge g.nv (Int.le_refl _) g.l0 g.lt.2.2.1 (fun x hx => (g.qb x hx).1)
theorem mayC_zero {s : MgS} {t : TxS} (h : mayC s t = 0) : s.ro = false ∧ checkCode s.vs (waitL s) t.at' t.S (setB t) = 0 ∧ s.given < 1099511627776 := by
 unfold mayC at h
 split at h
 ·cases h
 ·rename_i h1
  split at h
  ·rename_i h2; exact absurd h h2
  ·rename_i h2
   split at h
   ·cases h
   ·exact ⟨by simpa using h1, Classical.byContradiction fun hc => h2 hc, by omega⟩
theorem MgG.waits {n : Nat} {s : MgS} (g : MgG n s) {h : Int} (ho : openB s h = true) (hb : 0 < (txOf s h).buf.length) (hm : s.given < 1099511627776) : MgG n (cmWait s h) := by
 obtain ⟨o1, o2, o3⟩ := openB_iff.1 ho
 have ht := g.tx _ (txAt_mem o1 o2)
 have hnq := openB_q g ho
 have hat : ∀ x, 1 ≤ x → txAt (s.txs.set (h - 1).toNat { txAt s.txs h with st := 2, tm := s.given + 1 }) x = if x = h then { txAt s.txs h with st := 2, tm := s.given + 1 } else txAt s.txs x := fun x hx => txAt_set _ o1 o2 hx
 have hl : (s.txs.set (h - 1).toNat { txAt s.txs h with st := 2, tm := s.given + 1 }).length = s.txs.length := List.length_set ..
 have hq : ∀ x ∈ s.queue, txAt (s.txs.set (h - 1).toNat { txAt s.txs h with st := 2, tm := s.given + 1 }) x = txAt s.txs x := fun x hx => by
  rw [hat x (g.qr x hx).1, if_neg]
  rintro rfl
  exact hnq hx
 have hqh : txAt (s.txs.set (h - 1).toNat { txAt s.txs h with st := 2, tm := s.given + 1 }) h = { txAt s.txs h with st := 2, tm := s.given + 1 } := by rw [hat h o1, if_pos rfl]
 have hla := g.lt
 refine { b1 := g.b1, b2 := g.b2, ge := g.ge, nv := g.nv, kd := g.kd, kn := g.kn, k6 := g.k6, hh := by show s.lastH = _; rw [g.hh]; exact congrArg _ hl.symm, hn := by show (s.txs.set (h - 1).toNat { txAt s.txs h with st := 2, tm := s.given + 1 }).length ≤ n; rw [hl]; exact g.hn, tx := fun x hx => ?_, ta := fun x hx => ?_, qr := fun x hx => ?_, qp := fun x hx => ?_, qd := ?_, qs := fun x a b c => ?_, qt := ?_, qb := fun x hx => ?_, o1 := ⟨g.o1.1, ?_⟩, lt := ⟨hla.1, hla.2.1, by show s.last ≤ s.given + 1; omega, by show s.given + 1 ≤ 1099511627776; omega⟩, l0 := g.l0, nm := g.nm, bk := fun x a b => ?_ }
 ·rcases List.mem_or_eq_of_mem_set hx with hx | rfl
  ·exact g.tx x hx
  ·exact ⟨ht.bg, ht.bl, ht.sg, ht.sb, ht.sl, ht.rl, ht.rd⟩
 ·rcases List.mem_or_eq_of_mem_set hx with hx | rfl
  ·exact g.ta x hx
  ·have := g.ta _ (txAt_mem o1 o2)
   exact this
 ·show 1 ≤ x ∧ x ≤ ((s.txs.set (h - 1).toNat { txAt s.txs h with st := 2, tm := s.given + 1 }).length : Int)
  rw [hl]
  rcases List.mem_append.1 hx with hx | hx
  ·exact g.qr x hx
  ·rw [List.mem_singleton] at hx; subst hx; exact ⟨o1, o2⟩
 ·show (txAt (s.txs.set (h - 1).toNat { txAt s.txs h with st := 2, tm := s.given + 1 }) x).st = 2 ∧ 0 < (txAt (s.txs.set (h - 1).toNat { txAt s.txs h with st := 2, tm := s.given + 1 }) x).buf.length
  rcases List.mem_append.1 hx with hx | hx
  ·rw [hq x hx]; exact g.qp x hx
  ·rw [List.mem_singleton] at hx; subst hx; rw [hqh]; exact ⟨rfl, hb⟩
 ·show (s.queue ++ [h]).Nodup
  rw [List.nodup_append]
  exact ⟨g.qd, by simp, fun a ha b hb e => by rw [List.mem_singleton] at hb; subst hb; subst e; exact hnq ha⟩
 ·change (txAt (s.txs.set (h - 1).toNat { txAt s.txs h with st := 2, tm := s.given + 1 }) x).st = 2 at c
  change x ≤ ((s.txs.set (h - 1).toNat { txAt s.txs h with st := 2, tm := s.given + 1 }).length : Int) at b
  show x ∈ s.queue ++ [h]
  rw [hl] at b
  rw [hat x a] at c
  split at c
  ·rename_i e; rw [e]; simp
  ·exact List.mem_append_left _ (g.qs x a b c)
 ·show ((s.queue ++ [h]).map fun h_1 => (txAt (s.txs.set (h - 1).toNat { txAt s.txs h with st := 2, tm := s.given + 1 }) h_1).tm).Pairwise (· < ·)
  rw [List.map_append, List.map_congr_left fun x hx => by rw [hq x hx]]
  rw [List.pairwise_append]
  refine ⟨g.qt, by simp, fun a ha b hb => ?_⟩
  simp only [List.map_cons, List.map_nil, List.mem_singleton] at hb
  subst hb
  obtain ⟨x, hx, rfl⟩ := List.mem_map.1 ha
  rw [hqh]
  have := (g.qb x hx).2
  show (txAt s.txs x).tm < s.given + 1
  omega
 ·show s.last < (txAt (s.txs.set (h - 1).toNat { txAt s.txs h with st := 2, tm := s.given + 1 }) x).tm ∧ (txAt (s.txs.set (h - 1).toNat { txAt s.txs h with st := 2, tm := s.given + 1 }) x).tm ≤ s.given + 1
  rcases List.mem_append.1 hx with hx | hx
  ·rw [hq x hx]; have := g.qb x hx; omega
  ·rw [List.mem_singleton] at hx; subst hx; rw [hqh]
   show s.last < s.given + 1 ∧ s.given + 1 ≤ s.given + 1
   omega
 ·show s.out ≤ ((s.queue ++ [h]).length : Int)
  have := g.o1.2
  rw [List.length_append]; simp; omega
 ·change x ≤ ((s.txs.set (h - 1).toNat { txAt s.txs h with st := 2, tm := s.given + 1 }).length : Int) at b
  show alook s.tmb x = if (txAt (s.txs.set (h - 1).toNat { txAt s.txs h with st := 2, tm := s.given + 1 }) x).st = 1 ∨ (txAt (s.txs.set (h - 1).toNat { txAt s.txs h with st := 2, tm := s.given + 1 }) x).st = 2 then some (txAt (s.txs.set (h - 1).toNat { txAt s.txs h with st := 2, tm := s.given + 1 }) x).at' else none
  rw [hl] at b
  rw [hat x a]
  by_cases e : x = h
  ·subst e
   rw [if_pos rfl, if_pos (.inr rfl), g.bk x a b, if_pos (.inl o3)]
  ·rw [if_neg e]; exact g.bk x a b
theorem MgG.commits {n : Nat} {s : MgS} (g : MgG n s) (h : Int) : MgG n (cmNext s h) := by
 unfold cmNext
 split
 case isFalse => exact g
 case isTrue ho =>
  obtain ⟨o1, o2, o3⟩ := openB_iff.1 ho
  split
  ·rename_i hb
   have ht := g.tx _ (txAt_mem o1 o2)
   have g2 := g.turn (Nat.le_refl _) ho { txOf s h with tm := (txOf s h).at' } o3 rfl ⟨ht.bg, ht.bl, ht.sg, ht.sb, ht.sl, ht.rl, ht.rd⟩
   have o2' : h ≤ (setTx s h { txOf s h with tm := (txOf s h).at' }).txs.length := by rw [setTx_len]; exact o2
   exact g2.ends (m := n) (Nat.le_refl _) (st := 3) (cd := 0) o1 o2' (.inl rfl) (List.Sublist.refl _) (openB_q g ho) (fun x hx _ => hx) g2.o1 g2.ge g2.nv (Int.le_refl _) g2.l0 g2.lt.2.2.1 (fun x hx => (g2.qb x hx).1)
  ·rename_i hb
   split
   ·exact g.ends (m := n) (Nat.le_refl _) (st := 4) (cd := mayC s (txOf s h)) o1 o2 (.inr rfl) (List.Sublist.refl _) (openB_q g ho) (fun x hx _ => hx) g.o1 g.ge g.nv (Int.le_refl _) g.l0 g.lt.2.2.1 (fun x hx => (g.qb x hx).1)
   ·rename_i hm
    exact g.waits ho (by omega) (mayC_zero (Classical.byContradiction fun hc => hm hc)).2.2
theorem MgG.batches {n : Nat} {s : MgS} (g : MgG n s) : MgG n (baNext s) := by
 unfold baNext
 split
 ·have := (formN_bd (waitL s)).1
  rw [waitL_len] at this
  exact { g with o1 := ⟨by show (0 : Int) ≤ (formN (waitL s) : Int); omega, by show (formN (waitL s) : Int) ≤ s.queue.length; omega⟩ }
 ·exact g
theorem MgG.prunes {n : Nat} {s : MgS} (g : MgG n s) : MgG n (prNext s) :=
 { g with ge := g.ge.prune _, nv := Nat.le_trans (nVers_prune _ _) g.nv }
theorem MgG.reads_only {n : Nat} {s : MgS} (g : MgG n s) (b : Bool) : MgG n { s with ro := b } := { g with }
theorem MgG.step {n : Nat} {s : MgS} (g : MgG n s) (code : Int) {h : Int} {rest : List Int} (hq : s.queue = h :: rest) : MgG (n + 16) { doStep code s h with queue := rest, out := 0 } := by
 have hh : h ∈ s.queue := by rw [hq]; simp
 have hr : rest.Sublist s.queue := by rw [hq]; exact List.sublist_cons_self _ _
 obtain ⟨o1, o2⟩ := g.qr h hh
 have hnd := g.qd
 rw [hq] at hnd
 have hnr := (List.nodup_cons.1 hnd).1
 have hin : ∀ x ∈ s.queue, x ≠ h → x ∈ rest := fun x hx e => by
  rw [hq] at hx
  exact (List.mem_cons.1 hx).resolve_left e
 have hla := g.lt
 have hqb := g.qb h hh
 unfold doStep
 split
 ·have ht := g.tx _ (txAt_mem o1 o2)
  have hlen : (waitTx s h).puts.length ≤ 16 := by
   show (bufPuts (txAt s.txs h).buf).length ≤ 16
   rw [bufPuts_len]; exact ht.bl
  have hpw := g.qt
  rw [hq, List.map_cons, List.pairwise_cons] at hpw
  have hl0 := g.l0
  refine g.ends (m := n + 16) (by omega) (st := 3) (cd := 0) o1 o2 (.inl rfl) hr hnr hin ⟨Int.le_refl _, by omega⟩ (g.ge.next _) ?_ (last' := (txAt s.txs h).tm) (by omega) ?_ hqb.2 (fun x hx => hpw.1 _ (List.mem_map_of_mem hx))
  ·have := nVersNext s.blocks s.last0 s.vs (waitTx s h)
   have := g.nv
   omega
  ·unfold applyLast
   split
   ·exact Int.le_refl _
   ·omega
 ·exact g.ends (m := n + 16) (by omega) (st := 4) (cd := code) o1 o2 (.inr rfl) hr hnr hin ⟨Int.le_refl _, by omega⟩ g.ge (by have := g.nv; omega) (Int.le_refl _) g.l0 hla.2.2.1 (fun x hx => (g.qb x (hr.subset hx)).1)
theorem doStep_queue (code : Int) (s : MgS) (h : Int) (q : List Int) (o : Int) : doStep code { s with queue := q, out := o } h = { doStep code s h with queue := q, out := o } := by
 unfold doStep
 split <;> rfl
def doneTo (code : Int) (s : MgS) (j : Nat) : MgS := (s.queue.take j).foldl (doStep code) s
theorem doneTo_zero (code : Int) (s : MgS) : doneTo code s 0 = s := by unfold doneTo; rw [List.take_zero]; rfl
theorem doneTo_succ (code : Int) (s : MgS) {j : Nat} (hj : j < s.queue.length) : doneTo code s (j + 1) = doStep code (doneTo code s j) s.queue[j] := by
 unfold doneTo
 rw [take_snoc _ _ hj, List.foldl_append]; rfl
theorem doStep_same (code : Int) (s : MgS) (h : Int) : (doStep code s h).queue = s.queue ∧ (doStep code s h).txs.length = s.txs.length ∧ (doStep code s h).blocks = s.blocks := by
 unfold doStep
 split
 ·exact ⟨rfl, List.length_set .., rfl⟩
 ·exact ⟨rfl, List.length_set .., rfl⟩
theorem doneTo_same (code : Int) (s : MgS) : ∀ j, j ≤ s.queue.length → (doneTo code s j).queue = s.queue ∧ (doneTo code s j).txs.length = s.txs.length ∧ (doneTo code s j).blocks = s.blocks
 | 0, _ => by rw [doneTo_zero]; exact ⟨rfl, rfl, rfl⟩
 | j + 1, h => by
  obtain ⟨h1, h2, h3⟩ := doneTo_same code s j (by omega)
  obtain ⟨k1, k2, k3⟩ := doStep_same code (doneTo code s j) s.queue[j]
  rw [doneTo_succ code s (by omega)]
  exact ⟨k1.trans h1, k2.trans h2, k3.trans h3⟩
theorem MgG.doneTo {n : Nat} {s : MgS} (g : MgG n s) (code : Int) : ∀ j, j ≤ s.queue.length → MgG (n + 16 * j) { doneTo code s j with queue := s.queue.drop j, out := 0 }
 | 0, _ => by
  rw [doneTo_zero]
  exact { g with o1 := ⟨Int.le_refl _, by show (0 : Int) ≤ _; omega⟩ }
 | j + 1, h => by
  have ih := MgG.doneTo g code j (by omega)
  have hd : s.queue.drop j = s.queue[j] :: s.queue.drop (j + 1) := List.drop_eq_getElem_cons (by omega)
  have := ih.step code (h := s.queue[j]) (rest := s.queue.drop (j + 1)) hd
  rw [doStep_queue] at this
  rw [doneTo_succ code s (by omega), show n + 16 * (j + 1) = n + 16 * j + 16 by omega]
  exact this
theorem doneTo_tx {n : Nat} {s : MgS} (g : MgG n s) (code : Int) : ∀ j, j ≤ s.queue.length → ∀ x ∈ s.queue.drop j, txAt (doneTo code s j).txs x = txAt s.txs x
 | 0, _ => fun x _ => by rw [doneTo_zero]
 | j + 1, h => fun x hx => by
  have hd : s.queue.drop j = s.queue[j] :: s.queue.drop (j + 1) := List.drop_eq_getElem_cons (by omega)
  have hxd : x ∈ s.queue.drop j := by rw [hd]; exact List.mem_cons_of_mem _ hx
  have ih := doneTo_tx g code j (by omega) x hxd
  have hnd : (s.queue.drop j).Nodup := g.qd.sublist (List.drop_sublist _ _)
  rw [hd] at hnd
  have hne : x ≠ s.queue[j] := fun e => (List.nodup_cons.1 hnd).1 (e ▸ hx)
  have hl := (doneTo_same code s j (by omega)).2.1
  obtain ⟨q1, q2⟩ := g.qr _ (List.getElem_mem (show j < s.queue.length by omega))
  have hx1 := (g.qr x (List.mem_of_mem_drop hx)).1
  rw [doneTo_succ code s (by omega), ← ih]
  unfold doStep
  split
  ·exact (txAt_set _ q1 (by rw [hl]; exact q2) hx1).trans (if_neg hne)
  ·exact (txAt_set _ q1 (by rw [hl]; exact q2) hx1).trans (if_neg hne)
theorem MgG.dones {n : Nat} {s : MgS} (g : MgG n s) (code : Int) (h8 : s.out ≤ 8) : MgG (n + 128) (doneNext s code) := by
 unfold doneNext
 split
 ·exact g.mono (by omega)
 ·have ho := g.o1
  have := g.doneTo code s.out.toNat (by omega)
  have hm := this.mono (show n + 16 * s.out.toNat ≤ n + 128 by omega)
  have hnum := g.nm
  have h2 : 0 ≤ (if code = 0 then s.num + 1 else s.num) ∧ (if code = 0 then s.num + 1 else s.num) ≤ ((n + 128 : Nat) : Int) := by split <;> omega
  exact { hm with nm := h2 }
end Go.Proofs
namespace Go.Proofs
open Go.RowKit Sc
section
variable {W w : World} {L : List Asn}
theorem bufPutsM (h : Hid (Sep W L w)) (i : Nat) {v : Value} {blocks most : Int} {s : List (Int × Bytes)} (hi : L[i]? = some (BufA v blocks most s)) (hg : BufG blocks s) (hb : blocks ≤ 1048576) (hl : s.length ≤ 1000000) :
  Calls Tryz.prog 77 #[v] w fun e w' => ∃ p c, e = .returned (.slice p s.length c) ∧ Hid (PutsAt (New w w') w' (.slice p s.length c) (bufPuts s)) ∧ Hid (Below w.heap.size w w') := by
 obtain ⟨F, hF, _⟩ := h.out.get i hi
 refine (bufPuts_any F v blocks most s w hF (hg.i64 hb) hl hg.d40).mono ?_
 rintro e w' ⟨pv, rfl, hp, hb⟩
 obtain ⟨p, c, rfl⟩ := putsW_shape hp
 rw [bufPuts_len] at hp ⊢
 exact ⟨p, c, rfl, hp.puts, hb⟩
theorem bufLenM (h : Hid (Sep W L w)) (i : Nat) {v : Value} {blocks most : Int} {s : List (Int × Bytes)} (hi : L[i]? = some (BufA v blocks most s)) (hg : BufG blocks s) (hb : blocks ≤ 1048576) (hl : s.length ≤ 1000000) :
  Calls Tryz.prog 63 #[v] w fun e w' => e = .returned (.int .i64 s.length) ∧ Hid (Below w.heap.size w w') := by
 obtain ⟨F, hF, _⟩ := h.out.get i hi
 exact bufLen_any F v blocks most s w hF (hg.i64 hb) hl hg.d40
theorem putsBd {blocks : Int} {s : List (Int × Bytes)} (hg : BufG blocks s) (hb : blocks ≤ 1048576) : ∀ p ∈ bufPuts s, 0 ≤ p.lba ∧ p.lba ≤ 1048575 := fun p hp => by
 obtain ⟨k, hk, rfl⟩ := List.mem_map.1 hp
 have hk' : k ∈ s.map (·.1) := (List.mergeSort_perm _ _).subset hk
 obtain ⟨y, hy, rfl⟩ := List.mem_map.1 hk'
 have := hg.ks y hy
 simp only; omega
theorem bufSetM (h : Hid (Sep W L w)) (i : Nat) {v : Value} {blocks most : Int} {s : List (Int × Bytes)} (hi : L[i]? = some (BufA v blocks most s)) (hg : BufG blocks s) (hb : blocks ≤ 1048576) (hl : s.length ≤ 40000) :
  Calls Tryz.prog 103 #[v] w fun e w' => ∃ b : Nat, e = .returned (.pointer (some ⟨b, 0, none⟩)) ∧ Hid (Below w.heap.size w w') ∧ Hid (Sep W (L ++ [SetA (.pointer (some ⟨b, 0, none⟩)) (bufPuts s).length (normE (singles (bufPuts s)))]) w') := by
 refine (bufSet_gen v (bufPuts s) w ((bufPutsM h i hi hg hb (by omega)).mono fun e w' ⟨p, c, h1, h2, h3⟩ => ⟨_, h1, h2, h3⟩) (putsBd hg hb) (by rw [bufPuts_len]; exact hl)).mono ?_
 rintro e w' ⟨b, rfl, hm, hb⟩
 exact ⟨b, rfl, hb, h.out.new hb (SetA _ _ _) (fun _ h => h) hm⟩
end
end Go.Proofs
namespace Go.Proofs
open Go.RowKit Sc
theorem infoTx : (Tryz.prog.info? 70).map (fun i => (i.zero, i.size, i.bytes)) = some (some (.agg #[.int .i64 0, .slice none 0 0]), 2, 32) := by kernel_rfl
section
variable {W w : World} {L : List Asn} {i : Nat} {c : MgC} {s : MgS}
theorem mgr_qcell (h : Sep W (OL L i (mgrItems c s)) w) {j : Nat} (hj : j < s.queue.length) : ∃ g cp, c.qv = .slice (some ⟨g, 0, none⟩) s.queue.length cp ∧ w.cell? ⟨g, j, none⟩ = some (.int .i64 s.queue[j]) := by
 have hi4 : (OL L i (mgrItems c s))[L.length + 4]? = some (RowA 3 1 c.qv s.queue.length (s.queue.map (Value.int .i64))) := OL_get.trans (items_head 4 (by omega))
 obtain ⟨F, hF, _⟩ := h.get (L.length + 4) hi4
 obtain ⟨_, ⟨e, hn⟩ | ⟨g, cap, cur, e, _⟩⟩ := hF.1
 ·omega
 ·refine ⟨g, cap, e, ?_⟩
  have hc := hF.1
  rw [e] at hc
  have := hc.cellAt j (by omega)
  rw [this, List.getElem?_map, List.getElem?_eq_getElem hj]; rfl
theorem tm_i64 {n : Nat} (g : MgG n s) {h : Int} (hh : h ∈ s.queue) : I64 (txAt s.txs h).tm := by
 have h1 := g.qb h hh
 have h2 := g.lt
 unfold I64; omega
set_option maxRecDepth 100000 in
set_option maxHeartbeats 4000000 in
theorem waiting_core (h : Hid (Sep W (OL L i (mgrItems c s)) w)) (hc : c.cs.length = s.txs.length) {n : Nat} (g : MgG n s) (hn : s.queue.length ≤ 1000000) :
  Calls Tryz.prog 67 #[.pointer (some ⟨c.mb, 0, none⟩)] w fun e w' => ∃ p cp, e = .returned (.slice p s.queue.length cp) ∧ s.queue.length ≤ cp ∧ Hid (TxsAt (New w w') w' (.slice p s.queue.length cp) (waitL s)) ∧ Hid (Below w.heap.size w w') := by
 obtain ⟨c0, c1, c2, c3, c4, c5, c6, c7, c8, c9⟩ := mgr_cells h.out
 obtain ⟨qp, qc, hq0, hql⟩ := mgr_queue h.out
 rw [hq0] at c3
 obtain ⟨ii, hii, hiz, hiy, hix⟩ := info_parts infoTx
 have HG : Hid (MgG n s) := g
 have HQ0 := Lib.hid hq0
 clear hq0 g c0 c1 c4 c5 c6 c7 c8 c9
 go_enter Tryz.func67, Tryz.ntmps67
 go_wp2_with fail
 go_loopw [2, 11] (fun s2 s11 wr => ∃ k : Nat, ∃ p cp D, k ≤ s.queue.length ∧ s11 = .int .i64 k ∧ s2 = .slice p k cp ∧ Hid (k ≤ cp) ∧ Hid (OutS 70 2 txR w.heap.size wr (.slice p k cp) ((waitL s).take k) D) ∧ Hid (Below w.heap.size w wr)) (fun _ s11 _ => s.queue.length - (intOf s11).toNat)
 case atStart => exact ⟨0, _, _, _, by omega, by go_num, rfl, Nat.le_refl _, Lib.hid (by rw [List.take_zero]; exact OutS.nil), Lib.hid (Below.refl _ _)⟩
 case round =>
  obtain ⟨k, op, oc, D, hk, rfl, rfl, HOC, HO, HB⟩ := hrel
  by_cases hlt : k < s.queue.length
  case neg =>
   obtain rfl : k = s.queue.length := by omega
   have hO := HO.out
   rw [List.take_of_length_le (by rw [waitL_len]; exact Nat.le_refl _)] at hO
   have hfin : TxsAt (New w wr) wr (.slice op s.queue.length oc) (waitL s) := hO.txs fun b h1 h2 => ⟨h1, h2⟩
   have HFIN := Lib.hid hfin
   clear hfin
   clear hO
   go_wp2
   go_ret
   exact ⟨op, oc, rfl, HOC.out, HFIN, HB⟩
  case pos =>
   have hS := h.out.up HB.out
   obtain ⟨gq, cq, hqv, hcell⟩ := mgr_qcell hS hlt
   rw [HQ0.out] at hqv
   cases hqv
   have hqm := List.getElem_mem hlt
   obtain ⟨hq1, hq2⟩ := HG.out.qr _ hqm
   have hti := tm_i64 HG.out hqm
   obtain ⟨q, hq⟩ : ∃ q : Nat, s.queue[k] = (q : Int) + 1 := ⟨(s.queue[k] - 1).toNat, by omega⟩
   have hqs : q < s.txs.length := by omega
   have hqc : q < c.cs.length := by omega
   have hl := (mgr_map hS).lookup Tryz.underlying104 Tryz.underlying3 (Tryz.zeroValue111 wr) ((q : Int) + 1) false
   rw [look_ml hqc] at hl
   simp only [Option.getD_some, Bool.false_eq_true, if_false] at hl
   have hcl := (tx_cells hS hc hqs).1
   have t1 := hcl 1
   have t4 := hcl 4
   change _ = some (Value.int .i64 s.txs[q].tm) at t1
   change _ = some (Value.pointer (some ⟨(c.cs[q]).bb, 0, none⟩)) at t4
   have m2 := cell_up HB.out c2
   have m3 := cell_up HB.out c3
   have htx := HG.out.tx _ (List.getElem_mem hqs)
   have hwl : (waitL s).take (k + 1) = (waitL s).take k ++ [⟨s.txs[q].tm, bufPuts s.txs[q].buf⟩] := by
    rw [take_snoc _ _ (by rw [waitL_len]; exact hlt)]
    congr 2
    unfold waitL
    rw [List.getElem_map]
    unfold waitTx
    rw [hq, txOf_at hqs]
   rw [hq] at hcell hti
   rw [← txOf_txAt, txOf_at hqs] at hti
   have hPU := bufPutsM (w := wr.drew) (hS.up (below_drewN (Below.refl wr.heap.size wr) 1)) (L.length + (5 + (4 * q + 1))) (OL_get.trans (items_tx hc hqs 1 (by omega))) htx.bg HG.out.b2 (by have := htx.bl; omega)
   have hbl : (bufPuts s.txs[q].buf).length = s.txs[q].buf.length := bufPuts_len _
   have htb : (c.cs[q]).tb < w.heap.size := (Array.getElem?_eq_some_iff.1 (tx_heap h.out hc hqs)).1
   generalize (c.cs[q]).bb = bb at *
   generalize (c.cs[q]).tb = tb at *
   generalize s.txs[q].tm = tm at *
   generalize s.txs[q].buf = bf at *
   have HPU := Lib.hid hPU
   have HWL := Lib.hid hwl
   have HTI := Lib.hid hti
   have HBL := Lib.hid hbl
   clear hPU hwl hti hbl
   clear hS hcl htx hq hq1 hq2 hqm
   go_upto_region 5 with fail
   refine wp_regionG (fun W => W.cell? ⟨tb, 1, none⟩ = some (.int .i64 tm) ∧ W.cell? ⟨tb, 4, none⟩ = some (.pointer (some ⟨bb, 0, none⟩))) (n := 14) (by kernel_rfl) (by kernel_rfl) ?_
   refine wpG.tk 0 ?_
   refine wpG.tk 1 ?_
   refine wpG.tk 2 ?_
   refine wpG.tk 3 ?_
   refine wpG.tk 4 ?_ (hy := by intro W hW; have hld0 := hW.1; go_simp; try with_reducible rfl)
   refine wpG.tk 5 ?_
   refine wpG.tk 6 ?_
   refine wpG.tk 7 ?_
   refine wpG.tk 8 ?_ (hy := by intro W hW; have hld0 := hW.2; go_simp; try with_reducible rfl)
   refine wpG.alone 9 rfl (by kernel_rfl) (by kernel_rfl) (⟨t1, t4⟩) (fun K hK => ?_)
   go_simp
   go_at_call 77
   refine (HPU.out).mono ?_
   rintro e w2 ⟨pp, pc, rfl, HP2, HB2⟩
   have n1 := cell_up HB2.out t1
   have n4 := cell_up HB2.out t4
   try go_simp
   refine hK _ _ ?_
   clear hK K
   refine wpG.tk 10 ?_
   refine wpG.alone 11 rfl (by kernel_rfl) (by kernel_rfl) ⟨n1, n4⟩ (fun K hK => ?_)
   go_simp
   have hA := heap_alloc_new w2 (.cells #[.int .i64 tm, .slice pp bf.length pc] 70)
   have hbA := below_alloc w2 (.cells #[.int .i64 tm, .slice pp bf.length pc] 70)
   have hBA : Below wr.heap.size wr (w2.alloc (.cells #[.int .i64 tm, .slice pp bf.length pc] 70)) := Below.up (Below.up (below_drewN (Below.refl wr.heap.size wr) 1) HB2.out) hbA
   have htl : ((waitL s).take k).length = k := by rw [List.length_take, waitL_len]; omega
   have hz2 : wr.heap.size ≤ w2.heap.size := (Below.up (below_drewN (Below.refl wr.heap.size wr) 1) HB2.out).size
   have hown := (HO.out.own).choose_spec.lt
   have hp3 := PutsAt.up HP2.out hbA
   obtain ⟨gg, cap, w6, hr6, hO6, hg6, hlow, hcap⟩ := (HO.out.up txR_stable hBA).push (P := Tryz.prog) txR_stable 40 40 ii _ 32 Tryz.underlying40 hii hiz hiy hix rfl (by decide) (D3 := New wr.drew w2) (cs := [.int .i64 tm, .slice pp bf.length pc]) (x := ⟨tm, bufPuts bf⟩) rfl ⟨_, rfl, HTI.out, hp3⟩
    (fun b hb => ⟨by have := hb.1; have := HB.out.size; have e : wr.drew.heap.size = wr.heap.size := rfl; omega, by have := hb.2; have := hbA.size; omega, fun e => by have := (hown b e).2; have := hb.1; have e2 : wr.drew.heap.size = wr.heap.size := rfl; omega⟩) ⟨w2.heap.size, 0, none⟩ 1 (World.news_of_block (cs := #[.int .i64 tm, .slice pp bf.length pc]) hA) (by simp [Value.oneCell']) (by rw [htl]; unfold maxLen; omega) (by rw [htl]; omega) (by have := HB.out.size; have := hbA.size; omega)
   rw [htl] at hr6 hO6 hcap
   have hB6 : Below w.heap.size w w6 := (Below.up HB.out hBA).grown hg6 (by have := HB.out.size; have := hBA.size; omega) hlow
   have z1 : w6.cell? ⟨tb, 1, none⟩ = some (.int .i64 tm) := (World.cell?_of_block (hg6.block tb (by have := HB.out.size; have := hBA.size; omega) (fun e => by have := hlow tb e.symm; omega))).trans (cell_up hbA n1)
   have z4 : w6.cell? ⟨tb, 4, none⟩ = some (.pointer (some ⟨bb, 0, none⟩)) := (World.cell?_of_block (hg6.block tb (by have := HB.out.size; have := hBA.size; omega) (fun e => by have := hlow tb e.symm; omega))).trans (cell_up hbA n4)
   have a1 := cell_up hbA n1
   have a4 := cell_up hbA n4
   rw [← HWL.out] at hO6
   have HO6 := Lib.hid hO6
   have HB6 := Lib.hid hB6
   have HCAP := Lib.hid hcap
   clear hO6 hB6 hcap
   clear hA hBA htl hz2 hown hp3 hg6 hlow hbA
   try go_simp
   refine hK _ _ ?_
   clear hK K
   refine wpG.alone 12 rfl (by kernel_rfl) (by kernel_rfl) ⟨a1, a4⟩ (fun K hK => ?_)
   refine wp_append_run (.tmp 21) (.tmp 32) 40 rfl rfl rfl hr6 ?_
   try go_simp
   refine hK _ _ ?_
   clear hK K
   refine wpG.tk 13 ?_
   refine wpG.done (by kernel_rfl) ⟨z1, z4⟩ ?_
   go_wp2_with fail
   go_roundw
   case rel => exact ⟨k + 1, _, _, _, by omega, by go_num, rfl, HCAP, HO6, HB6⟩
   case measure => simp [intOf]; omega
end
end Go.Proofs
namespace Go.Proofs
open Go.RowKit Sc
theorem check_sep {W w : World} {L : List Asn} (h : Hid (Sep W L w)) (im ir iw : Nat) {mv qv rv wv : Value} {blocks last m1 m2 : Int} {vs : Vers} {r l : List Ext} {queue : List Tx} {G : Nat → Prop} (t : Int)
  (hm : L[im]? = some (ExtA mv blocks last vs)) (hr : L[ir]? = some (SetA rv m1 r)) (hl : L[iw]? = some (SetA wv m2 l)) (h1 : 1 ≤ blocks) (hb : blocks ≤ 1048576) (hg : GoodE blocks last vs) (hG : Dom G w) (hq : TxsAt G w qv queue) (gr : SetG r) (gl : SetG l) (nr : r.length ≤ 1000000) (nl : l.length ≤ 1000000) :
  Calls Tryz.prog 101 #[mv, qv, .int .i64 t, rv, wv] w fun e w' => e = .returned (.int .i64 (checkCode vs queue t r l)) ∧ Hid (Below w.heap.size w w') ∧ Hid (Sep W L w') := by
 obtain ⟨F1, f1, _⟩ := h.out.get im hm
 obtain ⟨F2, f2, _⟩ := h.out.get ir hr
 obtain ⟨F3, f3, _⟩ := h.out.get iw hl
 refine (check_any F1 F2 F3 G mv qv rv wv blocks last t m1 m2 vs queue r l w f1 h1 hg hb hG hq f2 f3 gr gl nr nl).mono ?_
 rintro e w' ⟨rfl, hb⟩
 exact ⟨rfl, hb, h.out.up hb⟩
end Go.Proofs
namespace Go.Proofs
open Go.RowKit Sc
section
variable {W w : World} {L : List Asn} {i : Nat} {c : MgC} {s : MgS}
theorem setB_good {blocks : Int} {n : Nat} {t : TxS} (g : TxG blocks n t) (hb : blocks ≤ 1048576) : SetG (setB t) ∧ (setB t).length ≤ 16 := by
 have h := normE_good' (singles_oke (putsBd g.bg hb))
 refine ⟨h.1, Nat.le_trans h.2.2 ?_⟩
 unfold singles
 rw [List.length_map, bufPuts_len]
 exact g.bl
theorem TxsAt.mono {G G' : Nat → Prop} {w : World} {v : Value} {l : List Tx} (h : TxsAt G w v l) (hg : ∀ b, G b → G' b) : TxsAt G' w v l :=
 SlAt.mono h hg fun _ _ _ ⟨h1, h2, v, h3, h4⟩ => ⟨h1, h2, v, h3, PutsAt.mono h4 hg⟩
theorem app_get {α : Type} {L : List α} {A : α} : (L ++ [A])[L.length]? = some A := by rw [List.getElem?_append_right (Nat.le_refl _), Nat.sub_self]; rfl
theorem app_old {α : Type} {L : List α} {A B : α} {j : Nat} (h : L[j]? = some A) : (L ++ [B])[j]? = some A := by
 rw [List.getElem?_append_left (List.getElem?_eq_some_iff.1 h).1]; exact h
set_option maxRecDepth 100000 in
set_option maxHeartbeats 4000000 in
theorem may_core (h : Hid (Sep W (OL L i (mgrItems c s)) w)) (hc : c.cs.length = s.txs.length) {n : Nat} (g : MgG n s) (hn : s.queue.length ≤ 1000000) {k : Nat} (hks : k < s.txs.length) :
  Calls Tryz.prog 65 #[.pointer (some ⟨c.mb, 0, none⟩), .pointer (some ⟨(c.cs[k]'(by omega)).tb, 0, none⟩)] w fun e w' => e = .returned (.int .i64 (mayC s s.txs[k])) ∧ Hid (Below w.heap.size w w') := by
 have hkc : k < c.cs.length := by omega
 obtain ⟨c0, c1, c2, c3, c4, c5, c6, c7, c8, c9⟩ := mgr_cells h.out
 have hcl := (tx_cells h.out hc hks).1
 have t3 := hcl 3
 have t4 := hcl 4
 have t5 := hcl 5
 change _ = some (Value.int .i64 s.txs[k].at') at t3
 change _ = some (Value.pointer (some ⟨(c.cs[k]).bb, 0, none⟩)) at t4
 change _ = some (Value.pointer (some ⟨(c.cs[k]).vb, 0, none⟩)) at t5
 have htx := g.tx _ (List.getElem_mem hks)
 have HGD := Lib.hid (setB_good htx g.b2)
 have HG : Hid (MgG n s) := g
 have HTX : Hid (TxG s.blocks n s.txs[k]) := htx
 clear hcl c1 c2 c3 c4 c5 c6 c7 g htx
 cases hro : s.ro with
 | true =>
  have HR : Hid (mayC s s.txs[k] = 10) := if_pos hro
  rw [hro] at c9
  clear hro
  go_enter Tryz.func65, Tryz.ntmps65
  go_wp2
  go_ret
  exact ⟨by rw [HR.out]; rfl, Below.refl _ _⟩
 | false =>
  have HR : Hid (mayC s s.txs[k] = if checkCode s.vs (waitL s) s.txs[k].at' s.txs[k].S (setB s.txs[k]) ≠ 0 then checkCode s.vs (waitL s) s.txs[k].at' s.txs[k].S (setB s.txs[k]) else if 1099511627776 ≤ s.given then 11 else 0) := if_neg (by rw [hro]; decide)
  rw [hro] at c9
  clear hro
  have hd : Hid (Sep W (OL L i (mgrItems c s)) w.drew) := h.out.up (below_drewN (Below.refl w.heap.size w) 1)
  have HB1 : Hid (Below w.heap.size w w.drew) := below_drewN (Below.refl w.heap.size w) 1
  have HWT := Lib.hid (waiting_core hd hc HG.out hn)
  go_enter Tryz.func65, Tryz.ntmps65
  go_wp2_with fail
  go_upto_region 3 with fail
  refine wp_regionG (fun W => Below w.heap.size w W) (n := 22) (by kernel_rfl) (by kernel_rfl) ?_
  refine wpG.tk 0 ?_
  refine wpG.tk 1 ?_
  refine wpG.tk 2 ?_
  refine wpG.tk 3 ?_ (hy := by intro W hW; have hld0 := cell_up hW c0; go_simp; try with_reducible rfl)
  refine wpG.tk 4 ?_
  refine wpG.tk 6 ?_
  refine wpG.tk 7 ?_
  refine wpG.tk 8 ?_
  refine wpG.tk 9 ?_ (hy := by intro W hW; have hld0 := cell_up hW t3; go_simp; try with_reducible rfl)
  refine wpG.tk 10 ?_
  refine wpG.tk 11 ?_
  refine wpG.tk 12 ?_
  refine wpG.tk 13 ?_ (hy := by intro W hW; have hld0 := cell_up hW t5; go_simp; try with_reducible rfl)
  refine wpG.tk 15 ?_
  refine wpG.tk 16 ?_
  refine wpG.tk 17 ?_
  refine wpG.tk 18 ?_ (hy := by intro W hW; have hld0 := cell_up hW t4; go_simp; try with_reducible rfl)
  refine wpG.alone 5 rfl (by kernel_rfl) (by kernel_rfl) (HB1.out) (fun K hK => ?_)
  go_simp
  go_at_call 67
  refine (HWT.out).mono ?_
  rintro e w2 ⟨qp, qc, rfl, hqc, HTX2, HB2⟩
  have HS2 := Lib.hid (hd.out.up HB2.out)
  have HB02 := Lib.hid (Below.up HB1.out HB2.out)
  try go_simp
  refine hK _ _ ?_
  clear hK K
  refine wpG.alone 14 rfl (by kernel_rfl) (by kernel_rfl) (HB02.out) (fun K hK => ?_)
  go_simp
  go_at_call 102
  refine (viewSet_sep HS2 (L.length + (5 + (4 * k + 3))) (L.length + (5 + (4 * k + 2))) (OL_get.trans (items_tx hc hks 3 (by omega))) (OL_get.trans (items_tx hc hks 2 (by omega))) HTX.out.sg (HTX.out.sb.all HG.out.b2) HTX.out.sl).mono ?_
  rintro e w3 ⟨b1, rfl, HB3, HS3⟩
  have HB03 := Lib.hid (Below.up HB02.out HB3.out)
  try go_simp
  refine hK _ _ ?_
  clear hK K
  refine wpG.alone 19 rfl (by kernel_rfl) (by kernel_rfl) (HB03.out) (fun K hK => ?_)
  go_simp
  go_at_call 103
  refine (bufSetM HS3 (L.length + (5 + (4 * k + 1))) (app_old (OL_get.trans (items_tx hc hks 1 (by omega)))) HTX.out.bg HG.out.b2 (by have := HTX.out.bl; omega)).mono ?_
  rintro e w4 ⟨b2, rfl, HB4, HS4⟩
  have HB04 := Lib.hid (Below.up HB03.out HB4.out)
  have HQ4 : Hid (TxsAt (Old w4) w4 (.slice qp s.queue.length qc) (waitL s)) := Go.Proofs.TxsAt.mono (TxsAt.up (TxsAt.up HTX2.out HB3.out) HB4.out) fun q hq => by
   have a1 := hq.2
   have a3 := HB3.out.size
   have a4 := HB4.out.size
   show q < w4.heap.size
   omega
  try go_simp
  refine hK _ _ ?_
  clear hK K
  refine wpG.alone 20 rfl (by kernel_rfl) (by kernel_rfl) (HB04.out) (fun K hK => ?_)
  go_simp
  go_at_call 101
  refine (check_sep HS4 (L.length + 1) (OL L i (mgrItems c s)).length ((OL L i (mgrItems c s)) ++ [SetA (.pointer (some ⟨b1, 0, none⟩)) 64 s.txs[k].S]).length s.txs[k].at' (app_old (app_old (OL_get.trans (items_head 1 (by omega))))) (app_old app_get) app_get HG.out.b1 HG.out.b2 HG.out.ge (fun _ h => h) HQ4.out HTX.out.sg HGD.out.1 (by have := HTX.out.sl; omega) (by have h2 : (normE (singles (bufPuts s.txs[k].buf))).length ≤ 16 := HGD.out.2; omega)).mono ?_
  rintro e w5 ⟨rfl, HB5, HS5⟩
  have HB05 := Lib.hid (Below.up HB04.out HB5.out)
  try go_simp
  refine hK _ _ ?_
  clear hK K
  refine wpG.tk 21 ?_
  refine wpG.done (by kernel_rfl) HB05.out ?_
  have d8 := cell_up HB05.out c8
  change Hid (mayC s s.txs[k] = if checkCode s.vs (waitL s) s.txs[k].at' s.txs[k].S (normE (singles (bufPuts s.txs[k].buf))) ≠ 0 then checkCode s.vs (waitL s) s.txs[k].at' s.txs[k].S (normE (singles (bufPuts s.txs[k].buf))) else if 1099511627776 ≤ s.given then 11 else 0) at HR
  generalize checkCode s.vs (waitL s) s.txs[k].at' s.txs[k].S (normE (singles (bufPuts s.txs[k].buf))) = code at *
  by_cases hcd : code = 0
  case neg =>
   have HR2 : Hid (mayC s s.txs[k] = code) := by show _ = _; rw [HR.out, if_pos hcd]
   have hcz : (code != 0) = true := by rw [bne_iff_ne]; exact hcd
   clear hcd
   go_wp2
   go_ret
   exact ⟨by rw [HR2.out]; rfl, HB05⟩
  case pos =>
   subst hcd
   by_cases hgv : 1099511627776 ≤ s.given
   ·have HR2 : Hid (mayC s s.txs[k] = 11) := by show _ = _; rw [HR.out, if_neg (by simp), if_pos hgv]
    go_wp2
    go_ret
    exact ⟨by rw [HR2.out]; rfl, HB05⟩
   ·have HR2 : Hid (mayC s s.txs[k] = 0) := by show _ = _; rw [HR.out, if_neg (by simp), if_neg hgv]
    go_wp2
    go_ret
    exact ⟨by rw [HR2.out]; rfl, HB05⟩
end
end Go.Proofs
namespace Go.Proofs
open Go.RowKit Sc
theorem infoInt64 : (Tryz.prog.info? 3).map (fun i => (i.zero, i.size, i.bytes)) = some (some (.int .i64 0), 1, 8) := by kernel_rfl
section
variable {W w : World} {L : List Asn} {i : Nat} {c : MgC} {s : MgS}
theorem cm_at {k : Nat} (hks : k < s.txs.length) (hst : s.txs[k].st = 1) : openB s ((k : Int) + 1) = true := by rw [openB_at hks, hst]; rfl
theorem cm_wait_items {q : Value} {k : Nat} (hks : k < s.txs.length) {B R : Asn} (hB : B = BoxA c.mb (mgrRow { c with qv := q } (cmWait s ((k : Int) + 1))) 106) (hR : R = RowA 3 1 q (s.queue.length + 1) (s.queue.map (Value.int .i64) ++ [.int .i64 ((k : Int) + 1)])) :
  ((mgrItems c { s with given := s.given + 1, txs := s.txs.set k { s.txs[k] with st := 2, tm := s.given + 1 } }).set 4 R).set 0 B = mgrItems { c with qv := q } (cmWait s ((k : Int) + 1)) := by
 subst hB
 subst hR
 have e : cmWait s ((k : Int) + 1) = { s with given := s.given + 1, queue := s.queue ++ [(k : Int) + 1], txs := s.txs.set k { s.txs[k] with st := 2, tm := s.given + 1 } } := by
  unfold cmWait
  rw [txOf_at hks, setTx_at]
 rw [e]
 have e2 : RowA 3 1 q (s.queue.length + 1) (s.queue.map (Value.int .i64) ++ [.int .i64 ((k : Int) + 1)]) = RowA 3 1 q (s.queue ++ [(k : Int) + 1]).length ((s.queue ++ [(k : Int) + 1]).map (Value.int .i64)) := by simp
 rw [e2]
 rfl
set_option maxRecDepth 100000 in
set_option maxHeartbeats 4000000 in
theorem commit_core (h : Hid (Sep W (OL L i (mgrItems c s)) w)) (hc : c.cs.length = s.txs.length) {n : Nat} (g : MgG n s) (hn : s.queue.length ≤ 1000000) (hd : Int) :
  Calls Tryz.prog 22 #[.pointer (some ⟨c.mb, 0, none⟩), .int .i64 hd] w fun e w' => e = .returned (.int .i64 (cmCode s hd)) ∧ ∃ q : Value, Hid (Sep W (OL L i (mgrItems { c with qv := q } (cmNext s hd))) w') := by
 have HG : Hid (MgG n s) := g
 clear g
 go_enter Tryz.func22, Tryz.ntmps22
 go_wp2_with fail
 refine (open_core h hc hd).mono ?_
 rintro e w1 ⟨rfl, ⟨ho, rfl⟩ | ⟨k, hks, hkc, rfl, hst, rfl⟩⟩
 case inl =>
  have HO : Hid (cmCode s hd = 5 ∧ cmNext s hd = s) := ⟨by unfold cmCode; rw [ho]; rfl, by unfold cmNext; rw [ho]; rfl⟩
  clear ho
  go_wp2
  go_ret
  exact ⟨by rw [HO.out.1]; rfl, c.qv, by rw [HO.out.2]; exact h⟩
 case inr =>
 have ho := cm_at hks hst
 have htx := HG.out.tx _ (List.getElem_mem hks)
 have hcl := tx_cells h.out hc hks
 have t4 := hcl.1 4
 have t3 := hcl.1 3
 change _ = some (Value.pointer (some ⟨(c.cs[k]).bb, 0, none⟩)) at t4
 change _ = some (Value.int .i64 s.txs[k].at') at t3
 have HLN := Lib.hid (bufLenM h (L.length + (5 + (4 * k + 1))) (OL_get.trans (items_tx hc hks 1 (by omega))) htx.bg HG.out.b2 (by have := htx.bl; omega))
 have HTX : Hid (TxG s.blocks n s.txs[k]) := htx
 have HO : Hid (openB s ((k : Int) + 1) = true) := ho
 clear htx ho hcl
 go_wp2_with fail
 refine (HLN.out).mono ?_
 rintro e w2 ⟨rfl, HB2⟩
 have HS2 := Lib.hid (h.out.up HB2.out)
 have u3 := cell_up HB2.out t3
 clear HLN t3 t4
 by_cases hz : s.txs[k].buf.length = 0
 case pos =>
  have HR : Hid (cmCode s ((k : Int) + 1) = 0 ∧ cmNext s ((k : Int) + 1) = endNext { s with txs := s.txs.set k { s.txs[k] with tm := s.txs[k].at' } } ((k : Int) + 1) 3 0) := by
   refine ⟨?_, ?_⟩
   ·unfold cmCode; rw [if_pos HO.out, txOf_at hks, if_pos hz]
   ·unfold cmNext; rw [if_pos HO.out, txOf_at hks, if_pos hz, setTx_at]
  have hcl2 := tx_cells HS2.out hc hks
  have f1 := hcl2.2 1
  have t1 := hcl2.1 1
  change _ = some (Value.int .i64 s.txs[k].tm) at t1
  have hS3 := tx_store HS2.out hc hks 1 (Value.int .i64 s.txs[k].at') { s.txs[k] with tm := s.txs[k].at' } rfl rfl rfl rfl rfl
  have hc3 : c.cs.length = (s.txs.set k { s.txs[k] with tm := s.txs[k].at' }).length := by rw [List.length_set]; exact hc
  have HE := Lib.hid (end_core (Lib.hid hS3) hc3 (k := k) (by simpa using hks) 3 0)
  clear hcl2 hS3
  rw [hz]
  clear hz
  go_wp2_with fail
  refine (HE.out).mono ?_
  rintro e w3 ⟨rfl, HS3⟩
  go_wp2
  go_ret
  exact ⟨by rw [HR.out.1]; rfl, c.qv, by rw [HR.out.2]; exact HS3⟩
 case neg =>
  have hzn : ¬ ((s.txs[k].buf.length : Int) = 0) := by omega
  have hzb : ((s.txs[k].buf.length : Int) == 0) = false := by rw [beq_eq_false_iff_ne]; exact hzn
  have HR : Hid (cmCode s ((k : Int) + 1) = mayC s s.txs[k] ∧ cmNext s ((k : Int) + 1) = if mayC s s.txs[k] ≠ 0 then endNext s ((k : Int) + 1) 4 (mayC s s.txs[k]) else cmWait s ((k : Int) + 1)) := by
   refine ⟨?_, ?_⟩
   ·unfold cmCode; rw [if_pos HO.out, txOf_at hks, if_neg hz]
   ·unfold cmNext; rw [if_pos HO.out, txOf_at hks, if_neg hz]
  have HM := Lib.hid (may_core HS2 hc HG.out hn hks)
  clear hz
  go_wp2_with fail
  refine (HM.out).mono ?_
  rintro e w3 ⟨rfl, HB3⟩
  have HS3 := Lib.hid (HS2.out.up HB3.out)
  clear HM u3 hzn hzb
  by_cases hm : mayC s s.txs[k] = 0
  case neg =>
   have HR2 : Hid (cmNext s ((k : Int) + 1) = endNext s ((k : Int) + 1) 4 (mayC s s.txs[k])) := by show _ = _; rw [HR.out.2, if_pos hm]
   have HR1 : Hid (cmCode s ((k : Int) + 1) = mayC s s.txs[k]) := HR.out.1
   clear HR
   generalize mayC s s.txs[k] = code at *
   have hcz : (code != 0) = true := by rw [bne_iff_ne]; exact hm
   have HE := Lib.hid (end_core HS3 hc hks 4 code)
   clear hm
   go_wp2_with fail
   refine (HE.out).mono ?_
   rintro e w4 ⟨rfl, HS4⟩
   go_wp2
   go_ret
   exact ⟨by rw [HR1.out]; rfl, c.qv, by rw [HR2.out]; exact HS4⟩
  case pos =>
   have HR2 : Hid (cmNext s ((k : Int) + 1) = cmWait s ((k : Int) + 1)) := by show _ = _; rw [HR.out.2, if_neg (by rw [hm]; simp)]
   have HR1 : Hid (cmCode s ((k : Int) + 1) = 0) := by show _ = _; rw [HR.out.1, hm]
   have hgv := (mayC_zero hm).2.2
   have hg0 : 0 ≤ s.given := by have := HG.out.lt; omega
   rw [hm]
   clear HR hm
   obtain ⟨c0, _, _, c3, _, _, _, _, c8, _⟩ := mgr_cells HS3.out
   have f8 := mgr_free HS3.out 8
   have hS4 := mgr_store HS3.out 8 (.int .i64 (s.given + 1)) { s with given := s.given + 1 } rfl rfl rfl rfl rfl rfl rfl rfl
   obtain ⟨_, _, _, _, _, _, _, _, d8, _⟩ := mgr_cells hS4
   have hcl4 := tx_cells hS4 hc hks
   have t0 := hcl4.1 0
   have t1 := hcl4.1 1
   change _ = some (Value.int .i64 s.txs[k].st) at t0
   change _ = some (Value.int .i64 s.txs[k].tm) at t1
   have f0 := hcl4.2 0
   have f1 := hcl4.2 1
   have hS5 := tx_store hS4 hc hks 0 (Value.int .i64 2) { s.txs[k] with st := 2 } rfl rfl rfl rfl rfl
   have hc5 : c.cs.length = (s.txs.set k { s.txs[k] with st := 2 }).length := by rw [List.length_set]; exact hc
   have hS6 := tx_store hS5 hc5 (k := k) (by simpa using hks) 1 (Value.int .i64 (s.given + 1)) { s.txs[k] with st := 2, tm := s.given + 1 } (by simp [txRow]) (by simp) (by simp) (by simp) (by simp)
   simp only [List.set_set] at hS6
   obtain ⟨_, _, _, e3, _⟩ := mgr_cells hS6
   obtain ⟨qp, qc, hq0, hql⟩ := mgr_queue hS6
   obtain ⟨ii, hii, hiz, hiy, hix⟩ := info_parts infoInt64
   have hi4 : (OL L i (mgrItems c { s with given := s.given + 1, txs := s.txs.set k { s.txs[k] with st := 2, tm := s.given + 1 } }))[L.length + 4]? = some (RowA 3 1 c.qv s.queue.length (s.queue.map (Value.int .i64))) := OL_get.trans (items_head 4 (by omega))
   have hz6 : (((w3.setCell ⟨c.mb, 8, none⟩ (.int .i64 (s.given + 1))).setCell ⟨(c.cs[k]).tb, 0, none⟩ (.int .i64 2)).setCell ⟨(c.cs[k]).tb, 1, none⟩ (.int .i64 (s.given + 1))).heap.size = w3.heap.size := by simp [World.setCell]
   obtain ⟨gg, cap, w7, hr7, hS7⟩ := hS6.row_push (P := Tryz.prog) (L.length + 4) hi4 91 91 ii _ 8 Tryz.underlying91 hii hiz hiy hix rfl (by decide) (cs := #[.int .i64 ((k : Int) + 1)]) rfl (by simp [Value.oneCell']) (by unfold maxLen; omega) (by omega) w3.heap.size hz6
   rw [OL_set] at hS7
   have hi0 : (OL L i ((mgrItems c { s with given := s.given + 1, txs := s.txs.set k { s.txs[k] with st := 2, tm := s.given + 1 } }).set 4 (RowA 3 1 (.slice (some ⟨gg, 0, none⟩) (s.queue.length + 1) cap) (s.queue.length + 1) (s.queue.map (Value.int .i64) ++ [.int .i64 ((k : Int) + 1)]))))[L.length + 0]? = some (BoxA c.mb (mgrRow c { s with given := s.given + 1, txs := s.txs.set k { s.txs[k] with st := 2, tm := s.given + 1 } }) 106) := OL_get.trans rfl
   have hS8 := hS7.box_store (L.length + 0) hi0 3 (.slice (some ⟨gg, 0, none⟩) (s.queue.length + 1) cap)
   rw [OL_set] at hS8
   have hS9 : Sep W (OL L i (mgrItems { c with qv := .slice (some ⟨gg, 0, none⟩) (s.queue.length + 1) cap } (cmWait s ((k : Int) + 1)))) (w7.setCell ⟨c.mb, 3, none⟩ (.slice (some ⟨gg, 0, none⟩) (s.queue.length + 1) cap)) := (cm_wait_items (c := c) hks (q := .slice (some ⟨gg, 0, none⟩) (s.queue.length + 1) cap) rfl rfl) ▸ hS8
   obtain ⟨F0, hF0, _⟩ := hS7.get (L.length + 0) hi0
   have f3 : w7.frozen? ⟨c.mb, 3, none⟩ = false := frozen_row0 hF0.2 3
   have q3 : w7.cell? ⟨c.mb, 3, none⟩ = some c.qv := by rw [cell_row hF0.2]; rfl
   have HFIN := Lib.hid hS9
   clear hS4 hS5 hS6 hS7 hS8 hS9 hF0 hi0 hi4 hcl4
   rw [hq0] at c3 e3 hr7 q3
   have HQ0 := Lib.hid hq0
   clear hq0
   generalize (c.cs[k]).tb = tb at *
   go_wp2_with (at_builtin; refine wpList_append_run rfl _ _ 91 rfl rfl rfl hr7 ?_)
   go_ret
   exact ⟨by rw [HR1.out]; rfl, .slice (some ⟨gg, 0, none⟩) (s.queue.length + 1) cap, by rw [HR2.out]; exact HFIN⟩
end
end Go.Proofs
namespace Go.Proofs
open Go.RowKit Sc
theorem setB_in {blocks : Int} {n : Nat} {t : TxS} (g : TxG blocks n t) (hb : blocks ≤ 1048576) : InB blocks (setB t) := by
 have hbd : ∀ p ∈ bufPuts t.buf, 0 ≤ p.lba ∧ p.lba < blocks := fun p hp => by
  obtain ⟨k, hk, rfl⟩ := List.mem_map.1 hp
  have hk' : k ∈ t.buf.map (·.1) := (List.mergeSort_perm _ _).subset hk
  obtain ⟨y, hy, rfl⟩ := List.mem_map.1 hk'
  have := g.bg.ks y hy
  simp only; omega
 have ho := singles_oke (l := bufPuts t.buf) fun p hp => by have := hbd p hp; omega
 refine InB.of_cov (setB_good g hb).1.1 fun x hx => ?_
 have := (normE_good' ho).2.1 x |>.1 hx
 obtain ⟨e, he, h1, h2⟩ := this
 obtain ⟨p, hp, rfl⟩ := List.mem_map.1 he
 have := hbd p hp
 simp only at h1 h2
 omega
section
variable {W w : World} {L : List Asn} {i : Nat} {c : RmC} {s : MgS}
theorem cm_wait {k : Nat} (hks : k < s.txs.length) (ho : openB s ((k : Int) + 1) = true) (hb : s.txs[k].buf.length ≠ 0) (hm : mayC s s.txs[k] = 0) : cmCode s ((k : Int) + 1) = 0 ∧ cmNext s ((k : Int) + 1) = { s with given := s.given + 1, queue := s.queue ++ [(k : Int) + 1], txs := s.txs.set k { s.txs[k] with st := 2, tm := s.given + 1 } } := by
 unfold cmCode cmNext
 rw [if_pos ho, if_pos ho, txOf_at hks, if_neg hb, if_neg hb, hm]
 refine ⟨rfl, ?_⟩
 rw [if_neg (by decide)]
 unfold cmWait
 rw [txOf_at hks, setTx_at]
theorem RmOk.wait (hc : RmOk c s) {k : Nat} (hk : k < s.txs.length) (hkc : k < c.cs.length) (hq1 : ∀ h ∈ s.queue, 1 ≤ h) (hq : ∀ h ∈ s.queue, h ≠ (k : Int) + 1) (qv qh : Value) : RmOk { c with qv := qv, qh := qh, ql := c.ql ++ [(s.given + 1, c.cs[k].lv)] } { s with given := s.given + 1, queue := s.queue ++ [(k : Int) + 1], txs := s.txs.set k { s.txs[k] with st := 2, tm := s.given + 1 } } := by
 have h1 := hc.upd hk c.cs[k] { s.txs[k] with st := 2, tm := s.given + 1 } (hc.bufr k hk hkc) hq1 (fun x hx e => absurd e (hq x hx))
 rw [RmC.setX_self hkc] at h1
 refine ⟨h1.len, h1.mapr, h1.bufr, ?_⟩
 have h2 := h1.ql
 simp only at h2 ⊢
 rw [List.map_append, ← h2]
 congr 1
 have e1 : (txAt (s.txs.set k { s.txs[k] with st := 2, tm := s.given + 1 }) ((k : Int) + 1)).tm = s.given + 1 := by
  rw [txAt_nat (by simpa using hk)]
  simp
 show [(s.given + 1, c.cs[k].lv)] = [((txAt (s.txs.set k { s.txs[k] with st := 2, tm := s.given + 1 }) ((k : Int) + 1)).tm, (rxAt c.cs ((k : Int) + 1)).lv)]
 rw [e1, rxAt_at hkc]
theorem cm_end {k : Nat} {cd : Int} (hks : k < s.txs.length) (ho : openB s ((k : Int) + 1) = true) (hb : s.txs[k].buf.length ≠ 0) (hm : mayC s s.txs[k] = cd) (h0 : cd ≠ 0) : cmCode s ((k : Int) + 1) = cd ∧ cmNext s ((k : Int) + 1) = rendNext s k (rendTx s.txs[k] 4 0 cd) := by
 unfold cmCode cmNext
 rw [if_pos ho, if_pos ho, txOf_at hks, if_neg hb, if_neg hb, hm, if_pos h0]
 refine ⟨rfl, ?_⟩
 unfold endNext
 rw [txOf_at hks, setTx_at]; rfl
set_option maxRecDepth 100000 in
set_option maxHeartbeats 8000000 in
theorem rcommit_core (h : Hid (Sep W (OL L i (rmItems c s)) w)) (hc : RmOk c s) {N : Nat} (g : MgG N s) (hN : N ≤ 300000) (n : Int) (iN : I64 n) :
  Calls Tryz.prog 82 #[.pointer (some ⟨c.mb, 0, none⟩), .int .i64 n] w fun e w' => e = .returned (.int .i64 (cmCode s n)) ∧ ∃ c' : RmC, c'.mb = c.mb ∧ RmOk c' (cmNext s n) ∧ Hid (Sep W (OL L i (rmItems c' (cmNext s n))) w') := by
 have HC := Lib.hid hc
 have HG := Lib.hid g
 have hfollow : Tryz.prog.follows Departure.mixedOrders = true := by kernel_rfl
 go_enter Tryz.func82, Tryz.ntmps82
 go_wp2_with fail
 refine (ropen_core h hc (by have := g.hn; omega) n iN).mono ?_
 clear hc g
 rintro e w1 ⟨rfl, ⟨ho, rfl⟩ | ⟨k, hks, hkc, rfl, hst, rfl⟩⟩
 case inl =>
  have HO : Hid (cmCode s n = 5 ∧ cmNext s n = s) := ⟨by unfold cmCode; rw [ho]; rfl, by unfold cmNext; rw [ho]; rfl⟩
  clear ho
  go_wp2
  go_ret
  exact ⟨by rw [HO.out.1]; rfl, c, rfl, by rw [HO.out.2]; exact HC.out, by rw [HO.out.2]; exact h⟩
 case inr =>
  have ho : openB s ((k : Int) + 1) = true := by rw [openB_at hks, hst]; rfl
  have htx := HG.out.tx _ (List.getElem_mem hks)
  have HKN : Hid (k < 1000000) := Lib.hid (by have := HG.out.hn; omega)
  have hqn : ∀ x ∈ s.queue, x ≠ (k : Int) + 1 := fun x hx e => by
   have := (HG.out.qp x hx).1
   rw [e, txAt_nat hks, hst] at this
   omega
  have HEN := Lib.hid (fun st tm cd hv tv => HC.out.ends hks st tm cd (fun x hx => (HG.out.qr x hx).1) hqn hv tv)
  obtain ⟨hb2, hbp⟩ := rx_buf h.out HC.out.len hks hkc
  obtain ⟨hv2, sv, hv4, hsx⟩ := rx_view h.out HC.out.len hks hkc
  have t3 : w1.cell? ⟨c.cs[k].tb, 3, none⟩ = some (.pointer (some ⟨c.cs[k].vb, 0, none⟩)) := by rw [rx_cell h.out HC.out.len hks]; rfl
  have t4 : w1.cell? ⟨c.cs[k].tb, 4, none⟩ = some (.pointer (some ⟨c.cs[k].bb, 0, none⟩)) := by rw [rx_cell h.out HC.out.len hks]; rfl
  have hbr := HC.out.bufr k hks hkc
  have hrl := hbr.len
  obtain ⟨lp, lc, hlv⟩ := putsAt_shape hbp
  rw [hlv] at hb2
  have HLV := Lib.hid hlv
  have HBR := Lib.hid hbr
  have HTX := Lib.hid htx
  have HBP := Lib.hid hbp
  have HSX0 := Lib.hid hsx
  have HHO := Lib.hid ho
  have HST := Lib.hid hst
  have HQN := Lib.hid hqn
  clear hlv hbr htx hbp hsx ho hst hqn
  by_cases hz : s.txs[k].buf.length = 0
  case pos =>
   have HR : Hid (cmCode s ((k : Int) + 1) = 0 ∧ cmNext s ((k : Int) + 1) = rendNext s k (rendTx s.txs[k] 3 s.txs[k].at' 0)) := by
    refine ⟨?_, ?_⟩
    ·unfold cmCode; rw [if_pos HHO.out, txOf_at hks, if_pos hz]
    ·unfold cmNext
     rw [if_pos HHO.out, txOf_at hks, if_pos hz, setTx_at]
     unfold endNext
     have hk2 : k < ({ s with txs := s.txs.set k { s.txs[k] with tm := s.txs[k].at' } } : MgS).txs.length := by simpa using hks
     rw [txOf_at hk2, setTx_at]
     simp only [List.getElem_set_self, List.set_set]
     rfl
   rw [hrl, hz] at hb2
   have HE := Lib.hid (rend_core h HC.out.len hks HKN.out HG.out.kn HG.out.k6 3 s.txs[k].at' 0)
   have HRL := Lib.hid hrl
   have HZ := Lib.hid hz
   clear hrl hz
   go_wp2_with fail
   refine (HE.out).mono ?_
   rintro e w9 ⟨rfl, hv, tv, HS9⟩
   clear HE
   go_wp2
   go_ret
   exact ⟨by rw [HR.out.1]; rfl, { c with hv := hv, tv := tv }, rfl, by rw [HR.out.2]; exact HEN.out 3 s.txs[k].at' 0 hv tv, by rw [HR.out.2]; exact HS9⟩
  case neg =>
   have hzr : ¬ c.cs[k].rb.length = 0 := by omega
   have hzb : ((c.cs[k].rb.length : Int) == 0) = false := by rw [beq_eq_false_iff_ne]; omega
   have hzn : ¬ (c.cs[k].rb.length : Int) = 0 := by omega
   have HZ := Lib.hid hz
   have HRL := Lib.hid hrl
   clear hz hzr hrl
   have m12 : w1.cell? ⟨c.mb, 12, none⟩ = some (.bool s.ro) := by rw [rm_cell h.out]; rfl
   have hdefm : mayC s s.txs[k] = if s.ro = true then 10 else if checkCode s.vs (waitL s) s.txs[k].at' s.txs[k].S (setB s.txs[k]) ≠ 0 then checkCode s.vs (waitL s) s.txs[k].at' s.txs[k].S (setB s.txs[k]) else if 1099511627776 ≤ s.given then 11 else 0 := rfl
   obtain ⟨ro, hro⟩ : ∃ ro, s.ro = ro := ⟨_, rfl⟩
   rw [hro] at m12 hdefm
   have HRO := Lib.hid hro
   clear hro
   cases ro with
   | true =>
    rw [if_pos rfl] at hdefm
    have HR := Lib.hid (cm_end hks HHO.out HZ.out hdefm (by decide))
    have HSX := h
    clear hdefm
    have HE := Lib.hid (rend_core (Lib.hid HSX.out) HC.out.len hks HKN.out HG.out.kn HG.out.k6 4 0 10)
    clear HSX
    go_wp2_with fail
    refine (HE.out).mono ?_
    rintro e w9 ⟨rfl, hv, tv, HS9⟩
    clear HE
    go_wp2
    go_ret
    exact ⟨by rw [HR.out.1]; rfl, { c with hv := hv, tv := tv }, rfl, by rw [HR.out.2]; exact HEN.out 4 0 10 hv tv, by rw [HR.out.2]; exact HS9⟩
   | false =>
    rw [if_neg (by decide)] at hdefm
    have m0 : w1.cell? ⟨c.mb, 0, none⟩ = some (.pointer (some ⟨c.m, 0, none⟩)) := by rw [rm_cell h.out]; rfl
    obtain ⟨hqt, hq1c, hqll⟩ := rm_queue h.out HC.out HG.out
    obtain ⟨qp, qc, hqv⟩ : ∃ qp qc, c.qv = .slice qp (waitL s).length qc := by obtain ⟨p, cp, e, _⟩ := id hqt; exact ⟨p, cp, e⟩
    have m6 : w1.cell? ⟨c.mb, 6, none⟩ = some (.slice qp (waitL s).length qc) := by rw [rm_cell h.out, ← hqv]; rfl
    have m10 : w1.cell? ⟨c.mb, 10, none⟩ = some (.int .i64 s.given) := by rw [rm_cell h.out]; rfl
    rw [hqv] at hqt
    have hmm := rm_map h.out
    have hML : c.M.length ≤ 1000000 := by rw [HC.out.mapr.count HG.out.ge]; have := HG.out.nv; omega
    have hQL : (waitL s).length ≤ 1000000 := by
     rw [waitL_len]
     exact Nat.le_trans (HG.out.qlenV) (by omega)
    have hval := valid_check (t := s.txs[k].at') HG.out.ge HC.out.mapr HG.out.b2 (waitL s) HTX.out.sg.2 (fun e he => by have := HTX.out.sb e he; have := HG.out.b2; omega) (setB_good HTX.out HG.out.b2).1.2 (fun e he => by have := setB_in HTX.out HG.out.b2 e he; have := HG.out.b2; omega)
    have hbb : ∀ p ∈ c.cs[k].rb, 0 ≤ p.lba ∧ p.lba ≤ 1048575 := fun p hp => by
     rw [← HBR.out.puts] at hp
     obtain ⟨x, hx, rfl⟩ := List.mem_map.1 hp
     have hx' : x ∈ s.txs[k].buf.map (·.1) := (List.mergeSort_perm _ _).subset hx
     obtain ⟨y, hy, rfl⟩ := List.mem_map.1 hx'
     have := HTX.out.bg.ks y hy
     have := HG.out.b2
     simp only; omega
    have hsw : normE (singles c.cs[k].rb) = setB s.txs[k] := by unfold setB; rw [HBR.out.puts]
    have hbR : RBufP (pt c.cs[k].bb) s.blocks 16 c.cs[k].rb (fun q => q < w1.heap.size) w1.drew := by
     obtain ⟨F, hF, hd⟩ := h.out.get (L.length + (4 + (3 * k + 2))) (OL_get.trans (ritems_tx HC.out.len hks 2 (by omega)))
     have hb1 : RBufP (pt c.cs[k].bb) s.blocks 16 c.cs[k].rb (fun q => q < w1.heap.size) w1 := ⟨_, _, rfl, hd _ hF.1, hF.2.1, PutsAt.mono hF.2.2 fun q hq => ⟨hd q hq.1, hq.2⟩⟩
     exact hb1.same fun q _ => rfl
    have hd1 : Below w1.heap.size w1 w1.drew := below_drewN (Below.refl _ _) 1
    have HQV := Lib.hid hqv
    have HMM := Lib.hid hmm
    have HQT := Lib.hid hqt
    have HVAL := Lib.hid hval
    have HBB := Lib.hid hbb
    have HSW := Lib.hid hsw
    have HBUF := Lib.hid hbR
    have HD1 := Lib.hid hd1
    have HQ1C := Lib.hid hq1c
    have HQLL := Lib.hid hqll
    have HDM := Lib.hid hdefm
    have HMLN := Lib.hid hML
    have HQLN := Lib.hid hQL
    have HV4 := Lib.hid hv4
    clear hqv hmm hqt hval hbb hsw hbR hd1 hq1c hqll hdefm hML hQL hv4
    go_wp2_with fail
    refine wp_regionG (fun W => Below w1.heap.size w1 W) (n := 29) (by kernel_rfl) (by kernel_rfl) ?_
    refine wpG.tk 0 ?_
    refine wpG.tk 1 ?_
    refine wpG.tk 2 ?_
    refine wpG.tk 3 ?_ (hy := by intro W hW; have hld0 := cell_up hW m0; go_simp; try with_reducible rfl)
    refine wpG.tk 4 ?_
    refine wpG.tk 5 ?_
    refine wpG.tk 6 ?_
    refine wpG.tk 7 ?_ (hy := by intro W hW; have hld0 := cell_up hW m6; go_simp; try with_reducible rfl)
    refine wpG.tk 8 ?_
    refine wpG.tk 9 ?_
    refine wpG.tk 10 ?_
    refine wpG.tk 11 ?_ (hy := by intro W hW; have hld0 := cell_up hW t3; go_simp; try with_reducible rfl)
    refine wpG.tk 12 ?_
    refine wpG.tk 13 ?_
    refine wpG.tk 14 ?_ (hy := by intro W hW; have hld0 := cell_up hW hv2; go_simp; try with_reducible rfl)
    refine wpG.tk 15 ?_
    refine wpG.tk 16 ?_
    refine wpG.tk 17 ?_
    refine wpG.tk 18 ?_ (hy := by intro W hW; have hld0 := cell_up hW t3; go_simp; try with_reducible rfl)
    refine wpG.tk 19 ?_
    refine wpG.tk 20 ?_
    refine wpG.tk 21 ?_
    refine wpG.tk 22 ?_
    refine wpG.tk 23 ?_
    refine wpG.tk 24 ?_ (hy := by intro W hW; have hld0 := cell_up hW t4; go_simp; try with_reducible rfl)
    refine wpG.alone 25 rfl (by kernel_rfl) (by kernel_rfl) (HD1.out) (fun K hK => ?_)
    go_simp
    go_at_call 125
    refine (refBufSet_any _ _ _ _ c.cs[k].rb w1.drew HBUF.out HBB.out (by have := HRL.out; have := HTX.out.bl; omega)).mono ?_
    rintro e w3 ⟨sb, rfl, HB3, sp, sc, hs1, HX3⟩
    rw [HSW.out] at hs1 HX3
    have HB13 := Lib.hid (Below.up HD1.out HB3.out)
    try go_simp
    refine hK _ _ ?_
    clear hK K
    refine wpG.alone 26 rfl (by kernel_rfl) (by kernel_rfl) (HB13.out) (fun K hK => ?_)
    go_simp
    go_at_call 124
    refine (refValid_any (ro := 3) (wo := 0) s.txs[k].at' (RMapIs.same HMM.out (fun q hq => HB13.out.block q hq) HB13.out.size) HMLN.out HQLN.out (TxsAt.up HQT.out HB13.out) (cell_up HB13.out HV4.out) (ExtsAt.up HSX0.out HB13.out) HTX.out.sg.2 hs1 HX3.out (setB_good HTX.out HG.out.b2).1.2).mono ?_
    rintro e w4 ⟨rfl, hb4⟩
    rw [HVAL.out]
    have HB14 := Lib.hid (Below.up HB13.out hb4)
    clear hb4 hs1
    obtain ⟨cc, hcc⟩ : ∃ cc, checkCode s.vs (waitL s) s.txs[k].at' s.txs[k].S (setB s.txs[k]) = cc := ⟨_, rfl⟩
    have hc8 : cc = 0 ∨ cc = 8 := by
     rw [← hcc]
     unfold checkCode
     split
     ·exact .inl rfl
     ·split
      ·exact .inr rfl
      ·exact .inl rfl
    rw [hcc]
    have hdm := HDM.out
    rw [hcc] at hdm
    rcases hc8 with rfl | rfl
    case inr =>
     rw [if_pos (by decide)] at hdm
     have HR := Lib.hid (cm_end hks HHO.out HZ.out hdm (by decide))
     have HSX := Lib.hid (h.out.up HB14.out)
     try go_simp
     refine hK _ _ ?_
     clear hK K
     refine wpG.tk 27 ?_
     refine wpG.tk 28 ?_
     refine wpG.done (by kernel_rfl) HB14.out ?_
     clear hdm hcc
     have HE := Lib.hid (rend_core (Lib.hid HSX.out) HC.out.len hks HKN.out HG.out.kn HG.out.k6 4 0 8)
     clear HSX
     go_wp2_with fail
     refine (HE.out).mono ?_
     rintro e w9 ⟨rfl, hv, tv, HS9⟩
     clear HE
     go_wp2
     go_ret
     exact ⟨by rw [HR.out.1]; rfl, { c with hv := hv, tv := tv }, rfl, by rw [HR.out.2]; exact HEN.out 4 0 8 hv tv, by rw [HR.out.2]; exact HS9⟩
    case inl =>
     rw [if_neg (by decide)] at hdm
     have HSX := Lib.hid (h.out.up HB14.out)
     have e10 := cell_up HB14.out m10
     try go_simp
     refine hK _ _ ?_
     clear hK K
     refine wpG.tk 27 ?_
     refine wpG.tk 28 ?_
     refine wpG.done (by kernel_rfl) HB14.out ?_
     by_cases hgv : 1099511627776 ≤ s.given
     case pos =>
      rw [if_pos hgv] at hdm
      have HR := Lib.hid (cm_end hks HHO.out HZ.out hdm (by decide))
      clear hdm hcc
      have HE := Lib.hid (rend_core (Lib.hid HSX.out) HC.out.len hks HKN.out HG.out.kn HG.out.k6 4 0 11)
      clear HSX
      go_wp2_with fail
      refine (HE.out).mono ?_
      rintro e w9 ⟨rfl, hv, tv, HS9⟩
      clear HE
      go_wp2
      go_ret
      exact ⟨by rw [HR.out.1]; rfl, { c with hv := hv, tv := tv }, rfl, by rw [HR.out.2]; exact HEN.out 4 0 11 hv tv, by rw [HR.out.2]; exact HS9⟩
     case neg =>
      have HR := Lib.hid (cm_wait hks HHO.out HZ.out (by rw [hdm, if_neg hgv]))
      have HWT := Lib.hid (fun qv qh => HC.out.wait hks hkc (fun x hx => (HG.out.qr x hx).1) HQN.out qv qh)
      have hlt := HG.out.lt
      have hwg : IntKind.i64.wrap (s.given + 1) = s.given + 1 := IntWalk.i64_in _ (by omega)
      have f10 := rm_fz HSX.out 10
      have hS5 := rm_store HSX.out 10 (.int .i64 (s.given + 1)) { s with given := s.given + 1 } rfl rfl rfl rfl rfl rfl
      have q10 : (w4.setCell ⟨c.mb, 10, none⟩ (.int .i64 (s.given + 1))).cell? ⟨c.mb, 10, none⟩ = some (.int .i64 (s.given + 1)) := by rw [rm_cell hS5]; rfl
      have q0 := rx_cell hS5 HC.out.len hks 0
      change _ = some (Value.int .i64 s.txs[k].st) at q0
      have f0 := rx_fz hS5 HC.out.len hks hkc 0
      have hS6 := rx_store hS5 HC.out.len hks hkc 0 (Value.int .i64 2) { s.txs[k] with st := 2 } rfl rfl rfl rfl
      have hc6 : c.cs.length = (s.txs.set k { s.txs[k] with st := 2 }).length := by rw [HC.out.len, List.length_set]
      have q10' := rm_cell hS6 10
      change _ = some (Value.int .i64 (s.given + 1)) at q10'
      have q1 := rx_cell hS6 hc6 (k := k) (by simpa using hks) 1
      simp only [List.getElem_set_self] at q1
      change _ = some (Value.int .i64 s.txs[k].tm) at q1
      have f1 := rx_fz hS6 hc6 (k := k) (by simpa using hks) hkc 1
      have hS7 := rx_store hS6 hc6 (k := k) (by simpa using hks) hkc 1 (Value.int .i64 (s.given + 1)) { s.txs[k] with st := 2, tm := s.given + 1 } (by simp [rxRow]) (by simp) (by simp) (by simp)
      simp only [List.set_set] at hS7
      have hc7 : c.cs.length = (s.txs.set k { s.txs[k] with st := 2, tm := s.given + 1 }).length := by rw [HC.out.len, List.length_set]
      have HS7 := Lib.hid hS7
      have HC7 := Lib.hid hc7
      clear hS5 hS6 hS7 hc7 hdm hcc hlt
      go_upto_region 20 with fail
      generalize hW7 : ((w4.setCell ⟨c.mb, 10, none⟩ (.int .i64 (s.given + 1))).setCell ⟨c.cs[k].tb, 0, none⟩ (.int .i64 2)).setCell ⟨c.cs[k].tb, 1, none⟩ (.int .i64 (s.given + 1)) = W7 at *
      clear hW7 q10 q0 f0 q10' q1 f1 f10 e10 m0 m6 m10 m12 t3 t4 hb2 hv2 hc6
      have hks7 : k < ({ s with given := s.given + 1, txs := s.txs.set k { s.txs[k] with st := 2, tm := s.given + 1 } } : MgS).txs.length := by simpa using hks
      have r6 : W7.cell? ⟨c.mb, 6, none⟩ = some c.qv := by rw [rm_cell HS7.out]; rfl
      have r7 : W7.cell? ⟨c.mb, 7, none⟩ = some c.qh := by rw [rm_cell HS7.out]; rfl
      have r10 : W7.cell? ⟨c.mb, 10, none⟩ = some (.int .i64 (s.given + 1)) := by rw [rm_cell HS7.out]; rfl
      have u4 : W7.cell? ⟨c.cs[k].tb, 4, none⟩ = some (.pointer (some ⟨c.cs[k].bb, 0, none⟩)) := by rw [rx_cell HS7.out HC7.out hks7]; rfl
      have u2 := (rx_buf HS7.out HC7.out hks7 hkc).1
      rw [HLV.out] at u2
      have hh7 := rm_heap HS7.out
      obtain ⟨G, hbl, hG, h4, h5, h6, h7, K⟩ := rm_book HS7.out
      obtain ⟨qp2, qc2, hqv2⟩ := qAt_shape h6
      obtain ⟨hp2, hc2', hqh2⟩ := intsAt_shape h7
      rw [hqv2] at h6 r6
      rw [hqh2] at h7 r7
      have hql16 : c.ql.length ≤ 16 := by rw [HQLL.out]; exact HG.out.qlenV
      have hqq16 : s.queue.length ≤ 16 := HG.out.qlenV
      have hone : (Value.slice lp c.cs[k].rb.length lc).oneCell' = true := rfl
      obtain ⟨p1, c1, w3A, hA1, HA2, HA3, HA4⟩ := pushQ_at (w := W7) (W := (W7.alloc (.cells #[] 70 (0, 0))).drew) (k := W7.heap.size) (below_drewN (below_alloc W7 _) 1) (owns_empty W7 _ 2) (QAt.up h6 (below_drewN (below_alloc W7 _) 1)) HQ1C.out (by omega)
      have hxA : (w3A.alloc (.cells #[.int .i64 (s.given + 1), .slice lp c.cs[k].rb.length lc] 70 (0, 0))).cell? ⟨w3A.heap.size, 0, none⟩ = some (.int .i64 (s.given + 1)) := by rw [cell_row (heap_alloc_new w3A _)]; rfl
      have hyA : (w3A.alloc (.cells #[.int .i64 (s.given + 1), .slice lp c.cs[k].rb.length lc] 70 (0, 0))).cell? ⟨w3A.heap.size, 1, none⟩ = some (.slice lp c.cs[k].rb.length lc) := by rw [cell_row (heap_alloc_new w3A _)]; rfl
      obtain ⟨g2, c2, w4A, hA5, HA6, HA7⟩ := pushQ_one (w := W7) (W := w3A.alloc (.cells #[.int .i64 (s.given + 1), .slice lp c.cs[k].rb.length lc] 70 (0, 0))) (Below.up HA3.out (below_alloc _ _)) (ownsRow_up' HA2.out (below_alloc _ _)) w3A.heap.size (s.given + 1) _ hone hxA hyA (by omega)
      have hzE : (W7.alloc (.cells #[] 70 (0, 0))).drew.heap.size = W7.heap.size + 1 := by simp
      have hzL : (W7.alloc (.cells #[.int .i64 (s.given + 1), .slice lp c.cs[k].rb.length lc] 70 (0, 0))).drew.heap.size = W7.heap.size + 1 := by simp
      have hB0 := heap_alloc_new (W7.alloc (.cells #[] 70 (0, 0))).drew (.cells #[.int .i64 (s.given + 1), .slice lp c.cs[k].rb.length lc] 70 (0, 0))
      rw [hzE] at hB0
      have hbE := below_drewN (below_alloc W7 (.cells #[] 70 (0, 0))) 1
      have hbL := below_drewN (below_alloc W7 (.cells #[.int .i64 (s.given + 1), .slice lp c.cs[k].rb.length lc] 70 (0, 0))) 1
      have hbEL : Below W7.heap.size W7 ((W7.alloc (.cells #[] 70 (0, 0))).drew.alloc (.cells #[.int .i64 (s.given + 1), .slice lp c.cs[k].rb.length lc] 70 (0, 0))) := Below.up hbE (below_alloc _ _)
      have hbLE : Below W7.heap.size W7 ((W7.alloc (.cells #[.int .i64 (s.given + 1), .slice lp c.cs[k].rb.length lc] 70 (0, 0))).drew.alloc (.cells #[] 70 (0, 0))) := Below.up hbL (below_alloc _ _)
      obtain ⟨pB, cB, wB, gB2, cB2, w4B, hB1, hB2, HB3', HB4', HBm⟩ := pushQ_all (w := W7) (W0 := (W7.alloc (.cells #[] 70 (0, 0))).drew.alloc (.cells #[.int .i64 (s.given + 1), .slice lp c.cs[k].rb.length lc] 70 (0, 0))) (k := W7.heap.size) (b := W7.heap.size + 1) (x := s.given + 1) hone hbEL (ownsRow_up' (owns_empty W7 _ 2) (Below.up (below_drewN (Below.refl _ _) 1) (below_alloc _ _))) (by omega) (by rw [cell_row hB0]; rfl) (by rw [cell_row hB0]; rfl) (QAt.up h6 hbEL) HQ1C.out (by omega)
      have hC0 := owns_empty (W7.alloc (.cells #[.int .i64 (s.given + 1), .slice lp c.cs[k].rb.length lc] 70 (0, 0))).drew 70 2
      rw [hzL] at hC0
      have hCx : ((W7.alloc (.cells #[.int .i64 (s.given + 1), .slice lp c.cs[k].rb.length lc] 70 (0, 0))).drew.alloc (.cells #[] 70 (0, 0))).cell? ⟨W7.heap.size, 0, none⟩ = some (.int .i64 (s.given + 1)) := cell_up (below_alloc _ _) (show (W7.alloc (.cells #[.int .i64 (s.given + 1), .slice lp c.cs[k].rb.length lc] 70 (0, 0))).cell? ⟨W7.heap.size, 0, none⟩ = _ by rw [cell_row (heap_alloc_new W7 _)]; rfl)
      have hCy : ((W7.alloc (.cells #[.int .i64 (s.given + 1), .slice lp c.cs[k].rb.length lc] 70 (0, 0))).drew.alloc (.cells #[] 70 (0, 0))).cell? ⟨W7.heap.size, 1, none⟩ = some (.slice lp c.cs[k].rb.length lc) := cell_up (below_alloc _ _) (show (W7.alloc (.cells #[.int .i64 (s.given + 1), .slice lp c.cs[k].rb.length lc] 70 (0, 0))).cell? ⟨W7.heap.size, 1, none⟩ = _ by rw [cell_row (heap_alloc_new W7 _)]; rfl)
      obtain ⟨pC, cC, wC, gC2, cC2, w4C, hC1, hC2, HC3', HC4', HCm⟩ := pushQ_all (w := W7) (W0 := (W7.alloc (.cells #[.int .i64 (s.given + 1), .slice lp c.cs[k].rb.length lc] 70 (0, 0))).drew.alloc (.cells #[] 70 (0, 0))) (k := W7.heap.size + 1) (b := W7.heap.size) (x := s.given + 1) hone hbLE (ownsRow_lower0 hC0 (by show W7.heap.size ≤ _; omega)) (by omega) hCx hCy (QAt.up h6 hbLE) HQ1C.out (by omega)
      have hG7 : W7.drew.cell? ⟨c.mb, 6, none⟩ = some (.slice qp2 c.ql.length qc2) ∧ W7.drew.cell? ⟨c.mb, 10, none⟩ = some (.int .i64 (s.given + 1)) ∧ W7.drew.cell? ⟨c.cs[k].tb, 4, none⟩ = some (.pointer (some ⟨c.cs[k].bb, 0, none⟩)) ∧ W7.drew.cell? ⟨c.cs[k].bb, 2, none⟩ = some (.slice lp c.cs[k].rb.length lc) := ⟨r6, r10, u4, u2⟩
      have hup : ∀ Wx, Below W7.heap.size W7 Wx → Wx.cell? ⟨c.mb, 6, none⟩ = some (.slice qp2 c.ql.length qc2) ∧ Wx.cell? ⟨c.mb, 10, none⟩ = some (.int .i64 (s.given + 1)) ∧ Wx.cell? ⟨c.cs[k].tb, 4, none⟩ = some (.pointer (some ⟨c.cs[k].bb, 0, none⟩)) ∧ Wx.cell? ⟨c.cs[k].bb, 2, none⟩ = some (.slice lp c.cs[k].rb.length lc) := fun Wx hW => ⟨cell_up hW r6, cell_up hW r10, cell_up hW u4, cell_up hW u2⟩
      have hfz : ∀ Wx, Below W7.heap.size W7 Wx → Wx.frozen? ⟨c.mb, 6, none⟩ = false := fun Wx hW => (hW.frozen (p := ⟨c.mb, 6, none⟩) hbl).trans (fz_row hh7 6)
      have fA := hfz w4A HA7.out
      have fB := hfz w4B HB4'.out
      have fC := hfz w4C HC4'.out
      have kA := (hup w4A HA7.out).1
      have kB := (hup w4B HB4'.out).1
      have kC := (hup w4C HC4'.out).1
      have HBL := Lib.hid hbl
      have HQV2 := Lib.hid hqv2
      have HQH2 := Lib.hid hqh2
      have HGG := Lib.hid hG
      have HI4 := Lib.hid h4
      have HI5 := Lib.hid h5
      have HI6 := Lib.hid h6
      have HI7 := Lib.hid h7
      have HKK := Lib.hid K
      have HBE := Lib.hid hbE
      have HBLL := Lib.hid hbL
      have HBEL := Lib.hid hbEL
      have HBLE := Lib.hid hbLE
      have HUP := Lib.hid hup
      have HH7 := Lib.hid hh7
      clear hC0 hCx hCy hxA hyA hB0 hqv2 hqh2 hG h4 h5 h6 h7 K hbE hbL hbEL hbLE hup hfz hh7 hbl hone
      refine wp_regionH (fun W => W.cell? ⟨c.mb, 6, none⟩ = some (.slice qp2 c.ql.length qc2) ∧ W.cell? ⟨c.mb, 10, none⟩ = some (.int .i64 (s.given + 1)) ∧ W.cell? ⟨c.cs[k].tb, 4, none⟩ = some (.pointer (some ⟨c.cs[k].bb, 0, none⟩)) ∧ W.cell? ⟨c.cs[k].bb, 2, none⟩ = some (.slice lp c.cs[k].rb.length lc)) (n := 24) (by kernel_rfl) (by kernel_rfl) ?_
      refine wpH.tk 0 ?_
      refine wpH.tk 2 ?_
      refine wpH.tk 3 ?_
      refine wpH.tk 4 ?_
      refine wpH.tk 5 ?_ (hy := by intro W hW; have hld0 := hW.1; go_simp; try with_reducible rfl)
      refine wpH.tk 7 ?_
      refine wpH.tk 8 ?_
      refine wpH.tk 9 ?_
      refine wpH.tk 10 ?_ (hy := by intro W hW; have hld0 := hW.2.1; go_simp; try with_reducible rfl)
      refine wpH.tk 11 ?_
      refine wpH.tk 12 ?_
      refine wpH.tk 13 ?_
      refine wpH.tk 14 ?_ (hy := by intro W hW; have hld0 := hW.2.2.1; go_simp; try with_reducible rfl)
      refine wpH.tk 15 ?_
      refine wpH.tk 16 ?_
      refine wpH.tk 17 ?_ (hy := by intro W hW; have hld0 := hW.2.2.2; go_simp; try with_reducible rfl)
      refine wpH.tk 18 ?_
      refine wpH.two 1 19 rfl rfl (by kernel_rfl) (by kernel_rfl) (by kernel_rfl) hG7 (fun K hK => ?ordE) (fun K hK => ?ordL)
      case' ordE =>
       go_simp
       try go_simp
       refine hK _ _ ?_
       clear hK K
       refine wpH.two 6 19 rfl rfl (by kernel_rfl) (by kernel_rfl) (by kernel_rfl) (HUP.out _ HBE.out) (fun K hK => ?ordEA) (fun K hK => ?ordEB)
       case' ordEA =>
        refine wp_append_run (v := .slice (some ⟨W7.heap.size, 0, none⟩) 0 0) (u := .slice qp2 c.ql.length qc2) (.tmp 96) (.tmp 100) 40 rfl ?_ ?_ hA1 ?_
        ·go_simp
        ·go_simp
        try go_simp
        refine hK _ _ ?_
        clear hK K
        refine wpH.alone 19 rfl (by kernel_rfl) (by kernel_rfl) (HUP.out _ HA3.out) (fun K hK => ?_)
        go_simp
        try go_simp
        refine hK _ _ ?_
        clear hK K
        refine wpH.alone 20 rfl (by kernel_rfl) (by kernel_rfl) (HUP.out _ (Below.up HA3.out (below_alloc _ _))) (fun K hK => ?_)
        refine wp_append_run (v := .slice p1 c.ql.length c1) (u := .slice (some ⟨w3A.heap.size, 0, none⟩) 1 1) (.tmp 101) (.tmp 114) 40 rfl ?_ ?_ hA5 ?_
        ·go_simp
        ·go_simp
        try go_simp
        refine hK _ _ ?_
        clear hK K
        refine wpH.tk 21 ?_
        refine wpH.tk 22 ?_
        refine wpH.alone 23 rfl (by kernel_rfl) (by kernel_rfl) (HUP.out _ HA7.out) (fun K hK => ?_)
        go_simp
        try go_simp
        refine hK _ _ ?_
        clear hK K
        refine wpH.done (by kernel_rfl) (by kernel_rfl) ?_
        obtain ⟨x1, x2, x3, x4⟩ := queue_mid (G := G) (j := 6) HH7.out (Chg.refl _ _) HBL.out HA7.out HA6.out
        generalize hW8 : w4A.setCell ⟨c.mb, 6, none⟩ (.slice (some ⟨g2, 0, none⟩) (c.ql.length + 1) c2) = w8 at *
        generalize hG8 : (Value.slice (some ⟨g2, 0, none⟩) (c.ql.length + 1) c2) = qv8 at *
       case' ordEB =>
        go_simp
        try go_simp
        refine hK _ _ ?_
        clear hK K
        refine wpH.alone 6 rfl (by kernel_rfl) (by kernel_rfl) (HUP.out _ HBEL.out) (fun K hK => ?_)
        refine wp_append_run (v := .slice (some ⟨W7.heap.size, 0, none⟩) 0 0) (u := .slice qp2 c.ql.length qc2) (.tmp 96) (.tmp 100) 40 rfl ?_ ?_ hB1 ?_
        ·go_simp
        ·go_simp
        try go_simp
        refine hK _ _ ?_
        clear hK K
        refine wpH.alone 20 rfl (by kernel_rfl) (by kernel_rfl) (HUP.out _ HBm.out) (fun K hK => ?_)
        refine wp_append_run (v := .slice pB c.ql.length cB) (u := .slice (some ⟨W7.heap.size + 1, 0, none⟩) 1 1) (.tmp 101) (.tmp 114) 40 rfl ?_ ?_ hB2 ?_
        ·go_simp
        ·go_simp
        try go_simp
        refine hK _ _ ?_
        clear hK K
        refine wpH.tk 21 ?_
        refine wpH.tk 22 ?_
        refine wpH.alone 23 rfl (by kernel_rfl) (by kernel_rfl) (HUP.out _ HB4'.out) (fun K hK => ?_)
        go_simp
        try go_simp
        refine hK _ _ ?_
        clear hK K
        refine wpH.done (by kernel_rfl) (by kernel_rfl) ?_
        obtain ⟨x1, x2, x3, x4⟩ := queue_mid (G := G) (j := 6) HH7.out (Chg.refl _ _) HBL.out HB4'.out HB3'.out
        generalize hW8 : w4B.setCell ⟨c.mb, 6, none⟩ (.slice (some ⟨gB2, 0, none⟩) (c.ql.length + 1) cB2) = w8 at *
        generalize hG8 : (Value.slice (some ⟨gB2, 0, none⟩) (c.ql.length + 1) cB2) = qv8 at *
      case' ordL =>
       go_simp
       try go_simp
       refine hK _ _ ?_
       clear hK K
       refine wpH.alone 1 rfl (by kernel_rfl) (by kernel_rfl) (HUP.out _ HBLL.out) (fun K hK => ?_)
       go_simp
       try go_simp
       refine hK _ _ ?_
       clear hK K
       refine wpH.alone 6 rfl (by kernel_rfl) (by kernel_rfl) (HUP.out _ HBLE.out) (fun K hK => ?_)
       refine wp_append_run (v := .slice (some ⟨W7.heap.size + 1, 0, none⟩) 0 0) (u := .slice qp2 c.ql.length qc2) (.tmp 96) (.tmp 100) 40 rfl ?_ ?_ hC1 ?_
       ·go_simp
       ·go_simp
       try go_simp
       refine hK _ _ ?_
       clear hK K
       refine wpH.alone 20 rfl (by kernel_rfl) (by kernel_rfl) (HUP.out _ HCm.out) (fun K hK => ?_)
       refine wp_append_run (v := .slice pC c.ql.length cC) (u := .slice (some ⟨W7.heap.size, 0, none⟩) 1 1) (.tmp 101) (.tmp 114) 40 rfl ?_ ?_ hC2 ?_
       ·go_simp
       ·go_simp
       try go_simp
       refine hK _ _ ?_
       clear hK K
       refine wpH.tk 21 ?_
       refine wpH.tk 22 ?_
       refine wpH.alone 23 rfl (by kernel_rfl) (by kernel_rfl) (HUP.out _ HC4'.out) (fun K hK => ?_)
       go_simp
       try go_simp
       refine hK _ _ ?_
       clear hK K
       refine wpH.done (by kernel_rfl) (by kernel_rfl) ?_
       obtain ⟨x1, x2, x3, x4⟩ := queue_mid (G := G) (j := 6) HH7.out (Chg.refl _ _) HBL.out HC4'.out HC3'.out
       generalize hW8 : w4C.setCell ⟨c.mb, 6, none⟩ (.slice (some ⟨gC2, 0, none⟩) (c.ql.length + 1) cC2) = w8 at *
       generalize hG8 : (Value.slice (some ⟨gC2, 0, none⟩) (c.ql.length + 1) cC2) = qv8 at *
      all_goals
       have hz8 := x3.size
       have b7 : w8.cell? ⟨c.mb, 7, none⟩ = some (.slice hp2 s.queue.length hc2') := by rw [cell_row x1, arr_set_ne (by decide), ← HQH2.out]; rfl
       have h78 : IntsAt G w8 (.slice hp2 s.queue.length hc2') s.queue := IntsAt.same HI7.out fun q hq => x3.block q (HGG.out q hq).1 (HGG.out q hq).2
       obtain ⟨g6, c6, w9, hT1, HT2, HT3, HT4⟩ := push_at (w := w8) (W := w8.alloc (.cells #[] 3 (0, 0))) (k := w8.heap.size) (below_alloc w8 _) (owns_empty w8 _ 1) (IntsAt.up h78 (below_alloc w8 _)) (by omega)
       have hxT : (w9.alloc (.cells #[.int .i64 ((k : Int) + 1)] 3 (0, 0))).cell? ⟨w9.heap.size, 0, none⟩ = some (.int .i64 ((k : Int) + 1)) := by rw [cell_row (heap_alloc_new w9 _)]; rfl
       obtain ⟨g7, c7, w10, hT5, HT6, HT7⟩ := push_one (w := w8) (W := w9.alloc (.cells #[.int .i64 ((k : Int) + 1)] 3 (0, 0))) (Below.up HT3.out (below_alloc _ _)) (ownsRow_up' HT2.out (below_alloc _ _)) w9.heap.size 0 ((k : Int) + 1) hxT (by omega)
       have hbl8 : c.mb < w8.heap.size := by have := HBL.out; omega
       have b710 : w10.cell? ⟨c.mb, 7, none⟩ = some (.slice hp2 s.queue.length hc2') := (HT7.out.cell (p := ⟨c.mb, 7, none⟩) hbl8).trans b7
       have z710 : w10.frozen? ⟨c.mb, 7, none⟩ = false := (HT7.out.frozen (p := ⟨c.mb, 7, none⟩) hbl8).trans (fz_row x1 7)
       have hIq : ∀ x ∈ s.queue ++ [(k : Int) + 1], I64 x := fun x hx => by
        have := HG.out.hn
        have := HKN.out
        rcases List.mem_append.1 hx with hx | hx
        ·have := HG.out.qr x hx; unfold I64; omega
        ·rw [List.mem_singleton] at hx; subst hx; unfold I64; omega
       obtain ⟨n1', n2', n3', n4'⟩ := book_mid (G := G) (j := 7) x1 x2 HBL.out hIq HT7.out HT6.out
       have hfin := HKK.out _ { c with qv := qv8, qh := .slice (some ⟨g7, 0, none⟩) (s.queue.length + 1) c7, ql := c.ql ++ [(s.given + 1, .slice lp c.cs[k].rb.length lc)] } { s with given := s.given + 1, queue := s.queue ++ [(k : Int) + 1], txs := s.txs.set k { s.txs[k] with st := 2, tm := s.given + 1 } } rfl rfl rfl rfl rfl rfl rfl rfl n2' n1'
        (SlAt.mono (E' := intE) (IntsAt.same HI4.out fun q hq => n2'.block q (HGG.out q hq).1 (HGG.out q hq).2) (fun q hq => ⟨.inl hq, (HGG.out q hq).2⟩) (fun _ _ _ h => h))
        (SlAt.mono (E' := intE) (IntsAt.same HI5.out fun q hq => n2'.block q (HGG.out q hq).1 (HGG.out q hq).2) (fun q hq => ⟨.inl hq, (HGG.out q hq).2⟩) (fun _ _ _ h => h))
        (SlAt.mono (E' := qE) (SlAt.same x4 (fun q hq => n3'.block q (hq.1.elim (fun h => by have := (HGG.out q h).1; omega) fun h => h.2) hq.2) (qE_stable _)) (fun q hq => ⟨hq.1.imp id fun h => ⟨h.1, by have := h.2; have := n3'.size; omega⟩, hq.2⟩) (fun _ _ _ h => h)) n4'
       rw [← HLV.out] at hfin
       have HFIN := Lib.hid hfin
       have HWT2 := Lib.hid (HWT.out qv8 (.slice (some ⟨g7, 0, none⟩) (s.queue.length + 1) c7))
       have HX1 := Lib.hid x1
       have HX2 := Lib.hid x2
       have HX3 := Lib.hid x3
       have HX4 := Lib.hid x4
       have HN1' := Lib.hid n1'
       have HN2' := Lib.hid n2'
       have HN3' := Lib.hid n3'
       have HN4' := Lib.hid n4'
       have HZ8 := Lib.hid hz8
       have H78 := Lib.hid h78
       clear x1 x2 x3 x4 n1' n2' n3' n4' hz8 h78
       clear hW8 hG8 hA1 hA5 hB1 hB2 hC1 hC2 fA fB fC kA kB kC hG7 hfin
       go_wp2_with (at_builtin; first | refine wpList_append_run rfl (.tmp 119) (.tmp 123) 91 rfl rfl rfl hT1 ?_ | refine wpList_append_run rfl (.tmp 124) (.tmp 126) 91 rfl rfl rfl hT5 ?_)
       go_ret
       exact ⟨by rw [HR.out.1]; rfl, { c with qv := qv8, qh := .slice (some ⟨g7, 0, none⟩) (s.queue.length + 1) c7, ql := c.ql ++ [(s.given + 1, c.cs[k].lv)] }, rfl, by rw [HR.out.2]; exact HWT2.out, by rw [HR.out.2]; exact HFIN⟩
end
end Go.Proofs
namespace Sc
open Go Go.RowKit
def TxsA (v : Value) (l : List Tx) : Asn := ⟨fun F w => TxsAt F w v l, fun _ _ _ hs _ h => h.same hs⟩
end Sc
namespace Go.Proofs
open Go.RowKit Sc
theorem txCut_to (p : Option Addr) (n c j : Nat) (hj : j ≤ c) :
  ∃ A : Option Addr, (∀ W, (Instr.slice 40 (.slice p n c) none (some (.int .i64 (j : Int))) none).run Tryz.prog W = .ok (.slice A j c) W) ∧ (A = none → p = none) ∧ ∀ b o, p = some ⟨b, o, none⟩ → A = some ⟨b, o, none⟩ := by
 obtain ⟨i0, hi0, _⟩ := info_parts infoTx
 have hu : Tryz.prog.underlying 40 = some (.slice (Tryz.prog.elem 40)) := by kernel_rfl
 have he : Tryz.prog.elem 40 = 70 := by kernel_rfl
 refine ⟨if c = 0 then p else p.map (fun a => a.add (0 * Tryz.prog.cellsOf 70)), fun W => ?_, fun h => ?_, fun b o h => ?_⟩
 ·rw [run_slice_h (P := Tryz.prog) (w := W) 40 _ n c hu .i64 (j : Int) (by omega) (by omega), he, run_sizeOf (P := Tryz.prog) W hi0]
  simp only [Result.andThen, sliced, Nat.sub_zero, Int.toNat_natCast]
 ·split at h
  ·exact h
  ·exact Option.map_eq_none_iff.1 h
 ·subst h
  simp [Addr.add]
theorem TxsAt.take {G : Nat → Prop} {w : World} {p A : Option Addr} {c : Nat} {l : List Tx} (h : TxsAt G w (.slice p l.length c) l) (j : Nat) (hj : j ≤ l.length) (h1 : A = none → p = none) (h2 : ∀ b o, p = some ⟨b, o, none⟩ → A = some ⟨b, o, none⟩) : TxsAt G w (.slice A j c) (l.take j) := by
 obtain ⟨p', c', e, a1, a2, a3, a4⟩ := h
 cases e
 have hl : (l.take j).length = j := by rw [List.length_take]; omega
 refine ⟨A, c, by rw [hl], by omega, a2, fun e => ?_, fun i hi => ?_⟩
 ·have := a3 (h1 e)
  omega
 ·rw [hl] at hi
  obtain ⟨b, o, e, hg, hx⟩ := a4 i (by omega)
  rw [List.getElem_take]
  exact ⟨b, o, h2 b o e, hg, hx⟩
section
variable {W w : World} {L : List Asn} {i : Nat} {c : MgC} {s : MgS}
set_option maxRecDepth 100000 in
set_option maxHeartbeats 4000000 in
theorem batch_core (h : Hid (Sep W (OL L i (mgrItems c s)) w)) (hc : c.cs.length = s.txs.length) {n : Nat} (g : MgG n s) (hn : s.queue.length ≤ 1000000) (hnn : n ≤ 1000000) (hi : i < L.length) :
  Calls Tryz.prog 27 #[.pointer (some ⟨c.mb, 0, none⟩)] w fun e w' =>
   (baCode s ≠ 0 ∧ e = .returned (.tuple #[.agg #[.int .i64 0, .slice none 0 0], .int .i64 (baCode s)]) ∧ Hid (Sep W (OL L i (mgrItems c s)) w')) ∨
   (baCode s = 0 ∧ ∃ p cp, e = .returned (.tuple #[.agg #[.int .i64 (s.num + 1), .slice p (formN (waitL s)) cp], .int .i64 0]) ∧
     Hid (Sep W (OL (L ++ [TxsA (.slice p (formN (waitL s)) cp) ((waitL s).take (formN (waitL s)))]) i (mgrItems c (baNext s))) w')) := by
 have HG : Hid (MgG n s) := g
 have h' : Hid (Sep W (OL (L ++ [BoxA w.heap.size #[.int .i64 0, .slice none 0 0] 42]) i (mgrItems c s)) (w.alloc (.cells #[.int .i64 0, .slice none 0 0] 42))) := h.out.boxed hi _ _
 obtain ⟨c0, _, _, c3, c4, c5, _⟩ := mgr_cells h'.out
 obtain ⟨qp, qc, hq0, hql⟩ := mgr_queue h'.out
 rw [hq0] at c3
 have HI := Lib.hid hi
 have HU := Lib.hid (h'.out.unbox hi)
 rw [List.append_nil] at HU
 clear g h hq0 hi
 by_cases ho : 0 < s.out
 case pos =>
  have HC : Hid (baCode s = 16) := if_pos ho
  go_enter Tryz.func27, Tryz.ntmps27
  go_wp2_with fail
  refine (gone_any c.mb c.m _ c0).mono ?_
  rintro e w1 ⟨rfl, rfl⟩
  go_wp2
  (try simp only [Exit.inBlock, Exit.then])
  refine ret_cell_tmp rfl (b := w.heap.size) (t := 42) (fr := (0, 0)) rfl (cs := #[.int .i64 0, .slice none 0 0]) ?_ (Tryz.underlying42) rfl (by kernel_rfl) rfl ?_
  ·exact heap_alloc_new w _
  ·exact .inl ⟨by rw [HC.out]; decide, by rw [HC.out]; rfl, HU⟩
 case neg =>
 by_cases hq : s.queue.length = 0
 case pos =>
  have HC : Hid (baCode s = 14) := by show _ = _; unfold baCode; rw [if_neg ho, if_pos hq]
  have hqz : ((s.queue.length : Int) == 0) = true := by rw [beq_iff_eq]; omega
  go_enter Tryz.func27, Tryz.ntmps27
  go_wp2_with fail
  refine (gone_any c.mb c.m _ c0).mono ?_
  rintro e w1 ⟨rfl, rfl⟩
  go_wp2
  (try simp only [Exit.inBlock, Exit.then])
  refine ret_cell_tmp rfl (b := w.heap.size) (t := 42) (fr := (0, 0)) rfl (cs := #[.int .i64 0, .slice none 0 0]) ?_ (Tryz.underlying42) rfl (by kernel_rfl) rfl ?_
  ·exact heap_alloc_new w _
  ·exact .inl ⟨by rw [HC.out]; decide, by rw [HC.out]; rfl, HU⟩
 case neg =>
  have HC : Hid (baCode s = 0) := by show _ = _; unfold baCode; rw [if_neg ho, if_neg hq]
  have hqz : ((s.queue.length : Int) == 0) = false := by rw [beq_eq_false_iff_ne]; omega
  have HN : Hid (baNext s = { s with out := formN (waitL s) }) := if_pos HC.out
  have hfb := formN_bd (waitL s)
  rw [waitL_len] at hfb
  have HFB := Lib.hid hfb
  have HWT := Lib.hid (waiting_core h' hc HG.out hn)
  clear hfb hq
  go_enter Tryz.func27, Tryz.ntmps27
  go_wp2_with fail
  refine (gone_any c.mb c.m _ c0).mono ?_
  rintro e w1 ⟨rfl, rfl⟩
  go_wp2_with fail
  refine (HWT.out).mono ?_
  rintro e w2 ⟨p, cp, rfl, hcp, HT2, HB2⟩
  have hS2 := (h'.out.new HB2.out (TxsA (.slice p s.queue.length cp) (waitL s)) (fun _ h => h) HT2.out).shift (by simp; have := HI.out; omega)
  rw [List.append_assoc] at hS2
  have HS2 := Lib.hid hS2
  have HT3 : Hid (TxsAt (Old w2) w2 (.slice p s.queue.length cp) (waitL s)) := Go.Proofs.TxsAt.mono HT2.out fun q hq => hq.2
  clear hS2 c3 c4 c5 c0
  go_wp2_with fail
  refine (form_any (Old w2) _ (waitL s) w2 (fun _ h => h) HT3.out).mono ?_
  rintro e w3 ⟨rfl, HB3⟩
  have HS3 := Lib.hid (HS2.out.up HB3.out)
  have f4 := mgr_free HS3.out 4
  obtain ⟨_, _, _, _, d4, d5, _⟩ := mgr_cells HS3.out
  have hS4 := mgr_store HS3.out 4 (.int .i64 (formN (waitL s))) { s with out := formN (waitL s) } rfl rfl rfl rfl rfl rfl rfl rfl
  rw [← HN.out] at hS4
  obtain ⟨hnum0, hnum1⟩ := HG.out.nm
  have hnum2 : s.num + 1 ≤ 9223372036854775807 := by omega
  obtain ⟨A, hA1, hA2, hA3⟩ := txCut_to p s.queue.length cp (formN (waitL s)) (by have := HFB.out; omega)
  have hS5 := hS4.up (below_drewN (Below.refl (w3.setCell ⟨c.mb, 4, none⟩ (.int .i64 (formN (waitL s)))).heap.size (w3.setCell ⟨c.mb, 4, none⟩ (.int .i64 (formN (waitL s))))) 1)
  obtain ⟨_, _, _, _, e4, e5, _⟩ := mgr_cells hS5
  have hbi : (OL (L ++ ([BoxA w.heap.size #[.int .i64 0, .slice none 0 0] 42] ++ [TxsA (.slice p s.queue.length cp) (waitL s)])) i (mgrItems c (baNext s)))[L.length]? = some (BoxA w.heap.size #[.int .i64 0, .slice none 0 0] 42) := by
   rw [OL_old (by simp) (by have := HI.out; omega), List.getElem?_append_right (Nat.le_refl _), Nat.sub_self]; rfl
  have hti : (OL (L ++ ([BoxA w.heap.size #[.int .i64 0, .slice none 0 0] 42] ++ [TxsA (.slice p s.queue.length cp) (waitL s)])) i (mgrItems c (baNext s)))[L.length + 1]? = some (TxsA (.slice p s.queue.length cp) (waitL s)) := by
   rw [OL_old (by simp) (by have := HI.out; omega), List.getElem?_append_right (by omega), show L.length + 1 - L.length = 1 by omega]; rfl
  have hN4 : (baNext s).out = (formN (waitL s) : Int) := by rw [HN.out]
  have hN5 : (baNext s).num = s.num := by rw [HN.out]
  rw [hN4] at e4
  rw [hN5] at e5
  have HS5 := Lib.hid hS5
  have HS4 := Lib.hid hS4
  clear hS4 hS5
  obtain ⟨FB, hFB, _⟩ := HS3.out.get L.length (A := BoxA w.heap.size #[.int .i64 0, .slice none 0 0] 42) (by rw [OL_old (by simp) (by have := HI.out; omega), List.getElem?_append_right (Nat.le_refl _), Nat.sub_self]; rfl)
  have bf0 : w3.frozen? ⟨w.heap.size, 0, none⟩ = false := frozen_row0 hFB.2 0
  have bf1 : w3.frozen? ⟨w.heap.size, 1, none⟩ = false := frozen_row0 hFB.2 1
  have bc0 : w3.cell? ⟨w.heap.size, 0, none⟩ = some (.int .i64 0) := by rw [cell_row hFB.2]; rfl
  have bc1 : w3.cell? ⟨w.heap.size, 1, none⟩ = some (.slice none 0 0) := by rw [cell_row hFB.2]; rfl
  clear hFB
  go_upto_region 9 with fail
  refine wp_regionG (fun W => W.cell? ⟨c.mb, 4, none⟩ = some (.int .i64 (formN (waitL s))) ∧ W.cell? ⟨c.mb, 5, none⟩ = some (.int .i64 s.num)) (n := 14) (by kernel_rfl) (by kernel_rfl) ?_
  refine wpG.tk 0 ?_
  refine wpG.tk 1 ?_
  refine wpG.tk 2 ?_
  refine wpG.tk 3 ?_ (hy := by intro W hW; have hld0 := hW.2; go_simp; try with_reducible rfl)
  refine wpG.tk 4 ?_
  refine wpG.tk 5 ?_
  refine wpG.tk 6 ?_
  refine wpG.tk 7 ?_
  refine wpG.tk 8 ?_
  refine wpG.tk 9 ?_ (hy := by intro W hW; have hld0 := hW.1; go_simp; try with_reducible rfl)
  refine wpG.tk 10 ?_
  refine wpG.tk 11 ?_
  refine wpG.alone 12 rfl (by kernel_rfl) (by kernel_rfl) ⟨e4, e5⟩ (fun K hK => ?_)
  go_simp
  have hs6 := HS4.out.box_store L.length hbi 0 (.int .i64 (s.num + 1))
  have hs7 := hs6.box_store L.length (List.getElem?_set_self (List.getElem?_eq_some_iff.1 hbi).1) 1 (.slice A (formN (waitL s)) cp)
  rw [List.set_set] at hs7
  have hs8 := hs7.up (below_drewN (Below.refl _ _) 1)
  have hs9 := hs8.imp (L.length + 1) (A := TxsA (.slice p s.queue.length cp) (waitL s)) (A' := TxsA (.slice A (formN (waitL s)) cp) ((waitL s).take (formN (waitL s)))) (by rw [List.getElem?_set_ne (by omega)]; exact hti) fun F _ hF => TxsAt.take (l := waitL s) (by rw [waitL_len]; exact hF) _ (formN_bd _).1 hA2 hA3
  have hle : ((OL (L ++ ([BoxA w.heap.size #[.int .i64 0, .slice none 0 0] 42] ++ [TxsA (.slice p s.queue.length cp) (waitL s)])) i (mgrItems c (baNext s))).set L.length (BoxA w.heap.size #[.int .i64 (s.num + 1), .slice A (formN (waitL s)) cp] 42)).set (L.length + 1) (TxsA (.slice A (formN (waitL s)) cp) ((waitL s).take (formN (waitL s)))) = OL (L ++ (BoxA w.heap.size #[.int .i64 (s.num + 1), .slice A (formN (waitL s)) cp] 42 :: [TxsA (.slice A (formN (waitL s)) cp) ((waitL s).take (formN (waitL s)))])) i (mgrItems c (baNext s)) := by
   unfold OL
   have hiL := HI.out
   rw [List.set_append_left _ _ hiL, List.set_append_left _ _ hiL, List.append_assoc, List.append_assoc]
   have e0 : (L.set i TrueA).length = L.length := List.length_set ..
   rw [List.set_append_right _ _ (by rw [e0]; exact Nat.le_refl _), List.set_append_right _ _ (by rw [e0]; omega), e0, Nat.sub_self, show L.length + 1 - L.length = 1 by omega, List.append_assoc (L.set i TrueA)]
   rfl
  have hs10 : Sep W (OL (L ++ (BoxA w.heap.size #[.int .i64 (s.num + 1), .slice A (formN (waitL s)) cp] 42 :: [TxsA (.slice A (formN (waitL s)) cp) ((waitL s).take (formN (waitL s)))])) i (mgrItems c (baNext s))) _ := hle ▸ hs9
  have HBX : Hid (_ ∧ _) := ⟨hs10.box_at HI.out 0, hs10⟩
  obtain ⟨FX, hFX, _⟩ := hs10.get L.length (A := BoxA w.heap.size #[.int .i64 (s.num + 1), .slice A (formN (waitL s)) cp] 42) (by rw [OL_old (by simp) (by have := HI.out; omega), List.getElem?_append_right (Nat.le_refl _), Nat.sub_self]; rfl)
  have hheap := hFX.2
  obtain ⟨_, _, _, _, g4, g5, _⟩ := mgr_cells hs10
  rw [hN4] at g4
  rw [hN5] at g5
  have HFIN := Lib.hid (hs10.unbox HI.out)
  have HHP := Lib.hid hheap
  have hwr : IntKind.i64.wrap (s.num + 1) = s.num + 1 := IntWalk.i64_in _ (by omega)
  rw [hwr]
  clear hs6 hs7 hs8 hs9 hle hs10 HBX hFX hheap hti hbi bc0 bc1 bf0 bf1 d4 d5 f4
  try go_simp
  refine hK _ _ ?_
  clear hK K
  refine wpG.tk 13 ?_
  refine wpG.done (by kernel_rfl) ⟨g4, g5⟩ ?_
  go_wp2
  (try simp only [Exit.inBlock, Exit.then])
  refine ret_cell_tmp rfl (b := w.heap.size) (t := 42) (fr := (0, 0)) rfl (cs := #[.int .i64 (s.num + 1), .slice A (formN (waitL s)) cp]) ?_ (Tryz.underlying42) rfl (by kernel_rfl) rfl ?_
  ·exact HHP.out
  ·exact .inr ⟨HC.out, A, cp, rfl, HFIN⟩
end
end Go.Proofs
namespace Go.Proofs
open Go.RowKit Sc
set_option maxRecDepth 100000 in
set_option maxHeartbeats 2000000 in
theorem rform_any {G : Nat → Prop} {v : Value} {l : List Tx} {w : World} (hl : TxsAt G w v l) (hm : ∀ t ∈ l, t.puts.length ≤ 1000000) :
  Calls Tryz.prog 126 #[v] w fun e w' => e = .returned (.int .i64 (formN l)) ∧ Below w.heap.size w w' := by
 obtain ⟨p, c, rfl, h1, h2, h3, h4⟩ := hl
 have H4 := Lib.hid h4
 have HM := Lib.hid hm
 clear h4 hm
 go_enter Tryz.func126, Tryz.ntmps126
 go_wp2_with fail
 go_loopw [3, 4] (fun s3 s4 wr => ∃ k P : Nat, k ≤ l.length ∧ k ≤ 8 ∧ s3 = .int .i64 k ∧ s4 = .int .i64 P ∧ P ≤ 2000000 ∧ Hid (k = 0 → P = 0) ∧ Hid (formGo 0 0 l = formGo k P (l.drop k)) ∧ Hid (Below w.heap.size w wr)) (fun s3 _ _ => l.length - (intOf s3).toNat)
 case atStart => exact ⟨0, 0, Nat.zero_le _, by omega, by go_num, by go_num, by omega, fun _ => rfl, rfl, Below.refl _ _⟩
 case round =>
  obtain ⟨k, P, hk, hk8, rfl, rfl, hP, HP0, HF, HB⟩ := hrel
  by_cases hlt : k < l.length
  case neg =>
   have HFN : Hid (formN l = k) := by
    show _ = _
    unfold formN
    rw [HF.out, List.drop_eq_nil_of_le (by omega)]; rfl
   have hki : ¬ (k : Int) < (l.length : Int) := by omega
   go_wp2
   go_ret
   exact ⟨by rw [HFN.out]; rfl, HB.out⟩
  case pos =>
   obtain ⟨b, o, rfl, _, c0, _, pv, c1, hp⟩ := H4.out k hlt
   replace c1 := cell_up HB.out c1
   obtain ⟨pp, pc, rfl, p1, p2, -⟩ := hp
   have hml := HM.out _ (List.getElem_mem hlt)
   have HST := Lib.hid (formGo_stop (P := P) hlt)
   have HON := Lib.hid (formGo_on (P := P) hlt)
   generalize l[k].puts.length = m at *
   have hki : (k : Int) < (l.length : Int) := by omega
   clear c0
   by_cases h8 : k = 8
   case pos =>
    subst h8
    have HFN : Hid (formN l = 8) := by show _ = _; unfold formN; rw [HF.out]; exact HST.out (.inl (by omega))
    go_wp2
    go_ret
    exact ⟨by rw [HFN.out]; rfl, HB.out⟩
   case neg =>
    have hk8' : (k : Int) < 8 := by omega
    have hwr : IntKind.i64.wrap ((P : Int) + (m : Int)) = (P : Int) + (m : Int) := IntWalk.i64_in _ (by omega)
    by_cases h0 : k = 0
    case pos =>
     subst h0
     simp only [Nat.zero_mul, Nat.add_zero] at c1
     obtain rfl : P = 0 := HP0.out rfl
     have HFK := Lib.hid (HON.out (by omega))
     go_wp2_with fail
     go_roundw
     case rel => exact ⟨1, 0 + m, by omega, by omega, by go_num, by go_num, by omega, fun h => absurd h (by omega), by show _ = _; rw [HF.out, HFK.out], HB⟩
     case measure => simp [intOf]; omega
    case neg =>
     have hk0 : (0 : Int) < (k : Int) := by omega
     by_cases hm : 32 < P + m
     case pos =>
      have HFN : Hid (formN l = k) := by show _ = _; unfold formN; rw [HF.out]; exact HST.out (.inr ⟨by omega, hm⟩)
      have hgt : (32 : Int) < (P : Int) + (m : Int) := by omega
      go_wp2
      go_ret
      exact ⟨by rw [HFN.out]; rfl, HB.out⟩
     case neg =>
      have HFK := Lib.hid (HON.out (by omega))
      have hgt : ¬ (32 : Int) < (P : Int) + (m : Int) := by omega
      go_wp2_with fail
      go_roundw
      case rel => exact ⟨k + 1, P + m, by omega, by omega, by go_num, by go_num, by omega, fun h => absurd h (by omega), by show _ = _; rw [HF.out, HFK.out], HB⟩
      case measure => simp [intOf]; omega
section
variable {W w : World} {L : List Asn} {i : Nat} {c : RmC} {s : MgS}
theorem RmOk.outs (hc : RmOk c s) (o : Int) : RmOk c { s with out := o } := ⟨hc.len, hc.mapr, hc.bufr, hc.ql⟩
set_option maxRecDepth 100000 in
set_option maxHeartbeats 4000000 in
theorem rbatch_core (h : Hid (Sep W (OL L i (rmItems c s)) w)) (hc : RmOk c s) {N : Nat} (g : MgG N s) (hN : N ≤ 300000) (hi : i < L.length) :
  Calls Tryz.prog 84 #[.pointer (some ⟨c.mb, 0, none⟩)] w fun e w' =>
   (baCode s ≠ 0 ∧ e = .returned (.tuple #[.agg #[.int .i64 0, .slice none 0 0], .int .i64 (baCode s)]) ∧ Hid (Sep W (OL L i (rmItems c s)) w')) ∨
   (baCode s = 0 ∧ RmOk c (baNext s) ∧ ∃ p cp, e = .returned (.tuple #[.agg #[.int .i64 (s.num + 1), .slice p (formN (waitL s)) cp], .int .i64 0]) ∧ Hid (Sep W (OL L i (rmItems c (baNext s))) w') ∧
     Hid (TxsAt (fun q => q < w'.heap.size) w' (.slice p (formN (waitL s)) cp) ((waitL s).take (formN (waitL s))))) := by
 have HC := Lib.hid hc
 have HG := Lib.hid g
 have h' : Hid (Sep W (OL (L ++ [BoxA w.heap.size #[.int .i64 0, .slice none 0 0] 42]) i (rmItems c s)) (w.alloc (.cells #[.int .i64 0, .slice none 0 0] 42))) := h.out.boxed hi _ _
 have m8 : (w.alloc (.cells #[.int .i64 0, .slice none 0 0] 42)).cell? ⟨c.mb, 8, none⟩ = some (.int .i64 s.out) := by rw [rm_cell h'.out]; rfl
 obtain ⟨hqt, _, _⟩ := rm_queue h'.out hc g
 obtain ⟨qp, qc, hqv⟩ : ∃ qp qc, c.qv = .slice qp (waitL s).length qc := by obtain ⟨p, cp, e, _⟩ := id hqt; exact ⟨p, cp, e⟩
 have hqc : (waitL s).length ≤ qc := by
  obtain ⟨p, cp, e, h1, _⟩ := id hqt
  rw [hqv] at e
  cases e
  exact h1
 have m6 : (w.alloc (.cells #[.int .i64 0, .slice none 0 0] 42)).cell? ⟨c.mb, 6, none⟩ = some (.slice qp (waitL s).length qc) := by rw [rm_cell h'.out, ← hqv]; rfl
 have hlenq := waitL_len s
 have HI := Lib.hid hi
 have HU := Lib.hid (h'.out.unbox hi)
 rw [List.append_nil] at HU
 rw [hqv] at hqt
 have HQV := Lib.hid hqv
 have HQT := Lib.hid hqt
 have HQC := Lib.hid hqc
 clear g hc h hi hqv hqt hqc
 by_cases ho : 0 < s.out
 case pos =>
  have HCD : Hid (baCode s = 16) := if_pos ho
  clear m6 hlenq
  go_enter Tryz.func84, Tryz.ntmps84
  go_wp2
  (try simp only [Exit.inBlock, Exit.then])
  refine ret_cell_tmp rfl (b := w.heap.size) (t := 42) (fr := (0, 0)) rfl (cs := #[.int .i64 0, .slice none 0 0]) ?_ (Tryz.underlying42) rfl (by kernel_rfl) rfl ?_
  ·exact heap_alloc_new w _
  ·exact .inl ⟨by rw [HCD.out]; decide, by rw [HCD.out]; rfl, HU⟩
 case neg =>
 by_cases hq : s.queue.length = 0
 case pos =>
  have HCD : Hid (baCode s = 14) := by show _ = _; unfold baCode; rw [if_neg ho, if_pos hq]
  rw [hlenq, hq] at m6
  clear hlenq hq
  go_enter Tryz.func84, Tryz.ntmps84
  go_wp2
  (try simp only [Exit.inBlock, Exit.then])
  refine ret_cell_tmp rfl (b := w.heap.size) (t := 42) (fr := (0, 0)) rfl (cs := #[.int .i64 0, .slice none 0 0]) ?_ (Tryz.underlying42) rfl (by kernel_rfl) rfl ?_
  ·exact heap_alloc_new w _
  ·exact .inl ⟨by rw [HCD.out]; decide, by rw [HCD.out]; rfl, HU⟩
 case neg =>
  have HCD : Hid (baCode s = 0) := by show _ = _; unfold baCode; rw [if_neg ho, if_neg hq]
  have hqz : (((waitL s).length : Int) == 0) = false := by rw [beq_eq_false_iff_ne]; omega
  have hqn : ¬ ((waitL s).length : Int) = 0 := by omega
  have HN : Hid (baNext s = { s with out := formN (waitL s) }) := if_pos HCD.out
  have HFB := Lib.hid (formN_bd (waitL s))
  have hml : ∀ t ∈ waitL s, t.puts.length ≤ 1000000 := fun t ht => by
   unfold waitL at ht
   obtain ⟨x, hx, rfl⟩ := List.mem_map.1 ht
   have := (HG.out.tx _ (txAt_mem (HG.out.qr x hx).1 (HG.out.qr x hx).2)).bl
   unfold waitTx
   simp only
   rw [bufPuts_len, txOf_txAt]
   omega
  have HFM := Lib.hid (rform_any HQT.out hml)
  clear hml hlenq hq
  go_enter Tryz.func84, Tryz.ntmps84
  go_wp2_with fail
  refine (HFM.out).mono ?_
  rintro e w3 ⟨rfl, hb3⟩
  have HS3 := Lib.hid (h'.out.up hb3)
  have HT3 := Lib.hid (TxsAt.up HQT.out hb3)
  have d8 := cell_up hb3 m8
  have f8 := rm_fz HS3.out 8
  have hS4 := rm_store HS3.out 8 (.int .i64 (formN (waitL s))) { s with out := formN (waitL s) } rfl rfl rfl rfl rfl rfl
  rw [← HN.out] at hS4
  have hOK := HC.out.outs (formN (waitL s) : Int)
  rw [← HN.out] at hOK
  obtain ⟨hnum0, hnum1⟩ := HG.out.nm
  have hwr : IntKind.i64.wrap (s.num + 1) = s.num + 1 := IntWalk.i64_in _ (by omega)
  obtain ⟨A, hA1, hA2, hA3⟩ := txCut_to qp (waitL s).length qc (formN (waitL s)) (by have := HFB.out; have := HQC.out; omega)
  have hS5 := hS4.up (below_drewN (Below.refl (w3.setCell ⟨c.mb, 8, none⟩ (.int .i64 (formN (waitL s)))).heap.size (w3.setCell ⟨c.mb, 8, none⟩ (.int .i64 (formN (waitL s))))) 1)
  have hGB : MgG N (baNext s) := HG.out.batches
  have hbi : (OL (L ++ [BoxA w.heap.size #[.int .i64 0, .slice none 0 0] 42]) i (rmItems c (baNext s)))[L.length]? = some (BoxA w.heap.size #[.int .i64 0, .slice none 0 0] 42) := by
   rw [OL_old (by simp) (by have := HI.out; omega), List.getElem?_append_right (Nat.le_refl _), Nat.sub_self]; rfl
  have hN4 : (baNext s).out = (formN (waitL s) : Int) := by rw [HN.out]
  have hN5 : (baNext s).num = s.num := by rw [HN.out]
  have hN6 : waitL (baNext s) = waitL s := by rw [HN.out]; rfl
  have e6 := rm_cell hS5 6
  have e8 := rm_cell hS5 8
  have e9 := rm_cell hS5 9
  change _ = some c.qv at e6
  change _ = some (Value.int .i64 (baNext s).out) at e8
  change _ = some (Value.int .i64 (baNext s).num) at e9
  rw [HQV.out] at e6
  rw [hN4] at e8
  rw [hN5] at e9
  have HS5 := Lib.hid hS5
  have HS4 := Lib.hid hS4
  have HOKK := Lib.hid hOK
  have HGB := Lib.hid hGB
  have HN6 := Lib.hid hN6
  have HNN := Lib.hid (And.intro hN4 hN5)
  clear hS4 hS5 hOK hGB hN4 hN5 hN6 hnum0 hnum1
  obtain ⟨FB, hFB, _⟩ := HS3.out.get L.length (A := BoxA w.heap.size #[.int .i64 0, .slice none 0 0] 42) (by rw [OL_old (by simp) (by have := HI.out; omega), List.getElem?_append_right (Nat.le_refl _), Nat.sub_self]; rfl)
  have bf0 : w3.frozen? ⟨w.heap.size, 0, none⟩ = false := frozen_row0 hFB.2 0
  have bf1 : w3.frozen? ⟨w.heap.size, 1, none⟩ = false := frozen_row0 hFB.2 1
  have bc0 : w3.cell? ⟨w.heap.size, 0, none⟩ = some (.int .i64 0) := by rw [cell_row hFB.2]; rfl
  have bc1 : w3.cell? ⟨w.heap.size, 1, none⟩ = some (.slice none 0 0) := by rw [cell_row hFB.2]; rfl
  clear hFB m8 m6
  go_upto_region 6 with fail
  refine wp_regionG (fun W => W.cell? ⟨c.mb, 6, none⟩ = some (.slice qp (waitL s).length qc) ∧ W.cell? ⟨c.mb, 8, none⟩ = some (.int .i64 (formN (waitL s))) ∧ W.cell? ⟨c.mb, 9, none⟩ = some (.int .i64 s.num)) (n := 17) (by kernel_rfl) (by kernel_rfl) ?_
  refine wpG.tk 0 ?_
  refine wpG.tk 1 ?_
  refine wpG.tk 2 ?_
  refine wpG.tk 3 ?_ (hy := by intro W hW; have hld0 := hW.2.2; go_simp; try with_reducible rfl)
  refine wpG.tk 4 ?_
  refine wpG.tk 5 ?_
  refine wpG.tk 6 ?_
  refine wpG.tk 7 ?_
  refine wpG.tk 8 ?_ (hy := by intro W hW; have hld0 := hW.1; go_simp; try with_reducible rfl)
  refine wpG.tk 9 ?_
  refine wpG.tk 10 ?_
  refine wpG.tk 11 ?_
  refine wpG.tk 12 ?_ (hy := by intro W hW; have hld0 := hW.2.1; go_simp; try with_reducible rfl)
  refine wpG.tk 13 ?_
  refine wpG.tk 14 ?_
  refine wpG.alone 15 rfl (by kernel_rfl) (by kernel_rfl) ⟨e6, e8, e9⟩ (fun K hK => ?_)
  go_simp
  have hs6 := HS4.out.box_store L.length hbi 0 (.int .i64 (s.num + 1))
  have hs7 := hs6.box_store L.length (List.getElem?_set_self (List.getElem?_eq_some_iff.1 hbi).1) 1 (.slice A (formN (waitL s)) qc)
  rw [List.set_set] at hs7
  have hs8 := hs7.up (below_drewN (Below.refl _ _) 1)
  have hle : ((OL (L ++ [BoxA w.heap.size #[.int .i64 0, .slice none 0 0] 42]) i (rmItems c (baNext s))).set L.length (BoxA w.heap.size #[.int .i64 (s.num + 1), .slice A (formN (waitL s)) qc] 42)) = OL (L ++ [BoxA w.heap.size #[.int .i64 (s.num + 1), .slice A (formN (waitL s)) qc] 42]) i (rmItems c (baNext s)) := by
   unfold OL
   have hiL := HI.out
   rw [List.set_append_left _ _ hiL, List.set_append_left _ _ hiL, List.append_assoc, List.append_assoc]
   have e0 : (L.set i TrueA).length = L.length := List.length_set ..
   rw [List.set_append_right _ _ (by rw [e0]; exact Nat.le_refl _), e0, Nat.sub_self]
   rfl
  have hs10 : Sep W (OL (L ++ [BoxA w.heap.size #[.int .i64 (s.num + 1), .slice A (formN (waitL s)) qc] 42]) i (rmItems c (baNext s))) _ := hle ▸ hs8
  obtain ⟨FX, hFX, _⟩ := hs10.get L.length (A := BoxA w.heap.size #[.int .i64 (s.num + 1), .slice A (formN (waitL s)) qc] 42) (by rw [OL_old (by simp) (by have := HI.out; omega), List.getElem?_append_right (Nat.le_refl _), Nat.sub_self]; rfl)
  have hheap := hFX.2
  have g6 := rm_cell hs10 6
  have g8 := rm_cell hs10 8
  have g9 := rm_cell hs10 9
  change _ = some c.qv at g6
  change _ = some (Value.int .i64 (baNext s).out) at g8
  change _ = some (Value.int .i64 (baNext s).num) at g9
  rw [HQV.out] at g6
  rw [HNN.out.1] at g8
  rw [HNN.out.2] at g9
  have hfin := hs10.unbox HI.out
  rw [List.append_nil] at hfin
  obtain ⟨hqt2, _, _⟩ := rm_queue hs10 HOKK.out HGB.out
  rw [HN6.out, HQV.out] at hqt2
  have hqt3 := TxsAt.take (l := waitL s) hqt2 _ (formN_bd _).1 hA2 hA3
  have HFIN := Lib.hid hfin
  have HHP := Lib.hid hheap
  have HQ3 := Lib.hid hqt3
  clear hs6 hs7 hs8 hle hs10 hFX hheap hbi bc0 bc1 bf0 bf1 d8 f8 hqt2 hqt3 hfin
  try go_simp
  refine hK _ _ ?_
  clear hK K
  refine wpG.tk 16 ?_
  refine wpG.done (by kernel_rfl) ⟨g6, g8, g9⟩ ?_
  go_wp2
  (try simp only [Exit.inBlock, Exit.then])
  refine ret_cell_tmp rfl (b := w.heap.size) (t := 42) (fr := (0, 0)) rfl (cs := #[.int .i64 (s.num + 1), .slice A (formN (waitL s)) qc]) ?_ (Tryz.underlying42) rfl (by kernel_rfl) rfl ?_
  ·exact HHP.out
  ·exact .inr ⟨HCD.out, HOKK.out, A, qc, rfl, HFIN, HQ3⟩
end
end Go.Proofs