/- TxnPrunes. -/
import Derived.Test.YtajjadoalfjnkaaGreatPrunes23P
import Derived.Test.YtajjadoalfjnkaaGreatPl13
namespace Sc
open Go Go.RowKit
def DatB (vals : List Value) (ls : List Bytes) : Asn := ⟨fun F w => All2 (BytesAt F w) vals ls, fun _ _ _ hs _ h => h.imp fun _ _ hb => hb.same hs⟩
theorem all2_snocB {α β : Type} {R : α → β → Prop} {a : α} {b : β} (h : R a b) : ∀ {l : List α} {m : List β}, All2 R l m → All2 R (l ++ [a]) (m ++ [b])
 | [], [], _ => ⟨h, trivial⟩
 | _ :: _, _ :: _, ⟨h1, h2⟩ => ⟨h1, all2_snocB h h2⟩
 | [], _ :: _, h' => h'.elim
 | _ :: _, [], h' => h'.elim
theorem Sep.dat_join {W w : World} {L : List Asn} {v : Value} {d : Bytes} (h : Sep W (L ++ [BytesWA v d]) w) (i : Nat) {vals : List Value} {ls : List Bytes} (hi : L[i]? = some (DatB vals ls)) : Sep W (L.set i (DatB (vals ++ [v]) (ls ++ [d]))) w := by
 have hil : i < L.length := (List.getElem?_eq_some_iff.1 hi).1
 obtain ⟨F, F2, G, hA, hB, _, _, _, _, _, _, K⟩ := h.both i L.length (by omega) (by rw [List.getElem?_append_left hil]; exact hi) (by rw [List.getElem?_append_right (Nat.le_refl _), Nat.sub_self]; rfl)
 have hk := K w (fun k => F k ∨ F2 k) (DatB (vals ++ [v]) (ls ++ [d])) (Chg.refl _ _) (fun k hk => .inl hk) (all2_snocB (BytesAt.mono (BytesW.bytes hB) fun _ h => .inr h) (All2.imp (fun _ _ (h : BytesAt F w _ _) => h.mono fun _ h => .inl h) hA))
 have := hk.take L.length
 rw [List.set_append_right _ _ (Nat.le_refl _), Nat.sub_self] at this
 change Sep W (((L ++ [TrueA]).set i (DatB (vals ++ [v]) (ls ++ [d]))).take L.length) w at this
 rw [List.set_append_left _ _ hil, List.take_left' (by simp)] at this
 exact this
theorem all2_init {α β : Type} {R : α → β → Prop} {a : α} {b : β} : ∀ {l : List α} {m : List β}, l.length = m.length → All2 R (l ++ [a]) (m ++ [b]) → All2 R l m ∧ R a b
 | [], [], _, ⟨h, _⟩ => ⟨trivial, h⟩
 | _ :: _, _ :: _, hl, ⟨h1, h2⟩ => by
  obtain ⟨h3, h4⟩ := all2_init (by simpa using hl) h2
  exact ⟨⟨h1, h3⟩, h4⟩
 | [], _ :: _, hl, _ => by simp at hl
 | _ :: _, [], hl, _ => by simp at hl
end Sc
namespace Go.Proofs
open Go.RowKit Sc
theorem infoRowB : (Tryz.prog.info? 30).map (fun i => (i.zero, i.size, i.bytes)) = some (some (.slice none 0 0), 1, 24) := by kernel_rfl
theorem pn_read {W w : World} {m : Nat} {s : MgS} {N : Nat} {vals : List Value} {ds : List Bytes} {T : List Asn} (h : Hid (Sep W (OldA W :: MgrA (pt m) s :: DatB vals ds :: T) w)) (g : MgG N s) (hn : N ≤ 1000000) (hd : Int) (e : Ext) (i1 : I64 e.first) (i2 : I64 e.len) :
  Calls Tryz.prog 34 #[.pointer (some ⟨m, 0, none⟩), .int .i64 hd, .agg #[.int .i64 e.first, .int .i64 e.len]] w fun r w' => ∃ p k c q, r = .returned (.tuple #[.slice p k c, .int .i64 q]) ∧ Hid (Sep W (OldA W :: MgrA (pt m) (rdNext s hd e) :: DatB (vals ++ [.slice p k c]) (ds ++ [rdB s hd e]) :: T) w') := by
 refine (mgRead_sep h 1 rfl g hn hd e i1 i2).mono ?_
 rintro r w' (⟨h1, rfl, hS⟩ | ⟨h1, gg, o, cp, rfl, hS⟩)
 ·refine ⟨none, 0, 0, _, rfl, ?_⟩
  have e1 : rdNext s hd e = s := by unfold rdNext; rw [if_neg h1]
  have e2 : rdB s hd e = [] := by unfold rdB; rw [if_neg h1]
  rw [e1, e2]
  have := hS.out.imp 2 (A' := DatB (vals ++ [Value.slice none 0 0]) (ds ++ [([] : Bytes)])) rfl fun F _ hF => all2_snocB SlAt.nil hF
  exact Lib.hid this
 ·refine ⟨_, _, _, _, rfl, ?_⟩
  have e2 : rdB s hd e = rdOut s hd e := by unfold rdB; rw [if_pos h1]
  rw [e2]
  have hs : Sep W ((OldA W :: MgrA (pt m) (rdNext s hd e) :: DatB vals ds :: T) ++ [BytesWA (.slice (some ⟨gg, o, none⟩) (40 * e.len.toNat) cp) (rdOut s hd e)]) w' := hS.out
  exact Lib.hid (hs.dat_join 2 rfl)
theorem rdTo_good {N : Nat} {s : MgS} (g : MgG N s) (e : Ext) : ∀ j, MgG (N + 16 * j) (rdTo s e j)
 | 0 => g
 | j + 1 => ((rdTo_good g e j).reads ((j : Int) + 1) e).mono (by omega)
def rdL (s : MgS) (e : Ext) (k : Nat) : List Bytes := (List.range k).map fun j : Nat => rdB (rdTo s e j) ((j : Int) + 1) e
theorem rdL_len (s : MgS) (e : Ext) (k : Nat) : (rdL s e k).length = k := by unfold rdL; simp
theorem rdL_succ (s : MgS) (e : Ext) (k : Nat) : rdL s e (k + 1) = rdL s e k ++ [rdB (rdTo s e k) ((k : Int) + 1) e] := by unfold rdL; rw [List.range_succ, List.map_append]; rfl
theorem rdL_get (s : MgS) (e : Ext) {n k : Nat} (hk : k < n) : (rdL s e n)[k]'(by rw [rdL_len]; exact hk) = rdB (rdTo s e k) ((k : Int) + 1) e := by unfold rdL; simp
theorem ssz_atP {l : List Step23} {k : Nat} (h : k < l.length) : l[k].puts.length ≤ ssz23 l := by
 have h1 : ssz23 (l.take (k + 1)) = ssz23 (l.take k) + (psz l[k].puts + 3) := by
  unfold ssz23
  rw [take_snoc l k h, List.map_append, List.sum_append]; simp
 have h2 : ssz23 l = ssz23 (l.take (k + 1)) + ssz23 (l.drop (k + 1)) := by
  unfold ssz23
  rw [← List.sum_append, ← List.map_append, List.take_append_drop]
 have h3 : l[k].puts.length ≤ psz l[k].puts := by unfold psz; omega
 omega
set_option maxRecDepth 100000 in
set_option maxHeartbeats 16000000 in
theorem prunes23_any (v : Value) (l : List Step23) (a c : Int) (w : World) (ia : I64 a) (ic : I64 c) (hv : Steps23 (Old w) w v l) : Calls Tryz.prog 14 #[v, .agg #[.int .i64 a, .int .i64 c]] w (Tru w) := by
 have hbx := below_alloc w (.cells #[.int .i64 a, .int .i64 c] 56 (0, 0))
 have hnw := heap_alloc_new w (.cells #[.int .i64 a, .int .i64 c] 56 (0, 0))
 obtain ⟨W1, hW1⟩ : ∃ W1, w.alloc (.cells #[.int .i64 a, .int .i64 c] 56 (0, 0)) = W1 := ⟨_, rfl⟩
 rw [hW1] at hbx hnw
 obtain ⟨bx, hbxe⟩ : ∃ bx, w.heap.size = bx := ⟨_, rfl⟩
 rw [hbxe] at hnw
 have x0 : W1.cell? ⟨bx, 0, none⟩ = some (.int .i64 a) := by rw [cell_row hnw]; rfl
 have x1 : W1.cell? ⟨bx, 1, none⟩ = some (.int .i64 c) := by rw [cell_row hnw]; rfl
 have hsm := small23_any (Old w) v l W1 (fun b hb => Nat.lt_of_lt_of_le hb hbx.size) (hv.up hbx)
 obtain ⟨p, cp, rfl, _, _, _, g4⟩ := hv
 have HSM := Lib.hid hsm
 have HG4 := Lib.hid g4
 have HBX := Lib.hid hbx
 have IA := Lib.hid ia
 have IC := Lib.hid ic
 clear hsm g4 hnw hbx ia ic
 go_enter Tryz.func14, Tryz.ntmps14
 go_upto_region 1 with fail
 try rw [hW1]
 try rw [hbxe]
 clear hW1 hbxe
 go_wp2_with fail
 refine (HSM.out).mono ?_
 rintro e w1 ⟨q, rfl, hq, hb1⟩
 have HB1 := Lib.hid hb1
 clear hb1
 cases q with
 | false =>
  go_wp2_with fail
  refine (awake23 _).mono ?_
  rintro e w2 ⟨rfl, hb2⟩
  have HB2 := Lib.hid (Below.up HBX.out (Below.up HB1.out hb2))
  go_wp2
  go_ret
  exact ⟨rfl, HB2.out⟩
 | true =>
 have hlen := (hq rfl).2
 have HQ := Lib.hid hq
 clear hq HSM
 have HS0 := Lib.hid ((Sep.start W1).up HB1.out)
 go_wp2_with fail
 refine (mgrNew_sep HS0 20 0 (by omega) (by omega) (by omega) (by omega)).mono ?_
 rintro e w3 ⟨m, rfl, HS3⟩
 clear HS0
 go_wp2_with fail
 refine (rmgrNew_sep HS3 20 0 (by omega) (by omega) (by omega) (by omega)).mono ?_
 rintro e w4 ⟨r, rfl, HS4⟩
 have HS4 : Hid (Sep W1 [OldA W1, MgrA (pt m) (mgNew 20 0), RMgrA (pt r) (mgNew 20 0)] w4) := HS4
 have HG1 : Hid (MgG 0 (mgNew 20 0) ∧ (mgNew 20 0).out ≤ 8) := ⟨MgG.new (by omega) (by omega) (by omega) (by omega), by show (0 : Int) ≤ 8; omega⟩
 clear HS3
 generalize mgNew 20 0 = S0 at *
 go_wp2_with fail
 go_loopw [9, 10] (fun s9 s10 wr => ∃ k n : Nat, ∃ s : MgS, k ≤ l.length ∧ n ≤ k ∧ s10 = .int .i64 (k : Int) ∧ s9 = .int .i64 (n : Int) ∧ Hid (MgG (128 * k) s ∧ s.out ≤ 8) ∧ Hid (Sep W1 [OldA W1, MgrA (pt m) s, RMgrA (pt r) s] wr)) (fun _ s10 _ => l.length - (intOf s10).toNat)
 case atStart => exact ⟨0, 0, S0, Nat.zero_le _, Nat.le_refl _, by go_num, by go_num, HG1, HS4⟩
 case round =>
  obtain ⟨k, n, s, hk, hnk, rfl, rfl, HG, HS⟩ := hrel
  clear HG1 HS4
  by_cases hlt : k < l.length
  case pos =>
   have hki : (k : Int) < (l.length : Int) := by omega
   obtain ⟨b, o, rfl, hb, hc0, ik, hc1, ih, hc2, hc3, ie1, ie2, ⟨pv, hc4, hp⟩, hc5, in5⟩ := HG4.out k hlt
   have hbw := Below.up HBX.out HS.out.old
   have hc0' := cell_up hbw hc0
   have hc1' := cell_up hbw hc1
   have hc2' := cell_up hbw hc2
   have hc3' := cell_up hbw hc3
   have hc4' := cell_up hbw hc4
   have hc5' := cell_up hbw hc5
   have hpl := ssz_atP hlt
   generalize l[k] = x at hpl hc0 ik hc1 ih hc2 hc3 ie1 ie2 hc4 hp hc5 in5 hc0' hc1' hc2' hc3' hc4' hc5'
   obtain ⟨kd, hh, ⟨xf, xl⟩, ps, nn⟩ := x
   clear hc1 hc2 hc3 hc4 hc5 hbw
   obtain ⟨pp, pc, rfl⟩ : ∃ pp pc, pv = .slice pp ps.length pc := putsAt_shape hp
   have hpl' : ps.length ≤ 400000 := by have := (HQ.out trivial).1; exact Nat.le_trans hpl (by omega)
   have hp1 : PutsAt (Old W1) W1 (.slice pp ps.length pc) ps := (PutsAt.up hp HBX.out).mono fun q hq => Nat.lt_of_lt_of_le hq HBX.out.size
   simp only at hc0' hc1' hc2' hc3' hc4' hc5' hc0
   have HD := Lib.hid (does23_any HS HG.out.1 HG.out.2 (by omega) kd hh xf xl nn pp pc ps hp1 ih ie1 ie2 hpl')
   have hst := stDo_good HG.out.1 HG.out.2 (by omega) ⟨kd, hh, ⟨xf, xl⟩, ps, nn⟩
   have HST : Hid (MgG (128 * (k + 1)) (stDo s ⟨kd, hh, ⟨xf, xl⟩, ps, nn⟩) ∧ (stDo s ⟨kd, hh, ⟨xf, xl⟩, ps, nn⟩).out ≤ 8) := ⟨hst.1.mono (by omega), hst.2⟩
   have HC0 := Lib.hid hc0
   clear hp hp1 hpl hpl' ik ih ie1 ie2 in5 hst hc0 HS
   go_wp2_with fail
   refine (HD.out).mono ?_
   rintro e w7 ⟨rfl, HS7⟩
   generalize stDo s ⟨kd, hh, ⟨xf, xl⟩, ps, nn⟩ = s2 at *
   have y0 := cell_up (Below.up HBX.out HS7.out.old) HC0.out
   clear HD hc0' hc1' hc2' hc3' hc4' hc5'
   by_cases hkd : kd = 1
   case pos =>
    subst hkd
    go_wp2_with fail
    go_roundw
    case rel => exact ⟨k + 1, n + 1, s2, by omega, by omega, by go_num, by go_num, HST, HS7⟩
    case measure => simp [intOf]; omega
   case neg =>
    have hkb : (kd == 1) = false := by rw [beq_eq_false_iff_ne]; exact hkd
    clear hkd
    go_wp2_with fail
    go_roundw
    case rel => exact ⟨k + 1, n, s2, by omega, by omega, by go_num, by go_num, HST, HS7⟩
    case measure => simp [intOf]; omega
  case neg =>
   obtain rfl : k = l.length := by omega
   have hki : ¬ ((l.length : Int) < (l.length : Int)) := by omega
   have hn150 : n ≤ 150 := by omega
   have HGN : Hid (MgG 20000 s) := HG.out.1.mono (by omega)
   have HS2 : Hid (Sep W1 [OldA W1, MgrA (pt m) (rdTo s ⟨a, c⟩ 0), DatB [] (rdL s ⟨a, c⟩ 0), RowA 30 1 (.slice none 0 0) 0 []] wr) := ((HS.out.take 2).new (Below.refl _ _) (DatB [] []) (F := fun _ => False) (fun _ h => h.elim) trivial).new (Below.refl _ _) (RowA 30 1 (.slice none 0 0) 0 []) (F := fun _ => False) (fun _ h => h.elim) ⟨World.ownsRow_nil _ _ _ _, by simp [Value.ownBlock]⟩
   obtain ⟨w9, rfl⟩ : ∃ w9 : World, w9 = wr := ⟨_, rfl⟩
   clear HG hlt hk HS hnk HQ
   go_wp2_with fail
   clear hki
   go_loopw [11, 12] (fun s11 s12 wr => ∃ k : Nat, ∃ vals pr cr, k ≤ n ∧ s12 = .int .i64 ((k : Int) + 1) ∧ s11 = .slice pr k cr ∧ Hid (vals.length = k) ∧ Hid (Sep W1 [OldA W1, MgrA (pt m) (rdTo s ⟨a, c⟩ k), DatB vals (rdL s ⟨a, c⟩ k), RowA 30 1 (.slice pr k cr) k vals] wr)) (fun _ s12 _ => n + 1 - (intOf s12).toNat)
   case atStart => exact ⟨0, [], none, 0, Nat.zero_le _, by go_num, rfl, rfl, HS2⟩
   case round =>
    clear HS2
    obtain ⟨k, vals, pr, cr, hk, rfl, rfl, HVL, HS⟩ := hrel
    have z0 := cell_up HS.out.old x0
    have z1 := cell_up HS.out.old x1
    by_cases hlt : k < n
    case pos =>
     have hki : (k : Int) + 1 ≤ (n : Int) := by omega
     have hgk := rdTo_good HGN.out ⟨a, c⟩ k
     have HRD := Lib.hid (pn_read HS hgk (by omega) ((k : Int) + 1) ⟨a, c⟩ IA.out IC.out)
     have hsu := rdL_succ s ⟨a, c⟩ k
     have HSU := Lib.hid hsu
     clear hgk hsu
     go_wp2_with fail
     refine (HRD.out).mono ?_
     rintro e w10 ⟨dp, dk, dc, dq, rfl, hS7⟩
     have hS7' := hS7.out
     rw [← HSU.out] at hS7'
     have HS7 : Hid (Sep W1 [OldA W1, MgrA (pt m) (rdTo s ⟨a, c⟩ (k + 1)), DatB (vals ++ [.slice dp dk dc]) (rdL s ⟨a, c⟩ (k + 1)), RowA 30 1 (.slice pr k cr) k vals] w10) := hS7'
     clear hS7 hS7' HRD HS z0 z1
     obtain ⟨FA, hFA, _⟩ := HS7.out.get 3 rfl
     have hrowA := hFA.1
     obtain ⟨iiA, hiiA, hizA, hiyA, hixA⟩ := info_parts infoRowB
     have HROWA := Lib.hid hrowA
     clear hFA hrowA
     go_wp2_with (at_builtin; refine wpList_append_lies _ rfl _ _ 65 rfl 0 30 iiA (.slice none 0 0) 1 24 Tryz.underlying65 hiiA hizA hiyA hixA rfl (by decide) _ (k) (vals) rfl (HROWA.out.alloc _) ⟨w10.heap.size, 0, none⟩ 1 1 [.slice dp dk dc] rfl rfl (World.news_of_block (cs := #[.slice dp dk dc]) (heap_alloc_new w10 _)) (by simp [Value.oneCell']) (by decide) (by unfold maxLen; omega) (by omega) (Nat.zero_le _) (w10.heap.size + 1) (by simp) ?_; intro gA cA wA hownA hgrowA hatA hltA)
     have hSA := HS7.out.row_app 3 rfl (below_alloc _ _) hownA hgrowA hatA (by simp) hltA
     clear hownA hgrowA hatA hltA hiiA hizA hiyA hixA
     have HSA := Lib.hid hSA
     clear hSA
     go_wp2_with fail
     go_roundw
     case rel => exact ⟨k + 1, _, _, _, by omega, by go_num, rfl, by unfold Hid; rw [List.length_append, HVL.out, List.length_singleton], HSA⟩
     case measure => simp [intOf]; omega
    case neg =>
     obtain rfl : k = n := by omega
     have hki : ¬ ((k : Int) + 1 ≤ (k : Int)) := by omega
     have hgk := rdTo_good HGN.out ⟨a, c⟩ k
     have HGK : Hid (MgG 40000 (rdTo s ⟨a, c⟩ k)) := hgk.mono (by omega)
     have hag := fun j (hj : j < k) => rd_again HGN.out ⟨a, c⟩ hj
     have HAG := Lib.hid hag
     have HPA := Lib.hid (pr_again (rdTo s ⟨a, c⟩ k) ⟨a, c⟩ k)
     obtain ⟨w11, rfl⟩ : ∃ w11 : World, w11 = wr := ⟨_, rfl⟩
     have HLL := Lib.hid (rdL_len s ⟨a, c⟩ k)
     have HLG : Hid (∀ j (hj : j < k) (h : j < (rdL s ⟨a, c⟩ k).length), (rdL s ⟨a, c⟩ k)[j]'h = rdB (rdTo s ⟨a, c⟩ j) ((j : Int) + 1) ⟨a, c⟩) := Lib.hid fun j hj _ => rdL_get s ⟨a, c⟩ hj
     have HDU := Lib.hid (mgDump_sep HS 1 rfl HGK.out (by omega))
     have hnp := nVers_prune (prH (rdTo s ⟨a, c⟩ k)) (rdTo s ⟨a, c⟩ k).vs
     have hnv := HGK.out.nv
     have HGP : Hid (MgG 40000 (prNext (rdTo s ⟨a, c⟩ k))) := HGK.out.prunes
     clear hgk hag z0 z1 hlt hk
     generalize rdL s ⟨a, c⟩ k = ds at *
     generalize hs' : rdTo s ⟨a, c⟩ k = s' at HDU HS HGK HPA hnp hnv HGP HAG
     clear hs'
     go_wp2_with fail
     refine (HDU.out).mono ?_
     rintro e w12 ⟨dp, dc, rfl, hpw, hb12⟩
     have HS12 : Hid (Sep W1 [OldA W1, MgrA (pt m) s', DatB vals ds, RowA 30 1 (.slice pr k cr) k vals, PutsWA (.slice dp (dumpV s'.vs).length dc) (dumpV s'.vs)] w12) := HS.out.new hb12.out (PutsWA (.slice dp (dumpV s'.vs).length dc) (dumpV s'.vs)) (fun _ h => h) hpw.out
     have HVE := Lib.hid (mgVersions_below HS12 1 rfl HGK.out (by omega))
     clear HDU hpw hb12 HS
     go_wp2_with fail
     refine (HVE.out).mono ?_
     rintro e w13 ⟨rfl, hb13⟩
     have HS13 := Lib.hid (HS12.out.up hb13.out)
     clear hb13
     have HPR := Lib.hid (mgPrune_sep HS13 1 rfl HGK.out (by omega))
     clear HVE HS12
     go_wp2_with fail
     refine (HPR.out).mono ?_
     rintro e w14 ⟨rfl, hS14⟩
     have HS14 : Hid (Sep W1 [OldA W1, MgrA (pt m) (rdTo (prNext s') ⟨a, c⟩ 0), DatB vals ds, RowA 30 1 (.slice pr k cr) k vals, PutsWA (.slice dp (dumpV s'.vs).length dc) (dumpV s'.vs)] w14) := hS14
     clear HPR hS14 HS13
     have hvB : ∀ j, (rdTo (prNext s') ⟨a, c⟩ j).vs = pruneVs (prH s') s'.vs := fun j => (rdTo_as (prNext s') ⟨a, c⟩ j).1
     have HVB := Lib.hid hvB
     clear hvB
     generalize hA : nVers s'.vs = A at *
     generalize hB : nVers (pruneVs (prH s') s'.vs) = B at *
     have HBB := Lib.hid hB
     clear hA hB
     go_wp2_with fail
     clear hki
     go_loopw [18] (fun s18 wr => ∃ j : Nat, j ≤ k ∧ s18 = .int .i64 ((j : Int) + 1) ∧ Hid (Sep W1 [OldA W1, MgrA (pt m) (rdTo (prNext s') ⟨a, c⟩ j), DatB vals ds, RowA 30 1 (.slice pr k cr) k vals, PutsWA (.slice dp (dumpV s'.vs).length dc) (dumpV s'.vs)] wr)) (fun s18 _ => k + 1 - (intOf s18).toNat)
     case atStart => exact ⟨0, Nat.zero_le _, by go_num, HS14⟩
     case round =>
      clear HS14
      obtain ⟨j, hj, rfl, HS⟩ := hrel
      by_cases hlt : j < k
      case pos =>
       have z0 := cell_up HS.out.old x0
       have z1 := cell_up HS.out.old x1
       have hki : (j : Int) + 1 ≤ (k : Int) := by omega
       have hgk := rdTo_good HGP.out ⟨a, c⟩ j
       have HRD := Lib.hid (pn_read HS hgk (by omega) ((j : Int) + 1) ⟨a, c⟩ IA.out IC.out)
       clear hgk
       go_wp2_with fail
       refine (HRD.out).mono ?_
       rintro e w15 ⟨ep, ek, ec, eq, rfl, hS15⟩
       have hr3 := hS15.out.get 3 rfl
       obtain ⟨F3, hF3, _⟩ := hr3
       obtain ⟨gr, cr', hre, _⟩ := hF3.1.form (by omega)
       cases hre
       have hcell := hF3.1.cellAt j (by omega)
       obtain ⟨F2, hF2, _⟩ := hS15.out.get 2 rfl
       have hll : vals.length = ds.length := by rw [HVL.out, HLL.out]
       obtain ⟨hd1, hd2⟩ := all2_init hll hF2
       have hdj := All2.get hd1 j (by rw [HVL.out]; exact hlt) (by rw [HLL.out]; exact hlt)
       rw [HLG.out j hlt _] at hdj
       rw [HAG.out j hlt] at hd2
       rw [List.getElem?_eq_getElem (by rw [HVL.out]; exact hlt)] at hcell
       obtain ⟨vp, vn, vc, hve⟩ : ∃ p n c, vals[j]'(by rw [HVL.out]; exact hlt) = .slice p n c := by obtain ⟨p, cc, e, _⟩ := id hdj; exact ⟨p, _, cc, e⟩
       rw [hve] at hcell hdj
       have HBY := Lib.hid (bytes_any (fun _ => True) (.slice ep ek ec) (.slice vp vn vc) _ _ w15 (BytesAt.mono hd2 fun _ _ => trivial) (BytesAt.mono hdj fun _ _ => trivial))
       have HS16 : Hid (Sep W1 [OldA W1, MgrA (pt m) (rdTo (prNext s') ⟨a, c⟩ (j + 1)), DatB vals ds, RowA 30 1 (.slice (some ⟨gr, 0, none⟩) k cr) k vals, PutsWA (.slice dp (dumpV s'.vs).length dc) (dumpV s'.vs)] w15) := hS15.out.imp 2 (A' := DatB vals ds) rfl fun F _ hF => (all2_init hll hF).1
       have hw1 : IntKind.i64.wrap ((j : Int) + 1 - 1) = (j : Int) := by rw [IntWalk.i64_in _ (by omega)]; omega
       have hw2 : (j : Int) + 1 - 1 = j := by omega
       have hjI : (j : Int) < (k : Int) := by omega
       rw [beq_self_eq_true] at HBY
       clear HRD hS15 hF3 hF2 hll hd1 hd2 hdj hve z0 z1 HS
       go_wp2_with fail
       refine (HBY.out).mono ?_
       rintro e w17 ⟨rfl, hb17⟩
       have HS17 := Lib.hid (HS16.out.up hb17)
       clear HBY hb17 HS16 hcell
       go_wp2_with fail
       go_roundw
       case rel => exact ⟨j + 1, by omega, by go_num, HS17⟩
       case measure => simp [intOf]; omega
      case neg =>
       obtain rfl : j = k := by omega
       have hki : ¬ ((j : Int) + 1 ≤ (j : Int)) := by omega
       have hgk := rdTo_good HGP.out ⟨a, c⟩ j
       have HGU : Hid (MgG 60000 (rdTo (prNext s') ⟨a, c⟩ j)) := hgk.mono (by omega)
       have HVE := Lib.hid (mgVersions_below HS 1 rfl HGU.out (by omega))
       rw [HVB.out, HBB.out] at HVE
       obtain ⟨hp1, hp2, _⟩ := HPA.out
       have HP1 := Lib.hid hp1
       have HP2 := Lib.hid hp2
       have hww : IntKind.i64.wrap ((A : Int) - ((A - B : Nat) : Int)) = (B : Int) := by rw [IntWalk.i64_in _ (by omega)]; omega
       have hbb : ((B : Int) == (B : Int)) = true := by simp
       clear hgk hp1 hp2 HPA hlt hj
       go_wp2_with fail
       refine (HVE.out).mono ?_
       rintro e w18 ⟨rfl, hb18⟩
       have HS18 := Lib.hid (HS.out.up hb18.out)
       clear hb18
       have hpr := mgPrune_sep HS18 1 rfl HGU.out (by omega)
       rw [HP1.out] at hpr
       have hpr2 : Calls Tryz.prog 39 #[.pointer (some ⟨m, 0, none⟩)] w18 fun e w' => e = .returned (.int .i64 0) ∧ _ := hpr
       have HPR := Lib.hid hpr2
       clear hpr hpr2 HVE
       go_wp2_with fail
       refine (HPR.out).mono ?_
       rintro e w19 ⟨rfl, hS19⟩
       have HS19 : Hid (Sep W1 [OldA W1, MgrA (pt m) (prNext (rdTo (prNext s') ⟨a, c⟩ j)), DatB vals ds, RowA 30 1 (.slice pr j cr) j vals, PutsWA (.slice dp (dumpV s'.vs).length dc) (dumpV s'.vs)] w19) := hS19
       have HDU := Lib.hid (mgDump_sep HS19 1 rfl HGU.out.prunes (by omega))
       rw [HP2.out] at HDU
       clear HPR hS19 HS18 HS
       go_wp2_with fail
       refine (HDU.out).mono ?_
       rintro e w20 ⟨fp, fc, rfl, hpw, hb20⟩
       have HS20 := Lib.hid (HS19.out.up hb20.out)
       obtain ⟨F4, hF4, hD4⟩ := HS20.out.get 4 rfl
       have HSP := Lib.hid (samePuts_any (fun q => q < w20.heap.size) (.slice fp (dumpV s'.vs).length fc) (.slice dp (dumpV s'.vs).length dc) (dumpV s'.vs) (dumpV s'.vs) w20 (fun _ h => h) ((PutsW.puts hpw.out).mono fun q hq => hq.2) ((PutsW.puts hF4).mono hD4))
       rw [samePuts_self] at HSP
       clear HDU hpw hb20 hF4 hD4 HS19
       go_wp2_with fail
       refine (HSP.out).mono ?_
       rintro e w21 ⟨rfl, hb21⟩
       have HB21 := Lib.hid (Below.up HBX.out (HS20.out.up hb21).old)
       clear HSP hb21 HS20
       go_wp2_with fail
       refine (awake23 _).mono ?_
       rintro e w22 ⟨rfl, hb22⟩
       have HB22 := Lib.hid (Below.up HB21.out hb22)
       clear hb22
       go_wp2
       go_ret
       exact ⟨rfl, HB22.out⟩
end Go.Proofs