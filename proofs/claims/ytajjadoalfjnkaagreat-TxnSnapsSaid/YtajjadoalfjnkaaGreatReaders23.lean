/- TxnReaders: a transaction that only reads commits, whatever others do: for every input the law returns true. -/
import Derived.Test.YtajjadoalfjnkaaGreatReaders23P
import Derived.Test.YtajjadoalfjnkaaGreatSteps23
import Derived.Test.YtajjadoalfjnkaaGreatTx7
namespace Go.Proofs
open Go.RowKit Sc
section
variable {W w : World} {L : List Asn}
theorem set_snoc_take {α : Type} {L : List α} {i : Nat} {A B : α} (hil : i < L.length) : ((L ++ [B]).set i A).take L.length = L.set i A := by
  rw [List.set_append_left _ _ hil]
  exact List.take_left' (by simp)
theorem mgRead_drop (h : Hid (Sep W L w)) (i : Nat) {b : Nat} {s : MgS} (hi : L[i]? = some (MgrA (pt b) s)) {n : Nat} (g : MgG n s) (hn : n ≤ 1000000) (hd : Int) (e : Ext) (i1 : I64 e.first) (i2 : I64 e.len) :
    Calls Tryz.prog 34 #[.pointer (some ⟨b, 0, none⟩), .int .i64 hd, .agg #[.int .i64 e.first, .int .i64 e.len]] w fun r w' => ∃ p k c q, r = .returned (.tuple #[.slice p k c, .int .i64 q]) ∧ Hid (Sep W (L.set i (MgrA (pt b) (rdNext s hd e))) w') := by
  have hil : i < L.length := (List.getElem?_eq_some_iff.1 hi).1
  refine (mgRead_sep h i hi g hn hd e i1 i2).mono ?_
  rintro r w' (⟨h1, rfl, hS⟩ | ⟨h1, gg, o, cp, rfl, hS⟩)
  · refine ⟨_, _, _, _, rfl, ?_⟩
    rw [show rdNext s hd e = s from if_neg h1, set_same hi]
    exact hS
  · refine ⟨_, _, _, _, rfl, ?_⟩
    have := hS.out.take L.length
    rwa [set_snoc_take hil] at this
theorem mgBatch_drop (h : Hid (Sep W L w)) (i : Nat) {b : Nat} {s : MgS} (hi : L[i]? = some (MgrA (pt b) s)) {n : Nat} (g : MgG n s) (hn : s.queue.length ≤ 1000000) (hnn : n ≤ 1000000) :
    Calls Tryz.prog 27 #[.pointer (some ⟨b, 0, none⟩)] w fun r w' => ∃ a p k c q, r = .returned (.tuple #[.agg #[.int .i64 a, .slice p k c], .int .i64 q]) ∧ Hid (Sep W (L.set i (MgrA (pt b) (baNext s))) w') := by
  have hil : i < L.length := (List.getElem?_eq_some_iff.1 hi).1
  refine (mgBatch_sep h i hi g hn hnn).mono ?_
  rintro r w' (⟨h1, rfl, hS⟩ | ⟨h1, p, cp, rfl, hS⟩)
  · refine ⟨_, _, _, _, _, rfl, ?_⟩
    rw [show baNext s = s from if_neg h1, set_same hi]
    exact hS
  · refine ⟨_, _, _, _, _, rfl, ?_⟩
    have := hS.out.take L.length
    rwa [set_snoc_take hil] at this
end
theorem rest_old_puts {W w0 : World} {L : List Asn} {i : Nat} (hi : 0 ≠ i) {v : Value} {l : List Put} (hp : PutsAt (Old W) W v l) {G : Foot} (hR : Sc.Rest (OldA W :: L) i G w0) : PutsAt G w0 v l := by
  obtain ⟨F0, hF0, hO⟩ := hR 0 _ hi rfl
  exact (hp.same hO.2).mono fun q hq => hF0 q (hO.1 q hq)
theorem rd_box {W w : World} {L : List Asn} (h : Hid (Sep W L w)) (i : Nat) {bx : Nat} {cs : Array Value} {T : TypeId} (hi : L[i]? = some (BoxA bx cs T)) (j : Nat) : w.cell? ⟨bx, j, none⟩ = cs[j]? := by
  obtain ⟨F, hF, _⟩ := h.out.get i hi
  rw [cell_row hF.2]
theorem ssz23_at {l : List Step23} {k : Nat} (h : k < l.length) : l[k].puts.length ≤ ssz23 l := by
  have h1 : ssz23 (l.take (k + 1)) = ssz23 (l.take k) + (psz l[k].puts + 3) := by
    unfold ssz23
    rw [take_snoc l k h, List.map_append, List.sum_append]; simp
  have h2 : ssz23 l = ssz23 (l.take (k + 1)) + ssz23 (l.drop (k + 1)) := by
    unfold ssz23
    rw [← List.sum_append, ← List.map_append, List.take_append_drop]
  have h3 : l[k].puts.length ≤ psz l[k].puts := Nat.le_add_right _ _
  omega
set_option maxRecDepth 100000 in
set_option maxHeartbeats 8000000 in
theorem readers23_any (v : Value) (l : List Step23) (a c : Int) (w : World) (ia : I64 a) (ic : I64 c) (hv : Steps23 (Old w) w v l) : Calls Tryz.prog 13 #[v, .agg #[.int .i64 a, .int .i64 c]] w (Tru w) := by
  obtain ⟨p, cp, rfl, g1, g2, g3, g4⟩ := hv
  have HV := Lib.hid (show Steps23 (Old w) w (.slice p l.length cp) l from ⟨p, cp, rfl, g1, g2, g3, g4⟩)
  have HG4 := Lib.hid g4
  clear g1 g2 g3 g4
  have hbx := below_alloc w (.cells #[.int .i64 a, .int .i64 c] 56)
  have HS0 := Lib.hid ((Sep.start w).new hbx (BoxA w.heap.size #[.int .i64 a, .int .i64 c] 56) (F := New w (w.alloc (.cells #[.int .i64 a, .int .i64 c] 56))) (fun _ h => h) ⟨⟨Nat.le_refl _, by simp⟩, heap_alloc_new w _⟩)
  have HSM := Lib.hid (small23_any (Old w) _ l _ (Dom.of_size (fun k hk => hk) hbx.size) (HV.out.up hbx))
  clear hbx
  go_enter Tryz.func13, Tryz.ntmps13
  go_wp2_with fail
  refine (HSM.out).mono ?_
  rintro e w1 ⟨q, rfl, hq, hb1⟩
  have HS1 := Lib.hid (HS0.out.up hb1)
  clear hb1
  cases q with
  | false =>
    have HB1 := Lib.hid HS1.out.old
    go_wp2_with fail
    refine (awake23 _).mono ?_
    rintro e w2 ⟨rfl, hb2⟩
    have HB2 := Lib.hid (Below.up HB1.out hb2)
    go_wp2
    go_ret
    exact ⟨rfl, HB2.out⟩
  | true =>
  have hlen := (hq rfl).2
  have HQ := Lib.hid hq
  clear hq HS0 HSM
  go_wp2_with fail
  refine (mgrNew_sep HS1 20 0 (by omega) (by omega) (by omega) (by omega)).mono ?_
  rintro e w2 ⟨m, rfl, HS2⟩
  have HS2 : Hid (Sep w [OldA w, BoxA w.heap.size #[.int .i64 a, .int .i64 c] 56, MgrA (pt m) (mgNew 20 0)] w2) := HS2
  obtain ⟨k1, k2, k3⟩ := rdJ_start
  have HK3 := Lib.hid k3
  clear k3
  go_wp2_with fail
  refine (mgBegin_sep HS2 2 rfl (MgG.new (by omega) (by omega) (by omega) (by omega) : MgG 0 (mgNew 20 0))).mono ?_
  rintro e w3 ⟨rfl, HS3⟩
  rw [k1, k2]
  generalize begNext (mgNew 20 0) = S0 at *
  have HS3 : Hid (Sep w [OldA w, BoxA w.heap.size #[.int .i64 a, .int .i64 c] 56, MgrA (pt m) S0] w3) := HS3
  clear k1 k2 HS1 HS2
  go_wp2_with fail
  go_loopw [9] (fun s9 wr => ∃ i : Nat, ∃ s : MgS, i ≤ l.length ∧ s9 = .int .i64 i ∧ Hid (RdJ (1 + 300 * i) i s) ∧ Hid (Sep w [OldA w, BoxA w.heap.size #[.int .i64 a, .int .i64 c] 56, MgrA (pt m) s] wr)) (fun s9 _ => l.length - (intOf s9).toNat)
  case atStart => exact ⟨0, S0, Nat.zero_le _, by go_num, HK3, HS3⟩
  case round =>
    obtain ⟨i, s, hi, rfl, HT, HS⟩ := hrel
    clear HK3 HS3
    by_cases hlt : i < l.length
    case pos =>
      obtain ⟨b, o, rfl, hb, hc0, ik, hc1, ih, hc2, hc3, ie1, ie2, ⟨pv, hc4, hp⟩, hc5, in5⟩ := HG4.out i hlt
      have hbw := HS.out.old
      have hc0' := cell_up hbw hc0
      have hc1' := cell_up hbw hc1
      have hc2' := cell_up hbw hc2
      have hc3' := cell_up hbw hc3
      have hc4' := cell_up hbw hc4
      have hc5' := cell_up hbw hc5
      have hpl := ssz23_at hlt
      generalize l[i] = x at hpl hc0 ik hc1 ih hc2 hc3 ie1 ie2 hc4 hp hc5 in5 hc0' hc1' hc2' hc3' hc4' hc5'
      obtain ⟨kd, hh, ⟨xf, xl⟩, ps, nn⟩ := x
      clear hc0 hc1 hc2 hc3 hc4 hc5 hbw
      obtain ⟨pp, pc, rfl⟩ : ∃ pp pc, pv = .slice pp ps.length pc := by obtain ⟨pp, pc, e, _⟩ := hp; exact ⟨pp, pc, e⟩
      have hpl' : ps.length ≤ 1000000 := by have := (HQ.out trivial).1; exact Nat.le_trans hpl (by omega)
      have HPL := Lib.hid hpl'
      have HP := Lib.hid hp
      have IK := Lib.hid ik
      have IE1 := Lib.hid ie1
      have IE2 := Lib.hid ie2
      have IN5 := Lib.hid in5
      clear hp hpl hpl' ik ih ie1 ie2 in5
      simp only at hc0' hc1' hc2' hc3' hc4' hc5' HP IK IE1 IE2 IN5 HPL
      have T5 := Lib.hid (HT.out.read 1 ⟨a, c⟩)
      by_cases hh1 : hh = 1
      case' pos =>
        subst hh1
        have HSA := Lib.hid (HS.out.new (below_alloc wr (.cells #[.int .i64 kd, .int .i64 0, .int .i64 xf, .int .i64 xl, .slice pp ps.length pc, .int .i64 nn] 68)) (BoxA wr.heap.size #[.int .i64 kd, .int .i64 0, .int .i64 xf, .int .i64 xl, .slice pp ps.length pc, .int .i64 nn] 68) (F := New wr (wr.alloc (.cells #[.int .i64 kd, .int .i64 0, .int .i64 xf, .int .i64 xl, .slice pp ps.length pc, .int .i64 nn] 68))) (fun _ h => h) ⟨⟨Nat.le_refl _, by simp⟩, heap_alloc_new wr _⟩)
        have z0 := rd_box HSA 1 rfl 0
        have z1 := rd_box HSA 1 rfl 1
        change _ = some (Value.int .i64 a) at z0
        change _ = some (Value.int .i64 c) at z1
        go_wp2_with fail
        refine (mgRead_drop HSA 2 rfl HT.out.g (by omega) 1 ⟨a, c⟩ ia ic).mono ?_
        rintro e w5 ⟨p5, k5, c5, q5, rfl, HS5⟩
        obtain ⟨h', hne, HS6⟩ : ∃ h' : Int, h' ≠ 1 ∧ Hid (Sep w [OldA w, BoxA w.heap.size #[.int .i64 a, .int .i64 c] 56, MgrA (pt m) (rdNext s 1 ⟨a, c⟩), BoxA wr.heap.size #[.int .i64 kd, .int .i64 h', .int .i64 xf, .int .i64 xl, .slice pp ps.length pc, .int .i64 nn] 68] w5) := ⟨0, by omega, HS5⟩
        clear HSA z0 z1 HS5 hc0' hc1' hc2' hc3' hc4' hc5'
      case' neg =>
        have HSA := Lib.hid (HS.out.new (below_alloc wr (.cells #[.int .i64 kd, .int .i64 hh, .int .i64 xf, .int .i64 xl, .slice pp ps.length pc, .int .i64 nn] 68)) (BoxA wr.heap.size #[.int .i64 kd, .int .i64 hh, .int .i64 xf, .int .i64 xl, .slice pp ps.length pc, .int .i64 nn] 68) (F := New wr (wr.alloc (.cells #[.int .i64 kd, .int .i64 hh, .int .i64 xf, .int .i64 xl, .slice pp ps.length pc, .int .i64 nn] 68))) (fun _ h => h) ⟨⟨Nat.le_refl _, by simp⟩, heap_alloc_new wr _⟩)
        have z0 := rd_box HSA 1 rfl 0
        have z1 := rd_box HSA 1 rfl 1
        change _ = some (Value.int .i64 a) at z0
        change _ = some (Value.int .i64 c) at z1
        go_wp2_with fail
        refine (mgRead_drop HSA 2 rfl HT.out.g (by omega) 1 ⟨a, c⟩ ia ic).mono ?_
        rintro e w5 ⟨p5, k5, c5, q5, rfl, HS5⟩
        obtain ⟨h', hne, HS6⟩ : ∃ h' : Int, h' ≠ 1 ∧ Hid (Sep w [OldA w, BoxA w.heap.size #[.int .i64 a, .int .i64 c] 56, MgrA (pt m) (rdNext s 1 ⟨a, c⟩), BoxA wr.heap.size #[.int .i64 kd, .int .i64 h', .int .i64 xf, .int .i64 xl, .slice pp ps.length pc, .int .i64 nn] 68] w5) := ⟨hh, hh1, HS5⟩
        clear HSA z0 z1 HS5 hc0' hc1' hc2' hc3' hc4' hc5' hh1
      all_goals
        generalize rdNext s 1 ⟨a, c⟩ = s1 at *
        have z0 := rd_box HS6 3 rfl 0
        have z1 := rd_box HS6 3 rfl 1
        have z2 := rd_box HS6 3 rfl 2
        have z3 := rd_box HS6 3 rfl 3
        have z4 := rd_box HS6 3 rfl 4
        have z5 := rd_box HS6 3 rfl 5
        change _ = some (Value.int .i64 kd) at z0
        change _ = some (Value.int .i64 h') at z1
        change _ = some (Value.int .i64 xf) at z2
        change _ = some (Value.int .i64 xl) at z3
        change _ = some (Value.slice pp ps.length pc) at z4
        change _ = some (Value.int .i64 nn) at z5
        have HNE := Lib.hid hne
        have hil5 : i ≤ 150 := by omega
        clear hne HS HT hil5
        by_cases hk1 : kd = 1
        · subst hk1
          have HB := Lib.hid (mgBegin_sep HS6 2 rfl T5.out.g)
          have T6 := Lib.hid ((T5.out.beg (by omega)).mono (N' := 1 + 300 * (i + 1)) (k' := i + 1) (by omega) (by omega))
          go_wp2_with fail
          refine (HB.out).mono ?_
          rintro e w6 ⟨rfl, HS7⟩
          have HS8 := Lib.hid (HS7.out.take 3)
          clear HB HS6 HS7 z0 z1 z2 z3 z4 z5
          go_wp2_with fail
          go_roundw
          case rel => exact ⟨i + 1, _, by omega, by go_num, T6, HS8⟩
          case measure => simp [intOf]; omega
        by_cases hk2 : kd = 2
        · subst hk2
          have HB := Lib.hid (mgRead_drop HS6 2 rfl T5.out.g (by omega) h' ⟨xf, xl⟩ IE1.out IE2.out)
          have T6 := Lib.hid ((T5.out.read h' ⟨xf, xl⟩).mono (N' := 1 + 300 * (i + 1)) (k' := i + 1) (by omega) (by omega))
          go_wp2_with fail
          refine (HB.out).mono ?_
          rintro e w6 ⟨p6, k6, c6, q6, rfl, HS7⟩
          have HS8 := Lib.hid (HS7.out.take 3)
          clear HB HS6 HS7 z0 z1 z2 z3 z4 z5
          go_wp2_with fail
          go_roundw
          case rel => exact ⟨i + 1, _, by omega, by go_num, T6, HS8⟩
          case measure => simp [intOf]; omega
        by_cases hk3 : kd = 3
        · subst hk3
          have HB := Lib.hid (mgWrite_sep HS6 2 rfl T5.out.g h' _ ps (fun G hR => rest_old_puts (by decide) HP.out hR) HPL.out)
          have T6 := Lib.hid ((T5.out.wr HNE.out ps).mono (N' := 1 + 300 * (i + 1)) (k' := i + 1) (by omega) (by omega))
          go_wp2_with fail
          refine (HB.out).mono ?_
          rintro e w6 ⟨rfl, HS7⟩
          have HS8 := Lib.hid (HS7.out.take 3)
          clear HB HS6 HS7 z0 z1 z2 z3 z4 z5
          go_wp2_with fail
          go_roundw
          case rel => exact ⟨i + 1, _, by omega, by go_num, T6, HS8⟩
          case measure => simp [intOf]; omega
        by_cases hk4 : kd = 4
        · subst hk4
          have HB := Lib.hid (mgCommit_sep HS6 2 rfl T5.out.g (Nat.le_trans T5.out.g.qlen16 (by omega)) h')
          have T6 := Lib.hid ((T5.out.cm HNE.out).mono (N' := 1 + 300 * (i + 1)) (k' := i + 1) (by omega) (by omega))
          go_wp2_with fail
          refine (HB.out).mono ?_
          rintro e w6 ⟨rfl, HS7⟩
          have HS8 := Lib.hid (HS7.out.take 3)
          clear HB HS6 HS7 z0 z1 z2 z3 z4 z5
          go_wp2_with fail
          go_roundw
          case rel => exact ⟨i + 1, _, by omega, by go_num, T6, HS8⟩
          case measure => simp [intOf]; omega
        by_cases hk5 : kd = 5
        · subst hk5
          have HB := Lib.hid (mgAbort_sep HS6 2 rfl h')
          have T6 := Lib.hid ((T5.out.ab HNE.out).mono (N' := 1 + 300 * (i + 1)) (k' := i + 1) (by omega) (by omega))
          go_wp2_with fail
          refine (HB.out).mono ?_
          rintro e w6 ⟨rfl, HS7⟩
          have HS8 := Lib.hid (HS7.out.take 3)
          clear HB HS6 HS7 z0 z1 z2 z3 z4 z5
          go_wp2_with fail
          go_roundw
          case rel => exact ⟨i + 1, _, by omega, by go_num, T6, HS8⟩
          case measure => simp [intOf]; omega
        by_cases hk6 : kd = 6
        · subst hk6
          obtain ⟨b1, b2, b3⟩ := T5.out.batch
          have HB1 := Lib.hid b1
          have HB2 := Lib.hid b2
          have HB := Lib.hid (mgBatch_drop HS6 2 rfl T5.out.g (Nat.le_trans T5.out.g.qlen16 (by omega)) (by omega))
          have T6 := Lib.hid (b3.mono (N' := 1 + 300 * (i + 1)) (k' := i + 1) (by omega) (by omega))
          clear b1 b2 b3
          go_wp2_with fail
          refine (HB.out).mono ?_
          rintro e w6 ⟨a6, p6, k6, c6, q6, rfl, HS7⟩
          have z0 := rd_box HS7 3 rfl 0
          change _ = some (Value.int .i64 6) at z0
          have HD := Lib.hid (mgDone_sep HS7 2 rfl HB1.out (Nat.le_trans HB1.out.qlen16 (by omega)) (by omega) HB2.out 0)
          generalize doneCode (baNext s1) = dcd at *
          clear HB HS6 z1 z2 z3 z4 z5
          go_wp2_with fail
          refine (HD.out).mono ?_
          rintro e w7 ⟨rfl, HS9⟩
          have HS8 := Lib.hid (HS9.out.take 3)
          clear HD HS7 HS9 z0
          go_wp2_with fail
          go_roundw
          case rel => exact ⟨i + 1, _, by omega, by go_num, T6, HS8⟩
          case measure => simp [intOf]; omega
        by_cases hk8 : kd = 8
        · subst hk8
          have HB := Lib.hid (fun q => mgReadOnly_sep HS6 2 rfl q)
          have T6 := Lib.hid (fun q => (T5.out.ro q).mono (N' := 1 + 300 * (i + 1)) (k' := i + 1) (by omega) (by omega))
          go_wp2_with fail
          refine (HB.out _).mono ?_
          rintro e w6 ⟨rfl, HS7⟩
          have HS8 := Lib.hid (HS7.out.take 3)
          clear HB HS6 HS7 z0 z1 z2 z3 z4 z5
          go_wp2_with fail
          go_roundw
          case rel => exact ⟨i + 1, _, by omega, by go_num, T6.out _, HS8⟩
          case measure => simp [intOf]; omega
        by_cases hk9 : kd = 9
        · subst hk9
          have HB := Lib.hid (mgPrune_sep HS6 2 rfl T5.out.g (by omega))
          have T6 := Lib.hid ((T5.out.pr).mono (N' := 1 + 300 * (i + 1)) (k' := i + 1) (by omega) (by omega))
          generalize nVers s1.vs - nVers (pruneVs (prH s1) s1.vs) = pv9 at *
          go_wp2_with fail
          refine (HB.out).mono ?_
          rintro e w6 ⟨rfl, HS7⟩
          have HS8 := Lib.hid (HS7.out.take 3)
          clear HB HS6 HS7 z0 z1 z2 z3 z4 z5
          go_wp2_with fail
          go_roundw
          case rel => exact ⟨i + 1, _, by omega, by go_num, T6, HS8⟩
          case measure => simp [intOf]; omega
        have T6 := Lib.hid (T5.out.mono (N' := 1 + 300 * (i + 1)) (k' := i + 1) (by omega) (by omega))
        have HS8 := Lib.hid (HS6.out.take 3)
        clear HS6 z1 z2 z3 z4 z5
        go_wp2_with fail
        go_roundw
        case rel => exact ⟨i + 1, _, by omega, by go_num, T6, HS8⟩
        case measure => simp [intOf]; omega
    case neg =>
      have hil : i ≤ 150 := by omega
      have hieq : i = l.length := by omega
      have hlt' : ¬ (i : Int) < ((l.length : Nat) : Int) := by omega
      obtain ⟨e1, gK, hres, hK0⟩ := HT.out.commit
      have HC := Lib.hid (mgCommit_sep HS 2 rfl HT.out.g (Nat.le_trans HT.out.g.qlen16 (by omega)) 1)
      rw [e1] at HC
      have GK := Lib.hid gK
      have K0 := Lib.hid hK0
      have HRES := Lib.hid hres
      clear e1 gK hres hK0
      go_wp2_with fail
      refine (HC.out).mono ?_
      rintro e w4 ⟨rfl, HS4⟩
      have hr := mgResult_sep HS4 2 rfl 1
      simp only [HRES.out] at hr
      have HR := Lib.hid hr
      clear hr HC HS
      go_wp2_with fail
      refine (HR.out).mono ?_
      rintro e w5 ⟨rfl, HS5⟩
      clear HS4 HR
      go_wp2_with fail
      refine (mgReadOnly_sep HS5 2 rfl false).mono ?_
      rintro e w6 ⟨rfl, HS6⟩
      have HS6 : Hid (Sep w [OldA w, BoxA w.heap.size #[.int .i64 a, .int .i64 c] 56, MgrA (pt m) { cmNext s 1 with ro := false }] w6) := HS6
      generalize { cmNext s 1 with ro := false } = S1 at *
      clear HS5 HRES GK HT
      go_wp2_with fail
      go_loopw [14] (fun s14 wr => ∃ j : Nat, ∃ s : MgS, j ≤ 40 ∧ s14 = .int .i64 j ∧ Hid (RdK (1 + 300 * i + 128 * j) i (16 - j) s) ∧ Hid (Sep w [OldA w, BoxA w.heap.size #[.int .i64 a, .int .i64 c] 56, MgrA (pt m) s] wr)) (fun s14 _ => 40 - (intOf s14).toNat)
      case atStart => exact ⟨0, S1, by omega, by go_num, K0, HS6⟩
      case round =>
        obtain ⟨j', s, hj, rfl, HT, HS⟩ := hrel
        clear K0 HS6
        by_cases hj40 : j' < 40
        case pos =>
          obtain ⟨b1, b2, b3⟩ := HT.out.batch
          have HB1 := Lib.hid b1
          have HB2 := Lib.hid b2
          rw [show 1 + 300 * i + 128 * j' + 128 = 1 + 300 * i + 128 * (j' + 1) by omega, show 16 - j' - 1 = 16 - (j' + 1) by omega] at b3
          have T6 := Lib.hid b3
          have HB := Lib.hid (mgBatch_drop HS 2 rfl HT.out.g (Nat.le_trans HT.out.g.qlen16 (by omega)) (by omega))
          clear b1 b2 b3
          go_wp2_with fail
          refine (HB.out).mono ?_
          rintro e w7 ⟨a6, p6, k6, c6, q6, rfl, HS7⟩
          have HD := Lib.hid (mgDone_sep HS7 2 rfl HB1.out (Nat.le_trans HB1.out.qlen16 (by omega)) (by omega) HB2.out 0)
          generalize doneCode (baNext s) = dcd at *
          clear HB HS
          go_wp2_with fail
          refine (HD.out).mono ?_
          rintro e w8 ⟨rfl, HS8⟩
          clear HD HS7
          go_wp2_with fail
          go_roundw
          case rel => exact ⟨j' + 1, _, by omega, by go_num, T6, HS8⟩
          case measure => simp [intOf]; omega
        case neg =>
          have hj0 : j' ≤ 40 := hj
          have ht := HT.out
          rw [show 16 - j' = 0 by omega] at ht
          have L0 := Lib.hid ht.last
          clear ht
          go_wp2_with fail
          go_loopw [15] (fun s15 wr => ∃ j : Nat, ∃ s : MgS, 1 ≤ j ∧ j ≤ 201 ∧ s15 = .int .i64 j ∧ Hid (RdL (1 + 300 * i + 128 * j') i j s) ∧ Hid (Sep w [OldA w, BoxA w.heap.size #[.int .i64 a, .int .i64 c] 56, MgrA (pt m) s] wr)) (fun s15 _ => 201 - (intOf s15).toNat)
          case atStart => exact ⟨1, s, by omega, by omega, by go_num, L0, HS⟩
          case round =>
            obtain ⟨j, s, hj0, hj, rfl, HT, HS⟩ := hrel
            clear L0
            by_cases hj2 : j ≤ 200
            case pos =>
              have T6 := Lib.hid (HT.out.ab hj0)
              have HA := Lib.hid (mgAbort_sep HS 2 rfl (j : Int))
              go_wp2_with fail
              refine (HA.out).mono ?_
              rintro e w7 ⟨rfl, HS7⟩
              clear HA HS
              go_wp2_with fail
              go_roundw
              case rel => exact ⟨j + 1, _, by omega, by omega, by go_num, T6, HS7⟩
              case measure => simp [intOf]; omega
            case neg =>
              obtain rfl : j = 201 := by omega
              have hd40 := data_sz 9
              obtain ⟨x1, x2, x3, x4, x5, x6, x7, x8⟩ := HT.out.fin (by omega) (by omega) (by omega) ⟨a, c⟩ hd40
              have X2 := Lib.hid x2
              have X4 := Lib.hid x4
              have X5 := Lib.hid x5
              have X6 := Lib.hid x6
              have X7 := Lib.hid x7
              have X8 := Lib.hid x8
              have HB := Lib.hid (mgBegin_sep HS 2 rfl HT.out.g)
              rw [x1] at HB
              have X3 := Lib.hid x3
              clear x1 x2 x3 x4 x5 x6 x7 x8 hj2
              generalize begH s = bh at *
              generalize begNext s = s1 at *
              go_wp2_with fail
              refine (HB.out).mono ?_
              rintro e w7 ⟨rfl, HS7⟩
              have HO := Lib.hid (mgOpen_sep HS7 2 rfl X2.out)
              rw [X3.out] at HO
              clear HB HS
              go_wp2_with fail
              refine (HO.out).mono ?_
              rintro e w8 ⟨rfl, HS8⟩
              have z0 := rd_box HS8 1 rfl 0
              have z1 := rd_box HS8 1 rfl 1
              change _ = some (Value.int .i64 a) at z0
              change _ = some (Value.int .i64 c) at z1
              have HR := Lib.hid (mgRead_drop HS8 2 rfl X2.out (by omega) bh ⟨a, c⟩ ia ic)
              clear HO HS7
              go_wp2_with fail
              refine (HR.out).mono ?_
              rintro e w9 ⟨p9, k9, c9, q9, rfl, HS9⟩
              clear HR HS8 z0 z1
              go_wp2_with fail
              refine (data_any 9 _).mono ?_
              rintro e w10 ⟨dv, rfl, hd, hb10⟩
              obtain ⟨dp, dc, rfl⟩ := shape_of hd hd40
              have HS10 := Lib.hid (HS9.out.new hb10 (ByA (.slice dp 40 dc) (dataB 9)) (fun _ h => h) hd)
              have HW := Lib.hid (mgWrite_one HS10 2 3 (by decide) rfl rfl X4.out bh 3 (by unfold I64; omega) w10.heap.size rfl)
              rw [X5.out] at HW
              clear hd hb10 HS9
              go_wp2_with fail
              refine (HW.out).mono ?_
              rintro e w11 ⟨rfl, HS11⟩
              have HC := Lib.hid (mgCommit_sep HS11 2 rfl X6.out X7.out bh)
              rw [X8.out] at HC
              clear HW HS10
              go_wp2_with fail
              refine (HC.out).mono ?_
              rintro e w12 ⟨rfl, HS12⟩
              have HB12 := Lib.hid HS12.out.old
              clear HC HS11
              go_wp2_with fail
              refine (awake23 _).mono ?_
              rintro e w13 ⟨rfl, hb13⟩
              have HB13 := Lib.hid (Below.up HB12.out hb13)
              clear hb13
              go_wp2
              go_ret
              exact ⟨rfl, HB13.out⟩
end Go.Proofs
