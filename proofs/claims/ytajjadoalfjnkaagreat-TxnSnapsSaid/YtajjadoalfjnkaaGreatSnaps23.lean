/- TxnSnaps: every read of every transaction is its own last write, or what was committed up to its begin: for every input the law returns true. -/
import Derived.Test.YtajjadoalfjnkaaGreatSnapsD
namespace Go.Proofs
open Go.RowKit Sc
theorem snL_cut {W w : World} {m ng : Nat} {s : MgS} {nvs : List Value} {B : List (Value × Bytes)} {tv sv : Value} {tl : List Tx} {rs : List SnR} {Ls : List Asn} (h : Hid (Sep W (snL W m s ng nvs B tv tl sv rs ++ Ls) w)) : Hid (Sep W (snL W m s ng nvs B tv tl sv rs) w) := by
  have := h.out.take (5 + rs.length)
  rw [snL_take] at this
  exact this
theorem wpList_make_wanted {P : Program} (w : World) {ops : Array Oper} {rest : List Oper} {o : Oper} {a : Act} {Q : Exit → Act → World → Prop}
    (hg : Region.wanted o (yielded ops a.tmps) = true) (l c : Operand) (t : TypeId) (hop : o.op = Op.makeSlice t l c)
    (base : Nat) (e : TypeId) (i : TypeInfo) (z : Value) (size : Nat) (h1 : P.underlying t = some (.slice e)) (h2 : P.info? e = some i) (h3 : i.zero = some z) (h4 : i.size = size)
    (kl kc : IntKind) (L C : Int) (n : Nat) (hl : a.eval l = .int kl L) (hc : a.eval c = .int kc C) (hL : L = (n : Int)) (hC : C = (n : Int)) (b2 : i.bytes * n ≤ 281474976710656) (b3 : n ≤ maxLen) (b4 : base ≤ w.heap.size)
    (hK : ∀ w', w'.ownsRow base e size (.slice (some ⟨w.heap.size, 0, none⟩) n n) n (madeCells z.cells (n * size)).toList → w.grownBy w' none → wpList P ops Q rest (a.put o.dst (.slice (some ⟨w.heap.size, 0, none⟩) n n)) w') :
    wpList P ops Q (o :: rest) a w := by
  refine wpList_step fun K hK' => ?_
  rw [if_pos hg]
  obtain ⟨w', hrun, r1, r2⟩ := run_make_full (P := P) w base t e i z size h1 h2 h3 h4 kl kc n b2 b3 b4
  subst hL
  subst hC
  unfold Oper.wp
  simp [execOp, hop, hl, hc, hrun, Result.andThen]
  exact hK' _ _ (hK w' r1 r2)
theorem sn_shape {w : World} {B T k n : Nat} {v : Value} {xs : List Value} (h : w.ownsRow B T k v n xs) (hn : 0 < n) : ∃ g c, v = .slice (some ⟨g, 0, none⟩) n c := by
  obtain ⟨_, ⟨_, h0⟩ | ⟨g, cap, cur, rfl, _⟩⟩ := h
  · omega
  · exact ⟨g, cap, rfl⟩
theorem bytes_sl {G : Nat → Prop} {w : World} {v : Value} {l : Bytes} (h : BytesAt G w v l) : ∃ p c, v = .slice p l.length c := by
  obtain ⟨p, c, rfl, _⟩ := h
  exact ⟨p, c, rfl⟩

set_option maxRecDepth 100000 in
set_option maxHeartbeats 64000000 in
theorem snaps23_any (v : Value) (l : List Step23) (w : World) (hv : Steps23 (Old w) w v l) : Calls Tryz.prog 11 #[v] w (Tru w) := by
  obtain ⟨p, cp, rfl, g1, g2, g3, g4⟩ := hv
  have HV := Lib.hid (show Steps23 (Old w) w (.slice p l.length cp) l from ⟨p, cp, rfl, g1, g2, g3, g4⟩)
  have HG4 := Lib.hid g4
  clear g1 g2 g3 g4
  have HS0 := Lib.hid (Sep.start w)
  have HSM := Lib.hid (small23_any (Old w) _ l _ (fun k hk => hk) HV.out)
  go_enter Tryz.func11, Tryz.ntmps11
  go_wp2_with fail
  refine (HSM.out).mono ?_
  rintro e w1 ⟨q, rfl, hq, hb1⟩
  have HS1 := Lib.hid (HS0.out.up hb1)
  clear hb1
  cases q with
  | false =>
    have HB1 := Lib.hid HS1.out.old
    go_wp2_with fail
    refine (awake23 _).mono ?_
    rintro e w2 ⟨rfl, hb2⟩
    have HB2 := Lib.hid (Below.up HB1.out hb2)
    go_wp2
    go_ret
    exact ⟨rfl, HB2.out⟩
  | true =>
  have hlen := (hq rfl).2
  have HQ := Lib.hid hq
  clear hq HS0 HSM
  go_wp2_with fail
  refine (mgrNew_sep HS1 20 0 (by omega) (by omega) (by omega) (by omega)).mono ?_
  rintro e w2 ⟨m, rfl, HS2⟩
  have HS2 : Hid (Sep w [OldA w, MgrA (pt m) (mgNew 20 0)] w2) := HS2
  obtain ⟨i0, hi0, hz0, hz1, hz2⟩ := info_parts infoRow
  clear HS1
  go_wp2_with (at_make; refine wpList_make_full _ rfl _ _ 65 rfl w2.heap.size 30 i0 (.slice none 0 0) 1 Tryz.underlying65 hi0 hz0 hz1 _ _ _ _ 20 rfl rfl rfl rfl (by rw [hz2]; omega) (by unfold maxLen; omega) (Nat.le_refl _) ?_; intro w3 hown3 hgrow3)
  rw [made_one (z := .slice none 0 0) rfl] at hown3
  have hs3 := HS2.out.row_new ((Below.refl _ _).grown hgrow3 (Nat.le_refl _) (fun j hj => by cases hj)) hown3
  have hs4 := (hs3.new (Below.refl _ _) (BagA [] (.slice none 0 0) []) (F := fun _ => False) (fun _ h => h.elim) ⟨by simp, SlAt.nil⟩).row_new (Below.refl _ _) (World.ownsRow_nil w3 w3.heap.size 65 1)
  generalize w2.heap.size = ng at *
  have HS4 : Hid (Sep w (snL w m (mgNew 20 0) ng (List.replicate 20 (.slice none 0 0)) [] (.slice none 0 0) [] (.slice none (([] : List SnR).length) 0) []) w3) := hs4
  clear hs3 hs4 hown3 hgrow3 HS2
  go_wp2_with fail
  go_loopw [6, 7] (fun s6 s7 wr => ∃ (i : Nat) (s : MgS) (now : List Bytes) (sn : List (List Bytes)) (nvs : List Value) (B : List (Value × Bytes)) (rs : List SnR) (sp : Option Addr) (sc : Nat), i ≤ l.length ∧ s6 = .slice sp rs.length sc ∧ s7 = .int .i64 i ∧ Hid (SnI (400 * i) i s now sn) ∧ Hid (SnD w B nvs now rs sn) ∧ Hid (Sep w (snL w m s ng nvs B (.slice none 0 0) [] (.slice sp rs.length sc) rs) wr)) (fun _ s7 _ => l.length - (intOf s7).toNat)
  case atStart => exact ⟨0, mgNew 20 0, _, [], _, [], [], none, 0, Nat.zero_le _, rfl, by go_num, SnI.start, SnD.start w, HS4⟩
  case round =>
    obtain ⟨i, s, now, sn, nvs, B, rs, sp, sc, hi, rfl, rfl, HT, HD, HS⟩ := hrel
    clear HS4
    by_cases hlt : i < l.length
    case neg =>
      have hlt' : ¬ (i : Int) < ((l.length : Nat) : Int) := by omega
      have HB1 := Lib.hid HS.out.old
      go_wp2_with fail
      refine (awake23 _).mono ?_
      rintro e w2 ⟨rfl, hb2⟩
      have HB2 := Lib.hid (Below.up HB1.out hb2)
      go_wp2
      go_ret
      exact ⟨rfl, HB2.out⟩
    case pos =>
      obtain ⟨b, o, rfl, hb, hc0, ik, hc1, ih, hc2, hc3, ie1, ie2, ⟨pv, hc4, hp⟩, hc5, in5⟩ := HG4.out i hlt
      have hbw := HS.out.old
      have hc0' := cell_up hbw hc0
      have hc1' := cell_up hbw hc1
      have hc2' := cell_up hbw hc2
      have hc3' := cell_up hbw hc3
      have hc4' := cell_up hbw hc4
      have hc5' := cell_up hbw hc5
      have hpl := ssz23_at hlt
      generalize l[i] = x at hpl hc0 ik hc1 ih hc2 hc3 ie1 ie2 hc4 hp hc5 in5 hc0' hc1' hc2' hc3' hc4' hc5'
      obtain ⟨kd, hh, ⟨xf, xl⟩, ps, nn⟩ := x
      clear hc0 hc1 hc2 hc3 hc4 hc5 hbw
      obtain ⟨pp, pc, rfl⟩ : ∃ pp pc, pv = .slice pp ps.length pc := by obtain ⟨pp, pc, e, _⟩ := hp; exact ⟨pp, pc, e⟩
      have hpl' : ps.length ≤ 1000000 := by have := (HQ.out trivial).1; exact Nat.le_trans hpl (by omega)
      have HPL := Lib.hid hpl'
      have HP := Lib.hid hp
      have IK := Lib.hid ik
      have IE1 := Lib.hid ie1
      have IE2 := Lib.hid ie2
      clear hp hpl hpl' ik ih ie1 ie2 in5
      simp only at hc0' hc1' hc2' hc3' hc4' hc5' HP IK IE1 IE2 HPL
      have hil5 : i ≤ 150 := by omega
      have HI5 := Lib.hid hil5
      have HSA : Hid (Sep w (snL w m s ng nvs B (.slice none 0 0) [] (.slice sp rs.length sc) rs ++ [BoxA wr.heap.size #[.int .i64 kd, .int .i64 hh, .int .i64 xf, .int .i64 xl, .slice pp ps.length pc, .int .i64 nn] 68]) _) := Lib.hid (HS.out.new (below_alloc wr (.cells #[.int .i64 kd, .int .i64 hh, .int .i64 xf, .int .i64 xl, .slice pp ps.length pc, .int .i64 nn] 68)) (BoxA wr.heap.size #[.int .i64 kd, .int .i64 hh, .int .i64 xf, .int .i64 xl, .slice pp ps.length pc, .int .i64 nn] 68) (F := New wr (wr.alloc (.cells #[.int .i64 kd, .int .i64 hh, .int .i64 xf, .int .i64 xl, .slice pp ps.length pc, .int .i64 nn] 68))) (fun _ h => h) ⟨⟨Nat.le_refl _, by simp⟩, heap_alloc_new wr _⟩)
      have z0 := rd_box HSA (5 + rs.length) snL_box 0
      have z1 := rd_box HSA (5 + rs.length) snL_box 1
      have z2 := rd_box HSA (5 + rs.length) snL_box 2
      have z3 := rd_box HSA (5 + rs.length) snL_box 3
      have z4 := rd_box HSA (5 + rs.length) snL_box 4
      change _ = some (Value.int .i64 kd) at z0
      change _ = some (Value.int .i64 hh) at z1
      change _ = some (Value.int .i64 xf) at z2
      change _ = some (Value.int .i64 xl) at z3
      change _ = some (Value.slice pp ps.length pc) at z4
      clear hil5 HS
      by_cases hk1 : kd = 1
      · subst hk1
        as_aux_lemma =>
          have HB := Lib.hid (mgBegin_sep HSA 1 rfl HT.out.g)
          go_wp2_with fail
          refine (HB.out).mono ?_
          rintro e w6 ⟨rfl, HS7⟩
          have HS7 : Hid (Sep w (snL w m (begNext s) ng nvs B (.slice none 0 0) [] (.slice sp rs.length sc) rs ++ [BoxA wr.heap.size #[.int .i64 1, .int .i64 hh, .int .i64 xf, .int .i64 xl, .slice pp ps.length pc, .int .i64 nn] 68]) w6) := HS7
          have HS8 := snL_cut HS7
          clear HB HSA HS7 z0 z1 z2 z3 z4
          by_cases hc : begC s = 0
          case neg =>
            have hcb : (begC s == 0) = false := by rw [beq_eq_false_iff_ne]; exact hc
            have T6 : Hid (SnI (400 * (i + 1)) (i + 1) (begNext s) now sn) := Lib.hid (by rw [HT.out.begNo hc]; exact HT.out.mono (by omega) (by omega))
            generalize begC s = bc at *
            generalize begH s = bh at *
            clear hc
            go_wp2_with fail
            go_roundw
            case rel => exact ⟨i + 1, _, now, sn, nvs, B, rs, sp, sc, by omega, rfl, by go_num, T6, HD, HS8⟩
            case measure => simp [intOf]; omega
          case pos =>
            have T6 : Hid (SnI (400 * (i + 1)) (i + 1) (begNext s) now (sn ++ [now])) := Lib.hid ((HT.out.beg (by have := HI5.out; omega) hc).mono (by omega) (by omega))
            rw [hc]
            generalize begH s = bh at *
            have HN : Hid (∀ j u, nvs[j]? = some u → w6.cell? ((⟨ng, 0, none⟩ : Addr).add j) = some u) := fun j u hj => by
              have hadd : (⟨ng, 0, none⟩ : Addr).add j = ⟨ng, 0 + j, none⟩ := by unfold Addr.add; split <;> simp_all
              have hjl : j < nvs.length := (List.getElem?_eq_some_iff.1 hj).1
              rw [HD.out.nl] at hjl
              rw [hadd, Nat.zero_add, (HS8.out.row_cell 2 rfl j (by omega)).1, hj]
            have HO : Hid (∀ u ∈ nvs, u.oneCell' = true) := fun u hu => by
              obtain ⟨j, hj, rfl⟩ := List.mem_iff_getElem.1 hu
              have hl := All2.length HD.out.nd
              have hd := All2.get HD.out.nd j hj (by omega)
              obtain ⟨_, _, e⟩ := bytes_sl (dat_at HS8.out rfl 3 rfl hd)
              rw [e]; rfl
            have HLX : Hid (nvs.length = 20 * 1) := by show _ = _; rw [HD.out.nl]
            have HDP := Lib.hid (fun g c => HD.out.push g c)
            obtain ⟨j0, hj0, hy0, hy1, hy2⟩ := info_parts infoRow2
            have hrl : rs.length ≤ 200 := by have h1 := HD.out.rl; have h2 := HT.out.sl; have h3 := HT.out.n; have := HI5.out; omega
            clear hc
            go_wp2_with (first
              | (at_builtin
                 refine wpList_append_own _ rfl _ _ 65 rfl w6.heap.size 30 i0 (.slice none 0 0) 1 24 Tryz.underlying65 hi0 hz0 hz1 hz2 rfl (by decide) _ 0 [] rfl (World.ownsRow_made w6 _ 0 (Nat.le_refl _) (by decide) rfl) ⟨ng, 0, none⟩ 20 20 nvs rfl HLX.out (fun j u hj => cell_alloc_old (HN.out j u hj)) HO.out (by unfold maxLen; omega) (by omega) (by simp) ?_
                 intro v' w7 hown hgrow hnil
                 obtain ⟨vg, vc, rfl⟩ := sn_shape (n := 20) hown (by omega)
                 have hown' : w7.ownsRow w6.heap.size 30 1 (.slice (some ⟨vg, 0, none⟩) 20 vc) 20 nvs := by simpa using hown
                 have hb7 : Below w6.heap.size w6 w7 := ((Below.refl _ _).alloc (Nat.le_refl _) _).grown hgrow (by simp) (fun k hk => by cases hk; exact Nat.le_refl _)
                 have hs9 := HS8.out.row_new hb7 hown'
                 obtain ⟨gg, cap, w8, hr8, hS8⟩ := hs9.row_push (P := Tryz.prog) 4 rfl 66 66 j0 _ 24 Tryz.underlying66 hj0 hy0 hy1 hy2 rfl (by decide) (cs := #[.slice (some ⟨vg, 0, none⟩) 20 vc]) rfl (by simp [Value.oneCell']) (by unfold maxLen; omega) (by omega) w7.heap.size rfl
                 have HS9 := Lib.hid hS8
                 rw [snL_pushed] at HS9
                 have HD9 := Lib.hid (HDP.out vg vc)
                 clear hown hown' hgrow hnil hb7 hs9 hS8 HN HO HLX HDP)
              | (at_builtin; refine wpList_append_run rfl (.tmp 56) (.tmp 60) 66 rfl rfl rfl hr8 ?_))
            go_roundw
            case rel => exact ⟨i + 1, _, now, sn ++ [now], nvs, B, rs ++ [⟨vg, vc, nvs⟩], _, _, by omega, by rw [List.length_append]; rfl, by go_num, T6, HD9, by rw [List.length_append]; exact HS9⟩
            case measure => simp [intOf]; omega
      by_cases hk2 : kd = 2
      · subst hk2
        as_aux_lemma =>
          obtain ⟨W2, rfl⟩ : ∃ W2 : World, W2 = wr := ⟨_, rfl⟩
          have HB := Lib.hid (mgRead_sep HSA 1 rfl HT.out.g (by have := HI5.out; omega) hh ⟨xf, xl⟩ IE1.out IE2.out)
          go_wp2_with fail
          refine (HB.out).mono ?_
          rintro e w6 (⟨h0, rfl, HS7⟩ | ⟨h0, bg, bo, bc, rfl, HS7⟩)
          · have hcb : (rdCode s hh ⟨xf, xl⟩ == 0) = false := by rw [beq_eq_false_iff_ne]; exact h0
            have T6 : Hid (SnI (400 * (i + 1)) (i + 1) s now sn) := Lib.hid (HT.out.mono (by omega) (by omega))
            generalize rdCode s hh ⟨xf, xl⟩ = cd at *
            clear h0 HB HSA z0 z1 z2 z3 z4
            go_wp2_with fail
            go_loopw [13] (fun s13 wr2 => s13 = .int .i64 0 ∧ Hid (Sep w (snL w m s ng nvs B (.slice none 0 0) [] (.slice sp rs.length sc) rs ++ [BoxA W2.heap.size #[.int .i64 2, .int .i64 hh, .int .i64 xf, .int .i64 xl, .slice pp ps.length pc, .int .i64 nn] 68]) wr2)) (fun _ _ => 0)
            case atStart => exact ⟨by go_num, HS7⟩
            case round =>
              obtain ⟨rfl, HS6⟩ := hrel
              have z3 := rd_box HS6 (5 + rs.length) snL_box 3
              change _ = some (Value.int .i64 xl) at z3
              have HS8 := snL_cut HS6
              clear HS6 HS7
              by_cases hx0 : 0 < xl
              all_goals
                go_wp2_with fail
                go_roundw
                case rel => exact ⟨i + 1, _, now, sn, nvs, B, rs, sp, sc, by omega, rfl, by go_num, T6, HD, HS8⟩
                case measure => simp [intOf]; omega
          · obtain ⟨x, mm, ff, e1, hx, e2, hm16, e3, hf20, hol, hrow⟩ := HT.out.rdOk hh ⟨xf, xl⟩ h0
            simp only at e2 e3
            subst e1
            subst e2
            subst e3
            have hxr : x < rs.length := by rw [HD.out.rl]; exact hx
            have hx1 : x ≤ 1000 := by have h1 := HT.out.sl; have h2 := HT.out.n; have := HI5.out; omega
            have T6 : Hid (SnI (400 * (i + 1)) (i + 1) (rdNext s ((x : Int) + 1) ⟨ff, mm⟩) now sn) := Lib.hid ((HT.out.read ((x : Int) + 1) ⟨ff, mm⟩).mono (by omega) (by omega))
            have hs7 := HS7.out
            rw [List.append_assoc] at hs7
            generalize rdOut s ((x : Int) + 1) ⟨ff, mm⟩ = RO at *
            generalize rdNext s ((x : Int) + 1) ⟨ff, mm⟩ = s1 at *
            have HS8 : Hid (Sep w (snL w m s1 ng nvs B (.slice none 0 0) [] (.slice sp rs.length sc) rs ++ [BoxA W2.heap.size #[.int .i64 2, .int .i64 ((x : Int) + 1), .int .i64 (ff : Int), .int .i64 (mm : Int), .slice pp ps.length pc, .int .i64 nn] 68, BytesWA (.slice (some ⟨bg, bo, none⟩) (40 * mm) bc) RO]) w6) := hs7
            have hbc : 40 * mm ≤ bc := by
              obtain ⟨F, ⟨_, _, e, hle, _⟩, _⟩ := HS8.out.get (5 + rs.length + 1) snL_box2
              simp only [Value.slice.injEq] at e
              omega
            have HROW := Lib.hid hrow
            clear hs7 HS7 HB HSA z0 z1 z2 z3 z4 h0 hrow
            have hmm : Int.toNat ((mm : Nat) : Int) = mm := Int.toNat_natCast mm
            go_wp2_with fail
            go_loopw [13] (fun s13 wr2 => ∃ k : Nat, k ≤ mm ∧ s13 = .int .i64 k ∧ Hid (Sep w (snL w m s1 ng nvs B (.slice none 0 0) [] (.slice sp rs.length sc) rs ++ [BoxA W2.heap.size #[.int .i64 2, .int .i64 ((x : Int) + 1), .int .i64 (ff : Int), .int .i64 (mm : Int), .slice pp ps.length pc, .int .i64 nn] 68, BytesWA (.slice (some ⟨bg, bo, none⟩) (40 * mm) bc) RO]) wr2)) (fun s13 _ => mm - (intOf s13).toNat)
            case atStart => exact ⟨0, Nat.zero_le _, by go_num, HS8⟩
            case round =>
              obtain ⟨k, hk, rfl, HSI⟩ := hrel
              clear HS8
              have z1 := rd_box HSI (5 + rs.length) snL_box 1
              have z2 := rd_box HSI (5 + rs.length) snL_box 2
              have z3 := rd_box HSI (5 + rs.length) snL_box 3
              change _ = some (Value.int .i64 ((x : Int) + 1)) at z1
              change _ = some (Value.int .i64 (ff : Int)) at z2
              change _ = some (Value.int .i64 (mm : Int)) at z3
              by_cases hkl : k < mm
              case neg =>
                have hkl' : ¬ (k : Int) < (mm : Int) := by omega
                have HS8 := snL_cut HSI
                clear HSI z1 z2
                go_wp2_with fail
                go_roundw
                case rel => exact ⟨i + 1, _, now, sn, nvs, B, rs, sp, sc, by omega, rfl, by go_num, T6, HD, HS8⟩
                case measure => simp [intOf]; omega
              case pos =>
                obtain ⟨sb, rfl, hoc⟩ := snL_outer HSI.out hxr
                obtain ⟨nv, hnv, hdat⟩ := HD.out.at hxr (j := ff + k) (by omega)
                have hrc := (HSI.out.row_cell (5 + x) (snL_more (snL_row hxr)) (ff + k) (by omega)).1
                rw [hnv] at hrc
                have hby := dat_at HSI.out rfl 3 rfl hdat
                obtain ⟨np, nc, rfl⟩ := bytes_sl hby
                have hrw := HROW.out k hkl
                unfold wantB at hrw
                obtain ⟨F, hF, _⟩ := HSI.out.get (5 + rs.length + 1) snL_box2
                have hcut := sn_bytes_cut (BytesAt.mono (BytesW.bytes hF) fun _ _ => (trivial : (fun _ => True) _)) (40 * k) 40 (by rw [hol]; omega)
                rw [hrw] at hcut
                generalize (sn.getD x []).getD (ff + k) [] = dd at *
                have HBY := Lib.hid hby
                have HCUT := Lib.hid hcut
                clear hF hby hcut hrw hnv hdat
                go_wp2_with fail
                have hxr' : (x : Int) < (rs.length : Int) := by omega
                have hfk : (ff : Int) + (k : Int) < 20 := by omega
                have hfk0 : (0 : Int) ≤ (ff : Int) + (k : Int) := by omega
                have hfkn : ((ff : Int) + (k : Int)).toNat = ff + k := by omega
                have hw1 : IntKind.i64.wrap (x : Int) = x := IntWalk.i64_in _ (by omega)
                have hw2 : IntKind.i64.wrap ((ff : Int) + (k : Int)) = (ff : Int) + (k : Int) := IntWalk.i64_in _ (by omega)
                refine wp_regionG (fun W => W.cell? ⟨W2.heap.size, 1, none⟩ = some (.int .i64 ((x : Int) + 1)) ∧ W.cell? ⟨sb, x, none⟩ = some (.slice (some ⟨rs[x].g, 0, none⟩) 20 rs[x].c) ∧ W.cell? ⟨W2.heap.size, 2, none⟩ = some (.int .i64 (ff : Int)) ∧ W.cell? ⟨rs[x].g, ff + k, none⟩ = some (.slice np dd.length nc)) (n := 14) (by kernel_rfl) (by kernel_rfl) ?_
                refine wpG.take 0 (v := ?_) (a' := ?_) rfl (by kernel_rfl) (by kernel_rfl) (by kernel_rfl) (by kernel_rfl) (fun _ _ _ h => h) ?_ ?_ ?_
                rotate_left 2
                · intro W hW
                  go_simp
                  try with_reducible rfl
                · go_simp
                  try with_reducible rfl
                refine wpG.take 1 (v := ?_) (a' := ?_) rfl (by kernel_rfl) (by kernel_rfl) (by kernel_rfl) (by kernel_rfl) (fun _ _ _ h => h) ?_ ?_ ?_
                rotate_left 2
                · intro W hW
                  go_simp
                  try with_reducible rfl
                · go_simp
                  try with_reducible rfl
                refine wpG.take 2 (v := ?_) (a' := ?_) rfl (by kernel_rfl) (by kernel_rfl) (by kernel_rfl) (by kernel_rfl) (fun _ _ _ h => h) ?_ ?_ ?_
                rotate_left 2
                · intro W hW
                  have hld0 := hW.1
                  go_simp
                  try with_reducible rfl
                · go_simp
                  try with_reducible rfl
                refine wpG.take 3 (v := ?_) (a' := ?_) rfl (by kernel_rfl) (by kernel_rfl) (by kernel_rfl) (by kernel_rfl) (fun _ _ _ h => h) ?_ ?_ ?_
                rotate_left 2
                · intro W hW
                  go_simp
                  try with_reducible rfl
                · go_simp
                  try with_reducible rfl
                refine wpG.take 4 (v := ?_) (a' := ?_) rfl (by kernel_rfl) (by kernel_rfl) (by kernel_rfl) (by kernel_rfl) (fun _ _ _ h => h) ?_ ?_ ?_
                rotate_left 2
                · intro W hW
                  go_simp
                  try with_reducible rfl
                · go_simp
                  try with_reducible rfl
                refine wpG.take 5 (v := ?_) (a' := ?_) rfl (by kernel_rfl) (by kernel_rfl) (by kernel_rfl) (by kernel_rfl) (fun _ _ _ h => h) ?_ ?_ ?_
                rotate_left 2
                · intro W hW
                  have hld0 := hW.2.1
                  go_simp
                  try with_reducible rfl
                · go_simp
                  try with_reducible rfl
                refine wpG.take 6 (v := ?_) (a' := ?_) rfl (by kernel_rfl) (by kernel_rfl) (by kernel_rfl) (by kernel_rfl) (fun _ _ _ h => h) ?_ ?_ ?_
                rotate_left 2
                · intro W hW
                  go_simp
                  try with_reducible rfl
                · go_simp
                  try with_reducible rfl
                refine wpG.take 7 (v := ?_) (a' := ?_) rfl (by kernel_rfl) (by kernel_rfl) (by kernel_rfl) (by kernel_rfl) (fun _ _ _ h => h) ?_ ?_ ?_
                rotate_left 2
                · intro W hW
                  go_simp
                  try with_reducible rfl
                · go_simp
                  try with_reducible rfl
                refine wpG.take 8 (v := ?_) (a' := ?_) rfl (by kernel_rfl) (by kernel_rfl) (by kernel_rfl) (by kernel_rfl) (fun _ _ _ h => h) ?_ ?_ ?_
                rotate_left 2
                · intro W hW
                  have hld0 := hW.2.2.1
                  go_simp
                  try with_reducible rfl
                · go_simp
                  try with_reducible rfl
                refine wpG.take 9 (v := ?_) (a' := ?_) rfl (by kernel_rfl) (by kernel_rfl) (by kernel_rfl) (by kernel_rfl) (fun _ _ _ h => h) ?_ ?_ ?_
                rotate_left 2
                · intro W hW
                  go_simp
                  try with_reducible rfl
                · go_simp
                  try with_reducible rfl
                refine wpG.take 10 (v := ?_) (a' := ?_) rfl (by kernel_rfl) (by kernel_rfl) (by kernel_rfl) (by kernel_rfl) (fun _ _ _ h => h) ?_ ?_ ?_
                rotate_left 2
                · intro W hW
                  go_simp
                  try with_reducible rfl
                · go_simp
                  try with_reducible rfl
                refine wpG.take 11 (v := ?_) (a' := ?_) rfl (by kernel_rfl) (by kernel_rfl) (by kernel_rfl) (by kernel_rfl) (fun _ _ _ h => h) ?_ ?_ ?_
                rotate_left 2
                · intro W hW
                  go_simp
                  try with_reducible rfl
                · go_simp
                  try with_reducible rfl
                refine wpG.take 12 (v := ?_) (a' := ?_) rfl (by kernel_rfl) (by kernel_rfl) (by kernel_rfl) (by kernel_rfl) (fun _ _ _ h => h) ?_ ?_ ?_
                rotate_left 2
                · intro W hW
                  have hld0 := hW.2.2.2
                  go_simp
                  try with_reducible rfl
                · go_simp
                  try with_reducible rfl
                refine wpG.take 13 (v := ?_) (a' := ?_) rfl (by kernel_rfl) (by kernel_rfl) (by kernel_rfl) (by kernel_rfl) (fun _ _ _ h => h) ?_ ?_ ?_
                rotate_left 2
                · intro W hW
                  go_simp
                  try with_reducible rfl
                · go_simp
                  try with_reducible rfl
                refine wpG.done (by kernel_rfl) ⟨z1, hoc, z2, hrc⟩ ?_
                have hw3 : IntKind.i64.wrap (40 * (k : Int)) = 40 * (k : Int) := IntWalk.i64_in _ (by omega)
                have hw4 : IntKind.i64.wrap (40 * (k : Int) + 40) = 40 * (k : Int) + 40 := IntWalk.i64_in _ (by omega)
                have hc1 : 40 * k + 40 ≤ 40 * mm := by omega
                have hc2 : 40 * k + 40 ≤ bc := by omega
                have HS9 := Lib.hid (HSI.out.up (below_drewN (Below.refl wr.heap.size wr) 1))
                have HC9 := Lib.hid (BytesAt.up HCUT.out (below_drewN (Below.refl wr.heap.size wr) 1))
                have HY9 := Lib.hid (BytesAt.up HBY.out (below_drewN (Below.refl wr.heap.size wr) 1))
                clear HSI HCUT HBY z1 z2 hoc hrc hw1 hw2 hfk0 hfkn hfk
                have z3 := rd_box HS9 (5 + rs.length) snL_box 3
                change _ = some (Value.int .i64 (mm : Int)) at z3
                by_cases hdd : dd = []
                case pos =>
                  have hcz := HC9.out
                  rw [if_pos hdd] at hcz
                  have HCZ := Lib.hid hcz
                  subst hdd
                  clear hcz HC9 HY9
                  obtain ⟨iiM, hiiM, hizM, hiyM, hixM⟩ := info_parts infoU8
                  go_wp2_with (at_make; refine wpList_make_wanted _ (by kernel_rfl) _ _ 30 rfl wr.drew.heap.size 5 iiM (.int .u8 0) 1 Tryz.underlying30 hiiM hizM hiyM _ _ _ _ 40 rfl rfl rfl rfl (by rw [hixM]; omega) (by unfold maxLen; omega) (Nat.le_refl _) ?_; intro w7 hownM hgrowM)
                  have HDM : Hid (BytesAt (New wr.drew w7) w7 (.slice (some ⟨wr.drew.heap.size, 0, none⟩) 40 40) zeroB) := bytesAt_row (B := wr.drew.heap.size) (l := zeroB) _ ⟨Nat.le_refl _, (hownM.lt wr.drew.heap.size rfl).2⟩ (by decide) (Nat.le_refl _) (by omega) (by rw [made_u8] at hownM; exact hownM)
                  have HBM : Hid (Below wr.drew.heap.size wr.drew w7) := (Below.refl _ _).grown hgrowM (Nat.le_refl _) (fun j hj => by cases hj)
                  clear hownM hgrowM hiiM hizM hiyM hixM
                  have HS10 := Lib.hid (HS9.out.up HBM.out)
                  have HC10 := Lib.hid (BytesAt.up HCZ.out HBM.out)
                  have HM10 := Lib.hid (BytesAt.mono HDM.out fun _ _ => trivial : BytesAt (fun _ => True) w7 _ zeroB)
                  clear HS9 HCZ HDM z3
                  go_wp2_with fail
                  refine (bytes_any (fun _ => True) _ _ zeroB zeroB _ HC10.out HM10.out).mono ?_
                  rintro e w8 ⟨rfl, hb8⟩
                  rw [show (zeroB == zeroB) = true by simp]
                  have HS11 := Lib.hid (HS10.out.up hb8)
                  clear hb8 HS10 HC10 HM10
                  go_wp2_with fail
                  go_roundw
                  case rel => exact ⟨k + 1, by omega, by go_num, HS11⟩
                  case measure => simp [intOf]; omega
                case neg =>
                  have hcz := HC9.out
                  rw [if_neg hdd] at hcz
                  have HCZ := Lib.hid hcz
                  have hdl : ((dd.length : Int) == 0) = false := by
                    have := List.length_pos_iff.2 hdd
                    rw [beq_eq_false_iff_ne]; omega
                  have HDN := Lib.hid hdd
                  clear hcz HC9 hdd
                  go_wp2_with fail
                  refine (bytes_any (fun _ => True) _ _ dd dd _ HCZ.out HY9.out).mono ?_
                  rintro e w8 ⟨rfl, hb8⟩
                  rw [show (dd == dd) = true by simp]
                  have HS11 := Lib.hid (HS9.out.up hb8)
                  clear hb8 HS9 HCZ HY9 z3
                  go_wp2_with fail
                  go_roundw
                  case rel => exact ⟨k + 1, by omega, by go_num, HS11⟩
                  case measure => simp [intOf]; omega
      by_cases hk3 : kd = 3
      · subst hk3
        as_aux_lemma =>
          obtain ⟨W2, rfl⟩ : ∃ W2 : World, W2 = wr := ⟨_, rfl⟩
          have HB := Lib.hid (mgWrite_sep HSA 1 rfl HT.out.g hh _ ps (fun G hR => rest_old_puts (by decide) HP.out hR) HPL.out)
          go_wp2_with fail
          refine (HB.out).mono ?_
          rintro e w6 ⟨rfl, HS7⟩
          have HS7 : Hid (Sep w (snL w m (wrNext s hh ps) ng nvs B (.slice none 0 0) [] (.slice sp rs.length sc) rs ++ [BoxA W2.heap.size #[.int .i64 3, .int .i64 hh, .int .i64 xf, .int .i64 xl, .slice pp ps.length pc, .int .i64 nn] 68]) w6) := HS7
          clear HB HSA z0 z1 z2 z3 z4
          by_cases hc : wrCode s hh ps = 0
          case neg =>
            have hcb : (wrCode s hh ps == 0) = false := by rw [beq_eq_false_iff_ne]; exact hc
            have T6 : Hid (SnI (400 * (i + 1)) (i + 1) (wrNext s hh ps) now sn) := Lib.hid ((HT.out.wrNo hh ps hc).mono (by omega) (by omega))
            have HS8 := snL_cut HS7
            generalize wrCode s hh ps = cd at *
            clear hc HS7
            go_wp2_with fail
            go_roundw
            case rel => exact ⟨i + 1, _, now, sn, nvs, B, rs, sp, sc, by omega, rfl, by go_num, T6, HD, HS8⟩
            case measure => simp [intOf]; omega
          case pos =>
            obtain ⟨x, e1, hx, hin, hT⟩ := HT.out.wr hh ps hc
            subst e1
            rw [hc]
            have T6 := Lib.hid (hT.mono (N' := 400 * (i + 1)) (k' := i + 1) (by omega) (by omega))
            have hxr : x < rs.length := by rw [HD.out.rl]; exact hx
            have hx1 : x ≤ 1000 := by have h1 := HT.out.sl; have h2 := HT.out.n; have := HI5.out; omega
            have HIN := Lib.hid hin
            have HX := Lib.hid hx
            generalize wrNext s ((x : Int) + 1) ps = s1 at *
            clear hT hin hc
            have hself : rs.set x { rs[x] with vs := rs[x].vs } = rs := List.set_getElem_self hxr
            have hsn : sn.set x (setPuts (sn.getD x []) (ps.take 0)) = sn := by
              have e : sn.getD x [] = sn[x] := by rw [List.getD_eq_getElem?_getD, List.getElem?_eq_getElem hx]; rfl
              rw [List.take_zero, e]
              exact List.set_getElem_self hx
            have HD0 : Hid (SnD w B nvs now (rs.set x { rs[x] with vs := rs[x].vs }) (sn.set x (setPuts (sn.getD x []) (ps.take 0)))) := by rw [hself, hsn]; exact HD
            have HS8 : Hid (Sep w (snL w m s1 ng nvs B (.slice none 0 0) [] (.slice sp rs.length sc) (rs.set x { rs[x] with vs := rs[x].vs }) ++ [BoxA W2.heap.size #[.int .i64 3, .int .i64 ((x : Int) + 1), .int .i64 xf, .int .i64 xl, .slice pp ps.length pc, .int .i64 nn] 68]) w6) := by rw [hself]; exact HS7
            clear hself hsn HS7 hx
            go_wp2_with fail
            go_loopw [15] (fun s15 wr2 => ∃ k : Nat, ∃ vs' : List Value, k ≤ ps.length ∧ s15 = .int .i64 k ∧ Hid (SnD w B nvs now (rs.set x { rs[x] with vs := vs' }) (sn.set x (setPuts (sn.getD x []) (ps.take k)))) ∧ Hid (Sep w (snL w m s1 ng nvs B (.slice none 0 0) [] (.slice sp rs.length sc) (rs.set x { rs[x] with vs := vs' }) ++ [BoxA W2.heap.size #[.int .i64 3, .int .i64 ((x : Int) + 1), .int .i64 xf, .int .i64 xl, .slice pp ps.length pc, .int .i64 nn] 68]) wr2)) (fun s15 _ => ps.length - (intOf s15).toNat)
            case atStart => exact ⟨0, _, Nat.zero_le _, by go_num, HD0, HS8⟩
            case round =>
              obtain ⟨k, vs', hk, rfl, HDk, HSk⟩ := hrel
              clear HD0 HS8
              have hsl : (rs.set x { rs[x] with vs := vs' }).length = rs.length := List.length_set ..
              have z1 := rd_box HSk (5 + (rs.set x { rs[x] with vs := vs' }).length) snL_box 1
              have z4 := rd_box HSk (5 + (rs.set x { rs[x] with vs := vs' }).length) snL_box 4
              change _ = some (Value.int .i64 ((x : Int) + 1)) at z1
              change _ = some (Value.slice pp ps.length pc) at z4
              have hx' : x < (rs.set x { rs[x] with vs := vs' }).length := by rw [hsl]; exact hxr
              have hge : (rs.set x { rs[x] with vs := vs' })[x] = { rs[x] with vs := vs' } := List.getElem_set_self ..
              by_cases hkl : k < ps.length
              case neg =>
                obtain rfl : k = ps.length := by omega
                have hkl' : ¬ ((ps.length : Nat) : Int) < ((ps.length : Nat) : Int) := by omega
                have hdk := HDk.out
                rw [List.take_length] at hdk
                have HDF := Lib.hid hdk
                have HSF : Hid (Sep w (snL w m s1 ng nvs B (.slice none 0 0) [] (.slice sp (rs.set x { rs[x] with vs := vs' }).length sc) (rs.set x { rs[x] with vs := vs' })) wr) := by rw [hsl]; exact snL_cut HSk
                clear HSk HDk z1 hge hdk
                go_wp2_with fail
                go_roundw
                case rel => exact ⟨i + 1, s1, now, _, nvs, B, rs.set x { rs[x] with vs := vs' }, sp, sc, by omega, by rw [hsl], by go_num, T6, HDF, HSF⟩
                case measure => simp [intOf]; omega
              case pos =>
                obtain ⟨p', c', e', _, _, _, hp4⟩ := HP.out
                cases e'
                obtain ⟨qb, qo, rfl, _, q1, _, dv, q2, qd⟩ := hp4 k hkl
                obtain ⟨dp, dc, hdv⟩ := bytes_sl qd
                generalize ps[k].data.length = dl at hdv
                subst hdv
                have hinx := HIN.out _ (List.getElem_mem hkl)
                have hdat : Dat w B (Value.slice dp dl dc) ps[k].data := .inl qd
                obtain ⟨j, hj⟩ := Int.eq_ofNat_of_zero_le hinx.1
                have hj20 : j < 20 := by omega
                rw [hj] at q1
                have q1' := cell_up HSk.out.old q1
                have q2' := cell_up HSk.out.old q2
                have HSk2 : Hid (Sep w (snL w m s1 ng nvs B (.slice none 0 0) [] (.slice sp (rs.set x { rs[x] with vs := vs' }).length sc) (rs.set x { rs[x] with vs := vs' }) ++ [BoxA W2.heap.size #[.int .i64 3, .int .i64 ((x : Int) + 1), .int .i64 xf, .int .i64 xl, .slice (some ⟨qb, qo, none⟩) ps.length pc, .int .i64 nn] 68]) wr) := by rw [hsl]; exact HSk
                obtain ⟨sb, rfl, hoc⟩ := snL_outer HSk2.out hx'
                rw [hge] at hoc
                change wr.cell? ⟨sb, x, none⟩ = some (.slice (some ⟨rs[x].g, 0, none⟩) 20 rs[x].c) at hoc
                have hv20 := HDk.out.rv x hx'
                rw [hge] at hv20
                change vs'.length = 20 at hv20
                obtain ⟨hrc, hrf⟩ := HSk.out.row_cell (5 + x) (snL_more (snL_row hx')) j (by omega)
                have hst := HSk.out.row_set (5 + x) (snL_more (snL_row hx')) j (Value.slice dp dl dc)
                rw [snL_set_more hx', List.set_set] at hst
                rw [hge] at hrc hrf hst
                change wr.cell? ⟨rs[x].g, j, none⟩ = vs'[j]? at hrc
                obtain ⟨old, hold⟩ : ∃ q, vs'[j]? = some q := ⟨_, List.getElem?_eq_getElem (by omega)⟩
                rw [hold] at hrc
                clear hold
                change wr.frozen? ⟨rs[x].g, j, none⟩ = false at hrf
                have hst : Sep w (snL w m s1 ng nvs B (.slice none 0 0) [] (.slice (some ⟨sb, 0, none⟩) rs.length sc) (rs.set x { rs[x] with vs := vs'.set j (Value.slice dp dl dc) }) ++ [BoxA W2.heap.size #[.int .i64 3, .int .i64 ((x : Int) + 1), .int .i64 xf, .int .i64 xl, .slice (some ⟨qb, qo, none⟩) ps.length pc, .int .i64 nn] 68]) (wr.setCell ⟨rs[x].g, j, none⟩ (.slice dp dl dc)) := hst
                have hdn := HDk.out.setRow hx' j hdat
                have hsx : (sn.set x (setPuts (sn.getD x []) (ps.take k))).getD x [] = setPuts (sn.getD x []) (ps.take k) := by unfold List.getD; rw [List.getElem?_set_self HX.out]; rfl
                have htk : setPuts (sn.getD x []) (ps.take (k + 1)) = (setPuts (sn.getD x []) (ps.take k)).set j ps[k].data := by
                  rw [take_snoc ps k hkl, setPuts_snoc, hj]; rfl
                rw [hsx, List.set_set, List.set_set, ← htk, hge] at hdn
                have HDN : Hid (SnD w B nvs now (rs.set x { rs[x] with vs := vs'.set j (Value.slice dp dl dc) }) (sn.set x (setPuts (sn.getD x []) (ps.take (k + 1))))) := hdn
                have HST := Lib.hid (hst.up (below_drewN (Below.refl _ _) 1))
                have hsl2 : (rs.set x { rs[x] with vs := vs'.set j (Value.slice dp dl dc) }).length = rs.length := List.length_set ..
                have y1 := rd_box HST (5 + (rs.set x { rs[x] with vs := vs'.set j (Value.slice dp dl dc) }).length) snL_box 1
                have y4 := rd_box HST (5 + (rs.set x { rs[x] with vs := vs'.set j (Value.slice dp dl dc) }).length) snL_box 4
                change _ = some (Value.int .i64 ((x : Int) + 1)) at y1
                change _ = some (Value.slice (some ⟨qb, qo, none⟩) ps.length pc) at y4
                have HST2 : Hid (Sep w (snL w m s1 ng nvs B (.slice none 0 0) [] (.slice (some ⟨sb, 0, none⟩) (rs.set x { rs[x] with vs := vs'.set j (Value.slice dp dl dc) }).length sc) (rs.set x { rs[x] with vs := vs'.set j (Value.slice dp dl dc) }) ++ [BoxA W2.heap.size #[.int .i64 3, .int .i64 ((x : Int) + 1), .int .i64 xf, .int .i64 xl, .slice (some ⟨qb, qo, none⟩) ps.length pc, .int .i64 nn] 68]) ((wr.setCell ⟨rs[x].g, j, none⟩ (.slice dp dl dc)).drewN 1)) := by rw [hsl2]; exact HST
                obtain ⟨_, e2, yoc⟩ := snL_outer HST2.out (x := x) (by rw [hsl2]; exact hxr)
                cases e2
                rw [show (rs.set x { rs[x] with vs := vs'.set j (Value.slice dp dl dc) })[x]'(by rw [hsl2]; exact hxr) = { rs[x] with vs := vs'.set j (Value.slice dp dl dc) } from List.getElem_set_self ..] at yoc
                have u1 := cell_up HST.out.old q1
                have u2 := cell_up HST.out.old q2
                have hj20' : (j : Int) < 20 := by omega
                have hw1 : IntKind.i64.wrap (x : Int) = x := IntWalk.i64_in _ (by omega)
                have hxr' : (x : Int) < (rs.length : Int) := by omega
                have hkl' : (k : Int) < (ps.length : Int) := by omega
                clear hst hdn hsx htk hge hdat HDk HSk HSk2 hp4 HST2 q1 q2 qd hinx hj hsl2
                go_wp2_with fail
                refine wp_regionG (fun W => W.cell? ⟨W2.heap.size, 1, none⟩ = some (.int .i64 ((x : Int) + 1)) ∧ W.cell? ⟨sb, x, none⟩ = some (.slice (some ⟨rs[x].g, 0, none⟩) 20 rs[x].c) ∧ W.cell? ⟨W2.heap.size, 4, none⟩ = some (.slice (some ⟨qb, qo, none⟩) ps.length pc) ∧ W.cell? ⟨qb, qo + k * 2, none⟩ = some (.int .i64 (j : Int)) ∧ W.cell? ⟨qb, qo + k * 2 + 1, none⟩ = some (Value.slice dp dl dc)) (n := 20) (by kernel_rfl) (by kernel_rfl) ?_
                refine wpG.take 0 (v := ?_) (a' := ?_) rfl (by kernel_rfl) (by kernel_rfl) (by kernel_rfl) (by kernel_rfl) (fun _ _ _ h => h) ?_ ?_ ?_
                rotate_left 2
                · intro W hW
                  go_simp
                  try with_reducible rfl
                · go_simp
                  try with_reducible rfl
                refine wpG.take 1 (v := ?_) (a' := ?_) rfl (by kernel_rfl) (by kernel_rfl) (by kernel_rfl) (by kernel_rfl) (fun _ _ _ h => h) ?_ ?_ ?_
                rotate_left 2
                · intro W hW
                  go_simp
                  try with_reducible rfl
                · go_simp
                  try with_reducible rfl
                refine wpG.take 2 (v := ?_) (a' := ?_) rfl (by kernel_rfl) (by kernel_rfl) (by kernel_rfl) (by kernel_rfl) (fun _ _ _ h => h) ?_ ?_ ?_
                rotate_left 2
                · intro W hW
                  have hld0 := hW.1
                  go_simp
                  try with_reducible rfl
                · go_simp
                  try with_reducible rfl
                refine wpG.take 3 (v := ?_) (a' := ?_) rfl (by kernel_rfl) (by kernel_rfl) (by kernel_rfl) (by kernel_rfl) (fun _ _ _ h => h) ?_ ?_ ?_
                rotate_left 2
                · intro W hW
                  go_simp
                  try with_reducible rfl
                · go_simp
                  try with_reducible rfl
                refine wpG.take 4 (v := ?_) (a' := ?_) rfl (by kernel_rfl) (by kernel_rfl) (by kernel_rfl) (by kernel_rfl) (fun _ _ _ h => h) ?_ ?_ ?_
                rotate_left 2
                · intro W hW
                  go_simp
                  try with_reducible rfl
                · go_simp
                  try with_reducible rfl
                refine wpG.take 5 (v := ?_) (a' := ?_) rfl (by kernel_rfl) (by kernel_rfl) (by kernel_rfl) (by kernel_rfl) (fun _ _ _ h => h) ?_ ?_ ?_
                rotate_left 2
                · intro W hW
                  have hld0 := hW.2.1
                  go_simp
                  try with_reducible rfl
                · go_simp
                  try with_reducible rfl
                refine wpG.take 6 (v := ?_) (a' := ?_) rfl (by kernel_rfl) (by kernel_rfl) (by kernel_rfl) (by kernel_rfl) (fun _ _ _ h => h) ?_ ?_ ?_
                rotate_left 2
                · intro W hW
                  go_simp
                  try with_reducible rfl
                · go_simp
                  try with_reducible rfl
                refine wpG.take 7 (v := ?_) (a' := ?_) rfl (by kernel_rfl) (by kernel_rfl) (by kernel_rfl) (by kernel_rfl) (fun _ _ _ h => h) ?_ ?_ ?_
                rotate_left 2
                · intro W hW
                  have hld0 := hW.2.2.1
                  go_simp
                  try with_reducible rfl
                · go_simp
                  try with_reducible rfl
                refine wpG.take 8 (v := ?_) (a' := ?_) rfl (by kernel_rfl) (by kernel_rfl) (by kernel_rfl) (by kernel_rfl) (fun _ _ _ h => h) ?_ ?_ ?_
                rotate_left 2
                · intro W hW
                  go_simp
                  try with_reducible rfl
                · go_simp
                  try with_reducible rfl
                refine wpG.take 9 (v := ?_) (a' := ?_) rfl (by kernel_rfl) (by kernel_rfl) (by kernel_rfl) (by kernel_rfl) (fun _ _ _ h => h) ?_ ?_ ?_
                rotate_left 2
                · intro W hW
                  go_simp
                  try with_reducible rfl
                · go_simp
                  try with_reducible rfl
                refine wpG.take 10 (v := ?_) (a' := ?_) rfl (by kernel_rfl) (by kernel_rfl) (by kernel_rfl) (by kernel_rfl) (fun _ _ _ h => h) ?_ ?_ ?_
                rotate_left 2
                · intro W hW
                  go_simp
                  try with_reducible rfl
                · go_simp
                  try with_reducible rfl
                refine wpG.take 11 (v := ?_) (a' := ?_) rfl (by kernel_rfl) (by kernel_rfl) (by kernel_rfl) (by kernel_rfl) (fun _ _ _ h => h) ?_ ?_ ?_
                rotate_left 2
                · intro W hW
                  have hld0 := hW.2.2.2.1
                  go_simp
                  try with_reducible rfl
                · go_simp
                  try with_reducible rfl
                refine wpG.take 12 (v := ?_) (a' := ?_) rfl (by kernel_rfl) (by kernel_rfl) (by kernel_rfl) (by kernel_rfl) (fun _ _ _ h => h) ?_ ?_ ?_
                rotate_left 2
                · intro W hW
                  go_simp
                  try with_reducible rfl
                · go_simp
                  try with_reducible rfl
                refine wpG.take 13 (v := ?_) (a' := ?_) rfl (by kernel_rfl) (by kernel_rfl) (by kernel_rfl) (by kernel_rfl) (fun _ _ _ h => h) ?_ ?_ ?_
                rotate_left 2
                · intro W hW
                  have hld0 := hW.2.2.1
                  go_simp
                  try with_reducible rfl
                · go_simp
                  try with_reducible rfl
                refine wpG.take 14 (v := ?_) (a' := ?_) rfl (by kernel_rfl) (by kernel_rfl) (by kernel_rfl) (by kernel_rfl) (fun _ _ _ h => h) ?_ ?_ ?_
                rotate_left 2
                · intro W hW
                  go_simp
                  try with_reducible rfl
                · go_simp
                  try with_reducible rfl
                refine wpG.take 15 (v := ?_) (a' := ?_) rfl (by kernel_rfl) (by kernel_rfl) (by kernel_rfl) (by kernel_rfl) (fun _ _ _ h => h) ?_ ?_ ?_
                rotate_left 2
                · intro W hW
                  go_simp
                  try with_reducible rfl
                · go_simp
                  try with_reducible rfl
                refine wpG.take 16 (v := ?_) (a' := ?_) rfl (by kernel_rfl) (by kernel_rfl) (by kernel_rfl) (by kernel_rfl) (fun _ _ _ h => h) ?_ ?_ ?_
                rotate_left 2
                · intro W hW
                  go_simp
                  try with_reducible rfl
                · go_simp
                  try with_reducible rfl
                refine wpG.take 17 (v := ?_) (a' := ?_) rfl (by kernel_rfl) (by kernel_rfl) (by kernel_rfl) (by kernel_rfl) (fun _ _ _ h => h) ?_ ?_ ?_
                rotate_left 2
                · intro W hW
                  have hld0 := hW.2.2.2.2
                  go_simp
                  try with_reducible rfl
                · go_simp
                  try with_reducible rfl
                refine wpG.take 18 (v := ?_) (a' := ?_) rfl (by kernel_rfl) (by kernel_rfl) (by kernel_rfl) (by kernel_rfl) (fun _ _ _ h => h) ?_ ?_ ?_
                rotate_left 2
                · intro W hW
                  go_simp
                  try with_reducible rfl
                · go_simp
                  try with_reducible rfl
                refine wpG.alone 19 rfl (by kernel_rfl) (by kernel_rfl) ⟨z1, hoc, z4, q1', q2'⟩ (fun K hK => ?_)
                go_simp
                try go_simp
                refine hK _ _ ?_
                clear hK K
                refine wpG.done (by kernel_rfl) ⟨y1, yoc, y4, u1, u2⟩ ?_
                clear z1 hoc z4 q1' q2' y1 yoc y4 u1 u2 hrc hrf
                go_wp2_with fail
                go_roundw
                case rel => exact ⟨k + 1, _, by omega, by go_num, HDN, HST⟩
                case measure => simp [intOf]; omega
      by_cases hk4 : kd = 4
      · subst hk4
        have HB := Lib.hid (mgCommit_sep HSA 1 rfl HT.out.g (Nat.le_trans HT.out.g.qlen16 (by omega)) hh)
        have T6 : Hid (SnI (400 * (i + 1)) (i + 1) (cmNext s hh) now sn) := Lib.hid ((HT.out.cm hh).mono (by omega) (by omega))
        go_wp2_with fail
        refine (HB.out).mono ?_
        rintro e w6 ⟨rfl, HS7⟩
        have HS7 : Hid (Sep w (snL w m (cmNext s hh) ng nvs B (.slice none 0 0) [] (.slice sp rs.length sc) rs ++ [BoxA wr.heap.size #[.int .i64 4, .int .i64 hh, .int .i64 xf, .int .i64 xl, .slice pp ps.length pc, .int .i64 nn] 68]) w6) := HS7
        have HS8 := snL_cut HS7
        clear HB HSA HS7 z0 z1 z2 z3 z4
        go_wp2_with fail
        go_roundw
        case rel => exact ⟨i + 1, _, now, sn, nvs, B, rs, sp, sc, by omega, rfl, by go_num, T6, HD, HS8⟩
        case measure => simp [intOf]; omega
      by_cases hk5 : kd = 5
      · subst hk5
        have HB := Lib.hid (mgAbort_sep HSA 1 rfl hh)
        have T6 : Hid (SnI (400 * (i + 1)) (i + 1) (abNext s hh) now sn) := Lib.hid ((HT.out.ab hh).mono (by omega) (by omega))
        go_wp2_with fail
        refine (HB.out).mono ?_
        rintro e w6 ⟨rfl, HS7⟩
        have HS7 : Hid (Sep w (snL w m (abNext s hh) ng nvs B (.slice none 0 0) [] (.slice sp rs.length sc) rs ++ [BoxA wr.heap.size #[.int .i64 5, .int .i64 hh, .int .i64 xf, .int .i64 xl, .slice pp ps.length pc, .int .i64 nn] 68]) w6) := HS7
        have HS8 := snL_cut HS7
        clear HB HSA HS7 z0 z1 z2 z3 z4
        go_wp2_with fail
        go_roundw
        case rel => exact ⟨i + 1, _, now, sn, nvs, B, rs, sp, sc, by omega, rfl, by go_num, T6, HD, HS8⟩
        case measure => simp [intOf]; omega
      by_cases hk6 : kd = 6
      · subst hk6
        as_aux_lemma =>
          obtain ⟨W2, rfl⟩ : ∃ W2 : World, W2 = wr := ⟨_, rfl⟩
          have HB := Lib.hid (mgBatch_sep HSA 1 rfl HT.out.g (Nat.le_trans HT.out.g.qlen16 (by omega)) (by have := HI5.out; omega))
          go_wp2_with fail
          refine (HB.out).mono ?_
          rintro e w6 (⟨h0, rfl, HS7⟩ | ⟨h0, tp, tc, rfl, HS7⟩)
          · have hcb : (baCode s == 0) = false := by rw [beq_eq_false_iff_ne]; exact h0
            have T6 : Hid (SnI (400 * (i + 1)) (i + 1) s now sn) := Lib.hid (HT.out.mono (by omega) (by omega))
            have hs8 := (snL_cut HS7).out.up (below_alloc w6 (.cells #[.int .i64 0, .slice none 0 0] 42))
            have HS8 := Lib.hid hs8
            generalize baCode s = cd at *
            clear h0 HB HSA HS7 hs8 z0 z1 z2 z3 z4
            go_wp2_with fail
            go_roundw
            case rel => exact ⟨i + 1, _, now, sn, nvs, B, rs, sp, sc, by omega, rfl, by go_num, T6, HD, HS8⟩
            case measure => simp [intOf]; omega
          · obtain ⟨hg1, hq1, ho1, hd1, hpb, hfl, hnl, hT⟩ := HT.out.batch h0
            have T6 := Lib.hid (hT.mono (N' := 400 * (i + 1)) (k' := i + 1) (by omega) (by omega))
            have HPB := Lib.hid hpb
            have hs7 := HS7.out
            rw [List.append_assoc] at hs7
            have hs7 : Sep w (snL w m (baNext s) ng nvs B (.slice none 0 0) [] (.slice sp rs.length sc) rs ++ ([BoxA W2.heap.size #[.int .i64 6, .int .i64 hh, .int .i64 xf, .int .i64 xl, .slice pp ps.length pc, .int .i64 nn] 68] ++ [TxsA (.slice tp (formN (waitL s)) tc) ((waitL s).take (formN (waitL s)))])) w6 := hs7
            have hs8 := hs7.erase (5 + rs.length)
            rw [List.eraseIdx_append_of_length_le (by rw [snL_len]; exact Nat.le_refl _), snL_len, Nat.sub_self] at hs8
            have hs9 := Sep.bag_txs hs8 3 rfl
            have hs9 : Sep w (snL w m (baNext s) ng nvs B (.slice tp (formN (waitL s)) tc) ((waitL s).take (formN (waitL s))) (.slice sp rs.length sc) rs) w6 := hs9
            have hs10 := hs9.new (below_alloc w6 _) (BoxA w6.heap.size #[.int .i64 (s.num + 1), .slice tp (formN (waitL s)) tc] 42) (F := New w6 (w6.alloc (.cells #[.int .i64 (s.num + 1), .slice tp (formN (waitL s)) tc] 42 (0, 0)))) (fun _ h => h) ⟨⟨Nat.le_refl _, by simp⟩, heap_alloc_new w6 _⟩
            have HS10 := Lib.hid hs10
            have HDN := Lib.hid (mgDone_sep HS10 1 rfl hg1 hq1 (by have := HI5.out; omega) ho1 0)
            rw [hd1] at HDN
            generalize hbz : w6.heap.size = bz at *
            generalize htl : (waitL s).take (formN (waitL s)) = tl at *
            have hfn : formN (waitL s) = tl.length := by rw [← htl, List.length_take]; omega
            have hnow : nowTo s now (formN (waitL s)) = tl.foldl (fun ls t => setPuts ls t.puts) now := by unfold nowTo; rw [htl]
            have HPT : Hid (∀ t ∈ tl, ∀ p ∈ t.puts, 0 ≤ p.lba ∧ p.lba < 20) := fun t ht => HPB.out t (by rw [← htl] at ht; exact List.mem_of_mem_take ht)
            have htl8 : tl.length ≤ 8 := by have := (formN_bd (waitL s)).2; omega
            have HP16 : Hid (∀ t ∈ tl, t.puts.length ≤ 16) := fun t ht => by
              rw [← htl] at ht
              obtain ⟨hh', hm, rfl⟩ := List.mem_map.1 (List.mem_of_mem_take ht)
              obtain ⟨o1, o2⟩ := HT.out.g.qr hh' hm
              show (bufPuts (txAt s.txs hh').buf).length ≤ 16
              rw [bufPuts_len]
              exact (HT.out.g.tx _ (txAt_mem o1 o2)).bl
            rw [hnow] at T6
            rw [hfn] at HDN HS10
            have hfn' : (formN (waitL s) : Nat) = tl.length := hfn
            generalize doneNext (baNext s) 0 = s1 at *
            generalize s.num + 1 = num1 at *
            clear hs7 hs8 hs9 hs10 HS7 HB HSA hg1 hq1 ho1 hd1 hpb hfl hnl hT h0 hnow z0 z1 z2 z3 z4 HPB
            rw [hfn']
            clear hfn hfn' htl
            go_wp2_with fail
            refine (HDN.out).mono ?_
            rintro e w7 ⟨rfl, HS11⟩
            have HS11 : Hid (Sep w (snL w m s1 ng nvs B (.slice tp tl.length tc) tl (.slice sp rs.length sc) rs ++ [BoxA bz #[.int .i64 num1, .slice tp tl.length tc] 42]) w7) := HS11
            clear HDN HS10 hbz
            go_wp2_with fail
            go_loopw [18] (fun s18 wr2 => ∃ (j : Nat) (nv2 : List Value) (B2 : List (Value × Bytes)), j ≤ tl.length ∧ s18 = .int .i64 j ∧ Hid (SnD w B2 nv2 ((tl.take j).foldl (fun ls t => setPuts ls t.puts) now) rs sn) ∧ Hid (Sep w (snL w m s1 ng nv2 B2 (.slice tp tl.length tc) tl (.slice sp rs.length sc) rs ++ [BoxA bz #[.int .i64 num1, .slice tp tl.length tc] 42]) wr2)) (fun s18 _ => tl.length - (intOf s18).toNat)
            case atStart => exact ⟨0, nvs, B, Nat.zero_le _, by go_num, HD, HS11⟩
            case round =>
              obtain ⟨j, nv2, B2, hj, rfl, HDj, HSj⟩ := hrel
              clear HS11
              have y1 := rd_box HSj (5 + rs.length) snL_box 1
              change _ = some (Value.slice tp tl.length tc) at y1
              by_cases hjl : j < tl.length
              case neg =>
                obtain rfl : j = tl.length := by omega
                have hjl' : ¬ ((tl.length : Nat) : Int) < ((tl.length : Nat) : Int) := by omega
                have hdj := HDj.out
                rw [List.take_length] at hdj
                have HDF := Lib.hid hdj
                have HSF : Hid (Sep w (snL w m s1 ng nv2 B2 (.slice none 0 0) [] (.slice sp rs.length sc) rs) wr) := Sep.bag_drop (snL_cut HSj).out 3 rfl
                clear HSj HDj hdj
                go_wp2_with fail
                go_roundw
                case rel => exact ⟨i + 1, s1, _, sn, nv2, B2, rs, sp, sc, by omega, rfl, by go_num, T6, HDF, HSF⟩
                case measure => simp [intOf]; omega
              case pos =>
                obtain ⟨tb, tO, pp2, pc2, etp, htx, hxa, hxb⟩ := bag_tx HSj.out 3 (snL_more rfl) hjl
                subst etp
                clear htx y1 hxa hxb
                obtain ⟨W3, rfl⟩ : ∃ W3 : World, W3 = wr := ⟨_, rfl⟩
                have hjl' : (j : Int) < (tl.length : Int) := by omega
                have hp16 : tl[j].puts.length ≤ 16 := HP16.out _ (List.getElem_mem hjl)
                have y1 := rd_box HSj (5 + rs.length) snL_box 1
                change _ = some (Value.slice (some ⟨tb, tO, none⟩) tl.length tc) at y1
                go_wp2_with fail
                go_loopw [19] (fun s19 wr3 => ∃ (k : Nat) (nv3 : List Value) (B3 : List (Value × Bytes)), k ≤ tl[j].puts.length ∧ s19 = .int .i64 k ∧ Hid (SnD w B3 nv3 (setPuts ((tl.take j).foldl (fun ls t => setPuts ls t.puts) now) (tl[j].puts.take k)) rs sn) ∧ Hid (Sep w (snL w m s1 ng nv3 B3 (.slice (some ⟨tb, tO, none⟩) tl.length tc) tl (.slice sp rs.length sc) rs ++ [BoxA bz #[.int .i64 num1, .slice (some ⟨tb, tO, none⟩) tl.length tc] 42]) wr3)) (fun s19 _ => tl[j].puts.length - (intOf s19).toNat)
                case atStart => exact ⟨0, nv2, B2, Nat.zero_le _, by go_num, HDj, HSj⟩
                case round =>
                  obtain ⟨k, nv3, B3, hk, rfl, HDk, HSk⟩ := hrel
                  clear HSj y1
                  have y1 := rd_box HSk (5 + rs.length) snL_box 1
                  change _ = some (Value.slice (some ⟨tb, tO, none⟩) tl.length tc) at y1
                  obtain ⟨_, _, pp3, pc3, e3, htx, hFb, hput⟩ := bag_tx HSk.out 3 (snL_more rfl) hjl
                  cases e3
                  by_cases hkl : k < tl[j].puts.length
                  case neg =>
                    obtain rfl : k = tl[j].puts.length := by omega
                    have hkl' : ¬ ((tl[j].puts.length : Nat) : Int) < ((tl[j].puts.length : Nat) : Int) := by omega
                    have hdk := HDk.out
                    have htk : (tl.take (j + 1)).foldl (fun ls t => setPuts ls t.puts) now = setPuts ((tl.take j).foldl (fun ls t => setPuts ls t.puts) now) tl[j].puts := by rw [take_snoc tl j hjl, List.foldl_append]; rfl
                    rw [List.take_length, ← htk] at hdk
                    have HDF := Lib.hid hdk
                    clear HDk hdk htk hput hFb
                    go_wp2_with fail
                    go_roundw
                    case rel => exact ⟨j + 1, nv3, B3, by omega, by go_num, HDF, HSk⟩
                    case measure => simp [intOf]; omega
                  case pos =>
                    obtain ⟨pg, pq, dv, e4, c1, c2, hdv⟩ := hput k hkl
                    subst e4
                    obtain ⟨F3, hF3, _⟩ := HSk.out.get 3 (snL_more rfl)
                    obtain ⟨dp, dc, hds⟩ := bytes_sl (hdv F3 hF3).2
                    have hd40 : I64 0 := i64_zero
                    obtain ⟨dl, hdl⟩ : ∃ dl, tl[j].puts[k].data.length = dl := ⟨_, rfl⟩
                    rw [hdl] at hds
                    subst hds
                    have hlb := HPT.out _ (List.getElem_mem hjl) _ (List.getElem_mem hkl)
                    obtain ⟨q, hq⟩ := Int.eq_ofNat_of_zero_le hlb.1
                    have hq20 : q < 20 := by omega
                    rw [hq] at c1
                    have hbag := Sep.bag_add HSk.out 3 (snL_more rfl) (.slice dp dl dc, tl[j].puts[k].data) fun F hF => (hdv F hF).2
                    have hbag : Sep w (snL w m s1 ng nv3 ((.slice dp dl dc, tl[j].puts[k].data) :: B3) (.slice (some ⟨tb, tO, none⟩) tl.length tc) tl (.slice sp rs.length sc) rs ++ [BoxA bz #[.int .i64 num1, .slice (some ⟨tb, tO, none⟩) tl.length tc] 42]) wr := hbag
                    have hst := hbag.row_set 2 (snL_more rfl) q (.slice dp dl dc)
                    have hst : Sep w (snL w m s1 ng (nv3.set q (.slice dp dl dc)) ((.slice dp dl dc, tl[j].puts[k].data) :: B3) (.slice (some ⟨tb, tO, none⟩) tl.length tc) tl (.slice sp rs.length sc) rs ++ [BoxA bz #[.int .i64 num1, .slice (some ⟨tb, tO, none⟩) tl.length tc] 42]) (wr.setCell ⟨ng, q, none⟩ (.slice dp dl dc)) := hst
                    have HST := Lib.hid (hst.up (below_drewN (Below.refl _ _) 1))
                    obtain ⟨hrc, hrf⟩ := HSk.out.row_cell 2 (snL_more rfl) q (by omega)
                    obtain ⟨old, hold⟩ : ∃ o, nv3[q]? = some o := ⟨_, List.getElem?_eq_getElem (by rw [HDk.out.nl]; exact hq20)⟩
                    rw [hold] at hrc
                    have hdn := (HDk.out.bag (.slice dp dl dc, tl[j].puts[k].data)).setNow q (v := .slice dp dl dc) (d := tl[j].puts[k].data) (.inr (List.mem_cons_self ..))
                    have htk : setPuts ((tl.take j).foldl (fun ls t => setPuts ls t.puts) now) (tl[j].puts.take (k + 1)) = (setPuts ((tl.take j).foldl (fun ls t => setPuts ls t.puts) now) (tl[j].puts.take k)).set q tl[j].puts[k].data := by
                      rw [take_snoc _ k hkl, setPuts_snoc, hq]; rfl
                    rw [← htk] at hdn
                    have HDN := Lib.hid hdn
                    obtain ⟨Fa, Fb, hA, hB, hAB, _⟩ := HSk.out.two 2 3 (by decide) (snL_more rfl) (snL_more rfl)
                    have hng := hA.2 ng rfl
                    have n1 : tb ≠ ng := fun e => hAB ng hng (e ▸ hFb Fb hB)
                    have n2 : pg ≠ ng := fun e => hAB ng hng (e ▸ (hdv Fb hB).1)
                    obtain ⟨Fc, Fd, hC, hD, hCD, _⟩ := HSk.out.two 2 (5 + rs.length) (by omega) (snL_more rfl) snL_box
                    have n3 : bz ≠ ng := fun e => hCD ng (hC.2 ng rfl) (e ▸ hD.1)
                    have y1' : ((wr.setCell ⟨ng, q, none⟩ (.slice dp dl dc)).drewN 1).cell? ⟨bz, 1, none⟩ = some (.slice (some ⟨tb, tO, none⟩) tl.length tc) := (cell_set_other n3).trans y1
                    have htx' : ((wr.setCell ⟨ng, q, none⟩ (.slice dp dl dc)).drewN 1).cell? ⟨tb, tO + j * 2 + 1, none⟩ = some (.slice (some ⟨pg, pq, none⟩) tl[j].puts.length pc3) := (cell_set_other n1).trans htx
                    have c1' : ((wr.setCell ⟨ng, q, none⟩ (.slice dp dl dc)).drewN 1).cell? ⟨pg, pq + k * 2, none⟩ = some (.int .i64 (q : Int)) := (cell_set_other n2).trans c1
                    have c2' : ((wr.setCell ⟨ng, q, none⟩ (.slice dp dl dc)).drewN 1).cell? ⟨pg, pq + k * 2 + 1, none⟩ = some (.slice dp dl dc) := (cell_set_other n2).trans c2
                    have hq20' : (q : Int) < 20 := by omega
                    have hkl' : (k : Int) < (tl[j].puts.length : Int) := by omega
                    clear hbag hst hold hdn htk hA hB hAB hng hC hD hCD hput hFb hdv hF3 HDk HSk hlb hq hdl n1 n2 n3
                    go_wp2_with fail
                    refine wp_regionG (fun W => W.cell? ⟨bz, 1, none⟩ = some (.slice (some ⟨tb, tO, none⟩) tl.length tc) ∧ W.cell? ⟨tb, tO + j * 2 + 1, none⟩ = some (.slice (some ⟨pg, pq, none⟩) tl[j].puts.length pc3) ∧ W.cell? ⟨pg, pq + k * 2, none⟩ = some (.int .i64 (q : Int)) ∧ W.cell? ⟨pg, pq + k * 2 + 1, none⟩ = some (.slice dp dl dc)) (n := 23) (by kernel_rfl) (by kernel_rfl) ?_
                    refine wpG.take 0 (v := ?_) (a' := ?_) rfl (by kernel_rfl) (by kernel_rfl) (by kernel_rfl) (by kernel_rfl) (fun _ _ _ h => h) ?_ ?_ ?_
                    rotate_left 2
                    · intro W hW
                      go_simp
                      try with_reducible rfl
                    · go_simp
                      try with_reducible rfl
                    refine wpG.take 1 (v := ?_) (a' := ?_) rfl (by kernel_rfl) (by kernel_rfl) (by kernel_rfl) (by kernel_rfl) (fun _ _ _ h => h) ?_ ?_ ?_
                    rotate_left 2
                    · intro W hW
                      go_simp
                      try with_reducible rfl
                    · go_simp
                      try with_reducible rfl
                    refine wpG.take 2 (v := ?_) (a' := ?_) rfl (by kernel_rfl) (by kernel_rfl) (by kernel_rfl) (by kernel_rfl) (fun _ _ _ h => h) ?_ ?_ ?_
                    rotate_left 2
                    · intro W hW
                      have hld0 := hW.1
                      go_simp
                      try with_reducible rfl
                    · go_simp
                      try with_reducible rfl
                    refine wpG.take 3 (v := ?_) (a' := ?_) rfl (by kernel_rfl) (by kernel_rfl) (by kernel_rfl) (by kernel_rfl) (fun _ _ _ h => h) ?_ ?_ ?_
                    rotate_left 2
                    · intro W hW
                      go_simp
                      try with_reducible rfl
                    · go_simp
                      try with_reducible rfl
                    refine wpG.take 4 (v := ?_) (a' := ?_) rfl (by kernel_rfl) (by kernel_rfl) (by kernel_rfl) (by kernel_rfl) (fun _ _ _ h => h) ?_ ?_ ?_
                    rotate_left 2
                    · intro W hW
                      go_simp
                      try with_reducible rfl
                    · go_simp
                      try with_reducible rfl
                    refine wpG.take 5 (v := ?_) (a' := ?_) rfl (by kernel_rfl) (by kernel_rfl) (by kernel_rfl) (by kernel_rfl) (fun _ _ _ h => h) ?_ ?_ ?_
                    rotate_left 2
                    · intro W hW
                      go_simp
                      try with_reducible rfl
                    · go_simp
                      try with_reducible rfl
                    refine wpG.take 6 (v := ?_) (a' := ?_) rfl (by kernel_rfl) (by kernel_rfl) (by kernel_rfl) (by kernel_rfl) (fun _ _ _ h => h) ?_ ?_ ?_
                    rotate_left 2
                    · intro W hW
                      have hld0 := hW.2.1
                      go_simp
                      try with_reducible rfl
                    · go_simp
                      try with_reducible rfl
                    refine wpG.take 7 (v := ?_) (a' := ?_) rfl (by kernel_rfl) (by kernel_rfl) (by kernel_rfl) (by kernel_rfl) (fun _ _ _ h => h) ?_ ?_ ?_
                    rotate_left 2
                    · intro W hW
                      go_simp
                      try with_reducible rfl
                    · go_simp
                      try with_reducible rfl
                    refine wpG.take 8 (v := ?_) (a' := ?_) rfl (by kernel_rfl) (by kernel_rfl) (by kernel_rfl) (by kernel_rfl) (fun _ _ _ h => h) ?_ ?_ ?_
                    rotate_left 2
                    · intro W hW
                      go_simp
                      try with_reducible rfl
                    · go_simp
                      try with_reducible rfl
                    refine wpG.take 9 (v := ?_) (a' := ?_) rfl (by kernel_rfl) (by kernel_rfl) (by kernel_rfl) (by kernel_rfl) (fun _ _ _ h => h) ?_ ?_ ?_
                    rotate_left 2
                    · intro W hW
                      go_simp
                      try with_reducible rfl
                    · go_simp
                      try with_reducible rfl
                    refine wpG.take 10 (v := ?_) (a' := ?_) rfl (by kernel_rfl) (by kernel_rfl) (by kernel_rfl) (by kernel_rfl) (fun _ _ _ h => h) ?_ ?_ ?_
                    rotate_left 2
                    · intro W hW
                      have hld0 := hW.2.2.1
                      go_simp
                      try with_reducible rfl
                    · go_simp
                      try with_reducible rfl
                    refine wpG.take 11 (v := ?_) (a' := ?_) rfl (by kernel_rfl) (by kernel_rfl) (by kernel_rfl) (by kernel_rfl) (fun _ _ _ h => h) ?_ ?_ ?_
                    rotate_left 2
                    · intro W hW
                      go_simp
                      try with_reducible rfl
                    · go_simp
                      try with_reducible rfl
                    refine wpG.take 12 (v := ?_) (a' := ?_) rfl (by kernel_rfl) (by kernel_rfl) (by kernel_rfl) (by kernel_rfl) (fun _ _ _ h => h) ?_ ?_ ?_
                    rotate_left 2
                    · intro W hW
                      have hld0 := hW.1
                      go_simp
                      try with_reducible rfl
                    · go_simp
                      try with_reducible rfl
                    refine wpG.take 13 (v := ?_) (a' := ?_) rfl (by kernel_rfl) (by kernel_rfl) (by kernel_rfl) (by kernel_rfl) (fun _ _ _ h => h) ?_ ?_ ?_
                    rotate_left 2
                    · intro W hW
                      go_simp
                      try with_reducible rfl
                    · go_simp
                      try with_reducible rfl
                    refine wpG.take 14 (v := ?_) (a' := ?_) rfl (by kernel_rfl) (by kernel_rfl) (by kernel_rfl) (by kernel_rfl) (fun _ _ _ h => h) ?_ ?_ ?_
                    rotate_left 2
                    · intro W hW
                      go_simp
                      try with_reducible rfl
                    · go_simp
                      try with_reducible rfl
                    refine wpG.take 15 (v := ?_) (a' := ?_) rfl (by kernel_rfl) (by kernel_rfl) (by kernel_rfl) (by kernel_rfl) (fun _ _ _ h => h) ?_ ?_ ?_
                    rotate_left 2
                    · intro W hW
                      go_simp
                      try with_reducible rfl
                    · go_simp
                      try with_reducible rfl
                    refine wpG.take 16 (v := ?_) (a' := ?_) rfl (by kernel_rfl) (by kernel_rfl) (by kernel_rfl) (by kernel_rfl) (fun _ _ _ h => h) ?_ ?_ ?_
                    rotate_left 2
                    · intro W hW
                      have hld0 := hW.2.1
                      go_simp
                      try with_reducible rfl
                    · go_simp
                      try with_reducible rfl
                    refine wpG.take 17 (v := ?_) (a' := ?_) rfl (by kernel_rfl) (by kernel_rfl) (by kernel_rfl) (by kernel_rfl) (fun _ _ _ h => h) ?_ ?_ ?_
                    rotate_left 2
                    · intro W hW
                      go_simp
                      try with_reducible rfl
                    · go_simp
                      try with_reducible rfl
                    refine wpG.take 18 (v := ?_) (a' := ?_) rfl (by kernel_rfl) (by kernel_rfl) (by kernel_rfl) (by kernel_rfl) (fun _ _ _ h => h) ?_ ?_ ?_
                    rotate_left 2
                    · intro W hW
                      go_simp
                      try with_reducible rfl
                    · go_simp
                      try with_reducible rfl
                    refine wpG.take 19 (v := ?_) (a' := ?_) rfl (by kernel_rfl) (by kernel_rfl) (by kernel_rfl) (by kernel_rfl) (fun _ _ _ h => h) ?_ ?_ ?_
                    rotate_left 2
                    · intro W hW
                      go_simp
                      try with_reducible rfl
                    · go_simp
                      try with_reducible rfl
                    refine wpG.take 20 (v := ?_) (a' := ?_) rfl (by kernel_rfl) (by kernel_rfl) (by kernel_rfl) (by kernel_rfl) (fun _ _ _ h => h) ?_ ?_ ?_
                    rotate_left 2
                    · intro W hW
                      have hld0 := hW.2.2.2
                      go_simp
                      try with_reducible rfl
                    · go_simp
                      try with_reducible rfl
                    refine wpG.take 21 (v := ?_) (a' := ?_) rfl (by kernel_rfl) (by kernel_rfl) (by kernel_rfl) (by kernel_rfl) (fun _ _ _ h => h) ?_ ?_ ?_
                    rotate_left 2
                    · intro W hW
                      go_simp
                      try with_reducible rfl
                    · go_simp
                      try with_reducible rfl
                    refine wpG.alone 22 rfl (by kernel_rfl) (by kernel_rfl) ⟨y1, htx, c1, c2⟩ (fun K hK => ?_)
                    go_simp
                    try go_simp
                    refine hK _ _ ?_
                    clear hK K
                    refine wpG.done (by kernel_rfl) ⟨y1', htx', c1', c2'⟩ ?_
                    clear y1 htx c1 c2 y1' htx' c1' c2' hrc hrf
                    go_wp2_with fail
                    go_roundw
                    case rel => exact ⟨k + 1, _, _, by omega, by go_num, HDN, HST⟩
                    case measure => simp [intOf]; omega
      by_cases hk9 : kd = 9
      · subst hk9
        have HB := Lib.hid (mgPrune_sep HSA 1 rfl HT.out.g (by have := HI5.out; omega))
        have T6 : Hid (SnI (400 * (i + 1)) (i + 1) (prNext s) now sn) := Lib.hid (HT.out.pr.mono (by omega) (by omega))
        generalize nVers s.vs - nVers (pruneVs (prH s) s.vs) = pv9 at *
        go_wp2_with fail
        refine (HB.out).mono ?_
        rintro e w6 ⟨rfl, HS7⟩
        have HS7 : Hid (Sep w (snL w m (prNext s) ng nvs B (.slice none 0 0) [] (.slice sp rs.length sc) rs ++ [BoxA wr.heap.size #[.int .i64 9, .int .i64 hh, .int .i64 xf, .int .i64 xl, .slice pp ps.length pc, .int .i64 nn] 68]) w6) := HS7
        have HS8 := snL_cut HS7
        clear HB HSA HS7 z0 z1 z2 z3 z4
        go_wp2_with fail
        go_roundw
        case rel => exact ⟨i + 1, _, now, sn, nvs, B, rs, sp, sc, by omega, rfl, by go_num, T6, HD, HS8⟩
        case measure => simp [intOf]; omega
      have T6 : Hid (SnI (400 * (i + 1)) (i + 1) s now sn) := Lib.hid (HT.out.mono (by omega) (by omega))
      have HS8 := snL_cut HSA
      clear HSA z1 z2 z3 z4
      go_wp2_with fail
      go_roundw
      case rel => exact ⟨i + 1, _, now, sn, nvs, B, rs, sp, sc, by omega, rfl, by go_num, T6, HD, HS8⟩
      case measure => simp [intOf]; omega
end Go.Proofs
