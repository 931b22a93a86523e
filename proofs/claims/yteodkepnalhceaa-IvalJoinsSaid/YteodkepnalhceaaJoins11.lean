/- IvalJoins: added in whatever order, in whatever groups, a set is the same: for every input the law returns true. -/
import Derived.Test.YteodkepnalhceaaLaw11
import Derived.Test.YteodkepnalhceaaExtsEq
import Derived.Test.YteodkepnalhceaaCuts
namespace Go.Proofs
open Go.RowKit Sc

theorem add_small {most : Int} {l0 l : List Ext} (hg : SetG l0) (ha : allB l = true) (hn : ((l0.length + l.length : Nat) : Int) ≤ most) : addCode most l0 l = 0 ∧ addNext most l0 l = normE (l0 ++ l) := by
  by_cases hl : l = []
  · subst hl
    have hc : addCode most l0 [] = 0 := by unfold addCode; rw [if_neg (by rw [ha]; decide), if_pos rfl]
    exact ⟨hc, by unfold addNext; rw [if_pos hc]⟩
  · have hlen := (normE_good' (addOke hg ha)).2.2
    rw [List.length_append] at hlen
    obtain ⟨h1, h2⟩ := addCode_is (most := most) hg ha hl rfl
    rw [if_neg (by omega)] at h1 h2
    exact ⟨h1, h2⟩
theorem allB_sub {l m : List Ext} (h : allB l = true) (hm : ∀ e ∈ m, e ∈ l) : allB m = true := by
  unfold allB at *
  rw [List.all_eq_true] at *
  exact fun e he => h e (hm e he)
theorem normE_two {l m k : List Ext} (h : ∀ e ∈ l, Oke e) (hm : ∀ e ∈ m ++ k, e ∈ l) (hx : ∀ x, cov l x ↔ cov m x ∨ cov k x) : normE (normE m ++ k) = normE l := by
  have hmo : ∀ e ∈ m, Oke e := fun e he => h e (hm e (by simp [he]))
  have hko : ∀ e ∈ k, Oke e := fun e he => h e (hm e (by simp [he]))
  obtain ⟨g1, g2, _⟩ := normE_good' hmo
  obtain ⟨k1, k2, _⟩ := normE_good' h
  refine normE_ext (fun e he => ?_) k1.1 fun x => ?_
  · rcases List.mem_append.1 he with he | he
    · exact g1.1.1 e he
    · exact (hko e he).2.2.1
  · rw [k2, hx, cov_append, g2]
theorem exts_from {G : Nat → Prop} {w : World} {p : Option Addr} {c : Nat} {l : List Ext} (h : ExtsAt G w (.slice p l.length c) l) (k : Nat) (hk : k ≤ l.length) :
    ∃ p', (∀ W, (Instr.slice 29 (.slice p l.length c) (some (.int .i64 (k : Int))) none none).run Try.prog W = .ok (.slice p' (l.length - k) (c - k)) W) ∧ ∀ w', ExtsAt G w' (.slice p l.length c) l → ExtsAt G w' (.slice p' (l.length - k) (c - k)) (l.drop k) := by
  obtain ⟨i0, hi0, _⟩ := info_parts infoExt
  have hu : Try.prog.underlying 29 = some (.slice (Try.prog.elem 29)) := by kernel_rfl
  have he : Try.prog.elem 29 = 28 := by kernel_rfl
  have hkk : Try.prog.cellsOf 28 = 2 := by kernel_rfl
  obtain ⟨p0, c0, he0, h1, h2, h3, h4⟩ := h
  cases he0
  refine ⟨if c = k then p else p.map fun a => a.add (k * 2), fun W => ?_, fun w' hw' => ?_⟩
  · rw [run_slice_l (P := Try.prog) (w := W) 29 _ l.length c hu .i64 (k : Int) (by omega) (by omega), he, run_sizeOf (P := Try.prog) W hi0]
    simp only [Result.andThen, sliced, Int.toNat_natCast, hkk]
  · obtain ⟨p0, c0, he0, g1, g2, g3, g4⟩ := hw'
    cases he0
    have hln : l.length - k = (l.drop k).length := by rw [List.length_drop]
    refine ⟨_, c - k, by rw [hln], by rw [List.length_drop]; omega, by omega, fun hn => ?_, fun i hi => ?_⟩
    · split at hn
      · omega
      · cases p with
        | none => have := g3 rfl; omega
        | some a => cases hn
    · rw [List.length_drop] at hi
      obtain ⟨b, o, rfl, hb, hx⟩ := g4 (k + i) (by omega)
      rw [if_neg (by omega)]
      refine ⟨b, o + k * 2, by simp [addr_plus], hb, ?_⟩
      rw [List.getElem_drop, show o + k * 2 + i * 2 = o + (k + i) * 2 by omega]
      exact hx
theorem exts_to {G : Nat → Prop} {w : World} {p : Option Addr} {c : Nat} {l : List Ext} (h : ExtsAt G w (.slice p l.length c) l) (k : Nat) (hk : k ≤ l.length) :
    (∀ W, (Instr.slice 29 (.slice p l.length c) none (some (.int .i64 (k : Int))) none).run Try.prog W = .ok (.slice p k c) W) ∧ ∀ w', ExtsAt G w' (.slice p l.length c) l → ExtsAt G w' (.slice p k c) (l.take k) := by
  obtain ⟨i0, hi0, _⟩ := info_parts infoExt
  have hu : Try.prog.underlying 29 = some (.slice (Try.prog.elem 29)) := by kernel_rfl
  have he : Try.prog.elem 29 = 28 := by kernel_rfl
  obtain ⟨p0, c0, he0, h1, h2, h3, h4⟩ := h
  cases he0
  refine ⟨fun W => ?_, fun w' hw' => ?_⟩
  · rw [run_slice_h (P := Try.prog) (w := W) 29 _ l.length c hu .i64 (k : Int) (by omega) (by omega), he, run_sizeOf (P := Try.prog) W hi0]
    cases p with
    | none => simp only [Result.andThen, sliced, Option.map_none, Nat.sub_zero, Int.toNat_natCast, ite_self]
    | some a =>
      obtain ⟨b, o, q⟩ := a
      have : ((⟨b, o, q⟩ : Addr).add 0) = ⟨b, o, q⟩ := by unfold Addr.add; split <;> simp_all
      simp only [Result.andThen, sliced, Option.map_some, Nat.zero_mul, this, Nat.sub_zero, Int.toNat_natCast, ite_self]
  · obtain ⟨p0, c0, he0, g1, g2, g3, g4⟩ := hw'
    cases he0
    have hln : k = (l.take k).length := by rw [List.length_take]; omega
    refine ⟨p, c, by rw [← hln], by omega, g2, g3, fun i hi => ?_⟩
    rw [List.length_take] at hi
    obtain ⟨b, o, rfl, hb, hx⟩ := g4 i (by omega)
    exact ⟨b, o, rfl, hb, by rw [List.getElem_take]; exact hx⟩
theorem exts_true {G : Nat → Prop} {w : World} {v : Value} {l : List Ext} (h : ExtsAt G w v l) : ExtsAt (fun _ => True) w v l := SlAt.mono h (fun _ _ => trivial) (fun _ _ _ h => h)

set_option maxRecDepth 100000 in
set_option maxHeartbeats 4000000 in
theorem joins11_any (vl : Value) (l : List Ext) (k0 : Int) (w : World) (hl : ExtsAt (Old w) w vl l) : Calls Try.prog 4 #[vl, .int .i64 k0] w (Tru w) := by
  obtain ⟨p, c, rfl⟩ := extsAt_shape hl
  have HL := Lib.hid hl
  by_cases h60 : l.length ≤ 60
  case neg =>
    have h60' : (60 : Int) < (l.length : Int) := by omega
    clear h60 hl
    go_enter Try.func4, Try.ntmps4
    go_wp2_with fail
    refine (awake11 _).mono ?_
    rintro e w2 ⟨rfl, hb2⟩
    have HB2 := Lib.hid hb2
    clear hb2
    go_wp2
    go_ret
    exact ⟨rfl, HB2.out⟩
  case pos =>
    obtain ⟨hk0, hk1⟩ := roundN_bd k0 (n := (l.length : Int) + 1) (by omega)
    obtain ⟨k, hk⟩ := Int.eq_ofNat_of_zero_le hk0
    have hkl : k ≤ l.length := by omega
    obtain ⟨pf, hfr, hfx⟩ := exts_from hl k hkl
    obtain ⟨hto, htx⟩ := exts_to hl k hkl
    have hw1 : IntKind.i64.wrap ((l.length : Int) + 1) = (l.length : Int) + 1 := IntWalk.i64_in _ (by omega)
    have hold : ∀ (w2 : World) (L : List Asn), Hid (Sep w (OldA w :: L) w2) → ExtsAt (Old w) w2 (.slice p l.length c) l := fun w2 L h => ExtsAt.same HL.out (fun k hk => h.out.old.block k hk)
    have HFX := Lib.hid hfx
    have HTX := Lib.hid htx
    have HOLD := Lib.hid hold
    have HK := Lib.hid hk
    clear hfx htx hold hk
    clear hl hk0 hk1
    go_enter Try.func4, Try.ntmps4
    go_wp2_with fail
    refine (round_any k0 ((l.length : Int) + 1) _ (by omega) (by omega)).mono ?_
    rintro e w1 ⟨rfl, rfl⟩
    rw [HK.out]
    go_wp2_with fail
    refine (setNew_sep (Sep.start w) 100).mono ?_
    rintro e w1 ⟨b1, rfl, HS1⟩
    go_wp2_with fail
    refine (setNew_sep HS1.out 100).mono ?_
    rintro e w2 ⟨b2, rfl, HS2⟩
    go_wp2_with fail
    refine (setNew_sep HS2.out 100).mono ?_
    rintro e w3 ⟨b3, rfl, HS3⟩
    have hla := HOLD.out _ _ HS3
    have HLA := Lib.hid hla
    clear hla
    go_wp2_with fail
    refine (setAdd_sep HS3.out 1 rfl l (exts_true HLA.out) SetG.nil (by simp) (by omega)).mono ?_
    rintro e w4 ⟨rfl, HS4⟩
    cases hq : allB l with
    | false =>
      have hcode : addCode 100 [] l = 1 := by unfold addCode; rw [if_pos hq]
      have hnext : addNext 100 [] l = [] := by unfold addNext; rw [if_neg (by rw [hcode]; decide)]
      rw [hnext] at HS4
      rw [hcode]
      clear hcode hnext hq
      go_wp2_with fail
      refine (setCount_sep HS4 1 rfl SetG.nil (by simp)).mono ?_
      rintro e w5 ⟨rfl, HB5, HS5⟩
      rw [show cntE [] = 0 from rfl]
      go_wp2_with fail
      refine (awake11 _).mono ?_
      rintro e w6 ⟨rfl, hb6⟩
      have hS6 := HS5.out.up hb6
      have HS6 := Lib.hid hS6
      clear hS6
      go_wp2
      go_ret
      exact ⟨rfl, HS6.out.old⟩
    | true =>
      have hok : ∀ e ∈ l, Oke e := fun e he => mayB_oke (allB_mem hq e he)
      obtain ⟨hN, hNc, hNl⟩ := normE_good' hok
      obtain ⟨hc1, hn1⟩ := add_small (most := 100) SetG.nil hq (by simp; omega)
      rw [List.nil_append] at hn1
      have hqd : allB (l.drop k) = true := allB_sub hq fun e he => List.mem_of_mem_drop he
      have hqt : allB (l.take k) = true := allB_sub hq fun e he => List.mem_of_mem_take he
      have hdl : (l.drop k).length ≤ 60 := by rw [List.length_drop]; omega
      have htl : (l.take k).length ≤ 60 := by rw [List.length_take]; omega
      obtain ⟨hc2, hn2⟩ := add_small (most := 100) SetG.nil hqd (by simp; omega)
      rw [List.nil_append] at hn2
      obtain ⟨hM, _, hMl⟩ := normE_good' (l := l.drop k) (fun e he => hok e (List.mem_of_mem_drop he))
      obtain ⟨hc3, hn3⟩ := add_small (most := 100) hM hqt (by rw [List.length_take]; rw [List.length_drop] at hMl; omega)
      rw [normE_two (l := l) hok (fun e he => (List.mem_append.1 he).elim List.mem_of_mem_drop List.mem_of_mem_take) (fun x => by
        have := cov_append (a := l.take k) (b := l.drop k) (x := x)
        rw [List.take_append_drop] at this
        rw [this]; exact ⟨fun h => h.symm, fun h => h.symm⟩)] at hn3
      rw [hn1] at HS4
      rw [hc1]
      have hNl' : (normE l).length ≤ 60 := by omega
      have hMl' : (normE (l.drop k)).length ≤ 60 := by omega
      have hfd := exts_true (HFX.out w4 (HOLD.out w4 _ HS4))
      have hstep : ∀ j : Nat, (hj : j < l.length) → addCode 100 (normE (l.drop (j + 1))) [l[j]] = 0 ∧ addNext 100 (normE (l.drop (j + 1))) [l[j]] = normE (l.drop j) ∧ SetG (normE (l.drop (j + 1))) ∧ (normE (l.drop (j + 1))).length ≤ 50000 := by
        intro j hj
        obtain ⟨q1, _, q3⟩ := normE_good' (l := l.drop (j + 1)) (fun e he => hok e (List.mem_of_mem_drop he))
        have qa : allB [l[j]] = true := allB_sub hq fun e he => by rw [List.mem_singleton] at he; rw [he]; exact List.getElem_mem hj
        rw [List.length_drop] at q3
        obtain ⟨c1, c2⟩ := add_small (most := 100) q1 qa (by simp; omega)
        rw [normE_two (l := l.drop j) (fun e he => hok e (List.mem_of_mem_drop he)) (fun e he => by
          rw [List.drop_eq_getElem_cons hj]
          rcases List.mem_append.1 he with he | he
          · exact List.mem_cons_of_mem _ he
          · rw [List.mem_singleton] at he; rw [he]; exact List.mem_cons_self ..) (fun x => by
          rw [List.drop_eq_getElem_cons hj, cov_cons, cov_cons]
          have := cov_nil x
          constructor
          · rintro (h | h)
            · exact .inr (.inl h)
            · exact .inl h
          · rintro (h | h | h)
            · exact .inr h
            · exact .inl h
            · exact absurd h this)] at c2
        exact ⟨c1, c2, q1, by omega⟩
      have hpo : SetG (normE (l.drop k)) := hM
      have HFD := Lib.hid hfd
      have HC2 := Lib.hid hc2
      have HN2 := Lib.hid hn2
      have HC3 := Lib.hid hc3
      have HN3 := Lib.hid hn3
      have HN := Lib.hid hN
      have HNL' := Lib.hid hNl'
      have HML' := Lib.hid hMl'
      have HSTEP := Lib.hid hstep
      have HOK := Lib.hid hok
      have HDL := Lib.hid hdl
      have HTL := Lib.hid htl
      have HPO := Lib.hid hpo
      clear hfd hc2 hn2 hc3 hn3 hN hNl' hMl' hstep hok hdl htl hpo
      clear hc1 hn1 hNc hqd hqt hMl hM hNl hq
      go_wp2_with fail
      refine (setAdd_sep HS4.out 2 rfl (l.drop k) HFD.out SetG.nil (by simp) (by have := HDL.out; omega)).mono ?_
      rintro e w5 ⟨rfl, HS5⟩
      rw [HC2.out]
      rw [HN2.out] at HS5
      have htd := exts_true (HTX.out w5 (HOLD.out w5 _ HS5))
      have HTD := Lib.hid htd
      clear htd
      go_wp2_with fail
      refine (setAdd_sep HS5.out 2 rfl (l.take k) HTD.out HPO.out (by have := HML'.out; omega) (by have := HTL.out; omega)).mono ?_
      rintro e w6 ⟨rfl, HS6⟩
      rw [HC3.out]
      rw [HN3.out] at HS6
      have hdn : normE (l.drop l.length) = [] := by rw [List.drop_length]; exact normE_nil
      have HDN := Lib.hid hdn
      clear hdn
      go_wp2_with fail
      go_loopw [9] (fun i wr => ∃ j : Nat, j ≤ l.length ∧ i = .int .i64 ((j : Int) - 1) ∧ Hid (Sep w [OldA w, SetA (.pointer (some ⟨b1, 0, none⟩)) 100 (normE l), SetA (.pointer (some ⟨b2, 0, none⟩)) 100 (normE l), SetA (.pointer (some ⟨b3, 0, none⟩)) 100 (normE (l.drop j))] wr)) (fun i _ => (intOf i + 1).toNat)
      case atStart => exact ⟨l.length, Nat.le_refl _, rfl, by rw [HDN.out]; exact HS6⟩
      case round =>
        obtain ⟨j, hj, rfl, HS⟩ := hrel
        cases j with
        | succ j =>
          have hjl : j < l.length := by omega
          obtain ⟨hc7, hn7, hg7, hl7⟩ := HSTEP.out j hjl
          have hcur := HOLD.out _ _ HS
          obtain ⟨p', c', he, _, _, _, h4⟩ := hcur
          cases he
          obtain ⟨g, o, rfl, _, hca, hcb, hia, hib⟩ := h4 j hjl
          have hej : (((j + 1 : Nat) : Int) - 1) = (j : Int) := by omega
          rw [hej]
          generalize l[j] = x at *
          have hj0 : (0 : Int) ≤ (j : Int) := by omega
          have hjI : (j : Int) < (l.length : Int) := by omega
          have hw2 : IntKind.i64.wrap ((j : Int) - 1) = (j : Int) - 1 := IntWalk.i64_in _ (by omega)
          have HC7 := Lib.hid hc7
          have HN7 := Lib.hid hn7
          have HG7 := Lib.hid hg7
          have HL7 := Lib.hid hl7
          have HIA := Lib.hid hia
          have HIB := Lib.hid hib
          clear hc7 hn7 hg7 hl7 hia hib
          clear h4 hej hfr hto
          go_wp2_with fail
          refine (setAdd_one HS 3 rfl x.first x.len HIA.out HIB.out HG7.out HL7.out).mono ?_
          rintro e w7 ⟨rfl, HS7⟩
          rw [HC7.out]
          rw [HN7.out] at HS7
          go_wp2_with fail
          go_roundw
          case rel => exact ⟨j, by omega, rfl, HS7⟩
          case measure => simp [intOf]; try omega
        | zero =>
          rw [List.drop_zero] at HS
          have hnl := HNL'.out
          rw [show (((0 : Nat) : Int) - 1) = -1 from rfl]
          clear hfr hto
          go_wp2_with fail
          refine (setExtents_sep HS 1 rfl (by omega)).mono ?_
          rintro e w7 ⟨p7, c7, rfl, HX7, HB7, HS7⟩
          go_wp2_with fail
          refine (setExtents_sep HS7 2 rfl (by omega)).mono ?_
          rintro e w8 ⟨p8, c8, rfl, HX8, HB8, HS8⟩
          have hx78 := ExtsAt.up HX7.out HB8.out
          have HX78 := Lib.hid hx78
          clear hx78
          go_wp2_with fail
          refine (exts_any _ _ _ _ _ _ _ HX78.out HX8.out).mono ?_
          rintro e w9 ⟨rfl, hb9⟩
          rw [sameE_iff.2 rfl]
          have hS9 := HS8.out.up hb9
          have HS9 := Lib.hid hS9
          have HB9 := Lib.hid hb9
          clear hS9 hb9
          go_wp2_with fail
          refine (setExtents_sep HS9 1 rfl (by omega)).mono ?_
          rintro e w10 ⟨p10, c10, rfl, HX10, HB10, HS10⟩
          go_wp2_with fail
          refine (setExtents_sep HS10 3 rfl (by omega)).mono ?_
          rintro e w11 ⟨p11, c11, rfl, HX11, HB11, HS11⟩
          have hx1011 := ExtsAt.up HX10.out HB11.out
          have HX1011 := Lib.hid hx1011
          clear hx1011
          go_wp2_with fail
          refine (exts_any _ _ _ _ _ _ _ HX1011.out HX11.out).mono ?_
          rintro e w12 ⟨rfl, hb12⟩
          rw [sameE_iff.2 rfl]
          have hS12 := HS11.out.up hb12
          have HS12 := Lib.hid hS12
          have HB12 := Lib.hid hb12
          clear hS12 hb12
          go_wp2_with fail
          refine (setCount_sep HS12 1 rfl HN.out (by omega)).mono ?_
          rintro e w13 ⟨rfl, HB13, HS13⟩
          go_wp2_with fail
          refine (setCount_sep HS13 3 rfl HN.out (by omega)).mono ?_
          rintro e w14 ⟨rfl, HB14, HS14⟩
          go_wp2_with fail
          refine (awake11 _).mono ?_
          rintro e w15 ⟨rfl, hb15⟩
          have hS15 := HS14.out.up hb15
          have HS15 := Lib.hid hS15
          clear hS15
          go_wp2
          go_ret
          exact ⟨rfl, HS15.out.old⟩
end Go.Proofs
