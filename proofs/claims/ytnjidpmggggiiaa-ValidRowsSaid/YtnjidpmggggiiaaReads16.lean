/- ValidReads: what only reads is never refused; what touches nothing that was written later is not either: for every input the law returns true. -/
import Derived.Test.YtnjidpmggggiiaaLaw16
import Derived.Test.YtnjidpmggggiiaaSmall16
namespace Go.Proofs
open Go.RowKit Sc

theorem txsAt_shape {G : Nat → Prop} {w : World} {v : Value} {l : List Tx} (h : TxsAt G w v l) : ∃ p c, v = .slice p l.length c := by
  obtain ⟨p, c, rfl, _⟩ := h; exact ⟨p, c, rfl⟩
theorem tsz_puts {l : List Tx} {t : Tx} (h : t ∈ l) : t.puts.length ≤ tsz l := by
  unfold tsz
  induction l with
  | nil => cases h
  | cons a l ih =>
    simp only [List.map_cons, List.sum_cons, List.length_cons]
    rcases List.mem_cons.1 h with rfl | h
    · unfold psz; omega
    · have := ih h; omega
theorem tsz_len (l : List Tx) : l.length ≤ tsz l := by unfold tsz; omega
theorem far_no {blocks last : Int} {vs : Vers} (hg : GoodE blocks last vs) (hb : blocks ≤ 50) (t : Int) : hitsB vs [] t [⟨1000, 5⟩] = false := by
  unfold hitsB wrB writtenB
  have : (vs.any (hitB 1000 5 t)) = false := by
    rw [List.any_eq_false]
    intro x hx
    have := hg.ks x hx
    unfold hitB
    have h1 : decide ((1000 : Int) ≤ x.1) = false := decide_eq_false (by omega)
    rw [h1]; simp
  simp [this]
theorem late_no {blocks last : Int} {vs : Vers} (hg : GoodE blocks last vs) (l : List Ext) : hitsB vs [] last l = false := by
  unfold hitsB
  have : (l.any fun x => wrB vs x last) = false := by
    rw [List.any_eq_false]
    intro x _
    unfold wrB writtenB
    have : (vs.any (hitB x.first x.len last)) = false := by
      rw [List.any_eq_false]
      intro y hy
      obtain ⟨k, ps⟩ := y
      obtain ⟨h1, h2, h3⟩ := hg.ts k ps (alook_mem hg.nd hy)
      have h4 : decide (last < lastT ps) = false := by
        apply decide_eq_false
        unfold lastT
        cases hq : ps.getLast? with
        | none => simp; have := hg.l0; omega
        | some p =>
          have := h3 p (List.mem_of_getLast? hq)
          simp only [Option.map_some, Option.getD_some]; omega
      unfold hitB
      simp only [h4]; simp
    simp [this]
  simp [this]
theorem far_set : setOf [⟨1000, 5⟩] = [⟨1000, 5⟩] := set_one1 (by omega)
theorem code_none {vs : Vers} {queue : List Tx} {t : Int} {r : List Ext} : checkCode vs queue t r [] = 0 := by unfold checkCode; exact if_pos rfl
theorem code_no {vs : Vers} {queue : List Tx} {t : Int} {r l : List Ext} (h1 : hitsB vs queue t r = false) (h2 : hitsB vs queue t l = false) : checkCode vs queue t r l = 0 := by
  unfold checkCode
  rw [h1, h2]
  split <;> rfl
theorem hits_nil {vs : Vers} {t : Int} : hitsB vs [] t [] = false := rfl

set_option maxRecDepth 100000 in
set_option maxHeartbeats 3000000 in
theorem reads16_any (vl vq vr : Value) (l queue : List Tx) (t : Int) (r : List Ext) (w : World) (hl : TxsAt (Old w) w vl l) (hq : TxsAt (Old w) w vq queue) (hr : ExtsAt (Old w) w vr r) (hri : ∀ e ∈ r, I64 e.first ∧ I64 e.len) :
    Calls Try.prog 10 #[vl, vq, .int .i64 t, vr] w (Tru w) := by
  obtain ⟨rp, rc, rfl⟩ := extsAt_shape hr
  obtain ⟨lp, lc, rfl⟩ := txsAt_shape hl
  obtain ⟨qp, qc, rfl⟩ := txsAt_shape hq
  have hsm := small16_any (Old w) (Old w) _ _ l queue rp none r.length rc 0 0 w (fun _ h => h) (fun _ h => h) hl hq
  have hold : ∀ (w2 : World) (L : List Asn), Hid (Sep w (OldA w :: L) w2) → TxsAt (Old w) w2 (.slice lp l.length lc) l ∧ TxsAt (Old w) w2 (.slice qp queue.length qc) queue ∧ ExtsAt (fun _ => True) w2 (.slice rp r.length rc) r := fun w2 L h =>
    ⟨TxsAt.same hl (fun k hk => h.out.old.block k hk), TxsAt.same hq (fun k hk => h.out.old.block k hk), SlAt.mono (ExtsAt.same hr (fun k hk => h.out.old.block k hk)) (fun _ _ => trivial) (fun _ _ _ h => h)⟩
  have HSM := Lib.hid hsm
  have HOLD := Lib.hid hold
  have HRI := Lib.hid hri
  clear hsm hold hri
  clear hl hq hr
  go_enter Try.func10, Try.ntmps10
  go_wp2_with fail
  refine (HSM.out).mono ?_
  rintro e w1 ⟨q, rfl, hq, hb1⟩
  have hS1 := (Sep.start w).up hb1
  have HS1 := Lib.hid hS1
  have HB1 := Lib.hid hb1
  have HQ := Lib.hid hq
  clear hS1 hb1 hq
  cases q with
  | false =>
    go_wp2_with fail
    refine (awake16 _).mono ?_
    rintro e w2 ⟨rfl, hb2⟩
    have hS2 := HS1.out.up hb2
    have HS2 := Lib.hid hS2
    have HB2 := Lib.hid hb2
    clear hS2 hb2
    go_wp2
    go_ret
    exact ⟨rfl, HS2.out.old⟩
  | true =>
    obtain ⟨hz1, hz2, hz3, _⟩ := HQ.out rfl
    have hll : l.length ≤ 10000 := by have := tsz_len l; omega
    have hputs : ∀ x ∈ l, x.puts.length ≤ 1000000 := fun x hx => by have := tsz_puts hx; omega
    have hgs : GoodE 50 0 [] := ⟨List.nodup_nil, by simp, fun k l h => by simp [alook] at h, by omega⟩
    have HZ1 := Lib.hid hz1
    have HZ2 := Lib.hid hz2
    have HPUTS := Lib.hid hputs
    have HGS := Lib.hid hgs
    clear hz1 hz2 hputs hgs
    go_wp2_with fail
    refine (extNew_sep HS1.out 50 (by omega) (by omega)).mono ?_
    rintro e w2 ⟨bm, rfl, hS2⟩
    have HS2 := Lib.hid hS2
    clear hS2
    go_wp2_with fail
    go_loopw [11] (fun i wr => ∃ k : Nat, ∃ last vs, k ≤ l.length ∧ i = .int .i64 k ∧ Hid (Sep w [OldA w, ExtA (.pointer (some ⟨bm, 0, none⟩)) 50 last vs] wr) ∧ Hid (GoodE 50 last vs ∧ ∀ key ls, alook vs key = some ls → ls.length ≤ k)) (fun i _ => l.length - (intOf i).toNat)
    case atStart => exact ⟨0, 0, [], by omega, rfl, HS2.out, HGS.out, fun key ls h => by simp [alook] at h⟩
    case round =>
      obtain ⟨k, last, vs, hk, rfl, HS, HI⟩ := hrel
      by_cases hlt : k < l.length
      case pos =>
        obtain ⟨p', c', he', _, _, _, h4⟩ := (HOLD.out _ _ HS).1
        cases he'
        obtain ⟨g, o, rfl, hgo, hte⟩ := h4 k hlt
        obtain ⟨pv, hct, hcp, htx, hone⟩ := txE_txAt hte
        have hpl := HPUTS.out _ (List.getElem_mem hlt)
        generalize l[k] = x at *
        obtain ⟨pv', hpv, hti, hpp⟩ := htx
        cases hpv
        obtain ⟨pp, pc, rfl⟩ : ∃ pp pc, pv = .slice pp x.puts.length pc := by obtain ⟨p, c, rfl, _⟩ := hpp; exact ⟨p, c, rfl⟩
        have hap := extApply_sep HS.out 1 (tv := .agg #[.int .i64 x.time, .slice pp x.puts.length pc]) rfl (by omega) x (fun G hG => TxAt.mono ⟨_, rfl, hti, hpp⟩ (rest_old (by decide) hG)) (fun key ls hx => by have := HI.out.2 key ls hx; omega) hpl
        have hkI : (k : Int) < (l.length : Int) := by omega
        have HAP := Lib.hid hap
        have HTI := Lib.hid hti
        have HPP := Lib.hid hpp
        have HPL := Lib.hid hpl
        clear hap hti hpp hpl
        clear h4 hte
        go_wp2_with fail
        refine (HAP.out).mono ?_
        rintro e w3 ⟨rfl, hS3⟩
        have HS3 := Lib.hid hS3
        clear hS3
        go_wp2_with fail
        go_roundw
        case rel => exact ⟨k + 1, _, _, by omega, by go_num, HS3.out, HI.out.1.next x, apply_lenG HI.out.1 HI.out.2⟩
        case measure => simp [intOf]; omega
      case neg =>
        have hg := HI.out.1
        have hR := (HOLD.out _ _ HS).2.2
        have HG := Lib.hid hg
        have HR := Lib.hid hR
        clear hg hR
        go_wp2_with fail
        refine (sets_sep (h := HS) _ r HR.out HRI.out (by omega)).mono ?_
        rintro e w3 ⟨b1, c1, rfl, HB3, HS3⟩
        go_wp2_with fail
        refine (sets_sep (h := HS3) _ [] SlAt.nil (fun e he => by cases he) (by simp)).mono ?_
        rintro e w4 ⟨b2, c2, rfl, HB4, HS4⟩
        go_wp2_with fail
        refine (sets_sep (h := HS4.out.up (below_alloc w4 _)) _ [⟨1000, 5⟩] (exts_one w4 1000 5 (i64_small (by omega)) (i64_small (by omega))) (fun e he => by rw [List.mem_singleton] at he; subst he; exact ⟨i64_small (by simp only; omega), i64_small (by simp only; omega)⟩) (by simp)).mono ?_
        rintro e w5 ⟨b3, c3, rfl, HB5, HS5⟩
        have hS5 : Sep w [OldA w, ExtA (.pointer (some ⟨bm, 0, none⟩)) 50 last vs, SetA (.pointer (some ⟨b1, 0, none⟩)) 100 (setOf r), RSetA (.pointer (some ⟨c1, 0, none⟩)) 100 (raddNext 100 [] r), SetA (.pointer (some ⟨b2, 0, none⟩)) 100 [], RSetA (.pointer (some ⟨c2, 0, none⟩)) 100 (raddNext 100 [] []), SetA (.pointer (some ⟨b3, 0, none⟩)) 100 [⟨1000, 5⟩], RSetA (.pointer (some ⟨c3, 0, none⟩)) 100 (raddNext 100 [] [⟨1000, 5⟩])] w5 := by
          have := HS5.out
          rw [nil_set, far_set] at this
          exact this
        have HSX := Lib.hid hS5
        have hqq := (HOLD.out _ _ HSX).2.1
        have gr := setOf_good r
        have nr := setOf_len r
        have gf := setOf_good [⟨1000, 5⟩]
        rw [far_set] at gf
        have hcc1 := code_no (hits_nil (vs := vs) (t := t)) (far_no HG.out (by omega) t)
        have hcc2 := code_no (late_no HG.out (setOf r)) (far_no HG.out (by omega) last)
        have HQQ := Lib.hid hqq
        have HGR := Lib.hid gr
        have HGF := Lib.hid gf
        have HCC1 := Lib.hid hcc1
        have HCC2 := Lib.hid hcc2
        clear hS5 hqq gr gf hcc1 hcc2 HS3 HS4 HS5
        go_wp2_with fail
        refine (check_sep HSX 1 2 4 t rfl rfl rfl (by omega) (by omega) HG.out (fun k hk => Nat.lt_of_lt_of_le hk HSX.out.old.size) HQQ.out HGR.out SetG.nil (by omega) (by simp)).mono ?_
        rintro e w6 ⟨rfl, HB6, HS6⟩
        rw [code_none]
        go_wp2_with fail
        refine (check_sep HS6 1 4 6 t rfl rfl rfl (by omega) (by omega) HG.out (fun _ h => h.elim) txs_nil SetG.nil HGF.out (by simp) (by simp)).mono ?_
        rintro e w7 ⟨rfl, HB7, HS7⟩
        rw [HCC1.out]
        obtain ⟨FM, hFM, _⟩ := HS7.out.get 1 rfl
        have hlast := extLast_any FM _ _ _ _ _ hFM
        have HLAST := Lib.hid hlast
        clear hlast
        clear hFM
        go_wp2_with fail
        refine (HLAST.out).mono ?_
        rintro e w8 ⟨rfl, rfl⟩
        go_wp2_with fail
        refine (check_sep HS7 1 2 6 last rfl rfl rfl (by omega) (by omega) HG.out (fun _ h => h.elim) txs_nil HGR.out HGF.out (by omega) (by simp)).mono ?_
        rintro e w9 ⟨rfl, HB9, HS9⟩
        rw [HCC2.out]
        go_wp2_with fail
        refine (awake16 _).mono ?_
        rintro e w10 ⟨rfl, hb10⟩
        have hS10 := HS9.out.up hb10
        have HS10 := Lib.hid hS10
        have HB10 := Lib.hid hb10
        clear hS10 hb10
        go_wp2
        go_ret
        exact ⟨rfl, HS10.out.old⟩
end Go.Proofs
