/- IvalCuts: what is cut off and what is left are an extent's blocks, each once: for every input the law returns true. -/
import Derived.Test.YteodkepnalhceaaLaw11
import Derived.Test.YteodkepnalhceaaCut11
import Derived.Test.YteodkepnalhceaaAddSmall
import Derived.BigQuiet
namespace Go.Proofs
open Go.RowKit Sc

theorem setMeets_sep {W w : World} {L : List Asn} (h : Hid (Sep W L w)) (i : Nat) {v : Value} {most : Int} {l : List Ext} (hi : L[i]? = some (SetA v most l)) (hg : SetG l) (e : Ext) (i1 : I64 e.first) (i2 : I64 e.len) :
    Calls Try.prog 23 #[v, .agg #[.int .i64 e.first, .int .i64 e.len]] w fun r w' => r = .returned (.bool (meetsB l e)) ∧ Hid (Below w.heap.size w w') ∧ Hid (Sep W L w') := by
  obtain ⟨F, hF, _⟩ := h.out.get i hi
  refine (setMeets_any F v most l e w hF hg.2 i1 i2).mono ?_
  rintro r w' ⟨rfl, hb⟩
  exact ⟨rfl, hb, h.out.up hb⟩
theorem setHas_sep11 {W w : World} {L : List Asn} (h : Hid (Sep W L w)) (i : Nat) {v : Value} {most : Int} {l : List Ext} (hi : L[i]? = some (SetA v most l)) (hg : SetG l) (x : Int) (ix : I64 x) :
    Calls Try.prog 20 #[v, .int .i64 x] w fun e w' => e = .returned (.bool (hasB l x)) ∧ Hid (Below w.heap.size w w') ∧ Hid (Sep W L w') := by
  obtain ⟨F, hF, _⟩ := h.out.get i hi
  refine (setHas_any F v most l x w hF hg.2 ix).mono ?_
  rintro e w' ⟨rfl, hb⟩
  exact ⟨rfl, hb, h.out.up hb⟩
/-- An extent that the law looks at. -/
def lookE (e : Ext) : Prop := 0 ≤ e.first ∧ e.first ≤ 2000 ∧ 1 ≤ e.len ∧ e.len ≤ 300
theorem lookE_may {e : Ext} (h : lookE e) : mayB e = true := mayB_iff.2 (by unfold lookE at h; omega)
theorem takeE_step {l : List Ext} {k : Nat} (h : ∀ e ∈ l.take k, lookE e) (hk : k < l.length) (hx : lookE l[k]) (hl : l.length ≤ 150) :
    addCode 1000 (normE (l.take k)) [l[k]] = 0 ∧ addNext 1000 (normE (l.take k)) [l[k]] = normE (l.take (k + 1)) ∧ SetG (normE (l.take k)) ∧ (normE (l.take k)).length ≤ 50000 := by
  have ho : ∀ e ∈ l.take k, Oke e := fun e he => mayB_oke (lookE_may (h e he))
  obtain ⟨g1, _, g3⟩ := normE_good' ho
  rw [List.length_take] at g3
  have ha : allB [l[k]] = true := by
    unfold allB
    simp only [List.all_cons, List.all_nil, Bool.and_true]
    exact lookE_may hx
  obtain ⟨c1, c2⟩ := add_room (most := 1000) g1 ha (by simp; omega)
  have htk := take_snoc l k hk
  rw [normE_both (l := l.take (k + 1)) (fun e he => by
    rw [htk] at he
    rcases List.mem_append.1 he with he | he
    · exact ho e he
    · rw [List.mem_singleton] at he; rw [he]; exact mayB_oke (lookE_may hx)) (fun e he => by rw [htk]; exact he) (fun x => by rw [htk, cov_append])] at c2
  exact ⟨c1, c2, g1, by omega⟩

theorem small11_any (v : Value) (p : Option Addr) (n c : Nat) (w : World) (hv : v = .slice p n c) : Calls Try.prog 24 #[v] w fun e w' => e = .returned (.bool (decide (n ≤ 150))) ∧ w' = w := by
  subst hv
  have hd : decide ((n : Int) ≤ 150) = decide (n ≤ 150) := by
    by_cases h : n ≤ 150
    · rw [decide_eq_true h]; exact decide_eq_true (by omega)
    · rw [decide_eq_false h]; exact decide_eq_false (by omega)
  generalize decide (n ≤ 150) = q at *
  go_enter Try.func24, Try.ntmps24
  go_wp2
  go_ret
  exact ⟨rfl, rfl⟩
theorem mem_noMeet {N : List Ext} {y : Ext} (h : ∀ z ∈ N, meetB z y = false) : meetsB N y = false := by
  unfold meetsB
  rw [Bool.and_eq_false_iff]
  right
  rw [List.any_eq_false]
  intro z hz
  rw [h z hz]
  decide

set_option maxRecDepth 100000 in
set_option maxHeartbeats 3000000 in
theorem cuts11_any (e : Ext) (vt : Value) (t : List Ext) (w : World) (ht : ExtsAt (Old w) w vt t) (i1 : I64 e.first) (i2 : I64 e.len) : Calls Try.prog 7 #[.agg #[.int .i64 e.first, .int .i64 e.len], vt] w (Tru w) := by
  obtain ⟨p, c, rfl⟩ := extsAt_shape ht
  have HT := Lib.hid ht
  have he0 : (w.alloc (.cells #[.int .i64 e.first, .int .i64 e.len] 28)).cell? ⟨w.heap.size, 0, none⟩ = some (.int .i64 e.first) := by rw [cell_row (heap_alloc_new w _)]; rfl
  have he1 : (w.alloc (.cells #[.int .i64 e.first, .int .i64 e.len] 28)).cell? ⟨w.heap.size, 1, none⟩ = some (.int .i64 e.len) := by rw [cell_row (heap_alloc_new w _)]; rfl
  have hS0 := (Sep.start w).new (below_alloc w _) (BoxA w.heap.size #[.int .i64 e.first, .int .i64 e.len] 28) (F := New w (w.alloc (.cells #[.int .i64 e.first, .int .i64 e.len] 28))) (fun _ h => h) ⟨⟨Nat.le_refl _, by simp⟩, heap_alloc_new w _⟩
  have hlen := ht
  obtain ⟨p0, c0, hv0, hlc, hcm, _⟩ := hlen
  cases hv0
  have HS0 := Lib.hid hS0
  clear hS0
  clear ht
  by_cases hin : t.length ≤ 150 ∧ 0 ≤ e.first ∧ e.first ≤ 1000 ∧ 1 ≤ e.len ∧ e.len ≤ 300
  case neg =>
    have ht0 : ∀ b : Bool, decide ((t.length : Int) ≤ 150) = b → t.length ≤ 150 ∨ b = false := fun b h => by cases b with
      | true => exact .inl (by have := of_decide_eq_true h; omega)
      | false => exact .inr rfl
    rcases (show 150 < t.length ∨ (t.length ≤ 150 ∧ e.first < 0) ∨ (t.length ≤ 150 ∧ 0 ≤ e.first ∧ 1000 < e.first) ∨ (t.length ≤ 150 ∧ 0 ≤ e.first ∧ e.first ≤ 1000 ∧ e.len < 1) ∨ (t.length ≤ 150 ∧ 0 ≤ e.first ∧ e.first ≤ 1000 ∧ 1 ≤ e.len ∧ 300 < e.len) by omega) with h | ⟨h0, h⟩ | ⟨h0, h1, h⟩ | ⟨h0, h1, h2, h⟩ | ⟨h0, h1, h2, h3, h⟩
    all_goals
      clear hin ht0
      go_enter Try.func7, Try.ntmps7
      go_wp2_with fail
      refine (small11_any _ _ _ _ _ rfl).mono ?_
      rintro r w1 ⟨rfl, rfl⟩
      first
        | rw [show decide (t.length ≤ 150) = true by (rw [decide_eq_true_eq]; omega)]
        | rw [show decide (t.length ≤ 150) = false by (rw [decide_eq_false_iff_not]; omega)]
      go_wp2_with fail
      refine (awake11 _).mono ?_
      rintro r w2 ⟨rfl, hb2⟩
      have hS2 := HS0.out.up hb2
      have HS2 := Lib.hid hS2
      have HB2 := Lib.hid hb2
      clear hS2 hb2
      go_wp2
      go_ret
      exact ⟨rfl, HS2.out.old⟩
  case pos =>
    obtain ⟨hl, hf0, hf1, hn0, hn1⟩ := hin
    have hfw : IntKind.i64.wrap (e.first + e.len) = e.first + e.len := IntWalk.i64_in _ (by omega)
    have hlk : lookE e := ⟨hf0, by omega, hn0, hn1⟩
    have HLK := Lib.hid hlk
    clear hlk
    go_enter Try.func7, Try.ntmps7
    go_wp2_with fail
    refine (small11_any _ _ _ _ _ rfl).mono ?_
    rintro r w1 ⟨rfl, rfl⟩
    rw [show decide (t.length ≤ 150) = true by (rw [decide_eq_true_eq]; omega)]
    go_wp2_with fail
    refine (setNew_sep HS0.out 1000).mono ?_
    rintro r w2 ⟨bs, rfl, HS2⟩
    go_wp2_with fail
    go_loopw [6] (fun i wr => ∃ k : Nat, k ≤ t.length ∧ i = .int .i64 k ∧ Hid (Sep w [OldA w, BoxA w.heap.size #[.int .i64 e.first, .int .i64 e.len] 28, SetA (.pointer (some ⟨bs, 0, none⟩)) 1000 (normE (t.take k))] wr) ∧ Hid (∀ x ∈ t.take k, lookE x)) (fun i _ => t.length - (intOf i).toNat)
    case atStart => exact ⟨0, by omega, rfl, by rw [List.take_zero, normE_nil]; exact HS2, fun x hx => by simp at hx⟩
    case round =>
      obtain ⟨k, hk, rfl, HS, HA⟩ := hrel
      have hcur : ExtsAt (Old w) wr (.slice p t.length c) t := HT.out.same (fun k hk => HS.out.old.block k hk)
      by_cases hlt : k < t.length
      case pos =>
        obtain ⟨p', c', he', _, _, _, h4⟩ := hcur
        cases he'
        obtain ⟨g, o, rfl, _, hca, hcb, hia, hib⟩ := h4 k hlt
        have hst := takeE_step HA.out hlt
        have htk := take_snoc t k hlt
        generalize t[k] = x at *
        have hkI : (k : Int) < (t.length : Int) := by omega
        by_cases hx : lookE x
        case neg =>
          unfold lookE at hx
          rcases (show x.first < 0 ∨ (0 ≤ x.first ∧ 2000 < x.first) ∨ (0 ≤ x.first ∧ x.first ≤ 2000 ∧ x.len < 1) ∨ (0 ≤ x.first ∧ x.first ≤ 2000 ∧ 1 ≤ x.len ∧ 300 < x.len) by omega) with h | ⟨h0, h⟩ | ⟨h0, h1, h⟩ | ⟨h0, h1, h2, h⟩
          all_goals
            clear hx hst htk h4 hia hib
            go_wp2_with fail
            refine (awake11 _).mono ?_
            rintro r w3 ⟨rfl, hb3⟩
            have hS3 := HS.out.up hb3
            have HS3 := Lib.hid hS3
            have HB3 := Lib.hid hb3
            clear hS3 hb3
            go_wp2
            go_ret
            exact ⟨rfl, HS3.out.old⟩
        case pos =>
          obtain ⟨hc1, hn1', hg1, hl1⟩ := hst hx hl
          have hall : ∀ y ∈ t.take (k + 1), lookE y := fun y hy => by
            rw [htk] at hy
            rcases List.mem_append.1 hy with hy | hy
            · exact HA.out y hy
            · rw [List.mem_singleton] at hy; rw [hy]; exact hx
          have HC1 := Lib.hid hc1
          have HN1' := Lib.hid hn1'
          have HG1 := Lib.hid hg1
          have HL1 := Lib.hid hl1
          have HALL := Lib.hid hall
          have HIA := Lib.hid hia
          have HIB := Lib.hid hib
          clear hc1 hn1' hg1 hl1 hall hia hib
          obtain ⟨x0, x1, x2, x3⟩ := hx
          clear h4 htk hst
          go_wp2_with fail
          refine (setAdd_one HS 2 rfl x.first x.len HIA.out HIB.out HG1.out HL1.out).mono ?_
          rintro r w3 ⟨rfl, HS3⟩
          rw [HC1.out]
          rw [HN1'.out] at HS3
          go_wp2_with fail
          go_roundw
          case rel => exact ⟨k + 1, by omega, by go_num, HS3, HALL.out⟩
          case measure => simp [intOf]; omega
      case neg =>
        have hkl : k = t.length := by omega
        rw [hkl, List.take_length] at HS HA
        have hall : allB t = true := by
          unfold allB
          rw [List.all_eq_true]
          exact fun x hx => lookE_may (HA.out x hx)
        have hoke : ∀ x ∈ t, Oke x := fun x hx => mayB_oke (allB_mem hall x hx)
        obtain ⟨hN, _, hNl⟩ := normE_good' hoke
        have hcut := cut_any (Old w) (.slice p t.length c) e t wr hcur (lookE_may HLK.out) hall (by omega)
        obtain ⟨FB, hFB, _⟩ := HS.out.get 1 rfl
        have hq0 : wr.cell? ⟨w.heap.size, 0, none⟩ = some (.int .i64 e.first) := by rw [cell_row hFB.2]; rfl
        have hq1 : wr.cell? ⟨w.heap.size, 1, none⟩ = some (.int .i64 e.len) := by rw [cell_row hFB.2]; rfl
        obtain ⟨q1, q2, q3, q4⟩ := cutL_good (e := e) hN.1
        have q5 := cutL_apart (e := e) hN.1
        have HCUT := Lib.hid hcut
        have HALL := Lib.hid hall
        have HN := Lib.hid hN
        have HQ1 := Lib.hid q1
        have HQ2 := Lib.hid q2
        have HQ3 := Lib.hid q3
        have HQ4 := Lib.hid q4
        have HQ5 := Lib.hid q5
        clear hcut hall hN q1 q2 q3 q4 q5
        clear hkl hFB hcur hoke
        go_wp2_with fail
        refine (HCUT.out).mono ?_
        rintro r w3 ⟨cv, rfl, ho3, hb3⟩
        have hi64 : ∀ y ∈ cutL e (normE t), I64 y.first ∧ I64 y.len := fun y hy => by
          have := HQ2.out y hy; unfold I64; omega
        have hx3 := row_extsAt (New wr w3) rfl hi64 (fun k h1 h2 => ⟨h1, h2⟩) ho3
        have hS3 := HS.out.new hb3 (ExtsA cv (cutL e (normE t))) (F := New wr w3) (fun _ h => h) hx3
        obtain ⟨p3, c3, rfl⟩ := extsAt_shape hx3
        have hrl : (cutL e (normE t)).length ≤ 200 := by have := HQ4.out; omega
        generalize hR : cutL e (normE t) = R at *
        generalize hNN : normE t = N at *
        have hq0' := cell_up hb3 hq0
        have hq1' := cell_up hb3 hq1
        have HS3 := Lib.hid hS3
        have HI64 := Lib.hid hi64
        have HR := Lib.hid hR
        have HNN := Lib.hid hNN
        clear hS3 hi64 hR hNN
        clear hx3 ho3 hb3 hq0 hq1 hNl hlt hk
        go_wp2_with fail
        obtain ⟨W3, rfl⟩ : ∃ W3 : World, W3 = w3 := ⟨_, rfl⟩
        clear hq0' hq1'
        go_loopw [8, 9, 10] (fun pv i _ wr => ∃ q m : Nat, pv = .int .i64 q ∧ i = .int .i64 (e.first + m) ∧ (m : Int) ≤ e.len ∧ Hid (Sep w [OldA w, BoxA w.heap.size #[.int .i64 e.first, .int .i64 e.len] 28, SetA (.pointer (some ⟨bs, 0, none⟩)) 1000 N, ExtsA (.slice p3 R.length c3) R] wr) ∧ Hid (ScanAt R q (e.first + m))) (fun _ i _ _ => (e.first + e.len - intOf i).toNat)
        case atStart => exact ⟨0, 0, rfl, by rw [show e.first + ((0 : Nat) : Int) = e.first by omega], by omega, HS3.out, Nat.zero_le _, fun j h h0 => absurd h0 (by omega)⟩
        case round =>
          obtain ⟨q, m, rfl, rfl, hm, HS, HSC⟩ := hrel
          obtain ⟨FB, hFB, _⟩ := HS.out.get 1 rfl
          have hq0 : wr.cell? ⟨w.heap.size, 0, none⟩ = some (.int .i64 e.first) := by rw [cell_row hFB.2]; rfl
          have hq1 : wr.cell? ⟨w.heap.size, 1, none⟩ = some (.int .i64 e.len) := by rw [cell_row hFB.2]; rfl
          obtain ⟨x, hx⟩ : ∃ x, e.first + (m : Int) = x := ⟨_, rfl⟩
          rw [hx]
          rw [hx] at HSC
          clear hFB
          by_cases hlt : (m : Int) < e.len
          case pos =>
            have hxf : x < e.first + e.len := by omega
            have hxw : IntKind.i64.wrap (x + 1) = x + 1 := IntWalk.i64_in _ (by omega)
            have hxl : 0 ≤ x ∧ x ≤ 2000 := by omega
            have HX := Lib.hid hx
            clear hx
            go_wp2_with fail
            obtain ⟨W5, rfl⟩ : ∃ W5 : World, W5 = wr := ⟨_, rfl⟩
            clear hq0 hq1
            go_loopw [8] (fun pv wr => ∃ q : Nat, pv = .int .i64 q ∧ Hid (Sep w [OldA w, BoxA w.heap.size #[.int .i64 e.first, .int .i64 e.len] 28, SetA (.pointer (some ⟨bs, 0, none⟩)) 1000 N, ExtsA (.slice p3 R.length c3) R] wr) ∧ Hid (ScanAt R q x)) (fun pv _ => R.length - (intOf pv).toNat)
            case atStart => exact ⟨q, rfl, HS, HSC.out⟩
            case round =>
              obtain ⟨q, rfl, HS, HSC⟩ := hrel
              have hqR : q ≤ R.length := HSC.out.1
              have hhas : hasB N x = true ↔ cov N x := hasB_iff HN.out.2
              have hsc := scan_in (r := R) (p := q) (x := x) HQ3.out HSC.out
              have hq1x := HQ1.out x
              have hxe : e.first ≤ x := by have := HX.out; omega
              have hxi : I64 x := i64_small (by omega)
              by_cases hql : q < R.length
              case neg =>
                have hin : hasB N x = true := by
                  rw [hhas]
                  refine Classical.byContradiction fun hc => ?_
                  obtain ⟨hl, _⟩ := (hsc fun hl => absurd hl hql).1 (hq1x.2 ⟨hxe, hxf, hc⟩)
                  exact hql hl
                have hqe : q = R.length := by omega
                subst hqe
                clear hsc
                have HIN := Lib.hid hin
                have HHAS := Lib.hid hhas
                have HQ1X := Lib.hid hq1x
                have HXI := Lib.hid hxi
                clear hin hhas hq1x hxi
                clear hql hqR
                go_wp2_with fail
                go_quiet (fail)
                have hSq := HS.out.up (w' := wr.drewN nq) (below_drewN (Below.refl _ _) nq)
                generalize wr.drewN nq = wq at *
                have HSQ := Lib.hid hSq
                clear hSq
                go_wp2_with fail
                refine (setHas_sep11 HSQ 2 rfl HN.out x HXI.out).mono ?_
                rintro r w6 ⟨rfl, HB6, HS6⟩
                rw [HIN.out]
                go_wp2_with fail
                go_roundw
                case rel =>
                  refine ⟨R.length, m + 1, rfl, by rw [show e.first + ((m + 1 : Nat) : Int) = x + 1 by have := HX.out; omega], by omega, HS6, HSC.out.1, fun j h h0 => ?_⟩
                  have h1 := HSC.out.2 j h h0
                  have h2 := HX.out
                  clear hxw hfw
                  omega
                case measure => simp [intOf]; omega
              case pos =>
                obtain ⟨F1, hF1, _⟩ := HS.out.get 3 rfl
                obtain ⟨p', c', he', _, _, _, h4⟩ := hF1
                cases he'
                obtain ⟨g, o, rfl, _, hca, hcb, hia, hib⟩ := h4 q hql
                have hq2 := HQ2.out _ (List.getElem_mem hql)
                have hstep : R[q].first + R[q].len ≤ x → ScanAt R (q + 1) x := fun hle => ⟨hql, fun j h h0 => by
                  by_cases hj : j = q
                  · subst hj; exact hle
                  · exact HSC.out.2 j h (by omega)⟩
                have hsc' : x < R[q].first + R[q].len → (cov R x ↔ R[q].first ≤ x) := fun hlt => (hsc fun _ => hlt).trans ⟨fun ⟨_, h⟩ => h, fun h => ⟨hql, h⟩⟩
                generalize R[q] = y at *
                have hyw : IntKind.i64.wrap (y.first + y.len) = y.first + y.len := IntWalk.i64_in _ (by omega)
                have hqw : IntKind.i64.wrap ((q : Int) + 1) = (q : Int) + 1 := IntWalk.i64_in _ (by omega)
                have hqI : (q : Int) < (R.length : Int) := by omega
                have HHAS := Lib.hid hhas
                have HQ1X := Lib.hid hq1x
                have HXI := Lib.hid hxi
                have HSTEP := Lib.hid hstep
                have HSC' := Lib.hid hsc'
                have HIA := Lib.hid hia
                have HIB := Lib.hid hib
                have HXE := Lib.hid hxe
                clear hhas hq1x hxi hstep hsc' hia hib hxe
                clear h4 hsc
                by_cases hle : y.first + y.len ≤ x
                case pos =>
                  go_wp2_with fail
                  go_quiet (fail)
                  have hSq := HS.out.up (w' := wr.drewN nq) (below_drewN (Below.refl _ _) nq)
                  generalize wr.drewN nq = wq at *
                  have HSQ := Lib.hid hSq
                  clear hSq
                  go_wp2_with fail
                  go_roundw
                  case rel => exact ⟨q + 1, by go_num, HSQ.out, HSTEP.out hle⟩
                  case measure => simp [intOf]; omega
                case neg =>
                  have hlt2 : x < y.first + y.len := by omega
                  have hcv := HSC'.out hlt2
                  have hin : hasB N x = !decide (y.first ≤ x) := by
                    rw [Bool.eq_iff_iff, HHAS.out]
                    simp only [Bool.not_eq_true', decide_eq_false_iff_not]
                    rw [← hcv, HQ1X.out]
                    exact ⟨fun h h2 => h2.2.2 h, fun h => Classical.byContradiction fun h2 => h ⟨HXE.out, hxf, h2⟩⟩
                  have HIN := Lib.hid hin
                  have HCV := Lib.hid hcv
                  clear hin hcv
                  by_cases hfx : y.first ≤ x
                  all_goals
                    have hin := HIN.out
                    first
                      | rw [decide_eq_true hfx] at hin
                      | rw [decide_eq_false hfx] at hin
                    simp only [Bool.not_true, Bool.not_false] at hin
                    have HIN := Lib.hid hin
                    clear hin
                    go_wp2_with fail
                    go_quiet (fail)
                    have hSq := HS.out.up (w' := wr.drewN nq) (below_drewN (Below.refl _ _) nq)
                    have hca' := cell_up (below_drewN (Below.refl _ _) nq) hca
                    have hcb' := cell_up (below_drewN (Below.refl _ _) nq) hcb
                    generalize wr.drewN nq = wq at *
                    have HSQ := Lib.hid hSq
                    clear hSq
                    clear hca hcb
                    go_wp2_with fail
                    refine (setHas_sep11 HSQ 2 rfl HN.out x HXI.out).mono ?_
                    rintro r w6 ⟨rfl, HB6, HS6⟩
                    rw [HIN.out]
                    go_wp2_with fail
                    go_roundw
                    case rel =>
                      refine ⟨q, m + 1, rfl, by rw [show e.first + ((m + 1 : Nat) : Int) = x + 1 by have := HX.out; omega], by omega, HS6, HSC.out.1, fun j h h0 => ?_⟩
                      have h1 := HSC.out.2 j h h0
                      have h2 := HX.out
                      rw [show e.first + ((m + 1 : Nat) : Int) = x + 1 by omega]
                      clear hyw hqw hxw hfw
                      omega
                    case measure => simp [intOf]; omega
          case neg =>
            have hxf : ¬ x < e.first + e.len := by omega
            have HX := Lib.hid hx
            clear hx
            go_wp2_with fail
            clear hlt hm hxf
            obtain ⟨W5, rfl⟩ : ∃ W5 : World, W5 = wr := ⟨_, rfl⟩
            clear hq0 hq1
            go_loopw [11] (fun i wr => ∃ k : Nat, k ≤ R.length ∧ i = .int .i64 k ∧ Hid (Sep w [OldA w, BoxA w.heap.size #[.int .i64 e.first, .int .i64 e.len] 28, SetA (.pointer (some ⟨bs, 0, none⟩)) 1000 N, ExtsA (.slice p3 R.length c3) R] wr)) (fun i _ => R.length - (intOf i).toNat)
            case atStart => exact ⟨0, by omega, rfl, HS⟩
            case round =>
              obtain ⟨k, hk, rfl, HS⟩ := hrel
              by_cases hlt : k < R.length
              case neg =>
                go_wp2_with fail
                refine (awake11 _).mono ?_
                rintro r w6 ⟨rfl, hb6⟩
                have hS6 := HS.out.up hb6
                have HS6 := Lib.hid hS6
                have HB6 := Lib.hid hb6
                clear hS6 hb6
                go_wp2
                go_ret
                exact ⟨rfl, HS6.out.old⟩
              case pos =>
                obtain ⟨FB, hFB, _⟩ := HS.out.get 1 rfl
                have hq0 : wr.cell? ⟨w.heap.size, 0, none⟩ = some (.int .i64 e.first) := by rw [cell_row hFB.2]; rfl
                have hq1 : wr.cell? ⟨w.heap.size, 1, none⟩ = some (.int .i64 e.len) := by rw [cell_row hFB.2]; rfl
                obtain ⟨F1, hF1, _⟩ := HS.out.get 3 rfl
                obtain ⟨p', c', he', _, _, _, h4⟩ := hF1
                cases he'
                obtain ⟨g, o, rfl, _, hca, hcb, hia, hib⟩ := h4 k hlt
                have hq2 := HQ2.out _ (List.getElem_mem hlt)
                have hno := mem_noMeet (N := N) (HQ5.out _ (List.getElem_mem hlt))
                generalize R[k] = y at *
                have hyw : IntKind.i64.wrap (y.first + y.len) = y.first + y.len := IntWalk.i64_in _ (by omega)
                have hkI : (k : Int) < (R.length : Int) := by omega
                have d1 : decide (y.first < e.first) = false := decide_eq_false (by omega)
                have d2 : decide (y.len < 1) = false := decide_eq_false (by omega)
                have d3 : decide (e.first + e.len < y.first + y.len) = false := decide_eq_false (by omega)
                have HNO := Lib.hid hno
                have HIA := Lib.hid hia
                have HIB := Lib.hid hib
                clear hno hia hib
                clear h4 hFB
                go_wp2_with fail
                have hSd := HS.out.up (w' := wr.drew) (below_drewN (Below.refl _ _) 1)
                have HSD := Lib.hid hSd
                clear hSd
                have hmt := setMeets_sep HSD 2 rfl HN.out y HIA.out HIB.out
                rw [HNO.out] at hmt
                have HMT := Lib.hid hmt
                clear hmt
                go_region_held3 (fun W => W.cell? ⟨w.heap.size, 0, none⟩ = some (.int .i64 e.first) ∧ W.cell? ⟨w.heap.size, 1, none⟩ = some (.int .i64 e.len) ∧ W.cell? ⟨g, o + k * 2, none⟩ = some (.int .i64 y.first) ∧ W.cell? ⟨g, o + k * 2 + 1, none⟩ = some (.int .i64 y.len))
                  (first | exact ⟨hq0, hq1, hca, hcb⟩ | go_keep | exact ⟨cell_up HB6.out (by assumption), cell_up HB6.out (by assumption), cell_up HB6.out (by assumption), cell_up HB6.out (by assumption)⟩)
                  ((go_at_call 23
                    refine (HMT.out).mono ?_
                    rintro r w6 ⟨rfl, HB6, HS6⟩))
                go_wp2_with fail
                go_roundw
                case rel => exact ⟨k + 1, by omega, by go_num, HS6⟩
                case measure => simp [intOf]; omega
end Go.Proofs
