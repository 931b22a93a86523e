/- Package model: Replay. -/
import Derived.Test.YtjomlcemnbfnfaaReplayHc
import Derived.Test.YtjomlcemnbfnfaaRefOrd
import Derived.Test.YtjomlcemnbfnfaaRuns
import Derived.Test.YtjomlcemnbfnfaaRefReplay
namespace Go.Proofs
open Go.RowKit Sc Go.Sort

theorem infoHist : (Try.prog.info? 45).map (fun i => (i.zero, i.size, i.bytes)) = some (some (.agg #[.int .i64 0, .int .i64 0, .int .i64 0, .int .i64 0, .int .i64 0, .slice none 0 0, .slice none 0 0]), 7, 88) := by kernel_rfl
theorem insNoneH (c : Nat) (fv : Value) (w : World) : Calls Try.prog 83 #[.slice none 0 c, .int .i64 0, .int .i64 0, fv] w fun e w' => e = .returned (.tuple #[]) ∧ w = w' := by
  go_enter Try.func83, Try.ntmps83
  go_wp2
  go_loop [8] (fun i => i = .int .i64 1) (fun _ => 0)
  case atStart => rfl
  case round =>
    subst hrel
    go_wp2
    go_end0
    exact ⟨rfl, rfl⟩
theorem stableNoneH (c : Nat) (fv : Value) (w : World) : Calls Try.prog 67 #[.slice none 0 c, .int .i64 0, fv] w fun e w' => e = .returned (.tuple #[]) ∧ w = w' := by
  go_enter Try.func67, Try.ntmps67
  go_wp2_with fail
  go_loop [7, 8] (fun i j => i = .int .i64 0 ∧ j = .int .i64 20) (fun _ _ => 0)
  case atStart => exact ⟨rfl, rfl⟩
  case round =>
    obtain ⟨rfl, rfl⟩ := hrel
    go_wp2_with fail
    refine (insNoneH c fv _).mono ?_
    rintro e w1 ⟨rfl, rfl⟩
    go_wp2_with fail
    go_loop [6] (fun i => i = .int .i64 20) (fun _ => 0)
    case atStart => rfl
    case round =>
      subst hrel
      go_wp2
      go_end0
      exact ⟨rfl, rfl⟩
theorem sortNoneH (c : Nat) (fv : Value) (w : World) : Calls Try.prog 48 #[.slice none 0 c, fv] w fun e w' => e = .returned (.tuple #[]) ∧ w = w' := by
  go_enter Try.func48, Try.ntmps48
  go_wp2_with fail
  refine (stableNoneH c fv _).mono ?_
  rintro e w1 ⟨rfl, rfl⟩
  go_wp2
  go_end0
  exact ⟨rfl, rfl⟩
def ReplaySaid (n : Nat) (l : List Hist) (w : World) (e : Ending) (w' : World) : Prop :=
  Below w.heap.size w w' ∧
  ((replayCode n (ordP l) = 0 ∧ ∃ v, e = .returned (.tuple #[v, .int .i64 0]) ∧ ModelIs (New w w') w' v n (runAll [] (ordP l))) ∨
   (replayCode n (ordP l) ≠ 0 ∧ e = .returned (.tuple #[.pointer none, .int .i64 (replayCode n (ordP l))])))
theorem replay_no (n : Int) (v : Value) (w : World) (h : n < 1) : Calls Try.prog 24 #[.int .i64 n, v] w fun e w' => e = .returned (.tuple #[.pointer none, .int .i64 1]) ∧ Below w.heap.size w w' := by
  go_enter Try.func24, Try.ntmps24
  go_wp2_with fail
  try (go_step3; go_wp2_with fail)
  refine (modelNew_no n _ h).mono ?_
  rintro e w1 ⟨rfl, rfl⟩
  go_wp2
  try rw [Exit.noGoto_ret]
  go_ret2
  exact ⟨rfl, Below.refl _ _⟩
theorem ModelIs.wide {F F' : Nat → Prop} {w : World} {v : Value} {n : Int} {s : List (Int × Bytes)} (h : ModelIs F w v n s) (hg : ∀ k, F k → F' k) (hd : Dom F' w) : ModelIs F' w v n s := by
  obtain ⟨⟨b, r, ml, h1, h2, h3, h4, h5, h6⟩, _⟩ := h
  exact ⟨⟨b, r, ml, h1, hg _ h2, hg _ h3, h4, h5, h6.imp fun _ _ h => h.mono hg⟩, hd⟩
theorem ordI_len' (l : List Hist) : (ordI l).length = (ordIdx l).length := (List.mergeSort_perm _ _).length_eq
theorem pts_shape {G : Nat → Prop} {w : World} {v : Value} {l : List Put} (h : PutsAt G w v l) : ∃ p c, v = .slice p l.length c := by
  obtain ⟨p, c, h, _⟩ := h; exact ⟨p, c, h⟩
theorem holdsK_cell {w : World} {g : Nat} {d : Array HC} (h : HoldsK encH 7 w g 0 d) (j : Nat) (hj : j < d.size) (t : Nat) (ht : t < 7) : w.cell? ⟨g, j * 7 + t, none⟩ = (encH d[j])[t]? := by
  have hlt : j * 7 + t < d.size * 7 := by omega
  have hz : j * 7 + t < (flatK encH 7 d).size := by rw [size_flatK]; exact hlt
  have h1 := (h (j * 7 + t) hz).1
  rw [Nat.zero_add, get_flatK _ _ _ _ hlt] at h1
  rw [h1]
  have e1 : (j * 7 + t) / 7 = j := by omega
  have e2 : (j * 7 + t) % 7 = t := by omega
  rw [e1, e2, getElem!_pos d j hj, List.getElem?_eq_getElem (show t < (encH d[j]).length from ht), getElem!_pos (encH d[j]) t (show t < (encH d[j]).length from ht)]
  rfl
theorem holdsK_cells {w : World} {g : Nat} {d : Array HC} (h : HoldsK encH 7 w g 0 d) (j : Nat) (hj : j < d.size) :
    w.cell? ⟨g, j * 7, none⟩ = some (.int .i64 d[j].st) ∧ w.cell? ⟨g, j * 7 + 1, none⟩ = some (.int .i64 d[j].bg) ∧ w.cell? ⟨g, j * 7 + 2, none⟩ = some (.int .i64 d[j].tm) ∧ w.cell? ⟨g, j * 7 + 3, none⟩ = some (.int .i64 d[j].fr) ∧ w.cell? ⟨g, j * 7 + 4, none⟩ = some (.int .i64 d[j].up) ∧
    w.cell? ⟨g, j * 7 + 5, none⟩ = some (.slice d[j].rp d[j].rn d[j].rc) ∧ w.cell? ⟨g, j * 7 + 6, none⟩ = some (.slice d[j].pp d[j].pn d[j].pc) :=
  ⟨holdsK_cell h j hj 0 (by omega), holdsK_cell h j hj 1 (by omega), holdsK_cell h j hj 2 (by omega), holdsK_cell h j hj 3 (by omega), holdsK_cell h j hj 4 (by omega), holdsK_cell h j hj 5 (by omega), holdsK_cell h j hj 6 (by omega)⟩
set_option maxRecDepth 100000 in
set_option maxHeartbeats 8000000 in
theorem replay_any (G : Nat → Prop) (n : Nat) (v : Value) (l : List Hist) (w : World) (h1 : 1 ≤ n) (h2 : n ≤ 1000000) (hG : Dom G w) (hv : HistsAt G w v l) (hl : l.length ≤ 1000) :
    Calls Try.prog 24 #[.int .i64 n, v] w (ReplaySaid n l w) := by
  have hv' := hv
  obtain ⟨p, c, rfl, hl1, hl2, _⟩ := hv
  obtain ⟨b, o, hC⟩ := SlAt.one (E := histE G) (k := 7) hv'
  have hOl : ∀ k, G k → k < w.heap.size := hG
  have HCE := Lib.hid hC
  have HG := Lib.hid hOl
  clear hv' hC hOl hG
  go_enter Try.func24, Try.ntmps24
  go_wp2_with fail
  try (go_step3; go_wp2_with fail)
  refine (modelNew_any (n : Int) _ (by omega) (by omega)).mono ?_
  rintro e w1 ⟨vm, rfl, hm, hb1⟩
  have hS1 := ((Sep.start w).new hb1 (ModelA vm n []) (fun _ h => h) hm).new (Below.refl _ _) (RowA 45 7 (.slice none 0 0) 0 []) (F := fun _ => False) (fun _ h => h.elim) ⟨World.ownsRow_nil _ _ _ _, by simp [Value.ownBlock]⟩
  obtain ⟨⟨bm, rm, mlm, rfl, _⟩, _⟩ := hm
  have HS1 := Lib.hid hS1
  have HB1 := Lib.hid hb1
  clear hS1 hb1
  go_wp2_with fail
  try (go_step3; go_wp2_with fail)
  go_loopw [8, 24] (fun s8 i wr => ∃ k cnt : Nat, ∃ pr cr, ∃ ds : List HC, k ≤ l.length ∧ cnt ≤ k ∧ i = .int .i64 k ∧ s8 = .slice pr cnt cr ∧ Hid (DsOk G w ds (wroteL (l.take k)) ∧ ds.length = cnt) ∧
    Hid (Sep w [OldA w, ModelA (.pointer (some ⟨bm, 0, none⟩)) n [], RowA 45 7 (.slice pr cnt cr) cnt (flatH ds)] wr)) (fun _ i _ => l.length - (intOf i).toNat)
  case atStart => exact ⟨0, 0, none, 0, [], Nat.zero_le _, Nat.le_refl _, rfl, rfl, ⟨DsOk.nil G w, rfl⟩, HS1.out⟩
  case round =>
    obtain ⟨k, cnt, pr, cr, ds, hk, hck, rfl, rfl, HD, HS⟩ := hrel
    clear HS1
    by_cases hlt : k < l.length
    case neg =>
      have hkl : k = l.length := by omega
      have hd := HD.out
      rw [hkl, List.take_length] at hd
      have HDD := Lib.hid hd
      clear hd HD hkl
      obtain ⟨F2, hF2, hdF2⟩ := HS.out.get 2 rfl
      rcases hF2.1.2 with ⟨hv0, hn0⟩ | ⟨g, cap, cur, hv0, hrest⟩
      case inl =>
        cases hv0
        have hP0 : ordP l = [] := List.eq_nil_of_length_eq_zero (by rw [ordP_len, ordI_len', ← wroteL_len, ← HDD.out.1.1, HDD.out.2])
        have HP0 := Lib.hid hP0
        clear hF2 hP0 hn0 hdF2
        go_wp2_with fail
        refine (sortNoneH 0 _ _).mono ?_
        rintro e w4 ⟨rfl, rfl⟩
        go_wp2_with fail
        go_loopw [46] (fun i wr => i = .int .i64 0 ∧ Hid (Sep w [OldA w, ModelA (.pointer (some ⟨bm, 0, none⟩)) n [], RowA 45 7 (.slice none 0 0) 0 (flatH ds)] wr)) (fun i _ => 0)
        case atStart => exact ⟨rfl, HS⟩
        case round =>
          obtain ⟨rfl, HS5⟩ := hrel
          go_wp2
          try rw [Exit.noGoto_ret]
          go_ret2
          obtain ⟨F, hF, hN⟩ := Sep.fresh HS5.out 0 rfl
          obtain ⟨FN, hFN, hdN⟩ := HS5.out.get 1 rfl
          refine ⟨HS5.out.old, Or.inl ⟨by rw [HP0.out]; rfl, _, rfl, ?_⟩⟩
          rw [HP0.out]
          exact hF.wide hN (fun q hq => hq.2)
      case inr =>
        clear hrest
        cases hv0
        have hg := hdF2 g (hF2.2 g rfl)
        have hhk := row_holds (w := wr) (g := g) (ds := ds) (fun j hj => HS.out.row_cell 2 rfl j (by rw [← HDD.out.2]; exact hj))
        have htag : ∀ i, i < ds.toArray.size → ds.toArray[i]!.tag = i := fun i hi => by
          have hi' : i < ds.length := by simpa using hi
          rw [getElem!_pos ds.toArray i hi]
          exact (HDD.out.1.2 i hi' (by rw [← HDD.out.1.1]; exact hi')).2
        obtain ⟨FF, GG, hFF, _, _, _, _, K⟩ := HS.out.at 2 rfl
        have hFg := hFF.2 g rfl
        have hsz : ds.toArray.size = cnt := by simp [HDD.out.2]
        have hsort := sortHist_any g cr ds.toArray wr hhk hg (by rw [hsz]; omega) htag
        rw [hsz] at hsort
        have HSORT := Lib.hid hsort
        have HK := Lib.hid K
        have HFG := Lib.hid hFg
        have HSZ := Lib.hid hsz
        clear hsort K hFg hsz
        clear hF2 hFF hhk htag hg hdF2
        go_wp2_with fail
        refine (HSORT.out).mono ?_
        rintro e w4 ⟨rfl, d', hz, hp, hs, hh, hc⟩
        have HS4 := Lib.hid (HK.out w4 FF (CellsA g d') (hc.mono fun q _ hq => by subst hq; exact HFG.out) (fun q hq => .inl hq) ⟨HFG.out, hh⟩)
        obtain ⟨hz2, hok⟩ := sorted_order HDD.out.1 (by simpa using hp) hs
        have hcl : (ordP l).length = cnt := by unfold ordP; rw [List.length_map, ← hz2, hz, HSZ.out]
        have hdz : d'.size = cnt := by rw [hz, HSZ.out]
        have HOK := Lib.hid hok
        have HZ2 := Lib.hid hz2
        have HCL := Lib.hid hcl
        have HDZ := Lib.hid hdz
        clear hok hz2 hcl hdz
        clear hp hs hh hc hz HK HS HSORT
        go_wp2_with fail
        obtain ⟨W4, rfl⟩ : ∃ W4 : World, W4 = wr := ⟨_, rfl⟩
        go_loopw [46] (fun i wr => ∃ j : Nat, j ≤ cnt ∧ i = .int .i64 j ∧ Hid (∀ p ∈ (ordP l).take j, runCode n p = 0) ∧ Hid (Sep w [OldA w, ModelA (.pointer (some ⟨bm, 0, none⟩)) n (runAll [] ((ordP l).take j)), CellsA g d'] wr)) (fun i _ => cnt - (intOf i).toNat)
        case atStart => exact ⟨0, Nat.zero_le _, rfl, by unfold Hid; simp, HS4⟩
        case round =>
          obtain ⟨j, hj, rfl, HR, HS5⟩ := hrel
          clear HS4
          by_cases hjl : j < cnt
          case neg =>
            go_wp2
            try rw [Exit.noGoto_ret]
            go_ret2
            have hjc : j = (ordP l).length := by rw [HCL.out]; omega
            have hr := HR.out
            obtain ⟨F, hF, hN⟩ := Sep.fresh HS5.out 0 rfl
            rw [hjc, List.take_length] at hr hF
            exact ⟨HS5.out.old, Or.inl ⟨replay_ok.2 hr, _, rfl, hF.wide hN (fun q hq => hq.2)⟩⟩
          case pos =>
            have hxd : j < d'.size := by rw [HDZ.out]; exact hjl
            have hxo : j < (ordH l).length := by rw [← HZ2.out]; exact hxd
            have hpl : j < (ordP l).length := by rw [HCL.out]; exact hjl
            obtain ⟨F2, hF2, _⟩ := HS5.out.get 2 rfl
            obtain ⟨hc0, hc1, hc2, hc3, hc4, hc5, hc6⟩ := holdsK_cells hF2.2 j hxd
            have hk := HOK.out j hxd hxo
            have hpe : (ordP l)[j] = (ordH l)[j].puts := by simp only [ordP, List.getElem_map]
            have hkp := hk.pt
            have hkt := hk.i.2.2.1
            rw [← hk.tm] at hkt
            rw [← hpe] at hkp
            have htk := take_snoc (ordP l) j hpl
            have hdr := List.drop_eq_getElem_cons hpl
            have hrd := replay_drop HR.out
            rw [hdr] at hrd
            replace hkp := PutsAt.up hkp HS5.out.old
            clear hk hpe hF2 hdr
            generalize (ordP l)[j] = ps at *
            obtain ⟨pp, pc, hsl⟩ := pts_shape hkp
            rw [hsl] at hkp hc6
            generalize d'[j] = x at *
            obtain ⟨st, bg, tm, fr, up, rp, rn, rc, pp0, pn0, pc0, tg⟩ := x
            simp only at hc0 hc1 hc2 hc3 hc4 hc5 hc6 hkt hkp
            have hhd : HS5.out.grow = HS5.out.grow := rfl
            have HS6 := Lib.hid (HS5.out.up (below_alloc wr (.cells #[.int .i64 st, .int .i64 bg, .int .i64 tm, .int .i64 fr, .int .i64 up, .slice rp rn rc, .slice pp ps.length pc] 45)))
            obtain ⟨F, G1, hF, hR, hFG, hdF, hdG, K⟩ := HS6.out.at 1 rfl
            obtain ⟨F0, hF0, hO⟩ := hR 0 _ (by decide) rfl
            have hO1 := hO.1
            have hkp2 := PutsAt.up hkp (below_alloc wr (.cells #[.int .i64 st, .int .i64 bg, .int .i64 tm, .int .i64 fr, .int .i64 up, .slice rp rn rc, .slice pp ps.length pc] 45))
            have htx : TxAt G1 (wr.alloc (.cells #[.int .i64 st, .int .i64 bg, .int .i64 tm, .int .i64 fr, .int .i64 up, .slice rp rn rc, .slice pp ps.length pc] 45)) (.agg #[.int .i64 tm, .slice pp ps.length pc]) ⟨tm, ps⟩ := ⟨_, rfl, hkt, hkp2.mono fun q hq => hF0 q (hO1 q (HG.out q hq))⟩
            have hrun := modelRun_any F G1 _ _ n _ ⟨tm, ps⟩ _ (by omega) hF htx hdG hFG
            have HK := Lib.hid K
            have HRUN := Lib.hid hrun
            have HTK := Lib.hid htk
            have HRD := Lib.hid hrd
            clear hrun htk hrd
            clear K hR hF hO htx hFG hdF hdG hF0 hO1 hpl hxo hxd hkp hkp2 hkt hhd hsl
            by_cases hcode : runCode n ps = 0
            · go_wp2_with fail
              refine (HRUN.out).mono ?_
              rintro e w5 ⟨rfl, hc5, hm5⟩
              have hS7 := HK.out w5 _ (ModelA (.pointer (some ⟨bm, 0, none⟩)) n _) hc5 (fun k hk => hk) hm5
              rw [hcode] at hS7 ⊢
              rw [if_pos rfl, ← runAll_snoc, ← HTK.out] at hS7
              have HR5 : Hid (∀ p ∈ (ordP l).take (j + 1), runCode n p = 0) := fun q hq => by
                rw [HTK.out] at hq
                rcases List.mem_append.1 hq with h | h
                · exact HR.out q h
                · rw [List.mem_singleton] at h; rw [h]; exact hcode
              have HS7 := Lib.hid hS7
              clear hS7
              clear hc5 hm5
              go_wp2_with fail
              go_roundw
              case rel => exact ⟨j + 1, by omega, by go_num, HR5, HS7.out⟩
              case measure => simp [intOf]; omega
            · have hrc : replayCode n (ordP l) = runCode n ps := by rw [HRD.out]; unfold replayCode; rw [if_neg hcode]
              have hcz : (runCode n ps != 0) = true := by rw [bne_iff_ne]; exact hcode
              go_wp2_with fail
              refine (HRUN.out).mono ?_
              rintro e w5 ⟨rfl, hc5, hm5⟩
              have hS7 := HK.out w5 _ TrueA hc5 (fun k hk => hk) trivial
              have HS7 := Lib.hid hS7
              have HRC := Lib.hid hrc
              clear hS7 hrc
              clear hc5 hm5
              go_wp2
              try rw [Exit.noGoto_ret]
              go_ret2
              exact ⟨HS7.out.old, Or.inr ⟨by rw [HRC.out]; exact hcode, by rw [HRC.out]; rfl⟩⟩
    case pos =>
      obtain ⟨rfl, hGb, hc0, hc1, hc2, hc3, hc4, hi, ⟨rv, hc5, hrd⟩, pv, hc6, hpd⟩ := HCE.out k hlt
      have hrd0 := hrd
      have hpd0 := hpd
      obtain ⟨rp, rc, rfl, hr1, hr2, hr3, hr4⟩ := hrd0
      obtain ⟨pp, pc, rfl, hp1, hp2, hp3, hp4⟩ := hpd0
      clear hr3 hr4 hp3 hp4
      have hok : HcOk G w ⟨l[k].state, l[k].begun, l[k].time, l[k].since, l[k].upto, rp, l[k].reads.length, rc, pp, l[k].puts.length, pc, cnt⟩ l[k] := ⟨rfl, rfl, rfl, rfl, rfl, hi, hrd, hpd⟩
      have hws := wroteL_snoc l k hlt
      have hwd : wroteH l[k] = (decide (l[k].state = 3) && decide (0 < l[k].puts.length)) := rfl
      rw [hwd] at hws
      have hup := HS.out.old
      replace hc0 := cell_up hup hc0
      replace hc1 := cell_up hup hc1
      replace hc2 := cell_up hup hc2
      replace hc3 := cell_up hup hc3
      replace hc4 := cell_up hup hc4
      replace hc5 := cell_up hup hc5
      replace hc6 := cell_up hup hc6
      clear hrd hpd hwd
      generalize hst : l[k].state = st at hc0 hok hws
      generalize hbg : l[k].begun = bg at hc1 hok
      generalize htm : l[k].time = tm at hc2 hok
      generalize hfr : l[k].since = fr at hc3 hok
      generalize hupt : l[k].upto = up at hc4 hok
      generalize hrn : l[k].reads.length = rn at *
      generalize hpn : l[k].puts.length = pn at *
      have HS2 := Lib.hid (HS.out.up (below_alloc _ (.cells #[.int .i64 st, .int .i64 bg, .int .i64 tm, .int .i64 fr, .int .i64 up, .slice rp rn rc, .slice pp pn pc] 45)))
      have HOK := Lib.hid hok
      have HWS := Lib.hid hws
      have HUP := Lib.hid hup
      clear hok hws hup
      clear hi hst hbg htm hfr hupt hrn hpn
      by_cases hs3 : st = 3
      case neg =>
        have hsne : (st != 3) = true := by rw [bne_iff_ne]; exact hs3
        have HW : Hid (wroteL (l.take (k + 1)) = wroteL (l.take k)) := by have := HWS.out; rw [decide_eq_false hs3] at this; unfold Hid; simpa using this
        clear hs3
        go_wp2_with fail
        go_roundw
        case rel => exact ⟨k + 1, cnt, pr, cr, ds, by omega, by omega, by go_num, rfl, ⟨by rw [HW.out]; exact HD.out.1, HD.out.2⟩, HS2.out⟩
        case measure => simp [intOf]; omega
      case pos =>
        have hsne : (st != 3) = false := by rw [hs3]; rfl
        by_cases hp0 : pn = 0
        case pos =>
          have hpe : ((pn : Int) == 0) = true := by rw [hp0]; rfl
          have HW : Hid (wroteL (l.take (k + 1)) = wroteL (l.take k)) := by have := HWS.out; rw [hp0] at this; unfold Hid; simpa using this
          have HS3 := Lib.hid hs3
          have HP0 := Lib.hid hp0
          clear hs3 hp0
          go_wp2_with fail
          go_roundw
          case rel => exact ⟨k + 1, cnt, pr, cr, ds, by omega, by omega, by go_num, rfl, ⟨by rw [HW.out]; exact HD.out.1, HD.out.2⟩, HS2.out⟩
          case measure => simp [intOf]; omega
        case neg =>
          have hpe : ((pn : Int) == 0) = false := by rw [beq_eq_false_iff_ne]; omega
          have HW : Hid (wroteL (l.take (k + 1)) = wroteL (l.take k) ++ [l[k]]) := by have := HWS.out; rw [decide_eq_true hs3, decide_eq_true (show 0 < pn by omega)] at this; unfold Hid; simpa using this
          clear hs3 hp0
          have hnew := heap_alloc_new wr (.cells #[.int .i64 st, .int .i64 bg, .int .i64 tm, .int .i64 fr, .int .i64 up, .slice rp rn rc, .slice pp pn pc] 45)
          have e0 : (wr.alloc (.cells #[.int .i64 st, .int .i64 bg, .int .i64 tm, .int .i64 fr, .int .i64 up, .slice rp rn rc, .slice pp pn pc] 45)).cell? ⟨wr.heap.size, 0, none⟩ = some (.int .i64 st) := by rw [cell_row hnew]; rfl
          have e1 : (wr.alloc (.cells #[.int .i64 st, .int .i64 bg, .int .i64 tm, .int .i64 fr, .int .i64 up, .slice rp rn rc, .slice pp pn pc] 45)).cell? ⟨wr.heap.size, 1, none⟩ = some (.int .i64 bg) := by rw [cell_row hnew]; rfl
          have e2 : (wr.alloc (.cells #[.int .i64 st, .int .i64 bg, .int .i64 tm, .int .i64 fr, .int .i64 up, .slice rp rn rc, .slice pp pn pc] 45)).cell? ⟨wr.heap.size, 2, none⟩ = some (.int .i64 tm) := by rw [cell_row hnew]; rfl
          have e3 : (wr.alloc (.cells #[.int .i64 st, .int .i64 bg, .int .i64 tm, .int .i64 fr, .int .i64 up, .slice rp rn rc, .slice pp pn pc] 45)).cell? ⟨wr.heap.size, 3, none⟩ = some (.int .i64 fr) := by rw [cell_row hnew]; rfl
          have e4 : (wr.alloc (.cells #[.int .i64 st, .int .i64 bg, .int .i64 tm, .int .i64 fr, .int .i64 up, .slice rp rn rc, .slice pp pn pc] 45)).cell? ⟨wr.heap.size, 4, none⟩ = some (.int .i64 up) := by rw [cell_row hnew]; rfl
          have e5 : (wr.alloc (.cells #[.int .i64 st, .int .i64 bg, .int .i64 tm, .int .i64 fr, .int .i64 up, .slice rp rn rc, .slice pp pn pc] 45)).cell? ⟨wr.heap.size, 5, none⟩ = some (.slice rp rn rc) := by rw [cell_row hnew]; rfl
          have e6 : (wr.alloc (.cells #[.int .i64 st, .int .i64 bg, .int .i64 tm, .int .i64 fr, .int .i64 up, .slice rp rn rc, .slice pp pn pc] 45)).cell? ⟨wr.heap.size, 6, none⟩ = some (.slice pp pn pc) := by rw [cell_row hnew]; rfl
          have HE0 := Lib.hid e0
          have HE1 := Lib.hid e1
          have HE2 := Lib.hid e2
          have HE3 := Lib.hid e3
          have HE4 := Lib.hid e4
          have HE5 := Lib.hid e5
          have HE6 := Lib.hid e6
          have HNEW := Lib.hid hnew
          clear e0 e1 e2 e3 e4 e5 e6 hnew
          go_upto_region 9 with fail
          clear hc0 hc1 hc2 hc3 hc4 hc5 hc6 HNEW
          have e0 := HE0.out
          have e1 := HE1.out
          have e2 := HE2.out
          have e3 := HE3.out
          have e4 := HE4.out
          have e5 := HE5.out
          have e6 := HE6.out
          clear HE0 HE1 HE2 HE3 HE4 HE5 HE6
          generalize wr.alloc (.cells #[.int .i64 st, .int .i64 bg, .int .i64 tm, .int .i64 fr, .int .i64 up, .slice rp rn rc, .slice pp pn pc] 45) = W1 at *
          obtain ⟨FA, hFA, _⟩ := HS2.out.get 2 rfl
          have hrowA := hFA.1
          obtain ⟨iiA, hiiA, hizA, hiyA, hixA⟩ := info_parts infoHist
          have HROWA := Lib.hid hrowA
          clear hFA hrowA
          go_wp2_with (at_builtin; refine wpList_append_lies _ rfl _ _ 42 rfl 0 45 iiA (.agg #[.int .i64 0, .int .i64 0, .int .i64 0, .int .i64 0, .int .i64 0, .slice none 0 0, .slice none 0 0]) 7 88 Try.underlying42 hiiA hizA hiyA hixA rfl (by decide) _ (cnt) (flatH ds) rfl (HROWA.out.alloc _) ⟨W1.heap.size, 0, none⟩ 1 1 [.int .i64 st, .int .i64 bg, .int .i64 tm, .int .i64 fr, .int .i64 up, .slice rp rn rc, .slice pp pn pc] rfl rfl (World.news_of_block (cs := #[.int .i64 st, .int .i64 bg, .int .i64 tm, .int .i64 fr, .int .i64 up, .slice rp rn rc, .slice pp pn pc]) (heap_alloc_new W1 _)) (by simp [Value.oneCell']) (by decide) (by unfold maxLen; omega) (by omega) (Nat.zero_le _) (W1.heap.size + 1) (by simp) ?_; intro gA cA wA hownA hgrowA hatA hltA)
          have hSA := HS2.out.row_app 2 rfl (below_alloc _ _) hownA hgrowA hatA (by simp) hltA
          clear hownA hgrowA hatA hltA hiiA hizA hiyA hixA
          have hfl := flatH_snoc ds ⟨st, bg, tm, fr, up, rp, rn, rc, pp, pn, pc, cnt⟩
          have hen : encH ⟨st, bg, tm, fr, up, rp, rn, rc, pp, pn, pc, cnt⟩ = [.int .i64 st, .int .i64 bg, .int .i64 tm, .int .i64 fr, .int .i64 up, .slice rp rn rc, .slice pp pn pc] := rfl
          rw [hen] at hfl
          rw [← hfl] at hSA
          have HSA := Lib.hid hSA
          clear hSA
          clear hfl hen
          go_wp2_with fail
          go_roundw
          case rel =>
            refine ⟨k + 1, cnt + 1, _, _, _, by omega, by omega, by go_num, rfl, ⟨?_, ?_⟩, HSA.out⟩
            · rw [HW.out]; exact HD.out.1.snoc HOK.out HD.out.2.symm
            · rw [List.length_append, HD.out.2]; rfl
          case measure => simp [intOf]; omega
end Go.Proofs
