/- scarpref20.Order: those that wrote, by rising Time. -/
import Derived.Test.YtjomlcemnbfnfaaRefOrdPlain
import Derived.Test.YtjomlcemnbfnfaaInfo
import Derived.Test.YtjomlcemnbfnfaaAlike
import Derived.Lib.Hide
namespace Go.Proofs
open Go.RowKit Sc

theorem SlAt.one {α : Type} {G : Nat → Prop} {k : Nat} {E : Elem α} {w : World} {p : Option Addr} {n c : Nat} {l : List α} (h : SlAt G k E w (.slice p n c) l) : ∃ b o, ∀ i (h : i < l.length), p = some ⟨b, o, none⟩ ∧ G b ∧ E w b (o + i * k) l[i] := by
  rcases h.base with ⟨rfl, _⟩ | ⟨b, o, c', e, _, _, _, h1, h2⟩
  · exact ⟨0, 0, fun i hi => absurd hi (Nat.not_lt_zero _)⟩
  · cases e
    exact ⟨b, o, fun i hi => ⟨rfl, h1, h2 i hi⟩⟩
set_option maxHeartbeats 1000000 in
theorem wrote20_any (st bg tm fr up : Int) (rp pp : Option Addr) (rn rc pn pc : Nat) (w : World) (hpn : pn ≤ 9223372036854775807) :
    Calls Try.prog 72 #[.agg #[.int .i64 st, .int .i64 bg, .int .i64 tm, .int .i64 fr, .int .i64 up, .slice rp rn rc, .slice pp pn pc]] w fun e w' => e = .returned (.bool (decide (st = 3) && decide (0 < pn))) ∧ Below w.heap.size w w' := by
  by_cases h1 : st = 3
  · subst h1
    by_cases h2 : 0 < pn
    · have h2' : (0 : Int) < (pn : Int) := by omega
      rw [decide_eq_true h2]
      go_enter Try.func72, Try.ntmps72
      go_wp2
      go_ret
      exact ⟨rfl, below_alloc _ _⟩
    · have h2' : ¬ (0 : Int) < (pn : Int) := by omega
      rw [decide_eq_false h2]
      go_enter Try.func72, Try.ntmps72
      go_wp2
      go_ret
      exact ⟨rfl, below_alloc _ _⟩
  · have h1' : (st == 3) = false := by rw [beq_eq_false_iff_ne]; exact h1
    rw [decide_eq_false h1]
    go_enter Try.func72, Try.ntmps72
    go_wp2
    go_ret
    exact ⟨rfl, below_alloc _ _⟩
theorem Sep.row_fresh {W w : World} {L : List Asn} (h : Sep W (OldA W :: L) w) (i : Nat) {T k n : Nat} {v : Value} {xs : List Value} (hi : L[i]? = some (RowA T k v n xs)) : w.ownsRow W.heap.size T k v n xs := by
  obtain ⟨F, G, h1, h2, hd, _⟩ := h.two (i + 1) 0 (by omega) (A := RowA T k v n xs) (B := OldA W) hi rfl
  refine ⟨h1.1.1, h1.1.2.imp id fun ⟨g, cap, cur, e1, _, e2⟩ => ⟨g, cap, cur, e1, ?_, e2⟩⟩
  rcases Nat.lt_or_ge g W.heap.size with hh | hh
  · exact absurd (h2.1 g hh) (hd g (h1.2 g (by rw [e1]; rfl)))
  · exact hh
def OrderSaid (l : List Hist) (w : World) (e : Ending) (w' : World) : Prop := ∃ v, e = .returned v ∧ IntsAt (New w w') w' v ((ordI l).map fun i : Nat => (i : Int)) ∧ Below w.heap.size w w'
set_option maxRecDepth 100000 in
set_option maxHeartbeats 8000000 in
theorem refOrder_any (G : Nat → Prop) (v : Value) (l : List Hist) (w : World) (hv : HistsAt G w v l) (hl : l.length ≤ 1000) :
    Calls Try.prog 55 #[v] w (OrderSaid l w) := by
  have hv' := hv
  obtain ⟨p, c, rfl, h1, h2, h3, h4⟩ := hv
  obtain ⟨b, o, hC⟩ := SlAt.one (E := histE G) (k := 7) hv'
  have HC := Lib.hid hC
  clear h1 h2 h3 h4 hC hv'
  have hS0 := (Sep.start w).new (Below.refl _ _) (RowA 3 1 (.slice none 0 0) 0 []) (F := fun _ => False) (fun _ h => h.elim) ⟨World.ownsRow_nil _ _ _ _, by simp [Value.ownBlock]⟩
  have HS0 := Lib.hid hS0
  clear hS0
  go_enter Try.func55, Try.ntmps55
  go_wp2_with fail
  go_loopw [3, 4] (fun s3 s4 wr => ∃ k n : Nat, ∃ po co, ∃ os : List Nat, k ≤ l.length ∧ n ≤ k ∧ s4 = .int .i64 k ∧ s3 = .slice po n co ∧ Hid (os.length = n ∧ OrdTo l k os) ∧ Hid (Sep w [OldA w, RowA 3 1 (.slice po n co) n (os.map vN)] wr)) (fun _ i _ => l.length - (intOf i).toNat)
  case atStart => exact ⟨0, 0, none, 0, [], Nat.zero_le _, Nat.le_refl _, rfl, rfl, ⟨rfl, OrdTo.start l⟩, HS0.out⟩
  case round =>
    obtain ⟨k, n, po, co, os, hk, hnk, rfl, rfl, HO, HS⟩ := hrel
    clear HS0
    by_cases hlt : k < l.length
    case neg =>
      have hkl : k = l.length := by omega
      have HKL := Lib.hid hkl
      clear hkl
      go_wp2
      go_ret
      refine ⟨_, rfl, ?_, HS.out.old⟩
      have ho := HO.out.2
      rw [HKL.out] at ho
      have e := ho.done
      have hlen := HO.out.1
      have hrow := Sep.row_fresh HS.out 0 rfl
      rw [e] at hrow hlen
      have hmap : (ordI l).map vN = ((ordI l).map fun i : Nat => (i : Int)).map (Value.int .i64) := by rw [List.map_map]; rfl
      rw [hmap] at hrow
      refine intsAt_own (New w _) (by rw [List.length_map]; exact hlen) (fun x hx => ?_) (fun q h1 h2 => ⟨h1, h2⟩) hrow
      obtain ⟨i, hi, rfl⟩ := List.mem_map.1 hx
      obtain ⟨hi', _⟩ := mem_ordI.1 hi
      unfold I64; omega
    case pos =>
      obtain ⟨rfl, _, hc0, hc1, hc2, hc3, hc4, hi, ⟨rv, hc5, hrd⟩, pv, hc6, hpd⟩ := HC.out k hlt
      obtain ⟨rp, rc, rfl, hr1, hr2, hr3, hr4⟩ := hrd
      obtain ⟨pp, pc, rfl, hp1, hp2, hp3, hp4⟩ := hpd
      clear hr3 hr4 hp3 hp4
      have ht := timeAt_lt hlt
      have hw : wroteAt l k = (decide (l[k].state = 3) && decide (0 < l[k].puts.length)) := by unfold wroteAt; rw [List.getElem?_eq_getElem hlt]; rfl
      have hup := HS.out.old
      replace hc0 := cell_up hup hc0
      replace hc1 := cell_up hup hc1
      replace hc2 := cell_up hup hc2
      replace hc3 := cell_up hup hc3
      replace hc4 := cell_up hup hc4
      replace hc5 := cell_up hup hc5
      replace hc6 := cell_up hup hc6
      generalize l[k].state = st at *
      generalize l[k].begun = bg at *
      generalize l[k].time = tm at *
      generalize l[k].since = fr at *
      generalize l[k].upto = up at *
      generalize l[k].reads.length = rn at *
      generalize l[k].puts.length = pn at *
      have hwr := fun W => wrote20_any st bg tm fr up rp pp rn rc pn pc W (by omega)
      obtain ⟨q, hq⟩ : ∃ q, q = (decide (st = 3) && decide (0 < pn)) := ⟨_, rfl⟩
      rw [← hq] at hw hwr
      have HWR := Lib.hid hwr
      have HW := Lib.hid hw
      have HT := Lib.hid ht
      have HUP := Lib.hid hup
      have HQ := Lib.hid hq
      clear hwr hw ht hup hq
      clear hi hr1 hr2 hp1 hp2
      cases q with
      | false =>
        go_wp2_with fail
        refine (HWR.out _).mono ?_
        rintro e w1 ⟨rfl, hb1⟩
        have hS1 := HS.out.up hb1
        have HB1 := Lib.hid hb1
        have HS1 := Lib.hid hS1
        clear hb1 hS1
        go_wp2_with fail
        go_roundw
        case rel => exact ⟨k + 1, n, po, co, os, by omega, by omega, by go_num, rfl, ⟨HO.out.1, HO.out.2.skip HW.out⟩, HS1.out⟩
        case measure => simp [intOf]; omega
      | true =>
        go_wp2_with fail
        refine (HWR.out _).mono ?_
        rintro e w1 ⟨rfl, hb1⟩
        have hS1 := HS.out.up hb1
        have hk2 := cell_up hb1 hc2
        have HB1 := Lib.hid hb1
        have HS1 := Lib.hid hS1
        clear hb1 hS1
        clear hc0 hc1 hc2 hc3 hc4 hc5 hc6
        go_wp2_with fail
        go_loopw [5] (fun s5 wr => ∃ a : Nat, s5 = .int .i64 a ∧ a ≤ n ∧ Hid (∀ j, a ≤ j → ∀ hj : j < os.length, timeAt l k < timeAt l os[j]) ∧ Hid (Sep w [OldA w, RowA 3 1 (.slice po n co) n (os.map vN)] wr) ∧ Hid (wr.cell? ⟨b, o + k * 7 + 2, none⟩ = some (.int .i64 tm))) (fun i _ => (intOf i).toNat)
        case atStart => exact ⟨n, rfl, Nat.le_refl _, fun j h1 hj => absurd hj (by have := HO.out.1; omega), HS1.out, hk2⟩
        case round =>
          obtain ⟨a, rfl, han, HA, HS2, HK2⟩ := hrel
          have hck := HK2.out
          clear HS1 HS
          by_cases ha0 : a = 0
          case' pos =>
            have hcond : Hid (a = 0 ∨ timeAt l (os.getD (a - 1) 0) ≤ timeAt l k) := Or.inl ha0
            have haz : ¬ (0 : Int) < (a : Int) := by omega
            have hazd : decide (0 < a) = false := decide_eq_false (by omega)
            have hazn : ¬ 0 < a := by omega
            clear ha0
            go_wp2_with fail
            go_quiet (fail)
          case' neg =>
            obtain ⟨a', ha'⟩ : ∃ a', a' + 1 = a := ⟨a - 1, by omega⟩
            have haz : (0 : Int) < (a : Int) := by omega
            have hazn : 0 < a := by omega
            have ham : (a : Int) - 1 = (a' : Int) := by omega
            obtain ⟨F2, hF2, _⟩ := HS2.out.get 1 rfl
            obtain ⟨gr, cr, he, _⟩ := hF2.1.form (by omega)
            cases he
            clear hF2
            have hon := HO.out.1
            have hao : a' < os.length := by omega
            have hrc := (HS2.out.row_cell 1 rfl a' (by omega)).1
            rw [List.getElem?_map, List.getElem?_eq_getElem hao, Option.map_some] at hrc
            have hx := HO.out.2.lt _ (List.getElem_mem hao)
            have hga : os.getD (a - 1) 0 = os[a'] := by rw [show a - 1 = a' by omega]; simp [hao]
            have hxl : os[a'] < l.length := by omega
            obtain ⟨hy0, hy1, hy2, hy3, hxc, hy4⟩ := HC.out os[a'] hxl
            clear hy0 hy1 hy2 hy3 hy4
            have hxt := timeAt_lt hxl
            replace hxc := cell_up HS2.out.old hxc
            have HAN : Hid (∀ j, a' ≤ j → ∀ hj : j < os.length, timeAt l k < timeAt l os[a'] → timeAt l k < timeAt l os[j]) := fun j h1 hj h2 => by
              by_cases e : j = a'
              · subst e; exact h2
              · exact HA.out j (by omega) hj
            have HTX : Hid (timeAt l (os.getD (a - 1) 0) = l[os[a']].time) := by rw [hga]; exact hxt
            rw [hxt] at HAN
            clear hga hxt
            generalize l[os[a']].time = tx at *
            generalize os[a'] = x at *
            unfold vN at hrc
            by_cases htt : tm < tx
            · go_wp2_with fail
              go_quiet (fail)
              go_wp2_with fail
              go_roundw
              case rel => exact ⟨a', by go_num, by omega, fun j h1 hj => HAN.out j h1 hj (by rw [HT.out]; exact htt), HS2.out.up (below_drewN (Below.refl _ _) _), HK2.out⟩
              case measure => simp [intOf]; omega
            have htn : decide (tm < tx) = false := decide_eq_false htt
            have hcond : Hid (a = 0 ∨ timeAt l (os.getD (a - 1) 0) ≤ timeAt l k) := Or.inr (by rw [HTX.out, HT.out]; omega)
            go_wp2_with fail
            go_quiet (fail)
            clear HTX HAN hxc hrc hx hxl hao
          all_goals
            have HS8 := Lib.hid (HS2.out.up (below_drewN (Below.refl _ _) nq))
            have HK8 : Hid ((wr.drewN nq).cell? ⟨b, o + k * 7 + 2, none⟩ = some (.int .i64 tm)) := HK2.out
            clear HS2 HK2 hck
            clear haz hazn
            obtain ⟨FA, hFA, _⟩ := HS8.out.get 1 rfl
            have hrowA := hFA.1
            obtain ⟨iiA, hiiA, hizA, hiyA, hixA⟩ := info_parts infoInt
            have HROWA := Lib.hid hrowA
            clear hFA hrowA
            go_wp2_with (at_builtin; refine wpList_append_lies _ rfl _ _ 60 rfl 0 3 iiA (.int .i64 0) 1 8 Try.underlying60 hiiA hizA hiyA hixA rfl (by decide) _ (n) (os.map vN) rfl (HROWA.out.alloc _) ⟨(wr.drewN nq).heap.size, 0, none⟩ 1 1 [.int .i64 0] rfl rfl (World.news_of_block (cs := #[.int .i64 0]) (heap_alloc_new (wr.drewN nq) _)) (by simp [Value.oneCell']) (by decide) (by unfold maxLen; omega) (by omega) (Nat.zero_le _) ((wr.drewN nq).heap.size + 1) (by simp) ?_; intro gA cA wA hownA hgrowA hatA hltA)
            have hSA := HS8.out.row_app 1 rfl (below_alloc _ _) hownA hgrowA hatA (by simp) hltA
            clear hownA hgrowA hatA hltA hiiA hizA hiyA hixA
            obtain ⟨W8, rfl⟩ : ∃ W8 : World, W8 = wr := ⟨_, rfl⟩
            have hcsA : os.map vN ++ [.int .i64 0] = (os.take n ++ 0 :: os.drop n).map vN := by rw [← HO.out.1]; exact first_row os
            rw [hcsA] at hSA
            have HSA := Lib.hid hSA
            clear hSA
            clear hcsA
            go_wp2_with fail
            go_loopw [6] (fun s6 wr => ∃ q g : Nat, s6 = .int .i64 q ∧ a ≤ q ∧ q ≤ n ∧ Hid (Sep w [OldA w, RowA 3 1 (.slice (some ⟨gA, 0, none⟩) (n + 1) cA) (n + 1) ((os.take q ++ g :: os.drop q).map vN)] wr)) (fun i _ => (intOf i).toNat)
            case atStart => exact ⟨n, 0, by go_num, han, Nat.le_refl _, HSA.out⟩
            case round =>
              obtain ⟨q, g, rfl, haq, hqn, HS9⟩ := hrel
              clear HSA HS8
              by_cases hqa : a < q
              · obtain ⟨q', rfl⟩ : ∃ q', q = q' + 1 := ⟨q - 1, by omega⟩
                have hqz : ((q' + 1 : Nat) : Int) - 1 = (q' : Int) := by omega
                have hqw : IntKind.i64.wrap (q' : Int) = (q' : Int) := by rw [IntKind.wrap_i64]; omega
                have hon := HO.out.1
                have hqo : q' < os.length := by omega
                have hrc := (HS9.out.row_cell 1 rfl q' (by omega)).1
                rw [shift_get os q' g hqo] at hrc
                have hst := HS9.out.row_cell 1 rfl (q' + 1) (by omega)
                have hst0 : ∃ u, ((os.take (q' + 1) ++ g :: os.drop (q' + 1)).map vN)[q' + 1]? = some u := ⟨_, List.getElem?_eq_getElem (by rw [List.length_map, put_len _ _ _ (by omega)]; omega)⟩
                obtain ⟨u, hu⟩ := hst0
                obtain ⟨hst1, hst2⟩ := hst
                rw [hu] at hst1
                have hS10 := HS9.out.row_set 1 rfl (q' + 1) (vN os[q'])
                rw [shift_set os q' g hqo] at hS10
                have hqe : (((q' + 1 : Nat) : Int)).toNat = q' + 1 := by omega
                unfold vN at hrc
                have hvn : vN os[q'] = .int .i64 (os[q'] : Int) := rfl
                rw [hvn] at hS10
                have HX : Hid (∃ x, x = os[q']) := ⟨_, rfl⟩
                generalize os[q'] = x at hrc hS10
                have HS10 := Lib.hid hS10
                clear hS10
                clear hu hvn HX
                go_wp2_with fail
                go_roundw
                case rel => exact ⟨q', x, by go_num, by omega, by omega, HS10.out⟩
                case measure => simp [intOf] <;> omega
              · obtain rfl : q = a := by omega
                have hst := HS9.out.row_cell 1 rfl q (by omega)
                have hst0 : ∃ u, ((os.take q ++ g :: os.drop q).map vN)[q]? = some u := ⟨_, List.getElem?_eq_getElem (by rw [List.length_map, put_len _ _ _ (by have := HO.out.1; omega), HO.out.1]; omega)⟩
                obtain ⟨u, hu⟩ := hst0
                obtain ⟨hst1, hst2⟩ := hst
                rw [hu] at hst1
                have hS10 := HS9.out.row_set 1 rfl q (vN k)
                rw [end_set os q g k (by have := HO.out.1; omega)] at hS10
                unfold vN at hS10
                have HO10 : Hid ((os.take q ++ k :: os.drop q).length = n + 1 ∧ OrdTo l (k + 1) (os.take q ++ k :: os.drop q)) :=
                  ⟨by rw [put_len _ _ _ (by have := HO.out.1; omega), HO.out.1], HO.out.2.put HW.out (by have := HO.out.1; omega) hcond.out HA.out⟩
                have hqq : ¬ (q : Int) < (q : Int) := by omega
                have HS10 := Lib.hid hS10
                clear hS10
                clear hu
                go_wp2_with fail
                go_roundw
                case rel => exact ⟨k + 1, n + 1, _, _, _, by omega, by omega, by go_num, rfl, HO10, HS10.out⟩
                case measure => simp [intOf]; omega
end Go.Proofs
