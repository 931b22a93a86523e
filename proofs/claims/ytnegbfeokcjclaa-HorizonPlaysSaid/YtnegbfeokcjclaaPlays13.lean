/- HorizonPlays: whatever is opened and closed, each call answers, and who is there, and the least time, is as the document says: for every input the law returns true. -/
import Derived.Test.YtnegbfeokcjclaaRefBook4
import Derived.Test.YtnegbfeokcjclaaPlainOnce
import Derived.Test.YtnegbfeokcjclaaInts
import Derived.Deep.RegionHeld3
import Derived.Deep.DeepCutAuto
import Derived.Deep.CutRange
import Derived.BigQuiet
namespace Go.Proofs
open Go.RowKit Sc

theorem OnceI.place {last : Int} {os ts : List Int} (h : OnceI last os ts) (n : Int) : (placeI os n = -1 ∧ alook (os.zip ts) n = Option.none) ∨ ∃ k : Nat, ∃ hk : k < os.length, placeI os n = k ∧ os[k] = n ∧ alook (os.zip ts) n = Option.some (ts[k]'(by rw [← h.len]; exact hk)) := by
  unfold placeI
  cases hq : os.findIdx? (· == n) with
  | none =>
    rw [List.findIdx?_eq_none_iff] at hq
    exact .inl ⟨rfl, h.none fun x hx => by simpa using hq x hx⟩
  | some i =>
    rw [List.findIdx?_eq_some_iff_getElem] at hq
    obtain ⟨hi, he, _⟩ := hq
    have he' : os[i] = n := by simpa using he
    refine .inr ⟨i, hi, rfl, he', ?_⟩
    have := h.at i hi
    rw [he'] at this
    exact this
/-- Both close alike. -/
theorem OnceI.closes {last : Int} {os ts : List Int} (h : OnceI last os ts) (n : Int) : (if (alook (os.zip ts) n).isSome then (0 : Int) else 14) = rCloseC os n ∧ adel (os.zip ts) n = (rOut os (placeI os n)).zip (rOut ts (placeI os n)) ∧ OnceI last (rOut os (placeI os n)) (rOut ts (placeI os n)) ∧ (rOut os (placeI os n)).length ≤ os.length := by
  rcases h.place n with ⟨h1, h2⟩ | ⟨k, hk, h1, h2, h3⟩
  · have e1 : rCloseC os n = 14 := by unfold rCloseC; rw [h1]; rfl
    have e2 : ∀ l : List Int, rOut l (placeI os n) = l := fun l => by unfold rOut; rw [h1]; rfl
    rw [e1, e2, e2, h2, adel_none (alook_none.1 h2)]
    exact ⟨rfl, rfl, h, Nat.le_refl _⟩
  · have e1 : rCloseC os n = 0 := by unfold rCloseC; rw [h1, if_neg (by omega)]
    have e2 : ∀ l : List Int, rOut l (placeI os n) = l.take k ++ l.drop (k + 1) := fun l => by unfold rOut; rw [h1, if_neg (by omega), Int.toNat_natCast]
    rw [e1, e2, e2, h3]
    refine ⟨rfl, ?_, h.del k, by simp; omega⟩
    have := h.out k hk
    rw [h2] at this
    exact this
theorem OnceI.ats {last : Int} {os ts : List Int} (h : OnceI last os ts) (n : Int) : atSaid (os.zip ts) n = .returned (.tuple #[.int .i64 (rAt os ts n).1, .int .i64 (rAt os ts n).2]) := by
  unfold atSaid rAt
  rcases h.place n with ⟨h1, h2⟩ | ⟨k, hk, h1, h2, h3⟩
  · rw [h2, h1]; rfl
  · rw [h3, h1, if_neg (by omega), Int.toNat_natCast, List.getD_eq_getElem?_getD, List.getElem?_eq_getElem (by rw [← h.len]; exact hk)]; rfl
theorem OnceI.opens {last most t : Int} {os ts : List Int} (h : OnceI last os ts) (h0 : 0 ≤ last) :
    OpenOk most (os.zip ts) t = rOpen most os.length t ∧ openTm most last (os.zip ts) t = (if rOpen most os.length t = 0 then os ++ [last + 1] else os).zip (if rOpen most os.length t = 0 then ts ++ [t] else ts) ∧ openLast most last (os.zip ts) t = (if rOpen most os.length t = 0 then last + 1 else last) ∧
      OnceI (if rOpen most os.length t = 0 then last + 1 else last) (if rOpen most os.length t = 0 then os ++ [last + 1] else os) (if rOpen most os.length t = 0 then ts ++ [t] else ts) := by
  have e : OpenOk most (os.zip ts) t = rOpen most os.length t := by unfold OpenOk rOpen; rw [h.zlen]
  refine ⟨e, ?_, ?_, ?_⟩
  · unfold openTm
    rw [e]
    split
    · exact h.zip_snoc
    · rfl
  · unfold openLast; rw [e]
  · split
    · exact h.snoc h0
    · exact h
theorem OnceI.lows {last : Int} {os ts : List Int} (h : OnceI last os ts) : (os.zip ts).map (·.2) = ts := by
  have : (os.zip ts).map Prod.snd = ts := List.map_snd_zip (by have := h.len; omega)
  exact this

section
variable {W w : World} {L : List Asn}
theorem bookLow_sep (h : Hid (Sep W L w)) (i : Nat) {v : Value} {most last : Int} {tm : List (Int × Int)} (hi : L[i]? = some (BookA v most last tm)) (now : Int) :
    Calls Try.prog 37 #[v, .int .i64 now] w fun e w' => e = .returned (.int .i64 (lowOf now (tm.map (·.2)))) ∧ Hid (Below w.heap.size w w') := by
  obtain ⟨F, hF, _⟩ := h.out.get i hi
  exact bookLow_any F v most last tm now w hF
theorem bookCount_sep (h : Hid (Sep W L w)) (i : Nat) {v : Value} {most last : Int} {tm : List (Int × Int)} (hi : L[i]? = some (BookA v most last tm)) (hl : tm.length ≤ 1000000) :
    Calls Try.prog 39 #[v] w fun e w' => e = .returned (.int .i64 tm.length) ∧ Hid (Below w.heap.size w w') := by
  obtain ⟨F, hF, _⟩ := h.out.get i hi
  exact bookCount_any F v most last tm w hF hl
theorem bookList_sep (h : Hid (Sep W L w)) (i : Nat) {v : Value} {most last : Int} {os ts : List Int} (hi : L[i]? = some (BookA v most last (os.zip ts))) (ho : OnceI last os ts) (hb : ∀ x ∈ os, I64 x) (hl : os.length ≤ 1000000) :
    Calls Try.prog 41 #[v] w fun e w' => ∃ p c, e = .returned (.slice p os.length c) ∧ Hid (IntsAt (fun _ => True) w' (.slice p os.length c) os) ∧ Hid (Below w.heap.size w w') := by
  obtain ⟨F, hF, _⟩ := h.out.get i hi
  refine (bookList_any F v most last (os.zip ts) w hF (by rw [ho.zlen]; exact hl)).mono ?_
  rintro e w' ⟨kv, rfl, hrow, hb5⟩
  rw [ho.up, ho.keys] at hrow
  obtain ⟨kp, kc, rfl⟩ := shape_row hrow
  exact ⟨kp, kc, rfl, intsAt_own _ rfl hb (fun _ _ _ => trivial) hrow, hb5⟩
theorem bookAt_sep (h : Hid (Sep W L w)) (i : Nat) {v : Value} {most last : Int} {tm : List (Int × Int)} (hi : L[i]? = some (BookA v most last tm)) (n : Int) :
    Calls Try.prog 35 #[v, .int .i64 n] w fun e w' => e = atSaid tm n ∧ w = w' := by
  obtain ⟨F, hF, _⟩ := h.out.get i hi
  exact bookAt_any F v most last tm n w hF
theorem refAt_sep (h : Hid (Sep W L w)) (i : Nat) {v : Value} {most last : Int} {os ts : List Int} (hi : L[i]? = some (RBookA v most os ts last)) (n : Int) (hl : ts.length = os.length) :
    Calls Try.prog 36 #[v, .int .i64 n] w fun e w' => e = .returned (.tuple #[.int .i64 (rAt os ts n).1, .int .i64 (rAt os ts n).2]) ∧ Hid (Below w.heap.size w w') := by
  obtain ⟨F, hF, hd⟩ := h.out.get i hi
  exact refAt_any F v most os ts last n w hd hF hl
theorem refLow_sep (h : Hid (Sep W L w)) (i : Nat) {v : Value} {most last : Int} {os ts : List Int} (hi : L[i]? = some (RBookA v most os ts last)) (now : Int) :
    Calls Try.prog 38 #[v, .int .i64 now] w fun e w' => e = .returned (.int .i64 (lowOf now ts)) ∧ Hid (Below w.heap.size w w') := by
  obtain ⟨F, hF, hd⟩ := h.out.get i hi
  exact refLow_any F v most os ts last now w hd hF
/-- The row of handles of a reference's Book. -/
theorem ref_cells (h : Sep W L w) (i : Nat) {b : Nat} {most last : Int} {os ts : List Int} (hi : L[i]? = some (RBookA (.pointer (some ⟨b, 0, none⟩)) most os ts last)) :
    ∃ p c, w.cell? ⟨b, 1, none⟩ = some (.slice p os.length c) ∧ Hid (IntsAt (fun _ => True) w (.slice p os.length c) os) ∧ b < w.heap.size := by
  obtain ⟨F, hF, hd⟩ := h.get i hi
  obtain ⟨b', hv, tv, hbv, hFb, hh, h4, h5⟩ := hF
  cases hbv
  obtain ⟨p, c, rfl⟩ := intsAt_shape h4
  exact ⟨p, c, by rw [cell_row hh]; rfl, SlAt.mono (E' := intE) h4 (fun _ _ => trivial) (fun _ _ _ h => h), hd b hFb⟩
end
def playsL (W : World) (b m : Nat) (most last : Int) (os ts : List Int) : List Asn := [OldA W, BookA (.pointer (some ⟨b, 0, none⟩)) most last (os.zip ts), RBookA (.pointer (some ⟨m, 0, none⟩)) most os ts last]

set_option maxRecDepth 100000 in
set_option maxHeartbeats 4000000 in
theorem plays13_any (most now : Int) (vl : Value) (l : List Ext) (w : World) (hl : ExtsAt (Old w) w vl l) (im : I64 most) (inw : I64 now) : Calls Try.prog 8 #[.int .i64 most, vl, .int .i64 now] w (Tru w) := by
  have HL := Lib.hid hl
  obtain ⟨lp, lc, rfl, hll, hlc, _, _⟩ := hl
  rcases (show (300 : Int) < (l.length : Int) ∨ ((l.length : Int) ≤ 300 ∧ 1000 < most) ∨ ((l.length : Int) ≤ 300 ∧ most ≤ 1000) by omega) with g1 | ⟨g1, g2⟩ | ⟨g1, g2⟩
  case inl =>
    go_enter Try.func8, Try.ntmps8
    go_wp2_with fail
    refine (awake13 _).mono ?_
    rintro e w1 ⟨rfl, hb1⟩
    have HB1 := Lib.hid hb1
    clear hb1
    go_wp2
    go_ret
    exact ⟨rfl, HB1.out⟩
  case inr.inl =>
    go_enter Try.func8, Try.ntmps8
    go_wp2_with fail
    refine (awake13 _).mono ?_
    rintro e w1 ⟨rfl, hb1⟩
    have HB1 := Lib.hid hb1
    clear hb1
    go_wp2
    go_ret
    exact ⟨rfl, HB1.out⟩
  case inr.inr =>
    go_enter Try.func8, Try.ntmps8
    go_wp2_with fail
    refine (bookNew_sep (Sep.start w) most).mono ?_
    rintro e w1 ⟨b, rfl, hS1⟩
    have hS2 := hS1.new (below_alloc w1 (.cells #[.int .i64 most, .slice none 0 0, .slice none 0 0, .int .i64 0] 63)) (RBookA (.pointer (some ⟨w1.heap.size, 0, none⟩)) most [] [] 0) (F := New w1 (w1.alloc (.cells #[.int .i64 most, .slice none 0 0, .slice none 0 0, .int .i64 0] 63))) (fun _ h => h)
      ⟨w1.heap.size, _, _, rfl, ⟨Nat.le_refl _, by simp⟩, heap_alloc_new w1 _, SlAt.nil, SlAt.nil⟩
    have HS2 := Lib.hid (show Sep w (playsL w b w1.heap.size most 0 [] []) (w1.alloc (.cells #[.int .i64 most, .slice none 0 0, .slice none 0 0, .int .i64 0] 63)) from hS2)
    obtain ⟨m, hm⟩ : ∃ m, w1.heap.size = m := ⟨_, rfl⟩
    rw [hm] at HS2
    clear hS1 hS2
    go_wp2_with fail
    go_loopw [9] (fun i wr => ∃ k : Nat, ∃ os ts last, k ≤ l.length ∧ i = .int .i64 k ∧ Hid (Sep w (playsL w b m most last os ts) wr) ∧ Hid (OnceI last os ts ∧ 0 ≤ last ∧ last ≤ k ∧ os.length ≤ k)) (fun i _ => l.length - (intOf i).toNat)
    case atStart => exact ⟨0, [], [], 0, by omega, rfl, HS2, Lib.hid ⟨OnceI.start, by omega, by omega, by simp⟩⟩
    case round =>
      obtain ⟨k, os, ts, last, hk, rfl, HS, HI⟩ := hrel
      by_cases hlt : k < l.length
      case neg =>
        go_wp2_with fail
        refine (awake13 _).mono ?_
        rintro e w4 ⟨rfl, hb4⟩
        have hS4 := HS.out.up hb4
        have HS4 := Lib.hid hS4
        have HB4 := Lib.hid hb4
        clear hS4 hb4
        go_wp2_with fail
        go_ret
        exact ⟨rfl, HS4.out.old⟩
      case pos =>
        obtain ⟨p', c', hv', _, _, _, g5⟩ := HL.out
        cases hv'
        obtain ⟨bb, o, rfl, hgb, hck0, hcn0, hki, hkn⟩ := g5 k hlt
        generalize l[k] = x at hck0 hcn0 hki hkn
        have hck := (HS.out.old.cell (p := ⟨bb, o + k * 2, none⟩) hgb).trans hck0
        have hcn := (HS.out.old.cell (p := ⟨bb, o + k * 2 + 1, none⟩) hgb).trans hcn0
        have hk3 : k < 300 := by omega
        have HCN0 := Lib.hid hcn0
        have HKI := Lib.hid hki
        have HKN := Lib.hid hkn
        clear hcn0 hki hkn
        clear g5 hck0
        go_upto_if 42 with fail
        go_cut [10, 11, 12, 13] from 31 to 142 (fun _ _ _ _ wx => ∃ os ts last, Hid (Sep w (playsL w b m most last os ts) wx) ∧ Hid (OnceI last os ts ∧ 0 ≤ last ∧ last ≤ k + 1 ∧ os.length ≤ k + 1))
        case first =>
          by_cases hkind : x.first = 1
          case pos =>
            have hkb : (x.first == 1) = true := by rw [beq_iff_eq]; exact hkind
            have hkey := HI.out.1.keyed HI.out.2.1 (by have := HI.out.2.2.1; omega) (by have := HI.out.2.2.2; omega)
            obtain ⟨o1, o2, o3, o4⟩ := HI.out.1.opens (most := most) (t := x.len) HI.out.2.1
            obtain ⟨hh, hhh⟩ : ∃ hh, (if rOpen most os.length x.len = 0 then last + 1 else 0) = hh := ⟨_, rfl⟩
            obtain ⟨code, hcode⟩ : ∃ code, rOpen most os.length x.len = code := ⟨_, rfl⟩
            have hv1 : (if OpenOk most (os.zip ts) x.len = 0 then last + 1 else 0) = hh := by rw [o1]; exact hhh
            have hcc : (hh != hh) = false := by simp
            have hcd : (code != code) = false := by simp
            have HKIND := Lib.hid hkind
            have HKEY := Lib.hid hkey
            have HO1 := Lib.hid o1
            have HO2 := Lib.hid o2
            have HO3 := Lib.hid o3
            have HO4 := Lib.hid o4
            have HHH := Lib.hid hhh
            have HCODE := Lib.hid hcode
            have HV1 := Lib.hid hv1
            clear hkind hkey o1 o2 o3 o4 hhh hcode hv1
            go_wp2_with fail
            refine (bookOpen_sep HS.out 1 rfl HKEY.out x.len).mono ?_
            rintro e w3 ⟨rfl, hS3⟩
            rw [HV1.out, HO1.out, HCODE.out]
            rw [HO2.out, HO3.out] at hS3
            have hcn3 := (hS3.old.cell (p := ⟨bb, o + k * 2 + 1, none⟩) hgb).trans HCN0.out
            have HS3 := Lib.hid hS3
            clear hS3
            clear hck hcn
            go_wp2_with fail
            refine (refOpen_sep HS3 2 rfl x.len HI.out.2.1 (by have := HI.out.2.2.1; omega) (by have := HI.out.2.2.2; omega) (by rw [← HI.out.1.len]; have := HI.out.2.2.2; omega) HKN.out).mono ?_
            rintro e w4 ⟨rfl, HS4⟩
            rw [HHH.out, HCODE.out]
            have hnx : Hid (OnceI (if rOpen most os.length x.len = 0 then last + 1 else last) (if rOpen most os.length x.len = 0 then os ++ [last + 1] else os) (if rOpen most os.length x.len = 0 then ts ++ [x.len] else ts) ∧ 0 ≤ (if rOpen most os.length x.len = 0 then last + 1 else last) ∧ (if rOpen most os.length x.len = 0 then last + 1 else last) ≤ k + 1 ∧ (if rOpen most os.length x.len = 0 then os ++ [last + 1] else os).length ≤ k + 1) := by
              refine ⟨HO4.out, ?_, ?_, ?_⟩
              · have := HI.out.2.1; split <;> omega
              · have := HI.out.2.2.1; split <;> omega
              · have := HI.out.2.2.2; split
                · simp; omega
                · omega
            clear hcn3
            go_wp2_with fail
            go_meet
            case rel => exact ⟨_, _, _, HS4, hnx⟩
          case neg =>
            have hkb : (x.first == 1) = false := by rw [beq_eq_false_iff_ne]; exact hkind
            obtain ⟨c1, c2, c3, c4⟩ := HI.out.1.closes x.len
            have hSd : Hid (Sep w (playsL w b m most last os ts) wr.drew) := HS.out.up (below_drewN (Below.refl _ _) 1)
            have hclose : Calls Try.prog 33 #[.pointer (some ⟨b, 0, none⟩), .int .i64 x.len] wr.drew fun e w' => e = .returned (.int .i64 (rCloseC os x.len)) ∧ Hid (Sep w [OldA w, BookA (.pointer (some ⟨b, 0, none⟩)) most last ((rOut os (placeI os x.len)).zip (rOut ts (placeI os x.len))), RBookA (.pointer (some ⟨m, 0, none⟩)) most os ts last] w') := by
              refine (bookClose_sep hSd.out 1 rfl x.len).mono ?_
              rintro e w' ⟨rfl, h⟩
              rw [c1]
              rw [c2] at h
              exact ⟨rfl, h⟩
            have hcl2 : ∀ w', Hid (Sep w [OldA w, BookA (.pointer (some ⟨b, 0, none⟩)) most last ((rOut os (placeI os x.len)).zip (rOut ts (placeI os x.len))), RBookA (.pointer (some ⟨m, 0, none⟩)) most os ts last] w') → Calls Try.prog 34 #[.pointer (some ⟨m, 0, none⟩), .int .i64 x.len] w' fun e w'' => e = .returned (.int .i64 (rCloseC os x.len)) ∧
                Hid (Sep w (playsL w b m most last (rOut os (placeI os x.len)) (rOut ts (placeI os x.len))) w'') := fun w' h => refClose_sep h 2 rfl x.len (by have := HI.out.2.2.2; omega) HI.out.1.len.symm
            have hnx : Hid (OnceI last (rOut os (placeI os x.len)) (rOut ts (placeI os x.len)) ∧ 0 ≤ last ∧ last ≤ k + 1 ∧ (rOut os (placeI os x.len)).length ≤ k + 1) := ⟨c3, HI.out.2.1, by have := HI.out.2.2.1; omega, by have := HI.out.2.2.2; omega⟩
            generalize rOut os (placeI os x.len) = os2 at *
            generalize rOut ts (placeI os x.len) = ts2 at *
            generalize rCloseC os x.len = code at *
            have hcd : (code != code) = false := by simp
            have HKIND := Lib.hid hkind
            have HSD := Lib.hid hSd
            have HCLOSE := Lib.hid hclose
            have HCL2 := Lib.hid hcl2
            clear hkind hSd hclose hcl2
            clear c1 c2 c3 c4
            go_wp2_with fail
            go_region_held3 (fun W' => W'.cell? ⟨bb, o + k * 2 + 1, none⟩ = some (.int .i64 x.len))
              (first | exact hcn | exact hcn3 | exact hcn4 | go_keep)
              ((first
                | (go_at_call 33
                   refine (HCLOSE.out).mono ?_
                   rintro e w3 ⟨rfl, HS3⟩
                   have hcn3 := (HS3.out.old.cell (p := ⟨bb, o + k * 2 + 1, none⟩) hgb).trans HCN0.out)
                | (go_at_call 34
                   refine (HCL2.out _ HS3).mono ?_
                   rintro e w4 ⟨rfl, HS4⟩
                   have hcn4 := (HS4.out.old.cell (p := ⟨bb, o + k * 2 + 1, none⟩) hgb).trans HCN0.out)))
            all_goals
              go_wp2_with fail
              go_meet
              case rel => exact ⟨_, _, _, HS4, hnx⟩
        case rest =>
          obtain ⟨os2, ts2, last2, HS5, HI5⟩ := hcut
          obtain ⟨w5, rfl⟩ : ∃ w5 : World, w5 = wc := ⟨_, rfl⟩
          have hats := HI5.out.1.ats x.len
          have hlen := HI5.out.1.len
          have hcn5 := (HS5.out.old.cell (p := ⟨bb, o + k * 2 + 1, none⟩) hgb).trans HCN0.out
          have HATS := Lib.hid hats
          have HLEN := Lib.hid hlen
          clear hats hlen
          clear hck hcn HS HI
          go_wp2_with fail
          refine (bookAt_sep HS5 1 rfl x.len).mono ?_
          rintro e w6 ⟨rfl, rfl⟩
          rw [HATS.out]
          go_wp2_with fail
          refine (refAt_sep HS5 2 rfl x.len HLEN.out.symm).mono ?_
          rintro e w6 ⟨rfl, HB6⟩
          have HS6 := Lib.hid (HS5.out.up HB6.out)
          have HS7 := Lib.hid (HS6.out.up (w' := w6.drew) (below_drewN (Below.refl _ _) 1))
          obtain ⟨hp, hc, hm1, HMI, hml⟩ := ref_cells HS6.out 2 rfl
          obtain ⟨x1, hx1⟩ : ∃ x1, (rAt os2 ts2 x.len).1 = x1 := ⟨_, rfl⟩
          obtain ⟨x2, hx2⟩ : ∃ x2, (rAt os2 ts2 x.len).2 = x2 := ⟨_, rfl⟩
          rw [hx1, hx2]
          have hlw := HI5.out.1.lows
          have hzl := HI5.out.1.zlen
          have hb64 : ∀ x ∈ os2, I64 x := fun x hx => by have := HI5.out.1.bd x hx; have := HI5.out.2.2.1; unfold I64; omega
          have hol : os2.length ≤ 301 := by have := HI5.out.2.2.2; omega
          have hq1 : (x1 != x1) = false := by simp
          have hq2 : (x2 != x2) = false := by simp
          obtain ⟨lo, hlo⟩ : ∃ lo, lowOf now ts2 = lo := ⟨_, rfl⟩
          have hq3 : (lo != lo) = false := by simp
          have hq4 : ((os2.length : Int) != (os2.length : Int)) = false := by simp
          have HLW := Lib.hid hlw
          have HZL := Lib.hid hzl
          have HB64 := Lib.hid hb64
          have HLO := Lib.hid hlo
          have HX1 := Lib.hid hx1
          have HX2 := Lib.hid hx2
          clear hlw hzl hb64 hlo hx1 hx2
          clear hcn5
          go_wp2_with fail
          go_region_held3 (fun W' => W'.cell? ⟨m, 1, none⟩ = some (.slice hp os2.length hc))
            (first | exact hm1 | exact hm8 | exact hm9 | exact hm10 | exact hm11 | exact hm12 | go_keep)
            ((first
              | (go_at_call 37
                 refine (bookLow_sep HS7 1 rfl now).mono ?_
                 rintro e w8 ⟨rfl, HB8⟩
                 rw [HLW.out, HLO.out]
                 have HS8 := Lib.hid (HS7.out.up HB8.out)
                 have hm8 : w8.cell? ⟨m, 1, none⟩ = some (.slice hp os2.length hc) := cell_up HB8.out hm1
                 have HMI8 := Lib.hid (IntsAt.up (IntsAt.up HMI.out (below_drewN (Below.refl _ _) 1)) HB8.out))
              | (go_at_call 38
                 refine (refLow_sep HS8 2 rfl now).mono ?_
                 rintro e w9 ⟨rfl, HB9⟩
                 rw [HLO.out]
                 have HS9 := Lib.hid (HS8.out.up HB9.out)
                 have hm9 := cell_up HB9.out hm8
                 have HMI9 := Lib.hid (IntsAt.up HMI8.out HB9.out))
              | (go_at_call 39
                 refine (bookCount_sep HS9 1 rfl (by rw [HZL.out]; omega)).mono ?_
                 rintro e w10 ⟨rfl, HB10⟩
                 rw [HZL.out]
                 have HS10 := Lib.hid (HS9.out.up HB10.out)
                 have hm10 := cell_up HB10.out hm9
                 have HMI10 := Lib.hid (IntsAt.up HMI9.out HB10.out))
              | (go_at_call 41
                 refine (bookList_sep HS10 1 rfl HI5.out.1 HB64.out (by omega)).mono ?_
                 rintro e w11 ⟨kp, kc, rfl, HK11, HB11⟩
                 have HS11 := Lib.hid (HS10.out.up HB11.out)
                 have hm11 := cell_up HB11.out hm10
                 have HMI11 := Lib.hid (IntsAt.up HMI10.out HB11.out))
              | (go_at_call 40
                 refine (ints_any (fun _ => True) _ _ os2 os2 _ HK11.out HMI11.out).mono ?_
                 rintro e w12 ⟨rfl, hb12⟩
                 rw [show (os2 == os2) = true by simp]
                 have HS12 := Lib.hid (HS11.out.up hb12)
                 have hm12 := cell_up hb12 hm11
                 clear hb12)))
          all_goals
            go_wp2_with fail
            go_roundw
            case rel => exact ⟨k + 1, os2, ts2, last2, by omega, by go_num, HS12, HI5.out.1, HI5.out.2.1, by have := HI5.out.2.2.1; omega, HI5.out.2.2.2⟩
            case measure => simp [intOf]; omega
end Go.Proofs
