/- RsetOwn: what one wrote oneself is read at once, and later what one wrote last; blocks beside it are the Map's: for every input the law returns true. -/
import Derived.Test.YtnjidpmggggiiaaOwn15Plain
import Derived.BigQuiet
namespace Go.Proofs
open Go.RowKit Sc

def worldO (m b v x y z : Nat) : Array Value := #[.pointer (some ⟨m, 0, none⟩), .pointer (some ⟨b, 0, none⟩), .pointer (some ⟨v, 0, none⟩), .pointer (some ⟨x, 0, none⟩), .pointer (some ⟨y, 0, none⟩), .pointer (some ⟨z, 0, none⟩)]
def ownL (W : World) (m b s v x y z q : Nat) (last : Int) (vs : Vers) (B : List (Int × Bytes)) (S : List Ext) (R : List Sc.Read) (L : List Asn) : List Asn :=
  OldA W :: ExtA (.pointer (some ⟨m, 0, none⟩)) 20 last vs :: BufA (.pointer (some ⟨b, 0, none⟩)) 20 16 B :: TrueA :: TrueA :: SetA (.pointer (some ⟨s, 0, none⟩)) 64 S :: ViewA (.pointer (some ⟨v, 0, none⟩)) (.pointer (some ⟨m, 0, none⟩)) (.pointer (some ⟨b, 0, none⟩)) 5 (.pointer (some ⟨s, 0, none⟩)) R :: TrueA :: BoxA q (worldO m b v x y z) 36 :: L
theorem own_start {W w : World} {m b s v x y z q : Nat} (h : Hid (Sep W (OldA W :: freshL 20 5 m b s v x y z q) w)) : Hid (Sep W (ownL W m b s v x y z q 0 [] [] [] [] []) w) :=
  ((h.out.imp 3 (A' := TrueA) rfl (fun _ _ _ => trivial)).imp 4 (A' := TrueA) rfl (fun _ _ _ => trivial)).imp 7 (A' := TrueA) rfl (fun _ _ _ => trivial)
/-- The Apply of the two blocks. -/
theorem ownApply {W w2 : World} {m b s v x y z q : Nat} {d1 d2 : Value} {a : Int} (ha : 0 ≤ a ∧ a < 19) (HS : Hid (Sep W (ownL W m b s v x y z q 0 [] [] [] [] [ByA d1 (dataB 50), ByA d2 (dataB 51)]) w2)) {g : Nat} (hg : w2.heap.size = g) :
    Calls Try.prog 17 #[.pointer (some ⟨m, 0, none⟩), .agg #[.int .i64 3, .slice (some ⟨g, 0, none⟩) 2 2]] (w2.alloc (.cells #[.int .i64 a, d1, .int .i64 (a + 1), d2] 61)) fun e w' => e = .returned (.int .i64 0) ∧
      Hid (Sep W (ownL W m b s v x y z q 3 (applyNext 20 0 [] (ownT a)) [] [] [] []) w') := by
  subst hg
  have h1 := HS.out.new (below_alloc w2 _) (BoxA w2.heap.size #[.int .i64 a, d1, .int .i64 (a + 1), d2] 61) (F := New w2 (w2.alloc (.cells #[.int .i64 a, d1, .int .i64 (a + 1), d2] 61))) (fun _ h => h) ⟨⟨Nat.le_refl _, by simp⟩, heap_alloc_new w2 _⟩
  refine (extApply_sep h1 1 rfl (by omega) (ownT a) (fun G hG => ?_) (fun k l h => by simp [alook] at h) (by simp [ownT])).mono ?_
  · obtain ⟨F1, a1, a2⟩ := hG 9 (ByA d1 (dataB 50)) (by decide) rfl
    obtain ⟨F2, b1, b2⟩ := hG 10 (ByA d2 (dataB 51)) (by decide) rfl
    obtain ⟨F3, c1, c2⟩ := hG 11 (BoxA w2.heap.size #[.int .i64 a, d1, .int .i64 (a + 1), d2] 61) (by decide) rfl
    exact ⟨_, rfl, i64_small (by simp only [ownT]; omega), puts_box2 c2.2 (c1 _ c2.1) (i64_small (by omega)) (i64_small (by omega)) (BytesAt.mono a2 a1) (BytesAt.mono b2 b1)⟩
  · rintro e w' ⟨rfl, h⟩
    rw [own_code ha]
    refine ⟨rfl, ?_⟩
    have := h.take 9
    rw [(own_map ha).1] at this
    exact this
/-- A read of the two blocks. -/
theorem ownRead {W wr : World} {m b s v x y z q : Nat} {a : Int} {vs : Vers} {B : List (Int × Bytes)} {S : List Ext} {R : List Sc.Read} {i j : Nat} (ha : 0 ≤ a ∧ a < 19) (HM : Hid (OwnM a vs)) (HB : Hid (OwnB a j B)) (HR : Hid (OwnR i R)) (HX : Hid (S = [] ∨ S = [⟨a, 2⟩])) (HI : Hid ((i + 1 = j ∨ (j = 0 ∧ i = 0 ∧ R = [])) ∧ j ≤ 10))
    (HS : Hid (Sep W (ownL W m b s v x y z q 3 vs B S R []) wr)) :
    Calls Try.prog 14 #[.pointer (some ⟨v, 0, none⟩), .agg #[.int .i64 a, .int .i64 2]] wr fun e w' => ∃ g o c R', e = .returned (.tuple #[.slice (some ⟨g, o, none⟩) 80 c, .int .i64 0]) ∧ Hid (OwnR j R') ∧ Hid (80 ≤ c) ∧
      Hid (Sep W (ownL W m b s v x y z q 3 vs B [⟨a, 2⟩] R' []) w') ∧ Hid (BytesAt (fun _ => True) w' (.slice (some ⟨g, o, none⟩) 40 c) (if j = 0 then dataB 50 else dataB ((j : Int) - 1))) ∧ Hid (BytesAt (fun _ => True) w' (.slice (some ⟨g, o + 40, none⟩) 40 (c - 40)) (dataB 51)) := by
  obtain ⟨h1, h2, h3, h4⟩ := two_code20 ha HX.out
  have hr := HR.out.len
  obtain ⟨hi, hj⟩ := HI.out
  refine (viewRead_sep HS 1 2 5 6 (by decide) rfl rfl rfl rfl HM.out.good (by omega) (HB.out.good ha).1 h3 (by omega) (by omega) ⟨a, 2⟩ (i64_small (by simp only; omega)) (i64_small (by simp only; omega))).mono ?_
  rintro r w' (⟨hno, _⟩ | ⟨_, g, o, c, rfl, h⟩)
  · exact absurd h1 hno
  rw [h2, own_rows] at h
  obtain ⟨q1, q2, _, _⟩ := HB.out.read HM.out
  rw [q1, q2] at h
  have hl0 : (if j = 0 then dataB 50 else dataB ((j : Int) - 1)).length = 40 := by split <;> exact dataB_length _
  obtain ⟨FO, hFO, _⟩ := h.out.get 9 rfl
  have hO : BytesW FO w' (.slice (some ⟨g, o, none⟩) 80 c) ((if j = 0 then dataB 50 else dataB ((j : Int) - 1)) ++ dataB 51) := hFO
  have hcap : 80 ≤ c := by
    obtain ⟨p', c', hv, k1, _⟩ := hO
    rw [List.length_append, hl0, dataB_length] at k1
    injection hv with e1 e2 e3
    omega
  have s1 := bytesW_sub hO (i := 0) (r := if j = 0 then dataB 50 else dataB ((j : Int) - 1)) (by rw [List.length_append]; omega) (fun k hk => by rw [Nat.zero_add, List.getElem?_append_left hk])
  have s2 := bytesW_sub hO (i := 40) (r := dataB 51) (by rw [List.length_append, hl0, dataB_length]; decide) (fun k hk => by rw [List.getElem?_append_right (by omega), hl0]; congr 1; omega)
  rw [hl0, Nat.add_zero, Nat.sub_zero] at s1
  rw [dataB_length] at s2
  exact ⟨g, o, c, _, rfl, HR.out.more HB.out HM.out hi, hcap, h.out.take 9, BytesAt.mono s1 fun _ _ => trivial, BytesAt.mono s2 fun _ _ => trivial⟩
/-- The write of the one block. -/
theorem ownWrite {W w2 : World} {m b s v x y z q : Nat} {a : Int} {vs : Vers} {B : List (Int × Bytes)} {S : List Ext} {R : List Sc.Read} {j : Nat} {dv : Value} (ha : 0 ≤ a ∧ a < 19) (HB : Hid (OwnB a j B))
    (HS : Hid (Sep W (ownL W m b s v x y z q 3 vs B S R [ByA dv (dataB j)]) w2)) {g : Nat} (hg : w2.heap.size = g) :
    Calls Try.prog 25 #[.pointer (some ⟨b, 0, none⟩), .slice (some ⟨g, 0, none⟩) 1 1] (w2.alloc (.cells #[.int .i64 a, dv] 61)) fun e w' => e = .returned (.int .i64 0) ∧ ∃ B', Hid (OwnB a (j + 1) B') ∧ Hid (Sep W (ownL W m b s v x y z q 3 vs B' S R []) w') := by
  obtain ⟨h1, h2⟩ := HB.out.next ha
  refine (bufWrite_one HS 2 9 (by decide) rfl rfl a (i64_small (by omega)) g hg (by have := (HB.out.good ha).2; omega)).mono ?_
  rintro e w' ⟨rfl, h⟩
  rw [h1]
  exact ⟨rfl, _, h2, h.out.take 9⟩

set_option maxRecDepth 100000 in
set_option maxHeartbeats 4000000 in
theorem own15_any (lba n : Int) (bf : Bool) (w : World) : Calls Try.prog 6 #[.int .i64 lba, .int .i64 n, .bool bf] w (Tru w) := by
  rcases (show n < 0 ∨ (¬ n < 0 ∧ 10 < n) ∨ (¬ n < 0 ∧ ¬ 10 < n) by omega) with hn | ⟨hn, hn2⟩ | ⟨hn, hn2⟩
  case inl =>
    go_enter Try.func6, Try.ntmps6
    go_wp2_with fail
    refine (awake15 _).mono ?_
    rintro e w2 ⟨rfl, hb2⟩
    have HB2 := Lib.hid hb2
    clear hb2
    go_wp2
    go_ret
    exact ⟨rfl, HB2.out⟩
  case inr.inl =>
    go_enter Try.func6, Try.ntmps6
    go_wp2_with fail
    refine (awake15 _).mono ?_
    rintro e w2 ⟨rfl, hb2⟩
    have HB2 := Lib.hid hb2
    clear hb2
    go_wp2
    go_ret
    exact ⟨rfl, HB2.out⟩
  case inr.inr =>
    obtain ⟨N, rfl⟩ : ∃ N : Nat, n = N := ⟨n.toNat, by omega⟩
    have hN : N ≤ 10 := by omega
    go_enter Try.func6, Try.ntmps6
    go_wp2_with fail
    refine (round_any lba 19 _ (by omega) (by omega)).mono ?_
    rintro e w1 ⟨rfl, rfl⟩
    have ha := roundN_bd lba (n := 19) (by omega)
    generalize roundN lba 19 = a at *
    have hwa : IntKind.i64.wrap (a + 1) = a + 1 := IntWalk.i64_in _ (by omega)
    go_wp2_with fail
    refine (fresh_any 20 5 w (by omega) (by omega)).mono ?_
    rintro e w1 ⟨m, b, s, v, x, y, z, q, rfl, HS0⟩
    have HS1 := own_start HS0
    clear HS0
    have hq0 : w1.cell? ⟨q, 0, none⟩ = some (.pointer (some ⟨m, 0, none⟩)) := fresh_cells HS1.out 8 rfl 0 (by simp [worldO])
    have hS1d := HS1.out.up (w' := w1.drew) (below_drewN (Below.refl _ _) 1)
    have hM := (own_map ha).2
    have happ := fun (d1 d2 : Value) (w2 : World) HS g hg => ownApply (W := w) (w2 := w2) (m := m) (b := b) (s := s) (v := v) (x := x) (y := y) (z := z) (q := q) (d1 := d1) (d2 := d2) ha HS (g := g) hg
    generalize hvs : applyNext 20 0 [] (ownT a) = vs at hM happ
    have HS1D := Lib.hid hS1d
    have HM := Lib.hid hM
    have HVS := Lib.hid hvs
    have HAPP := Lib.hid happ
    clear hS1d hM hvs happ
    go_wp2_with fail
    go_region_held3 (fun W' => W'.cell? ⟨q, 0, none⟩ = some (.pointer (some ⟨m, 0, none⟩)))
      (first | exact hq0 | exact hq2 | exact hq3 | exact cell_up (below_alloc w3 _) hq3 | exact hq4 | go_keep)
      ((first
        | (go_at_call 24
           with_reducible refine (data_any 50 _).mono ?_
           rintro e w2 ⟨d1, rfl, hd, hb2⟩
           have HS2 := Lib.hid (HS1D.out.new hb2 (ByA d1 (dataB 50)) (fun _ h => h) hd)
           have hq2 : w2.cell? ⟨q, 0, none⟩ = some (.pointer (some ⟨m, 0, none⟩)) := cell_up hb2 hq0
           obtain ⟨p1, c1, rfl⟩ := shape_of hd (dataB_length 50)
           clear hd hb2)
        | (go_at_call 24
           with_reducible refine (data_any 51 _).mono ?_
           rintro e w3 ⟨d2, rfl, hd, hb3⟩
           have HS3 := Lib.hid (HS2.out.new hb3 (ByA d2 (dataB 51)) (fun _ h => h) hd)
           have hq3 : w3.cell? ⟨q, 0, none⟩ = some (.pointer (some ⟨m, 0, none⟩)) := cell_up hb3 hq2
           obtain ⟨p2, c2, rfl⟩ := shape_of hd (dataB_length 51)
           clear hd hb3)
        | (go_at_call 17
           refine (HAPP.out _ _ _ HS3 _ rfl).mono ?_
           rintro e w4 ⟨rfl, HS4⟩
           have hq4 : w4.cell? ⟨q, 0, none⟩ = some (.pointer (some ⟨m, 0, none⟩)) := fresh_cells HS4.out 8 rfl 0 (by simp [worldO]))))
    have hq6 : w4.cell? ⟨q, 2, none⟩ = some (.pointer (some ⟨v, 0, none⟩)) := fresh_cells HS4.out 8 rfl 2 (by simp [worldO])
    have hB0 : Hid (OwnB a 0 []) := Lib.hid (.inl ⟨rfl, rfl⟩)
    have hR0 : Hid (OwnR 0 []) := Lib.hid ⟨rfl, by simp, by simp⟩
    clear hq0 hq2 hq3
    cases bf
    case' false =>
      have HZ : Hid (∃ S R, Hid (Sep w (ownL w m b s v x y z q 3 vs [] S R []) w4) ∧ Hid ((S = [] ∨ S = [⟨a, 2⟩]) ∧ OwnR 0 R)) := Lib.hid ⟨[], [], HS4, Lib.hid ⟨.inl rfl, hR0.out⟩⟩
      clear hq4 hq6
    case' true =>
      go_wp2_with fail
      refine (ownRead ha HM hB0 hR0 (Lib.hid (.inl rfl)) (Lib.hid ⟨.inr ⟨rfl, rfl, rfl⟩, by omega⟩) HS4).mono ?_
      rintro e w5 ⟨g, o, c, R5, rfl, HR5, HC5, HS5, HX5, _⟩
      rw [if_pos rfl] at HX5
      have hc40 : ¬ c < 40 := by have := HC5.out; omega
      have hc41 : (40 : Int) ≤ (c : Int) := by have := HC5.out; omega
      have hS5d := HS5.out.up (w' := w5.drew) (below_drewN (Below.refl _ _) 1)
      have hX5d := BytesAt.up HX5.out (below_drewN (Below.refl w5.heap.size w5) 1)
      have HS5D := Lib.hid hS5d
      have HX5D := Lib.hid hX5d
      clear hS5d hX5d
      clear hq4 hq6
      go_wp2_with fail
      go_region_held3 (fun _ => True)
        (first | trivial | go_keep)
        ((first
          | (go_at_call 24
             refine (data_any 50 _).mono ?_
             rintro e w6 ⟨dv6, rfl, hd6, hb6⟩
             have HS6 := Lib.hid (HS5D.out.up hb6)
             have HX6 := Lib.hid (BytesAt.up HX5D.out hb6)
             have HD6 := Lib.hid hd6
             clear hd6 hb6)
          | (go_at_call 18
             refine (bytes_any (fun _ => True) _ _ (dataB 50) (dataB 50) _ HX6.out (BytesAt.mono HD6.out fun _ _ => trivial)).mono ?_
             rintro e w7 ⟨rfl, hb7⟩
             rw [show (dataB 50 == dataB 50) = true by simp]
             have HS7 := Lib.hid (HS6.out.up hb7)
             clear hb7)))
      have HZ : Hid (∃ S R, Hid (Sep w (ownL w m b s v x y z q 3 vs [] S R []) w7) ∧ Hid ((S = [] ∨ S = [⟨a, 2⟩]) ∧ OwnR 0 R)) := Lib.hid ⟨_, _, HS7, Lib.hid ⟨.inr rfl, HR5.out⟩⟩
      clear hc40 hc41
    all_goals
      obtain ⟨S0, R0, HSZ, HRZ⟩ := HZ.out
      go_wp2_with fail
      go_loopw [11] (fun i wr => ∃ j : Nat, ∃ B S R, j ≤ N ∧ i = .int .i64 j ∧ Hid (Sep w (ownL w m b s v x y z q 3 vs B S R []) wr) ∧ Hid ((S = [] ∨ S = [⟨a, 2⟩]) ∧ OwnR j R ∧ OwnB a j B)) (fun i _ => N - (intOf i).toNat)
      case atStart => exact ⟨0, [], S0, R0, by omega, rfl, HSZ, Lib.hid ⟨HRZ.out.1, HRZ.out.2, hB0.out⟩⟩
      case round =>
        obtain ⟨j, B, S, R, hj, rfl, HS, HI⟩ := hrel
        by_cases hlt : j < N
        case pos =>
          have hq1 : wr.cell? ⟨q, 1, none⟩ = some (.pointer (some ⟨b, 0, none⟩)) := fresh_cells HS.out 8 rfl 1 (by simp [worldO])
          have hSd := HS.out.up (w' := wr.drew) (below_drewN (Below.refl _ _) 1)
          have hj10 : (j : Int) < (N : Int) := by omega
          have HSD := Lib.hid hSd
          clear hSd
          go_wp2_with fail
          go_region_held3 (fun W' => W'.cell? ⟨q, 1, none⟩ = some (.pointer (some ⟨b, 0, none⟩)))
            (first | exact hq1 | exact hqa | exact cell_up (below_alloc wa _) hqa | exact hqb | go_keep)
            ((first
              | (go_at_call 24
                 refine (data_any j _).mono ?_
                 rintro e wa ⟨da, rfl, hd, hba⟩
                 have HSA := Lib.hid (HSD.out.new hba (ByA da (dataB j)) (fun _ h => h) hd)
                 have hqa : wa.cell? ⟨q, 1, none⟩ = some (.pointer (some ⟨b, 0, none⟩)) := cell_up hba hq1
                 obtain ⟨pa, ca, rfl⟩ := shape_of hd (dataB_length j)
                 clear hd hba)
              | (go_at_call 25
                 refine (ownWrite ha (Lib.hid HI.out.2.2) HSA rfl).mono ?_
                 rintro e wb ⟨rfl, B2, HB2, HSB⟩
                 have hqb : wb.cell? ⟨q, 1, none⟩ = some (.pointer (some ⟨b, 0, none⟩)) := fresh_cells HSB.out 8 rfl 1 (by simp [worldO]))))
          all_goals
            have hqv : wb.cell? ⟨q, 2, none⟩ = some (.pointer (some ⟨v, 0, none⟩)) := fresh_cells HSB.out 8 rfl 2 (by simp [worldO])
            clear hq1 hqa hqb
            go_wp2_with fail
            refine (ownRead ha HM HB2 (Lib.hid HI.out.2.1) (Lib.hid HI.out.1) (Lib.hid ⟨.inl rfl, by omega⟩) HSB).mono ?_
            rintro e wc ⟨g, o, c, RC, rfl, HRC, HCC, HSC, HXC, HYC⟩
            rw [if_neg (by omega), show ((j + 1 : Nat) : Int) - 1 = j by omega] at HXC
            have hcc1 : (40 : Int) ≤ (c : Int) := by have := HCC.out; omega
            have hcc2 : ¬ c = 40 := by have := HCC.out; omega
            have hSCd := HSC.out.up (w' := wc.drew) (below_drewN (Below.refl _ _) 1)
            have hXCd := BytesAt.up HXC.out (below_drewN (Below.refl wc.heap.size wc) 1)
            have hYCd := BytesAt.up HYC.out (below_drewN (Below.refl wc.heap.size wc) 1)
            have HSCD := Lib.hid hSCd
            have HXCD := Lib.hid hXCd
            have HYCD := Lib.hid hYCd
            clear hSCd hXCd hYCd
            clear hqv
            go_wp2_with fail
            go_region_held3 (fun _ => True)
              (first | trivial | go_keep)
              ((first
                | (go_at_call 24
                   with_reducible refine (data_any j _).mono ?_
                   rintro e wd ⟨dd, rfl, hd, hbd⟩
                   have HSE := Lib.hid (HSCD.out.up hbd)
                   have HXE := Lib.hid (BytesAt.up HXCD.out hbd)
                   have HYE := Lib.hid (BytesAt.up HYCD.out hbd)
                   have HDE := Lib.hid hd
                   clear hd hbd)
                | (go_at_call 18
                   with_reducible refine (bytes_any (fun _ => True) _ _ (dataB j) (dataB j) _ HXE.out (BytesAt.mono HDE.out fun _ _ => trivial)).mono ?_
                   rintro e we ⟨rfl, hbe⟩
                   rw [show (dataB j == dataB j) = true by simp]
                   have HSF := Lib.hid (HSE.out.up hbe)
                   have HYF := Lib.hid (BytesAt.up HYE.out hbe)
                   clear hbe)
                | (go_at_call 24
                   with_reducible refine (data_any 51 _).mono ?_
                   rintro e wf ⟨df, rfl, hd, hbf⟩
                   have HSG := Lib.hid (HSF.out.up hbf)
                   have HYG := Lib.hid (BytesAt.up HYF.out hbf)
                   have HDG := Lib.hid hd
                   clear hd hbf)
                | (go_at_call 18
                   with_reducible refine (bytes_any (fun _ => True) _ _ (dataB 51) (dataB 51) _ HYG.out (BytesAt.mono HDG.out fun _ _ => trivial)).mono ?_
                   rintro e wg ⟨rfl, hbg⟩
                   rw [show (dataB 51 == dataB 51) = true by simp]
                   have HSH := Lib.hid (HSG.out.up hbg)
                   clear hbg)))
            all_goals
              go_wp2_with fail
              go_roundw
              case rel => exact ⟨j + 1, B2, _, RC, by omega, by go_num, HSH, Lib.hid ⟨.inr rfl, HRC.out, HB2.out⟩⟩
              case measure => simp [intOf]; omega
        case neg =>
          obtain rfl : j = N := by omega
          have hq3 : wr.cell? ⟨q, 2, none⟩ = some (.pointer (some ⟨v, 0, none⟩)) := fresh_cells HS.out 8 rfl 2 (by simp [worldO])
          obtain ⟨hR1, hR2, hR3⟩ := HI.out.2.1
          have hRl : R.length ≤ 22 := by omega
          have HR3 := Lib.hid hR3
          have HR2 := Lib.hid hR2
          have HR1 := Lib.hid hR1
          clear hR3 hR2 hR1
          go_wp2_with fail
          refine (viewReads_sep HS 6 rfl (fun x hx => by rw [HR3.out x hx]; omega) (by omega)).mono ?_
          rintro e w8 ⟨rp, rc, rfl, HRA, HB8⟩
          have HS8 := Lib.hid (HS.out.up HB8.out)
          obtain ⟨W8, rfl⟩ : ∃ W8 : World, W8 = w8 := ⟨_, rfl⟩
          clear hq3
          go_wp2_with fail
          go_loopw [15, 16] (fun kv iv wr => ∃ n k : Nat, n ≤ R.length ∧ iv = .int .i64 n ∧ kv = .int .i64 k ∧ Hid (k = ownC (R.take n)) ∧ Hid (Below W8.heap.size W8 wr)) (fun _ iv _ => R.length - (intOf iv).toNat)
          case atStart => exact ⟨0, 0, by omega, rfl, rfl, Lib.hid rfl, Lib.hid (Below.refl _ _)⟩
          case round =>
            obtain ⟨n, k, hn, rfl, rfl, HK, HB⟩ := hrel
            by_cases hlr : n < R.length
            case pos =>
              obtain ⟨_, _, hv, _, _, _, g4⟩ := ReadsAt.up HRA.out HB.out
              cases hv
              obtain ⟨g, o, rfl, _, _, _, _, hown⟩ := g4 n hlr
              have hnx := ownC_take R n hlr
              rw [← HK.out] at hnx
              have hnI : (n : Int) < (R.length : Int) := by omega
              have hkl : k ≤ 22 := by rw [HK.out]; have := ownC_le (R.take n); rw [List.length_take] at this; omega
              obtain ⟨ow, how⟩ : ∃ ow, R[n].own = ow := ⟨_, rfl⟩
              rw [how] at hown hnx
              clear g4
              have HNX := Lib.hid hnx
              have HOW := Lib.hid how
              clear hnx how
              cases ow with
              | true =>
                go_wp2_with fail
                go_roundw
                case rel => exact ⟨n + 1, k + 1, by omega, by go_num, by go_num, Lib.hid HNX.out.symm, HB⟩
                case measure => simp [intOf]; omega
              | false =>
                go_wp2_with fail
                go_roundw
                case rel => exact ⟨n + 1, k, by omega, by go_num, rfl, Lib.hid HNX.out.symm, HB⟩
                case measure => simp [intOf]; omega
            case neg =>
              have hkj : k = j := by rw [HK.out, List.take_of_length_le (by omega)]; exact HR1.out
              subst hkj
              have HS9 := Lib.hid (HS8.out.up HB.out)
              go_wp2_with fail
              refine (awake15 _).mono ?_
              rintro e w9 ⟨rfl, hb9⟩
              have HS10 := Lib.hid (HS9.out.up hb9)
              go_wp2_with fail
              go_ret
              exact ⟨rfl, HS10.out.old⟩
end Go.Proofs
