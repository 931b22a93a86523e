/- RsetSteady: a block that one did not write oneself is read the same again, whatever was applied above the time meanwhile: for every input the law returns true. -/
import Derived.Test.YtnjidpmggggiiaaFed15
namespace Go.Proofs
open Go.RowKit Sc

theorem Steps15.more {w w' : World} {v : Value} {l : List Step15} (h : Steps15 (Old w) w v l) (hb : Below w.heap.size w w') : Steps15 (Old w') w' v l := by
  have hz := hb.size
  refine SlAt.mono (h.up hb) (fun k (hk : k < w.heap.size) => (show k < w'.heap.size by omega)) ?_
  rintro b o x ⟨h1, h2, h3, h4, h5, h6, ⟨u, h7, h8⟩, h9, h10⟩
  exact ⟨h1, h2, h3, h4, h5, h6, ⟨u, h7, h8.mono fun k (hk : k < w.heap.size) => (show k < w'.heap.size by omega)⟩, h9, h10⟩
/-- What is known of the Map. -/
def Fd15 (last : Int) (vs : Vers) (k : Nat) : Prop := GoodE 20 last vs ∧ ∀ key l', alook vs key = some l' → l'.length ≤ k
theorem Fd15.next {last : Int} {vs : Vers} {k : Nat} (h : Fd15 last vs k) (t : Tx) : Fd15 (applyLast 20 last t) (applyNext 20 last vs t) (k + 1) := ⟨h.1.next t, apply_lenG h.1 h.2⟩
theorem Fd15.skip {last : Int} {vs : Vers} {k : Nat} (h : Fd15 last vs k) : Fd15 last vs (k + 1) := ⟨h.1, fun key l' q => Nat.le_succ_of_le (h.2 key l' q)⟩
def worldC (m b v x y z : Nat) : Array Value := #[.pointer (some ⟨m, 0, none⟩), .pointer (some ⟨b, 0, none⟩), .pointer (some ⟨v, 0, none⟩), .pointer (some ⟨x, 0, none⟩), .pointer (some ⟨y, 0, none⟩), .pointer (some ⟨z, 0, none⟩)]
def steadyL (W : World) (m b s v x y z q : Nat) (last : Int) (vs : Vers) (S : List Ext) (R : List Sc.Read) (L : List Asn) : List Asn :=
  OldA W :: ExtA (.pointer (some ⟨m, 0, none⟩)) 20 last vs :: BufA (.pointer (some ⟨b, 0, none⟩)) 20 16 [] :: TrueA :: TrueA :: SetA (.pointer (some ⟨s, 0, none⟩)) 64 S :: ViewA (.pointer (some ⟨v, 0, none⟩)) (.pointer (some ⟨m, 0, none⟩)) (.pointer (some ⟨b, 0, none⟩)) 5 (.pointer (some ⟨s, 0, none⟩)) R :: TrueA :: BoxA q (worldC m b v x y z) 36 :: L
theorem steady_start {W w : World} {m b s v x y z q : Nat} (h : Hid (Sep W (OldA W :: freshL 20 5 m b s v x y z q) w)) : Hid (Sep W (steadyL W m b s v x y z q 0 [] [] [] []) w) :=
  ((h.out.imp 3 (A' := TrueA) rfl (fun _ _ _ => trivial)).imp 4 (A' := TrueA) rfl (fun _ _ _ => trivial)).imp 7 (A' := TrueA) rfl (fun _ _ _ => trivial)
/-- An Apply of a step, in the walk's own form. -/
theorem steadyApply {W wr : World} {m b s v x y z q : Nat} {last : Int} {vs : Vers} {S : List Ext} {R : List Sc.Read} {L : List Asn} (HS : Hid (Sep W (steadyL W m b s v x y z q last vs S R L) wr)) {k : Nat} (HF : Hid (Fd15 last vs k)) (hk : k ≤ 1000000) {st : Step15} {tv : Value}
    (HT : Hid (∀ L', steadyL W m b s v x y z q last vs S R L = L' → ∀ i, i ≠ 0 → ∀ G, Sc.Rest L' i G wr → TxAt G wr tv st.t)) (hp : Hid (st.puts.length ≤ 20000)) :
    Calls Try.prog 17 #[.pointer (some ⟨m, 0, none⟩), tv] wr fun e w' => ∃ c, e = .returned (.int .i64 c) ∧ Hid (Sep W (steadyL W m b s v x y z q (applyLast 20 last st.t) (applyNext 20 last vs st.t) S R L) w') := by
  refine (extApply_sep HS.out 1 rfl (by omega) st.t (fun G hG => ?_) (fun key l' h => by have := HF.out.2 key l' h; omega) (by have := hp.out; unfold Step15.t; simp only; omega)).mono ?_
  · exact HT.out _ rfl 1 (by decide) G hG
  · rintro e w' ⟨rfl, h⟩
    exact ⟨_, rfl, h⟩
theorem blk_one (vs : Vers) (a : Int) : rowsF (fun i : Nat => blkV vs [] 5 ((⟨a, 1⟩ : Ext).first + i)) (⟨a, 1⟩ : Ext).len.toNat = (getV vs a 5).1 := by
  show rowsF _ 1 = _
  rw [rowsF_succ]
  show [] ++ (getV vs (a + 0) 5).1 = _
  rw [Int.add_zero, List.nil_append]
/-- A read of the one block. -/
theorem steadyRead {W wr : World} {m b s v x y z q : Nat} {last : Int} {vs : Vers} {S : List Ext} {R : List Sc.Read} {L : List Asn} (HS : Hid (Sep W (steadyL W m b s v x y z q last vs S R L) wr)) {k : Nat} (HF : Hid (Fd15 last vs k)) {a : Int} (ha : 0 ≤ a ∧ a < 20) (hS : Hid (S = [] ∨ S = [⟨a, 1⟩])) (hR : Hid (R.length ≤ 1000)) :
    Calls Try.prog 14 #[.pointer (some ⟨v, 0, none⟩), .agg #[.int .i64 a, .int .i64 1]] wr fun e w' => ∃ g o c R', e = .returned (.tuple #[.slice (some ⟨g, o, none⟩) 40 c, .int .i64 0]) ∧ Hid (R'.length = R.length + 1) ∧
      Hid (Sep W (steadyL W m b s v x y z q last vs [⟨a, 1⟩] R' (L ++ [BytesWA (.slice (some ⟨g, o, none⟩) 40 c) (getV vs a 5).1])) w') := by
  obtain ⟨h1, h2⟩ := one_code20 ha hS.out
  have hg : SetG S := by
    rcases hS.out with rfl | rfl
    · exact SetG.nil
    · have := addNext_good (most := 64) (l := [⟨a, 1⟩]) SetG.nil
      rw [(one_code20 ha (.inl rfl)).2] at this
      exact this
  have hl : S.length ≤ 50000 := by rcases hS.out with rfl | rfl <;> simp
  refine (viewRead_sep HS 1 2 5 6 (by decide) rfl rfl rfl rfl HF.out.1 (by omega) (BufG.start 20) hg hl (by have := hR.out; omega) ⟨a, 1⟩ (i64_small (by simp only; omega)) (i64_small (by simp only; omega))).mono ?_
  rintro r w' (⟨hno, _⟩ | ⟨_, g, o, c, rfl, h⟩)
  · exact absurd h1 hno
  rw [h2, blk_one] at h
  exact ⟨g, o, c, _, rfl, Lib.hid (by rw [List.length_append, readsV_length]; rfl), h⟩

set_option maxRecDepth 100000 in
set_option maxHeartbeats 4000000 in
theorem steady15_any (vl : Value) (l : List Step15) (lba : Int) (w : World) (hl : Steps15 (Old w) w vl l) :
    Calls Try.prog 4 #[vl, .int .i64 lba] w (Tru w) := by
  have hl' := hl
  obtain ⟨lp, lc, rfl, hll, hlc, _, _⟩ := hl'
  have HL0 := Lib.hid hl
  clear hl
  go_enter Try.func4, Try.ntmps4
  go_wp2_with fail
  refine (small15_any (Old w) _ l _ (fun k hk => hk) HL0.out).mono ?_
  rintro e w1 ⟨q, rfl, hq, hb1⟩
  have hl1 := HL0.out.more hb1
  have HL := Lib.hid hl1
  clear hl1
  have HQ := Lib.hid hq
  have HB1 := Lib.hid hb1
  clear hq hb1
  cases q with
  | false =>
    go_wp2_with fail
    refine (awake15 _).mono ?_
    rintro e w2 ⟨rfl, hb2⟩
    have hb02 := Below.up HB1.out hb2
    have HB2 := Lib.hid hb2
    have HB02 := Lib.hid hb02
    clear hb2 hb02
    go_wp2
    go_ret
    exact ⟨rfl, HB02.out⟩
  | true =>
    obtain ⟨hsz, h120⟩ := HQ.out rfl
    go_wp2_with fail
    refine (fresh_any 20 5 w1 (by omega) (by omega)).mono ?_
    rintro e w2 ⟨m, b, s, v, x, y, z, q, rfl, HS2⟩
    have HS3 := steady_start HS2
    clear HS2
    go_wp2_with fail
    refine (round_any lba 20 _ (by omega) (by omega)).mono ?_
    rintro e w3 ⟨rfl, rfl⟩
    have ha := roundN_bd lba (n := 20) (by omega)
    generalize roundN lba 20 = a at *
    have hfin : ∀ (w2 : World) (last : Int) (vs : Vers) (S : List Ext) (R : List Sc.Read) (L : List Asn), Hid (Sep w1 (steadyL w1 m b s v x y z q last vs S R L) w2) → Below w.heap.size w w2 := fun _ _ _ _ _ _ h1 => HB1.out.trans (h1.out.old.mono HB1.out.size)
    have HFIN := Lib.hid hfin
    clear hfin
    go_wp2_with fail
    go_loopw [7] (fun i wr => ∃ k : Nat, ∃ last vs, k ≤ l.length ∧ i = .int .i64 k ∧ Hid (Sep w1 (steadyL w1 m b s v x y z q last vs [] [] []) wr) ∧ Hid (Fd15 last vs k)) (fun i _ => l.length - (intOf i).toNat)
    case atStart => exact ⟨0, 0, [], by omega, rfl, HS3, Lib.hid ⟨good_zero 20, fun key l' h => by simp [alook] at h⟩⟩
    case round =>
      obtain ⟨k, last, vs, hk, rfl, HS, HF⟩ := hrel
      have hq0 : wr.cell? ⟨q, 0, none⟩ = some (.pointer (some ⟨m, 0, none⟩)) := fresh_cells HS.out 8 rfl 0 (by simp [worldC])
      have hq2 : wr.cell? ⟨q, 2, none⟩ = some (.pointer (some ⟨v, 0, none⟩)) := fresh_cells HS.out 8 rfl 2 (by simp [worldC])
      by_cases hgo : ∃ h : k < l.length, l[k].kind = 3 ∧ l[k].n ≤ 5
      case pos =>
        obtain ⟨hlt, hg1, hg2⟩ := hgo
        have HSD : Hid (Sep w1 (steadyL w1 m b s v x y z q last vs [] [] []) wr.drew) := HS.out.up (below_drewN (Below.refl _ _) 1)
        obtain ⟨st, bb, o, pp, pc, hsk, rfl, hgb, hck0, hcn0, hcp0, HT, HP, hki, hni⟩ := step15_cells HL HSD hlt hsz
        rw [hsk] at hg1 hg2
        have hck := (HS.out.old.cell (p := ⟨bb, o + k * 5, none⟩) hgb).trans hck0
        have hcn := (HS.out.old.cell (p := ⟨bb, o + k * 5 + 4, none⟩) hgb).trans hcn0
        have hcp := (HS.out.old.cell (p := ⟨bb, o + k * 5 + 3, none⟩) hgb).trans hcp0
        have happ := steadyApply HSD HF (by omega) HT HP
        have hk3 : (st.kind == 3) = true := by rw [beq_iff_eq]; exact hg1
        have HSK := Lib.hid hsk
        have HCK0 := Lib.hid hck0
        have HCN0 := Lib.hid hcn0
        have HCP0 := Lib.hid hcp0
        have HAPP := Lib.hid happ
        have HG1 := Lib.hid hg1
        clear hsk hck0 hcn0 hcp0 happ hg1
        go_wp2_with fail
        go_region_held3 (fun W => W.cell? ⟨q, 0, none⟩ = some (.pointer (some ⟨m, 0, none⟩)) ∧ W.cell? ⟨bb, o + k * 5 + 4, none⟩ = some (.int .i64 st.n) ∧ W.cell? ⟨bb, o + k * 5 + 3, none⟩ = some (.slice pp st.puts.length pc))
          (first | exact ⟨hq0, hcn, hcp⟩ | exact ⟨hq4, hcn4, hcp4⟩ | go_keep)
          ((go_at_call 17
            refine (HAPP.out).mono ?_
            rintro e w4 ⟨code, rfl, HS4⟩
            have hq4 : w4.cell? ⟨q, 0, none⟩ = some (.pointer (some ⟨m, 0, none⟩)) := fresh_cells HS4.out 8 rfl 0 (by simp [worldC])
            have hcn4 := (HS4.out.old.cell (p := ⟨bb, o + k * 5 + 4, none⟩) hgb).trans HCN0.out
            have hcp4 := (HS4.out.old.cell (p := ⟨bb, o + k * 5 + 3, none⟩) hgb).trans HCP0.out))
        all_goals
          go_wp2_with fail
          go_roundw
          case rel => exact ⟨k + 1, _, _, by omega, by go_num, HS4, HF.out.next _⟩
          case measure => simp [intOf]; omega
      case neg =>
        have hstop : Hid (∃ c : Nat, c ≤ l.length ∧ Fd15 last vs c) := Lib.hid ⟨k, hk, HF.out⟩
        by_cases hlt : k < l.length
        case pos =>
          obtain ⟨st, bb, o, pp, pc, hsk, rfl, hgb, hck0, hcn0, hcp0, HT, HP, hki, hni⟩ := step15_cells HL HS hlt hsz
          have hck := (HS.out.old.cell (p := ⟨bb, o + k * 5, none⟩) hgb).trans hck0
          have hcn := (HS.out.old.cell (p := ⟨bb, o + k * 5 + 4, none⟩) hgb).trans hcn0
          clear HT HP hck0 hcn0 hcp0
          by_cases hk3 : st.kind = 3
          case pos =>
            have hn5 : 5 < st.n := by
              rcases Int.lt_or_le 5 st.n with h | h
              · exact h
              · exact absurd ⟨hlt, by rw [hsk]; exact hk3, by rw [hsk]; exact h⟩ hgo
            have hk3' : (st.kind == 3) = true := by rw [beq_iff_eq]; exact hk3
            have HSK := Lib.hid hsk
            have HGO := Lib.hid hgo
            have HK3 := Lib.hid hk3
            clear hsk hgo hk3
            go_wp2_with fail
            obtain ⟨W4, rfl⟩ : ∃ W4 : World, W4 = wr := ⟨_, rfl⟩
            obtain ⟨d, hd⟩ : ∃ d, (getV vs a 5).1 = d := ⟨_, rfl⟩
            refine (steadyRead HS HF ha (Lib.hid (.inl rfl)) (Lib.hid (by simp))).mono ?_
            rintro e w5 ⟨g, go, gc, R1, rfl, HR1, HS5⟩
            rw [hd] at HS5
            clear hq0 hq2
            have HD := Lib.hid hd
            clear hd
            go_wp2_with fail
            go_loopw [10] (fun i wr => ∃ j : Nat, ∃ last vs R c, j ≤ l.length ∧ i = .int .i64 j ∧ Hid (Sep w1 (steadyL w1 m b s v x y z q last vs [⟨a, 1⟩] R [BytesWA (.slice (some ⟨g, go, none⟩) 40 gc) d]) wr) ∧ Hid (Fd15 last vs c ∧ c ≤ l.length + j ∧ (getV vs a 5).1 = d ∧ R.length ≤ j + 1)) (fun i _ => l.length - (intOf i).toNat)
            case atStart => exact ⟨0, last, vs, R1, k, by omega, rfl, HS5, Lib.hid ⟨HF.out, by omega, HD.out, by have := HR1.out; simp at this; omega⟩⟩
            case round =>
              obtain ⟨j, last2, vs2, R, c, hj, rfl, HSL, HFL⟩ := hrel
              by_cases hlt2 : j < l.length
              case pos =>
                have HSD : Hid (Sep w1 (steadyL w1 m b s v x y z q last2 vs2 [⟨a, 1⟩] R [BytesWA (.slice (some ⟨g, go, none⟩) 40 gc) d]) wr.drew) := HSL.out.up (below_drewN (Below.refl _ _) 1)
                obtain ⟨st2, bb2, o2, pp2, pc2, hsk2, h2lp, hgb2, hck02, hcn02, hcp02, HT2, HP2, hki2, hni2⟩ := step15_cells HL HSD hlt2 hsz
                cases h2lp
                have hq0 : wr.cell? ⟨q, 0, none⟩ = some (.pointer (some ⟨m, 0, none⟩)) := fresh_cells HSL.out 8 rfl 0 (by simp [worldC])
                have hq2 : wr.cell? ⟨q, 2, none⟩ = some (.pointer (some ⟨v, 0, none⟩)) := fresh_cells HSL.out 8 rfl 2 (by simp [worldC])
                have hck2 := (HSL.out.old.cell (p := ⟨bb, o + j * 5, none⟩) hgb2).trans hck02
                have hcn2 := (HSL.out.old.cell (p := ⟨bb, o + j * 5 + 4, none⟩) hgb2).trans hcn02
                have hcp2 := (HSL.out.old.cell (p := ⟨bb, o + j * 5 + 3, none⟩) hgb2).trans hcp02
                rcases (show (st2.kind = 3 ∧ 5 < st2.n) ∨ (st2.kind = 3 ∧ st2.n ≤ 5) ∨ st2.kind ≠ 3 by omega) with ⟨g1, g2⟩ | ⟨g1, g2⟩ | g1
                · have happ := steadyApply HSD (k := c) (Lib.hid HFL.out.1) (by have := HFL.out.2.1; omega) HT2 HP2
                  have hk3 : (st2.kind == 3) = true := by rw [beq_iff_eq]; exact g1
                  have HFN : Hid (Fd15 (applyLast 20 last2 st2.t) (applyNext 20 last2 vs2 st2.t) (c + 1) ∧ c + 1 ≤ l.length + (j + 1) ∧ (getV (applyNext 20 last2 vs2 st2.t) a 5).1 = d ∧ R.length ≤ j + 1) := Lib.hid ⟨HFL.out.1.next _, by have := HFL.out.2.1; omega, by rw [getV_above HFL.out.1.1 (by exact g2)]; exact HFL.out.2.2.1, HFL.out.2.2.2⟩
                  have HSK2 := Lib.hid hsk2
                  have HCK02 := Lib.hid hck02
                  have HCN02 := Lib.hid hcn02
                  have HCP02 := Lib.hid hcp02
                  have HAPP := Lib.hid happ
                  have HG1 := Lib.hid g1
                  clear hsk2 hck02 hcn02 hcp02 happ g1
                  go_wp2_with fail
                  go_region_held3 (fun W => W.cell? ⟨q, 0, none⟩ = some (.pointer (some ⟨m, 0, none⟩)) ∧ W.cell? ⟨bb, o + j * 5 + 4, none⟩ = some (.int .i64 st2.n) ∧ W.cell? ⟨bb, o + j * 5 + 3, none⟩ = some (.slice pp2 st2.puts.length pc2))
                    (first | exact ⟨hq0, hcn2, hcp2⟩ | exact ⟨hq4, hcn4, hcp4⟩ | go_keep)
                    ((go_at_call 17
                      refine (HAPP.out).mono ?_
                      rintro e w4 ⟨code, rfl, HSN⟩
                      have hq4 : w4.cell? ⟨q, 0, none⟩ = some (.pointer (some ⟨m, 0, none⟩)) := fresh_cells HSN.out 8 rfl 0 (by simp [worldC])
                      have hcn4 := (HSN.out.old.cell (p := ⟨bb, o + j * 5 + 4, none⟩) hgb2).trans HCN02.out
                      have hcp4 := (HSN.out.old.cell (p := ⟨bb, o + j * 5 + 3, none⟩) hgb2).trans HCP02.out))
                  all_goals
                    have hq6 : w4.cell? ⟨q, 2, none⟩ = some (.pointer (some ⟨v, 0, none⟩)) := fresh_cells HSN.out 8 rfl 2 (by simp [worldC])
                    clear hq0 hq2 hcn4 hcp4 hck2 hcn2 hcp2
                    go_wp2_with fail
                    refine (steadyRead HSN (Lib.hid HFN.out.1) ha (Lib.hid (.inr rfl)) (Lib.hid (by have := HFN.out.2.2.2; omega))).mono ?_
                    rintro e w6 ⟨g6, o6, c6, R6, rfl, HR6, HS6⟩
                    rw [HFN.out.2.2.1] at HS6
                    obtain ⟨FA, hFA, _⟩ := HS6.out.get 9 rfl
                    obtain ⟨FB, hFB, _⟩ := HS6.out.get 10 rfl
                    have hbA := BytesW.bytes (hFA : BytesW FA w6 (.slice (some ⟨g, go, none⟩) 40 gc) d)
                    have hbB := BytesW.bytes (hFB : BytesW FB w6 (.slice (some ⟨g6, o6, none⟩) 40 c6) d)
                    have HFA := Lib.hid hFA
                    have HFB := Lib.hid hFB
                    have HBA := Lib.hid hbA
                    have HBB := Lib.hid hbB
                    clear hFA hFB hbA hbB
                    go_wp2_with fail
                    refine (bytes_any (fun _ => True) _ _ d d _ (BytesAt.mono HBB.out fun _ _ => trivial) (BytesAt.mono HBA.out fun _ _ => trivial)).mono ?_
                    rintro e w7 ⟨rfl, hb7⟩
                    rw [show (d == d) = true by simp]
                    have hS7 := (HS6.out.up hb7).take 10
                    have HS7 := Lib.hid hS7
                    have HB7 := Lib.hid hb7
                    clear hS7 hb7
                    go_wp2_with fail
                    go_roundw
                    case rel => exact ⟨j + 1, _, _, R6, _, by omega, by go_num, HS7.out, Lib.hid ⟨HFN.out.1, HFN.out.2.1, HFN.out.2.2.1, by have := HR6.out; have := HFN.out.2.2.2; omega⟩⟩
                    case measure => simp [intOf]; omega
                · have HSN := HSL
                  have HFN : Hid (Fd15 last2 vs2 (c + 1) ∧ c + 1 ≤ l.length + (j + 1) ∧ (getV vs2 a 5).1 = d ∧ R.length ≤ j + 1) := Lib.hid ⟨HFL.out.1.skip, by have := HFL.out.2.1; omega, HFL.out.2.2.1, HFL.out.2.2.2⟩
                  have hk3 : (st2.kind == 3) = true := by rw [beq_iff_eq]; exact g1
                  clear hq0
                  have HSK2 := Lib.hid hsk2
                  have HCK02 := Lib.hid hck02
                  have HCN02 := Lib.hid hcn02
                  have HCP02 := Lib.hid hcp02
                  have HG1 := Lib.hid g1
                  clear hsk2 hck02 hcn02 hcp02 g1
                  go_wp2_with fail
                  refine (steadyRead HSN (Lib.hid HFN.out.1) ha (Lib.hid (.inr rfl)) (Lib.hid (by have := HFN.out.2.2.2; omega))).mono ?_
                  rintro e w6 ⟨g6, o6, c6, R6, rfl, HR6, HS6⟩
                  rw [HFN.out.2.2.1] at HS6
                  obtain ⟨FA, hFA, _⟩ := HS6.out.get 9 rfl
                  obtain ⟨FB, hFB, _⟩ := HS6.out.get 10 rfl
                  have hbA := BytesW.bytes (hFA : BytesW FA w6 (.slice (some ⟨g, go, none⟩) 40 gc) d)
                  have hbB := BytesW.bytes (hFB : BytesW FB w6 (.slice (some ⟨g6, o6, none⟩) 40 c6) d)
                  have HFA := Lib.hid hFA
                  have HFB := Lib.hid hFB
                  have HBA := Lib.hid hbA
                  have HBB := Lib.hid hbB
                  clear hFA hFB hbA hbB
                  go_wp2_with fail
                  refine (bytes_any (fun _ => True) _ _ d d _ (BytesAt.mono HBB.out fun _ _ => trivial) (BytesAt.mono HBA.out fun _ _ => trivial)).mono ?_
                  rintro e w7 ⟨rfl, hb7⟩
                  rw [show (d == d) = true by simp]
                  have hS7 := (HS6.out.up hb7).take 10
                  have HS7 := Lib.hid hS7
                  have HB7 := Lib.hid hb7
                  clear hS7 hb7
                  go_wp2_with fail
                  go_roundw
                  case rel => exact ⟨j + 1, _, _, R6, _, by omega, by go_num, HS7.out, Lib.hid ⟨HFN.out.1, HFN.out.2.1, HFN.out.2.2.1, by have := HR6.out; have := HFN.out.2.2.2; omega⟩⟩
                  case measure => simp [intOf]; omega
                · have HSN := HSL
                  have HFN : Hid (Fd15 last2 vs2 (c + 1) ∧ c + 1 ≤ l.length + (j + 1) ∧ (getV vs2 a 5).1 = d ∧ R.length ≤ j + 1) := Lib.hid ⟨HFL.out.1.skip, by have := HFL.out.2.1; omega, HFL.out.2.2.1, HFL.out.2.2.2⟩
                  have hk3 : (st2.kind == 3) = false := by rw [beq_eq_false_iff_ne]; exact g1
                  clear hq0
                  have HSK2 := Lib.hid hsk2
                  have HCK02 := Lib.hid hck02
                  have HCN02 := Lib.hid hcn02
                  have HCP02 := Lib.hid hcp02
                  have HG1 := Lib.hid g1
                  clear hsk2 hck02 hcn02 hcp02 g1
                  go_wp2_with fail
                  refine (steadyRead HSN (Lib.hid HFN.out.1) ha (Lib.hid (.inr rfl)) (Lib.hid (by have := HFN.out.2.2.2; omega))).mono ?_
                  rintro e w6 ⟨g6, o6, c6, R6, rfl, HR6, HS6⟩
                  rw [HFN.out.2.2.1] at HS6
                  obtain ⟨FA, hFA, _⟩ := HS6.out.get 9 rfl
                  obtain ⟨FB, hFB, _⟩ := HS6.out.get 10 rfl
                  have hbA := BytesW.bytes (hFA : BytesW FA w6 (.slice (some ⟨g, go, none⟩) 40 gc) d)
                  have hbB := BytesW.bytes (hFB : BytesW FB w6 (.slice (some ⟨g6, o6, none⟩) 40 c6) d)
                  have HFA := Lib.hid hFA
                  have HFB := Lib.hid hFB
                  have HBA := Lib.hid hbA
                  have HBB := Lib.hid hbB
                  clear hFA hFB hbA hbB
                  go_wp2_with fail
                  refine (bytes_any (fun _ => True) _ _ d d _ (BytesAt.mono HBB.out fun _ _ => trivial) (BytesAt.mono HBA.out fun _ _ => trivial)).mono ?_
                  rintro e w7 ⟨rfl, hb7⟩
                  rw [show (d == d) = true by simp]
                  have hS7 := (HS6.out.up hb7).take 10
                  have HS7 := Lib.hid hS7
                  have HB7 := Lib.hid hb7
                  clear hS7 hb7
                  go_wp2_with fail
                  go_roundw
                  case rel => exact ⟨j + 1, _, _, R6, _, by omega, by go_num, HS7.out, Lib.hid ⟨HFN.out.1, HFN.out.2.1, HFN.out.2.2.1, by have := HR6.out; have := HFN.out.2.2.2; omega⟩⟩
                  case measure => simp [intOf]; omega
              case neg =>
                go_wp2_with fail
                refine (awake15 _).mono ?_
                rintro e w8 ⟨rfl, hb8⟩
                have hb08 := Below.up (HFIN.out _ _ _ _ _ _ HSL) hb8
                have HB8 := Lib.hid hb8
                have HB08 := Lib.hid hb08
                clear hb8 hb08
                go_wp2
                go_ret
                exact ⟨rfl, HB08.out⟩
          case neg =>
            have hk3' : (st.kind == 3) = false := by rw [beq_eq_false_iff_ne]; exact hk3
            have HSK := Lib.hid hsk
            have HGO := Lib.hid hgo
            have HK3 := Lib.hid hk3
            clear hsk hgo hk3
            go_wp2_with fail
            obtain ⟨W4, rfl⟩ : ∃ W4 : World, W4 = wr := ⟨_, rfl⟩
            obtain ⟨d, hd⟩ : ∃ d, (getV vs a 5).1 = d := ⟨_, rfl⟩
            refine (steadyRead HS HF ha (Lib.hid (.inl rfl)) (Lib.hid (by simp))).mono ?_
            rintro e w5 ⟨g, go, gc, R1, rfl, HR1, HS5⟩
            rw [hd] at HS5
            clear hq0 hq2
            have HD := Lib.hid hd
            clear hd
            go_wp2_with fail
            go_loopw [10] (fun i wr => ∃ j : Nat, ∃ last vs R c, j ≤ l.length ∧ i = .int .i64 j ∧ Hid (Sep w1 (steadyL w1 m b s v x y z q last vs [⟨a, 1⟩] R [BytesWA (.slice (some ⟨g, go, none⟩) 40 gc) d]) wr) ∧ Hid (Fd15 last vs c ∧ c ≤ l.length + j ∧ (getV vs a 5).1 = d ∧ R.length ≤ j + 1)) (fun i _ => l.length - (intOf i).toNat)
            case atStart => exact ⟨0, last, vs, R1, k, by omega, rfl, HS5, Lib.hid ⟨HF.out, by omega, HD.out, by have := HR1.out; simp at this; omega⟩⟩
            case round =>
              obtain ⟨j, last2, vs2, R, c, hj, rfl, HSL, HFL⟩ := hrel
              by_cases hlt2 : j < l.length
              case pos =>
                have HSD : Hid (Sep w1 (steadyL w1 m b s v x y z q last2 vs2 [⟨a, 1⟩] R [BytesWA (.slice (some ⟨g, go, none⟩) 40 gc) d]) wr.drew) := HSL.out.up (below_drewN (Below.refl _ _) 1)
                obtain ⟨st2, bb2, o2, pp2, pc2, hsk2, h2lp, hgb2, hck02, hcn02, hcp02, HT2, HP2, hki2, hni2⟩ := step15_cells HL HSD hlt2 hsz
                cases h2lp
                have hq0 : wr.cell? ⟨q, 0, none⟩ = some (.pointer (some ⟨m, 0, none⟩)) := fresh_cells HSL.out 8 rfl 0 (by simp [worldC])
                have hq2 : wr.cell? ⟨q, 2, none⟩ = some (.pointer (some ⟨v, 0, none⟩)) := fresh_cells HSL.out 8 rfl 2 (by simp [worldC])
                have hck2 := (HSL.out.old.cell (p := ⟨bb, o + j * 5, none⟩) hgb2).trans hck02
                have hcn2 := (HSL.out.old.cell (p := ⟨bb, o + j * 5 + 4, none⟩) hgb2).trans hcn02
                have hcp2 := (HSL.out.old.cell (p := ⟨bb, o + j * 5 + 3, none⟩) hgb2).trans hcp02
                rcases (show (st2.kind = 3 ∧ 5 < st2.n) ∨ (st2.kind = 3 ∧ st2.n ≤ 5) ∨ st2.kind ≠ 3 by omega) with ⟨g1, g2⟩ | ⟨g1, g2⟩ | g1
                · have happ := steadyApply HSD (k := c) (Lib.hid HFL.out.1) (by have := HFL.out.2.1; omega) HT2 HP2
                  have hk3 : (st2.kind == 3) = true := by rw [beq_iff_eq]; exact g1
                  have HFN : Hid (Fd15 (applyLast 20 last2 st2.t) (applyNext 20 last2 vs2 st2.t) (c + 1) ∧ c + 1 ≤ l.length + (j + 1) ∧ (getV (applyNext 20 last2 vs2 st2.t) a 5).1 = d ∧ R.length ≤ j + 1) := Lib.hid ⟨HFL.out.1.next _, by have := HFL.out.2.1; omega, by rw [getV_above HFL.out.1.1 (by exact g2)]; exact HFL.out.2.2.1, HFL.out.2.2.2⟩
                  have HSK2 := Lib.hid hsk2
                  have HCK02 := Lib.hid hck02
                  have HCN02 := Lib.hid hcn02
                  have HCP02 := Lib.hid hcp02
                  have HAPP := Lib.hid happ
                  have HG1 := Lib.hid g1
                  clear hsk2 hck02 hcn02 hcp02 happ g1
                  go_wp2_with fail
                  go_region_held3 (fun W => W.cell? ⟨q, 0, none⟩ = some (.pointer (some ⟨m, 0, none⟩)) ∧ W.cell? ⟨bb, o + j * 5 + 4, none⟩ = some (.int .i64 st2.n) ∧ W.cell? ⟨bb, o + j * 5 + 3, none⟩ = some (.slice pp2 st2.puts.length pc2))
                    (first | exact ⟨hq0, hcn2, hcp2⟩ | exact ⟨hq4, hcn4, hcp4⟩ | go_keep)
                    ((go_at_call 17
                      refine (HAPP.out).mono ?_
                      rintro e w4 ⟨code, rfl, HSN⟩
                      have hq4 : w4.cell? ⟨q, 0, none⟩ = some (.pointer (some ⟨m, 0, none⟩)) := fresh_cells HSN.out 8 rfl 0 (by simp [worldC])
                      have hcn4 := (HSN.out.old.cell (p := ⟨bb, o + j * 5 + 4, none⟩) hgb2).trans HCN02.out
                      have hcp4 := (HSN.out.old.cell (p := ⟨bb, o + j * 5 + 3, none⟩) hgb2).trans HCP02.out))
                  all_goals
                    have hq6 : w4.cell? ⟨q, 2, none⟩ = some (.pointer (some ⟨v, 0, none⟩)) := fresh_cells HSN.out 8 rfl 2 (by simp [worldC])
                    clear hq0 hq2 hcn4 hcp4 hck2 hcn2 hcp2
                    go_wp2_with fail
                    refine (steadyRead HSN (Lib.hid HFN.out.1) ha (Lib.hid (.inr rfl)) (Lib.hid (by have := HFN.out.2.2.2; omega))).mono ?_
                    rintro e w6 ⟨g6, o6, c6, R6, rfl, HR6, HS6⟩
                    rw [HFN.out.2.2.1] at HS6
                    obtain ⟨FA, hFA, _⟩ := HS6.out.get 9 rfl
                    obtain ⟨FB, hFB, _⟩ := HS6.out.get 10 rfl
                    have hbA := BytesW.bytes (hFA : BytesW FA w6 (.slice (some ⟨g, go, none⟩) 40 gc) d)
                    have hbB := BytesW.bytes (hFB : BytesW FB w6 (.slice (some ⟨g6, o6, none⟩) 40 c6) d)
                    have HFA := Lib.hid hFA
                    have HFB := Lib.hid hFB
                    have HBA := Lib.hid hbA
                    have HBB := Lib.hid hbB
                    clear hFA hFB hbA hbB
                    go_wp2_with fail
                    refine (bytes_any (fun _ => True) _ _ d d _ (BytesAt.mono HBB.out fun _ _ => trivial) (BytesAt.mono HBA.out fun _ _ => trivial)).mono ?_
                    rintro e w7 ⟨rfl, hb7⟩
                    rw [show (d == d) = true by simp]
                    have hS7 := (HS6.out.up hb7).take 10
                    have HS7 := Lib.hid hS7
                    have HB7 := Lib.hid hb7
                    clear hS7 hb7
                    go_wp2_with fail
                    go_roundw
                    case rel => exact ⟨j + 1, _, _, R6, _, by omega, by go_num, HS7.out, Lib.hid ⟨HFN.out.1, HFN.out.2.1, HFN.out.2.2.1, by have := HR6.out; have := HFN.out.2.2.2; omega⟩⟩
                    case measure => simp [intOf]; omega
                · have HSN := HSL
                  have HFN : Hid (Fd15 last2 vs2 (c + 1) ∧ c + 1 ≤ l.length + (j + 1) ∧ (getV vs2 a 5).1 = d ∧ R.length ≤ j + 1) := Lib.hid ⟨HFL.out.1.skip, by have := HFL.out.2.1; omega, HFL.out.2.2.1, HFL.out.2.2.2⟩
                  have hk3 : (st2.kind == 3) = true := by rw [beq_iff_eq]; exact g1
                  clear hq0
                  have HSK2 := Lib.hid hsk2
                  have HCK02 := Lib.hid hck02
                  have HCN02 := Lib.hid hcn02
                  have HCP02 := Lib.hid hcp02
                  have HG1 := Lib.hid g1
                  clear hsk2 hck02 hcn02 hcp02 g1
                  go_wp2_with fail
                  refine (steadyRead HSN (Lib.hid HFN.out.1) ha (Lib.hid (.inr rfl)) (Lib.hid (by have := HFN.out.2.2.2; omega))).mono ?_
                  rintro e w6 ⟨g6, o6, c6, R6, rfl, HR6, HS6⟩
                  rw [HFN.out.2.2.1] at HS6
                  obtain ⟨FA, hFA, _⟩ := HS6.out.get 9 rfl
                  obtain ⟨FB, hFB, _⟩ := HS6.out.get 10 rfl
                  have hbA := BytesW.bytes (hFA : BytesW FA w6 (.slice (some ⟨g, go, none⟩) 40 gc) d)
                  have hbB := BytesW.bytes (hFB : BytesW FB w6 (.slice (some ⟨g6, o6, none⟩) 40 c6) d)
                  have HFA := Lib.hid hFA
                  have HFB := Lib.hid hFB
                  have HBA := Lib.hid hbA
                  have HBB := Lib.hid hbB
                  clear hFA hFB hbA hbB
                  go_wp2_with fail
                  refine (bytes_any (fun _ => True) _ _ d d _ (BytesAt.mono HBB.out fun _ _ => trivial) (BytesAt.mono HBA.out fun _ _ => trivial)).mono ?_
                  rintro e w7 ⟨rfl, hb7⟩
                  rw [show (d == d) = true by simp]
                  have hS7 := (HS6.out.up hb7).take 10
                  have HS7 := Lib.hid hS7
                  have HB7 := Lib.hid hb7
                  clear hS7 hb7
                  go_wp2_with fail
                  go_roundw
                  case rel => exact ⟨j + 1, _, _, R6, _, by omega, by go_num, HS7.out, Lib.hid ⟨HFN.out.1, HFN.out.2.1, HFN.out.2.2.1, by have := HR6.out; have := HFN.out.2.2.2; omega⟩⟩
                  case measure => simp [intOf]; omega
                · have HSN := HSL
                  have HFN : Hid (Fd15 last2 vs2 (c + 1) ∧ c + 1 ≤ l.length + (j + 1) ∧ (getV vs2 a 5).1 = d ∧ R.length ≤ j + 1) := Lib.hid ⟨HFL.out.1.skip, by have := HFL.out.2.1; omega, HFL.out.2.2.1, HFL.out.2.2.2⟩
                  have hk3 : (st2.kind == 3) = false := by rw [beq_eq_false_iff_ne]; exact g1
                  clear hq0
                  have HSK2 := Lib.hid hsk2
                  have HCK02 := Lib.hid hck02
                  have HCN02 := Lib.hid hcn02
                  have HCP02 := Lib.hid hcp02
                  have HG1 := Lib.hid g1
                  clear hsk2 hck02 hcn02 hcp02 g1
                  go_wp2_with fail
                  refine (steadyRead HSN (Lib.hid HFN.out.1) ha (Lib.hid (.inr rfl)) (Lib.hid (by have := HFN.out.2.2.2; omega))).mono ?_
                  rintro e w6 ⟨g6, o6, c6, R6, rfl, HR6, HS6⟩
                  rw [HFN.out.2.2.1] at HS6
                  obtain ⟨FA, hFA, _⟩ := HS6.out.get 9 rfl
                  obtain ⟨FB, hFB, _⟩ := HS6.out.get 10 rfl
                  have hbA := BytesW.bytes (hFA : BytesW FA w6 (.slice (some ⟨g, go, none⟩) 40 gc) d)
                  have hbB := BytesW.bytes (hFB : BytesW FB w6 (.slice (some ⟨g6, o6, none⟩) 40 c6) d)
                  have HFA := Lib.hid hFA
                  have HFB := Lib.hid hFB
                  have HBA := Lib.hid hbA
                  have HBB := Lib.hid hbB
                  clear hFA hFB hbA hbB
                  go_wp2_with fail
                  refine (bytes_any (fun _ => True) _ _ d d _ (BytesAt.mono HBB.out fun _ _ => trivial) (BytesAt.mono HBA.out fun _ _ => trivial)).mono ?_
                  rintro e w7 ⟨rfl, hb7⟩
                  rw [show (d == d) = true by simp]
                  have hS7 := (HS6.out.up hb7).take 10
                  have HS7 := Lib.hid hS7
                  have HB7 := Lib.hid hb7
                  clear hS7 hb7
                  go_wp2_with fail
                  go_roundw
                  case rel => exact ⟨j + 1, _, _, R6, _, by omega, by go_num, HS7.out, Lib.hid ⟨HFN.out.1, HFN.out.2.1, HFN.out.2.2.1, by have := HR6.out; have := HFN.out.2.2.2; omega⟩⟩
                  case measure => simp [intOf]; omega
              case neg =>
                go_wp2_with fail
                refine (awake15 _).mono ?_
                rintro e w8 ⟨rfl, hb8⟩
                have hb08 := Below.up (HFIN.out _ _ _ _ _ _ HSL) hb8
                have HB8 := Lib.hid hb8
                have HB08 := Lib.hid hb08
                clear hb8 hb08
                go_wp2
                go_ret
                exact ⟨rfl, HB08.out⟩
        case neg =>
          have HGO := Lib.hid hgo
          clear hgo
          go_wp2_with fail
          obtain ⟨W4, rfl⟩ : ∃ W4 : World, W4 = wr := ⟨_, rfl⟩
          obtain ⟨d, hd⟩ : ∃ d, (getV vs a 5).1 = d := ⟨_, rfl⟩
          refine (steadyRead HS HF ha (Lib.hid (.inl rfl)) (Lib.hid (by simp))).mono ?_
          rintro e w5 ⟨g, go, gc, R1, rfl, HR1, HS5⟩
          rw [hd] at HS5
          clear hq0 hq2
          have HD := Lib.hid hd
          clear hd
          go_wp2_with fail
          go_loopw [10] (fun i wr => ∃ j : Nat, ∃ last vs R c, j ≤ l.length ∧ i = .int .i64 j ∧ Hid (Sep w1 (steadyL w1 m b s v x y z q last vs [⟨a, 1⟩] R [BytesWA (.slice (some ⟨g, go, none⟩) 40 gc) d]) wr) ∧ Hid (Fd15 last vs c ∧ c ≤ l.length + j ∧ (getV vs a 5).1 = d ∧ R.length ≤ j + 1)) (fun i _ => l.length - (intOf i).toNat)
          case atStart => exact ⟨0, last, vs, R1, k, by omega, rfl, HS5, Lib.hid ⟨HF.out, by omega, HD.out, by have := HR1.out; simp at this; omega⟩⟩
          case round =>
            obtain ⟨j, last2, vs2, R, c, hj, rfl, HSL, HFL⟩ := hrel
            by_cases hlt2 : j < l.length
            case pos =>
              have HSD : Hid (Sep w1 (steadyL w1 m b s v x y z q last2 vs2 [⟨a, 1⟩] R [BytesWA (.slice (some ⟨g, go, none⟩) 40 gc) d]) wr.drew) := HSL.out.up (below_drewN (Below.refl _ _) 1)
              obtain ⟨st2, bb2, o2, pp2, pc2, hsk2, h2lp, hgb2, hck02, hcn02, hcp02, HT2, HP2, hki2, hni2⟩ := step15_cells HL HSD hlt2 hsz
              cases h2lp
              have hq0 : wr.cell? ⟨q, 0, none⟩ = some (.pointer (some ⟨m, 0, none⟩)) := fresh_cells HSL.out 8 rfl 0 (by simp [worldC])
              have hq2 : wr.cell? ⟨q, 2, none⟩ = some (.pointer (some ⟨v, 0, none⟩)) := fresh_cells HSL.out 8 rfl 2 (by simp [worldC])
              have hck2 := (HSL.out.old.cell (p := ⟨bb2, o2 + j * 5, none⟩) hgb2).trans hck02
              have hcn2 := (HSL.out.old.cell (p := ⟨bb2, o2 + j * 5 + 4, none⟩) hgb2).trans hcn02
              have hcp2 := (HSL.out.old.cell (p := ⟨bb2, o2 + j * 5 + 3, none⟩) hgb2).trans hcp02
              rcases (show (st2.kind = 3 ∧ 5 < st2.n) ∨ (st2.kind = 3 ∧ st2.n ≤ 5) ∨ st2.kind ≠ 3 by omega) with ⟨g1, g2⟩ | ⟨g1, g2⟩ | g1
              · have happ := steadyApply HSD (k := c) (Lib.hid HFL.out.1) (by have := HFL.out.2.1; omega) HT2 HP2
                have hk3 : (st2.kind == 3) = true := by rw [beq_iff_eq]; exact g1
                have HFN : Hid (Fd15 (applyLast 20 last2 st2.t) (applyNext 20 last2 vs2 st2.t) (c + 1) ∧ c + 1 ≤ l.length + (j + 1) ∧ (getV (applyNext 20 last2 vs2 st2.t) a 5).1 = d ∧ R.length ≤ j + 1) := Lib.hid ⟨HFL.out.1.next _, by have := HFL.out.2.1; omega, by rw [getV_above HFL.out.1.1 (by exact g2)]; exact HFL.out.2.2.1, HFL.out.2.2.2⟩
                have HSK2 := Lib.hid hsk2
                have HCK02 := Lib.hid hck02
                have HCN02 := Lib.hid hcn02
                have HCP02 := Lib.hid hcp02
                have HAPP := Lib.hid happ
                have HG1 := Lib.hid g1
                clear hsk2 hck02 hcn02 hcp02 happ g1
                go_wp2_with fail
                go_region_held3 (fun W => W.cell? ⟨q, 0, none⟩ = some (.pointer (some ⟨m, 0, none⟩)) ∧ W.cell? ⟨bb2, o2 + j * 5 + 4, none⟩ = some (.int .i64 st2.n) ∧ W.cell? ⟨bb2, o2 + j * 5 + 3, none⟩ = some (.slice pp2 st2.puts.length pc2))
                  (first | exact ⟨hq0, hcn2, hcp2⟩ | exact ⟨hq4, hcn4, hcp4⟩ | go_keep)
                  ((go_at_call 17
                    refine (HAPP.out).mono ?_
                    rintro e w4 ⟨code, rfl, HSN⟩
                    have hq4 : w4.cell? ⟨q, 0, none⟩ = some (.pointer (some ⟨m, 0, none⟩)) := fresh_cells HSN.out 8 rfl 0 (by simp [worldC])
                    have hcn4 := (HSN.out.old.cell (p := ⟨bb2, o2 + j * 5 + 4, none⟩) hgb2).trans HCN02.out
                    have hcp4 := (HSN.out.old.cell (p := ⟨bb2, o2 + j * 5 + 3, none⟩) hgb2).trans HCP02.out))
                all_goals
                  have hq6 : w4.cell? ⟨q, 2, none⟩ = some (.pointer (some ⟨v, 0, none⟩)) := fresh_cells HSN.out 8 rfl 2 (by simp [worldC])
                  clear hq0 hq2 hcn4 hcp4 hck2 hcn2 hcp2
                  go_wp2_with fail
                  refine (steadyRead HSN (Lib.hid HFN.out.1) ha (Lib.hid (.inr rfl)) (Lib.hid (by have := HFN.out.2.2.2; omega))).mono ?_
                  rintro e w6 ⟨g6, o6, c6, R6, rfl, HR6, HS6⟩
                  rw [HFN.out.2.2.1] at HS6
                  obtain ⟨FA, hFA, _⟩ := HS6.out.get 9 rfl
                  obtain ⟨FB, hFB, _⟩ := HS6.out.get 10 rfl
                  have hbA := BytesW.bytes (hFA : BytesW FA w6 (.slice (some ⟨g, go, none⟩) 40 gc) d)
                  have hbB := BytesW.bytes (hFB : BytesW FB w6 (.slice (some ⟨g6, o6, none⟩) 40 c6) d)
                  have HFA := Lib.hid hFA
                  have HFB := Lib.hid hFB
                  have HBA := Lib.hid hbA
                  have HBB := Lib.hid hbB
                  clear hFA hFB hbA hbB
                  go_wp2_with fail
                  refine (bytes_any (fun _ => True) _ _ d d _ (BytesAt.mono HBB.out fun _ _ => trivial) (BytesAt.mono HBA.out fun _ _ => trivial)).mono ?_
                  rintro e w7 ⟨rfl, hb7⟩
                  rw [show (d == d) = true by simp]
                  have hS7 := (HS6.out.up hb7).take 10
                  have HS7 := Lib.hid hS7
                  have HB7 := Lib.hid hb7
                  clear hS7 hb7
                  go_wp2_with fail
                  go_roundw
                  case rel => exact ⟨j + 1, _, _, R6, _, by omega, by go_num, HS7.out, Lib.hid ⟨HFN.out.1, HFN.out.2.1, HFN.out.2.2.1, by have := HR6.out; have := HFN.out.2.2.2; omega⟩⟩
                  case measure => simp [intOf]; omega
              · have HSN := HSL
                have HFN : Hid (Fd15 last2 vs2 (c + 1) ∧ c + 1 ≤ l.length + (j + 1) ∧ (getV vs2 a 5).1 = d ∧ R.length ≤ j + 1) := Lib.hid ⟨HFL.out.1.skip, by have := HFL.out.2.1; omega, HFL.out.2.2.1, HFL.out.2.2.2⟩
                have hk3 : (st2.kind == 3) = true := by rw [beq_iff_eq]; exact g1
                clear hq0
                have HSK2 := Lib.hid hsk2
                have HCK02 := Lib.hid hck02
                have HCN02 := Lib.hid hcn02
                have HCP02 := Lib.hid hcp02
                have HG1 := Lib.hid g1
                clear hsk2 hck02 hcn02 hcp02 g1
                go_wp2_with fail
                refine (steadyRead HSN (Lib.hid HFN.out.1) ha (Lib.hid (.inr rfl)) (Lib.hid (by have := HFN.out.2.2.2; omega))).mono ?_
                rintro e w6 ⟨g6, o6, c6, R6, rfl, HR6, HS6⟩
                rw [HFN.out.2.2.1] at HS6
                obtain ⟨FA, hFA, _⟩ := HS6.out.get 9 rfl
                obtain ⟨FB, hFB, _⟩ := HS6.out.get 10 rfl
                have hbA := BytesW.bytes (hFA : BytesW FA w6 (.slice (some ⟨g, go, none⟩) 40 gc) d)
                have hbB := BytesW.bytes (hFB : BytesW FB w6 (.slice (some ⟨g6, o6, none⟩) 40 c6) d)
                have HFA := Lib.hid hFA
                have HFB := Lib.hid hFB
                have HBA := Lib.hid hbA
                have HBB := Lib.hid hbB
                clear hFA hFB hbA hbB
                go_wp2_with fail
                refine (bytes_any (fun _ => True) _ _ d d _ (BytesAt.mono HBB.out fun _ _ => trivial) (BytesAt.mono HBA.out fun _ _ => trivial)).mono ?_
                rintro e w7 ⟨rfl, hb7⟩
                rw [show (d == d) = true by simp]
                have hS7 := (HS6.out.up hb7).take 10
                have HS7 := Lib.hid hS7
                have HB7 := Lib.hid hb7
                clear hS7 hb7
                go_wp2_with fail
                go_roundw
                case rel => exact ⟨j + 1, _, _, R6, _, by omega, by go_num, HS7.out, Lib.hid ⟨HFN.out.1, HFN.out.2.1, HFN.out.2.2.1, by have := HR6.out; have := HFN.out.2.2.2; omega⟩⟩
                case measure => simp [intOf]; omega
              · have HSN := HSL
                have HFN : Hid (Fd15 last2 vs2 (c + 1) ∧ c + 1 ≤ l.length + (j + 1) ∧ (getV vs2 a 5).1 = d ∧ R.length ≤ j + 1) := Lib.hid ⟨HFL.out.1.skip, by have := HFL.out.2.1; omega, HFL.out.2.2.1, HFL.out.2.2.2⟩
                have hk3 : (st2.kind == 3) = false := by rw [beq_eq_false_iff_ne]; exact g1
                clear hq0
                have HSK2 := Lib.hid hsk2
                have HCK02 := Lib.hid hck02
                have HCN02 := Lib.hid hcn02
                have HCP02 := Lib.hid hcp02
                have HG1 := Lib.hid g1
                clear hsk2 hck02 hcn02 hcp02 g1
                go_wp2_with fail
                refine (steadyRead HSN (Lib.hid HFN.out.1) ha (Lib.hid (.inr rfl)) (Lib.hid (by have := HFN.out.2.2.2; omega))).mono ?_
                rintro e w6 ⟨g6, o6, c6, R6, rfl, HR6, HS6⟩
                rw [HFN.out.2.2.1] at HS6
                obtain ⟨FA, hFA, _⟩ := HS6.out.get 9 rfl
                obtain ⟨FB, hFB, _⟩ := HS6.out.get 10 rfl
                have hbA := BytesW.bytes (hFA : BytesW FA w6 (.slice (some ⟨g, go, none⟩) 40 gc) d)
                have hbB := BytesW.bytes (hFB : BytesW FB w6 (.slice (some ⟨g6, o6, none⟩) 40 c6) d)
                have HFA := Lib.hid hFA
                have HFB := Lib.hid hFB
                have HBA := Lib.hid hbA
                have HBB := Lib.hid hbB
                clear hFA hFB hbA hbB
                go_wp2_with fail
                refine (bytes_any (fun _ => True) _ _ d d _ (BytesAt.mono HBB.out fun _ _ => trivial) (BytesAt.mono HBA.out fun _ _ => trivial)).mono ?_
                rintro e w7 ⟨rfl, hb7⟩
                rw [show (d == d) = true by simp]
                have hS7 := (HS6.out.up hb7).take 10
                have HS7 := Lib.hid hS7
                have HB7 := Lib.hid hb7
                clear hS7 hb7
                go_wp2_with fail
                go_roundw
                case rel => exact ⟨j + 1, _, _, R6, _, by omega, by go_num, HS7.out, Lib.hid ⟨HFN.out.1, HFN.out.2.1, HFN.out.2.2.1, by have := HR6.out; have := HFN.out.2.2.2; omega⟩⟩
                case measure => simp [intOf]; omega
            case neg =>
              go_wp2_with fail
              refine (awake15 _).mono ?_
              rintro e w8 ⟨rfl, hb8⟩
              have hb08 := Below.up (HFIN.out _ _ _ _ _ _ HSL) hb8
              have HB8 := Lib.hid hb8
              have HB08 := Lib.hid hb08
              clear hb8 hb08
              go_wp2
              go_ret
              exact ⟨rfl, HB08.out⟩
end Go.Proofs
