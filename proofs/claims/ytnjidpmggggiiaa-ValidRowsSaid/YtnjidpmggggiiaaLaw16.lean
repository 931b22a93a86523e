/- The laws of chapter 16: sets, small, what the document fixes. -/
import Derived.Test.YtnjidpmggggiiaaCheck16
import Derived.Test.YtnjidpmggggiiaaRefSet
import Derived.Test.YtnjidpmggggiiaaExtSep
import Derived.Test.YtnjidpmggggiiaaSepApp
import Derived.OwnWalk
namespace Go.Proofs
open Go.RowKit Sc

theorem add_radd (l : List Ext) : addCode 100 [] l = radd 100 [] l := by
  unfold addCode radd
  cases hq : allB l with
  | false => rfl
  | true =>
    simp only [reduceCtorEq, if_false]
    by_cases hl : l = []
    · subst hl
      rw [if_pos rfl, if_neg]
      rw [List.nil_append, normE_nil]; simp; try omega
    · rw [if_neg hl, show max (100 : Int) 0 = 100 from by decide]
def setOf (l : List Ext) : List Ext := addNext 100 [] l
theorem setOf_good (l : List Ext) : SetG (setOf l) := addNext_good SetG.nil
theorem setOf_len (l : List Ext) : (setOf l).length ≤ l.length := by have := addNext_len (most := 100) (l := l) SetG.nil; simpa [setOf] using this
set_option maxRecDepth 100000 in
set_option maxHeartbeats 1000000 in
theorem sets_sep {W w : World} {L : List Asn} (h : Hid (Sep W L w)) (lv : Value) (l : List Ext) (hl : ExtsAt (fun _ => True) w lv l) (hi : ∀ e ∈ l, I64 e.first ∧ I64 e.len) (n1 : l.length ≤ 40000) :
    Calls Try.prog 34 #[lv] w fun e w' => ∃ b1 b2 : Nat, e = .returned (.tuple #[.pointer (some ⟨b1, 0, none⟩), .pointer (some ⟨b2, 0, none⟩), .bool true]) ∧ Hid (Below w.heap.size w w') ∧
      Hid (Sep W (L ++ [SetA (.pointer (some ⟨b1, 0, none⟩)) 100 (setOf l), RSetA (.pointer (some ⟨b2, 0, none⟩)) 100 (raddNext 100 [] l)]) w') := by
  obtain ⟨p, c, rfl⟩ := extsAt_shape hl
  have hrr := add_radd l
  have HL := Lib.hid hl
  have HI := Lib.hid hi
  have HRR := Lib.hid hrr
  clear hl hi hrr
  go_enter Try.func34, Try.ntmps34
  go_wp2_with fail
  refine (setNew_sep (Sep.start w) 100).mono ?_
  rintro e w1 ⟨b1, rfl, HS1⟩
  have hS2 := HS1.out.new (below_alloc w1 (.cells #[.int .i64 100, .slice none 0 0] 72)) (RSetA (.pointer (some ⟨w1.heap.size, 0, none⟩)) 100 []) (F := New w1 (w1.alloc (.cells #[.int .i64 100, .slice none 0 0] 72))) (fun _ h => h) ⟨⟨w1.heap.size, .slice none 0 0, rfl, ⟨Nat.le_refl _, by simp⟩, heap_alloc_new w1 _, SlAt.nil⟩⟩
  have hl2 := ExtsAt.up HL.out hS2.old
  have HS2 := Lib.hid hS2
  have HL2 := Lib.hid hl2
  clear hS2 hl2
  go_wp2_with fail
  refine (setAdd_sep HS2.out 1 rfl l HL2.out SetG.nil (by simp) (by omega)).mono ?_
  rintro e w3 ⟨rfl, HS3⟩
  have hl3 := ExtsAt.up HL.out HS3.out.old
  have HL3 := Lib.hid hl3
  clear hl3
  go_wp2_with fail
  refine (refAdd_sep HS3.out 2 rfl l HL3.out HI.out SetG.nil (by unfold I64; omega) (by simp) n1).mono ?_
  rintro e w4 ⟨rfl, HS4⟩
  rw [HRR.out]
  have hfin := h.out.append HS4.out
  have hold := HS4.out.old
  have HFIN := Lib.hid hfin
  have HOLD := Lib.hid hold
  clear hfin hold
  go_wp2
  go_ret3
  exact ⟨b1, w1.heap.size, rfl, HOLD.out, HFIN.out⟩
theorem check_sep {W w : World} {L : List Asn} (h : Hid (Sep W L w)) (im ir iw : Nat) {mv qv rv wv : Value} {blocks last m1 m2 : Int} {vs : Vers} {r l : List Ext} {queue : List Tx} {G : Nat → Prop} (t : Int)
    (hm : L[im]? = some (ExtA mv blocks last vs)) (hr : L[ir]? = some (SetA rv m1 r)) (hl : L[iw]? = some (SetA wv m2 l)) (h1 : 1 ≤ blocks) (hb : blocks ≤ 1048576) (hg : GoodE blocks last vs) (hG : Dom G w) (hq : TxsAt G w qv queue) (gr : SetG r) (gl : SetG l) (nr : r.length ≤ 1000000) (nl : l.length ≤ 1000000) :
    Calls Try.prog 35 #[mv, qv, .int .i64 t, rv, wv] w fun e w' => e = .returned (.int .i64 (checkCode vs queue t r l)) ∧ Hid (Below w.heap.size w w') ∧ Hid (Sep W L w') := by
  obtain ⟨F1, f1, _⟩ := h.out.get im hm
  obtain ⟨F2, f2, _⟩ := h.out.get ir hr
  obtain ⟨F3, f3, _⟩ := h.out.get iw hl
  refine (check_any F1 F2 F3 G mv qv rv wv blocks last t m1 m2 vs queue r l w f1 h1 hg hb hG hq f2 f3 gr gl nr nl).mono ?_
  rintro e w' ⟨rfl, hb⟩
  exact ⟨rfl, hb, h.out.up hb⟩
theorem txs_nil {w : World} : TxsAt (fun _ => False) w (.slice none 0 0) [] := SlAt.nil
theorem set_one1 {a n : Int} (h : 0 ≤ a ∧ a ≤ 1000000 ∧ 1 ≤ n ∧ n ≤ 1000) : setOf [⟨a, n⟩] = [⟨a, n⟩] := by
  have ha : allB [⟨a, n⟩] = true := by
    unfold allB
    simp only [List.all_cons, List.all_nil, Bool.and_true]
    exact mayB_iff.2 (by simp only; omega)
  obtain ⟨_, h2⟩ := addCode_is (most := 100) SetG.nil ha (by simp) (normE_ext (l := [] ++ [⟨a, n⟩]) (m := [⟨a, n⟩]) (by simpa using h.2.2.1) (Canon.mk1 h.2.2.1) fun _ => Iff.rfl)
  exact h2.trans (if_neg (by simp))
theorem nil_set : setOf [] = [] := by
  unfold setOf addNext
  split
  · rw [List.nil_append, normE_nil]
  · rfl

set_option maxRecDepth 100000 in
set_option maxHeartbeats 3000000 in
theorem awake16 (w : World) : Calls Try.prog 32 #[] w fun e w' => e = .returned (.bool true) ∧ Below w.heap.size w w' := by
  have hcd : applyCode 5 0 ⟨3, [⟨1, dataB 1⟩]⟩ = 0 := by decide +kernel
  have hvs : applyNext 5 0 [] ⟨3, [⟨1, dataB 1⟩]⟩ = [(1, [⟨3, dataB 1⟩])] := by unfold applyNext; rw [if_pos hcd]; rfl
  have hls : applyLast 5 0 ⟨3, [⟨1, dataB 1⟩]⟩ = 3 := by unfold applyLast; rw [if_pos hcd]
  have hg0 : GoodE 5 0 [] := ⟨List.nodup_nil, by simp, fun k l h => by simp [alook] at h, by omega⟩
  have hgood := hg0.next ⟨3, [⟨1, dataB 1⟩]⟩
  rw [hls, hvs] at hgood
  have hc1 : checkCode [(1, [⟨3, dataB 1⟩])] [] 2 [⟨1, 1⟩] [⟨2, 1⟩] = 8 := by decide +kernel
  have hc2 : checkCode [(1, [⟨3, dataB 1⟩])] [] 3 [⟨1, 1⟩] [⟨2, 1⟩] = 0 := by decide +kernel
  have hc3 : checkCode [(1, [⟨3, dataB 1⟩])] [] 2 [⟨1, 1⟩] [] = 0 := by decide +kernel
  have hqa : setOf [⟨1, 1⟩] = [⟨1, 1⟩] := set_one1 (by omega)
  have hqb : setOf [⟨2, 1⟩] = [⟨2, 1⟩] := set_one1 (by omega)
  have hqc := nil_set
  have hq1 := setOf_good [⟨1, 1⟩]
  have hq2 := setOf_good [⟨2, 1⟩]
  have hq3 := setOf_good []
  rw [hqa] at hq1
  rw [hqb] at hq2
  rw [hqc] at hq3
  have HCD := Lib.hid hcd
  have HVS := Lib.hid hvs
  have HLS := Lib.hid hls
  have HGOOD := Lib.hid hgood
  have HC1 := Lib.hid hc1
  have HC2 := Lib.hid hc2
  have HC3 := Lib.hid hc3
  have HQA := Lib.hid hqa
  have HQB := Lib.hid hqb
  have HQC := Lib.hid hqc
  have HQ1 := Lib.hid hq1
  have HQ2 := Lib.hid hq2
  have HQ3 := Lib.hid hq3
  clear hcd hvs hls hgood hc1 hc2 hc3 hqa hqb hqc hq1 hq2 hq3
  clear hg0
  go_enter Try.func32, Try.ntmps32
  go_wp2_with fail
  refine (extNew_sep (Sep.start w) 5 (by omega) (by omega)).mono ?_
  rintro e w1 ⟨b, rfl, hS1⟩
  have HS1 := Lib.hid hS1
  clear hS1
  go_wp2_with fail
  refine (data_any 1 _).mono ?_
  rintro e w2 ⟨dv, rfl, hd, hb2⟩
  obtain ⟨dp, dc, rfl⟩ := shape_of hd (data_sz 1)
  have HD := Lib.hid hd
  have HB2 := Lib.hid hb2
  clear hd hb2
  go_wp2_with fail
  have hp := putsAt_one (n := 1) (by unfold I64; omega) HD.out HB2.out.size 61
  have hb13 : Below w1.heap.size w1 (w2.alloc (.cells #[.int .i64 1, .slice dp 40 dc] 61)) := Below.up HB2.out (below_alloc _ _)
  have hS3 := HS1.out.new hb13 ⟨fun F w => PutsAt F w (.slice (some ⟨w2.heap.size, 0, none⟩) 1 1) [⟨1, dataB 1⟩], fun _ _ _ hs _ h => h.same hs⟩ (F := New w1 (w2.alloc (.cells #[.int .i64 1, .slice dp 40 dc] 61))) (fun _ h => h) hp
  refine (extApply_sep hS3 1 rfl (by omega) ⟨3, [⟨1, dataB 1⟩]⟩ (fun G hG => ?_) (fun k l h => by simp [alook] at h) (by simp)).mono ?_
  · obtain ⟨F, hF, hpp⟩ := hG 2 _ (by decide) rfl
    exact ⟨_, rfl, by unfold I64; simp only; omega, PutsAt.mono hpp hF⟩
  rintro e w4 ⟨rfl, hS4⟩
  rw [HCD.out]
  rw [HVS.out, HLS.out] at hS4
  replace hS4 := hS4.take 2
  have HS4 := Lib.hid hS4
  clear hS4
  clear hS3 hp hb13
  go_wp2_with fail
  refine (sets_sep (h := HS4.out.up (below_alloc w4 _)) _ [⟨1, 1⟩] (exts_one w4 1 1 (i64_small (by omega)) (i64_small (by omega))) (fun e he => by rw [List.mem_singleton] at he; subst he; exact ⟨i64_small (by simp only; omega), i64_small (by simp only; omega)⟩) (by simp)).mono ?_
  rintro e w5 ⟨b1, c1, rfl, HB5, HS5⟩
  go_wp2_with fail
  refine (sets_sep (h := HS5.out.up (below_alloc w5 _)) _ [⟨2, 1⟩] (exts_one w5 2 1 (i64_small (by omega)) (i64_small (by omega))) (fun e he => by rw [List.mem_singleton] at he; subst he; exact ⟨i64_small (by simp only; omega), i64_small (by simp only; omega)⟩) (by simp)).mono ?_
  rintro e w6 ⟨b2, c2, rfl, HB6, HS6⟩
  go_wp2_with fail
  refine (sets_sep (h := HS6) _ [] SlAt.nil (fun e he => by cases he) (by simp)).mono ?_
  rintro e w7 ⟨b3, c3, rfl, HB7, HS7⟩
  have hS7 : Sep w [OldA w, ExtA (.pointer (some ⟨b, 0, none⟩)) 5 3 [(1, [⟨3, dataB 1⟩])], SetA (.pointer (some ⟨b1, 0, none⟩)) 100 [⟨1, 1⟩], RSetA (.pointer (some ⟨c1, 0, none⟩)) 100 (raddNext 100 [] [⟨1, 1⟩]), SetA (.pointer (some ⟨b2, 0, none⟩)) 100 [⟨2, 1⟩], RSetA (.pointer (some ⟨c2, 0, none⟩)) 100 (raddNext 100 [] [⟨2, 1⟩]), SetA (.pointer (some ⟨b3, 0, none⟩)) 100 [], RSetA (.pointer (some ⟨c3, 0, none⟩)) 100 (raddNext 100 [] [])] w7 := by
    have := HS7.out
    rw [HQA.out, HQB.out, HQC.out] at this
    exact this
  have HSX := Lib.hid hS7
  clear hS7 HS5 HS6 HS7
  go_wp2_with fail
  refine (check_sep HSX 1 2 4 2 rfl rfl rfl (by omega) (by omega) HGOOD.out (fun _ h => h.elim) txs_nil HQ1.out HQ2.out (by simp) (by simp)).mono ?_
  rintro e w8 ⟨rfl, HB8, HS8⟩
  rw [HC1.out]
  go_wp2_with fail
  refine (check_sep HS8 1 2 4 3 rfl rfl rfl (by omega) (by omega) HGOOD.out (fun _ h => h.elim) txs_nil HQ1.out HQ2.out (by simp) (by simp)).mono ?_
  rintro e w9 ⟨rfl, HB9, HS9⟩
  rw [HC2.out]
  go_wp2_with fail
  refine (check_sep HS9 1 2 6 2 rfl rfl rfl (by omega) (by omega) HGOOD.out (fun _ h => h.elim) txs_nil HQ1.out HQ3.out (by simp) (by simp)).mono ?_
  rintro e w10 ⟨rfl, HB10, HS10⟩
  rw [HC3.out]
  go_wp2_with fail
  go_ret
  exact ⟨rfl, HS10.out.old⟩
end Go.Proofs
