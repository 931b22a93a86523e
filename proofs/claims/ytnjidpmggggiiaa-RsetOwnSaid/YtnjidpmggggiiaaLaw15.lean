/- The laws of chapter 15: a world made anew; a read in it; what the document fixes. -/
import Derived.Test.YtnjidpmggggiiaaView3
import Derived.Test.YtnjidpmggggiiaaZoomN
import Derived.Test.YtnjidpmggggiiaaExtSep
import Derived.Test.YtnjidpmggggiiaaSepApp
namespace Go.Proofs
open Go.RowKit Sc

def ptr (b : Nat) : Value := .pointer (some ⟨b, 0, none⟩)
/-- A read, among other things. -/
theorem viewRead_sep {W w : World} {L : List Asn} (h : Hid (Sep W L w)) (im ib is iv : Nat) {m b sb v : Nat} {blocks last b2 most t : Int} {vs : Vers} {s : List (Int × Bytes)} {S : List Ext} {R : List Sc.Read} (hn : [im, ib, is, iv].Nodup)
    (hm : L[im]? = some (ExtA (.pointer (some ⟨m, 0, none⟩)) blocks last vs)) (hb : L[ib]? = some (BufA (.pointer (some ⟨b, 0, none⟩)) b2 most s)) (hs' : L[is]? = some (SetA (.pointer (some ⟨sb, 0, none⟩)) 64 S))
    (hv : L[iv]? = some (ViewA (.pointer (some ⟨v, 0, none⟩)) (.pointer (some ⟨m, 0, none⟩)) (.pointer (some ⟨b, 0, none⟩)) t (.pointer (some ⟨sb, 0, none⟩)) R))
    (hg : GoodE blocks last vs) (hbl : blocks ≤ 1048576) (hs : BufG b2 s) (hS : SetG S) (nS : S.length ≤ 50000) (nR : R.length ≤ 1000000) (e : Ext) (i1 : I64 e.first) (i2 : I64 e.len) :
    Calls Try.prog 14 #[.pointer (some ⟨v, 0, none⟩), .agg #[.int .i64 e.first, .int .i64 e.len]] w fun r w' =>
      (readCode blocks S e ≠ 0 ∧ r = .returned (.tuple #[.slice none 0 0, .int .i64 (readCode blocks S e)]) ∧ Hid (Sep W L w')) ∨
      (readCode blocks S e = 0 ∧ ∃ g o c, r = .returned (.tuple #[.slice (some ⟨g, o, none⟩) (40 * e.len.toNat) c, .int .i64 0]) ∧
        Hid (Sep W (setAll L [im, ib, is, iv] [ExtA (.pointer (some ⟨m, 0, none⟩)) blocks last vs, BufA (.pointer (some ⟨b, 0, none⟩)) b2 most s, SetA (.pointer (some ⟨sb, 0, none⟩)) 64 (addNext 64 S [e]), ViewA (.pointer (some ⟨v, 0, none⟩)) (.pointer (some ⟨m, 0, none⟩)) (.pointer (some ⟨b, 0, none⟩)) t (.pointer (some ⟨sb, 0, none⟩)) (R ++ readsV vs s t e.first e.len.toNat)] ++
          [BytesWA (.slice (some ⟨g, o, none⟩) (40 * e.len.toNat) c) (rowsF (fun i : Nat => blkV vs s t (e.first + i)) e.len.toNat)]) w')) := by
  have hA : ∀ j (hj : j < [im, ib, is, iv].length), L[[im, ib, is, iv][j]]? = some ([ExtA (.pointer (some ⟨m, 0, none⟩)) blocks last vs, BufA (.pointer (some ⟨b, 0, none⟩)) b2 most s, SetA (.pointer (some ⟨sb, 0, none⟩)) 64 S, ViewA (.pointer (some ⟨v, 0, none⟩)) (.pointer (some ⟨m, 0, none⟩)) (.pointer (some ⟨b, 0, none⟩)) t (.pointer (some ⟨sb, 0, none⟩)) R][j]'(by simpa using hj)) := by
    intro j hj
    simp only [List.length_cons, List.length_nil] at hj
    rcases (show j = 0 ∨ j = 1 ∨ j = 2 ∨ j = 3 by omega) with rfl | rfl | rfl | rfl
    · exact hm
    · exact hb
    · exact hs'
    · exact hv
  obtain ⟨Z, hZ, hback⟩ := h.out.zoomN [im, ib, is, iv] [ExtA (.pointer (some ⟨m, 0, none⟩)) blocks last vs, BufA (.pointer (some ⟨b, 0, none⟩)) b2 most s, SetA (.pointer (some ⟨sb, 0, none⟩)) 64 S, ViewA (.pointer (some ⟨v, 0, none⟩)) (.pointer (some ⟨m, 0, none⟩)) (.pointer (some ⟨b, 0, none⟩)) t (.pointer (some ⟨sb, 0, none⟩)) R] hn rfl hA
  refine (viewRead_core (h := hZ) hg hbl hs hS nS nR e i1 i2).mono ?_
  rintro r w' (⟨h1, h2, h3⟩ | ⟨h1, g, o, c, h2, h3⟩)
  · refine .inl ⟨h1, h2, ?_⟩
    have := hback w' [ExtA (.pointer (some ⟨m, 0, none⟩)) blocks last vs, BufA (.pointer (some ⟨b, 0, none⟩)) b2 most s, SetA (.pointer (some ⟨sb, 0, none⟩)) 64 S, ViewA (.pointer (some ⟨v, 0, none⟩)) (.pointer (some ⟨m, 0, none⟩)) (.pointer (some ⟨b, 0, none⟩)) t (.pointer (some ⟨sb, 0, none⟩)) R] [] rfl h3.out
    rw [List.append_nil, setAll_self hn rfl hA] at this
    exact this
  · exact .inr ⟨h1, g, o, c, h2, hback w' [_, _, _, _] [_] rfl h3.out⟩

def freshL (n t : Int) (m b s v x y z q : Nat) : List Asn := [ExtA (.pointer (some ⟨m, 0, none⟩)) n 0 [], BufA (.pointer (some ⟨b, 0, none⟩)) n 16 [],
  BoxA x #[.int .i64 n, .slice none 0 0, .int .i64 0] 127, BoxA y #[.int .i64 n, .int .i64 16, .slice none 0 0] 124,
  SetA (.pointer (some ⟨s, 0, none⟩)) 64 [], ViewA (.pointer (some ⟨v, 0, none⟩)) (.pointer (some ⟨m, 0, none⟩)) (.pointer (some ⟨b, 0, none⟩)) t (.pointer (some ⟨s, 0, none⟩)) [],
  BoxA z #[.pointer (some ⟨x, 0, none⟩), .pointer (some ⟨y, 0, none⟩), .int .i64 t, .int .i64 64, .slice none 0 0, .slice none 0 0] 74,
  BoxA q #[.pointer (some ⟨m, 0, none⟩), .pointer (some ⟨b, 0, none⟩), .pointer (some ⟨v, 0, none⟩), .pointer (some ⟨x, 0, none⟩), .pointer (some ⟨y, 0, none⟩), .pointer (some ⟨z, 0, none⟩)] 36]
theorem Sep.box {W w : World} {L : List Asn} (h : Sep W L w) (cs : Array Value) (T : TypeId) : Sep W (L ++ [BoxA w.heap.size cs T]) (w.alloc (.cells cs T (0, 0))) :=
  h.new (below_alloc w _) (BoxA w.heap.size cs T) (F := New w (w.alloc (.cells cs T (0, 0)))) (fun _ h => h) ⟨⟨Nat.le_refl _, by simp⟩, heap_alloc_new w _⟩
theorem refMapNew_sep {W w : World} {L : List Asn} (h : Hid (Sep W L w)) (n : Int) (h1 : 1 ≤ n) (h2 : n ≤ 1048576) : Calls Try.prog 40 #[.int .i64 n] w fun e w' => ∃ x : Nat, e = .returned (.tuple #[.pointer (some ⟨x, 0, none⟩), .int .i64 0]) ∧ Hid (Sep W (L ++ [BoxA x #[.int .i64 n, .slice none 0 0, .int .i64 0] 127]) w') := by
  have hS := Go.Proofs.Sep.box h.out #[.int .i64 n, .slice none 0 0, .int .i64 0] 127
  have HS := Lib.hid hS
  clear hS
  go_enter Try.func40, Try.ntmps40
  go_wp2
  go_ret2
  exact ⟨w.heap.size, rfl, HS.out⟩
theorem refBufNew_sep {W w : World} {L : List Asn} (h : Hid (Sep W L w)) (n m : Int) (h1 : 1 ≤ n) (h2 : n ≤ 1048576) (h3 : 0 ≤ m) : Calls Try.prog 41 #[.int .i64 n, .int .i64 m] w fun e w' => ∃ x : Nat, e = .returned (.tuple #[.pointer (some ⟨x, 0, none⟩), .int .i64 0]) ∧ Hid (Sep W (L ++ [BoxA x #[.int .i64 n, .int .i64 m, .slice none 0 0] 124]) w') := by
  have hS := Go.Proofs.Sep.box h.out #[.int .i64 n, .int .i64 m, .slice none 0 0] 124
  have HS := Lib.hid hS
  clear hS
  go_enter Try.func41, Try.ntmps41
  go_wp2
  go_ret2
  exact ⟨w.heap.size, rfl, HS.out⟩
theorem refViewNew_sep {W w : World} {L : List Asn} (h : Hid (Sep W L w)) (x y : Nat) (t : Int) : Calls Try.prog 42 #[.pointer (some ⟨x, 0, none⟩), .pointer (some ⟨y, 0, none⟩), .int .i64 t] w fun e w' => ∃ z : Nat, e = .returned (.pointer (some ⟨z, 0, none⟩)) ∧ Hid (Sep W (L ++ [BoxA z #[.pointer (some ⟨x, 0, none⟩), .pointer (some ⟨y, 0, none⟩), .int .i64 t, .int .i64 64, .slice none 0 0, .slice none 0 0] 74]) w') := by
  have hS := Go.Proofs.Sep.box h.out #[.pointer (some ⟨x, 0, none⟩), .pointer (some ⟨y, 0, none⟩), .int .i64 t, .int .i64 64, .slice none 0 0, .slice none 0 0] 74
  have HS := Lib.hid hS
  clear hS
  go_enter Try.func42, Try.ntmps42
  go_wp2
  go_ret
  exact ⟨w.heap.size, rfl, HS.out⟩

set_option maxRecDepth 100000 in
set_option maxHeartbeats 2000000 in
theorem fresh_any (n t : Int) (w : World) (h1 : 1 ≤ n) (h2 : n ≤ 1048576) : Calls Try.prog 13 #[.int .i64 n, .int .i64 t] w fun e w' => ∃ m b s v x y z q : Nat, e = .returned (.tuple #[.pointer (some ⟨q, 0, none⟩), .bool true]) ∧ Hid (Sep w (OldA w :: freshL n t m b s v x y z q) w') := by
  go_enter Try.func13, Try.ntmps13
  go_wp2_with fail
  refine (extNew_sep (Sep.start w) n h1 h2).mono ?_
  rintro e w1 ⟨m, rfl, hS1⟩
  have HS1 := Lib.hid hS1
  clear hS1
  go_wp2_with fail
  refine (bufNew_sep HS1.out n 16 h1 h2 (by omega)).mono ?_
  rintro e w2 ⟨b, rfl, HS2⟩
  go_wp2_with fail
  refine (refMapNew_sep HS2 n h1 h2).mono ?_
  rintro e w3 ⟨x, rfl, HS3⟩
  go_wp2_with fail
  refine (refBufNew_sep HS3 n 16 h1 h2 (by omega)).mono ?_
  rintro e w4 ⟨y, rfl, HS4⟩
  go_wp2_with fail
  refine (viewNew_sep HS4.out m b t).mono ?_
  rintro e w5 ⟨s, v, rfl, HB5, HS5⟩
  go_wp2_with fail
  refine (refViewNew_sep HS5 x y t).mono ?_
  rintro e w6 ⟨z, rfl, HS6⟩
  have hS7 := Go.Proofs.Sep.box HS6.out #[.pointer (some ⟨m, 0, none⟩), .pointer (some ⟨b, 0, none⟩), .pointer (some ⟨v, 0, none⟩), .pointer (some ⟨x, 0, none⟩), .pointer (some ⟨y, 0, none⟩), .pointer (some ⟨z, 0, none⟩)] 36
  have hc2 : (w6.alloc (.cells #[.pointer (some ⟨m, 0, none⟩), .pointer (some ⟨b, 0, none⟩), .pointer (some ⟨v, 0, none⟩), .pointer (some ⟨x, 0, none⟩), .pointer (some ⟨y, 0, none⟩), .pointer (some ⟨z, 0, none⟩)] 36)).cell? ⟨w6.heap.size, 2, none⟩ = some (.pointer (some ⟨v, 0, none⟩)) := by rw [cell_row (heap_alloc_new w6 _)]; rfl
  have HS7 := Lib.hid hS7
  clear hS7
  go_wp2_with fail
  go_quiet (fail)
  have hS8 := HS7.out.up (below_drewN (Below.refl _ _) nq)
  have HS8 := Lib.hid hS8
  clear hS8
  go_wp2_with fail
  go_ret2
  exact ⟨m, b, s, v, x, y, z, w6.heap.size, rfl, HS8.out⟩
/-- Where a world's parts lie, read of the box. -/
theorem fresh_cells {W w : World} {L : List Asn} (h : Sep W L w) (i : Nat) {q : Nat} {cs : Array Value} {T : TypeId} (hi : L[i]? = some (BoxA q cs T)) (j : Nat) (hj : j < cs.size) : w.cell? ⟨q, j, none⟩ = some cs[j] := by
  obtain ⟨F, hF, _⟩ := h.get i hi
  rw [cell_row hF.2]
  exact Array.getElem?_eq_getElem hj
theorem good_zero (n : Int) : GoodE n 0 [] := ⟨List.nodup_nil, by simp, fun k l h => by simp [alook] at h, by omega⟩

set_option maxRecDepth 100000 in
set_option maxHeartbeats 3000000 in
theorem awake15 (w : World) : Calls Try.prog 12 #[] w fun e w' => e = .returned (.bool true) ∧ Below w.heap.size w w' := by
  have hc2 : bufCode 5 16 [] [⟨2, dataB 7⟩] = 0 := by decide +kernel
  have hn2 : bufNext 5 16 [] [⟨2, dataB 7⟩] = [(2, dataB 7)] := by unfold bufNext; rw [if_pos hc2]; rfl
  have hg2 : BufG 5 [(2, dataB 7)] := by rw [← hn2]; exact (BufG.start 5).next _
  have hrc : readCode 5 [] ⟨1, 2⟩ = 0 := by
    have ha : addCode 64 [] [⟨1, 2⟩] = 0 := by
      obtain ⟨h1, _⟩ := addCode_is (most := 64) SetG.nil (l := [⟨1, 2⟩]) (by decide) (by simp) (normE_ext (l := [] ++ [⟨1, 2⟩]) (m := [⟨1, 2⟩]) (by simp) (Canon.mk1 (by simp)) fun _ => Iff.rfl)
      exact h1.trans (by simp)
    unfold readCode
    rw [if_neg (by simp only; omega), if_neg (by decide), if_neg (by rw [ha]; decide)]
  have HC2 := Lib.hid hc2
  have HN2 := Lib.hid hn2
  have HG2 := Lib.hid hg2
  have HRC := Lib.hid hrc
  clear hc2 hn2 hg2 hrc
  go_enter Try.func12, Try.ntmps12
  go_wp2_with fail
  refine (fresh_any 5 0 w (by omega) (by omega)).mono ?_
  rintro e w1 ⟨m, b, s, v, x, y, z, q, rfl, HS1⟩
  have hqb := fresh_cells HS1.out 8 rfl 1 (by simp)
  simp only [List.getElem_toArray, List.getElem_cons_succ, List.getElem_cons_zero] at hqb
  have hS1d := HS1.out.up (w' := w1.drew) (below_drewN (Below.refl _ _) 1)
  have HS1D := Lib.hid hS1d
  clear hS1d
  go_wp2_with fail
  go_region_held3 (fun W' => W'.cell? ⟨q, 1, none⟩ = some (.pointer (some ⟨b, 0, none⟩)))
    (first | exact hqb | exact hq2 | exact cell_up (below_alloc w2 _) hq2 | exact hq3 | go_keep)
    ((first
      | (go_at_call 24
         refine (data_any 7 _).mono ?_
         rintro e w2 ⟨dv, rfl, hd, hb2⟩
         obtain ⟨dp, dc, rfl⟩ := shape_of hd (dataB_length 7)
         have hS2 := HS1D.out.new hb2 (ByA (.slice dp 40 dc) (dataB 7)) (fun _ h => h) hd
         have HS2 := Lib.hid hS2
         have hq2 : w2.cell? ⟨q, 1, none⟩ = some (.pointer (some ⟨b, 0, none⟩)) := cell_up hb2 hqb
         clear hS2 hd hb2)
      | (go_at_call 25
         refine (bufWrite_one HS2 2 9 (by decide) rfl rfl 2 (i64_small (by omega)) _ rfl (by simp)).mono ?_
         rintro e w3 ⟨rfl, HS3⟩
         rw [HC2.out]
         rw [HN2.out] at HS3
         have hq3 : w3.cell? ⟨q, 1, none⟩ = some (.pointer (some ⟨b, 0, none⟩)) := fresh_cells HS3.out 8 rfl 1 (by simp))))
  all_goals
    have hqv : w3.cell? ⟨q, 2, none⟩ = some (.pointer (some ⟨v, 0, none⟩)) := fresh_cells HS3.out 8 rfl 2 (by simp)
    go_wp2_with fail
    refine (viewRead_sep HS3 1 2 5 6 (by decide) rfl rfl rfl rfl (good_zero 5) (by omega) HG2.out SetG.nil (by simp) (by simp) ⟨1, 2⟩ (i64_small (by simp only; omega)) (i64_small (by simp only; omega))).mono ?_
    rintro r w4 (⟨hno, _⟩ | ⟨_, g, o, c, rfl, HS4⟩)
    · exact absurd HRC.out hno
    rw [show (40 * (⟨1, 2⟩ : Ext).len.toNat) = 80 from rfl]
    have hrow : rowsF (fun i : Nat => blkV [] [(2, dataB 7)] 0 ((⟨1, 2⟩ : Ext).first + i)) (⟨1, 2⟩ : Ext).len.toNat = zeroB ++ dataB 7 := by
      show rowsF _ 2 = _
      rw [rowsF_succ, rowsF_succ]
      rfl
    obtain ⟨FO, hFO, _⟩ := HS4.out.get 10 rfl
    have hO : BytesW FO w4 (.slice (some ⟨g, o, none⟩) 80 c) (zeroB ++ dataB 7) := by
      have : BytesW FO w4 (.slice (some ⟨g, o, none⟩) 80 c) (rowsF (fun i : Nat => blkV [] [(2, dataB 7)] 0 ((⟨1, 2⟩ : Ext).first + i)) (⟨1, 2⟩ : Ext).len.toNat) := hFO
      rw [hrow] at this
      exact this
    have hc0 : w4.cell? ⟨g, o, none⟩ = some (.int .u8 0) := by
      obtain ⟨p', c', hv, _, _, _, h4⟩ := hO
      cases hv
      obtain ⟨b', o', hp, _, hc, _⟩ := h4 0 (by simp [dataB_length])
      cases hp
      exact hc
    have hcap : 80 ≤ c := by
      obtain ⟨p', c', hv, h1, _⟩ := hO
      cases hv
      have : (zeroB ++ dataB 7).length = 80 := by rw [List.length_append, dataB_length]; rfl
      omega
    have hsub := bytesW_sub hO (i := 40) (r := dataB 7) (by rw [List.length_append, dataB_length]; decide) (fun j hj => by rw [List.getElem?_append_right (by show 40 ≤ 40 + j; omega)]; congr 1; show 40 + j - 40 = j; omega)
    rw [dataB_length] at hsub
    have hsd := BytesAt.up hsub (below_drewN (Below.refl w4.heap.size w4) 1)
    have hcn : ¬ c = 40 := by omega
    have hS4d := HS4.out.up (w' := w4.drew) (below_drewN (Below.refl _ _) 1)
    have HS4D := Lib.hid hS4d
    have HSD := Lib.hid hsd
    clear hS4d hsd
    clear hO hsub hFO hrow hq3 hqv
    go_wp2_with fail
    go_region_held3 (fun W' => W'.cell? ⟨g, o, none⟩ = some (.int .u8 0))
      (first | exact hc0 | exact cell_up HB5.out hc0 | exact cell_up HB6.out hc0 | go_keep)
      ((first
        | (go_at_call 24
           refine (data_any 7 _).mono ?_
           rintro e w5 ⟨dv5, rfl, hd5, hb5⟩
           have HB5 : Hid (Below w4.heap.size w4 w5) := (below_drewN (Below.refl w4.heap.size w4) 1).trans hb5
           have HS5 := Lib.hid (HS4D.out.up hb5)
           have HD5 := Lib.hid hd5
           have HSD5 := Lib.hid (BytesAt.up HSD.out hb5)
           clear hd5 hb5)
        | (go_at_call 18
           refine (bytes_any (fun _ => True) _ _ (dataB 7) (dataB 7) _ (BytesAt.mono HSD5.out fun _ _ => trivial) (BytesAt.mono HD5.out fun _ _ => trivial)).mono ?_
           rintro e w6 ⟨rfl, hb6⟩
           rw [show (dataB 7 == dataB 7) = true by simp]
           have HB6 : Hid (Below w4.heap.size w4 w6) := Below.up HB5.out hb6
           have HS6 := Lib.hid (HS5.out.up hb6)
           clear hb6)))
    all_goals
      go_wp2_with fail
      go_ret
      exact ⟨rfl, HS6.out.old⟩
end Go.Proofs
