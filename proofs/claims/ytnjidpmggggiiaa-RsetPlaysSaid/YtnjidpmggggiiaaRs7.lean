/- Texts of this claim, one behind the other: ViewReads, RefView3, ExtSep, SepApp, Read15, Law15, Evens, Fed15, ViewSet, ExtsEq, Plays15S. -/
import Derived.BigQuiet
import Derived.Test.YtnjidpmggggiiaaRs6

/- Package rset: Reads of a View, anew; Set and At. -/
namespace Go.Proofs
open Go.RowKit Sc

theorem OutS.readsAt {T : Nat} {B : Nat} {w : World} {v : Value} {l : List Sc.Read} {D : Nat → Prop} {G : Nat → Prop} (h : OutS T 3 readR B w v l D) (hG : ∀ b, B ≤ b → b < w.heap.size → G b) : ReadsAt G w v l := by
  have hD : ∀ b, D b → G b := by obtain ⟨_, _, _, _, _, h5⟩ := h; exact fun b hb => hG b (h5 b hb).1 (h5 b hb).2.1
  refine h.slAt hG fun b o cs x hl hc _ ⟨dv, he, hi, hd⟩ => ?_
  subst he
  exact ⟨hc 0 (by omega), hi, ⟨dv, hc 1 (by omega), hd.mono hD⟩, hc 2 (by omega)⟩

theorem below_set {B b i : Nat} (w : World) (v : Value) (hb : B ≤ b) : Below B w (w.setCell ⟨b, i, none⟩ v) :=
  ⟨by simp [World.setCell], by simp [World.setCell], by simp [World.setCell], by simp [World.setCell], fun k hk => Below.heap_setCell _ _ _ k (show k ≠ b by omega)⟩
set_option maxRecDepth 100000 in
set_option maxHeartbeats 2000000 in
theorem viewReads_any {b : Nat} {mp bp sp rv : Value} {t : Int} {R : List Sc.Read} {G : Nat → Prop} (w : World) (hh : w.heap[b]? = some (.cells #[mp, bp, .int .i64 t, sp, rv] 98 (0, 0))) (hr : ReadsAt G w rv R) (hd : ∀ x ∈ R, x.data.length ≤ 1000) (hR : R.length ≤ 1000000) :
    Calls Try.prog 21 #[.pointer (some ⟨b, 0, none⟩)] w fun e w' => ∃ p c, e = .returned (.slice p R.length c) ∧ Hid (ReadsAt (New w w') w' (.slice p R.length c) R) ∧ Hid (Below w.heap.size w w') := by
  obtain ⟨rp, rc, rfl, h1, h2, h3, h4⟩ := hr
  have hc4 : w.cell? ⟨b, 4, none⟩ = some (.slice rp R.length rc) := by rw [cell_row hh]; rfl
  obtain ⟨ir, hr0, hr1, hr2, hr3⟩ := info_parts infoRead
  have H4 := Lib.hid h4
  have HH := Lib.hid hh
  have HD := Lib.hid hd
  have HR := Lib.hid hR
  clear h4 hh hd hR
  clear h1 h2 h3
  go_enter Try.func21, Try.ntmps21
  go_wp2_with fail
  go_loopw [2, 12] (fun out i wr => ∃ k : Nat, ∃ p c D, k ≤ R.length ∧ i = .int .i64 k ∧ out = .slice p k c ∧ Hid (OutS 64 3 readR w.heap.size wr (.slice p k c) (R.take k) D) ∧ Hid (Below w.heap.size w wr)) (fun _ i _ => R.length - (intOf i).toNat)
  case atStart => exact ⟨0, _, _, _, by omega, rfl, rfl, Lib.hid (by rw [List.take_zero]; exact OutS.nil), Lib.hid (Below.refl _ _)⟩
  case round =>
    obtain ⟨k, op, oc, D, hk, rfl, rfl, HO, HB⟩ := hrel
    by_cases hlt : k < R.length
    case pos =>
      obtain ⟨g, o, rfl, _, hx1, hxi, ⟨dv, hx2, hxd⟩, hx3⟩ := H4.out k hlt
      have htk : R.take (k + 1) = R.take k ++ [R[k]] := take_snoc _ _ hlt
      have hdl : R[k].data.length ≤ 1000 := HD.out _ (List.getElem_mem hlt)
      have hy1 := cell_up HB.out hx1
      have hy2 := cell_up HB.out hx2
      have hy3 := cell_up HB.out hx3
      obtain ⟨dp, dc, rfl⟩ := shape_of hxd rfl
      generalize R[k] = x at *
      have HTK := Lib.hid htk
      have HDL := Lib.hid hdl
      have HXD := Lib.hid hxd
      have HXI := Lib.hid hxi
      clear htk hdl hxd hxi
      clear hx1 hx2 hx3
      go_wp2_with fail
      have hbA := below_alloc wr (.cells #[.int .i64 x.lba, .slice dp x.data.length dc, .bool x.own] 64)
      have hzA : (wr.alloc (.cells #[.int .i64 x.lba, .slice dp x.data.length dc, .bool x.own] 64)).heap.size = wr.heap.size + 1 := by simp
      have hhA := heap_alloc_new wr (.cells #[.int .i64 x.lba, .slice dp x.data.length dc, .bool x.own] 64)
      have hcl := clone_any G _ x.data (wr.alloc (.cells #[.int .i64 x.lba, .slice dp x.data.length dc, .bool x.own] 64)) (BytesAt.up (BytesAt.up HXD.out HB.out) hbA) (by have := HDL.out; omega)
      refine hcl.mono ?_
      rintro e w3 ⟨nv, rfl, hnd, hb3⟩
      obtain ⟨np, nc, rfl⟩ := shape_of hnd rfl
      have hh3 := (hb3.block wr.heap.size (by omega)).trans hhA
      have hB3 : Below wr.heap.size wr w3 := Below.up hbA hb3
      generalize hwA : wr.alloc (.cells #[.int .i64 x.lba, .slice dp x.data.length dc, .bool x.own] 64) = wA at *
      have hq0 : w3.cell? ⟨wr.heap.size, 0, none⟩ = some (.int .i64 x.lba) := by rw [cell_row hh3]; rfl
      have hq1 : w3.cell? ⟨wr.heap.size, 1, none⟩ = some (.slice dp x.data.length dc) := by rw [cell_row hh3]; rfl
      have hq2 : w3.cell? ⟨wr.heap.size, 2, none⟩ = some (.bool x.own) := by rw [cell_row hh3]; rfl
      have hqz : w3.frozen? ⟨wr.heap.size, 1, none⟩ = false := fz_row hh3 1
      have hB4 : Below wr.heap.size wr (w3.setCell ⟨wr.heap.size, 1, none⟩ (.slice np x.data.length nc)) := hB3.trans (below_set w3 _ (Nat.le_refl _))
      have hz4 : (w3.setCell ⟨wr.heap.size, 1, none⟩ (.slice np x.data.length nc)).heap.size = w3.heap.size := by simp [World.setCell]
      have hn4 : BytesAt (New wA w3) (w3.setCell ⟨wr.heap.size, 1, none⟩ (.slice np x.data.length nc)) (.slice np x.data.length nc) x.data := BytesAt.same hnd fun q hq => Below.heap_setCell _ _ _ q (show q ≠ wr.heap.size by have := hq.1; omega)
      have hlk : (R.take k).length = k := by rw [List.length_take]; omega
      have hb5 := below_alloc (w3.setCell ⟨wr.heap.size, 1, none⟩ (.slice np x.data.length nc)) (.cells #[.int .i64 x.lba, .slice np x.data.length nc, .bool x.own] 64)
      obtain ⟨css, q1, q2, q3, q4, q5⟩ := HO.out.up readR_stable (Below.up hB4 (hb5.mono (by omega)))
      rw [hlk] at q3
      have hown0 := q3.lt
      have HQ1 := Lib.hid q1
      have HQ2 := Lib.hid q2
      have HQ4 := Lib.hid q4
      have HQ5 := Lib.hid q5
      have HN4 := Lib.hid hn4
      have HB4 := Lib.hid hB4
      have HLK := Lib.hid hlk
      have HB5 := Lib.hid hb5
      have HWA := Lib.hid hwA
      have HOWN0 := Lib.hid hown0
      have HZ4 := Lib.hid hz4
      have HZA := Lib.hid hzA
      clear q1 q2 q4 q5 hn4 hB4 hlk hb5 hwA hown0 hz4 hzA
      clear hcl hnd hb3 hB3 hhA hbA hh3
      have hkR := HR.out
      go_wp2_with (at_builtin; (refine wpList_append_lies _ rfl _ _ 55 rfl w.heap.size 64 ir (.agg #[.int .i64 0, .slice none 0 0, .bool false]) 3 40 Try.underlying55 hr0 hr1 hr2 hr3 rfl (by decide) _ k css.flatten rfl q3 ⟨w3.heap.size, 0, none⟩ 1 1 [.int .i64 x.lba, .slice np x.data.length nc, .bool x.own] rfl rfl (World.news_of_block (cs := #[.int .i64 x.lba, .slice np x.data.length nc, .bool x.own]) (by rw [← HZ4.out]; exact heap_alloc_new _ _)) (by simp [Value.oneCell']) (by decide) (by unfold maxLen; omega) (by omega) (by have := HB.out.size; have := HB4.out.size; have := HZ4.out; simp; omega) (w3.heap.size + 1) (by simp [World.setCell]) ?_); intro gg cap w6 hown6 hgrow6 hat6 hlt6)
      go_roundw
      case rel =>
        refine ⟨k + 1, _, _, fun b => D b ∨ New wA w3 b, by omega, by go_num, rfl, ?_, ?_⟩
        · have hs : OutS 64 3 readR w.heap.size w6 (.slice (some ⟨gg, 0, none⟩) ((R.take k).length + 1) cap) (R.take k ++ [x]) (fun b => D b ∨ New wA w3 b) := by
            refine OutS.snoc (v := .slice op k oc) (D3 := New wA w3) readR_stable HQ1.out HQ2.out HQ4.out HQ5.out (cs := [.int .i64 x.lba, .slice np x.data.length nc, .bool x.own]) (x := x) rfl ⟨_, rfl, HXI.out, HN4.out.up (below_alloc _ _)⟩ (fun q hq => ?_) (by rw [HLK.out]; exact hown6) hgrow6 (hat6.imp id fun h => by rw [h]; simp [World.setCell])
            have h1 := hq.1
            have h2 := hq.2
            have h3 := HB.out.size
            have h4 := HZA.out
            refine ⟨by omega, by simp [World.setCell]; omega, fun e => ?_⟩
            have h5 := (HO.out.own).choose_spec.lt q e
            omega
          rw [HLK.out] at hs
          unfold Hid
          rw [HTK.out]
          exact hs
        · have hb6 := Below.up HB.out (Below.up HB4.out (HB5.out.mono (by have := HB4.out.size; omega)))
          exact hb6.grown hgrow6 (by have := HB.out.size; have := HB4.out.size; have := HZ4.out; simp; omega) (fun q hq => (HOWN0.out q hq).1)
      case measure => simp [intOf]; omega
    case neg =>
      obtain rfl : k = R.length := by omega
      have hOr := HO.out
      rw [List.take_length] at hOr
      have hfin : ReadsAt (New w wr) wr (.slice op R.length oc) R := OutS.readsAt hOr fun q h1 h2 => ⟨h1, h2⟩
      have HFIN := Lib.hid hfin
      clear hfin
      clear hOr
      go_wp2_with fail
      go_ret
      exact ⟨op, oc, rfl, HFIN, HB⟩
theorem viewReads_sep {W w : World} {L : List Asn} (h : Hid (Sep W L w)) (i : Nat) {v : Nat} {mp bp sp : Value} {t : Int} {R : List Sc.Read} (hi : L[i]? = some (ViewA (.pointer (some ⟨v, 0, none⟩)) mp bp t sp R)) (hd : ∀ x ∈ R, x.data.length ≤ 1000) (hR : R.length ≤ 1000000) :
    Calls Try.prog 21 #[.pointer (some ⟨v, 0, none⟩)] w fun e w' => ∃ p c, e = .returned (.slice p R.length c) ∧ Hid (ReadsAt (New w w') w' (.slice p R.length c) R) ∧ Hid (Below w.heap.size w w') := by
  obtain ⟨F, hF, _⟩ := h.out.get i hi
  obtain ⟨b, rv, D, hv, hFb, hh, hO, _, _⟩ := hF
  cases hv
  exact viewReads_any w hh (OutS.readsAt (G := fun _ => True) hO fun _ _ _ => trivial) hd hR
end Go.Proofs

/- The references of chapter 15, among other things. -/
namespace Go.Proofs
open Go.RowKit Sc
theorem refRead_core {W w : World} {Z : Asn} {xv yv : Value} {z : Nat} {blocks last b2 most t : Int} {L : List RVer} {s : List Put} {S : List Ext} {R : List Sc.Read} (h : Hid (Sep W [Z, RMapA xv blocks last L, RBufA yv b2 most s, RViewA z xv yv t S R] w)) (hbl : blocks ≤ 1048576) (hS : SetG S) (nS : S.length ≤ 40000) (nR : R.length ≤ 900000) (nL : L.length ≤ 1000000) (ns : s.length ≤ 1000000) (h40 : ∀ k, (refBlk L s t k).length = 40) (e : Ext) (i1 : I64 e.first) (i2 : I64 e.len) :
    Calls Try.prog 26 #[.pointer (some ⟨z, 0, none⟩), .agg #[.int .i64 e.first, .int .i64 e.len]] w fun r w' =>
      (readCode blocks S e ≠ 0 ∧ r = .returned (.tuple #[.slice none 0 0, .int .i64 (readCode blocks S e)]) ∧ Hid (Sep W [Z, RMapA xv blocks last L, RBufA yv b2 most s, RViewA z xv yv t S R] w')) ∨
      (readCode blocks S e = 0 ∧ ∃ p c, r = .returned (.tuple #[.slice p (refRows L s t e.first e.len.toNat).length c, .int .i64 0]) ∧
        Hid (Sep W [Z, RMapA xv blocks last L, RBufA yv b2 most s, RViewA z xv yv t (addNext 64 S [e]) (R ++ refReads L s t e.first e.len.toNat), ByA (.slice p (refRows L s t e.first e.len.toNat).length c) (refRows L s t e.first e.len.toNat)] w')) := by
  obtain ⟨F, G, hF, hR, hFG, dF, dG, K⟩ := h.out.at 3 rfl
  obtain ⟨Fm, m1, m2⟩ := hR 1 _ (by decide) rfl
  obtain ⟨Fb, n1, n2⟩ := hR 2 _ (by decide) rfl
  refine (refRead_any m2 n2 hF (fun q hq => dG q (m1 q hq)) (fun q hq => dG q (n1 q hq)) dF (fun q h1 h2 => hFG q h1 (m1 q h2)) (fun q h1 h2 => hFG q h1 (n1 q h2)) hbl hS nS nR nL ns h40 e i1 i2).mono ?_
  rintro r w' (⟨h1, h2, h3⟩ | ⟨h1, p, c, h2, F2, F3, h3, h4, h5, h6⟩)
  · exact .inl ⟨h1, h2, Lib.hid (h.out.up h3.out)⟩
  · have hs := K w' (fun q => F2 q ∨ F3 q) (StarA [RViewA z xv yv t (addNext 64 S [e]) (R ++ refReads L s t e.first e.len.toNat), ByA (.slice p (refRows L s t e.first e.len.toNat).length c) (refRows L s t e.first e.len.toNat)]) h3.out (fun q hq => hq.elim (h4.out.1 q) fun h => .inr (h4.out.2 q h).1)
      ⟨fun i => if i = 0 then F2 else if i = 1 then F3 else fun _ => False, fun i k hk => by
          by_cases h0 : i = 0
          · simp only [h0, if_true] at hk; exact .inl hk
          · by_cases h1 : i = 1
            · simp only [h1, if_true, Nat.one_ne_zero, if_false] at hk; exact .inr hk
            · simp only [h0, h1, if_false] at hk,
        fun i j k hij hk hk' => by
          by_cases hi0 : i = 0 <;> by_cases hj0 : j = 0
          · exact hij (hi0.trans hj0.symm)
          · by_cases hj1 : j = 1
            · simp only [hi0, hj1, if_true, Nat.one_ne_zero, if_false] at hk hk'; exact (h4.out.2 k hk').2 hk
            · simp only [hj0, hj1, if_false] at hk'
          · by_cases hi1 : i = 1
            · simp only [hj0, hi1, if_true, Nat.one_ne_zero, if_false] at hk hk'; exact (h4.out.2 k hk).2 hk'
            · simp only [hi0, hi1, if_false] at hk
          · by_cases hi1 : i = 1
            · by_cases hj1 : j = 1
              · exact hij (hi1.trans hj1.symm)
              · simp only [hj0, hj1, if_false] at hk'
            · simp only [hi0, hi1, if_false] at hk,
        fun i A hA => by
          match i, hA with
          | 0, hA => cases hA; exact h5.out
          | 1, hA => cases hA; exact h6.out
          | i + 2, hA => simp at hA⟩
    exact .inr ⟨h1, p, c, h2, Lib.hid ((hs.openStar 3 rfl).erase 3)⟩
theorem refRead_sep {W w : World} {L : List Asn} (h : Hid (Sep W L w)) (im ib iv : Nat) {xv yv : Value} {z : Nat} {blocks last b2 most t : Int} {M : List RVer} {s : List Put} {S : List Ext} {R : List Sc.Read} (hn : [im, ib, iv].Nodup)
    (hm : L[im]? = some (RMapA xv blocks last M)) (hb : L[ib]? = some (RBufA yv b2 most s)) (hv : L[iv]? = some (RViewA z xv yv t S R))
    (hbl : blocks ≤ 1048576) (hS : SetG S) (nS : S.length ≤ 40000) (nR : R.length ≤ 900000) (nL : M.length ≤ 1000000) (ns : s.length ≤ 1000000) (h40 : ∀ k, (refBlk M s t k).length = 40) (e : Ext) (i1 : I64 e.first) (i2 : I64 e.len) :
    Calls Try.prog 26 #[.pointer (some ⟨z, 0, none⟩), .agg #[.int .i64 e.first, .int .i64 e.len]] w fun r w' =>
      (readCode blocks S e ≠ 0 ∧ r = .returned (.tuple #[.slice none 0 0, .int .i64 (readCode blocks S e)]) ∧ Hid (Sep W L w')) ∨
      (readCode blocks S e = 0 ∧ ∃ p c, r = .returned (.tuple #[.slice p (refRows M s t e.first e.len.toNat).length c, .int .i64 0]) ∧
        Hid (Sep W (setAll L [im, ib, iv] [RMapA xv blocks last M, RBufA yv b2 most s, RViewA z xv yv t (addNext 64 S [e]) (R ++ refReads M s t e.first e.len.toNat)] ++
          [ByA (.slice p (refRows M s t e.first e.len.toNat).length c) (refRows M s t e.first e.len.toNat)]) w')) := by
  have hA : ∀ j (hj : j < [im, ib, iv].length), L[[im, ib, iv][j]]? = some ([RMapA xv blocks last M, RBufA yv b2 most s, RViewA z xv yv t S R][j]'(by simpa using hj)) := by
    intro j hj
    simp only [List.length_cons, List.length_nil] at hj
    rcases (show j = 0 ∨ j = 1 ∨ j = 2 by omega) with rfl | rfl | rfl
    · exact hm
    · exact hb
    · exact hv
  obtain ⟨Z, hZ, hback⟩ := h.out.zoomN [im, ib, iv] [RMapA xv blocks last M, RBufA yv b2 most s, RViewA z xv yv t S R] hn rfl hA
  refine (refRead_core (h := hZ) hbl hS nS nR nL ns h40 e i1 i2).mono ?_
  rintro r w' (⟨h1, h2, h3⟩ | ⟨h1, p, c, h2, h3⟩)
  · refine .inl ⟨h1, h2, ?_⟩
    have := hback w' [RMapA xv blocks last M, RBufA yv b2 most s, RViewA z xv yv t S R] [] rfl h3.out
    rw [List.append_nil, setAll_self hn rfl hA] at this
    exact this
  · exact .inr ⟨h1, p, c, h2, hback w' [_, _, _] [_] rfl h3.out⟩
theorem refMapApply_sep {W w : World} {L : List Asn} (h : Hid (Sep W L w)) (i : Nat) {v tv : Value} {blocks last : Int} {M : List RVer} (hi : L[i]? = some (RMapA v blocks last M)) (t : Tx) (ht : ∀ G, Sc.Rest L i G w → TxAt G w tv t) (hM : M.length ≤ 1000000) (hn : t.puts.length ≤ 1000000) :
    Calls Try.prog 28 #[v, tv] w fun e w' => e = .returned (.int .i64 (applyCode blocks last t)) ∧ Hid (Sep W (L.set i (RMapA v blocks (applyLast blocks last t) (if applyCode blocks last t = 0 then mergeV t.time t.puts M else M))) w') := by
  obtain ⟨F, G, hF, hR, hFG, dF, dG, K⟩ := h.out.at i hi
  refine (refMapApply_any F G v tv blocks last M t w hF dF hM (ht G hR) dG hFG hn).mono ?_
  rintro e w' ⟨he, hc, hm⟩
  exact ⟨he, Lib.hid (K w' _ (RMapA v blocks (applyLast blocks last t) (if applyCode blocks last t = 0 then mergeV t.time t.puts M else M)) hc (fun q hq => hq) hm)⟩
theorem refBufWriteV_sep {W w : World} {L : List Asn} (h : Sep W L w) (i : Nat) {v lv : Value} {blocks most : Int} {s : List Put} (hi : L[i]? = some (RBufA v blocks most s)) (l : List Put) (hl : ∀ G, Sc.Rest L i G w → PutsAt G w lv l) (n0 : s.length ≤ 500000) (n1 : l.length ≤ 500000) :
    Calls Try.prog 27 #[v, lv] w fun e w' => e = .returned (.int .i64 (rbCode blocks most s l)) ∧ Hid (Sep W (L.set i (RBufA v blocks most (rbNext blocks most s l))) w') := by
  obtain ⟨F, G, hF, hR, hFG, hdF, hdG, K⟩ := h.at i hi
  refine (refBufWrite_any F G v lv blocks most s l w hF hdF (hl G hR) hdG hFG n0 n1).mono ?_
  rintro e w' ⟨rfl, hc, hm⟩
  exact ⟨rfl, K w' _ (RBufA v blocks most (rbNext blocks most s l)) hc (fun k hk => hk) hm⟩
/-- What a reference's View shows. -/
theorem rview_cells {W w : World} {L : List Asn} (h : Sep W L w) (i : Nat) {z : Nat} {xv yv : Value} {t : Int} {S : List Ext} {R : List Sc.Read} (hi : L[i]? = some (RViewA z xv yv t S R)) :
    ∃ sp sc rp rc, w.cell? ⟨z, 4, none⟩ = some (.slice sp S.length sc) ∧ w.cell? ⟨z, 5, none⟩ = some (.slice rp R.length rc) ∧ Hid (ExtsAt (fun _ => True) w (.slice sp S.length sc) S) ∧ Hid (ReadsAt (fun _ => True) w (.slice rp R.length rc) R) := by
  obtain ⟨F, ⟨rv, sv, D, h1, h2, h3, h4, h5, h6⟩, _⟩ := h.get i hi
  have hx : ExtsAt (fun _ => True) w sv S := SlAt.mono h3 (fun _ _ => trivial) (fun _ _ _ h => h)
  have hr : ReadsAt (fun _ => True) w rv R := OutS.readsAt h4 fun _ _ _ => trivial
  obtain ⟨sp, sc, rfl⟩ := extsAt_shape hx
  obtain ⟨rp, rc, rfl⟩ : ∃ p c, rv = .slice p R.length c := by obtain ⟨p, c, e, _⟩ := id hr; exact ⟨p, c, e⟩
  exact ⟨sp, sc, rp, rc, by rw [cell_row h2]; rfl, by rw [cell_row h2]; rfl, hx, hr⟩
end Go.Proofs

/- A Map of versions side by side with other things (for seats without the laws of chapter 12). -/
namespace Go.Proofs
open Go.RowKit Sc

theorem extNew_sep {W w : World} {L : List Asn} (h : Sep W L w) (n : Int) (h1 : 1 ≤ n) (h2 : n ≤ 1048576) :
    Calls Try.prog 33 #[.int .i64 n] w fun e w' => ∃ b : Nat, e = .returned (.tuple #[.pointer (some ⟨b, 0, none⟩), .int .i64 0]) ∧ Sep W (L ++ [ExtA (.pointer (some ⟨b, 0, none⟩)) n 0 []]) w' := by
  refine (extNew_any n w h1 h2).mono ?_
  rintro e w' ⟨v, rfl, hm, hb⟩
  have := h.new hb (ExtA v n 0 []) (fun _ h => h) hm
  obtain ⟨b, r, ml, D, rfl, _⟩ := hm.parts
  exact ⟨b, rfl, this⟩
theorem extApply_sep {W w : World} {L : List Asn} (h : Sep W L w) (i : Nat) {v tv : Value} {blocks last : Int} {vs : Vers} (hi : L[i]? = some (ExtA v blocks last vs)) (h1 : 1 ≤ blocks) (t : Tx) (ht : ∀ G, Sc.Rest L i G w → TxAt G w tv t)
    (hln : ∀ k l, alook vs k = some l → l.length ≤ 1000000) (hpl : t.puts.length ≤ 1000000) :
    Calls Try.prog 17 #[v, tv] w fun e w' => e = .returned (.int .i64 (applyCode blocks last t)) ∧ Sep W (L.set i (ExtA v blocks (applyLast blocks last t) (applyNext blocks last vs t))) w' := by
  obtain ⟨F, G, hF, hR, hFG, hdF, hdG, K⟩ := h.at i hi
  refine (extApply_any F G v tv blocks last vs t w hF h1 (ht G hR) hdG hFG hln hpl).mono ?_
  rintro e w' ⟨rfl, hc, hm⟩
  exact ⟨rfl, K w' _ (ExtA v blocks (applyLast blocks last t) (applyNext blocks last vs t)) hc (fun k hk => hk) hm⟩
/-- An argument is as it was: for what is handed on. -/
theorem rest_old {W w : World} {L : List Asn} {i : Nat} {G : Foot} (hi : i ≠ 0) (hr : Sc.Rest (OldA W :: L) i G w) : ∀ k, k < W.heap.size → G k := by
  obtain ⟨F, h1, h2⟩ := hr 0 (OldA W) (fun e => hi e.symm) rfl
  exact fun k hk => h1 k (h2.1 k hk)
theorem data_sz (k : Int) : (dataB k).length = 40 := dataB_length k

end Go.Proofs

/- What a call makes, put beside what there was; a bound of versions. Of no program. -/
namespace Sc
open Go Go.RowKit

theorem Sep.append {W w w' : World} {L M : List Asn} (h : Sep W L w) (h2 : Sep w (OldA w :: M) w') : Sep W (L ++ M) w' := by
  have hb := h2.old
  obtain ⟨hg, Fs, h1, h3, h4⟩ := h
  obtain ⟨hg', Gs, k1, k3, k4⟩ := h2
  have k0 : ∀ k, k < w.heap.size → Gs 0 k := (k4 0 (OldA w) rfl).1
  have kn : ∀ j k, Gs (j + 1) k → w.heap.size ≤ k := fun j k hk => by
    by_cases hlt : k < w.heap.size
    · exact absurd hk (k3 0 (j + 1) k (by omega) (k0 k hlt))
    · omega
  refine ⟨hg.trans (below_grow hb), fun i => if i < L.length then Fs i else Gs (i - L.length + 1), ?_, ?_, ?_⟩
  · intro i k hk
    by_cases hi : i < L.length
    · simp only [hi, if_true] at hk; exact Nat.lt_of_lt_of_le (h1 i k hk) hb.size
    · simp only [hi, if_false] at hk; exact k1 _ k hk
  · intro i j k hij hk hk'
    by_cases hi : i < L.length <;> by_cases hj : j < L.length
    · simp only [hi, hj, if_true] at hk hk'; exact h3 i j k hij hk hk'
    · simp only [hi, hj, if_true, if_false] at hk hk'
      have := h1 i k hk; have := kn _ k hk'; omega
    · simp only [hi, hj, if_true, if_false] at hk hk'
      have := h1 j k hk'; have := kn _ k hk; omega
    · simp only [hi, hj, if_false] at hk hk'
      exact k3 _ _ k (by omega) hk hk'
  · intro i A hA
    by_cases hi : i < L.length
    · rw [List.getElem?_append_left hi] at hA
      simp only [hi, if_true]
      exact A.loc _ _ _ (fun k hk => hb.block k (h1 i k hk)) hb.size (h4 i A hA)
    · rw [List.getElem?_append_right (by omega)] at hA
      simp only [hi, if_false]
      exact k4 (i - L.length + 1) A (by rw [List.getElem?_cons_succ]; exact hA)
end Sc
namespace Go.Proofs
open Go.RowKit Sc
theorem apply_lenG {blocks last : Int} {vs : Vers} {t : Tx} {m : Nat} (_h : GoodE blocks last vs) (hm : ∀ k l, alook vs k = some l → l.length ≤ m) : ∀ k l, alook (applyNext blocks last vs t) k = some l → l.length ≤ m + 1 := by
  intro k l hl
  unfold applyNext at hl
  split at hl
  · rename_i hc
    obtain ⟨h1, h2, h3, h4, h5, _⟩ := code_zero hc
    have hn := pairwise_nodup (riseB_pairwise h3)
    by_cases hk : ∃ p ∈ t.puts, p.lba = k
    · obtain ⟨p, hp, rfl⟩ := hk
      rw [applyVs_mine _ _ _ p hn hp] at hl
      cases hl
      cases hx : alook vs p.lba with
      | none => simp
      | some l' => have := hm _ _ hx; simp; omega
    · rw [applyVs_other _ _ _ k (fun p hp e => hk ⟨p, hp, e⟩)] at hl
      have := hm k l hl; omega
  · have := hm k l hl; omega
theorem tsz_mem {l : List Tx} {t : Tx} (h : t ∈ l) : t.puts.length ≤ (l.map fun t => t.puts.length + (t.puts.map fun p => p.data.length).sum).sum := by
  induction l with
  | nil => cases h
  | cons a l ih =>
    simp only [List.map_cons, List.sum_cons]
    rcases List.mem_cons.1 h with rfl | h
    · omega
    · have := ih h; omega
end Go.Proofs

/- A read of a View, among other things. -/
namespace Go.Proofs
open Go.RowKit Sc

def ptr (b : Nat) : Value := .pointer (some ⟨b, 0, none⟩)
/-- A read, among other things. -/
theorem viewRead_sep {W w : World} {L : List Asn} (h : Hid (Sep W L w)) (im ib is iv : Nat) {m b sb v : Nat} {blocks last b2 most t : Int} {vs : Vers} {s : List (Int × Bytes)} {S : List Ext} {R : List Sc.Read} (hn : [im, ib, is, iv].Nodup)
    (hm : L[im]? = some (ExtA (.pointer (some ⟨m, 0, none⟩)) blocks last vs)) (hb : L[ib]? = some (BufA (.pointer (some ⟨b, 0, none⟩)) b2 most s)) (hs' : L[is]? = some (SetA (.pointer (some ⟨sb, 0, none⟩)) 64 S))
    (hv : L[iv]? = some (ViewA (.pointer (some ⟨v, 0, none⟩)) (.pointer (some ⟨m, 0, none⟩)) (.pointer (some ⟨b, 0, none⟩)) t (.pointer (some ⟨sb, 0, none⟩)) R))
    (hg : GoodE blocks last vs) (hbl : blocks ≤ 1048576) (hs : BufG b2 s) (hS : SetG S) (nS : S.length ≤ 50000) (nR : R.length ≤ 1000000) (e : Ext) (i1 : I64 e.first) (i2 : I64 e.len) :
    Calls Try.prog 14 #[.pointer (some ⟨v, 0, none⟩), .agg #[.int .i64 e.first, .int .i64 e.len]] w fun r w' =>
      (readCode blocks S e ≠ 0 ∧ r = .returned (.tuple #[.slice none 0 0, .int .i64 (readCode blocks S e)]) ∧ Hid (Sep W L w')) ∨
      (readCode blocks S e = 0 ∧ ∃ g o c, r = .returned (.tuple #[.slice (some ⟨g, o, none⟩) (40 * e.len.toNat) c, .int .i64 0]) ∧
        Hid (Sep W (setAll L [im, ib, is, iv] [ExtA (.pointer (some ⟨m, 0, none⟩)) blocks last vs, BufA (.pointer (some ⟨b, 0, none⟩)) b2 most s, SetA (.pointer (some ⟨sb, 0, none⟩)) 64 (addNext 64 S [e]), ViewA (.pointer (some ⟨v, 0, none⟩)) (.pointer (some ⟨m, 0, none⟩)) (.pointer (some ⟨b, 0, none⟩)) t (.pointer (some ⟨sb, 0, none⟩)) (R ++ readsV vs s t e.first e.len.toNat)] ++
          [BytesWA (.slice (some ⟨g, o, none⟩) (40 * e.len.toNat) c) (rowsF (fun i : Nat => blkV vs s t (e.first + i)) e.len.toNat)]) w')) := by
  have hA : ∀ j (hj : j < [im, ib, is, iv].length), L[[im, ib, is, iv][j]]? = some ([ExtA (.pointer (some ⟨m, 0, none⟩)) blocks last vs, BufA (.pointer (some ⟨b, 0, none⟩)) b2 most s, SetA (.pointer (some ⟨sb, 0, none⟩)) 64 S, ViewA (.pointer (some ⟨v, 0, none⟩)) (.pointer (some ⟨m, 0, none⟩)) (.pointer (some ⟨b, 0, none⟩)) t (.pointer (some ⟨sb, 0, none⟩)) R][j]'(by simpa using hj)) := by
    intro j hj
    simp only [List.length_cons, List.length_nil] at hj
    rcases (show j = 0 ∨ j = 1 ∨ j = 2 ∨ j = 3 by omega) with rfl | rfl | rfl | rfl
    · exact hm
    · exact hb
    · exact hs'
    · exact hv
  obtain ⟨Z, hZ, hback⟩ := h.out.zoomN [im, ib, is, iv] [ExtA (.pointer (some ⟨m, 0, none⟩)) blocks last vs, BufA (.pointer (some ⟨b, 0, none⟩)) b2 most s, SetA (.pointer (some ⟨sb, 0, none⟩)) 64 S, ViewA (.pointer (some ⟨v, 0, none⟩)) (.pointer (some ⟨m, 0, none⟩)) (.pointer (some ⟨b, 0, none⟩)) t (.pointer (some ⟨sb, 0, none⟩)) R] hn rfl hA
  refine (viewRead_core (h := hZ) hg hbl hs hS nS nR e i1 i2).mono ?_
  rintro r w' (⟨h1, h2, h3⟩ | ⟨h1, g, o, c, h2, h3⟩)
  · refine .inl ⟨h1, h2, ?_⟩
    have := hback w' [ExtA (.pointer (some ⟨m, 0, none⟩)) blocks last vs, BufA (.pointer (some ⟨b, 0, none⟩)) b2 most s, SetA (.pointer (some ⟨sb, 0, none⟩)) 64 S, ViewA (.pointer (some ⟨v, 0, none⟩)) (.pointer (some ⟨m, 0, none⟩)) (.pointer (some ⟨b, 0, none⟩)) t (.pointer (some ⟨sb, 0, none⟩)) R] [] rfl h3.out
    rw [List.append_nil, setAll_self hn rfl hA] at this
    exact this
  · exact .inr ⟨h1, g, o, c, h2, hback w' [_, _, _, _] [_] rfl h3.out⟩
end Go.Proofs

/- The laws of chapter 15: a world made anew; a read in it; what the document fixes. -/
namespace Go.Proofs
open Go.RowKit Sc


def freshL (n t : Int) (m b s v x y z q : Nat) : List Asn := [ExtA (.pointer (some ⟨m, 0, none⟩)) n 0 [], BufA (.pointer (some ⟨b, 0, none⟩)) n 16 [],
  BoxA x #[.int .i64 n, .slice none 0 0, .int .i64 0] 127, BoxA y #[.int .i64 n, .int .i64 16, .slice none 0 0] 124,
  SetA (.pointer (some ⟨s, 0, none⟩)) 64 [], ViewA (.pointer (some ⟨v, 0, none⟩)) (.pointer (some ⟨m, 0, none⟩)) (.pointer (some ⟨b, 0, none⟩)) t (.pointer (some ⟨s, 0, none⟩)) [],
  BoxA z #[.pointer (some ⟨x, 0, none⟩), .pointer (some ⟨y, 0, none⟩), .int .i64 t, .int .i64 64, .slice none 0 0, .slice none 0 0] 74,
  BoxA q #[.pointer (some ⟨m, 0, none⟩), .pointer (some ⟨b, 0, none⟩), .pointer (some ⟨v, 0, none⟩), .pointer (some ⟨x, 0, none⟩), .pointer (some ⟨y, 0, none⟩), .pointer (some ⟨z, 0, none⟩)] 36]
theorem Sep.box {W w : World} {L : List Asn} (h : Sep W L w) (cs : Array Value) (T : TypeId) : Sep W (L ++ [BoxA w.heap.size cs T]) (w.alloc (.cells cs T (0, 0))) :=
  h.new (below_alloc w _) (BoxA w.heap.size cs T) (F := New w (w.alloc (.cells cs T (0, 0)))) (fun _ h => h) ⟨⟨Nat.le_refl _, by simp⟩, heap_alloc_new w _⟩
theorem refMapNew_sep {W w : World} {L : List Asn} (h : Hid (Sep W L w)) (n : Int) (h1 : 1 ≤ n) (h2 : n ≤ 1048576) : Calls Try.prog 40 #[.int .i64 n] w fun e w' => ∃ x : Nat, e = .returned (.tuple #[.pointer (some ⟨x, 0, none⟩), .int .i64 0]) ∧ Hid (Sep W (L ++ [BoxA x #[.int .i64 n, .slice none 0 0, .int .i64 0] 127]) w') := by
  have hS := Go.Proofs.Sep.box h.out #[.int .i64 n, .slice none 0 0, .int .i64 0] 127
  have HS := Lib.hid hS
  clear hS
  go_enter Try.func40, Try.ntmps40
  go_wp2
  go_ret2
  exact ⟨w.heap.size, rfl, HS.out⟩
theorem refBufNew_sep {W w : World} {L : List Asn} (h : Hid (Sep W L w)) (n m : Int) (h1 : 1 ≤ n) (h2 : n ≤ 1048576) (h3 : 0 ≤ m) : Calls Try.prog 41 #[.int .i64 n, .int .i64 m] w fun e w' => ∃ x : Nat, e = .returned (.tuple #[.pointer (some ⟨x, 0, none⟩), .int .i64 0]) ∧ Hid (Sep W (L ++ [BoxA x #[.int .i64 n, .int .i64 m, .slice none 0 0] 124]) w') := by
  have hS := Go.Proofs.Sep.box h.out #[.int .i64 n, .int .i64 m, .slice none 0 0] 124
  have HS := Lib.hid hS
  clear hS
  go_enter Try.func41, Try.ntmps41
  go_wp2
  go_ret2
  exact ⟨w.heap.size, rfl, HS.out⟩
theorem refViewNew_sep {W w : World} {L : List Asn} (h : Hid (Sep W L w)) (x y : Nat) (t : Int) : Calls Try.prog 42 #[.pointer (some ⟨x, 0, none⟩), .pointer (some ⟨y, 0, none⟩), .int .i64 t] w fun e w' => ∃ z : Nat, e = .returned (.pointer (some ⟨z, 0, none⟩)) ∧ Hid (Sep W (L ++ [BoxA z #[.pointer (some ⟨x, 0, none⟩), .pointer (some ⟨y, 0, none⟩), .int .i64 t, .int .i64 64, .slice none 0 0, .slice none 0 0] 74]) w') := by
  have hS := Go.Proofs.Sep.box h.out #[.pointer (some ⟨x, 0, none⟩), .pointer (some ⟨y, 0, none⟩), .int .i64 t, .int .i64 64, .slice none 0 0, .slice none 0 0] 74
  have HS := Lib.hid hS
  clear hS
  go_enter Try.func42, Try.ntmps42
  go_wp2
  go_ret
  exact ⟨w.heap.size, rfl, HS.out⟩

set_option maxRecDepth 100000 in
set_option maxHeartbeats 2000000 in
theorem fresh_any (n t : Int) (w : World) (h1 : 1 ≤ n) (h2 : n ≤ 1048576) : Calls Try.prog 13 #[.int .i64 n, .int .i64 t] w fun e w' => ∃ m b s v x y z q : Nat, e = .returned (.tuple #[.pointer (some ⟨q, 0, none⟩), .bool true]) ∧ Hid (Sep w (OldA w :: freshL n t m b s v x y z q) w') := by
  go_enter Try.func13, Try.ntmps13
  go_wp2_with fail
  refine (extNew_sep (Sep.start w) n h1 h2).mono ?_
  rintro e w1 ⟨m, rfl, hS1⟩
  have HS1 := Lib.hid hS1
  clear hS1
  go_wp2_with fail
  refine (bufNew_sep HS1.out n 16 h1 h2 (by omega)).mono ?_
  rintro e w2 ⟨b, rfl, HS2⟩
  go_wp2_with fail
  refine (refMapNew_sep HS2 n h1 h2).mono ?_
  rintro e w3 ⟨x, rfl, HS3⟩
  go_wp2_with fail
  refine (refBufNew_sep HS3 n 16 h1 h2 (by omega)).mono ?_
  rintro e w4 ⟨y, rfl, HS4⟩
  go_wp2_with fail
  refine (viewNew_sep HS4.out m b t).mono ?_
  rintro e w5 ⟨s, v, rfl, HB5, HS5⟩
  go_wp2_with fail
  refine (refViewNew_sep HS5 x y t).mono ?_
  rintro e w6 ⟨z, rfl, HS6⟩
  have hS7 := Go.Proofs.Sep.box HS6.out #[.pointer (some ⟨m, 0, none⟩), .pointer (some ⟨b, 0, none⟩), .pointer (some ⟨v, 0, none⟩), .pointer (some ⟨x, 0, none⟩), .pointer (some ⟨y, 0, none⟩), .pointer (some ⟨z, 0, none⟩)] 36
  have hc2 : (w6.alloc (.cells #[.pointer (some ⟨m, 0, none⟩), .pointer (some ⟨b, 0, none⟩), .pointer (some ⟨v, 0, none⟩), .pointer (some ⟨x, 0, none⟩), .pointer (some ⟨y, 0, none⟩), .pointer (some ⟨z, 0, none⟩)] 36)).cell? ⟨w6.heap.size, 2, none⟩ = some (.pointer (some ⟨v, 0, none⟩)) := by rw [cell_row (heap_alloc_new w6 _)]; rfl
  have HS7 := Lib.hid hS7
  clear hS7
  go_wp2_with fail
  go_quiet (fail)
  have hS8 := HS7.out.up (below_drewN (Below.refl _ _) nq)
  have HS8 := Lib.hid hS8
  clear hS8
  go_wp2_with fail
  go_ret2
  exact ⟨m, b, s, v, x, y, z, w6.heap.size, rfl, HS8.out⟩
/-- Where a world's parts lie, read of the box. -/
theorem fresh_cells {W w : World} {L : List Asn} (h : Sep W L w) (i : Nat) {q : Nat} {cs : Array Value} {T : TypeId} (hi : L[i]? = some (BoxA q cs T)) (j : Nat) (hj : j < cs.size) : w.cell? ⟨q, j, none⟩ = some cs[j] := by
  obtain ⟨F, hF, _⟩ := h.get i hi
  rw [cell_row hF.2]
  exact Array.getElem?_eq_getElem hj
theorem good_zero (n : Int) : GoodE n 0 [] := ⟨List.nodup_nil, by simp, fun k l h => by simp [alook] at h, by omega⟩

set_option maxRecDepth 100000 in
set_option maxHeartbeats 3000000 in
theorem awake15 (w : World) : Calls Try.prog 12 #[] w fun e w' => e = .returned (.bool true) ∧ Below w.heap.size w w' := by
  have hc2 : bufCode 5 16 [] [⟨2, dataB 7⟩] = 0 := by decide +kernel
  have hn2 : bufNext 5 16 [] [⟨2, dataB 7⟩] = [(2, dataB 7)] := by unfold bufNext; rw [if_pos hc2]; rfl
  have hg2 : BufG 5 [(2, dataB 7)] := by rw [← hn2]; exact (BufG.start 5).next _
  have hrc : readCode 5 [] ⟨1, 2⟩ = 0 := by
    have ha : addCode 64 [] [⟨1, 2⟩] = 0 := by
      obtain ⟨h1, _⟩ := addCode_is (most := 64) SetG.nil (l := [⟨1, 2⟩]) (by decide) (by simp) (normE_ext (l := [] ++ [⟨1, 2⟩]) (m := [⟨1, 2⟩]) (by simp) (Canon.mk1 (by simp)) fun _ => Iff.rfl)
      exact h1.trans (by simp)
    unfold readCode
    rw [if_neg (by simp only; omega), if_neg (by decide), if_neg (by rw [ha]; decide)]
  have HC2 := Lib.hid hc2
  have HN2 := Lib.hid hn2
  have HG2 := Lib.hid hg2
  have HRC := Lib.hid hrc
  clear hc2 hn2 hg2 hrc
  go_enter Try.func12, Try.ntmps12
  go_wp2_with fail
  refine (fresh_any 5 0 w (by omega) (by omega)).mono ?_
  rintro e w1 ⟨m, b, s, v, x, y, z, q, rfl, HS1⟩
  have hqb := fresh_cells HS1.out 8 rfl 1 (by simp)
  simp only [List.getElem_toArray, List.getElem_cons_succ, List.getElem_cons_zero] at hqb
  have hS1d := HS1.out.up (w' := w1.drew) (below_drewN (Below.refl _ _) 1)
  have HS1D := Lib.hid hS1d
  clear hS1d
  go_wp2_with fail
  go_region_held3 (fun W' => W'.cell? ⟨q, 1, none⟩ = some (.pointer (some ⟨b, 0, none⟩)))
    (first | exact hqb | exact hq2 | exact cell_up (below_alloc w2 _) hq2 | exact hq3 | go_keep)
    ((first
      | (go_at_call 24
         refine (data_any 7 _).mono ?_
         rintro e w2 ⟨dv, rfl, hd, hb2⟩
         obtain ⟨dp, dc, rfl⟩ := shape_of hd (dataB_length 7)
         have hS2 := HS1D.out.new hb2 (ByA (.slice dp 40 dc) (dataB 7)) (fun _ h => h) hd
         have HS2 := Lib.hid hS2
         have hq2 : w2.cell? ⟨q, 1, none⟩ = some (.pointer (some ⟨b, 0, none⟩)) := cell_up hb2 hqb
         clear hS2 hd hb2)
      | (go_at_call 25
         refine (bufWrite_one HS2 2 9 (by decide) rfl rfl 2 (i64_small (by omega)) _ rfl (by simp)).mono ?_
         rintro e w3 ⟨rfl, HS3⟩
         rw [HC2.out]
         rw [HN2.out] at HS3
         have hq3 : w3.cell? ⟨q, 1, none⟩ = some (.pointer (some ⟨b, 0, none⟩)) := fresh_cells HS3.out 8 rfl 1 (by simp))))
  all_goals
    have hqv : w3.cell? ⟨q, 2, none⟩ = some (.pointer (some ⟨v, 0, none⟩)) := fresh_cells HS3.out 8 rfl 2 (by simp)
    go_wp2_with fail
    refine (viewRead_sep HS3 1 2 5 6 (by decide) rfl rfl rfl rfl (good_zero 5) (by omega) HG2.out SetG.nil (by simp) (by simp) ⟨1, 2⟩ (i64_small (by simp only; omega)) (i64_small (by simp only; omega))).mono ?_
    rintro r w4 (⟨hno, _⟩ | ⟨_, g, o, c, rfl, HS4⟩)
    · exact absurd HRC.out hno
    rw [show (40 * (⟨1, 2⟩ : Ext).len.toNat) = 80 from rfl]
    have hrow : rowsF (fun i : Nat => blkV [] [(2, dataB 7)] 0 ((⟨1, 2⟩ : Ext).first + i)) (⟨1, 2⟩ : Ext).len.toNat = zeroB ++ dataB 7 := by
      show rowsF _ 2 = _
      rw [rowsF_succ, rowsF_succ]
      rfl
    obtain ⟨FO, hFO, _⟩ := HS4.out.get 10 rfl
    have hO : BytesW FO w4 (.slice (some ⟨g, o, none⟩) 80 c) (zeroB ++ dataB 7) := by
      have : BytesW FO w4 (.slice (some ⟨g, o, none⟩) 80 c) (rowsF (fun i : Nat => blkV [] [(2, dataB 7)] 0 ((⟨1, 2⟩ : Ext).first + i)) (⟨1, 2⟩ : Ext).len.toNat) := hFO
      rw [hrow] at this
      exact this
    have hc0 : w4.cell? ⟨g, o, none⟩ = some (.int .u8 0) := by
      obtain ⟨p', c', hv, _, _, _, h4⟩ := hO
      cases hv
      obtain ⟨b', o', hp, _, hc, _⟩ := h4 0 (by simp [dataB_length])
      cases hp
      exact hc
    have hcap : 80 ≤ c := by
      obtain ⟨p', c', hv, h1, _⟩ := hO
      cases hv
      have : (zeroB ++ dataB 7).length = 80 := by rw [List.length_append, dataB_length]; rfl
      omega
    have hsub := bytesW_sub hO (i := 40) (r := dataB 7) (by rw [List.length_append, dataB_length]; decide) (fun j hj => by rw [List.getElem?_append_right (by show 40 ≤ 40 + j; omega)]; congr 1; show 40 + j - 40 = j; omega)
    rw [dataB_length] at hsub
    have hsd := BytesAt.up hsub (below_drewN (Below.refl w4.heap.size w4) 1)
    have hcn : ¬ c = 40 := by omega
    have hS4d := HS4.out.up (w' := w4.drew) (below_drewN (Below.refl _ _) 1)
    have HS4D := Lib.hid hS4d
    have HSD := Lib.hid hsd
    clear hS4d hsd
    clear hO hsub hFO hrow hq3 hqv
    go_wp2_with fail
    go_region_held3 (fun W' => W'.cell? ⟨g, o, none⟩ = some (.int .u8 0))
      (first | exact hc0 | exact cell_up HB5.out hc0 | exact cell_up HB6.out hc0 | go_keep)
      ((first
        | (go_at_call 24
           refine (data_any 7 _).mono ?_
           rintro e w5 ⟨dv5, rfl, hd5, hb5⟩
           have HB5 : Hid (Below w4.heap.size w4 w5) := (below_drewN (Below.refl w4.heap.size w4) 1).trans hb5
           have HS5 := Lib.hid (HS4D.out.up hb5)
           have HD5 := Lib.hid hd5
           have HSD5 := Lib.hid (BytesAt.up HSD.out hb5)
           clear hd5 hb5)
        | (go_at_call 18
           refine (bytes_any (fun _ => True) _ _ (dataB 7) (dataB 7) _ (BytesAt.mono HSD5.out fun _ _ => trivial) (BytesAt.mono HD5.out fun _ _ => trivial)).mono ?_
           rintro e w6 ⟨rfl, hb6⟩
           rw [show (dataB 7 == dataB 7) = true by simp]
           have HB6 : Hid (Below w4.heap.size w4 w6) := Below.up HB5.out hb6
           have HS6 := Lib.hid (HS5.out.up hb6)
           clear hb6)))
    all_goals
      go_wp2_with fail
      go_ret
      exact ⟨rfl, HS6.out.old⟩
end Go.Proofs

/- The even blocks, one by one: a set has room for so many, plain. -/
namespace Go.Proofs
open Go.RowKit Sc

def evens (k : Nat) : List Ext := (List.range k).map fun j : Nat => ⟨2 * j, 1⟩
theorem evens_succ (k : Nat) : evens (k + 1) = evens k ++ [⟨2 * k, 1⟩] := by unfold evens; rw [List.range_succ]; simp
theorem evens_len (k : Nat) : (evens k).length = k := by simp [evens]
theorem evens_mem {k : Nat} {e : Ext} (h : e ∈ evens k) : ∃ j : Nat, j < k ∧ e = ⟨2 * j, 1⟩ := by
  unfold evens at h
  obtain ⟨j, hj, rfl⟩ := List.mem_map.1 h
  exact ⟨j, List.mem_range.1 hj, rfl⟩
theorem evens_good (k : Nat) (hk : k ≤ 100) : SetG (evens k) := by
  induction k with
  | zero => exact SetG.nil
  | succ k ih =>
    obtain ⟨h1, h2⟩ := ih (by omega)
    rw [evens_succ]
    refine ⟨canon_snoc.2 ⟨h1, by simp, fun y hy => ?_⟩, fun e he => ?_⟩
    · obtain ⟨j, hj, rfl⟩ := evens_mem hy
      simp only; omega
    · rcases List.mem_append.1 he with he | he
      · exact h2 e he
      · rw [List.mem_singleton] at he; subst he
        unfold Oke; simp only; omega
theorem evens_add (k : Nat) (hk : k ≤ 99) : normE (evens k ++ [⟨2 * k, 1⟩]) = evens (k + 1) := by
  have hg := evens_good (k + 1) (by omega)
  rw [← evens_succ]
  exact normE_ext hg.1.1 hg.1 fun _ => Iff.rfl
theorem evens_cov {k : Nat} {x : Int} : cov (evens k) x ↔ ∃ j : Nat, j < k ∧ x = 2 * j := by
  constructor
  · rintro ⟨e, he, h1, h2⟩
    obtain ⟨j, hj, rfl⟩ := evens_mem he
    exact ⟨j, hj, by simp only at h1 h2; omega⟩
  · rintro ⟨j, hj, rfl⟩
    exact ⟨⟨2 * j, 1⟩, List.mem_map.2 ⟨j, List.mem_range.2 hj, rfl⟩, by simp only; omega, by simp only; omega⟩
theorem evens_join (k : Nat) (hk : 1 ≤ k) : normE (evens k ++ [⟨0, 2 * k⟩]) = [⟨0, 2 * k⟩] := by
  refine normE_ext (fun e he => ?_) (Canon.mk1 (by simp only; omega)) fun x => ?_
  · rcases List.mem_append.1 he with he | he
    · obtain ⟨j, _, rfl⟩ := evens_mem he; simp
    · rw [List.mem_singleton] at he; subst he; simp only; omega
  · rw [cov_append, evens_cov, cov_cons]
    have := cov_nil x
    constructor
    · rintro (h | h)
      · exact .inr (.inl h)
      · exact absurd h this
    · rintro (⟨j, hj, rfl⟩ | h | h)
      · exact .inl ⟨by simp only; omega, by simp only; omega⟩
      · exact .inl h
      · exact absurd h this
theorem evens_cnt (k : Nat) : cntE (evens k) = k := by
  induction k with
  | zero => rfl
  | succ k ih => rw [evens_succ]; unfold cntE at *; rw [List.map_append, List.sum_append, ih]; simp
theorem may_one {a n : Int} (h : 0 ≤ a ∧ a ≤ 1000000 ∧ 1 ≤ n ∧ n ≤ 1000) : allB [⟨a, n⟩] = true := by
  unfold allB
  rw [List.all_eq_true]
  intro e he
  rw [List.mem_singleton] at he
  subst he
  exact mayB_iff.2 (by simp only; omega)
theorem room_step (M i : Nat) (hM : M ≤ 90) (hi : i ≤ 90) : addCode M (evens (min i M)) [⟨2 * i, 1⟩] = (if i < M then 0 else 7) ∧ addNext M (evens (min i M)) [⟨2 * i, 1⟩] = evens (min (i + 1) M) := by
  by_cases h : i < M
  · obtain ⟨h1, h2⟩ := addCode_is (most := M) (evens_good i (by omega)) (may_one (a := 2 * i) (n := 1) (by omega)) (by simp) (evens_add i (by omega))
    rw [evens_len, if_neg (by omega)] at h1 h2
    rw [Nat.min_eq_left (by omega), Nat.min_eq_left (by omega), if_pos h]
    exact ⟨h1, h2⟩
  · have hg : SetG (evens M ++ [⟨2 * i, 1⟩]) := by
      obtain ⟨h1, h2⟩ := evens_good M (by omega)
      refine ⟨canon_snoc.2 ⟨h1, by simp, fun y hy => ?_⟩, fun e he => ?_⟩
      · obtain ⟨j, hj, rfl⟩ := evens_mem hy
        simp only; omega
      · rcases List.mem_append.1 he with he | he
        · exact h2 e he
        · rw [List.mem_singleton] at he; subst he
          unfold Oke; simp only; omega
    have hn : normE (evens M ++ [⟨2 * i, 1⟩]) = evens M ++ [⟨2 * i, 1⟩] := normE_ext hg.1.1 hg.1 fun _ => Iff.rfl
    obtain ⟨h1, h2⟩ := addCode_is (most := M) (evens_good M (by omega)) (may_one (a := 2 * i) (n := 1) (by omega)) (by simp) hn
    rw [List.length_append, evens_len, if_pos (by simp only [List.length_cons, List.length_nil]; omega)] at h1 h2
    rw [Nat.min_eq_right (by omega), Nat.min_eq_right (by omega), if_neg h]
    exact ⟨h1, h2⟩

/-- One that joins the first two needs no room. -/
theorem evens_three {k : Nat} (hk : k ≤ 64) : addCode 64 (evens k) [⟨0, 3⟩] = 0 := by
  have hm := may_one (a := 0) (n := 3) (by omega)
  have hg := evens_good k (by omega)
  by_cases h2 : k ≤ 63
  · obtain ⟨h1, _⟩ := addCode_is (most := 64) hg hm (by simp) rfl
    have hl := (normE_good' (addOke hg hm)).2.2
    rw [List.length_append, evens_len] at hl
    simp only [List.length_cons, List.length_nil] at hl
    rw [h1, if_neg (by omega)]
  · obtain rfl : k = 64 := by omega
    have hc : Canon ((⟨0, 3⟩ : Ext) :: (List.range 62).map fun j : Nat => (⟨2 * (j : Int) + 4, 1⟩ : Ext)) := by
      refine ⟨fun e he => ?_, List.pairwise_cons.2 ⟨fun e he => ?_, ?_⟩⟩
      · rcases List.mem_cons.1 he with rfl | he
        · simp
        · obtain ⟨j, _, rfl⟩ := List.mem_map.1 he; simp
      · obtain ⟨j, _, rfl⟩ := List.mem_map.1 he; simp only; omega
      · rw [List.pairwise_map]
        exact List.pairwise_lt_range.imp fun h => by simp only; omega
    have hn : normE (evens 64 ++ [⟨0, 3⟩]) = (⟨0, 3⟩ : Ext) :: (List.range 62).map fun j : Nat => (⟨2 * (j : Int) + 4, 1⟩ : Ext) := by
      refine normE_ext (fun e he => ?_) hc fun x => ?_
      · rcases List.mem_append.1 he with he | he
        · obtain ⟨j, _, rfl⟩ := evens_mem he; simp
        · rw [List.mem_singleton] at he; subst he; simp
      · rw [cov_append, evens_cov, cov_cons, cov_cons]
        have hnil := cov_nil x
        constructor
        · rintro (h | ⟨e, he, h1, h2⟩)
          · exact .inr (.inl h)
          · obtain ⟨j, hj, rfl⟩ := List.mem_map.1 he
            have := List.mem_range.1 hj
            exact .inl ⟨j + 2, by omega, by simp only at h1 h2; omega⟩
        · rintro (⟨j, hj, rfl⟩ | h | h)
          · by_cases hj2 : j < 2
            · exact .inl ⟨by simp only; omega, by simp only; omega⟩
            · exact .inr ⟨_, List.mem_map.2 ⟨j - 2, List.mem_range.2 (by omega), rfl⟩, by simp only; omega, by simp only; omega⟩
          · exact .inl h
          · exact absurd h hnil
    obtain ⟨h1, _⟩ := addCode_is (most := 64) hg hm (by simp) hn
    rw [h1, if_neg (by simp)]
end Go.Proofs

/- The laws of chapter 15: steps; what small gives; a step's cells. -/
namespace Go.Proofs
open Go.RowKit Sc

structure Step15 where
  kind : Int
  e : Ext
  puts : List Put
  n : Int
def Step15.t (s : Step15) : Tx := ⟨s.n, s.puts⟩
def stepE15 (G : Nat → Prop) : Elem Step15 := fun w b o x => w.cell? ⟨b, o, none⟩ = some (.int .i64 x.kind) ∧ I64 x.kind ∧ w.cell? ⟨b, o + 1, none⟩ = some (.int .i64 x.e.first) ∧ w.cell? ⟨b, o + 2, none⟩ = some (.int .i64 x.e.len) ∧ I64 x.e.first ∧ I64 x.e.len ∧ (∃ pv, w.cell? ⟨b, o + 3, none⟩ = some pv ∧ PutsAt G w pv x.puts) ∧ w.cell? ⟨b, o + 4, none⟩ = some (.int .i64 x.n) ∧ I64 x.n
def Steps15 (G : Nat → Prop) : World → Value → List Step15 → Prop := SlAt G 5 (stepE15 G)
theorem Steps15.up {G : Nat → Prop} {w w' : World} {v : Value} {l : List Step15} (h : Steps15 G w v l) (hb : Below w.heap.size w w') : Steps15 G w' v l :=
  SlAt.up h (fun _ _ _ ⟨h1, h2, h3, h4, h5, h6, ⟨u, h7, h8⟩, h9, h10⟩ => ⟨cell_up hb h1, h2, cell_up hb h3, cell_up hb h4, h5, h6, ⟨u, cell_up hb h7, h8.up hb⟩, cell_up hb h9, h10⟩)

def ssz15 (l : List Step15) : Nat := (l.map fun s => psz s.puts + 3).sum
def Small15 (l : List Step15) (w : World) (e : Ending) (w' : World) : Prop := ∃ q : Bool, e = .returned (.bool q) ∧ (q = true → ssz15 l ≤ 20000 ∧ l.length ≤ 120) ∧ Below w.heap.size w w'
set_option maxHeartbeats 1000000 in
theorem small15_any (G : Nat → Prop) (v : Value) (l : List Step15) (w : World) (hG : Dom G w) (hv : Steps15 G w v l) : Calls Try.prog 15 #[v] w (Small15 l w) := by
  obtain ⟨p, c, rfl, h1, h2, h3, h4⟩ := hv
  have H4 := Lib.hid h4
  clear h4
  clear h3
  go_enter Try.func15, Try.ntmps15
  go_wp2
  go_loopw [3, 4] (fun s i wr => ∃ k : Nat, k ≤ l.length ∧ i = .int .i64 k ∧ s = .int .i64 (((l.take k).map fun s => psz s.puts + 3).sum : Nat) ∧ Below w.heap.size w wr ∧ Hid (((l.take k).map fun s => psz s.puts + 3).sum ≤ 20000)) (fun _ i _ => l.length - (intOf i).toNat)
  case atStart => exact ⟨0, by omega, rfl, by simp, Below.refl _ _, by unfold Hid; simp⟩
  case round =>
    obtain ⟨k, hk, rfl, rfl, hbw, HS⟩ := hrel
    by_cases hlt : k < l.length
    · obtain ⟨b, o, rfl, hb, _, _, _, _, _, _, ⟨pv, hcp, hp⟩, _, _⟩ := H4.out k hlt
      have hcp' := cell_up hbw hcp
      have hs := sum_take_succ (fun s : Step15 => psz s.puts + 3) l k hlt
      have hS := HS.out
      generalize l[k] = x at hp hs
      generalize ((l.take k).map fun s => psz s.puts + 3).sum = n at *
      have hp' := hp.up hbw
      have HP' := Lib.hid hp'
      have HS := Lib.hid hs
      clear hp' hs
      clear hcp hp
      go_wp2_with fail
      refine (puts_any G _ x.puts 20000 _ (by have := HP'.out; simpa using this) (by omega) (by omega)).mono ?_
      rintro e w1 ⟨n1, rfl, hn1, hn2, hn3, hb1⟩
      have hbw1 := Below.up hbw hb1
      have HN3 := Lib.hid hn3
      have HB1 := Lib.hid hb1
      clear hn3 hb1
      go_wp2_with fail
      refine (sum_any n [n1, 3] _ 0 _ _ (by omega) (by omega) (fun i hi => ?_) (by simp) (fun i hi => ?_)).mono ?_
      · simp only [List.length_cons, List.length_nil] at hi
        rcases (show i = 0 ∨ i = 1 by omega) with rfl | rfl
        · exact ⟨hn1, by simp; omega⟩
        · exact ⟨by simp, by simp⟩
      · simp only [List.length_cons, List.length_nil] at hi
        rcases (show i = 0 ∨ i = 1 by omega) with rfl | rfl
        · rw [cell_row (heap_alloc_new w1 _)]; rfl
        · rw [cell_row (heap_alloc_new w1 _)]; rfl
      rintro e w2 ⟨rfl, rfl⟩
      have hn3 := HN3.out
      by_cases hbig : n1 ≤ 20000
      · have hx := hn3 hbig
        have hv2 : sumTo n [n1, 3] = ((n + (psz x.puts + 3) : Nat) : Int) := by
          rw [sumTo_go _ _ _ (by omega) (by omega), sumTo_go _ _ _ (by omega) (by omega)]
          show (n : Int) + n1 + 3 = _
          omega
        rw [hv2]
        generalize hm : n + (psz x.puts + 3) = m at *
        have HM := Lib.hid hm
        clear hv2 hx hm hn3
        by_cases hm2 : m ≤ 20000
        · have hm2' : ((m : Nat) : Int) ≤ 20000 := by omega
          go_wp2_with fail
          go_roundw
          case rel => exact ⟨k + 1, by omega, by go_num, by rw [HS.out], hbw1.alloc (by have := hbw1.size; omega) _, by unfold Hid; rw [HS.out]; exact hm2⟩
          case measure => simp [intOf]; omega
        · have hm2' : 20000 < ((m : Nat) : Int) := by omega
          go_wp2_with fail
          go_ret
          exact ⟨false, rfl, fun h => (by cases h), hbw1.alloc (by have := hbw1.size; omega) _⟩
      · have hv2 : 20000 < sumTo n [n1, 3] := by
          simp only [sumTo]
          split
          · omega
          · split <;> omega
        generalize sumTo n [n1, 3] = q at *
        clear hn3
        go_wp2_with fail
        go_ret
        exact ⟨false, rfl, fun h => (by cases h), hbw1.alloc (by have := hbw1.size; omega) _⟩
    · have hkl : k = l.length := by omega
      have hS := HS.out
      have hsz : ((l.take k).map fun s => psz s.puts + 3).sum = ssz15 l := by rw [hkl, List.take_length]; rfl
      have HSZ := Lib.hid hsz
      have HKL := Lib.hid hkl
      clear hsz hkl
      by_cases h100 : l.length ≤ 120
      · have h100' : ((l.length : Nat) : Int) ≤ 120 := by omega
        go_wp2_with fail
        go_ret
        exact ⟨true, rfl, fun _ => ⟨by rw [← HSZ.out]; exact hS, h100⟩, hbw⟩
      · have h100' : ¬ ((l.length : Nat) : Int) ≤ 120 := by omega
        go_wp2_with fail
        go_ret
        exact ⟨false, rfl, fun h => (by cases h), hbw⟩

theorem ssz15_mem {l : List Step15} {s : Step15} (h : s ∈ l) : s.puts.length ≤ ssz15 l := by
  unfold ssz15
  induction l with
  | nil => cases h
  | cons a t ih =>
    simp only [List.map_cons, List.sum_cons]
    rcases List.mem_cons.1 h with rfl | h
    · unfold psz; omega
    · have := ih h; omega
/-- A step's cells, where things stand. -/
theorem step15_cells {W wr : World} {L : List Asn} {lp : Option Addr} {lc : Nat} {l : List Step15} (HL : Hid (Steps15 (Old W) W (.slice lp l.length lc) l)) (HS : Hid (Sep W (OldA W :: L) wr)) {k : Nat} (hk : k < l.length) (hz : ssz15 l ≤ 20000) :
    ∃ s bb o pp pc, l[k] = s ∧ lp = some ⟨bb, o, none⟩ ∧ bb < W.heap.size ∧ W.cell? ⟨bb, o + k * 5, none⟩ = some (.int .i64 s.kind) ∧ W.cell? ⟨bb, o + k * 5 + 4, none⟩ = some (.int .i64 s.n) ∧
      W.cell? ⟨bb, o + k * 5 + 3, none⟩ = some (.slice pp s.puts.length pc) ∧ Hid (∀ L', OldA W :: L = L' → ∀ i, i ≠ 0 → ∀ G, Sc.Rest L' i G wr → TxAt G wr (.agg #[.int .i64 s.n, .slice pp s.puts.length pc]) s.t) ∧ Hid (s.puts.length ≤ 20000) ∧ I64 s.kind ∧ I64 s.n := by
  obtain ⟨p', c', hv', _, _, _, g5⟩ := HL.out
  cases hv'
  obtain ⟨bb, o, rfl, hgb, hck, hki, hcf, hcl, hif, hil, ⟨pv, hcp, hp⟩, hcn, hin⟩ := g5 k hk
  have hpl := ssz15_mem (List.getElem_mem hk)
  have hbo := HS.out.old
  have hp' := hp
  obtain ⟨pp, pc, rfl, _⟩ := hp'
  refine ⟨l[k], bb, o, pp, pc, rfl, rfl, hgb, hck, hcn, hcp, ?_, by unfold Hid; omega, hki, hin⟩
  rintro L' rfl i hi G hG
  exact ⟨_, rfl, hin, (PutsAt.same hp (hbo.block · ·)).mono (rest_old hi hG)⟩
theorem one_code20 {a : Int} (h : 0 ≤ a ∧ a < 20) {S : List Ext} (hS : S = [] ∨ S = [⟨a, 1⟩]) : readCode 20 S ⟨a, 1⟩ = 0 ∧ addNext 64 S [⟨a, 1⟩] = [⟨a, 1⟩] := by
  have hg : SetG S := by
    rcases hS with rfl | rfl
    · exact SetG.nil
    · have h1 := addNext_good (most := 64) (l := [⟨a, 1⟩]) SetG.nil
      have h2 := (addCode_is (most := 64) SetG.nil (l := [⟨a, 1⟩]) (may_one (by omega)) (by simp) (normE_ext (l := [] ++ [⟨a, 1⟩]) (m := [⟨a, 1⟩]) (by simp) (Canon.mk1 (by simp)) fun _ => Iff.rfl)).2
      rw [if_neg (by simp)] at h2
      rw [h2] at h1
      exact h1
  have hn : normE (S ++ [⟨a, 1⟩]) = [⟨a, 1⟩] := by
    refine normE_ext (m := [⟨a, 1⟩]) ?_ (Canon.mk1 (by simp)) fun b => ?_
    · rcases hS with rfl | rfl <;> simp
    · rcases hS with rfl | rfl <;> simp [cov]
  obtain ⟨h1, h2⟩ := addCode_is (most := 64) hg (l := [⟨a, 1⟩]) (may_one (by omega)) (by simp) hn
  rw [if_neg (by simp)] at h1 h2
  refine ⟨?_, h2⟩
  unfold readCode
  rw [if_neg (by simp only; omega), if_neg (by rw [withinB_yes (by simp only; omega)]; decide), if_neg (by rw [h1]; decide)]
theorem getV_above {blocks last : Int} {vs : Vers} (h : GoodE blocks last vs) {t : Tx} (ht : 5 < t.time) (a : Int) : getV (applyNext blocks last vs t) a 5 = getV vs a 5 := by
  unfold applyNext
  split
  · rename_i hc; exact (getV_apply h hc a 5).1 (.inl ht)
  · rfl
end Go.Proofs

/- The set of a View: what was read, as a Set of its own. -/
namespace Go.Proofs
open Go.RowKit Sc

/-- Extents of a store of so many blocks. -/
def InB (blocks : Int) (S : List Ext) : Prop := ∀ e ∈ S, 0 ≤ e.first ∧ 1 ≤ e.len ∧ e.first + e.len ≤ blocks
theorem InB.nil (blocks : Int) : InB blocks [] := by simp [InB]
theorem InB.all {blocks : Int} {S : List Ext} (h : InB blocks S) (hb : blocks ≤ 1048576) : allB S = true := by
  unfold allB
  rw [List.all_eq_true]
  intro e he
  have := h e he
  exact mayB_iff.2 (by omega)
theorem addNext_self {S : List Ext} (hS : SetG S) (ha : allB S = true) (hl : S.length ≤ 64) : addNext 64 [] S = S := by
  by_cases hn : S = []
  · subst hn
    have h0 : addCode 64 [] [] = 0 := by unfold addCode; simp [allB]
    unfold addNext
    rw [if_pos h0, List.nil_append]
    exact normE_ext (by simp) Canon.nil fun _ => Iff.rfl
  · have e : normE ([] ++ S) = S := normE_ext (by simpa using hS.1.1) hS.1 fun _ => by rw [List.nil_append]
    have h := (addCode_is (most := 64) SetG.nil ha hn e).2
    rw [h, if_neg (by omega)]
/-- A sub-extent of a covered row lies in bounds. -/
theorem InB.of_cov {blocks : Int} {S : List Ext} (hc : Canon S) (h : ∀ x, cov S x → 0 ≤ x ∧ x < blocks) : InB blocks S := fun e he => by
  have h1 := hc.1 e he
  have a := h e.first (cov_mem he (by omega))
  have b := h (e.first + e.len - 1) (cov_mem he (by omega))
  omega
theorem InB.cov {blocks : Int} {S : List Ext} (h : InB blocks S) {x : Int} (hx : cov S x) : 0 ≤ x ∧ x < blocks := by
  obtain ⟨e, he, h1, h2⟩ := hx
  have := h e he
  omega
theorem InB.add {blocks most : Int} {S l : List Ext} (hS : SetG S) (h : InB blocks S) (hl : InB blocks l) : InB blocks (addNext most S l) := by
  by_cases hc : addCode most S l = 0
  · exact InB.of_cov (addNext_good hS).1 fun x hx => ((addNext_cov hS hc x).1 hx).elim (fun a => h.cov a) (fun a => hl.cov a)
  · unfold addNext
    rw [if_neg hc]; exact h
set_option maxRecDepth 100000 in
set_option maxHeartbeats 1000000 in
theorem viewSet_sep {W w : World} {L : List Asn} (h : Hid (Sep W L w)) (iv is : Nat) {v sb : Nat} {mp bp : Value} {t : Int} {S : List Ext} {R : List Sc.Read} (hv : L[iv]? = some (ViewA (.pointer (some ⟨v, 0, none⟩)) mp bp t (.pointer (some ⟨sb, 0, none⟩)) R)) (hs : L[is]? = some (SetA (.pointer (some ⟨sb, 0, none⟩)) 64 S))
    (hg : SetG S) (ha : allB S = true) (hl : S.length ≤ 64) : Calls Try.prog 19 #[.pointer (some ⟨v, 0, none⟩)] w fun e w' => ∃ b : Nat, e = .returned (.pointer (some ⟨b, 0, none⟩)) ∧ Hid (Below w.heap.size w w') ∧ Hid (Sep W (L ++ [SetA (.pointer (some ⟨b, 0, none⟩)) 64 S]) w') := by
  have hN := addNext_self hg ha hl
  obtain ⟨F, hF, _⟩ := h.out.get iv hv
  obtain ⟨b, rv, D, hb, _, hh, _, _, _⟩ := hF
  cases hb
  have hc3 : w.cell? ⟨v, 3, none⟩ = some (.pointer (some ⟨sb, 0, none⟩)) := by rw [cell_row hh]; rfl
  have HIS : Hid (is < L.length) := (List.getElem?_eq_some_iff.1 hs).1
  have HN := Lib.hid hN
  have HS := Lib.hid hs
  have HG := Lib.hid hg
  clear hN hs hg
  clear hh hv
  go_enter Try.func19, Try.ntmps19
  go_wp2_with fail
  refine (setNew_any 64 w).mono ?_
  rintro e w1 ⟨s, rfl, hm, hb1⟩
  have hS1 := h.out.new hb1 (SetA _ 64 []) (fun _ h => h) hm
  have hold := (Sep.start w).new hb1 (SetA (.pointer (some ⟨s, 0, none⟩)) 64 []) (fun _ h => h) hm
  have hc3' := cell_up hb1 hc3
  have HS1 := Lib.hid hS1
  have HB1 := Lib.hid hb1
  have HOLD := Lib.hid hold
  clear hS1 hb1 hold
  clear hm hc3
  go_wp2_with fail
  refine (setExtents_sep HS1.out is (by rw [List.getElem?_append_left HIS.out]; exact HS.out) (by omega)).mono ?_
  rintro e w2 ⟨p, cp, rfl, HX, HB2, HS2⟩
  have hold2 := HOLD.out.up HB2.out
  have HX2 : Hid (ExtsAt (fun _ => True) w2 (.slice p S.length cp) S) := SlAt.mono HX.out (fun _ _ => trivial) (fun _ _ _ h => h)
  have HOLD2 := Lib.hid hold2
  clear hold2
  go_wp2_with fail
  refine (setAdd_sep HOLD2.out 1 rfl S HX2.out SetG.nil (by simp) (by omega)).mono ?_
  rintro e w3 ⟨rfl, HS3⟩
  rw [HN.out] at HS3
  have hfin := h.out.append HS3.out
  have hol3 := HS3.out.old
  generalize addCode 64 [] S = cd
  have HFIN := Lib.hid hfin
  have HOL3 := Lib.hid hol3
  clear hfin hol3
  go_wp2
  go_ret
  exact ⟨s, rfl, HOL3.out, HFIN.out⟩
end Go.Proofs

/- scarpalike.Extents: two lists of extents. -/
namespace Go.Proofs
open Go.RowKit Sc

def ekey (e : Ext) : Int × Int := (e.first, e.len)
theorem ekey_inj {a b : Ext} (h : ekey a = ekey b) : a = b := by
  unfold ekey at h
  exact ext_eta (congrArg Prod.fst h) (congrArg Prod.snd h)
def sameE (a b : List Ext) : Bool := a.map ekey == b.map ekey
theorem sameE_iff {a b : List Ext} : sameE a b = true ↔ a = b := by
  unfold sameE
  rw [beq_iff_eq]
  constructor
  · intro h
    exact List.map_inj_right (fun x y h => ekey_inj h) |>.1 h
  · rintro rfl; rfl
theorem sameE_no {a b : List Ext} (h : a ≠ b) : sameE a b = false := by
  cases hq : sameE a b with
  | false => rfl
  | true => exact absurd (sameE_iff.1 hq) h
set_option maxHeartbeats 1000000 in
theorem exts_any (Ga Gb : Nat → Prop) (va vb : Value) (a b : List Ext) (w : World) (ha : ExtsAt Ga w va a) (hb : ExtsAt Gb w vb b) :
    Calls Try.prog 29 #[va, vb] w fun e w' => e = .returned (.bool (sameE a b)) ∧ Below w.heap.size w w' := by
  obtain ⟨pa, ca, rfl, ha1, ha2, ha3, ha4⟩ := ha
  obtain ⟨pb, cb, rfl, hb1, hb2, hb3, hb4⟩ := hb
  by_cases hlen : a.length = b.length
  case neg =>
    have hne : (((a.length : Nat) : Int) != ((b.length : Nat) : Int)) = true := by rw [bne_iff_ne]; omega
    have hne2 : sameE a b = false := sameE_no fun h => hlen (by rw [h])
    have HNE2 := Lib.hid hne2
    clear hne2
    clear ha4 hb4 ha3 hb3 hlen
    go_enter Try.func29, Try.ntmps29
    go_wp2
    go_ret
    rw [HNE2.out]
    exact ⟨rfl, Below.refl _ _⟩
  case pos =>
    have heq : (((a.length : Nat) : Int) != ((b.length : Nat) : Int)) = false := by rw [bne_eq_false_iff_eq]; omega
    have HA := Lib.hid ha4
    have HB := Lib.hid hb4
    have HL := Lib.hid hlen
    clear ha4 hb4 ha3 hb3 hlen
    go_enter Try.func29, Try.ntmps29
    go_wp2
    go_loopw [5] (fun i wr => ∃ k : Nat, k ≤ a.length ∧ i = .int .i64 k ∧ Hid (a.take k = b.take k) ∧ Below w.heap.size w wr) (fun i _ => a.length - (intOf i).toNat)
    case atStart => exact ⟨0, by omega, rfl, rfl, Below.refl _ _⟩
    case round =>
      obtain ⟨k, hk, rfl, HT, hbw⟩ := hrel
      by_cases hlt : k < a.length
      · have hltb : k < b.length := by rw [← HL.out]; exact hlt
        obtain ⟨g1, o1, rfl, _, hc1, hd1, _⟩ := HA.out k hlt
        obtain ⟨g2, o2, rfl, _, hc2, hd2, _⟩ := HB.out k hltb
        have hc1' := cell_up hbw hc1
        have hc2' := cell_up hbw hc2
        have hd1' := cell_up hbw hd1
        have hd2' := cell_up hbw hd2
        have hta := take_snoc a k hlt
        have htb := take_snoc b k hltb
        have hend : a[k] ≠ b[k] → sameE a b = false := fun hne => sameE_no fun h => hne (by subst h; rfl)
        generalize a[k] = x at *
        generalize b[k] = y at *
        have hkI : (k : Int) < (b.length : Int) := by omega
        have HTA := Lib.hid hta
        have HTB := Lib.hid htb
        have HEND := Lib.hid hend
        clear hta htb hend
        clear hc1 hc2 hd1 hd2
        by_cases hx1 : x.first = y.first
        · by_cases hx2 : x.len = y.len
          · have hxy : x = y := ext_eta hx1 hx2
            subst hxy
            clear hx1 hx2
            go_wp2
            go_quiet (fail)
            go_wp2
            go_roundw
            case rel => exact ⟨k + 1, by omega, by go_num, by unfold Hid; rw [HTA.out, HTB.out, HT.out], below_drewN hbw _⟩
            case measure => simp [intOf]; omega
          · have hfl := HEND.out (fun e => hx2 (by rw [e]))
            rw [← hx1] at hc2'
            have hq2 : (x.len == y.len) = false := by rw [beq_eq_false_iff_ne]; exact hx2
            have hq3 : (x.len != y.len) = true := by rw [bne_iff_ne]; exact hx2
            have HFL := Lib.hid hfl
            clear hfl
            clear hx1 
            go_wp2
            go_quiet (fail)
            go_wp2
            go_ret
            exact ⟨congrArg boolRet HFL.out.symm, below_drewN hbw _⟩
        · have hfl := HEND.out (fun e => hx1 (by rw [e]))
          have hq2 : (x.first == y.first) = false := by rw [beq_eq_false_iff_ne]; exact hx1
          have hq3 : (x.first != y.first) = true := by rw [bne_iff_ne]; exact hx1
          have HFL := Lib.hid hfl
          clear hfl
          go_wp2
          go_quiet (fail)
          go_wp2
          go_ret
          exact ⟨congrArg boolRet HFL.out.symm, below_drewN hbw _⟩
      · have hkl : k = a.length := by omega
        have hs : sameE a b = true := sameE_iff.2 (by
          have := HT.out
          rw [hkl, List.take_length, HL.out, List.take_length] at this; exact this)
        have HS := Lib.hid hs
        have HKL := Lib.hid hkl
        clear hs hkl
        go_wp2
        go_ret
        exact ⟨congrArg boolRet HS.out.symm, hbw⟩
end Go.Proofs

/- RsetPlays: what is known behind its steps. -/
namespace Go.Proofs
open Go.RowKit Sc

theorem viewAt_sep {W w : World} {L : List Asn} (h : Hid (Sep W L w)) (i : Nat) {v : Nat} {mp bp sp : Value} {t : Int} {R : List Sc.Read} (hi : L[i]? = some (ViewA (.pointer (some ⟨v, 0, none⟩)) mp bp t sp R)) :
    Calls Try.prog 22 #[.pointer (some ⟨v, 0, none⟩)] w fun e w' => e = .returned (.int .i64 t) ∧ Hid (Below w.heap.size w w') := by
  obtain ⟨F, ⟨b, rv, D, hb, _, hh, _, _, _⟩, _⟩ := h.out.get i hi
  cases hb
  have hc : w.cell? ⟨v, 2, none⟩ = some (.int .i64 t) := by rw [cell_row hh]; rfl
  clear hh hi
  go_enter Try.func22, Try.ntmps22
  go_wp2
  go_ret
  exact ⟨rfl, Below.refl _ _⟩
theorem Steps15.moreP {w w' : World} {v : Value} {l : List Step15} (h : Steps15 (Old w) w v l) (hb : Below w.heap.size w w') : Steps15 (Old w') w' v l := by
  have hz := hb.size
  refine SlAt.mono (h.up hb) (fun k (hk : k < w.heap.size) => (show k < w'.heap.size by omega)) ?_
  rintro b o x ⟨h1, h2, h3, h4, h5, h6, ⟨u, h7, h8⟩, h9, h10⟩
  exact ⟨h1, h2, h3, h4, h5, h6, ⟨u, h7, h8.mono fun k (hk : k < w.heap.size) => (show k < w'.heap.size by omega)⟩, h9, h10⟩
def worldP (m b v x y z : Nat) : Array Value := #[.pointer (some ⟨m, 0, none⟩), .pointer (some ⟨b, 0, none⟩), .pointer (some ⟨v, 0, none⟩), .pointer (some ⟨x, 0, none⟩), .pointer (some ⟨y, 0, none⟩), .pointer (some ⟨z, 0, none⟩)]
def stepP (kd f n : Int) (pv : Value) (t : Int) : Array Value := #[.int .i64 kd, .int .i64 f, .int .i64 n, pv, .int .i64 t]
def playsL15 (W : World) (m b s v x y z q : Nat) (blocks at_ last last2 : Int) (vs : Vers) (B : List (Int × Bytes)) (M : List RVer) (rb : List Put) (S : List Ext) (R : List Sc.Read) (S2 : List Ext) (R2 : List Sc.Read) (L : List Asn) : List Asn :=
  OldA W :: ExtA (.pointer (some ⟨m, 0, none⟩)) blocks last vs :: BufA (.pointer (some ⟨b, 0, none⟩)) blocks 16 B :: RMapA (.pointer (some ⟨x, 0, none⟩)) blocks last2 M :: RBufA (.pointer (some ⟨y, 0, none⟩)) blocks 16 rb :: SetA (.pointer (some ⟨s, 0, none⟩)) 64 S :: ViewA (.pointer (some ⟨v, 0, none⟩)) (.pointer (some ⟨m, 0, none⟩)) (.pointer (some ⟨b, 0, none⟩)) at_ (.pointer (some ⟨s, 0, none⟩)) R :: RViewA z (.pointer (some ⟨x, 0, none⟩)) (.pointer (some ⟨y, 0, none⟩)) at_ S2 R2 :: BoxA q (worldP m b v x y z) 36 :: L
theorem plays15_start {W w : World} {n t : Int} {m b s v x y z q : Nat} (h : Hid (Sep W (OldA W :: freshL n t m b s v x y z q) w)) : Hid (Sep W (playsL15 W m b s v x y z q n t 0 0 [] [] [] [] [] [] [] [] []) w) :=
  ((h.out.imp 3 (A' := RMapA (.pointer (some ⟨x, 0, none⟩)) n 0 []) rfl (fun F _ ⟨hF, hh⟩ => ⟨x, .slice none 0 0, fun _ => False, rfl, hF, hh, OutS.nil, fun g hg => by simp [Value.ownBlock] at hg, fun q h => h.elim⟩)).imp 4 (A' := RBufA (.pointer (some ⟨y, 0, none⟩)) n 16 []) rfl (fun F _ ⟨hF, hh⟩ => ⟨y, .slice none 0 0, rfl, hF, hh, SlAt.nil⟩)).imp 7 (A' := RViewA z (.pointer (some ⟨x, 0, none⟩)) (.pointer (some ⟨y, 0, none⟩)) t [] []) rfl
    (fun F _ ⟨hF, hh⟩ => ⟨.slice none 0 0, .slice none 0 0, fun _ => False, hF, hh, SlAt.nil, OutS.nil, fun g hg => by simp [Value.ownBlock] at hg, fun q h => h.elim⟩)
/-- What is known behind k steps. -/
structure P15 (blocks last : Int) (vs : Vers) (B : List (Int × Bytes)) (M : List RVer) (rb : List Put) (S : List Ext) (R : List Sc.Read) (n k : Nat) : Prop where
  good : GoodE blocks last vs
  mapr : MapR vs M
  bufr : BufR B rb
  bufg : BufG blocks B
  setg : SetG S
  inb : InB blocks S
  s64 : S.length ≤ 64
  rlen : R.length ≤ 16 * k
  r40 : ∀ x ∈ R, x.data.length = 40
  mlen : M.length ≤ n
  blen : (B.length : Int) ≤ 16
theorem P15.start (blocks : Int) : P15 blocks 0 [] [] [] [] [] [] 0 0 := ⟨good_zero blocks, MapR.start, BufR.start, BufG.start blocks, SetG.nil, InB.nil blocks, by simp, by simp, by simp, by simp, by simp⟩
section
variable {blocks last : Int} {vs : Vers} {B : List (Int × Bytes)} {M : List RVer} {rb : List Put} {S : List Ext} {R : List Sc.Read} {n k : Nat}
theorem P15.skip (h : P15 blocks last vs B M rb S R n k) {m : Nat} (hm : n ≤ m) : P15 blocks last vs B M rb S R m (k + 1) :=
  ⟨h.good, h.mapr, h.bufr, h.bufg, h.setg, h.inb, h.s64, by have := h.rlen; omega, h.r40, Nat.le_trans h.mlen hm, h.blen⟩
theorem P15.blk (h : P15 blocks last vs B M rb S R n k) (t x : Int) : refBlk M rb t x = blkV vs B t x := (blk_ref h.mapr h.bufr t x).symm
theorem P15.b40 (h : P15 blocks last vs B M rb S R n k) (t x : Int) : (refBlk M rb t x).length = 40 := by rw [h.blk]; exact blkV_length h.good h.bufg t x
theorem P15.reads (h : P15 blocks last vs B M rb S R n k) (t a : Int) (m : Nat) : refReads M rb t a m = readsV vs B t a m := by
  unfold refReads readsV
  refine List.map_congr_left fun i _ => ?_
  rw [h.blk, own_ref h.bufr]
theorem P15.rows (h : P15 blocks last vs B M rb S R n k) (t a : Int) (m : Nat) : refRows M rb t a m = rowsF (fun i : Nat => blkV vs B t (a + i)) m := by
  unfold refRows
  congr 1
  funext i
  exact h.blk t (a + i)
theorem P15.read (h : P15 blocks last vs B M rb S R n k) (t : Int) {e : Ext} (hc : readCode blocks S e = 0) {m : Nat} (hm : n ≤ m) : P15 blocks last vs B M rb (addNext 64 S [e]) (R ++ readsV vs B t e.first e.len.toNat) m (k + 1) := by
  have hc1 : 1 ≤ e.len ∧ e.len ≤ 16 := by
    unfold readCode at hc
    split at hc
    · cases hc
    · omega
  have hc2 : withinB blocks e.first e.len = true ∧ addCode 64 S [e] = 0 := by
    unfold readCode at hc
    rw [if_neg (by omega)] at hc
    split at hc
    · cases hc
    · rename_i hw
      split at hc
      · cases hc
      · rename_i ha
        exact ⟨by simpa using hw, Classical.not_not.1 ha⟩
  obtain ⟨hw, ha⟩ := hc2
  unfold withinB at hw
  simp only [Bool.and_eq_true, decide_eq_true_eq] at hw
  refine ⟨h.good, h.mapr, h.bufr, h.bufg, addNext_good h.setg, h.inb.add h.setg (fun x hx => by rw [List.mem_singleton] at hx; subst hx; omega), ?_, ?_, ?_, Nat.le_trans h.mlen hm, h.blen⟩
  · have hn : addNext 64 S [e] = normE (S ++ [e]) := by unfold addNext; rw [if_pos ha]
    rw [hn]
    unfold addCode at ha
    split at ha
    · cases ha
    · rw [if_neg (by simp)] at ha
      split at ha
      · cases ha
      · omega
  · rw [List.length_append, readsV_length]
    have := h.rlen
    omega
  · intro x hx
    rcases List.mem_append.1 hx with hx | hx
    · exact h.r40 x hx
    · unfold readsV at hx
      obtain ⟨i, _, rfl⟩ := List.mem_map.1 hx
      exact blkV_length h.good h.bufg t _
theorem P15.write (h : P15 blocks last vs B M rb S R n k) (l : List Put) {m : Nat} (hm : n ≤ m) : P15 blocks last vs (bufNext blocks 16 B l) M (rbNext blocks 16 rb l) S R m (k + 1) :=
  ⟨h.good, h.mapr, h.bufr.next l, h.bufg.next l, h.setg, h.inb, h.s64, by have := h.rlen; omega, h.r40, Nat.le_trans h.mlen hm, (bufNext_len l).2 h.blen⟩
theorem P15.apply (h : P15 blocks last vs B M rb S R n k) (t : Tx) {m : Nat} (hm : n + t.puts.length ≤ m) : P15 blocks (applyLast blocks last t) (applyNext blocks last vs t) B (if applyCode blocks last t = 0 then mergeV t.time t.puts M else M) rb S R m (k + 1) :=
  ⟨h.good.next t, h.mapr.next t, h.bufr, h.bufg, h.setg, h.inb, h.s64, by have := h.rlen; omega, h.r40, by have := next_len (blocks := blocks) (last := last) (L := M) t; have := h.mlen; omega, h.blen⟩
theorem P15.vlen (h : P15 blocks last vs B M rb S R n k) (key : Int) (l : List Put) (hl : alook vs key = some l) : l.length ≤ n := by
  have := h.mapr.look key
  rw [hl] at this
  simp only [Option.getD_some] at this
  rw [this]
  unfold grp
  rw [List.length_map]
  exact Nat.le_trans (List.length_filter_le _ _) h.mlen
theorem P15.rlen' (h : P15 blocks last vs B M rb S R n k) : rb.length ≤ 16 := by rw [h.bufr.len]; have := h.blen; omega
end
theorem ssz15_take {l : List Step15} {k : Nat} (hk : k < l.length) : ssz15 (l.take k) + l[k].puts.length ≤ ssz15 (l.take (k + 1)) := by
  have := sum_take_succ (fun s : Step15 => psz s.puts + 3) l k hk
  unfold ssz15
  rw [this]
  unfold psz
  omega
theorem ssz15_le {l : List Step15} (k : Nat) : ssz15 (l.take k) ≤ ssz15 l := by
  have h : ssz15 l = ssz15 (l.take k) + ssz15 (l.drop k) := by
    unfold ssz15
    rw [← List.sum_append, ← List.map_append, List.take_append_drop]
  omega
/-- The cells of the world's box and of the step's. -/
def GW (q sb : Nat) (cs ds : Array Value) (W : World) : Prop := (∀ j (h : j < cs.size), W.cell? ⟨q, j, none⟩ = some cs[j]) ∧ ∀ j (h : j < ds.size), W.cell? ⟨sb, j, none⟩ = some ds[j]
theorem gw_of {W w : World} {L : List Asn} (h : Sep W L w) (i k : Nat) {q sb : Nat} {cs ds : Array Value} {T T2 : TypeId} (hi : L[i]? = some (BoxA q cs T)) (hk : L[k]? = some (BoxA sb ds T2)) : GW q sb cs ds w :=
  ⟨fun j hj => fresh_cells h i hi j hj, fun j hj => fresh_cells h k hk j hj⟩
end Go.Proofs
