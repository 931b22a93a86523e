/- Package rset: Reads of a View, each of which may be written. -/
import Derived.Test.YtajjadoalfjnkaaGreatTx7
namespace Go.Proofs
open Go.RowKit Sc

/-- Reads that may be written. -/
def readW (G : Nat → Prop) : Elem Sc.Read := fun w b o x => w.cell? ⟨b, o, none⟩ = some (.int .i64 x.lba) ∧ I64 x.lba ∧ (∃ v, w.cell? ⟨b, o + 1, none⟩ = some v ∧ BytesW G w v x.data) ∧ w.cell? ⟨b, o + 2, none⟩ = some (.bool x.own)
theorem readW_stable (G : Nat → Prop) : Stable G (readW G) := fun w w' b o x hs hb ⟨h1, h2, ⟨v, h3, h4⟩, h5⟩ =>
  ⟨by rw [hs.cell hb]; exact h1, h2, ⟨v, by rw [hs.cell hb]; exact h3, h4.same hs⟩, by rw [hs.cell hb]; exact h5⟩
def ReadsW (G : Nat → Prop) : World → Value → List Sc.Read → Prop := SlAt G 3 (readW G)
def ReadsWA (v : Value) (l : List Sc.Read) : Asn := ⟨fun F w => ReadsW F w v l, fun F _ _ hs _ h => SlAt.same h hs (readW_stable F)⟩
def readRW (D : Nat → Prop) (w : World) (cs : List Value) (x : Sc.Read) : Prop := ∃ dv, cs = [.int .i64 x.lba, dv, .bool x.own] ∧ I64 x.lba ∧ BytesW D w dv x.data
theorem readRW_stable : RStable readRW := fun _ _ _ _ _ _ hd hs ⟨dv, h1, h2, h3⟩ => ⟨dv, h1, h2, (h3.same hs).mono hd⟩
theorem OutS.readsAtV {T : Nat} {B : Nat} {w : World} {v : Value} {l : List Sc.Read} {D : Nat → Prop} {G : Nat → Prop} (h : OutS T 3 readR B w v l D) (hG : ∀ b, B ≤ b → b < w.heap.size → G b) : ReadsAt G w v l := by
  have hD : ∀ b, D b → G b := by obtain ⟨_, _, _, _, _, h5⟩ := h; exact fun b hb => hG b (h5 b hb).1 (h5 b hb).2.1
  refine h.slAt hG fun b o cs x hl hc _ ⟨dv, he, hi, hd⟩ => ?_
  subst he
  exact ⟨hc 0 (by omega), hi, ⟨dv, hc 1 (by omega), hd.mono hD⟩, hc 2 (by omega)⟩
theorem OutS.readsW {T : Nat} {B : Nat} {w : World} {v : Value} {l : List Sc.Read} {D : Nat → Prop} {G : Nat → Prop} (h : OutS T 3 readRW B w v l D) (hG : ∀ b, B ≤ b → b < w.heap.size → G b) : ReadsW G w v l := by
  have hD : ∀ b, D b → G b := by obtain ⟨_, _, _, _, _, h5⟩ := h; exact fun b hb => hG b (h5 b hb).1 (h5 b hb).2.1
  refine h.slAt hG fun b o cs x hl hc _ ⟨dv, he, hi, hd⟩ => ?_
  subst he
  exact ⟨hc 0 (by omega), hi, ⟨dv, hc 1 (by omega), hd.mono hD⟩, hc 2 (by omega)⟩
theorem below_setW {B b i : Nat} (w : World) (v : Value) (hb : B ≤ b) : Below B w (w.setCell ⟨b, i, none⟩ v) :=
  ⟨by simp [World.setCell], by simp [World.setCell], by simp [World.setCell], by simp [World.setCell], fun k hk => Below.heap_setCell _ _ _ k (show k ≠ b by omega)⟩
set_option maxRecDepth 100000 in
set_option maxHeartbeats 2000000 in
theorem viewReads_w {b : Nat} {mp bp sp rv : Value} {t : Int} {R : List Sc.Read} {G : Nat → Prop} (w : World) (hh : w.heap[b]? = some (.cells #[mp, bp, .int .i64 t, sp, rv] 174 (0, 0))) (hr : ReadsAt G w rv R) (hd : ∀ x ∈ R, x.data.length ≤ 1000) (hR : R.length ≤ 1000000) :
    Calls Tryz.prog 76 #[.pointer (some ⟨b, 0, none⟩)] w fun e w' => ∃ p c, e = .returned (.slice p R.length c) ∧ Hid (ReadsW (New w w') w' (.slice p R.length c) R) ∧ Hid (Below w.heap.size w w') := by
  obtain ⟨rp, rc, rfl, h1, h2, h3, h4⟩ := hr
  have hc4 : w.cell? ⟨b, 4, none⟩ = some (.slice rp R.length rc) := by rw [cell_row hh]; rfl
  obtain ⟨ir, hr0, hr1, hr2, hr3⟩ := info_parts infoRead
  have H4 := Lib.hid h4
  have HH := Lib.hid hh
  have HD := Lib.hid hd
  have HR := Lib.hid hR
  clear h4 hh hd hR
  clear h1 h2 h3
  go_enter Tryz.func76, Tryz.ntmps76
  go_wp2_with fail
  go_loopw [2, 12] (fun out i wr => ∃ k : Nat, ∃ p c D, k ≤ R.length ∧ i = .int .i64 k ∧ out = .slice p k c ∧ Hid (OutS 76 3 readRW w.heap.size wr (.slice p k c) (R.take k) D) ∧ Hid (Below w.heap.size w wr)) (fun _ i _ => R.length - (intOf i).toNat)
  case atStart => exact ⟨0, _, _, _, by omega, rfl, rfl, Lib.hid (by rw [List.take_zero]; exact OutS.nil), Lib.hid (Below.refl _ _)⟩
  case round =>
    obtain ⟨k, op, oc, D, hk, rfl, rfl, HO, HB⟩ := hrel
    by_cases hlt : k < R.length
    case pos =>
      obtain ⟨g, o, rfl, _, hx1, hxi, ⟨dv, hx2, hxd⟩, hx3⟩ := H4.out k hlt
      have htk : R.take (k + 1) = R.take k ++ [R[k]] := take_snoc _ _ hlt
      have hdl : R[k].data.length ≤ 1000 := HD.out _ (List.getElem_mem hlt)
      have hy1 := cell_up HB.out hx1
      have hy2 := cell_up HB.out hx2
      have hy3 := cell_up HB.out hx3
      obtain ⟨dp, dc, rfl⟩ := shape_of hxd rfl
      generalize R[k] = x at *
      have HTK := Lib.hid htk
      have HDL := Lib.hid hdl
      have HXD := Lib.hid hxd
      have HXI := Lib.hid hxi
      clear htk hdl hxd hxi
      clear hx1 hx2 hx3
      go_wp2_with fail
      have hbA := below_alloc wr (.cells #[.int .i64 x.lba, .slice dp x.data.length dc, .bool x.own] 76)
      have hzA : (wr.alloc (.cells #[.int .i64 x.lba, .slice dp x.data.length dc, .bool x.own] 76)).heap.size = wr.heap.size + 1 := by simp
      have hhA := heap_alloc_new wr (.cells #[.int .i64 x.lba, .slice dp x.data.length dc, .bool x.own] 76)
      have hcl := clone_w G _ x.data (wr.alloc (.cells #[.int .i64 x.lba, .slice dp x.data.length dc, .bool x.own] 76)) (BytesAt.up (BytesAt.up HXD.out HB.out) hbA) (by have := HDL.out; omega)
      refine hcl.mono ?_
      rintro e w3 ⟨nv, rfl, hnd, hb3⟩
      obtain ⟨np, nc, rfl⟩ := shape_of hnd.bytes rfl
      have hh3 := (hb3.block wr.heap.size (by omega)).trans hhA
      have hB3 : Below wr.heap.size wr w3 := Below.up hbA hb3
      generalize hwA : wr.alloc (.cells #[.int .i64 x.lba, .slice dp x.data.length dc, .bool x.own] 76) = wA at *
      have hq0 : w3.cell? ⟨wr.heap.size, 0, none⟩ = some (.int .i64 x.lba) := by rw [cell_row hh3]; rfl
      have hq1 : w3.cell? ⟨wr.heap.size, 1, none⟩ = some (.slice dp x.data.length dc) := by rw [cell_row hh3]; rfl
      have hq2 : w3.cell? ⟨wr.heap.size, 2, none⟩ = some (.bool x.own) := by rw [cell_row hh3]; rfl
      have hqz : w3.frozen? ⟨wr.heap.size, 1, none⟩ = false := fz_row hh3 1
      have hB4 : Below wr.heap.size wr (w3.setCell ⟨wr.heap.size, 1, none⟩ (.slice np x.data.length nc)) := hB3.trans (below_setW w3 _ (Nat.le_refl _))
      have hz4 : (w3.setCell ⟨wr.heap.size, 1, none⟩ (.slice np x.data.length nc)).heap.size = w3.heap.size := by simp [World.setCell]
      have hn4 : BytesW (New wA w3) (w3.setCell ⟨wr.heap.size, 1, none⟩ (.slice np x.data.length nc)) (.slice np x.data.length nc) x.data := BytesW.same hnd fun q hq => Below.heap_setCell _ _ _ q (show q ≠ wr.heap.size by have := hq.1; omega)
      have hlk : (R.take k).length = k := by rw [List.length_take]; omega
      have hb5 := below_alloc (w3.setCell ⟨wr.heap.size, 1, none⟩ (.slice np x.data.length nc)) (.cells #[.int .i64 x.lba, .slice np x.data.length nc, .bool x.own] 76)
      obtain ⟨css, q1, q2, q3, q4, q5⟩ := HO.out.up readRW_stable (Below.up hB4 (hb5.mono (by omega)))
      rw [hlk] at q3
      have hown0 := q3.lt
      have HQ1 := Lib.hid q1
      have HQ2 := Lib.hid q2
      have HQ4 := Lib.hid q4
      have HQ5 := Lib.hid q5
      have HN4 := Lib.hid hn4
      have HB4 := Lib.hid hB4
      have HLK := Lib.hid hlk
      have HB5 := Lib.hid hb5
      have HWA := Lib.hid hwA
      have HOWN0 := Lib.hid hown0
      have HZ4 := Lib.hid hz4
      have HZA := Lib.hid hzA
      clear q1 q2 q4 q5 hn4 hB4 hlk hb5 hwA hown0 hz4 hzA
      clear hcl hnd hb3 hB3 hhA hbA hh3
      have hkR := HR.out
      go_wp2_with (at_builtin; (refine wpList_append_lies _ rfl _ _ 71 rfl w.heap.size 76 ir (.agg #[.int .i64 0, .slice none 0 0, .bool false]) 3 40 Tryz.underlying71 hr0 hr1 hr2 hr3 rfl (by decide) _ k css.flatten rfl q3 ⟨w3.heap.size, 0, none⟩ 1 1 [.int .i64 x.lba, .slice np x.data.length nc, .bool x.own] rfl rfl (World.news_of_block (cs := #[.int .i64 x.lba, .slice np x.data.length nc, .bool x.own]) (by rw [← HZ4.out]; exact heap_alloc_new _ _)) (by simp [Value.oneCell']) (by decide) (by unfold maxLen; omega) (by omega) (by have := HB.out.size; have := HB4.out.size; have := HZ4.out; simp; omega) (w3.heap.size + 1) (by simp [World.setCell]) ?_); intro gg cap w6 hown6 hgrow6 hat6 hlt6)
      go_roundw
      case rel =>
        refine ⟨k + 1, _, _, fun b => D b ∨ New wA w3 b, by omega, by go_num, rfl, ?_, ?_⟩
        · have hs : OutS 76 3 readRW w.heap.size w6 (.slice (some ⟨gg, 0, none⟩) ((R.take k).length + 1) cap) (R.take k ++ [x]) (fun b => D b ∨ New wA w3 b) := by
            refine OutS.snoc (v := .slice op k oc) (D3 := New wA w3) readRW_stable HQ1.out HQ2.out HQ4.out HQ5.out (cs := [.int .i64 x.lba, .slice np x.data.length nc, .bool x.own]) (x := x) rfl ⟨_, rfl, HXI.out, HN4.out.up (below_alloc _ _)⟩ (fun q hq => ?_) (by rw [HLK.out]; exact hown6) hgrow6 (hat6.imp id fun h => by rw [h]; simp [World.setCell])
            have h1 := hq.1
            have h2 := hq.2
            have h3 := HB.out.size
            have h4 := HZA.out
            refine ⟨by omega, by simp [World.setCell]; omega, fun e => ?_⟩
            have h5 := (HO.out.own).choose_spec.lt q e
            omega
          rw [HLK.out] at hs
          unfold Hid
          rw [HTK.out]
          exact hs
        · have hb6 := Below.up HB.out (Below.up HB4.out (HB5.out.mono (by have := HB4.out.size; omega)))
          exact hb6.grown hgrow6 (by have := HB.out.size; have := HB4.out.size; have := HZ4.out; simp; omega) (fun q hq => (HOWN0.out q hq).1)
      case measure => simp [intOf]; omega
    case neg =>
      obtain rfl : k = R.length := by omega
      have hOr := HO.out
      rw [List.take_length] at hOr
      have hfin : ReadsW (New w wr) wr (.slice op R.length oc) R := OutS.readsW hOr fun q h1 h2 => ⟨h1, h2⟩
      have HFIN := Lib.hid hfin
      clear hfin
      clear hOr
      go_wp2_with fail
      go_ret
      exact ⟨op, oc, rfl, HFIN, HB⟩
theorem viewReads_sepW {W w : World} {L : List Asn} (h : Hid (Sep W L w)) (i : Nat) {v : Nat} {mp bp sp : Value} {t : Int} {R : List Sc.Read} (hi : L[i]? = some (ViewA (.pointer (some ⟨v, 0, none⟩)) mp bp t sp R)) (hd : ∀ x ∈ R, x.data.length ≤ 1000) (hR : R.length ≤ 1000000) :
    Calls Tryz.prog 76 #[.pointer (some ⟨v, 0, none⟩)] w fun e w' => ∃ p c, e = .returned (.slice p R.length c) ∧ Hid (ReadsW (New w w') w' (.slice p R.length c) R) ∧ Hid (Below w.heap.size w w') := by
  obtain ⟨F, hF, _⟩ := h.out.get i hi
  obtain ⟨b, rv, D, hv, hFb, hh, hO, _, _⟩ := hF
  cases hv
  exact viewReads_w w hh (OutS.readsAtV (G := fun _ => True) hO fun _ _ _ => trivial) hd hR
end Go.Proofs
