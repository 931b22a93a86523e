/- Texts of this claim, one behind the other: WaitW, ReadsW, Mgr16, Rm15, Rm16, RmSep, SamePuts, RmSame, RmSameH, TxnP, Awake23, Steps23. -/
import Derived.Laws.IdiomStrings
import Derived.Laws.BytesArg
import Derived.Test.YtajjadoalfjnkaaGreatRp11
namespace Sc
open Go Go.RowKit
theorem putW_stable (G : Nat → Prop) : Stable G (putW G) := fun w w' b o x hs hb ⟨h1, h2, h3, v, h4, h5⟩ => ⟨by rw [hs.cell hb]; exact h1, h2, by rw [World.frozen?_of_block (w := w) (hs b hb)]; exact h3, v, by rw [hs.cell hb]; exact h4, h5.same hs⟩
theorem PutsW.same {G : Nat → Prop} {w w' : World} {v : Value} {l : List Put} (h : PutsW G w v l) (hs : Same G w w') : PutsW G w' v l := SlAt.same h hs (putW_stable G)
theorem PutsW.mono {G G' : Nat → Prop} {w : World} {v : Value} {l : List Put} (h : PutsW G w v l) (hg : ∀ b, G b → G' b) : PutsW G' w v l := SlAt.mono h hg fun _ _ _ ⟨h1, h2, h3, v, h4, h5⟩ => ⟨h1, h2, h3, v, h4, h5.mono hg⟩
theorem frozen_up {w w' : World} (hb : Below w.heap.size w w') {b o : Nat} {v : Value} (hc : w.cell? ⟨b, o, none⟩ = some v) (h : w.frozen? ⟨b, o, none⟩ = false) : w'.frozen? ⟨b, o, none⟩ = false := by
 rw [World.frozen?_of_block (w := w) (hb.block b (World.block_lt_of_cell? w _ hc))]; exact h
theorem PutsW.up {G : Nat → Prop} {w w' : World} {v : Value} {l : List Put} (h : PutsW G w v l) (hb : Below w.heap.size w w') : PutsW G w' v l :=
 SlAt.up h fun _ _ _ ⟨h1, h2, h3, v, h4, h5⟩ => ⟨cell_up hb h1, h2, frozen_up hb h1 h3, v, cell_up hb h4, h5.up hb⟩
def PutsWA (v : Value) (l : List Put) : Asn := ⟨fun F w => PutsW F w v l, fun _ _ _ hs _ h => h.same hs⟩
def txW (G : Nat → Prop) : Elem Tx := fun w b o x => w.cell? ⟨b, o, none⟩ = some (.int .i64 x.time) ∧ I64 x.time ∧ ∃ v, w.cell? ⟨b, o + 1, none⟩ = some v ∧ PutsW G w v x.puts
def TxsW (G : Nat → Prop) : World → Value → List Tx → Prop := SlAt G 2 (txW G)
theorem TxsW.txs {G : Nat → Prop} {w : World} {v : Value} {l : List Tx} (h : TxsW G w v l) : TxsAt G w v l := SlAt.mono h (fun _ h => h) fun _ _ _ ⟨h1, h2, v, h3, h4⟩ => ⟨h1, h2, v, h3, h4.puts⟩
theorem TxsW.take {G : Nat → Prop} {w : World} {p A : Option Addr} {c : Nat} {l : List Tx} (h : TxsW G w (.slice p l.length c) l) (j : Nat) (hj : j ≤ l.length) (h1 : A = none → p = none) (h2 : ∀ b o, p = some ⟨b, o, none⟩ → A = some ⟨b, o, none⟩) : TxsW G w (.slice A j c) (l.take j) := by
 obtain ⟨p', c', e, a1, a2, a3, a4⟩ := h
 cases e
 have hl : (l.take j).length = j := by rw [List.length_take]; omega
 refine ⟨A, c, by rw [hl], by omega, a2, fun e => ?_, fun i hi => ?_⟩
 ·have := a3 (h1 e)
  omega
 ·rw [hl] at hi
  obtain ⟨b, o, e, hg, hx⟩ := a4 i (by omega)
  rw [List.getElem_take]
  exact ⟨b, o, h2 b o e, hg, hx⟩
end Sc
namespace Go.Proofs
open Go.RowKit Sc
section
variable {W w : World} {L : List Asn}
theorem bufPutsW (h : Hid (Sep W L w)) (i : Nat) {v : Value} {blocks most : Int} {s : List (Int × Bytes)} (hi : L[i]? = some (BufA v blocks most s)) (hg : BufG blocks s) (hb : blocks ≤ 1048576) (hl : s.length ≤ 1000000) :
  Calls Tryz.prog 77 #[v] w fun e w' => ∃ p c, e = .returned (.slice p s.length c) ∧ Hid (PutsW (New w w') w' (.slice p s.length c) (bufPuts s)) ∧ Hid (Below w.heap.size w w') := by
 obtain ⟨F, hF, _⟩ := h.out.get i hi
 refine (bufPuts_any F v blocks most s w hF (hg.i64 hb) hl hg.d40).mono ?_
 rintro e w' ⟨pv, rfl, hp, hb⟩
 obtain ⟨p, c, rfl⟩ := putsW_shape hp
 rw [bufPuts_len] at hp ⊢
 exact ⟨p, c, rfl, hp, hb⟩
end
section
variable {W w : World} {L : List Asn} {i : Nat} {c : MgC} {s : MgS}
end
section
variable {W w : World} {L : List Asn} {i : Nat} {c : MgC} {s : MgS}
end
end Go.Proofs
namespace Go.Proofs
open Go.RowKit Sc
def readW (G : Nat → Prop) : Elem Sc.Read := fun w b o x => w.cell? ⟨b, o, none⟩ = some (.int .i64 x.lba) ∧ I64 x.lba ∧ (∃ v, w.cell? ⟨b, o + 1, none⟩ = some v ∧ BytesW G w v x.data) ∧ w.cell? ⟨b, o + 2, none⟩ = some (.bool x.own)
theorem readW_stable (G : Nat → Prop) : Stable G (readW G) := fun w w' b o x hs hb ⟨h1, h2, ⟨v, h3, h4⟩, h5⟩ =>
 ⟨by rw [hs.cell hb]; exact h1, h2, ⟨v, by rw [hs.cell hb]; exact h3, h4.same hs⟩, by rw [hs.cell hb]; exact h5⟩
def ReadsW (G : Nat → Prop) : World → Value → List Sc.Read → Prop := SlAt G 3 (readW G)
def ReadsWA (v : Value) (l : List Sc.Read) : Asn := ⟨fun F w => ReadsW F w v l, fun F _ _ hs _ h => SlAt.same h hs (readW_stable F)⟩
def readRW (D : Nat → Prop) (w : World) (cs : List Value) (x : Sc.Read) : Prop := ∃ dv, cs = [.int .i64 x.lba, dv, .bool x.own] ∧ I64 x.lba ∧ BytesW D w dv x.data
theorem readRW_stable : RStable readRW := fun _ _ _ _ _ _ hd hs ⟨dv, h1, h2, h3⟩ => ⟨dv, h1, h2, (h3.same hs).mono hd⟩
theorem OutS.readsAtV {T : Nat} {B : Nat} {w : World} {v : Value} {l : List Sc.Read} {D : Nat → Prop} {G : Nat → Prop} (h : OutS T 3 readR B w v l D) (hG : ∀ b, B ≤ b → b < w.heap.size → G b) : ReadsAt G w v l := by
 have hD : ∀ b, D b → G b := by obtain ⟨_, _, _, _, _, h5⟩ := h; exact fun b hb => hG b (h5 b hb).1 (h5 b hb).2.1
 refine h.slAt hG fun b o cs x hl hc _ ⟨dv, he, hi, hd⟩ => ?_
 subst he
 exact ⟨hc 0 (by omega), hi, ⟨dv, hc 1 (by omega), hd.mono hD⟩, hc 2 (by omega)⟩
theorem OutS.readsW {T : Nat} {B : Nat} {w : World} {v : Value} {l : List Sc.Read} {D : Nat → Prop} {G : Nat → Prop} (h : OutS T 3 readRW B w v l D) (hG : ∀ b, B ≤ b → b < w.heap.size → G b) : ReadsW G w v l := by
 have hD : ∀ b, D b → G b := by obtain ⟨_, _, _, _, _, h5⟩ := h; exact fun b hb => hG b (h5 b hb).1 (h5 b hb).2.1
 refine h.slAt hG fun b o cs x hl hc _ ⟨dv, he, hi, hd⟩ => ?_
 subst he
 exact ⟨hc 0 (by omega), hi, ⟨dv, hc 1 (by omega), hd.mono hD⟩, hc 2 (by omega)⟩
theorem below_setW {B b i : Nat} (w : World) (v : Value) (hb : B ≤ b) : Below B w (w.setCell ⟨b, i, none⟩ v) :=
 ⟨by simp [World.setCell], by simp [World.setCell], by simp [World.setCell], by simp [World.setCell], fun k hk => Below.heap_setCell _ _ _ k (show k ≠ b by omega)⟩
set_option maxRecDepth 100000 in
set_option maxHeartbeats 2000000 in
theorem viewReads_w {b : Nat} {mp bp sp rv : Value} {t : Int} {R : List Sc.Read} {G : Nat → Prop} (w : World) (hh : w.heap[b]? = some (.cells #[mp, bp, .int .i64 t, sp, rv] 174 (0, 0))) (hr : ReadsAt G w rv R) (hd : ∀ x ∈ R, x.data.length ≤ 1000) (hR : R.length ≤ 1000000) :
  Calls Tryz.prog 76 #[.pointer (some ⟨b, 0, none⟩)] w fun e w' => ∃ p c, e = .returned (.slice p R.length c) ∧ Hid (ReadsW (New w w') w' (.slice p R.length c) R) ∧ Hid (Below w.heap.size w w') := by
 obtain ⟨rp, rc, rfl, h1, h2, h3, h4⟩ := hr
 have hc4 : w.cell? ⟨b, 4, none⟩ = some (.slice rp R.length rc) := by rw [cell_row hh]; rfl
 obtain ⟨ir, hr0, hr1, hr2, hr3⟩ := info_parts infoRead
 have H4 := Lib.hid h4
 have HH := Lib.hid hh
 have HD := Lib.hid hd
 have HR := Lib.hid hR
 clear h4 hh hd hR
 clear h1 h2 h3
 go_enter Tryz.func76, Tryz.ntmps76
 go_wp2_with fail
 go_loopw [2, 12] (fun out i wr => ∃ k : Nat, ∃ p c D, k ≤ R.length ∧ i = .int .i64 k ∧ out = .slice p k c ∧ Hid (OutS 76 3 readRW w.heap.size wr (.slice p k c) (R.take k) D) ∧ Hid (Below w.heap.size w wr)) (fun _ i _ => R.length - (intOf i).toNat)
 case atStart => exact ⟨0, _, _, _, by omega, rfl, rfl, Lib.hid (by rw [List.take_zero]; exact OutS.nil), Lib.hid (Below.refl _ _)⟩
 case round =>
  obtain ⟨k, op, oc, D, hk, rfl, rfl, HO, HB⟩ := hrel
  by_cases hlt : k < R.length
  case pos =>
   obtain ⟨g, o, rfl, _, hx1, hxi, ⟨dv, hx2, hxd⟩, hx3⟩ := H4.out k hlt
   have htk : R.take (k + 1) = R.take k ++ [R[k]] := take_snoc _ _ hlt
   have hdl : R[k].data.length ≤ 1000 := HD.out _ (List.getElem_mem hlt)
   have hy1 := cell_up HB.out hx1
   have hy2 := cell_up HB.out hx2
   have hy3 := cell_up HB.out hx3
   obtain ⟨dp, dc, rfl⟩ := shape_of hxd rfl
   generalize R[k] = x at *
   have HTK := Lib.hid htk
   have HDL := Lib.hid hdl
   have HXD := Lib.hid hxd
   have HXI := Lib.hid hxi
   clear htk hdl hxd hxi
   clear hx1 hx2 hx3
   go_wp2_with fail
   have hbA := below_alloc wr (.cells #[.int .i64 x.lba, .slice dp x.data.length dc, .bool x.own] 76)
   have hzA : (wr.alloc (.cells #[.int .i64 x.lba, .slice dp x.data.length dc, .bool x.own] 76)).heap.size = wr.heap.size + 1 := by simp
   have hhA := heap_alloc_new wr (.cells #[.int .i64 x.lba, .slice dp x.data.length dc, .bool x.own] 76)
   have hcl := clone_w G _ x.data (wr.alloc (.cells #[.int .i64 x.lba, .slice dp x.data.length dc, .bool x.own] 76)) (BytesAt.up (BytesAt.up HXD.out HB.out) hbA) (by have := HDL.out; omega)
   refine hcl.mono ?_
   rintro e w3 ⟨nv, rfl, hnd, hb3⟩
   obtain ⟨np, nc, rfl⟩ := shape_of hnd.bytes rfl
   have hh3 := (hb3.block wr.heap.size (by omega)).trans hhA
   have hB3 : Below wr.heap.size wr w3 := Below.up hbA hb3
   generalize hwA : wr.alloc (.cells #[.int .i64 x.lba, .slice dp x.data.length dc, .bool x.own] 76) = wA at *
   have hq0 : w3.cell? ⟨wr.heap.size, 0, none⟩ = some (.int .i64 x.lba) := by rw [cell_row hh3]; rfl
   have hq1 : w3.cell? ⟨wr.heap.size, 1, none⟩ = some (.slice dp x.data.length dc) := by rw [cell_row hh3]; rfl
   have hq2 : w3.cell? ⟨wr.heap.size, 2, none⟩ = some (.bool x.own) := by rw [cell_row hh3]; rfl
   have hqz : w3.frozen? ⟨wr.heap.size, 1, none⟩ = false := fz_row hh3 1
   have hB4 : Below wr.heap.size wr (w3.setCell ⟨wr.heap.size, 1, none⟩ (.slice np x.data.length nc)) := hB3.trans (below_setW w3 _ (Nat.le_refl _))
   have hz4 : (w3.setCell ⟨wr.heap.size, 1, none⟩ (.slice np x.data.length nc)).heap.size = w3.heap.size := by simp [World.setCell]
   have hn4 : BytesW (New wA w3) (w3.setCell ⟨wr.heap.size, 1, none⟩ (.slice np x.data.length nc)) (.slice np x.data.length nc) x.data := BytesW.same hnd fun q hq => Below.heap_setCell _ _ _ q (show q ≠ wr.heap.size by have := hq.1; omega)
   have hlk : (R.take k).length = k := by rw [List.length_take]; omega
   have hb5 := below_alloc (w3.setCell ⟨wr.heap.size, 1, none⟩ (.slice np x.data.length nc)) (.cells #[.int .i64 x.lba, .slice np x.data.length nc, .bool x.own] 76)
   obtain ⟨css, q1, q2, q3, q4, q5⟩ := HO.out.up readRW_stable (Below.up hB4 (hb5.mono (by omega)))
   rw [hlk] at q3
   have hown0 := q3.lt
   have HQ1 := Lib.hid q1
   have HQ2 := Lib.hid q2
   have HQ4 := Lib.hid q4
   have HQ5 := Lib.hid q5
   have HN4 := Lib.hid hn4
   have HB4 := Lib.hid hB4
   have HLK := Lib.hid hlk
   have HB5 := Lib.hid hb5
   have HWA := Lib.hid hwA
   have HOWN0 := Lib.hid hown0
   have HZ4 := Lib.hid hz4
   have HZA := Lib.hid hzA
   clear q1 q2 q4 q5 hn4 hB4 hlk hb5 hwA hown0 hz4 hzA
   clear hcl hnd hb3 hB3 hhA hbA hh3
   have hkR := HR.out
   go_wp2_with (at_builtin; (refine wpList_append_lies _ rfl _ _ 71 rfl w.heap.size 76 ir (.agg #[.int .i64 0, .slice none 0 0, .bool false]) 3 40 Tryz.underlying71 hr0 hr1 hr2 hr3 rfl (by decide) _ k css.flatten rfl q3 ⟨w3.heap.size, 0, none⟩ 1 1 [.int .i64 x.lba, .slice np x.data.length nc, .bool x.own] rfl rfl (World.news_of_block (cs := #[.int .i64 x.lba, .slice np x.data.length nc, .bool x.own]) (by rw [← HZ4.out]; exact heap_alloc_new _ _)) (by simp [Value.oneCell']) (by decide) (by unfold maxLen; omega) (by omega) (by have := HB.out.size; have := HB4.out.size; have := HZ4.out; simp; omega) (w3.heap.size + 1) (by simp [World.setCell]) ?_); intro gg cap w6 hown6 hgrow6 hat6 hlt6)
   go_roundw
   case rel =>
    refine ⟨k + 1, _, _, fun b => D b ∨ New wA w3 b, by omega, by go_num, rfl, ?_, ?_⟩
    ·have hs : OutS 76 3 readRW w.heap.size w6 (.slice (some ⟨gg, 0, none⟩) ((R.take k).length + 1) cap) (R.take k ++ [x]) (fun b => D b ∨ New wA w3 b) := by
      refine OutS.snoc (v := .slice op k oc) (D3 := New wA w3) readRW_stable HQ1.out HQ2.out HQ4.out HQ5.out (cs := [.int .i64 x.lba, .slice np x.data.length nc, .bool x.own]) (x := x) rfl ⟨_, rfl, HXI.out, HN4.out.up (below_alloc _ _)⟩ (fun q hq => ?_) (by rw [HLK.out]; exact hown6) hgrow6 (hat6.imp id fun h => by rw [h]; simp [World.setCell])
      have h1 := hq.1
      have h2 := hq.2
      have h3 := HB.out.size
      have h4 := HZA.out
      refine ⟨by omega, by simp [World.setCell]; omega, fun e => ?_⟩
      have h5 := (HO.out.own).choose_spec.lt q e
      omega
     rw [HLK.out] at hs
     unfold Hid
     rw [HTK.out]
     exact hs
    ·have hb6 := Below.up HB.out (Below.up HB4.out (HB5.out.mono (by have := HB4.out.size; omega)))
     exact hb6.grown hgrow6 (by have := HB.out.size; have := HB4.out.size; have := HZ4.out; simp; omega) (fun q hq => (HOWN0.out q hq).1)
   case measure => simp [intOf]; omega
  case neg =>
   obtain rfl : k = R.length := by omega
   have hOr := HO.out
   rw [List.take_length] at hOr
   have hfin : ReadsW (New w wr) wr (.slice op R.length oc) R := OutS.readsW hOr fun q h1 h2 => ⟨h1, h2⟩
   have HFIN := Lib.hid hfin
   clear hfin
   clear hOr
   go_wp2_with fail
   go_ret
   exact ⟨op, oc, rfl, HFIN, HB⟩
theorem viewReads_sepW {W w : World} {L : List Asn} (h : Hid (Sep W L w)) (i : Nat) {v : Nat} {mp bp sp : Value} {t : Int} {R : List Sc.Read} (hi : L[i]? = some (ViewA (.pointer (some ⟨v, 0, none⟩)) mp bp t sp R)) (hd : ∀ x ∈ R, x.data.length ≤ 1000) (hR : R.length ≤ 1000000) :
  Calls Tryz.prog 76 #[.pointer (some ⟨v, 0, none⟩)] w fun e w' => ∃ p c, e = .returned (.slice p R.length c) ∧ Hid (ReadsW (New w w') w' (.slice p R.length c) R) ∧ Hid (Below w.heap.size w w') := by
 obtain ⟨F, hF, _⟩ := h.out.get i hi
 obtain ⟨b, rv, D, hv, hFb, hh, hO, _, _⟩ := hF
 cases hv
 exact viewReads_w w hh (OutS.readsAtV (G := fun _ => True) hO fun _ _ _ => trivial) hd hR
end Go.Proofs
namespace Go.Proofs
open Go.RowKit Sc
theorem ret_cell_one {P : Program} {fn : Func} {R : Ending → World → Prop} {a : Act} {w : World} {p : Tmp} {ty t : TypeId} {b : Nat} {cs : Array Value} {fr : Nat × Nat} {d : TypeDesc}
  (h : fn.results = #[.cell p ty]) (hp : a.tmps.getD p undef = .pointer (some ⟨b, 0, none⟩)) (hg : w.heap[b]? = some (.cells cs t fr))
  (hu : P.underlying ty = some d) (hd : (match d with | .struct _ | .array _ _ => true | _ => false) = true) (hi : (P.info? ty).map (·.size) = some cs.size) (hf : a.defers = [])
  (hR : R (.returned (.agg cs)) w) : bodyPost P fn R .ret a w :=
 ⟨hf, _, results_cell_row h a.tmps w b t cs fr d hp hg hu hd hi, hR⟩
theorem box_fill7 {W w : World} {L : List Asn} {i b : Nat} {u0 u1 u2 u3 u4 u5 u6 : Value} {T : TypeId} (h : Sep W L w) (hi : L[i]? = some (BoxA b #[u0, u1, u2, u3, u4, u5, u6] T)) (v0 v1 v2 v3 v4 v5 v6 : Value) :
  Sep W (L.set i (BoxA b #[v0, v1, v2, v3, v4, v5, v6] T)) (((((((w.setCell ⟨b, 0, none⟩ v0).setCell ⟨b, 1, none⟩ v1).setCell ⟨b, 2, none⟩ v2).setCell ⟨b, 3, none⟩ v3).setCell ⟨b, 4, none⟩ v4).setCell ⟨b, 5, none⟩ v5).setCell ⟨b, 6, none⟩ v6) := by
 have hil := (List.getElem?_eq_some_iff.1 hi).1
 have key : ∀ {w : World} {cs : Array Value} (_ : Sep W (L.set i (BoxA b cs T)) w) (j : Nat) (v : Value), Sep W (L.set i (BoxA b (cs.setIfInBounds j v) T)) (w.setCell ⟨b, j, none⟩ v) := fun hs j v => by
  have := hs.box_store i (List.getElem?_set_self hil) j v
  rwa [List.set_set] at this
 have h0 : Sep W (L.set i (BoxA b #[u0, u1, u2, u3, u4, u5, u6] T)) w := by rw [set_same hi]; exact h
 have h1 : Sep W (L.set i (BoxA b #[v0, u1, u2, u3, u4, u5, u6] T)) (w.setCell ⟨b, 0, none⟩ v0) := key h0 0 v0
 have h2 : Sep W (L.set i (BoxA b #[v0, v1, u2, u3, u4, u5, u6] T)) ((w.setCell ⟨b, 0, none⟩ v0).setCell ⟨b, 1, none⟩ v1) := key h1 1 v1
 have h3 : Sep W (L.set i (BoxA b #[v0, v1, v2, u3, u4, u5, u6] T)) (((w.setCell ⟨b, 0, none⟩ v0).setCell ⟨b, 1, none⟩ v1).setCell ⟨b, 2, none⟩ v2) := key h2 2 v2
 have h4 : Sep W (L.set i (BoxA b #[v0, v1, v2, v3, u4, u5, u6] T)) ((((w.setCell ⟨b, 0, none⟩ v0).setCell ⟨b, 1, none⟩ v1).setCell ⟨b, 2, none⟩ v2).setCell ⟨b, 3, none⟩ v3) := key h3 3 v3
 have h5 : Sep W (L.set i (BoxA b #[v0, v1, v2, v3, v4, u5, u6] T)) (((((w.setCell ⟨b, 0, none⟩ v0).setCell ⟨b, 1, none⟩ v1).setCell ⟨b, 2, none⟩ v2).setCell ⟨b, 3, none⟩ v3).setCell ⟨b, 4, none⟩ v4) := key h4 4 v4
 have h6 : Sep W (L.set i (BoxA b #[v0, v1, v2, v3, v4, v5, u6] T)) ((((((w.setCell ⟨b, 0, none⟩ v0).setCell ⟨b, 1, none⟩ v1).setCell ⟨b, 2, none⟩ v2).setCell ⟨b, 3, none⟩ v3).setCell ⟨b, 4, none⟩ v4).setCell ⟨b, 5, none⟩ v5) := key h5 5 v5
 have h7 : Sep W (L.set i (BoxA b #[v0, v1, v2, v3, v4, v5, v6] T)) (((((((w.setCell ⟨b, 0, none⟩ v0).setCell ⟨b, 1, none⟩ v1).setCell ⟨b, 2, none⟩ v2).setCell ⟨b, 3, none⟩ v3).setCell ⟨b, 4, none⟩ v4).setCell ⟨b, 5, none⟩ v5).setCell ⟨b, 6, none⟩ v6) := key h6 6 v6
 exact h7
def histV (t : TxS) (rp pp : Option Addr) (rc pc : Nat) : Value := .agg #[.int .i64 t.st, .int .i64 t.at', .int .i64 t.tm, .int .i64 0, .int .i64 0, .slice rp t.R.length rc, .slice pp t.buf.length pc]
section
variable {W w : World} {L : List Asn} {i : Nat} {c : MgC} {s : MgS}
set_option maxRecDepth 100000 in
set_option maxHeartbeats 4000000 in
theorem history_core (h : Hid (Sep W (OL L i (mgrItems c s)) w)) (hc : c.cs.length = s.txs.length) {n : Nat} (g : MgG n s) (hn : n ≤ 1000000) (hi : i < L.length) {k : Nat} (hks : k < s.txs.length) :
  Calls Tryz.prog 40 #[.pointer (some ⟨c.mb, 0, none⟩), .int .i64 ((k : Int) + 1)] w fun e w' => ∃ rp rc pp pc, e = .returned (histV s.txs[k] rp pp rc pc) ∧
   Hid (Sep W (OL (L ++ [ReadsWA (.slice rp s.txs[k].R.length rc) s.txs[k].R, PutsWA (.slice pp s.txs[k].buf.length pc) (bufPuts s.txs[k].buf)]) i (mgrItems c s)) w') := by
 have h' : Hid (Sep W (OL (L ++ [BoxA w.heap.size #[.int .i64 0, .int .i64 0, .int .i64 0, .int .i64 0, .int .i64 0, .slice none 0 0, .slice none 0 0] 73]) i (mgrItems c s)) (w.alloc (.cells #[.int .i64 0, .int .i64 0, .int .i64 0, .int .i64 0, .int .i64 0, .slice none 0 0, .slice none 0 0] 73))) := h.out.boxed hi _ _
 obtain ⟨c0, _, c2, _⟩ := mgr_cells h'.out
 have hkc : k < c.cs.length := by omega
 have hl := (mgr_map h'.out).lookup Tryz.underlying104 Tryz.underlying3 (Tryz.zeroValue111 (w.alloc (.cells #[.int .i64 0, .int .i64 0, .int .i64 0, .int .i64 0, .int .i64 0, .slice none 0 0, .slice none 0 0] 73))) ((k : Int) + 1) true
 rw [look_ml hkc] at hl
 simp only [Option.getD_some, Option.isSome_some, if_true] at hl
 have htg := g.tx _ (List.getElem_mem hks)
 have hlL : (L ++ [BoxA w.heap.size #[.int .i64 0, .int .i64 0, .int .i64 0, .int .i64 0, .int .i64 0, .slice none 0 0, .slice none 0 0] 73]).length = L.length + 1 := by simp
 have hd := h'.out.up (below_drewN (Below.refl (w.alloc (.cells #[.int .i64 0, .int .i64 0, .int .i64 0, .int .i64 0, .int .i64 0, .slice none 0 0, .slice none 0 0] 73)).heap.size (w.alloc (.cells #[.int .i64 0, .int .i64 0, .int .i64 0, .int .i64 0, .int .i64 0, .slice none 0 0, .slice none 0 0] 73))) 1)
 have hcl := (tx_cells hd hc hks).1
 have t0 := hcl 0
 have t1 := hcl 1
 have t3 := hcl 3
 have t4 := hcl 4
 have t5 := hcl 5
 change _ = some (Value.int .i64 s.txs[k].st) at t0
 change _ = some (Value.int .i64 s.txs[k].tm) at t1
 change _ = some (Value.int .i64 s.txs[k].at') at t3
 change _ = some (Value.pointer (some ⟨(c.cs[k]).bb, 0, none⟩)) at t4
 change _ = some (Value.pointer (some ⟨(c.cs[k]).vb, 0, none⟩)) at t5
 have hrd := viewReads_sepW (Lib.hid hd) (L.length + 1 + (5 + (4 * k + 3))) (by rw [← hlL]; exact OL_get.trans (items_tx hc hks 3 (by omega))) (fun x hx => by have := htg.rd x hx; omega) (by have := htg.rl; omega)
 have HTG := Lib.hid htg
 have HD := Lib.hid hd
 have HG : Hid (MgG n s) := g
 have HI := Lib.hid hi
 have HRD := Lib.hid hrd
 have HCL := Lib.hid hcl
 clear hrd hcl
 clear htg hd g h hi
 go_enter Tryz.func40, Tryz.ntmps40
 go_wp2_with fail
 refine (gone_any c.mb c.m _ c0).mono ?_
 rintro e w1 ⟨rfl, rfl⟩
 clear c0
 generalize hW1 : w.alloc (.cells #[.int .i64 0, .int .i64 0, .int .i64 0, .int .i64 0, .int .i64 0, .slice none 0 0, .slice none 0 0] 73) = w1 at *
 generalize hwz : w.heap.size = wz at *
 generalize htb : (c.cs[k]).tb = tb at *
 go_upto_region 6 with fail
 refine wp_regionG (fun W => W.cell? ⟨tb, 0, none⟩ = some (.int .i64 s.txs[k].st) ∧ W.cell? ⟨tb, 3, none⟩ = some (.int .i64 s.txs[k].at') ∧ W.cell? ⟨tb, 1, none⟩ = some (.int .i64 s.txs[k].tm) ∧ W.cell? ⟨tb, 5, none⟩ = some (.pointer (some ⟨(c.cs[k]).vb, 0, none⟩)) ∧ W.cell? ⟨tb, 4, none⟩ = some (.pointer (some ⟨(c.cs[k]).bb, 0, none⟩))) (n := 24) (by kernel_rfl) (by kernel_rfl) ?_
 refine wpG.tk 0 ?_
 refine wpG.tk 1 ?_
 refine wpG.tk 2 ?_
 refine wpG.tk 3 ?_ (hy := by intro W hW; have hld0 := hW.1; go_simp; try with_reducible rfl)
 refine wpG.tk 4 ?_
 refine wpG.tk 5 ?_
 refine wpG.tk 6 ?_
 refine wpG.tk 7 ?_ (hy := by intro W hW; have hld0 := hW.2.1; go_simp; try with_reducible rfl)
 refine wpG.tk 8 ?_
 refine wpG.tk 9 ?_
 refine wpG.tk 10 ?_
 refine wpG.tk 11 ?_ (hy := by intro W hW; have hld0 := hW.2.2.1; go_simp; try with_reducible rfl)
 refine wpG.tk 12 ?_
 refine wpG.tk 13 ?_
 refine wpG.tk 14 ?_
 refine wpG.tk 15 ?_ (hy := by intro W hW; have hld0 := hW.2.2.2.1; go_simp; try with_reducible rfl)
 refine wpG.tk 17 ?_
 refine wpG.tk 18 ?_
 refine wpG.tk 19 ?_
 refine wpG.tk 20 ?_ (hy := by intro W hW; have hld0 := hW.2.2.2.2; go_simp; try with_reducible rfl)
 refine wpG.alone 16 rfl (by kernel_rfl) (by kernel_rfl) (⟨t0, t3, t1, t5, t4⟩) (fun K hK => ?_)
 go_simp
 go_at_call 76
 refine (HRD.out).mono ?_
 rintro e w2 ⟨rp, rc, rfl, HR2, HB2⟩
 have n0 := cell_up HB2.out t0
 have n1 := cell_up HB2.out t1
 have n3 := cell_up HB2.out t3
 have n4 := cell_up HB2.out t4
 have n5 := cell_up HB2.out t5
 have hs2 := (HD.out.new HB2.out (ReadsWA (.slice rp s.txs[k].R.length rc) s.txs[k].R) (fun _ h => h) HR2.out).shift (by simp; have := HI.out; omega)
 have hpu := bufPutsW (Lib.hid hs2) (L.length + 1 + 1 + (5 + (4 * k + 1))) (by rw [← hlL, ← List.length_singleton (a := ReadsWA (.slice rp s.txs[k].R.length rc) s.txs[k].R), ← List.length_append]; exact OL_get.trans (items_tx hc hks 1 (by omega))) HTG.out.bg HG.out.b2 (by have := HTG.out.bl; omega)
 have HPU := Lib.hid hpu
 have HS2 := Lib.hid hs2
 clear hpu hs2 t0 t1 t3 t4 t5
 try go_simp
 refine hK _ _ ?_
 clear hK K
 refine wpG.alone 21 rfl (by kernel_rfl) (by kernel_rfl) (⟨n0, n3, n1, n5, n4⟩) (fun K hK => ?_)
 go_simp
 go_at_call 77
 refine (HPU.out).mono ?_
 rintro e w3 ⟨pp, pc, rfl, HP3, HB3⟩
 have m0 := cell_up HB3.out n0
 have m1 := cell_up HB3.out n1
 have m3 := cell_up HB3.out n3
 have m4 := cell_up HB3.out n4
 have m5 := cell_up HB3.out n5
 have hs3 := (HS2.out.new HB3.out (PutsWA (.slice pp s.txs[k].buf.length pc) (bufPuts s.txs[k].buf)) (fun _ h => h) HP3.out).shift (by simp; have := HI.out; omega)
 rw [List.append_assoc, List.append_assoc] at hs3
 have hbi : (OL (L ++ ([BoxA wz #[.int .i64 0, .int .i64 0, .int .i64 0, .int .i64 0, .int .i64 0, .slice none 0 0, .slice none 0 0] 73] ++ ([ReadsWA (.slice rp s.txs[k].R.length rc) s.txs[k].R] ++ [PutsWA (.slice pp s.txs[k].buf.length pc) (bufPuts s.txs[k].buf)]))) i (mgrItems c s))[L.length]? = some (BoxA wz #[.int .i64 0, .int .i64 0, .int .i64 0, .int .i64 0, .int .i64 0, .slice none 0 0, .slice none 0 0] 73) := by
  rw [OL_old (by simp) (by have := HI.out; omega), List.getElem?_append_right (Nat.le_refl _), Nat.sub_self]; rfl
 obtain ⟨FB, hFB, _⟩ := hs3.get L.length hbi
 have bf0 : w3.frozen? ⟨wz, 0, none⟩ = false := frozen_row0 hFB.2 0
 have bf1 : w3.frozen? ⟨wz, 1, none⟩ = false := frozen_row0 hFB.2 1
 have bf2 : w3.frozen? ⟨wz, 2, none⟩ = false := frozen_row0 hFB.2 2
 have bf3 : w3.frozen? ⟨wz, 3, none⟩ = false := frozen_row0 hFB.2 3
 have bf4 : w3.frozen? ⟨wz, 4, none⟩ = false := frozen_row0 hFB.2 4
 have bf5 : w3.frozen? ⟨wz, 5, none⟩ = false := frozen_row0 hFB.2 5
 have bf6 : w3.frozen? ⟨wz, 6, none⟩ = false := frozen_row0 hFB.2 6
 have bc0 : w3.cell? ⟨wz, 0, none⟩ = some (.int .i64 0) := by rw [cell_row hFB.2]; rfl
 have bc1 : w3.cell? ⟨wz, 1, none⟩ = some (.int .i64 0) := by rw [cell_row hFB.2]; rfl
 have bc2 : w3.cell? ⟨wz, 2, none⟩ = some (.int .i64 0) := by rw [cell_row hFB.2]; rfl
 have bc3 : w3.cell? ⟨wz, 3, none⟩ = some (.int .i64 0) := by rw [cell_row hFB.2]; rfl
 have bc4 : w3.cell? ⟨wz, 4, none⟩ = some (.int .i64 0) := by rw [cell_row hFB.2]; rfl
 have bc5 : w3.cell? ⟨wz, 5, none⟩ = some (.slice none 0 0) := by rw [cell_row hFB.2]; rfl
 have bc6 : w3.cell? ⟨wz, 6, none⟩ = some (.slice none 0 0) := by rw [cell_row hFB.2]; rfl
 have hs4 := box_fill7 hs3 hbi (.int .i64 s.txs[k].st) (.int .i64 s.txs[k].at') (.int .i64 s.txs[k].tm) (.int .i64 0) (.int .i64 0) (.slice rp s.txs[k].R.length rc) (.slice pp s.txs[k].buf.length pc)
 have hle : (OL (L ++ ([BoxA wz #[.int .i64 0, .int .i64 0, .int .i64 0, .int .i64 0, .int .i64 0, .slice none 0 0, .slice none 0 0] 73] ++ ([ReadsWA (.slice rp s.txs[k].R.length rc) s.txs[k].R] ++ [PutsWA (.slice pp s.txs[k].buf.length pc) (bufPuts s.txs[k].buf)]))) i (mgrItems c s)).set L.length (BoxA wz #[.int .i64 s.txs[k].st, .int .i64 s.txs[k].at', .int .i64 s.txs[k].tm, .int .i64 0, .int .i64 0, .slice rp s.txs[k].R.length rc, .slice pp s.txs[k].buf.length pc] 73) =
   OL (L ++ (BoxA wz #[.int .i64 s.txs[k].st, .int .i64 s.txs[k].at', .int .i64 s.txs[k].tm, .int .i64 0, .int .i64 0, .slice rp s.txs[k].R.length rc, .slice pp s.txs[k].buf.length pc] 73 :: [ReadsWA (.slice rp s.txs[k].R.length rc) s.txs[k].R, PutsWA (.slice pp s.txs[k].buf.length pc) (bufPuts s.txs[k].buf)])) i (mgrItems c s) := by
  unfold OL
  have hiL := HI.out
  rw [List.set_append_left _ _ hiL, List.set_append_left _ _ hiL, List.append_assoc, List.append_assoc]
  have e0 : (L.set i TrueA).length = L.length := List.length_set ..
  rw [List.set_append_right _ _ (by rw [e0]; exact Nat.le_refl _), e0, Nat.sub_self, List.append_assoc (L.set i TrueA)]
  rfl
 have hs5 := hle ▸ hs4
 have hz := hs5.box_at HI.out 0
 obtain ⟨FX, hFX, _⟩ := hs5.get L.length (A := BoxA wz #[.int .i64 s.txs[k].st, .int .i64 s.txs[k].at', .int .i64 s.txs[k].tm, .int .i64 0, .int .i64 0, .slice rp s.txs[k].R.length rc, .slice pp s.txs[k].buf.length pc] 73) (by rw [OL_old (by simp) (by have := HI.out; omega), List.getElem?_append_right (Nat.le_refl _), Nat.sub_self]; rfl)
 have HHP := Lib.hid hFX.2
 have hcx := (tx_cells hs5 hc hks).1
 rw [htb] at hcx
 have z0 := hcx 0
 have z1 := hcx 1
 have z3 := hcx 3
 have z4 := hcx 4
 have z5 := hcx 5
 change _ = some (Value.int .i64 s.txs[k].st) at z0
 change _ = some (Value.int .i64 s.txs[k].tm) at z1
 change _ = some (Value.int .i64 s.txs[k].at') at z3
 change _ = some (Value.pointer (some ⟨(c.cs[k]).bb, 0, none⟩)) at z4
 change _ = some (Value.pointer (some ⟨(c.cs[k]).vb, 0, none⟩)) at z5
 have HFIN := Lib.hid (hs5.unbox HI.out)
 clear hs3 hs4 hs5 hle hbi hFB hFX hcx hz n0 n1 n3 n4 n5 HCL
 try go_simp
 refine hK _ _ ?_
 clear hK K
 refine wpG.tk 22 ?_
 refine wpG.alone 23 rfl (by kernel_rfl) (by kernel_rfl) ⟨m0, m3, m1, m5, m4⟩ (fun K hK => ?_)
 go_simp
 try go_simp
 refine hK _ _ ?_
 clear hK K
 refine wpG.done (by kernel_rfl) ⟨z0, z3, z1, z5, z4⟩ ?_
 go_wp2
 (try simp only [Exit.inBlock, Exit.then])
 refine ret_cell_one rfl (b := wz) (t := 73) (fr := (0, 0)) rfl (cs := #[.int .i64 s.txs[k].st, .int .i64 s.txs[k].at', .int .i64 s.txs[k].tm, .int .i64 0, .int .i64 0, .slice rp s.txs[k].R.length rc, .slice pp s.txs[k].buf.length pc]) ?_ (Tryz.underlying73) rfl (by kernel_rfl) rfl ?_
 ·exact HHP.out
 ·exact ⟨rp, rc, pp, pc, rfl, HFIN⟩
end
theorem mgHistory_sep {W w : World} {L : List Asn} (h : Hid (Sep W L w)) (i : Nat) {b : Nat} {s : MgS} (hi : L[i]? = some (MgrA (pt b) s)) {n : Nat} (g : MgG n s) (hn : n ≤ 1000000) {hd : Int} (h1 : 1 ≤ hd) (h2 : hd ≤ s.txs.length) :
  Calls Tryz.prog 40 #[.pointer (some ⟨b, 0, none⟩), .int .i64 hd] w fun e w' => ∃ rp rc pp pc, e = .returned (histV (txAt s.txs hd) rp pp rc pc) ∧
   Hid (Sep W ((L ++ [ReadsWA (.slice rp (txAt s.txs hd).R.length rc) (txAt s.txs hd).R, PutsWA (.slice pp (txAt s.txs hd).buf.length pc) (bufPuts (txAt s.txs hd).buf)]).set i (MgrA (pt b) s)) w') := by
 obtain ⟨c, rfl, hc, hS, hil⟩ := MgrA.open' h i hi
 obtain ⟨k, rfl⟩ : ∃ k : Nat, hd = (k : Int) + 1 := ⟨(hd - 1).toNat, by omega⟩
 have hks : k < s.txs.length := by omega
 have e : txAt s.txs ((k : Int) + 1) = s.txs[k] := by rw [← txOf_txAt, txOf_at hks]
 rw [e]
 refine (history_core hS hc g hn hil hks).mono ?_
 rintro r w' ⟨rp, rc, pp, pc, rfl, hS'⟩
 exact ⟨rp, rc, pp, pc, rfl, MgrA.closed hS'.out (by simp; omega) hc⟩
end Go.Proofs
namespace Go.Proofs
open Go.RowKit Sc
section
variable {W w : World} {L : List Asn} {i : Nat} {c : RmC} {s : MgS}
end
end Go.Proofs
namespace Go.Proofs
open Go.RowKit Sc
section
variable {W w : World} {L : List Asn} {i : Nat} {c : RmC} {s : MgS}
end
end Go.Proofs
namespace Go.Proofs
open Go.RowKit Sc
section
variable {W w : World} {L : List Asn}
theorem RMgrA.open' (h : Hid (Sep W L w)) (i : Nat) {b : Nat} {s : MgS} (hi : L[i]? = some (RMgrA (pt b) s)) : ∃ c : RmC, c.mb = b ∧ RmOk c s ∧ Hid (Sep W (OL L i (rmItems c s)) w) ∧ i < L.length := by
 obtain ⟨c, h1, h2, h3⟩ := RMgrA.opened h.out i hi
 cases h1
 exact ⟨c, rfl, h2, Lib.hid h3, (List.getElem?_eq_some_iff.1 hi).1⟩
theorem RMgrA.shut {i : Nat} {c c' : RmC} {s' : MgS} (hS : Hid (Sep W (OL L i (rmItems c' s')) w)) (hi : i < L.length) (hm : c'.mb = c.mb) (hc : RmOk c' s') : Hid (Sep W (L.set i (RMgrA (pt c.mb) s')) w) := by
 have := RMgrA.closed hS.out hi hc
 rw [hm] at this
 exact this
theorem rmBegin_sep (h : Hid (Sep W L w)) (i : Nat) {b : Nat} {s : MgS} (hi : L[i]? = some (RMgrA (pt b) s)) {n : Nat} (g : MgG n s) (hn : n ≤ 300000) :
  Calls Tryz.prog 79 #[.pointer (some ⟨b, 0, none⟩)] w fun e w' => e = .returned (.tuple #[.int .i64 (begH s), .int .i64 (begC s)]) ∧ Hid (Sep W (L.set i (RMgrA (pt b) (begNext s))) w') := by
 obtain ⟨c, rfl, hc, hS, hil⟩ := RMgrA.open' h i hi
 refine (rbegin_core hS hc g (by omega)).mono ?_
 rintro e w' ⟨rfl, c', hmb, hc', hS'⟩
 exact ⟨rfl, RMgrA.shut hS' hil hmb hc'⟩
theorem rmWrite_sep (h : Hid (Sep W L w)) (i : Nat) {b : Nat} {s : MgS} (hi : L[i]? = some (RMgrA (pt b) s)) {n : Nat} (g : MgG n s) (hn : n ≤ 300000) (hd : Int) (iN : I64 hd) (lv : Value) (l : List Put) (hl : ∀ G, Sc.Rest L i G w → PutsAt G w lv l) (n1 : l.length ≤ 400000) :
  Calls Tryz.prog 81 #[.pointer (some ⟨b, 0, none⟩), .int .i64 hd, lv] w fun e w' => e = .returned (.int .i64 (wrCode s hd l)) ∧ Hid (Sep W (L.set i (RMgrA (pt b) (wrNext s hd l))) w') := by
 obtain ⟨c, rfl, hc, hS, hil⟩ := RMgrA.open' h i hi
 refine (rwrite_core hS hc g (by omega) hd iN lv l hl n1).mono ?_
 rintro e w' ⟨rfl, c', hmb, hc', hS'⟩
 exact ⟨rfl, RMgrA.shut hS' hil hmb hc'⟩
theorem rmRead_sep (h : Hid (Sep W L w)) (i : Nat) {b : Nat} {s : MgS} (hi : L[i]? = some (RMgrA (pt b) s)) {n : Nat} (g : MgG n s) (hn : n ≤ 300000) (hd : Int) (iN : I64 hd) (e : Ext) (i1 : I64 e.first) (i2 : I64 e.len) :
  Calls Tryz.prog 80 #[.pointer (some ⟨b, 0, none⟩), .int .i64 hd, .agg #[.int .i64 e.first, .int .i64 e.len]] w fun r w' =>
   (rdCode s hd e ≠ 0 ∧ r = .returned (.tuple #[.slice none 0 0, .int .i64 (rdCode s hd e)]) ∧ Hid (Sep W L w')) ∨
   (rdCode s hd e = 0 ∧ ∃ p cp, r = .returned (.tuple #[.slice p (rdOut s hd e).length cp, .int .i64 0]) ∧
     Hid (Sep W ((L ++ [ByA (.slice p (rdOut s hd e).length cp) (rdOut s hd e)]).set i (RMgrA (pt b) (rdNext s hd e))) w')) := by
 obtain ⟨c, rfl, hc, hS, hil⟩ := RMgrA.open' h i hi
 refine (rread_core hS hc g (by omega) (by rw [hc.mapr.count g.ge]; have := g.nv; omega) hd iN e i1 i2 hil).mono ?_
 rintro r w' (⟨h1, rfl, hS'⟩ | ⟨h1, hc', p, cp, rfl, hS'⟩)
 ·refine .inl ⟨h1, rfl, ?_⟩
  have := RMgrA.shut (c := c) hS' hil rfl hc
  rwa [set_same hi] at this
 ·exact .inr ⟨h1, p, cp, rfl, RMgrA.shut (c := c) hS' (by simp; omega) rfl hc'⟩
theorem rmCommit_sep (h : Hid (Sep W L w)) (i : Nat) {b : Nat} {s : MgS} (hi : L[i]? = some (RMgrA (pt b) s)) {n : Nat} (g : MgG n s) (hn : n ≤ 300000) (hd : Int) (iN : I64 hd) :
  Calls Tryz.prog 82 #[.pointer (some ⟨b, 0, none⟩), .int .i64 hd] w fun e w' => e = .returned (.int .i64 (cmCode s hd)) ∧ Hid (Sep W (L.set i (RMgrA (pt b) (cmNext s hd))) w') := by
 obtain ⟨c, rfl, hc, hS, hil⟩ := RMgrA.open' h i hi
 refine (rcommit_core hS hc g (by omega) hd iN).mono ?_
 rintro e w' ⟨rfl, c', hmb, hc', hS'⟩
 exact ⟨rfl, RMgrA.shut hS' hil hmb hc'⟩
theorem rmAbort_sep (h : Hid (Sep W L w)) (i : Nat) {b : Nat} {s : MgS} (hi : L[i]? = some (RMgrA (pt b) s)) {n : Nat} (g : MgG n s) (hn : n ≤ 300000) (hd : Int) (iN : I64 hd) :
  Calls Tryz.prog 83 #[.pointer (some ⟨b, 0, none⟩), .int .i64 hd] w fun e w' => e = .returned (.int .i64 (abCode s hd)) ∧ Hid (Sep W (L.set i (RMgrA (pt b) (abNext s hd))) w') := by
 obtain ⟨c, rfl, hc, hS, hil⟩ := RMgrA.open' h i hi
 refine (rabort_core hS hc g (by omega) hd iN).mono ?_
 rintro e w' ⟨rfl, c', hmb, hc', hS'⟩
 exact ⟨rfl, RMgrA.shut hS' hil hmb hc'⟩
theorem rmBatch_sep (h : Hid (Sep W L w)) (i : Nat) {b : Nat} {s : MgS} (hi : L[i]? = some (RMgrA (pt b) s)) {n : Nat} (g : MgG n s) (hn : n ≤ 300000) :
  Calls Tryz.prog 84 #[.pointer (some ⟨b, 0, none⟩)] w fun e w' =>
   (baCode s ≠ 0 ∧ e = .returned (.tuple #[.agg #[.int .i64 0, .slice none 0 0], .int .i64 (baCode s)]) ∧ Hid (Sep W (L.set i (RMgrA (pt b) (baNext s))) w')) ∨
   (baCode s = 0 ∧ ∃ p cp, e = .returned (.tuple #[.agg #[.int .i64 (s.num + 1), .slice p (formN (waitL s)) cp], .int .i64 0]) ∧ Hid (Sep W (L.set i (RMgrA (pt b) (baNext s))) w') ∧
     Hid (TxsAt (fun q => q < w'.heap.size) w' (.slice p (formN (waitL s)) cp) ((waitL s).take (formN (waitL s))))) := by
 obtain ⟨c, rfl, hc, hS, hil⟩ := RMgrA.open' h i hi
 refine (rbatch_core hS hc g (by omega) hil).mono ?_
 rintro e w' (⟨h0, rfl, hS'⟩ | ⟨h0, hc', p, cp, rfl, hS', hq⟩)
 ·refine .inl ⟨h0, rfl, ?_⟩
  have e : baNext s = s := by unfold baNext; rw [if_neg h0]
  rw [e]
  exact RMgrA.shut (c := c) hS' hil rfl hc
 ·exact .inr ⟨h0, p, cp, rfl, RMgrA.shut (c := c) hS' hil rfl hc', hq⟩
theorem rmDone_sep (h : Hid (Sep W L w)) (i : Nat) {b : Nat} {s : MgS} (hi : L[i]? = some (RMgrA (pt b) s)) {n : Nat} (g : MgG n s) (hn : n ≤ 300000) (h8 : s.out ≤ 8) (code : Int) :
  Calls Tryz.prog 86 #[.pointer (some ⟨b, 0, none⟩), .int .i64 code] w fun e w' => e = .returned (.int .i64 (doneCode s)) ∧ Hid (Sep W (L.set i (RMgrA (pt b) (doneNext s code))) w') := by
 obtain ⟨c, rfl, hc, hS, hil⟩ := RMgrA.open' h i hi
 refine (rdone_core hS hc g hn h8 hil code).mono ?_
 rintro e w' ⟨rfl, c', hmb, hc', hS'⟩
 exact ⟨rfl, RMgrA.shut hS' hil hmb hc'⟩
theorem rmPrune_sep (h : Hid (Sep W L w)) (i : Nat) {b : Nat} {s : MgS} (hi : L[i]? = some (RMgrA (pt b) s)) {n : Nat} (g : MgG n s) (hn : n ≤ 300000) :
  Calls Tryz.prog 87 #[.pointer (some ⟨b, 0, none⟩)] w fun e w' => e = .returned (.int .i64 ((nVers s.vs - nVers (pruneVs (prH s) s.vs) : Nat) : Int)) ∧ Hid (Sep W (L.set i (RMgrA (pt b) (prNext s))) w') := by
 obtain ⟨c, rfl, hc, hS, hil⟩ := RMgrA.open' h i hi
 refine (rprune_core hS hc g (by omega)).mono ?_
 rintro e w' ⟨rfl, c', hmb, hc', hS'⟩
 exact ⟨rfl, RMgrA.shut hS' hil hmb hc'⟩
theorem rm_ro (h : Hid (Sep W L w)) (i : Nat) {b : Nat} {s : MgS} (hi : L[i]? = some (RMgrA (pt b) s)) (q : Bool) : w.cell? ⟨b, 12, none⟩ = some (.bool s.ro) ∧ w.frozen? ⟨b, 12, none⟩ = false ∧ Hid (Sep W (L.set i (RMgrA (pt b) { s with ro := q })) (w.setCell ⟨b, 12, none⟩ (.bool q))) := by
 obtain ⟨c, rfl, hc, hS, hil⟩ := RMgrA.open' h i hi
 refine ⟨by rw [rm_cell hS.out]; rfl, rm_fz hS.out 12, ?_⟩
 have h1 := rm_store hS.out 12 (.bool q) { s with ro := q } rfl rfl rfl rfl rfl rfl
 exact RMgrA.shut (c := c) (Lib.hid h1) hil rfl ⟨hc.len, hc.mapr, hc.bufr, hc.ql⟩
end
end Go.Proofs
namespace Go.Proofs
open Go.RowKit Sc
theorem str_of {G : Nat → Prop} {w : World} {v : Value} {l : Bytes} (h : BytesAt G w v l) : (convert 30 9 v).run Tryz.prog w = .ok (.string ⟨l.toArray⟩) w := by
 obtain ⟨p, c, rfl, h1, h2, h3, h4⟩ := h
 cases p with
 | none =>
  have hl : l.length = 0 := by have := h3 rfl; omega
  obtain rfl : l = [] := List.length_eq_zero_iff.1 hl
  exact run_convert_bytes_nil w 30 5 Tryz.underlying30 Tryz.underlying5 0 c 9 Tryz.underlying9
 | some a =>
  refine run_convert_bytes_back w 30 9 5 a c l Tryz.underlying30 Tryz.underlying5 Tryz.underlying9 fun j hj => ?_
  obtain ⟨b, o, hp, _, he⟩ := h4 j hj
  cases hp
  unfold byteE at he
  rw [Nat.mul_one] at he
  have hadd : (⟨b, o, none⟩ : Addr).add j = ⟨b, o + j, none⟩ := by unfold Addr.add; split <;> simp_all
  rw [hadd]; exact he
def pkey (p : Put) : Int × Bytes := (p.lba, p.data)
def samePuts (a b : List Put) : Bool := a.map pkey == b.map pkey
theorem pkey_inj {p q : Put} (h : pkey p = pkey q) : p = q := by
 cases p; cases q; simp only [pkey, Prod.mk.injEq] at h; obtain ⟨rfl, rfl⟩ := h; rfl
theorem samePuts_iff {a b : List Put} : samePuts a b = true ↔ a = b := by
 unfold samePuts
 rw [beq_iff_eq]
 constructor
 ·intro h
  induction a generalizing b with
  | nil => cases b with
   | nil => rfl
   | cons y t => simp at h
  | cons x t ih => cases b with
   | nil => simp at h
   | cons y u =>
    simp only [List.map_cons, List.cons.injEq] at h
    rw [pkey_inj h.1, ih h.2]
 ·rintro rfl; rfl
set_option maxRecDepth 100000 in
set_option maxHeartbeats 1000000 in
theorem samePuts_any (G : Nat → Prop) (va vb : Value) (a b : List Put) (w : World) (hG : Dom G w) (ha : PutsAt G w va a) (hb : PutsAt G w vb b) :
  Calls Tryz.prog 37 #[va, vb] w fun e w' => e = .returned (.bool (samePuts a b)) ∧ Below w.heap.size w w' := by
 obtain ⟨pa, ca, rfl, ha1, ha2, ha3, ha4⟩ := ha
 obtain ⟨pb, cb, rfl, hb1, hb2, hb3, hb4⟩ := hb
 by_cases hlen : a.length = b.length
 case neg =>
  have hne : (((a.length : Nat) : Int) != ((b.length : Nat) : Int)) = true := by rw [bne_iff_ne]; omega
  have hs : samePuts a b = false := by
   cases h : samePuts a b with
   | false => rfl
   | true => exact absurd (congrArg List.length (samePuts_iff.1 h)) hlen
  rw [hs]
  clear ha4 hb4 ha3 hb3 hs hlen
  go_enter Tryz.func37, Tryz.ntmps37
  go_wp2
  go_ret
  exact ⟨rfl, Below.refl _ _⟩
 case pos =>
  have heq : (((a.length : Nat) : Int) != ((b.length : Nat) : Int)) = false := by rw [bne_eq_false_iff_eq]; omega
  have HA := Lib.hid ha4
  have HB := Lib.hid hb4
  have HL := Lib.hid hlen
  clear ha4 hb4 ha3 hb3 hlen
  go_enter Tryz.func37, Tryz.ntmps37
  go_wp2
  go_loopw [5] (fun i wr => ∃ k : Nat, k ≤ a.length ∧ i = .int .i64 k ∧ Below w.heap.size w wr ∧ Hid (a.take k = b.take k)) (fun i _ => a.length - (intOf i).toNat)
  case atStart => exact ⟨0, by omega, rfl, Below.refl _ _, rfl⟩
  case round =>
   obtain ⟨k, hk, rfl, hbw, HT⟩ := hrel
   by_cases hlt : k < a.length
   ·have hltb : k < b.length := by rw [← HL.out]; exact hlt
    obtain ⟨g1, o1, rfl, hg1, hc1, hi1, v1, hv1, hd1⟩ := HA.out k hlt
    obtain ⟨g2, o2, rfl, hg2, hc2, hi2, v2, hv2, hd2⟩ := HB.out k hltb
    have hc1' := (hbw.cell (p := ⟨g1, o1 + k * 2, none⟩) (hG g1 hg1)).trans hc1
    have hc2' := (hbw.cell (p := ⟨g2, o2 + k * 2, none⟩) (hG g2 hg2)).trans hc2
    have hv1' := (hbw.cell (p := ⟨g1, o1 + k * 2 + 1, none⟩) (hG g1 hg1)).trans hv1
    have hv2' := (hbw.cell (p := ⟨g2, o2 + k * 2 + 1, none⟩) (hG g2 hg2)).trans hv2
    have hd1' := hd1.same (hG.same hbw)
    have hd2' := hd2.same (hG.same hbw)
    have hs1 := fun nq => str_of (BytesAt.up hd1' (below_drewN (Below.refl wr.heap.size wr) nq))
    have hs2 := fun nq => str_of (BytesAt.up hd2' (below_drewN (Below.refl wr.heap.size wr) nq))
    have hta := take_snoc a k hlt
    have htb := take_snoc b k hltb
    have HTA := Lib.hid hta
    have HTB := Lib.hid htb
    have hstep : pkey a[k] ≠ pkey b[k] → samePuts a b = false := by
     intro hne
     cases h : samePuts a b with
     | false => rfl
     | true => exfalso; apply hne; have := samePuts_iff.1 h; subst this; rfl
    generalize a[k] = x at hc1' hv1' hs1 HTA hstep hi1
    generalize b[k] = y at hc2' hv2' hs2 HTB hstep hi2
    have HSTEP := Lib.hid hstep
    obtain ⟨x1, x2⟩ := x
    obtain ⟨y1, y2⟩ := y
    simp only at hc1' hc2' hs1 hs2
    clear hta htb hc1 hc2 hv1 hv2 hd1 hd2 hd1' hd2' hstep hi1 hi2
    by_cases h1 : x1 = y1
    ·subst h1
     by_cases h2 : x2 = y2
     ·subst h2
      have e1 : (x1 != x1) = false := by simp
      go_wp2
      go_quiet (fail)
      go_wp2
      go_roundw
      case rel => exact ⟨k + 1, by omega, by go_num, below_drewN hbw _, by unfold Hid; rw [HTA.out, HTB.out, HT.out]⟩
      case measure => simp [intOf]; omega
     ·have e1 : (x1 != x1) = false := by simp
      have e2 : (x2 == y2) = false := by rw [beq_eq_false_iff_ne]; exact h2
      have H2 := Lib.hid h2
      clear h2
      go_wp2
      go_quiet (fail)
      go_wp2
      go_ret
      refine ⟨?_, below_drewN hbw _⟩
      exact congrArg boolRet (HSTEP.out (fun h => H2.out (by simpa [pkey] using h))).symm
    ·have e1 : (x1 != y1) = true := by rw [bne_iff_ne]; exact h1
     have H1 := Lib.hid h1
     clear h1
     go_wp2
     go_quiet (fail)
     go_wp2
     go_ret
     refine ⟨?_, below_drewN hbw _⟩
     exact congrArg boolRet (HSTEP.out (fun h => H1.out (by simp only [pkey, Prod.mk.injEq] at h; exact h.1))).symm
   ·have HK := Lib.hid (show k = a.length by omega)
    go_wp2
    go_ret
    refine ⟨?_, hbw⟩
    have : samePuts a b = true := by
     rw [samePuts_iff]
     have h := HT.out
     rw [HK.out, List.take_length, HL.out, List.take_length] at h
     exact h
    exact congrArg boolRet this.symm
end Go.Proofs
namespace Go.Proofs
open Go.RowKit Sc
theorem samePuts_self (l : List Put) : samePuts l l = true := samePuts_iff.2 rfl
set_option maxRecDepth 100000 in
set_option maxHeartbeats 2000000 in
theorem sameBatch_eq (G : Nat → Prop) (n : Int) (v1 v2 : Value) (l : List Tx) (w : World) (hG : Dom G w) (h1 : TxsAt G w v1 l) (h2 : TxsAt G w v2 l) (_hl : l.length ≤ 1000000) :
  Calls Tryz.prog 85 #[.agg #[.int .i64 n, v1], .agg #[.int .i64 n, v2]] w fun e w' => e = .returned (.bool true) ∧ Below w.heap.size w w' := by
 obtain ⟨p1, c1, rfl, _, _, _, a4⟩ := h1
 obtain ⟨p2, c2, rfl, _, _, _, b4⟩ := h2
 have HA := Lib.hid a4
 have HB := Lib.hid b4
 have HG := Lib.hid hG
 have hn : (n != n) = false := by simp
 have hll : ((l.length : Int) != (l.length : Int)) = false := by simp
 have e1 := below_alloc w (.cells #[.int .i64 n, .slice p1 l.length c1] 42 (0, 0))
 have e2 := below_alloc (w.alloc (.cells #[.int .i64 n, .slice p1 l.length c1] 42 (0, 0))) (.cells #[.int .i64 n, .slice p2 l.length c2] 42 (0, 0))
 have g1 := heap_alloc_new w (.cells #[.int .i64 n, .slice p1 l.length c1] 42 (0, 0))
 have g2 := heap_alloc_new (w.alloc (.cells #[.int .i64 n, .slice p1 l.length c1] 42 (0, 0))) (.cells #[.int .i64 n, .slice p2 l.length c2] 42 (0, 0))
 rw [show (w.alloc (.cells #[.int .i64 n, .slice p1 l.length c1] 42 (0, 0))).heap.size = w.heap.size + 1 by simp] at g2
 have x0 : ((w.alloc (.cells #[.int .i64 n, .slice p1 l.length c1] 42 (0, 0))).alloc (.cells #[.int .i64 n, .slice p2 l.length c2] 42 (0, 0))).cell? ⟨w.heap.size, 0, none⟩ = some (.int .i64 n) := cell_up e2 (by rw [cell_row g1]; rfl)
 have x1 : ((w.alloc (.cells #[.int .i64 n, .slice p1 l.length c1] 42 (0, 0))).alloc (.cells #[.int .i64 n, .slice p2 l.length c2] 42 (0, 0))).cell? ⟨w.heap.size, 1, none⟩ = some (.slice p1 l.length c1) := cell_up e2 (by rw [cell_row g1]; rfl)
 have y0 : ((w.alloc (.cells #[.int .i64 n, .slice p1 l.length c1] 42 (0, 0))).alloc (.cells #[.int .i64 n, .slice p2 l.length c2] 42 (0, 0))).cell? ⟨w.heap.size + 1, 0, none⟩ = some (.int .i64 n) := by rw [cell_row g2]; rfl
 have y1 : ((w.alloc (.cells #[.int .i64 n, .slice p1 l.length c1] 42 (0, 0))).alloc (.cells #[.int .i64 n, .slice p2 l.length c2] 42 (0, 0))).cell? ⟨w.heap.size + 1, 1, none⟩ = some (.slice p2 l.length c2) := by rw [cell_row g2]; rfl
 have HBW : Hid (Below w.heap.size w ((w.alloc (.cells #[.int .i64 n, .slice p1 l.length c1] 42 (0, 0))).alloc (.cells #[.int .i64 n, .slice p2 l.length c2] 42 (0, 0)))) := Below.up e1 e2
 clear e1 e2 g1 g2 a4 b4 hG
 go_enter Tryz.func85, Tryz.ntmps85
 go_wp2_with fail
 generalize (w.alloc (.cells #[.int .i64 n, .slice p1 l.length c1] 42 (0, 0))).alloc (.cells #[.int .i64 n, .slice p2 l.length c2] 42 (0, 0)) = W0 at *
 go_loopw [5] (fun s5 wr => ∃ k : Nat, k ≤ l.length ∧ s5 = .int .i64 (k : Int) ∧ Hid (Below W0.heap.size W0 wr)) (fun s5 _ => l.length - (intOf s5).toNat)
 case atStart => exact ⟨0, Nat.zero_le _, by go_num, Below.refl _ _⟩
 case round =>
  obtain ⟨k, hk, rfl, HB1⟩ := hrel
  have z1 := cell_up HB1.out x1
  have z2 := cell_up HB1.out y1
  by_cases hlt : k < l.length
  case neg =>
   obtain rfl : k = l.length := by omega
   have HF := Lib.hid (Below.up HBW.out HB1.out)
   go_wp2
   go_ret
   exact ⟨rfl, HF.out⟩
  case pos =>
   have hki : (k : Int) < (l.length : Int) := by omega
   obtain ⟨b1, o1, rfl, q1, t1, i1, pv1, u1, r1⟩ := HA.out k hlt
   obtain ⟨b2, o2, rfl, q2, t2, i2, pv2, u2, r2⟩ := HB.out k hlt
   have hb0 := Below.up HBW.out HB1.out
   have m1 := cell_up hb0 t1
   have m2 := cell_up hb0 t2
   have v1 := cell_up hb0 u1
   have v2 := cell_up hb0 u2
   obtain ⟨pp1, pc1, rfl⟩ := putsAt_shape r1
   obtain ⟨pp2, pc2, rfl⟩ := putsAt_shape r2
   have hbd : Below wr.heap.size wr wr.drew := below_drewN (Below.refl _ _) 1
   have hsp := samePuts_any G (.slice pp1 l[k].puts.length pc1) (.slice pp2 l[k].puts.length pc2) l[k].puts l[k].puts wr.drew (fun q hq => by have := HG.out q hq; have := (Below.up hb0 hbd).size; omega) (r1.up (Below.up hb0 hbd)) (r2.up (Below.up hb0 hbd))
   rw [samePuts_self] at hsp
   have HSP := Lib.hid hsp
   clear hsp r1 r2 i1 i2 q1 q2 t1 t2 u1 u2 hb0
   generalize l[k] = x at *
   have hte : (x.time != x.time) = false := by simp
   go_wp2_with fail
   refine wp_regionG (fun W => Below wr.heap.size wr W) (n := 29) (by kernel_rfl) (by kernel_rfl) ?_
   refine wpG.tk 0 ?_
   refine wpG.tk 1 ?_ (hy := by intro W hW; have hld0 := cell_up hW z1; go_simp; try with_reducible rfl)
   refine wpG.tk 2 ?_
   refine wpG.tk 3 ?_
   refine wpG.tk 4 ?_
   refine wpG.tk 5 ?_ (hy := by intro W hW; have hld0 := cell_up hW m1; go_simp; try with_reducible rfl)
   refine wpG.tk 6 ?_
   refine wpG.tk 7 ?_ (hy := by intro W hW; have hld0 := cell_up hW z2; go_simp; try with_reducible rfl)
   refine wpG.tk 8 ?_
   refine wpG.tk 9 ?_
   refine wpG.tk 10 ?_
   refine wpG.tk 11 ?_ (hy := by intro W hW; have hld0 := cell_up hW m2; go_simp; try with_reducible rfl)
   refine wpG.tk 12 ?_
   refine wpG.tk 13 ?_
   refine wpG.tk 14 ?_
   refine wpG.tk 15 ?_ (hy := by intro W hW; have hld0 := cell_up hW z1; go_simp; try with_reducible rfl)
   refine wpG.tk 16 ?_
   refine wpG.tk 17 ?_
   refine wpG.tk 18 ?_
   refine wpG.tk 19 ?_ (hy := by intro W hW; have hld0 := cell_up hW v1; go_simp; try with_reducible rfl)
   refine wpG.tk 20 ?_
   refine wpG.tk 21 ?_ (hy := by intro W hW; have hld0 := cell_up hW z2; go_simp; try with_reducible rfl)
   refine wpG.tk 22 ?_
   refine wpG.tk 23 ?_
   refine wpG.tk 24 ?_
   refine wpG.tk 25 ?_ (hy := by intro W hW; have hld0 := cell_up hW v2; go_simp; try with_reducible rfl)
   refine wpG.alone 26 rfl (by kernel_rfl) (by kernel_rfl) hbd (fun K hK => ?_)
   go_simp
   go_at_call 37
   refine (HSP.out).mono ?_
   rintro e w2 ⟨rfl, hb2⟩
   have hb3 := Below.up hbd hb2
   have HB3 := Lib.hid hb3
   clear hb2 hb3 hbd HSP
   try go_simp
   refine hK _ _ ?_
   clear hK K
   refine wpG.tk 27 ?_
   refine wpG.tk 28 ?_
   refine wpG.done (by kernel_rfl) HB3.out ?_
   go_wp2_with fail
   go_roundw
   case rel => exact ⟨k + 1, by omega, by go_num, Lib.hid (Below.up HB1.out HB3.out)⟩
   case measure => simp [intOf]; omega
end Go.Proofs
namespace Go.Proofs
open Go.RowKit Sc
end Go.Proofs
namespace Go.Proofs
open Go.RowKit Sc
theorem buf_one {blocks most : Int} {s : List (Int × Bytes)} {k : Int} {d : Bytes} (h1 : 0 ≤ k ∧ k < blocks) (h2 : d.length = 40) (h3 : (s.length : Int) < most) : bufCode blocks most s [⟨k, d⟩] = 0 ∧ bufNext blocks most s [⟨k, d⟩] = aset s k d := by
 have hc : bufCode blocks most s [⟨k, d⟩] = 0 := by
  unfold bufCode
  have e1 : ([⟨k, d⟩] : List Put).any (outB blocks) = false := by
   show (outB blocks ⟨k, d⟩ || false) = false
   unfold outB
   rw [decide_eq_false (show ¬ k < 0 by omega), decide_eq_false (show ¬ blocks ≤ k by omega)]; rfl
  have e2 : ([⟨k, d⟩] : List Put).any len40 = false := by
   show (len40 ⟨k, d⟩ || false) = false
   unfold len40
   rw [decide_eq_true h2]; rfl
  have e3 : twiceB [(⟨k, d⟩ : Put)] = false := twiceB_no.2 (by simp)
  have e4 : freshN s [(⟨k, d⟩ : Put)] ≤ 1 := by unfold freshN; exact List.length_filter_le _ _
  rw [if_neg (by simp), e1, e2, e3]
  simp only [Bool.false_eq_true, if_false]
  rw [if_neg (by omega)]
 refine ⟨hc, ?_⟩
 unfold bufNext
 rw [if_pos hc]; rfl
theorem wr_one {s : MgS} {h k : Int} {d : Bytes} (ho : openB s h = true) (h1 : 0 ≤ k ∧ k < s.blocks) (h2 : d.length = 40) (h3 : (txOf s h).buf.length < 16) : wrCode s h [⟨k, d⟩] = 0 ∧ wrNext s h [⟨k, d⟩] = setTx s h { txOf s h with buf := aset (txOf s h).buf k d } := by
 obtain ⟨e1, e2⟩ := buf_one (most := 16) h1 h2 (s := (txOf s h).buf) (by omega)
 unfold wrCode wrNext
 rw [if_pos ho, if_pos ho, e1, e2]
 exact ⟨rfl, rfl⟩
theorem check_free {vs : Vers} {queue : List Tx} {t : Int} {r l : List Ext} (h1 : ∀ x ∈ r ++ l, wrB vs x t = false) (h2 : ∀ q ∈ queue, ∀ p ∈ q.puts, hasB r p.lba = false ∧ hasB l p.lba = false) : checkCode vs queue t r l = 0 := by
 unfold checkCode
 split
 ·rfl
 ·have key : ∀ m, (∀ x ∈ m, wrB vs x t = false) → (∀ q ∈ queue, ∀ p ∈ q.puts, hasB m p.lba = false) → hitsB vs queue t m = false := fun m a b => by
   unfold hitsB
   rw [Bool.or_eq_false_iff]
   refine ⟨List.any_eq_false.2 fun x hx => by rw [a x hx]; simp, List.any_eq_false.2 fun q hq => ?_⟩
   unfold againstB
   rw [Bool.not_eq_true, List.any_eq_false]
   exact fun p hp => by rw [b q hq p hp]; simp
  rw [key r (fun x hx => h1 x (List.mem_append_left _ hx)) (fun q hq p hp => (h2 q hq p hp).1), key l (fun x hx => h1 x (List.mem_append_right _ hx)) (fun q hq p hp => (h2 q hq p hp).2)]
  rfl
theorem wrB_nil (x : Ext) (t : Int) : wrB [] x t = false := by
 unfold wrB writtenB
 simp
theorem check_none (t : Int) (r l : List Ext) : checkCode [] [] t r l = 0 := check_free (fun x _ => wrB_nil x t) (by simp)
theorem cm_ok {s : MgS} {h : Int} (ho : openB s h = true) (hb : 0 < (txOf s h).buf.length) (hm : mayC s (txOf s h) = 0) : cmCode s h = 0 ∧ cmNext s h = cmWait s h := by
 unfold cmCode cmNext
 rw [if_pos ho, if_pos ho, if_neg (by omega), if_neg (by omega), if_neg (by rw [hm]; simp)]
 exact ⟨hm, rfl⟩
theorem may_ok {s : MgS} {t : TxS} (hr : s.ro = false) (hc : checkCode s.vs (waitL s) t.at' t.S (setB t) = 0) (hg : s.given < 1099511627776) : mayC s t = 0 := by
 unfold mayC
 rw [if_neg (by rw [hr]; decide), if_neg (by rw [hc]; simp), if_neg (by omega)]
theorem ba_ok {s : MgS} (h1 : s.out = 0) (h2 : 0 < s.queue.length) : baCode s = 0 ∧ baNext s = { s with out := formN (waitL s) } := by
 have : baCode s = 0 := by unfold baCode; rw [if_neg (by omega), if_neg (by omega)]
 exact ⟨this, if_pos this⟩
end Go.Proofs
namespace Go.Proofs
open Go.RowKit Sc
theorem mgWrite_one {W w : World} {L : List Asn} (h : Hid (Sep W L w)) (i j : Nat) (hij : j ≠ i) {b : Nat} {dv : Value} {d : Bytes} {s : MgS} (hi : L[i]? = some (MgrA (pt b) s)) (hj : L[j]? = some (ByA dv d)) {n : Nat} (g : MgG n s) (hd k : Int) (hk : I64 k) (gg : Nat) (hg : w.heap.size = gg) :
  Calls Tryz.prog 20 #[.pointer (some ⟨b, 0, none⟩), .int .i64 hd, .slice (some ⟨gg, 0, none⟩) 1 1] (w.alloc (.cells #[.int .i64 k, dv] 33)) fun e w' => e = .returned (.int .i64 (wrCode s hd [⟨k, d⟩])) ∧ Hid (Sep W (L.set i (MgrA (pt b) (wrNext s hd [⟨k, d⟩]))) w') := by
 subst hg
 have hil : i < L.length := (List.getElem?_eq_some_iff.1 hi).1
 have hjl : j < L.length := (List.getElem?_eq_some_iff.1 hj).1
 have h1 := h.out.new (below_alloc w _) (BoxA w.heap.size #[.int .i64 k, dv] 33) (F := New w (w.alloc (.cells #[.int .i64 k, dv] 33))) (fun _ h => h) ⟨⟨Nat.le_refl _, by simp⟩, heap_alloc_new w _⟩
 refine (mgWrite_sep (Lib.hid h1) i (by rw [List.getElem?_append_left hil]; exact hi) g hd _ [⟨k, d⟩] (fun G hR => ?_) (by simp)).mono ?_
 ·obtain ⟨F1, a1, a2⟩ := hR j (ByA dv d) hij (by rw [List.getElem?_append_left hjl]; exact hj)
  obtain ⟨F2, b1, b2⟩ := hR L.length (BoxA w.heap.size #[.int .i64 k, dv] 33) (by omega) (by rw [List.getElem?_append_right (Nat.le_refl _)]; simp)
  exact puts_box1 b2.2 (b1 _ b2.1) hk (BytesAt.mono a2 a1)
 ·rintro e w' ⟨rfl, hS⟩
  refine ⟨rfl, ?_⟩
  have := hS.out.take L.length
  rw [List.set_append_left _ _ hil, List.take_left' (by simp)] at this
  exact this
def aw2 (d : Bytes) : MgS := ⟨5, 0, [], 1, [(1, 0)], [⟨1, 0, 0, 0, [(0, d)], [], []⟩], [], 0, 0, 0, 0, 0, false⟩
def aw3 (d : Bytes) : MgS := ⟨5, 0, [], 1, [(1, 0)], [⟨2, 1, 0, 0, [(0, d)], [], []⟩], [1], 0, 0, 0, 0, 1, false⟩
def aw4 (d : Bytes) : MgS := { aw3 d with out := 1 }
theorem aw_beg : begC (mgNew 5 0) = 0 ∧ begH (mgNew 5 0) = 1 ∧ begNext (mgNew 5 0) = ⟨5, 0, [], 1, [(1, 0)], [⟨1, 0, 0, 0, [], [], []⟩], [], 0, 0, 0, 0, 0, false⟩ := ⟨rfl, rfl, rfl⟩
theorem aw_wr {d : Bytes} (hd : d.length = 40) : wrCode (begNext (mgNew 5 0)) 1 [⟨0, d⟩] = 0 ∧ wrNext (begNext (mgNew 5 0)) 1 [⟨0, d⟩] = aw2 d := by
 rw [aw_beg.2.2]
 obtain ⟨h1, h2⟩ := wr_one (s := ⟨5, 0, [], 1, [(1, 0)], [⟨1, 0, 0, 0, [], [], []⟩], [], 0, 0, 0, 0, 0, false⟩) (h := 1) (k := 0) (d := d) rfl (by simp) hd (by show 0 < 16; omega)
 exact ⟨h1, h2.trans rfl⟩
theorem aw_cm (d : Bytes) : cmCode (aw2 d) 1 = 0 ∧ cmNext (aw2 d) 1 = aw3 d := by
 obtain ⟨h1, h2⟩ := cm_ok (s := aw2 d) (h := 1) rfl (by show 0 < 1; omega) (may_ok rfl (check_none _ _ _) (by show (0 : Int) < 1099511627776; omega))
 exact ⟨h1, h2.trans rfl⟩
theorem aw_ba (d : Bytes) : baCode (aw3 d) = 0 ∧ baNext (aw3 d) = aw4 d := by
 obtain ⟨h1, h2⟩ := ba_ok (s := aw3 d) rfl (by show 0 < 1; omega)
 refine ⟨h1, h2.trans ?_⟩
 have hp := formN_pos (l := waitL (aw3 d)) (by show 0 < 1; omega)
 have hb := (formN_bd (waitL (aw3 d))).1
 rw [waitL_len] at hb
 have hb' : formN (waitL (aw3 d)) ≤ 1 := hb
 have e : formN (waitL (aw3 d)) = 1 := by omega
 rw [e]; rfl
set_option maxRecDepth 100000 in
set_option maxHeartbeats 4000000 in
theorem awake23 (w : World) : Calls Tryz.prog 17 #[] w fun e w' => e = .returned (.bool true) ∧ Below w.heap.size w w' := by
 have hd40 : (dataB 1).length = 40 := data_sz 1
 have G0 : MgG 0 (mgNew 5 0) := MgG.new (by omega) (by omega) (by omega) (by omega)
 have G1 : MgG 1 (begNext (mgNew 5 0)) := G0.begins (by omega)
 have G2 : MgG 1 (aw2 (dataB 1)) := by have := G1.writes 1 [⟨0, dataB 1⟩]; rwa [(aw_wr hd40).2] at this
 have G3 : MgG 1 (aw3 (dataB 1)) := by have := G2.commits 1; rwa [(aw_cm _).2] at this
 have G4 : MgG 1 (aw4 (dataB 1)) := by have := G3.batches; rwa [(aw_ba _).2] at this
 have HG0 := Lib.hid G0
 have HG1 := Lib.hid G1
 have HG2 := Lib.hid G2
 have HG3 := Lib.hid G3
 have HG4 := Lib.hid G4
 clear G0 G1 G2 G3 G4
 go_enter Tryz.func17, Tryz.ntmps17
 go_wp2_with fail
 refine (mgrNew_sep (Lib.hid (Sep.start w)) 5 0 (by omega) (by omega) (by omega) (by omega)).mono ?_
 rintro e w1 ⟨b, rfl, HS1⟩
 go_wp2_with fail
 refine (mgBegin_sep HS1 1 rfl HG0.out).mono ?_
 rintro e w2 ⟨rfl, HS2⟩
 rw [aw_beg.1, aw_beg.2.1]
 go_wp2_with fail
 refine (data_any 1 _).mono ?_
 rintro e w3 ⟨dv, rfl, hd, hb3⟩
 obtain ⟨dp, dc, rfl⟩ := shape_of hd hd40
 have HS3 := Lib.hid (HS2.out.new hb3 (ByA (.slice dp 40 dc) (dataB 1)) (fun _ h => h) hd)
 clear hd hb3 HS1 HS2
 have HW := Lib.hid (mgWrite_one HS3 1 2 (by decide) rfl rfl HG1.out 1 0 (by unfold I64; omega) w3.heap.size rfl)
 rw [(aw_wr hd40).1, (aw_wr hd40).2] at HW
 go_wp2_with fail
 refine (HW.out).mono ?_
 rintro e w4 ⟨rfl, HS4⟩
 have HC := Lib.hid (mgCommit_sep HS4 1 rfl HG2.out (by decide) 1)
 rw [(aw_cm _).1, (aw_cm _).2] at HC
 clear HW HS3
 go_wp2_with fail
 refine (HC.out).mono ?_
 rintro e w5 ⟨rfl, HS5⟩
 have HB := Lib.hid (mgBatch_sep HS5 1 rfl HG3.out (by decide) (by decide))
 clear HC HS4
 go_wp2_with fail
 refine (HB.out).mono ?_
 rintro e w6 (⟨h0, _⟩ | ⟨_, p, cp, rfl, HS6⟩)
 ·exact absurd (aw_ba _).1 h0
 have hs6 := HS6.out
 rw [(aw_ba _).2] at hs6
 generalize (aw3 (dataB 1)).num + 1 = nn at *
 generalize formN (waitL (aw3 (dataB 1))) = fl at *
 have HS6' := Lib.hid (hs6.up (below_alloc w6 (.cells #[.int .i64 nn, .slice p fl cp] 42)))
 have HR := Lib.hid (mgResult_sep HS6' 1 rfl 1)
 clear hs6 HS6 HB HS5
 go_wp2_with fail
 refine (HR.out).mono ?_
 rintro e w7 ⟨rfl, HS7⟩
 have HDN := Lib.hid (mgDone_sep HS7 1 rfl HG4.out (by decide) (by decide) (by decide) 0)
 rw [show resOf (aw4 (dataB 1)) 1 = (2, 1, 0) from rfl]
 clear HR HS6'
 go_wp2_with fail
 refine (HDN.out).mono ?_
 rintro e w8 ⟨rfl, HS8⟩
 rw [show doneCode (aw4 (dataB 1)) = 0 from rfl]
 have HR := Lib.hid (mgResult_sep HS8 1 rfl 1)
 clear HDN HS7
 go_wp2_with fail
 refine (HR.out).mono ?_
 rintro e w9 ⟨rfl, HS9⟩
 rw [show resOf (doneNext (aw4 (dataB 1)) 0) 1 = (3, 1, 0) from rfl]
 clear HR HS8
 have HL := Lib.hid (mgLast_sep HS9 1 rfl)
 rw [show (doneNext (aw4 (dataB 1)) 0).last = 1 from rfl] at HL
 go_wp2_with fail
 refine (HL.out).mono ?_
 rintro e w10 ⟨rfl, rfl⟩
 have HOL := Lib.hid HS9.out.old
 clear HS9 HL
 go_wp2
 go_ret
 exact ⟨rfl, HOL.out⟩
end Go.Proofs
namespace Go.Proofs
open Go.RowKit Sc
structure Step23 where
 kind : Int
 h : Int
 e : Ext
 puts : List Put
 n : Int
def stepE23 (G : Nat → Prop) : Elem Step23 := fun w b o x => w.cell? ⟨b, o, none⟩ = some (.int .i64 x.kind) ∧ I64 x.kind ∧ w.cell? ⟨b, o + 1, none⟩ = some (.int .i64 x.h) ∧ I64 x.h ∧ w.cell? ⟨b, o + 2, none⟩ = some (.int .i64 x.e.first) ∧ w.cell? ⟨b, o + 3, none⟩ = some (.int .i64 x.e.len) ∧ I64 x.e.first ∧ I64 x.e.len ∧ (∃ pv, w.cell? ⟨b, o + 4, none⟩ = some pv ∧ PutsAt G w pv x.puts) ∧ w.cell? ⟨b, o + 5, none⟩ = some (.int .i64 x.n) ∧ I64 x.n
def Steps23 (G : Nat → Prop) : World → Value → List Step23 → Prop := SlAt G 6 (stepE23 G)
theorem Steps23.up {G : Nat → Prop} {w w' : World} {v : Value} {l : List Step23} (h : Steps23 G w v l) (hb : Below w.heap.size w w') : Steps23 G w' v l :=
 SlAt.up h (fun _ _ _ ⟨h1, h2, h3, h3', h4, h5, h6, h6', ⟨u, h7, h8⟩, h9, h10⟩ => ⟨cell_up hb h1, h2, cell_up hb h3, h3', cell_up hb h4, cell_up hb h5, h6, h6', ⟨u, cell_up hb h7, h8.up hb⟩, cell_up hb h9, h10⟩)
def ssz23 (l : List Step23) : Nat := (l.map fun s => psz s.puts + 3).sum
def Small23 (l : List Step23) (w : World) (e : Ending) (w' : World) : Prop := ∃ q : Bool, e = .returned (.bool q) ∧ (q = true → ssz23 l ≤ 30000 ∧ l.length ≤ 150) ∧ Below w.heap.size w w'
set_option maxHeartbeats 1000000 in
theorem small23_any (G : Nat → Prop) (v : Value) (l : List Step23) (w : World) (_hG : Dom G w) (hv : Steps23 G w v l) : Calls Tryz.prog 38 #[v] w (Small23 l w) := by
 obtain ⟨p, c, rfl, h1, h2, h3, h4⟩ := hv
 have H4 := Lib.hid h4
 clear h4
 clear h3
 go_enter Tryz.func38, Tryz.ntmps38
 go_wp2
 go_loopw [3, 4] (fun s i wr => ∃ k : Nat, k ≤ l.length ∧ i = .int .i64 k ∧ s = .int .i64 (((l.take k).map fun s => psz s.puts + 3).sum : Nat) ∧ Below w.heap.size w wr ∧ Hid (((l.take k).map fun s => psz s.puts + 3).sum ≤ 30000)) (fun _ i _ => l.length - (intOf i).toNat)
 case atStart => exact ⟨0, by omega, rfl, by simp, Below.refl _ _, by unfold Hid; simp⟩
 case round =>
  obtain ⟨k, hk, rfl, rfl, hbw, HS⟩ := hrel
  by_cases hlt : k < l.length
  ·obtain ⟨b, o, rfl, hb, _, _, _, _, _, _, _, _, ⟨pv, hcp, hp⟩, _, _⟩ := H4.out k hlt
   have hcp' := cell_up hbw hcp
   have hs := sum_take_succ (fun s : Step23 => psz s.puts + 3) l k hlt
   have hS := HS.out
   generalize l[k] = x at hp hs
   generalize ((l.take k).map fun s => psz s.puts + 3).sum = n at *
   have hp' := hp.up hbw
   have HP' := Lib.hid hp'
   have HS := Lib.hid hs
   clear hp' hs
   clear hcp hp
   go_wp2_with fail
   refine (puts_any G _ x.puts 30000 _ (by have := HP'.out; simpa using this) (by omega) (by omega)).mono ?_
   rintro e w1 ⟨n1, rfl, hn1, hn2, hn3, hb1⟩
   have hbw1 := Below.up hbw hb1
   have HN3 := Lib.hid hn3
   have HB1 := Lib.hid hb1
   clear hn3 hb1
   go_wp2_with fail
   refine (sum_any n [n1, 3] _ 0 _ _ (by omega) (by omega) (fun i hi => ?_) (by simp) (fun i hi => ?_)).mono ?_
   ·simp only [List.length_cons, List.length_nil] at hi
    rcases (show i = 0 ∨ i = 1 by omega) with rfl | rfl
    ·exact ⟨hn1, by simp; omega⟩
    ·exact ⟨by simp, by simp⟩
   ·simp only [List.length_cons, List.length_nil] at hi
    rcases (show i = 0 ∨ i = 1 by omega) with rfl | rfl
    ·rw [cell_row (heap_alloc_new w1 _)]; rfl
    ·rw [cell_row (heap_alloc_new w1 _)]; rfl
   rintro e w2 ⟨rfl, rfl⟩
   have hn3 := HN3.out
   by_cases hbig : n1 ≤ 30000
   ·have hx := hn3 hbig
    have hv2 : sumTo n [n1, 3] = ((n + (psz x.puts + 3) : Nat) : Int) := by
     rw [sumTo_go _ _ _ (by omega) (by omega), sumTo_go _ _ _ (by omega) (by omega)]
     show (n : Int) + n1 + 3 = _
     omega
    rw [hv2]
    generalize hm : n + (psz x.puts + 3) = m at *
    have HM := Lib.hid hm
    clear hv2 hx hm hn3
    by_cases hm2 : m ≤ 30000
    ·have hm2' : ((m : Nat) : Int) ≤ 30000 := by omega
     go_wp2_with fail
     go_roundw
     case rel => exact ⟨k + 1, by omega, by go_num, by rw [HS.out], hbw1.alloc (by have := hbw1.size; omega) _, by unfold Hid; rw [HS.out]; exact hm2⟩
     case measure => simp [intOf]; omega
    ·have hm2' : 30000 < ((m : Nat) : Int) := by omega
     go_wp2_with fail
     go_ret
     exact ⟨false, rfl, fun h => (by cases h), hbw1.alloc (by have := hbw1.size; omega) _⟩
   ·have hv2 : 30000 < sumTo n [n1, 3] := by
     simp only [sumTo]
     split
     ·omega
     ·split <;> omega
    generalize sumTo n [n1, 3] = q at *
    clear hn3
    go_wp2_with fail
    go_ret
    exact ⟨false, rfl, fun h => (by cases h), hbw1.alloc (by have := hbw1.size; omega) _⟩
  ·have hkl : k = l.length := by omega
   have hS := HS.out
   have hsz : ((l.take k).map fun s => psz s.puts + 3).sum = ssz23 l := by rw [hkl, List.take_length]; rfl
   have HSZ := Lib.hid hsz
   have HKL := Lib.hid hkl
   clear hsz hkl
   by_cases h100 : l.length ≤ 150
   ·have h100' : ((l.length : Nat) : Int) ≤ 150 := by omega
    go_wp2_with fail
    go_ret
    exact ⟨true, rfl, fun _ => ⟨by rw [← HSZ.out]; exact hS, h100⟩, hbw⟩
   ·have h100' : ¬ ((l.length : Nat) : Int) ≤ 150 := by omega
    go_wp2_with fail
    go_ret
    exact ⟨false, rfl, fun h => (by cases h), hbw⟩
end Go.Proofs