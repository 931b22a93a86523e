/- AuditMade: the walk: for every input the law returns true. -/
import Derived.Test.YtjomlcemnbfnfaaMade28P
import Derived.Test.YtjomlcemnbfnfaaHistOut
import Derived.Test.YtjomlcemnbfnfaaPrefWalk28
import Derived.Test.YtjomlcemnbfnfaaRegApp
namespace Go.Proofs
open Go.RowKit Sc Go.Sort

def PutsXA (v : Value) (l : List Put) : Asn := ⟨fun F w => PutsAt F w v l, fun _ _ _ hs _ h => h.same hs⟩
theorem md_state {H : List Hist} (h : MadeW H) : RelM 8 (mdSt H H.length) (refAll (List.replicate 8 []) (H.map (·.puts))) := by
  rw [mdSt_all]
  refine (RelM.start 8).all_runs fun p hp => ?_
  obtain ⟨x, hx, rfl⟩ := List.mem_map.1 hp
  obtain ⟨i, hi, rfl⟩ := List.mem_iff_getElem.1 hx
  obtain ⟨a, d, b, e, ho, h2⟩ := h i hi
  rw [h2]
  exact runCode_one _ ho.b0.1 ho.b0.2 ho.e0
theorem md_get {H : List Hist} (h : MadeW H) {a : Int} (ha : 0 ≤ a ∧ a < 8) : refGet (refAll (List.replicate 8 []) (H.map (·.puts))) a = (alook (mdSt H H.length) a).getD zeroB ∧ ((alook (mdSt H H.length) a).getD zeroB).length = 40 := by
  have hr := md_state h
  obtain ⟨z, rfl⟩ := Int.eq_ofNat_of_zero_le ha.1
  refine ⟨(hr.get (k := z) (by omega)).symm, ?_⟩
  cases hq : alook (mdSt H H.length) (z : Int) with
  | none => rfl
  | some d => exact hr.len40 _ _ hq
theorem md_len8 (H : List Hist) : (refAll (List.replicate 8 ([] : Bytes)) (H.map (·.puts))).length = 8 := by rw [refAll_len, List.length_replicate]
theorem md_news {G : Nat → Prop} {w : World} {b o n c : Nat} {l : Bytes} (h : BytesAt G w (.slice (some ⟨b, o, none⟩) n c) l) : ∀ j u, (l.map fun y : UInt8 => Value.int .u8 (y.toNat : Int))[j]? = some u → w.cell? ((⟨b, o, none⟩ : Addr).add j) = some u := by
  intro j u hj
  simp only [List.getElem?_map, Option.map_eq_some_iff] at hj
  obtain ⟨x, hx, rfl⟩ := hj
  obtain ⟨hjl, rfl⟩ := List.getElem?_eq_some_iff.1 hx
  obtain ⟨p', c', e, _, _, _, h4⟩ := h
  cases e
  obtain ⟨b', o', hp, _, he⟩ := h4 j hjl
  cases hp
  unfold byteE at he
  rw [Nat.mul_one] at he
  have hadd : (⟨b, o, none⟩ : Addr).add j = ⟨b, o + j, none⟩ := by unfold Addr.add; split <;> simp_all
  rw [hadd]; exact he
theorem md_some {G : Nat → Prop} {w : World} {v : Value} {l : Bytes} (h : BytesAt G w v l) (hl : l.length = 40) : ∃ b o c, v = .slice (some ⟨b, o, none⟩) 40 c := by
  obtain ⟨p, c, rfl, _, _, _, h4⟩ := h
  obtain ⟨b, o, rfl, _⟩ := h4 0 (by omega)
  exact ⟨b, o, c, by rw [hl]⟩
theorem md_shape {w : World} {B T k n : Nat} {v : Value} {xs : List Value} (h : w.ownsRow B T k v n xs) (hn : 0 < n) : ∃ g c, v = .slice (some ⟨g, 0, none⟩) n c := by
  obtain ⟨_, ⟨_, h0⟩ | ⟨g, cap, cur, rfl, _⟩⟩ := h
  · omega
  · exact ⟨g, cap, rfl⟩
theorem md_one (l : Bytes) : ∀ u ∈ (l.map fun y : UInt8 => Value.int .u8 (y.toNat : Int)), u.oneCell' = true := by
  intro u hu
  obtain ⟨x, _, rfl⟩ := List.mem_map.1 hu
  rfl
theorem reads_box1 {G : Nat → Prop} {w : World} {z : Nat} {T : TypeId} {a : Int} {dv : Value} {d : Bytes} {q : Bool} (h : w.heap[z]? = some (.cells #[.int .i64 a, dv, .bool q] T (0, 0))) (hz : G z) (ia : I64 a) (hd : BytesAt G w dv d) : ReadsAt G w (.slice (some ⟨z, 0, none⟩) 1 1) [⟨a, d, q⟩] := by
  refine ⟨_, 1, rfl, Nat.le_refl _, by omega, (by intro h; cases h), fun i hi => ?_⟩
  simp only [List.length_cons, List.length_nil] at hi
  obtain rfl : i = 0 := by omega
  exact ⟨z, 0, rfl, hz, by rw [cell_row h]; rfl, ia, ⟨dv, by rw [cell_row h]; rfl, hd⟩, by rw [cell_row h]; rfl⟩
theorem puts_box28 {G : Nat → Prop} {w : World} {z : Nat} {T : TypeId} {a : Int} {dv : Value} {d : Bytes} (h : w.heap[z]? = some (.cells #[.int .i64 a, dv] T (0, 0))) (hz : G z) (ia : I64 a) (hd : BytesAt G w dv d) : PutsAt G w (.slice (some ⟨z, 0, none⟩) 1 1) [⟨a, d⟩] := by
  refine ⟨_, 1, rfl, Nat.le_refl _, by omega, (by intro h; cases h), fun i hi => ?_⟩
  simp only [List.length_cons, List.length_nil] at hi
  obtain rfl : i = 0 := by omega
  exact ⟨z, 0, rfl, hz, by rw [cell_row h]; rfl, ia, dv, by rw [cell_row h]; rfl, hd⟩
theorem md_cells {T : Nat} {p : Option Addr} {n c : Nat} {H : List Hist} {F : Nat → Prop} {w : World} (h : (HistOA T (.slice p n c) H).P F w) {t : Nat} (ht : t < H.length) :
    ∃ g rv, p = some ⟨g, 0, none⟩ ∧ n = H.length ∧ w.cell? ⟨g, t * 7 + 1, none⟩ = some (.int .i64 H[t].begun) ∧ w.cell? ⟨g, t * 7 + 2, none⟩ = some (.int .i64 H[t].time) ∧ w.cell? ⟨g, t * 7 + 5, none⟩ = some rv ∧ ReadsAt F w rv H[t].reads ∧ ∀ j, w.frozen? ⟨g, t * 7 + j, none⟩ = false := by
  obtain ⟨D, hO, h2, h3⟩ := h
  obtain ⟨css, a1, a2, a3, a4, _⟩ := hO
  have hrow := a3
  obtain ⟨hx, ⟨_, h0⟩ | ⟨g, cap, cur, e, hb, hg, hnc, hcm, hcs, htake⟩⟩ := a3
  · omega
  · cases e
    have ht' : t < css.length := by omega
    obtain ⟨rv, pv, e1, e2, e3, e4⟩ := a4 t ht' ht
    have hf : ∀ j, j < 7 → w.cell? ⟨g, t * 7 + j, none⟩ = css[t][j]? := fun j hj => by
      rw [hrow.cellAt (t * 7 + j) (by omega)]
      exact flat_get a2 t ht' j hj
    rw [e1] at hf
    exact ⟨g, rv, rfl, rfl, hf 1 (by omega), hf 2 (by omega), hf 5 (by omega), SlAt.mono e3 h3 (fun _ _ _ ⟨a1, a2, ⟨v, a3, a4⟩, a5⟩ => ⟨a1, a2, ⟨v, a3, a4.mono h3⟩, a5⟩), fun j => hrow.frozenAt _⟩
theorem md_xor (y : UInt8) : ∃ z : UInt8, bits .xor .u8 (y.toNat : Int) 1 = (z.toNat : Int) ∧ z ≠ y := by
  have h : (List.range 256).all (fun n : Nat => (bits .xor .u8 (n : Int) 1 == ((n ^^^ 1 : Nat) : Int)) && (decide ((n ^^^ 1) < 256) && (n ^^^ 1 != n))) = true := by decide +kernel
  have hy : y.toNat < 256 := y.toNat_lt
  have := List.all_eq_true.1 h y.toNat (List.mem_range.2 hy)
  simp only [Bool.and_eq_true, beq_iff_eq, decide_eq_true_eq, bne_iff_ne] at this
  have ht : (UInt8.ofNat (y.toNat ^^^ 1)).toNat = y.toNat ^^^ 1 := by rw [UInt8.toNat_ofNat', Nat.mod_eq_of_lt this.2.1]
  exact ⟨UInt8.ofNat (y.toNat ^^^ 1), by rw [this.1, ht], fun e => this.2.2 (by rw [← ht, e])⟩
theorem ReadsAt.mono28 {G G' : Nat → Prop} {w : World} {v : Value} {l : List Sc.Read} (h : ReadsAt G w v l) (hg : ∀ b, G b → G' b) : ReadsAt G' w v l := SlAt.mono h hg (fun _ _ _ ⟨a1, a2, ⟨v, a3, a4⟩, a5⟩ => ⟨a1, a2, ⟨v, a3, a4.mono hg⟩, a5⟩)
theorem md_awake {w w1 : World} {L : List Asn} (HS : Hid (Sep w (OldA w :: L) w1)) : Calls Try.prog 34 #[] w1 fun e w' => e = .returned (.bool true) ∧ Below w.heap.size w w' := by
  refine (awake28 _).mono ?_
  rintro e w2 ⟨rfl, hb⟩
  exact ⟨rfl, (HS.out.up hb).old⟩
set_option maxRecDepth 100000 in
set_option maxHeartbeats 8000000 in
theorem made28_any (vl : Value) (l : List Int) (turn how : Int) (w : World) (hl : IntsAt (Old w) w vl l) (it : I64 turn) (ih : I64 how) :
    Calls Try.prog 12 #[vl, .int .i64 turn, .int .i64 how] w (Tru w) := by
  have hl0 := hl
  obtain ⟨lp, lc, rfl, hll1, hll2, -⟩ := hl0
  have HL := Lib.hid hl
  have HS0 := Lib.hid (Sep.start w)
  clear hl
  by_cases h2 : l.length < 2
  case pos =>
    have h2' : (l.length : Int) < 2 := by omega
    go_enter Try.func12, Try.ntmps12
    go_wp2_with fail
    refine (md_awake HS0).mono ?_
    rintro e w1 ⟨rfl, hb1⟩
    go_wp2
    go_ret
    exact ⟨rfl, hb1⟩
  case neg =>
  by_cases h25 : 25 < l.length
  case pos =>
    have h2' : ¬ (l.length : Int) < 2 := by omega
    have h25' : (25 : Int) < (l.length : Int) := by omega
    go_enter Try.func12, Try.ntmps12
    go_wp2_with fail
    refine (md_awake HS0).mono ?_
    rintro e w1 ⟨rfl, hb1⟩
    go_wp2
    go_ret
    exact ⟨rfl, hb1⟩
  case neg =>
  have h2' : ¬ (l.length : Int) < 2 := by omega
  have h25' : ¬ (25 : Int) < (l.length : Int) := by omega
  obtain ⟨i0, hu0, hu1, hu2, hu3⟩ := info_parts infoU8
  obtain ⟨ii, hii, hiz, hiy, hix⟩ := info_parts infoHist
  go_enter Try.func12, Try.ntmps12
  go_wp2_with fail
  refine (refNew_sep HS0.out 8 (by omega) (by omega)).mono ?_
  rintro e w1 ⟨bm, rfl, HS1⟩
  have hs1 := HS1.out.outA_new 45 7 histR histR_stable
  have HS2 : Hid (Sep w [OldA w, RefA (.pointer (some ⟨bm, 0, none⟩)) (refAll (List.replicate 8 []) (([] : List Hist).map (·.puts))), HistOA 45 (.slice none 0 0) []] w1) := hs1
  clear HS1 hs1 HS0
  go_wp2_with fail
  go_loopw [9, 10] (fun s9 s10 wr => ∃ i : Nat, ∃ H : List Hist, ∃ p c, i ≤ l.length ∧ s9 = .slice p i c ∧ s10 = .int .i64 i ∧ Hid (H.length = i) ∧ Hid (Made H) ∧ Hid (Sep w [OldA w, RefA (.pointer (some ⟨bm, 0, none⟩)) (refAll (List.replicate 8 []) (H.map (·.puts))), HistOA 45 (.slice p i c) H] wr)) (fun _ s10 _ => l.length - (intOf s10).toNat)
  case atStart => exact ⟨0, [], none, 0, Nat.zero_le _, rfl, by go_num, rfl, Made.nil, HS2⟩
  case round =>
    obtain ⟨i, H, hp, hc, hi, rfl, rfl, HLN, HM, HS⟩ := hrel
    clear HS2
    by_cases hlt : i < l.length
    case pos =>
      obtain ⟨p', c', e', _, _, _, g4⟩ := HL.out
      cases e'
      obtain ⟨lb, lo, rfl, _, hcx, hix64⟩ := g4 i hlt
      rw [Nat.mul_one] at hcx
      have hcx' := cell_up HS.out.old hcx
      have ra := roundN_bd l[i] (n := 8) (by omega)
      have rb := roundN_bd (wrap64 (l[i].tdiv 8)) (n := 8) (by omega)
      generalize l[i] = x at *
      clear g4 hcx
      go_wp2_with fail
      refine (round_any x 8 _ (by omega) (by omega)).mono ?_
      rintro e w2 ⟨rfl, rfl⟩
      go_wp2_with fail
      refine (round_any (wrap64 (x.tdiv 8)) 8 _ (by omega) (by omega)).mono ?_
      rintro e w3 ⟨rfl, rfl⟩
      have hln := HLN.out
      subst hln
      generalize roundN x 8 = a at *
      generalize roundN (wrap64 (x.tdiv 8)) 8 = b at *
      obtain ⟨gd1, gd2⟩ := md_get HM.out.w ra
      obtain ⟨F1, hF1, _⟩ := HS.out.get 1 rfl
      have hgc := refGet_any F1 _ _ a wr hF1 (by rw [md_len8]; omega)
      have HGC : Hid (Calls Try.prog 29 #[.pointer (some ⟨bm, 0, none⟩), .int .i64 a] wr fun e w' => ∃ gb gO gc, e = .returned (.tuple #[.slice (some ⟨gb, gO, none⟩) 40 gc, .int .i64 0]) ∧ Hid (BytesAt (fun _ => True) w' (.slice (some ⟨gb, gO, none⟩) 40 gc) ((alook (mdSt H H.length) a).getD zeroB)) ∧ Hid (Below wr.heap.size wr w')) := by
        refine hgc.mono ?_
        rintro e w' (⟨hbad, _⟩ | ⟨_, gv, rfl, hgv, hb⟩)
        · rw [md_len8] at hbad; omega
        · rw [gd1] at hgv
          obtain ⟨gb, gO, gc, rfl⟩ := md_some hgv gd2
          exact ⟨gb, gO, gc, rfl, hgv.mono fun _ _ => trivial, hb⟩
      have HD40 := Lib.hid gd2
      have HSN := Lib.hid (fun (e : Bytes) (he : e.length = 40) => HM.out.snoc (a := a) (b := b) (e := e) ⟨ra, rb, gd2, he⟩)
      have IA : Hid (I64 a) := by show I64 a; unfold I64; omega
      have IB : Hid (I64 b) := by show I64 b; unfold I64; omega
      have HRB := Lib.hid rb
      generalize (alook (mdSt H H.length) a).getD zeroB = xd at *
      clear hgc hF1 gd1 gd2 ra rb hcx'
      go_wp2_with fail
      refine (HGC.out).mono ?_
      rintro e w5 ⟨gb, gO, gc, rfl, HX, HB5⟩
      clear HGC
      go_wp2_with fail
      refine (data_any ((H.length : Int) + 1) _).mono ?_
      rintro e w6 ⟨dv, rfl, hd, hb6⟩
      have hdl := dataB_length ((H.length : Int) + 1)
      obtain ⟨dp, dc, rfl⟩ := shape_of hd hdl
      have HBZ : Hid (Below wr.heap.size wr w6) := Below.up HB5.out hb6
      have HDD : Hid (BytesAt (New wr w6) w6 (.slice dp 40 dc) (dataB ((H.length : Int) + 1))) := BytesAt.mono hd fun k hk => ⟨by have := hk.1; have := HB5.out.size; omega, hk.2⟩
      have hba := below_alloc w6 (.cells #[.int .i64 b, .slice dp 40 dc] 39)
      have HX7 := Lib.hid (BytesAt.up (BytesAt.up HX.out hb6) hba)
      have HN := Lib.hid (md_news HX7.out)
      have HO := Lib.hid (md_one xd)
      have HLX : Hid ((xd.map fun y : UInt8 => Value.int .u8 (y.toNat : Int)).length = 40 * 1) := by show _ = _; rw [List.length_map]; exact HD40.out
      generalize hW7 : w6.alloc (.cells #[.int .i64 b, .slice dp 40 dc] 39) = w7 at *
      clear hd hb6
      go_wp2_with (first
        | (at_builtin
           refine wpList_append_own _ rfl _ _ 35 rfl w7.heap.size 5 i0 (.int .u8 0) 1 1 Try.underlying35 hu0 hu1 hu2 hu3 rfl (by decide) _ 0 [] rfl (World.ownsRow_made w7 _ 0 (Nat.le_refl _) (by decide) rfl) ⟨gb, gO, none⟩ 40 gc (xd.map fun y : UInt8 => Value.int .u8 (y.toNat : Int)) rfl HLX.out (fun j u hj => cell_alloc_old (HN.out j u hj)) HO.out (by unfold maxLen; omega) (by omega) (by simp) ?_
           intro v' w8 hown hgrow hnil
           obtain ⟨vg, vc, rfl⟩ := md_shape (n := 40) hown (by omega)
           have hcb : BytesAt (fun k => w7.heap.size ≤ k ∧ k < w8.heap.size) w8 (.slice (some ⟨vg, 0, none⟩) 40 vc) xd := bytesAt_own (B := w7.heap.size) _ HD40.out (fun k h1 h2 => ⟨h1, h2⟩) (by simpa using hown)
           have hb8 : Below w7.heap.size w7 w8 := ((Below.refl _ _).alloc (Nat.le_refl _) _).grown hgrow (by simp) (fun k hk => by cases hk; exact Nat.le_refl _)
           have hz7 : w7.heap.size = w6.heap.size + 1 := by rw [← hW7]; simp
           have hh7 : w7.heap[w6.heap.size]? = some (.cells #[.int .i64 b, .slice dp 40 dc] 39 (0, 0)) := by rw [← hW7]; exact heap_alloc_new w6 _
           have hb7 : Below w6.heap.size w6 w7 := by rw [← hW7]; exact below_alloc w6 _
           have hb9 := below_alloc w8 (.cells #[.int .i64 a, .slice (some ⟨vg, 0, none⟩) 40 vc, .bool false] 70)
           have hh9 := heap_alloc_new w8 (.cells #[.int .i64 a, .slice (some ⟨vg, 0, none⟩) 40 vc, .bool false] 70 (0, 0))
           have hz9 : (w8.alloc (.cells #[.int .i64 a, .slice (some ⟨vg, 0, none⟩) 40 vc, .bool false] 70 (0, 0))).heap.size = w8.heap.size + 1 := by simp
           generalize hW9 : w8.alloc (.cells #[.int .i64 a, .slice (some ⟨vg, 0, none⟩) 40 vc, .bool false] 70 (0, 0)) = w9 at *
           have hbr : Below wr.heap.size wr w9 := Below.up (Below.up (Below.up HBZ.out hb7) hb8) hb9
           have hbt := below_alloc w9 (.cells #[.int .i64 3, .int .i64 H.length, .int .i64 ((H.length : Int) + 1), .int .i64 (2 * (H.length : Int) + 1), .int .i64 (2 * (H.length : Int) + 2), .slice (some ⟨w8.heap.size, 0, none⟩) 1 1, .slice (some ⟨w6.heap.size, 0, none⟩) 1 1] 45)
           have hs8 := hb8.size
           have hs6 := HBZ.out.size
           have hpx : PutsAt (New wr w9) (w9.alloc (.cells #[.int .i64 3, .int .i64 H.length, .int .i64 ((H.length : Int) + 1), .int .i64 (2 * (H.length : Int) + 1), .int .i64 (2 * (H.length : Int) + 2), .slice (some ⟨w8.heap.size, 0, none⟩) 1 1, .slice (some ⟨w6.heap.size, 0, none⟩) 1 1] 45)) (.slice (some ⟨w6.heap.size, 0, none⟩) 1 1) [⟨b, dataB ((H.length : Int) + 1)⟩] := by
             refine puts_box28 (T := 39) (dv := .slice dp 40 dc) ?_ ⟨by omega, by omega⟩ IB.out ?_
             · rw [hbt.block _ (by omega), hb9.block _ (by omega), hb8.block _ (by omega)]; exact hh7
             · exact BytesAt.mono (BytesAt.up (BytesAt.up (BytesAt.up (BytesAt.up HDD.out hb7) hb8) hb9) hbt) fun k hk => ⟨hk.1, by have := hk.2; omega⟩
           have hrx : ReadsAt (New wr w9) (w9.alloc (.cells #[.int .i64 3, .int .i64 H.length, .int .i64 ((H.length : Int) + 1), .int .i64 (2 * (H.length : Int) + 1), .int .i64 (2 * (H.length : Int) + 2), .slice (some ⟨w8.heap.size, 0, none⟩) 1 1, .slice (some ⟨w6.heap.size, 0, none⟩) 1 1] 45)) (.slice (some ⟨w8.heap.size, 0, none⟩) 1 1) [⟨a, xd, false⟩] := by
             refine reads_box1 (T := 70) (dv := .slice (some ⟨vg, 0, none⟩) 40 vc) ?_ ⟨by omega, by omega⟩ IA.out ?_
             · rw [hbt.block _ (by omega)]; exact hh9
             · exact BytesAt.mono (BytesAt.up (BytesAt.up hcb hb9) hbt) fun k hk => ⟨by have := hk.1; omega, by have := hk.2; omega⟩
           have hi64 : H.length ≤ 25 := by omega
           obtain ⟨gg, cap, w10, hr10, hS10⟩ := HS.out.outA_push (P := Try.prog) 2 rfl 42 42 ii _ 88 Try.underlying42 hii hiz hiy hix rfl (by decide) (cs := #[.int .i64 3, .int .i64 H.length, .int .i64 ((H.length : Int) + 1), .int .i64 (2 * (H.length : Int) + 1), .int .i64 (2 * (H.length : Int) + 2), .slice (some ⟨w8.heap.size, 0, none⟩) 1 1, .slice (some ⟨w6.heap.size, 0, none⟩) 1 1]) (x := mdH H.length a xd b (dataB ((H.length : Int) + 1))) rfl hbr
             ⟨_, _, rfl, by refine ⟨?_, ?_, ?_, ?_, ?_⟩ <;> (unfold mdH I64; simp only; omega), hrx, hpx⟩ (by simp [Value.oneCell']) (by unfold maxLen; omega) (by omega) (w8.heap.size + 1) hz9 (PutsXA (.slice (some ⟨w6.heap.size, 0, none⟩) 1 1) [⟨b, dataB ((H.length : Int) + 1)⟩]) hpx
           have HS10 : Hid (Sep w [OldA w, RefA (.pointer (some ⟨bm, 0, none⟩)) (refAll (List.replicate 8 []) (H.map (·.puts))), AndA (HistOA 45 (.slice (some ⟨gg, 0, none⟩) (H.length + 1) cap) (H ++ [mdH H.length a xd b (dataB ((H.length : Int) + 1))])) (PutsXA (.slice (some ⟨w6.heap.size, 0, none⟩) 1 1) [⟨b, dataB ((H.length : Int) + 1)⟩])] w10) := hS10
           have hrun := refRun_sep (tv := .agg #[.int .i64 0, .slice (some ⟨w6.heap.size, 0, none⟩) 1 1]) HS10.out 1 rfl (by rw [md_len8]; omega) ⟨0, [⟨b, dataB ((H.length : Int) + 1)⟩]⟩ (fun G hR => by
             obtain ⟨F2, hF2, hA⟩ := hR 2 _ (by decide) rfl
             obtain ⟨_, F', hF', hE'⟩ := hA
             exact ⟨_, rfl, i64_zero, PutsAt.mono hE' fun q hq => hF2 q (hF' q hq)⟩)
           rw [md_len8] at hrun
           have hcode : runCode 8 [(⟨b, dataB ((H.length : Int) + 1)⟩ : Put)] = 0 := runCode_one _ HRB.out.1 HRB.out.2 hdl
           have hcode' : runCode ((8 : Nat) : Int) [(⟨b, dataB ((H.length : Int) + 1)⟩ : Put)] = 0 := hcode
           simp only [hcode', if_true] at hrun
           have HRUN := Lib.hid hrun
           have HSN' : Hid (Made (H ++ [mdH H.length a xd b (dataB ((H.length : Int) + 1))])) := HSN.out _ hdl
           clear hcb hb8 hz7 hh7 hb7 hb9 hh9 hz9 hbr hbt hs8 hs6 hpx hrx hS10 hrun hcode hcode' hown hgrow hnil HN HO HLX HX7 HDD HX HBZ HSN hW7
           subst hW9
           skip)
        | (at_builtin; refine wpList_append_run rfl (.tmp 63) (.tmp 81) 42 rfl rfl rfl hr10 ?_))
      refine (HRUN.out).mono ?_
      rintro e w11 ⟨rfl, HS11⟩
      have hs11 := HS11.out.imp 2 (A' := HistOA 45 (.slice (some ⟨gg, 0, none⟩) (H.length + 1) cap) (H ++ [mdH H.length a xd b (dataB ((H.length : Int) + 1))])) rfl fun _ _ hA => hA.1
      have hmap : (H ++ [mdH H.length a xd b (dataB ((H.length : Int) + 1))]).map (·.puts) = H.map (·.puts) ++ [[⟨b, dataB ((H.length : Int) + 1)⟩]] := by rw [List.map_append]; rfl
      have HS12 : Hid (Sep w [OldA w, RefA (.pointer (some ⟨bm, 0, none⟩)) (refAll (List.replicate 8 []) ((H ++ [mdH H.length a xd b (dataB ((H.length : Int) + 1))]).map (·.puts))), HistOA 45 (.slice (some ⟨gg, 0, none⟩) (H.length + 1) cap) (H ++ [mdH H.length a xd b (dataB ((H.length : Int) + 1))])] w11) := by
        rw [hmap, refAll_snoc]
        exact hs11
      clear hs11 hmap HRUN HS11 HS10 hr10
      go_wp2_with fail
      go_roundw
      case rel => exact ⟨H.length + 1, H ++ [mdH H.length a xd b (dataB ((H.length : Int) + 1))], _, _, by omega, rfl, by go_num, by show _ = _; simp, HSN', HS12⟩
      case measure => simp [intOf]; omega
    case neg =>
      have hln := HLN.out
      subst hln
      have hlt' : ¬ ((H.length : Int) < (l.length : Int)) := by omega
      have h25l : H.length ≤ 25 := by omega
      have h2l : 2 ≤ H.length := by omega
      have H25 : Hid (H.length ≤ 25 ∧ 2 ≤ H.length) := ⟨h25l, h2l⟩
      clear hlt hi h2 h25 h2' h25'
      obtain ⟨F2, hF2, hD2⟩ := HS.out.get 2 rfl
      have hh := histOA_hists hF2
      have HCK := Lib.hid (check_any F2 8 _ H _ hD2 hh (by omega) (by omega))
      rw [HM.out.pass (by omega)] at HCK
      clear hF2 hD2 hh
      go_wp2_with fail
      refine (HCK.out).mono ?_
      rintro e w2 ⟨rfl, hb2⟩
      have HS2 := Lib.hid (HS.out.up hb2)
      clear HCK hb2 HS
      obtain ⟨F1, hF1, hD1⟩ := HS2.out.get 1 rfl
      have hall := refAll_any F1 _ _ _ hF1 hD1 (by rw [md_len8]; omega)
      rw [← (md_state HM.out.w).all] at hall
      have HALL := Lib.hid hall
      clear hF1 hD1 hall
      go_wp2_with fail
      refine (HALL.out).mono ?_
      rintro e w3 ⟨sv, rfl, hsv, hb3⟩
      have HS3 := Lib.hid (HS2.out.up hb3)
      clear hb3 HALL HS2
      obtain ⟨F2, hF2, hD2⟩ := HS3.out.get 2 rfl
      have hh3 : HistsAt (Old w3) w3 (.slice hp H.length hc) H := HistsAt.mono28 (histOA_hists hF2) hD2
      have hpf : prefixRes ((8 : Nat) : Int) H (allPuts (mdSt H H.length)) = ((H.length : Int), true) := HM.out.prefd (by omega) (by omega)
      have hpx := prefix_any (Old w3) 8 _ sv H _ w3 (by omega) (by omega) (fun k hk => hk) hh3 hsv (by omega)
      rw [hpf] at hpx
      have HPX := Lib.hid hpx
      clear hF2 hD2 hh3 hpf hpx hsv
      go_wp2_with fail
      refine (HPX.out).mono ?_
      rintro e w4 ⟨rfl, hb4⟩
      have HS4 := Lib.hid (HS3.out.up hb4)
      clear hb4 HPX HS3
      go_wp2_with fail
      refine (round_any turn (H.length : Int) _ (by omega) (by omega)).mono ?_
      rintro e w5 ⟨rfl, rfl⟩
      have rt := roundN_bd turn (n := (H.length : Int)) (by omega)
      generalize roundN turn (H.length : Int) = tr at *
      obtain ⟨t, rfl⟩ := Int.eq_ofNat_of_zero_le rt.1
      have ht : t < H.length := by omega
      obtain ⟨a, b, e0, hok, hHt⟩ := HM.out t ht
      have hx40 := hok.d0
      obtain ⟨F2, hF2, _⟩ := HS4.out.get 2 rfl
      obtain ⟨g, rv, rfl, _, k1, k2, k5, kr, kf⟩ := md_cells hF2 ht
      have HHT := Lib.hid hHt
      rw [hHt] at k1 k2 kr
      obtain ⟨rp, rc, rfl, _, _, _, kr4⟩ := kr
      obtain ⟨rb, ro, rfl, _, r0, _, ⟨dv, r1, hdv⟩, _⟩ := kr4 0 (by show 0 < 1; omega)
      rw [Nat.zero_mul, Nat.add_zero] at r0 r1
      change w4.cell? ⟨rb, ro, none⟩ = some (.int .i64 a) at r0
      change BytesAt F2 w4 dv ((alook (mdSt H t) a).getD zeroB) at hdv
      change w4.cell? ⟨g, t * 7 + 5, none⟩ = some (.slice (some ⟨rb, ro, none⟩) 1 rc) at k5
      have HXD : Hid ((alook (mdSt H t) a).getD zeroB = (alook (mdSt H t) a).getD zeroB) := rfl
      obtain ⟨db, dO, dc, rfl⟩ := md_some hdv hx40
      by_cases hm : how.tmod 2 = 0
      case pos =>
        have k5e := cell_alloc_old (o := .cells #[] 5 (0, 0)) k5
        have r1e := cell_alloc_old (o := .cells #[] 5 (0, 0)) r1
        have HDV : Hid (BytesAt (fun _ => True) w4 (.slice (some ⟨db, dO, none⟩) 40 dc) ((alook (mdSt H t) a).getD zeroB)) := BytesAt.mono hdv fun _ _ => trivial
        have HN := Lib.hid (md_news HDV.out)
        have HO := Lib.hid (md_one ((alook (mdSt H t) a).getD zeroB))
        have HLX : Hid ((((alook (mdSt H t) a).getD zeroB).map fun y : UInt8 => Value.int .u8 (y.toNat : Int)).length = 40 * 1) := by show _ = _; rw [List.length_map]; exact hx40
        have HX40 := Lib.hid hx40
        have HOK := Lib.hid hok
        generalize hxd : (alook (mdSt H t) a).getD zeroB = xd at *
        clear hF2 hdv k1 k2 kf hok hHt hxd
        go_upto_region 23 with (at_builtin; refine wpList_append_own _ rfl _ _ 35 rfl w4.heap.size 5 i0 (.int .u8 0) 1 1 Try.underlying35 hu0 hu1 hu2 hu3 rfl (by decide) _ 0 [] rfl (World.ownsRow_made w4 _ 0 (Nat.le_refl _) (by decide) rfl) ⟨db, dO, none⟩ 40 dc (xd.map fun y : UInt8 => Value.int .u8 (y.toNat : Int)) rfl HLX.out (fun j u hj => cell_alloc_old (HN.out j u hj)) HO.out (by unfold maxLen; omega) (by omega) (by simp) ?_; intro v' w6 hown hgrow hnil; obtain ⟨vg, vc, rfl⟩ := md_shape (n := 40) hown (by omega))
        have hown' : w6.ownsRow w4.heap.size 5 1 (.slice (some ⟨vg, 0, none⟩) 40 vc) 40 (xd.map fun y : UInt8 => Value.int .u8 (y.toNat : Int)) := by simpa using hown
        have hb6 : Below w4.heap.size w4 w6 := ((Below.refl _ _).alloc (Nat.le_refl _) _).grown hgrow (by simp) (fun k hk => by cases hk; exact Nat.le_refl _)
        have HOWN := Lib.hid hown'
        have HB6 := Lib.hid hb6
        have v0 : w6.cell? ⟨vg, 0, none⟩ = some (.int .u8 ((xd[0]'(by rw [HX40.out]; omega)).toNat : Int)) := by
          rw [HOWN.out.cellAt 0 (by omega), List.getElem?_map, List.getElem?_eq_getElem (by rw [HX40.out]; omega)]; rfl
        have vf := HOWN.out.frozenAt 0
        have k5 := cell_up HB6.out k5
        have r0 := cell_up HB6.out r0
        clear k5e r1e hown hown' hgrow hnil hb6 HN HO HLX HDV r1
        go_upto_region 24 with fail
        obtain ⟨zb, hz1, hz2⟩ := md_xor (xd[0]'(by rw [HX40.out]; omega))
        rw [hz1]
        obtain ⟨s1, s2⟩ := HOWN.out.stored 0 (.int .u8 (zb.toNat : Int))
        have hlist : (xd.map fun y : UInt8 => Value.int .u8 (y.toNat : Int)).set 0 (.int .u8 (zb.toNat : Int)) = (xd.set 0 zb).map fun y : UInt8 => Value.int .u8 (y.toNat : Int) := by rw [List.map_set]
        rw [hlist] at s1
        have hvg := (HOWN.out.lt vg rfl)
        have hl40 : (xd.set 0 zb).length = 40 := by rw [List.length_set]; exact HX40.out
        have HNE : Hid (xd.set 0 zb ≠ xd) := fun e => by
          have h0 : (xd.set 0 zb)[0]'(by rw [hl40]; omega) = zb := List.getElem_set_self ..
          simp only [e] at h0
          exact hz2 h0.symm
        have hb7 : Below w4.heap.size w4 (w6.setCell ⟨vg, 0, none⟩ (.int .u8 (zb.toNat : Int))) := HB6.out.grown s2 HB6.out.size (fun k hk => by cases hk; exact hvg.1)
        generalize w6.setCell ⟨vg, 0, none⟩ (.int .u8 (zb.toNat : Int)) = w7 at *
        have hcb : BytesAt (fun k => w4.heap.size ≤ k ∧ k < w7.heap.size) w7 (.slice (some ⟨vg, 0, none⟩) 40 vc) (xd.set 0 zb) := bytesAt_own (B := w4.heap.size) _ hl40 (fun k h1 h2 => ⟨h1, h2⟩) s1
        have HL40 := Lib.hid hl40
        generalize xd.set 0 zb = xd' at *
        clear k5 r0 v0 vf hz1 hz2 s1 s2 hlist hvg hl40
        obtain ⟨F2, hF2, _⟩ := HS4.out.get 2 rfl
        obtain ⟨_, rv2, e2, _, _, _, k5, kr, kf⟩ := md_cells hF2 ht
        cases e2
        rw [HHT.out] at kr
        have hgl : g < w4.heap.size := World.block_lt_of_cell? w4 _ k5
        have hb8 := below_alloc w7 (.cells #[.int .i64 a, .slice (some ⟨vg, 0, none⟩) 40 vc, .bool false] 70)
        have hb9 := Below.up hb7 hb8
        have hr9 : ReadsAt (New w4 (w7.alloc (.cells #[.int .i64 a, .slice (some ⟨vg, 0, none⟩) 40 vc, .bool false] 70))) (w7.alloc (.cells #[.int .i64 a, .slice (some ⟨vg, 0, none⟩) 40 vc, .bool false] 70)) (.slice (some ⟨w7.heap.size, 0, none⟩) 1 1) [⟨a, xd', false⟩] := by
          refine reads_box1 (heap_alloc_new w7 _) ⟨hb7.size, by simp⟩ (by have := HOK.out.a0; unfold I64; omega) ?_
          exact BytesAt.mono (BytesAt.up hcb hb8) fun k hk => ⟨hk.1, by have := hk.2; simp; omega⟩
        have HS8 := Lib.hid (HS4.out.outA_set 2 rfl hb9 ht 5 (by omega) (.slice (some ⟨w7.heap.size, 0, none⟩) 1 1) (mdH t a xd' b e0) (fun D w' cs hcs hR hD hSm => by
          rw [HHT.out] at hR
          obtain ⟨rv, pv, hcs', hI, hrd, hpt⟩ := hR
          subst hcs'
          exact ⟨_, pv, rfl, hI, ReadsAt.mono28 (hr9.same hSm) hD, hpt⟩))
        have HS8 : Hid (Sep w [OldA w, RefA (.pointer (some ⟨bm, 0, none⟩)) (refAll (List.replicate 8 []) (H.map (·.puts))), HistOA 45 (.slice (some ⟨g, 0, none⟩) H.length hc) (H.set t (mdH t a xd' b e0))] _) := HS8
        have HCR := Lib.hid (HM.out.turned (by omega) ht HHT.out HNE.out HL40.out)
        obtain ⟨rp2, rc2, e3, _, _, _, kr4⟩ := kr
        subst e3
        obtain ⟨rb2, ro2, rfl, _, q0, _⟩ := kr4 0 (by show 0 < 1; omega)
        rw [Nat.zero_mul, Nat.add_zero] at q0
        change w4.cell? ⟨rb2, ro2, none⟩ = some (.int .i64 a) at q0
        change w4.cell? ⟨g, t * 7 + 5, none⟩ = some (.slice (some ⟨rb2, ro2, none⟩) 1 rc2) at k5
        have k5a := cell_up hb7 k5
        have q0a := cell_up hb7 q0
        have k5b := cell_up hb9 k5
        have kfb : (w7.alloc (.cells #[.int .i64 a, .slice (some ⟨vg, 0, none⟩) 40 vc, .bool false] 70)).frozen? ⟨g, t * 7 + 5, none⟩ = false := by
          rw [World.frozen?_of_block (w := w4) (hb9.block g hgl)]; exact kf 5
        clear hF2 k5 q0 kr4 hb7 hb8 hb9 hr9 hcb kf HOWN HB6 HNE HL40
        go_upto_region 25 with fail
        obtain ⟨F2, hF2, hD2⟩ := HS8.out.get 2 rfl
        have hh := histOA_hists hF2
        have HCK := Lib.hid (check_any F2 8 _ (H.set t (mdH t a xd' b e0)) _ hD2 hh (by rw [List.length_set]; omega) (by omega))
        rw [HCR.out] at HCK
        clear hF2 hD2 hh HCR k5a q0a k5b kfb
        go_wp2_with fail
        refine (HCK.out).mono ?_
        rintro e w8 ⟨rfl, hb8⟩
        have HS9 := Lib.hid (HS8.out.up hb8)
        clear hb8 HS8 HCK
        go_wp2_with fail
        refine (md_awake HS9).mono ?_
        rintro e w9 ⟨rfl, hb9⟩
        go_wp2
        go_ret
        exact ⟨rfl, hb9⟩
      case neg =>
        clear k1 k2 k5 kf r0 r1 hdv
        cases t with
        | zero =>
          go_wp2_with fail
          refine (md_awake HS4).mono ?_
          rintro e w9 ⟨rfl, hb9⟩
          go_wp2
          go_ret
          exact ⟨rfl, hb9⟩
        | succ t =>
          obtain ⟨a2, b2, e2, _, hp2⟩ := HM.out t (by omega)
          have HP2 := Lib.hid hp2
          obtain ⟨F2, hF2, _⟩ := HS4.out.get 2 rfl
          obtain ⟨_, _, e3, _, k1, k2, _⟩ := md_cells hF2 (show t < H.length by omega)
          cases e3
          rw [hp2] at k1 k2
          change w4.cell? ⟨g, t * 7 + 1, none⟩ = some (.int .i64 (t : Int)) at k1
          change w4.cell? ⟨g, t * 7 + 2, none⟩ = some (.int .i64 ((t : Int) + 1)) at k2
          obtain ⟨_, _, e3, _, j1, j2, _, _, kf⟩ := md_cells hF2 ht
          cases e3
          rw [hHt] at j1 j2
          change w4.cell? ⟨g, (t + 1) * 7 + 1, none⟩ = some (.int .i64 ((t + 1 : Nat) : Int)) at j1
          change w4.cell? ⟨g, (t + 1) * 7 + 2, none⟩ = some (.int .i64 (((t + 1 : Nat) : Int) + 1)) at j2
          have kf2 := kf 2
          have kf1 := kf 1
          clear hF2 kf hok hHt hp2 hx40
          go_upto_region 30 with fail
          have hs5 := HS4.out.outA_set 2 rfl (Below.refl _ _) ht 2 (by omega) (.int .i64 ((t : Int) + 1)) { mdH (t + 1) a ((alook (mdSt H (t + 1)) a).getD zeroB) b e0 with time := (t : Int) + 1 } (fun D w' cs hcs hR _ _ => by
            rw [HHT.out] at hR
            obtain ⟨rv, pv, hcs', ⟨i1, i2, i3, i4, i5⟩, hrd, hpt⟩ := hR
            subst hcs'
            exact ⟨rv, pv, rfl, ⟨i1, i2, by show I64 ((t : Int) + 1); unfold I64; omega, i4, i5⟩, hrd, hpt⟩)
          have HX1 : Hid (({ mdH (t + 1) a ((alook (mdSt H (t + 1)) a).getD zeroB) b e0 with time := (t : Int) + 1 } : Hist).time = (t : Int) + 1 ∧ wroteH { mdH (t + 1) a ((alook (mdSt H (t + 1)) a).getD zeroB) b e0 with time := (t : Int) + 1 } = true) := ⟨rfl, rfl⟩
          generalize ({ mdH (t + 1) a ((alook (mdSt H (t + 1)) a).getD zeroB) b e0 with time := (t : Int) + 1 } : Hist) = X1 at *
          generalize w4.setCell ⟨g, (t + 1) * 7 + 2, none⟩ (.int .i64 ((t : Int) + 1)) = w5 at *
          have hsl : (H.set (t + 1) X1).length = H.length := List.length_set ..
          have hs5 : Sep w [OldA w, RefA (.pointer (some ⟨bm, 0, none⟩)) (refAll (List.replicate 8 []) (H.map (·.puts))), HistOA 45 (.slice (some ⟨g, 0, none⟩) (H.set (t + 1) X1).length hc) (H.set (t + 1) X1)] w5 := by rw [hsl]; exact hs5
          have HS5 := Lib.hid hs5
          clear hs5 k1 k2 j1 j2 kf1 kf2 HS4
          obtain ⟨F2, hF2, _⟩ := HS5.out.get 2 rfl
          obtain ⟨_, _, e3, _, k1, _⟩ := md_cells hF2 (show t < (H.set (t + 1) X1).length by rw [hsl]; omega)
          cases e3
          have hset : (H.set (t + 1) X1)[t]'(by rw [hsl]; omega) = H[t]'(by omega) := List.getElem_set_ne (by omega) _
          rw [hset, HP2.out] at k1
          change w5.cell? ⟨g, t * 7 + 1, none⟩ = some (.int .i64 (t : Int)) at k1
          obtain ⟨_, _, e3, _, j1, _, _, _, kf⟩ := md_cells hF2 (show t + 1 < (H.set (t + 1) X1).length by rw [hsl]; omega)
          cases e3
          have kf1 := kf 1
          have hs6 := HS5.out.outA_set 2 rfl (Below.refl _ _) (show t + 1 < (H.set (t + 1) X1).length by rw [hsl]; omega) 1 (by omega) (.int .i64 (t : Int)) { X1 with begun := (t : Int) } (fun D w' cs hcs hR _ _ => by
            rw [List.getElem_set_self] at hR
            obtain ⟨rv, pv, hcs', ⟨i1, i2, i3, i4, i5⟩, hrd, hpt⟩ := hR
            subst hcs'
            exact ⟨rv, pv, rfl, ⟨i1, by show I64 (t : Int); unfold I64; omega, i3, i4, i5⟩, hrd, hpt⟩)
          rw [List.set_set, hsl] at hs6
          have HS6 : Hid (Sep w [OldA w, RefA (.pointer (some ⟨bm, 0, none⟩)) (refAll (List.replicate 8 []) (H.map (·.puts))), HistOA 45 (.slice (some ⟨g, 0, none⟩) H.length hc) (H.set (t + 1) { X1 with begun := (t : Int) })] (w5.setCell ⟨g, (t + 1) * 7 + 1, none⟩ (.int .i64 (t : Int)))) := hs6
          have HTW := Lib.hid (HM.out.w.twice ht (x := { X1 with begun := (t : Int) }) HX1.out.1 HX1.out.2)
          obtain ⟨F2, hF2', hD2⟩ := HS6.out.get 2 rfl
          have hh := histOA_hists hF2'
          have HCK := Lib.hid (check_any F2 8 _ (H.set (t + 1) { X1 with begun := (t : Int) }) _ hD2 hh (by rw [List.length_set]; omega) (by omega))
          generalize (checkRes 8 (H.set (t + 1) { X1 with begun := (t : Int) })).1 = cr1 at *
          generalize (checkRes 8 (H.set (t + 1) { X1 with begun := (t : Int) })).2 = cr2 at *
          obtain ⟨ht1, ht2⟩ := HTW.out
          have ht2' : (cr2 != 0) = true := by rw [bne_iff_ne]; exact ht2
          have HT2 := Lib.hid ht2
          clear hF2 hF2' hD2 hh hs6 HS5 kf ht2
          go_wp2_with fail
          refine (HCK.out).mono ?_
          rintro e w6 ⟨rfl, hb6⟩
          have HS7 := Lib.hid (HS6.out.up hb6)
          clear hb6 HCK HS6 k1 j1 kf1
          go_wp2_with fail
          refine (md_awake HS7).mono ?_
          rintro e w9 ⟨rfl, hb9⟩
          go_wp2
          go_ret
          exact ⟨rfl, hb9⟩
end Go.Proofs
