/- scarpref11's Book: Close, At, Low. -/
import Derived.Test.YtnegbfeokcjclaaRefBook2
namespace Go.Proofs
open Go.RowKit Sc

/-- Ints that are appended onto a slice of one's own. -/
theorem app_ints {W V : World} {B : Nat} (hW : Below B V W) (hB : B ≤ W.heap.size) {v : Value} {n : Nat} {xs : List Value} (hown : W.ownsRow B 3 1 v n xs) (a : Addr) (m c : Nat) (l : List Int) (hl : l.length = m) (hx : ∀ j u, (l.map (Value.int .i64))[j]? = some u → W.cell? (a.add j) = some u) (hn : n + m ≤ 100000) (N : Nat) (hN : n + m = N) :
    ∃ p' c' w', (Builtin.append_ #[50, 50] 50 #[v, .slice (some a) m c]).run Try.prog W = .ok (.slice p' N c') w' ∧ Hid (w'.ownsRow B 3 1 (.slice p' N c') N (xs ++ l.map (Value.int .i64))) ∧ Hid (Below B V w') ∧ Hid (W.grownBy w' v.ownBlock) ∧ Hid ((Value.slice p' N c').ownBlock = v.ownBlock ∨ (Value.slice p' N c').ownBlock = some W.heap.size) := by
  subst hN
  obtain ⟨i0, hi0, hz0, hz1, hz2⟩ := info_parts infoInt
  obtain ⟨v', w', hr, h2, h3, h4⟩ := run_append_any0 (P := Try.prog) W 50 50 B 3 i0 (.int .i64 0) 1 8 Try.underlying50 hi0 hz0 hz1 hz2 rfl (by decide) v n xs hown (some a) m c (fun hp => by cases hp) (l.map (Value.int .i64)) (by simp [hl]) (fun b hb => by cases hb; exact hx) (ints_one l) (by unfold maxLen; omega) (by omega) hB
  have hs : ∃ p' c', v' = .slice p' (n + m) c' := by
    obtain ⟨_, ⟨rfl, h0⟩ | ⟨g, cap, _, rfl, _⟩⟩ := h2
    · exact ⟨none, 0, by rw [h0]⟩
    · exact ⟨_, _, rfl⟩
  obtain ⟨p', c', rfl⟩ := hs
  exact ⟨p', c', w', hr, h2, hW.grown h3 hB (fun q hq => (hown.lt q hq).1), h3, h4⟩
theorem ints_take {G : Nat → Prop} {w : World} {b o n c : Nat} {l : List Int} (h : IntsAt G w (.slice (some ⟨b, o, none⟩) n c) l) (i : Nat) : ∀ j u, ((l.take i).map (Value.int .i64))[j]? = some u → w.cell? ((⟨b, o, none⟩ : Addr).add j) = some u := fun j u hu => by
  refine ints_news h j u ?_
  rw [List.map_take, List.getElem?_take] at hu
  split at hu
  · exact hu
  · cases hu
theorem ints_drop {G : Nat → Prop} {w : World} {b o n c : Nat} {l : List Int} (h : IntsAt G w (.slice (some ⟨b, o, none⟩) n c) l) (i : Nat) : ∀ j u, ((l.drop i).map (Value.int .i64))[j]? = some u → w.cell? ((⟨b, o + i, none⟩ : Addr).add j) = some u := fun j u hu => by
  rw [List.map_drop, List.getElem?_drop] at hu
  have := ints_news h (i + j) u hu
  rw [addr_add] at this ⊢
  rw [← this, show o + i + j = o + (i + j) by omega]
/-- What Close takes out. -/
def rOut (l : List Int) (p : Int) : List Int := if p < 0 then l else l.take p.toNat ++ l.drop (p.toNat + 1)
def rCloseC (hs : List Int) (h : Int) : Int := if placeI hs h < 0 then 14 else 0
theorem placeI_lt {hs : List Int} {h : Int} : placeI hs h = -1 ∨ ∃ k : Nat, placeI hs h = k ∧ k < hs.length := by
  unfold placeI
  cases hq : hs.findIdx? (· == h) with
  | none => exact .inl rfl
  | some i =>
    rw [List.findIdx?_eq_some_iff_getElem] at hq
    exact .inr ⟨i, rfl, hq.1⟩
theorem rOut_length {l : List Int} {k : Nat} (h : k < l.length) : (rOut l k).length = k + (l.length - (k + 1)) := by
  unfold rOut
  rw [if_neg (by omega), Int.toNat_natCast, List.length_append, List.length_take, List.length_drop]
  omega
theorem rOut_sub {l : List Int} {p x : Int} (h : x ∈ rOut l p) : x ∈ l := by
  unfold rOut at h
  split at h
  · exact h
  · rcases List.mem_append.1 h with h | h
    · exact List.mem_of_mem_take h
    · exact List.mem_of_mem_drop h
theorem rOut_vals {l : List Int} {k : Nat} : (rOut l k).map (Value.int .i64) = (l.take k).map (Value.int .i64) ++ (l.drop (k + 1)).map (Value.int .i64) := by
  unfold rOut
  rw [if_neg (by omega), Int.toNat_natCast, List.map_append]

set_option maxRecDepth 100000 in
set_option maxHeartbeats 2000000 in
theorem refClose_sep {W w : World} {L : List Asn} (h : Hid (Sep W L w)) (i : Nat) {b : Nat} {most last : Int} {hs ts : List Int} (hi : L[i]? = some (RBookA (.pointer (some ⟨b, 0, none⟩)) most hs ts last)) (q : Int) (n1 : hs.length ≤ 50000) (n2 : ts.length = hs.length) :
    Calls Try.prog 34 #[.pointer (some ⟨b, 0, none⟩), .int .i64 q] w fun e w' => e = .returned (.int .i64 (rCloseC hs q)) ∧
      Hid (Sep W (L.set i (RBookA (.pointer (some ⟨b, 0, none⟩)) most (rOut hs (placeI hs q)) (rOut ts (placeI hs q)) last)) w') := by
  obtain ⟨F, G, hF, _, _, hdF, _, K⟩ := h.out.at i hi
  have hpl := refPlace_any F _ most hs ts last q w hdF hF
  obtain ⟨b', hv, tv, hbv, hFb, hh, h4, h5⟩ := id hF
  cases hbv
  have hbl := hdF b hFb
  have hkeep : ∀ w', Below w.heap.size w w' → Hid (Sep W (L.set i (RBookA (.pointer (some ⟨b, 0, none⟩)) most hs ts last)) w') := fun w' hb => K w' F (RBookA (.pointer (some ⟨b, 0, none⟩)) most hs ts last) (Chg.of_below hb fun k h1 h2 => by omega) (fun k hk => .inl hk) (RBookP.same hF (Dom.same hdF hb))
  have hdef : rCloseC hs q = if placeI hs q < 0 then 14 else 0 := rfl
  have hlt := placeI_lt (hs := hs) (h := q)
  generalize placeI hs q = P at *
  have HPL := Lib.hid hpl
  have H4 := Lib.hid h4
  have H5 := Lib.hid h5
  have HKEEP := Lib.hid hkeep
  have H := Lib.hid h
  have HK := Lib.hid K
  have HH := Lib.hid hh
  have HF := Lib.hid hF
  clear hpl h4 h5 hkeep h K hh hF
  rcases hlt with rfl | ⟨k, rfl, hk⟩
  case inl =>
    rw [if_pos (by omega)] at hdef
    rw [hdef]
    have HDEF := Lib.hid hdef
    clear hdef
    go_enter Try.func34, Try.ntmps34
    go_wp2_with fail
    refine (HPL.out).mono ?_
    rintro e w1 ⟨rfl, hb1⟩
    have hfin := HKEEP.out w1 hb1
    have HFIN := Lib.hid hfin
    have HB1 := Lib.hid hb1
    clear hfin hb1
    go_wp2
    go_ret
    exact ⟨rfl, HFIN⟩
  case inr =>
    rw [if_neg (by omega)] at hdef
    rw [hdef]
    have hk0 : ¬ (k : Int) < 0 := by omega
    have hkk : IntKind.i64.wrap ((k : Int) + 1) = (k : Int) + 1 := IntWalk.i64_in _ (by omega)
    have HDEF := Lib.hid hdef
    clear hdef
    go_enter Try.func34, Try.ntmps34
    go_wp2_with fail
    refine (HPL.out).mono ?_
    rintro e w1 ⟨rfl, hb1⟩
    obtain ⟨hp, hc, rfl⟩ := intsAt_shape H4.out
    obtain ⟨tp, tc, rfl⟩ := intsAt_shape H5.out
    have hch1 : Chg F w w1 := Chg.of_below hb1 fun k h1 h2 => by omega
    have hd1 : Dom F w1 := Dom.of_size hdF hb1.size
    have hh1 := (hb1.block b hbl).trans HH.out
    have h41 : IntsAt (fun q => F q ∧ q ≠ b) w1 (.slice hp hs.length hc) hs := IntsAt.same H4.out fun q hq => hb1.block q (hdF q hq.1)
    have h51 : IntsAt (fun q => F q ∧ q ≠ b) w1 (.slice tp ts.length tc) ts := IntsAt.same H5.out fun q hq => hb1.block q (hdF q hq.1)
    obtain ⟨gh, oh, rfl⟩ : ∃ gh oh, hp = some ⟨gh, oh, none⟩ := by
      obtain ⟨_, _, hv, _, _, _, g4⟩ := h41
      cases hv
      obtain ⟨b, o, rfl, _⟩ := g4 k hk
      exact ⟨b, o, rfl⟩
    obtain ⟨gt, ot, rfl⟩ : ∃ gt ot, tp = some ⟨gt, ot, none⟩ := by
      obtain ⟨_, _, hv, _, _, _, g4⟩ := h51
      cases hv
      obtain ⟨b, o, rfl, _⟩ := g4 k (by omega)
      exact ⟨b, o, rfl⟩
    have hhc : hs.length ≤ hc ∧ hc ≤ 9223372036854775807 := by obtain ⟨_, _, hv, g1, g2, _⟩ := h41; cases hv; exact ⟨g1, g2⟩
    have htc : ts.length ≤ tc ∧ tc ≤ 9223372036854775807 := by obtain ⟨_, _, hv, g1, g2, _⟩ := h51; cases hv; exact ⟨g1, g2⟩
    have hlh : (hs.take k).length = k := by rw [List.length_take]; omega
    have hlt' : (ts.take k).length = k := by rw [List.length_take]; omega
    -- the four appends, one behind the other
    obtain ⟨px, cx, w2, hE1, HX1, HX2, HX3, HX4⟩ := app_ints (V := w1) (Below.refl w1.heap.size w1) (Nat.le_refl _) (World.ownsRow_nil w1 w1.heap.size 3 1) ⟨gh, oh, none⟩ k hc (hs.take k) hlh (ints_take h41 k) (by omega) k (Nat.zero_add k)
    have h52 := IntsAt.up h51 HX2.out
    obtain ⟨py, cy, w3, hE2, HY1, HY2, HY3, HY4⟩ := app_ints (V := w2) (Below.refl w2.heap.size w2) (Nat.le_refl _) (World.ownsRow_nil w2 w2.heap.size 3 1) ⟨gt, ot, none⟩ k tc (ts.take k) hlt' (ints_take h52 k) (by omega) k (Nat.zero_add k)
    have hB13 : Below w1.heap.size w1 w3 := Below.up HX2.out HY2.out
    have hh2 := (HX2.out.block b (by have := hb1.size; omega)).trans hh1
    have hh3 := (hB13.block b (by have := hb1.size; omega)).trans hh1
    have h43 := IntsAt.up h41 hB13
    obtain ⟨aH, haH, haN⟩ : ∃ aH : Addr, (if hc = k + 1 then some (⟨gh, oh, none⟩ : Addr) else some ⟨gh, oh + (k + 1), none⟩) = some aH ∧ ∀ j u, ((hs.drop (k + 1)).map (Value.int .i64))[j]? = some u → w3.cell? (aH.add j) = some u := by
      by_cases he : hc = k + 1
      · refine ⟨_, by rw [if_pos he], fun j u hu => ?_⟩
        rw [List.drop_eq_nil_of_le (by omega)] at hu
        simp at hu
      · exact ⟨_, by rw [if_neg he], ints_drop h43 (k + 1)⟩
    have hz1 := hb1.size
    have hz2 := HX2.out.size
    have hz3 := HY2.out.size
    obtain ⟨px2, cx2, w4, hE3, HU1, HU2, HU3, HU4⟩ := app_ints (V := w1) (W := w3) hB13 hB13.size (ownsRow_up' HX1.out HY2.out) aH (hs.length - (k + 1)) (hc - (k + 1)) (hs.drop (k + 1)) (by rw [List.length_drop]) haN (by omega) _ rfl
    have hz4 := HU3.out.size
    have hh4 := (HU2.out.block b (by omega)).trans hh1
    have hh5 : (w4.setCell ⟨b, 1, none⟩ (.slice px2 (k + (hs.length - (k + 1))) cx2)).heap[b]? = some (.cells #[.int .i64 most, (.slice px2 (k + (hs.length - (k + 1))) cx2), .slice (some ⟨gt, ot, none⟩) ts.length tc, .int .i64 last] 63 (0, 0)) := by rw [heap_set_same hh4]; rfl
    have hz5 : (w4.setCell ⟨b, 1, none⟩ (.slice px2 (k + (hs.length - (k + 1))) cx2)).heap.size = w4.heap.size := by simp [World.setCell]
    have h55 : IntsAt (fun q => F q ∧ q ≠ b) (w4.setCell ⟨b, 1, none⟩ (.slice px2 (k + (hs.length - (k + 1))) cx2)) (.slice (some ⟨gt, ot, none⟩) ts.length tc) ts := IntsAt.same h51 fun q hq => (Below.heap_setCell _ _ _ q hq.2).trans (HU2.out.block q (hd1 q hq.1))
    have hyo : ∀ q, (Value.slice py k cy).ownBlock = some q → w2.heap.size ≤ q ∧ q < w3.heap.size := HY1.out.lt
    have hxo : ∀ q, (Value.slice px k cx).ownBlock = some q → w1.heap.size ≤ q ∧ q < w2.heap.size := HX1.out.lt
    have hy5 : (w4.setCell ⟨b, 1, none⟩ (.slice px2 (k + (hs.length - (k + 1))) cx2)).ownsRow w2.heap.size 3 1 (.slice py k cy) k ([] ++ (ts.take k).map (Value.int .i64)) := by
      refine row_same (F := fun q => (Value.slice py k cy).ownBlock = some q) (fun q hq => ?_) HY1.out (fun q hq => hq)
      have h1 := hyo q hq
      refine (Below.heap_setCell _ _ _ q (show q ≠ b by omega)).trans (HU3.out.block q h1.2 fun e => ?_)
      have := hxo q e.symm
      omega
    obtain ⟨aT, haT, haM⟩ : ∃ aT : Addr, (if tc = k + 1 then some (⟨gt, ot, none⟩ : Addr) else some ⟨gt, ot + (k + 1), none⟩) = some aT ∧ ∀ j u, ((ts.drop (k + 1)).map (Value.int .i64))[j]? = some u → (w4.setCell ⟨b, 1, none⟩ (.slice px2 (k + (hs.length - (k + 1))) cx2)).cell? (aT.add j) = some u := by
      by_cases he : tc = k + 1
      · refine ⟨_, by rw [if_pos he], fun j u hu => ?_⟩
        rw [List.drop_eq_nil_of_le (by omega)] at hu
        simp at hu
      · exact ⟨_, by rw [if_neg he], ints_drop h55 (k + 1)⟩
    obtain ⟨py2, cy2, w6, hE4, HV1, HV2, HV3, HV4⟩ := app_ints (V := w4.setCell ⟨b, 1, none⟩ (.slice px2 (k + (hs.length - (k + 1))) cx2)) (W := w4.setCell ⟨b, 1, none⟩ (.slice px2 (k + (hs.length - (k + 1))) cx2)) (B := w2.heap.size) (Below.refl _ _) (by omega) hy5 aT (ts.length - (k + 1)) (tc - (k + 1)) (ts.drop (k + 1)) (by rw [List.length_drop]) haM (by omega) _ rfl
    have hz6 := HV3.out.size
    have hh6 := (HV2.out.block b (by omega)).trans hh5
    have hh7 : (w6.setCell ⟨b, 2, none⟩ (.slice py2 (k + (ts.length - (k + 1))) cy2)).heap[b]? = some (.cells #[.int .i64 most, (.slice px2 (k + (hs.length - (k + 1))) cx2), (.slice py2 (k + (ts.length - (k + 1))) cy2), .int .i64 last] 63 (0, 0)) := by rw [heap_set_same hh6]; rfl
    have hz7 : (w6.setCell ⟨b, 2, none⟩ (.slice py2 (k + (ts.length - (k + 1))) cy2)).heap.size = w6.heap.size := by simp [World.setCell]
    have hx7 : (w6.setCell ⟨b, 2, none⟩ (.slice py2 (k + (ts.length - (k + 1))) cy2)).ownsRow w1.heap.size 3 1 (.slice px2 (k + (hs.length - (k + 1))) cx2) (rOut hs k).length ((rOut hs k).map (Value.int .i64)) := by
      rw [rOut_vals, rOut_length hk]
      have hx4 := HU1.out
      rw [List.nil_append] at hx4
      refine row_same (F := fun q => (Value.slice px2 (k + (hs.length - (k + 1))) cx2).ownBlock = some q) (fun q hq => ?_) hx4 (fun q hq => hq)
      have hql := hx4.lt q hq
      refine (Below.heap_setCell _ _ _ q (show q ≠ b by omega)).trans ((HV3.out.block q (by omega) fun e => ?_).trans (Below.heap_setCell _ _ _ q (show q ≠ b by omega)))
      have h1 := hyo q e.symm
      rcases HU4.out with h2 | h2
      · have := hxo q (h2 ▸ hq); omega
      · rw [hq] at h2; cases h2; omega
    have hy7 : (w6.setCell ⟨b, 2, none⟩ (.slice py2 (k + (ts.length - (k + 1))) cy2)).ownsRow w2.heap.size 3 1 (.slice py2 (k + (ts.length - (k + 1))) cy2) (rOut ts k).length ((rOut ts k).map (Value.int .i64)) := by
      rw [rOut_vals, rOut_length (by omega)]
      have hy6 := HV1.out
      rw [List.nil_append] at hy6
      refine row_same (F := fun q => (Value.slice py2 (k + (ts.length - (k + 1))) cy2).ownBlock = some q) (fun q hq => ?_) hy6 (fun q hq => hq)
      have hql := hy6.lt q hq
      exact Below.heap_setCell _ _ _ q (show q ≠ b by omega)
    have hIh : ∀ x ∈ rOut hs k, I64 x := fun x hx => by
      obtain ⟨j, hj, rfl⟩ := List.mem_iff_getElem.1 (rOut_sub hx)
      obtain ⟨_, _, _, _, _, _, g4⟩ := h41
      obtain ⟨_, _, _, _, _, hi⟩ := g4 j hj
      exact hi
    have hIt : ∀ x ∈ rOut ts k, I64 x := fun x hx => by
      obtain ⟨j, hj, rfl⟩ := List.mem_iff_getElem.1 (rOut_sub hx)
      obtain ⟨_, _, _, _, _, _, g4⟩ := h51
      obtain ⟨_, _, _, _, _, hi⟩ := g4 j hj
      exact hi
    have hchg : Chg F w (w6.setCell ⟨b, 2, none⟩ (.slice py2 (k + (ts.length - (k + 1))) cy2)) := (((hch1.then_up HU2.out).trans (chg_set w4 b 1 (.slice px2 (k + (hs.length - (k + 1))) cx2) hFb)).trans' (Chg.of_below (S := fun q => w2.heap.size ≤ q) HV2.out fun q h1 h2 => h2) (fun q h1 h2 => by omega)).trans (chg_set w6 b 2 (.slice py2 (k + (ts.length - (k + 1))) cy2) hFb)
    have hend := HK.out _ (fun q => F q ∨ New w (w6.setCell ⟨b, 2, none⟩ (.slice py2 (k + (ts.length - (k + 1))) cy2)) q) (RBookA (.pointer (some ⟨b, 0, none⟩)) most (rOut hs k) (rOut ts k) last) hchg (fun q hq => hq)
      ⟨b, (.slice px2 (k + (hs.length - (k + 1))) cx2), (.slice py2 (k + (ts.length - (k + 1))) cy2), rfl, .inl hFb, hh7, intsAt_own _ rfl hIh (fun q h1 h2 => ⟨.inr ⟨by omega, h2⟩, by omega⟩) hx7, intsAt_own _ rfl hIt (fun q h1 h2 => ⟨.inr ⟨by omega, h2⟩, by omega⟩) hy7⟩
    have d11 : w1.cell? ⟨b, 1, none⟩ = some (.slice (some ⟨gh, oh, none⟩) hs.length hc) := by rw [cell_row hh1]; rfl
    have d22 : w2.cell? ⟨b, 2, none⟩ = some (.slice (some ⟨gt, ot, none⟩) ts.length tc) := by rw [cell_row hh2]; rfl
    have d31 : w3.cell? ⟨b, 1, none⟩ = some (.slice (some ⟨gh, oh, none⟩) hs.length hc) := by rw [cell_row hh3]; rfl
    have d41 : w4.cell? ⟨b, 1, none⟩ = some (.slice (some ⟨gh, oh, none⟩) hs.length hc) := by rw [cell_row hh4]; rfl
    have d4z : w4.frozen? ⟨b, 1, none⟩ = false := fz_row hh4 1
    have d52 : w4.cell? ⟨b, 2, none⟩ = some (.slice (some ⟨gt, ot, none⟩) ts.length tc) := by rw [cell_row hh4]; rfl
    have d62 : w6.cell? ⟨b, 2, none⟩ = some (.slice (some ⟨gt, ot, none⟩) ts.length tc) := by rw [cell_row hh6]; rfl
    have d6z : w6.frozen? ⟨b, 2, none⟩ = false := fz_row hh6 2
    have e1 : (k : Int) ≤ (hc : Int) := by omega
    have e2 : (k : Int) ≤ (tc : Int) := by omega
    have e3 : (k : Int) + 1 ≤ (hs.length : Int) := by omega
    have e4 : (k : Int) + 1 ≤ (ts.length : Int) := by omega
    have e5 : k ≤ hc := by omega
    have e6 : k ≤ tc := by omega
    have e7 : k + 1 ≤ hs.length := by omega
    have e8 : k + 1 ≤ ts.length := by omega
    have e9 : (hs.length : Int) ≤ (hc : Int) := by omega
    have e10 : (ts.length : Int) ≤ (tc : Int) := by omega
    have HEND := Lib.hid hend
    have H41 := Lib.hid h41
    have H51 := Lib.hid h51
    have HCH1 := Lib.hid hch1
    have HD1 := Lib.hid hd1
    have HH1 := Lib.hid hh1
    have HLH := Lib.hid hlh
    have HLT' := Lib.hid hlt'
    have H52 := Lib.hid h52
    have HB13 := Lib.hid hB13
    have HH2 := Lib.hid hh2
    have HH3 := Lib.hid hh3
    have H43 := Lib.hid h43
    have HAN := Lib.hid haN
    have HH4 := Lib.hid hh4
    have HH5 := Lib.hid hh5
    have H55 := Lib.hid h55
    have HYO := Lib.hid hyo
    have HXO := Lib.hid hxo
    have HY5 := Lib.hid hy5
    have HAM := Lib.hid haM
    have HH6 := Lib.hid hh6
    have HH7 := Lib.hid hh7
    have HX7 := Lib.hid hx7
    have HY7 := Lib.hid hy7
    have HIH := Lib.hid hIh
    have HIT := Lib.hid hIt
    have HCHG := Lib.hid hchg
    have HHC := Lib.hid hhc
    have HTC := Lib.hid htc
    clear hend h41 h51 hch1 hd1 hh1 hlh hlt' h52 hB13 hh2 hh3 h43 haN hh4 hh5 h55 hyo hxo hy5 haM hh6 hh7 hx7 hy7 hIh hIt hchg hhc htc
    clear hz1 hz2 hz3 hz4 hz5 hz6 hz7 hb1 n2
    go_upto_region 6 with (at_builtin; refine Lib.wpList_append_run _ rfl _ _ _ _ rfl _ _ rfl rfl _ _ hE1 ?_)
    go_upto_region 7 with (at_builtin; refine Lib.wpList_append_run _ rfl _ _ _ _ rfl _ _ rfl rfl _ _ hE2 ?_)
    go_upto_region 8 with (at_builtin; refine Lib.wpList_append_run _ rfl _ _ _ _ rfl _ _ rfl rfl _ _ hE3 ?_)

    go_wp2_with (at_builtin; refine Lib.wpList_append_run _ rfl _ _ _ _ rfl _ _ rfl rfl _ _ hE4 ?_)
    go_ret
    exact ⟨rfl, HEND⟩
end Go.Proofs
