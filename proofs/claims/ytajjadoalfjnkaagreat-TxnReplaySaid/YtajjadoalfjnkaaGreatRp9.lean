/- Texts of this claim, one behind the other: RmBook, RegH2, RmOpen, SepPair, Rm5, Rm6, RefNew, Rm7, RmQ, RefValid, RefValid2. -/
import Derived.Lib.AppendZeros
import Derived.Deep.RegionLaw
import Derived.Deep.DeepCutAuto
import Derived.Deep.CutRange
import Derived.BigQuiet
import Derived.Test.YtajjadoalfjnkaaGreatRp8
namespace Go.Proofs
open Go.RowKit Sc
theorem arr_set_self {α : Type} {cs : Array α} {i : Nat} {v : α} (h : cs[i]? = some v) : cs.setIfInBounds i v = cs := by
 refine Array.ext_getElem? fun j => ?_
 rw [Array.getElem?_setIfInBounds]
 split
 ·rename_i e
  subst e
  rw [if_pos (by obtain ⟨hi, _⟩ := Array.getElem?_eq_some_iff.1 h; exact hi), h]
 ·rfl
theorem arr_set_ne {α : Type} {cs : Array α} {i j : Nat} {v : α} (h : i ≠ j) : (cs.setIfInBounds i v)[j]? = cs[j]? := by
 rw [Array.getElem?_setIfInBounds, if_neg h]
theorem arr_set_get {α : Type} {cs : Array α} {i : Nat} {v u : α} (h : cs[i]? = some u) : (cs.setIfInBounds i v)[i]? = some v := by
 rw [Array.getElem?_setIfInBounds, if_pos rfl, if_pos (by obtain ⟨hi, _⟩ := Array.getElem?_eq_some_iff.1 h; exact hi)]
def placeI (hs : List Int) (h : Int) : Int := match hs.findIdx? (· == h) with
 | some i => i
 | none => -1
theorem intsAt_shape {G : Nat → Prop} {w : World} {v : Value} {l : List Int} (h : IntsAt G w v l) : ∃ p c, v = .slice p l.length c := by
 obtain ⟨p, c, rfl, _⟩ := h; exact ⟨p, c, rfl⟩
set_option maxRecDepth 100000 in
set_option maxHeartbeats 1000000 in
theorem refPlaceV {G : Nat → Prop} {b : Nat} {hv : Value} {hs : List Int} {w : World} (h : Int) (hc2 : w.cell? ⟨b, 2, none⟩ = some hv) (h4 : IntsAt G w hv hs) :
  Calls Tryz.prog 169 #[.pointer (some ⟨b, 1, none⟩), .int .i64 h] w fun e w' => e = .returned (.int .i64 (placeI hs h)) ∧ Below w.heap.size w w' := by
 obtain ⟨p, c, rfl⟩ := intsAt_shape h4
 have H4 := Lib.hid h4
 clear h4
 go_enter Tryz.func169, Tryz.ntmps169
 go_wp2_with fail
 go_loopw [5] (fun i wr => ∃ k : Nat, k ≤ hs.length ∧ i = .int .i64 k ∧ Hid (Below w.heap.size w wr) ∧ Hid (∀ j (hj : j < hs.length), j < k → hs[j] ≠ h)) (fun i _ => hs.length - (intOf i).toNat)
 case atStart => exact ⟨0, by omega, rfl, Below.refl _ _, fun j hj h0 => absurd h0 (by omega)⟩
 case round =>
  obtain ⟨k, hk, rfl, HB, HN⟩ := hrel
  have hc2' := cell_up HB.out hc2
  by_cases hlt : k < hs.length
  case pos =>
   obtain ⟨p', c', he, _, _, _, g4⟩ := IntsAt.up H4.out HB.out
   cases he
   obtain ⟨g, o, rfl, _, hck, _⟩ := g4 k hlt
   rw [Nat.mul_one] at hck
   have hhit : hs[k] = h → placeI hs h = k := fun e => by
    unfold placeI
    have : hs.findIdx? (· == h) = some k := by
     rw [List.findIdx?_eq_some_iff_getElem]
     exact ⟨hlt, by simpa using e, fun j hj => by simpa using HN.out j (by omega) hj⟩
    rw [this]
   have hnx : hs[k] ≠ h → ∀ j (hj : j < hs.length), j < k + 1 → hs[j] ≠ h := fun e j hj h1 => by
    by_cases hjk : j = k
    ·subst hjk; exact e
    ·exact HN.out j hj (by omega)
   generalize hs[k] = x at *
   have hkI : (k : Int) < (hs.length : Int) := by omega
   have HHIT := Lib.hid hhit
   have HNX := Lib.hid hnx
   clear hhit hnx
   clear g4
   by_cases hx : x = h
   case pos =>
    have hxb : (x == h) = true := by rw [beq_iff_eq]; exact hx
    have hpl := HHIT.out hx
    have HPL := Lib.hid hpl
    have HX := Lib.hid hx
    clear hpl hx
    go_wp2_with fail
    go_ret
    rw [HPL.out]
    exact ⟨rfl, HB.out⟩
   case neg =>
    have hxb : (x == h) = false := by rw [beq_eq_false_iff_ne]; exact hx
    have hn2 := HNX.out hx
    have HN2 := Lib.hid hn2
    have HX := Lib.hid hx
    clear hn2 hx
    go_wp2_with fail
    go_roundw
    case rel => exact ⟨k + 1, by omega, by go_num, HB.out, HN2.out⟩
    case measure => simp [intOf]; omega
  case neg =>
   have hpl : placeI hs h = -1 := by
    unfold placeI
    have : hs.findIdx? (· == h) = none := by
     rw [List.findIdx?_eq_none_iff]
     intro x hx
     obtain ⟨j, hj, rfl⟩ := List.mem_iff_getElem.1 hx
     simpa using HN.out j hj (by omega)
    rw [this]
   have HPL := Lib.hid hpl
   clear hpl
   go_wp2_with fail
   go_ret
   rw [HPL.out]
   exact ⟨rfl, HB.out⟩
set_option maxRecDepth 100000 in
set_option maxHeartbeats 1000000 in
theorem refLowV {G : Nat → Prop} {b : Nat} {tv : Value} {ts : List Int} {w : World} (now : Int) (hc3 : w.cell? ⟨b, 3, none⟩ = some tv) (h5 : IntsAt G w tv ts) :
  Calls Tryz.prog 128 #[.pointer (some ⟨b, 1, none⟩), .int .i64 now] w fun e w' => e = .returned (.int .i64 (lowOf now ts)) ∧ Below w.heap.size w w' := by
 obtain ⟨tp, tc, rfl⟩ := intsAt_shape h5
 have H5 := Lib.hid h5
 clear h5
 go_enter Tryz.func128, Tryz.ntmps128
 go_wp2_with fail
 go_loopw [1, 5] (fun nv i wr => ∃ k : Nat, ∃ q : Int, k ≤ ts.length ∧ i = .int .i64 k ∧ nv = .int .i64 q ∧ Hid (q = lowOf now (ts.take k)) ∧ Hid (Below w.heap.size w wr)) (fun _ i _ => ts.length - (intOf i).toNat)
 case atStart => exact ⟨0, now, by omega, rfl, rfl, Lib.hid rfl, Lib.hid (Below.refl _ _)⟩
 case round =>
  obtain ⟨k, q, hk, rfl, rfl, HQ, HB⟩ := hrel
  have hc3' := cell_up HB.out hc3
  by_cases hlt : k < ts.length
  case pos =>
   obtain ⟨_, _, hv, _, _, _, g4⟩ := IntsAt.up H5.out HB.out
   cases hv
   obtain ⟨g, o, rfl, _, hck, hi⟩ := g4 k hlt
   rw [Nat.mul_one] at hck
   have hnx : lowOf now (ts.take (k + 1)) = min q ts[k] := by
    rw [take_snoc _ _ hlt, HQ.out]
    unfold lowOf
    rw [List.foldl_append]; rfl
   have hkI : (k : Int) < (ts.length : Int) := by omega
   generalize ts[k] = x at *
   have HNX := Lib.hid hnx
   have HI := Lib.hid hi
   clear hnx hi
   clear g4
   go_wp2_with fail
   go_roundw
   case rel => exact ⟨k + 1, min q x, by omega, by go_num, rfl, Lib.hid HNX.out.symm, HB⟩
   case measure => simp [intOf]; omega
  case neg =>
   have hq : q = lowOf now ts := by rw [HQ.out, List.take_of_length_le (by omega)]
   have HQ := Lib.hid hq
   clear hq
   go_wp2_with fail
   go_ret
   exact ⟨by rw [HQ.out]; rfl, HB.out⟩
def rOpen (most : Int) (n : Nat) (t : Int) : Int := if t < 0 ∨ 1099511627776 < t then 1 else if most ≤ (n : Int) then 6 else 0
theorem ints_news {G : Nat → Prop} {w : World} {a : Addr} {n c : Nat} {l : List Int} (h : IntsAt G w (.slice (some a) n c) l) : ∀ j u, (l.map (Value.int .i64))[j]? = some u → w.cell? (a.add j) = some u := by
 obtain ⟨p, c', he, _, _, _, h4⟩ := h
 cases he
 intro j u hj
 have hjl : j < l.length := by have := (List.getElem?_eq_some_iff.1 hj).1; simpa using this
 obtain ⟨b, o, hp, _, hc, _⟩ := h4 j hjl
 cases hp
 rw [Nat.mul_one] at hc
 rw [List.getElem?_map, List.getElem?_eq_getElem hjl] at hj
 cases hj
 rw [addr_add]
 exact hc
theorem ints_one (l : List Int) : ∀ u ∈ l.map (Value.int .i64), u.oneCell' = true := fun u hu => by
 obtain ⟨z, _, rfl⟩ := List.mem_map.1 hu; rfl
theorem ownsRow_up' {w w' : World} {B T k n : Nat} {v : Value} {xs : List Value} (h : w.ownsRow B T k v n xs) (hb : Below w.heap.size w w') : w'.ownsRow B T k v n xs :=
 row_same (F := fun q => q < w.heap.size) (fun q hq => hb.block q hq) h (fun g hg => (h.lt g hg).2)
theorem ownsRow_lower0 {w : World} {B B' T k n : Nat} {v : Value} {xs : List Value} (h : w.ownsRow B T k v n xs) (hB : B' ≤ B) : w.ownsRow B' T k v n xs :=
 ⟨h.1, h.2.imp id fun ⟨g, cap, cur, e1, e0, e2⟩ => ⟨g, cap, cur, e1, Nat.le_trans hB e0, e2⟩⟩
theorem push_at {w W : World} {k : Nat} (hW : Below w.heap.size w W) (hk : W.ownsRow w.heap.size 3 1 (.slice (some ⟨k, 0, none⟩) 0 0) 0 []) {G : Nat → Prop} {p : Option Addr} {c : Nat} {l : List Int} (h : IntsAt G W (.slice p l.length c) l) (hl : l.length ≤ 100000) :
  ∃ g1 c1 w1, (Builtin.append_ #[91, 91] 91 #[.slice (some ⟨k, 0, none⟩) 0 0, .slice p l.length c]).run Tryz.prog W = .ok (.slice (some ⟨g1, 0, none⟩) l.length c1) w1 ∧
   Hid (w1.ownsRow w.heap.size 3 1 (.slice (some ⟨g1, 0, none⟩) l.length c1) l.length (l.map (Value.int .i64))) ∧ Hid (Below w.heap.size w w1) ∧ Hid (W.grownBy w1 (some k)) := by
 obtain ⟨i0, hi0, hz0, hz1, hz2⟩ := info_parts infoInt
 have hkl := (hk.lt k rfl).1
 obtain ⟨v', w', hr, h2, h3, h4⟩ := run_append_any0 (P := Tryz.prog) W 91 91 w.heap.size 3 i0 (.int .i64 0) 1 8 Tryz.underlying91 hi0 hz0 hz1 hz2 rfl (by decide) _ 0 [] hk p l.length c (fun hp => by
  obtain ⟨p', c', he, q1, q2, q3, _⟩ := h
  cases he
  have := q3 hp
  omega) (l.map (Value.int .i64)) (by simp) (fun a ha => by subst ha; exact ints_news h) (ints_one l) (by unfold maxLen; omega) (by omega) hW.size
 have hb1 : Below w.heap.size w w' := hW.grown h3 hW.size (fun q hq => by cases hq; exact hkl)
 rw [Nat.zero_add, List.nil_append] at h2
 obtain ⟨hx, ⟨rfl, _⟩ | ⟨g, cap, cur, rfl, hrest⟩⟩ := id h2
 ·exfalso
  rcases h4 with h4 | h4 <;> simp [Value.ownBlock] at h4
 ·exact ⟨g, cap, w', hr, h2, hb1, h3⟩
theorem push_one {w W : World} (hW : Below w.heap.size w W) {g n c : Nat} {xs : List Value} (hown : W.ownsRow w.heap.size 3 1 (.slice (some ⟨g, 0, none⟩) n c) n xs) (b o : Nat) (x : Int) (hc : W.cell? ⟨b, o, none⟩ = some (.int .i64 x)) (hn : n ≤ 100000) :
  ∃ g2 c2 w2, (Builtin.append_ #[91, 91] 91 #[.slice (some ⟨g, 0, none⟩) n c, .slice (some ⟨b, o, none⟩) 1 1]).run Tryz.prog W = .ok (.slice (some ⟨g2, 0, none⟩) (n + 1) c2) w2 ∧
   Hid (w2.ownsRow w.heap.size 3 1 (.slice (some ⟨g2, 0, none⟩) (n + 1) c2) (n + 1) (xs ++ [.int .i64 x])) ∧ Hid (Below w.heap.size w w2) := by
 obtain ⟨i0, hi0, hz0, hz1, hz2⟩ := info_parts infoInt
 have hkl := (hown.lt g rfl).1
 obtain ⟨v', w', hr, h2, h3, h4⟩ := run_append_any0 (P := Tryz.prog) W 91 91 w.heap.size 3 i0 (.int .i64 0) 1 8 Tryz.underlying91 hi0 hz0 hz1 hz2 rfl (by decide) _ n xs hown (some ⟨b, o, none⟩) 1 1 (fun hp => by cases hp) [.int .i64 x] rfl (fun a ha j u hj => by
  cases ha
  cases j with
  | zero => simp only [List.getElem?_cons_zero] at hj; cases hj; rw [addr_add]; exact hc
  | succ j => simp at hj) (by simp [Value.oneCell']) (by unfold maxLen; omega) (by omega) hW.size
 have hb1 : Below w.heap.size w w' := hW.grown h3 hW.size (fun q hq => by cases hq; exact hkl)
 obtain ⟨hx, ⟨rfl, _⟩ | ⟨g', cap, cur, rfl, hrest⟩⟩ := id h2
 ·exfalso
  rcases h4 with h4 | h4 <;> simp [Value.ownBlock] at h4
 ·exact ⟨g', cap, w', hr, h2, hb1⟩
theorem app_ints {W V : World} {B : Nat} (hW : Below B V W) (hB : B ≤ W.heap.size) {v : Value} {n : Nat} {xs : List Value} (hown : W.ownsRow B 3 1 v n xs) (a : Addr) (m c : Nat) (l : List Int) (hl : l.length = m) (hx : ∀ j u, (l.map (Value.int .i64))[j]? = some u → W.cell? (a.add j) = some u) (hn : n + m ≤ 100000) (N : Nat) (hN : n + m = N) :
  ∃ p' c' w', (Builtin.append_ #[91, 91] 91 #[v, .slice (some a) m c]).run Tryz.prog W = .ok (.slice p' N c') w' ∧ Hid (w'.ownsRow B 3 1 (.slice p' N c') N (xs ++ l.map (Value.int .i64))) ∧ Hid (Below B V w') ∧ Hid (W.grownBy w' v.ownBlock) ∧ Hid ((Value.slice p' N c').ownBlock = v.ownBlock ∨ (Value.slice p' N c').ownBlock = some W.heap.size) := by
 subst hN
 obtain ⟨i0, hi0, hz0, hz1, hz2⟩ := info_parts infoInt
 obtain ⟨v', w', hr, h2, h3, h4⟩ := run_append_any0 (P := Tryz.prog) W 91 91 B 3 i0 (.int .i64 0) 1 8 Tryz.underlying91 hi0 hz0 hz1 hz2 rfl (by decide) v n xs hown (some a) m c (fun hp => by cases hp) (l.map (Value.int .i64)) (by simp [hl]) (fun b hb => by cases hb; exact hx) (ints_one l) (by unfold maxLen; omega) (by omega) hB
 have hs : ∃ p' c', v' = .slice p' (n + m) c' := by
  obtain ⟨_, ⟨rfl, h0⟩ | ⟨g, cap, _, rfl, _⟩⟩ := h2
  ·exact ⟨none, 0, by rw [h0]⟩
  ·exact ⟨_, _, rfl⟩
 obtain ⟨p', c', rfl⟩ := hs
 exact ⟨p', c', w', hr, h2, hW.grown h3 hB (fun q hq => (hown.lt q hq).1), h3, h4⟩
theorem ints_take {G : Nat → Prop} {w : World} {b o n c : Nat} {l : List Int} (h : IntsAt G w (.slice (some ⟨b, o, none⟩) n c) l) (i : Nat) : ∀ j u, ((l.take i).map (Value.int .i64))[j]? = some u → w.cell? ((⟨b, o, none⟩ : Addr).add j) = some u := fun j u hu => by
 refine ints_news h j u ?_
 rw [List.map_take, List.getElem?_take] at hu
 split at hu
 ·exact hu
 ·cases hu
theorem ints_drop {G : Nat → Prop} {w : World} {b o n c : Nat} {l : List Int} (h : IntsAt G w (.slice (some ⟨b, o, none⟩) n c) l) (i : Nat) : ∀ j u, ((l.drop i).map (Value.int .i64))[j]? = some u → w.cell? ((⟨b, o + i, none⟩ : Addr).add j) = some u := fun j u hu => by
 rw [List.map_drop, List.getElem?_drop] at hu
 have := ints_news h (i + j) u hu
 rw [addr_add] at this ⊢
 rw [← this, show o + i + j = o + (i + j) by omega]
def rOut (l : List Int) (p : Int) : List Int := if p < 0 then l else l.take p.toNat ++ l.drop (p.toNat + 1)
def rCloseC (hs : List Int) (h : Int) : Int := if placeI hs h < 0 then 14 else 0
theorem placeI_lt {hs : List Int} {h : Int} : placeI hs h = -1 ∨ ∃ k : Nat, placeI hs h = k ∧ k < hs.length := by
 unfold placeI
 cases hq : hs.findIdx? (· == h) with
 | none => exact .inl rfl
 | some i =>
  rw [List.findIdx?_eq_some_iff_getElem] at hq
  exact .inr ⟨i, rfl, hq.1⟩
theorem rOut_length {l : List Int} {k : Nat} (h : k < l.length) : (rOut l k).length = k + (l.length - (k + 1)) := by
 unfold rOut
 rw [if_neg (by omega), Int.toNat_natCast, List.length_append, List.length_take, List.length_drop]
 omega
theorem rOut_sub {l : List Int} {p x : Int} (h : x ∈ rOut l p) : x ∈ l := by
 unfold rOut at h
 split at h
 ·exact h
 ·rcases List.mem_append.1 h with h | h
  ·exact List.mem_of_mem_take h
  ·exact List.mem_of_mem_drop h
theorem rOut_vals {l : List Int} {k : Nat} : (rOut l k).map (Value.int .i64) = (l.take k).map (Value.int .i64) ++ (l.drop (k + 1)).map (Value.int .i64) := by
 unfold rOut
 rw [if_neg (by omega), Int.toNat_natCast, List.map_append]
set_option maxRecDepth 100000 in
set_option maxHeartbeats 2000000 in
theorem refCloseV {G : Nat → Prop} {b T : Nat} {cs : Array Value} {hv tv : Value} {hs ts : List Int} {w : World} (hh : w.heap[b]? = some (.cells cs T (0, 0))) (e2 : cs[2]? = some hv) (e3 : cs[3]? = some tv) (h4 : IntsAt G w hv hs) (h5 : IntsAt G w tv ts) (hbl : b < w.heap.size) (hG : ∀ q, G q → q < w.heap.size ∧ q ≠ b) (q : Int) (n1 : hs.length ≤ 50000) (n2 : ts.length = hs.length) :
  Calls Tryz.prog 150 #[.pointer (some ⟨b, 1, none⟩), .int .i64 q] w fun e w' => e = .returned (.int .i64 (rCloseC hs q)) ∧ ∃ hv' tv', Hid (Chg (fun q => q = b) w w') ∧ w'.heap[b]? = some (.cells ((cs.setIfInBounds 2 hv').setIfInBounds 3 tv') T (0, 0)) ∧
   Hid (IntsAt (fun q => (G q ∨ New w w' q) ∧ q ≠ b) w' hv' (rOut hs (placeI hs q))) ∧ Hid (IntsAt (fun q => (G q ∨ New w w' q) ∧ q ≠ b) w' tv' (rOut ts (placeI hs q))) := by
 have hpl := refPlaceV (b := b) q (by rw [cell_row hh]; exact e2) h4
 have hkeep : ∀ w', Below w.heap.size w w' → ∃ hv' tv', Hid (Chg (fun q => q = b) w w') ∧ w'.heap[b]? = some (.cells ((cs.setIfInBounds 2 hv').setIfInBounds 3 tv') T (0, 0)) ∧
   Hid (IntsAt (fun q => (G q ∨ New w w' q) ∧ q ≠ b) w' hv' hs) ∧ Hid (IntsAt (fun q => (G q ∨ New w w' q) ∧ q ≠ b) w' tv' ts) := fun w' hb =>
  ⟨hv, tv, Lib.hid (Chg.of_below hb fun k h1 h2 => by omega), by rw [arr_set_self e2, arr_set_self e3]; exact (hb.block b hbl).trans hh, SlAt.mono (E' := intE) (IntsAt.up h4 hb) (fun q hq => ⟨.inl hq, (hG q hq).2⟩) (fun _ _ _ h => h), SlAt.mono (E' := intE) (IntsAt.up h5 hb) (fun q hq => ⟨.inl hq, (hG q hq).2⟩) (fun _ _ _ h => h)⟩
 have hdef : rCloseC hs q = if placeI hs q < 0 then 14 else 0 := rfl
 have hlt := placeI_lt (hs := hs) (h := q)
 generalize placeI hs q = P at *
 have HPL := Lib.hid hpl
 have H4 := Lib.hid h4
 have H5 := Lib.hid h5
 have HKEEP := Lib.hid hkeep
 have HH := Lib.hid hh
 clear hpl h4 h5 hkeep hh
 rcases hlt with rfl | ⟨k, rfl, hk⟩
 case inl =>
  rw [if_pos (by omega)] at hdef
  rw [hdef]
  have HDEF := Lib.hid hdef
  clear hdef
  go_enter Tryz.func150, Tryz.ntmps150
  go_wp2_with fail
  refine (HPL.out).mono ?_
  rintro e w1 ⟨rfl, hb1⟩
  have hfin := HKEEP.out w1 hb1
  have e1 : ∀ l : List Int, rOut l (-1) = l := fun l => if_pos (by decide)
  have HFIN := Lib.hid hfin
  have HB1 := Lib.hid hb1
  have HE1 := Lib.hid e1
  clear hfin hb1 e1
  go_wp2
  go_ret
  rw [HE1.out, HE1.out]
  exact ⟨rfl, HFIN.out⟩
 case inr =>
  rw [if_neg (by omega)] at hdef
  rw [hdef]
  have hk0 : ¬ (k : Int) < 0 := by omega
  have hkk : IntKind.i64.wrap ((k : Int) + 1) = (k : Int) + 1 := IntWalk.i64_in _ (by omega)
  have HDEF := Lib.hid hdef
  clear hdef
  go_enter Tryz.func150, Tryz.ntmps150
  go_wp2_with fail
  refine (HPL.out).mono ?_
  rintro e w1 ⟨rfl, hb1⟩
  obtain ⟨hp, hc, rfl⟩ := intsAt_shape H4.out
  obtain ⟨tp, tc, rfl⟩ := intsAt_shape H5.out
  have hFb : (fun q => q = b) b := rfl
  have hch1 : Chg (fun q => q = b) w w1 := Chg.of_below hb1 fun k h1 h2 => by omega
  have hd1 : ∀ q, G q → q < w1.heap.size ∧ q ≠ b := fun q hq => ⟨Nat.lt_of_lt_of_le (hG q hq).1 hb1.size, (hG q hq).2⟩
  have hh1 := (hb1.block b hbl).trans HH.out
  have h41 : IntsAt G w1 (.slice hp hs.length hc) hs := IntsAt.up H4.out hb1
  have h51 : IntsAt G w1 (.slice tp ts.length tc) ts := IntsAt.up H5.out hb1
  obtain ⟨gh, oh, rfl⟩ : ∃ gh oh, hp = some ⟨gh, oh, none⟩ := by
   obtain ⟨_, _, hv, _, _, _, g4⟩ := h41
   cases hv
   obtain ⟨b, o, rfl, _⟩ := g4 k hk
   exact ⟨b, o, rfl⟩
  obtain ⟨gt, ot, rfl⟩ : ∃ gt ot, tp = some ⟨gt, ot, none⟩ := by
   obtain ⟨_, _, hv, _, _, _, g4⟩ := h51
   cases hv
   obtain ⟨b, o, rfl, _⟩ := g4 k (by omega)
   exact ⟨b, o, rfl⟩
  have hhc : hs.length ≤ hc ∧ hc ≤ 9223372036854775807 := by obtain ⟨_, _, hv, g1, g2, _⟩ := h41; cases hv; exact ⟨g1, g2⟩
  have htc : ts.length ≤ tc ∧ tc ≤ 9223372036854775807 := by obtain ⟨_, _, hv, g1, g2, _⟩ := h51; cases hv; exact ⟨g1, g2⟩
  have hlh : (hs.take k).length = k := by rw [List.length_take]; omega
  have hlt' : (ts.take k).length = k := by rw [List.length_take]; omega
  -- the four appends, one behind the other
  obtain ⟨px, cx, w2, hE1, HX1, HX2, HX3, HX4⟩ := app_ints (V := w1) (Below.refl w1.heap.size w1) (Nat.le_refl _) (World.ownsRow_nil w1 w1.heap.size 3 1) ⟨gh, oh, none⟩ k hc (hs.take k) hlh (ints_take h41 k) (by omega) k (Nat.zero_add k)
  have h52 := IntsAt.up h51 HX2.out
  obtain ⟨py, cy, w3, hE2, HY1, HY2, HY3, HY4⟩ := app_ints (V := w2) (Below.refl w2.heap.size w2) (Nat.le_refl _) (World.ownsRow_nil w2 w2.heap.size 3 1) ⟨gt, ot, none⟩ k tc (ts.take k) hlt' (ints_take h52 k) (by omega) k (Nat.zero_add k)
  have hB13 : Below w1.heap.size w1 w3 := Below.up HX2.out HY2.out
  have hh2 := (HX2.out.block b (by have := hb1.size; omega)).trans hh1
  have hh3 := (hB13.block b (by have := hb1.size; omega)).trans hh1
  have h43 := IntsAt.up h41 hB13
  obtain ⟨aH, haH, haN⟩ : ∃ aH : Addr, (if hc = k + 1 then some (⟨gh, oh, none⟩ : Addr) else some ⟨gh, oh + (k + 1), none⟩) = some aH ∧ ∀ j u, ((hs.drop (k + 1)).map (Value.int .i64))[j]? = some u → w3.cell? (aH.add j) = some u := by
   by_cases he : hc = k + 1
   ·refine ⟨_, by rw [if_pos he], fun j u hu => ?_⟩
    rw [List.drop_eq_nil_of_le (by omega)] at hu
    simp at hu
   ·exact ⟨_, by rw [if_neg he], ints_drop h43 (k + 1)⟩
  have hz1 := hb1.size
  have hz2 := HX2.out.size
  have hz3 := HY2.out.size
  obtain ⟨px2, cx2, w4, hE3, HU1, HU2, HU3, HU4⟩ := app_ints (V := w1) (W := w3) hB13 hB13.size (ownsRow_up' HX1.out HY2.out) aH (hs.length - (k + 1)) (hc - (k + 1)) (hs.drop (k + 1)) (by rw [List.length_drop]) haN (by omega) _ rfl
  have hz4 := HU3.out.size
  have hh4 := (HU2.out.block b (by omega)).trans hh1
  have hh5 : (w4.setCell ⟨b, 2, none⟩ (.slice px2 (k + (hs.length - (k + 1))) cx2)).heap[b]? = some (.cells (cs.setIfInBounds 2 (.slice px2 (k + (hs.length - (k + 1))) cx2)) T (0, 0)) := heap_set_same hh4 _
  have hz5 : (w4.setCell ⟨b, 2, none⟩ (.slice px2 (k + (hs.length - (k + 1))) cx2)).heap.size = w4.heap.size := by simp [World.setCell]
  have h55 : IntsAt G (w4.setCell ⟨b, 2, none⟩ (.slice px2 (k + (hs.length - (k + 1))) cx2)) (.slice (some ⟨gt, ot, none⟩) ts.length tc) ts := IntsAt.same h51 fun q hq => (Below.heap_setCell _ _ _ q (hd1 q hq).2).trans (HU2.out.block q (hd1 q hq).1)
  have hyo : ∀ q, (Value.slice py k cy).ownBlock = some q → w2.heap.size ≤ q ∧ q < w3.heap.size := HY1.out.lt
  have hxo : ∀ q, (Value.slice px k cx).ownBlock = some q → w1.heap.size ≤ q ∧ q < w2.heap.size := HX1.out.lt
  have hy5 : (w4.setCell ⟨b, 2, none⟩ (.slice px2 (k + (hs.length - (k + 1))) cx2)).ownsRow w2.heap.size 3 1 (.slice py k cy) k ([] ++ (ts.take k).map (Value.int .i64)) := by
   refine row_same (F := fun q => (Value.slice py k cy).ownBlock = some q) (fun q hq => ?_) HY1.out (fun q hq => hq)
   have h1 := hyo q hq
   refine (Below.heap_setCell _ _ _ q (show q ≠ b by omega)).trans (HU3.out.block q h1.2 fun e => ?_)
   have := hxo q e.symm
   omega
  obtain ⟨aT, haT, haM⟩ : ∃ aT : Addr, (if tc = k + 1 then some (⟨gt, ot, none⟩ : Addr) else some ⟨gt, ot + (k + 1), none⟩) = some aT ∧ ∀ j u, ((ts.drop (k + 1)).map (Value.int .i64))[j]? = some u → (w4.setCell ⟨b, 2, none⟩ (.slice px2 (k + (hs.length - (k + 1))) cx2)).cell? (aT.add j) = some u := by
   by_cases he : tc = k + 1
   ·refine ⟨_, by rw [if_pos he], fun j u hu => ?_⟩
    rw [List.drop_eq_nil_of_le (by omega)] at hu
    simp at hu
   ·exact ⟨_, by rw [if_neg he], ints_drop h55 (k + 1)⟩
  obtain ⟨py2, cy2, w6, hE4, HV1, HV2, HV3, HV4⟩ := app_ints (V := w4.setCell ⟨b, 2, none⟩ (.slice px2 (k + (hs.length - (k + 1))) cx2)) (W := w4.setCell ⟨b, 2, none⟩ (.slice px2 (k + (hs.length - (k + 1))) cx2)) (B := w2.heap.size) (Below.refl _ _) (by omega) hy5 aT (ts.length - (k + 1)) (tc - (k + 1)) (ts.drop (k + 1)) (by rw [List.length_drop]) haM (by omega) _ rfl
  have hz6 := HV3.out.size
  have hh6 := (HV2.out.block b (by omega)).trans hh5
  have hh7 : (w6.setCell ⟨b, 3, none⟩ (.slice py2 (k + (ts.length - (k + 1))) cy2)).heap[b]? = some (.cells ((cs.setIfInBounds 2 (.slice px2 (k + (hs.length - (k + 1))) cx2)).setIfInBounds 3 (.slice py2 (k + (ts.length - (k + 1))) cy2)) T (0, 0)) := heap_set_same hh6 _
  have hz7 : (w6.setCell ⟨b, 3, none⟩ (.slice py2 (k + (ts.length - (k + 1))) cy2)).heap.size = w6.heap.size := by simp [World.setCell]
  have hx7 : (w6.setCell ⟨b, 3, none⟩ (.slice py2 (k + (ts.length - (k + 1))) cy2)).ownsRow w1.heap.size 3 1 (.slice px2 (k + (hs.length - (k + 1))) cx2) (rOut hs k).length ((rOut hs k).map (Value.int .i64)) := by
   rw [rOut_vals, rOut_length hk]
   have hx4 := HU1.out
   rw [List.nil_append] at hx4
   refine row_same (F := fun q => (Value.slice px2 (k + (hs.length - (k + 1))) cx2).ownBlock = some q) (fun q hq => ?_) hx4 (fun q hq => hq)
   have hql := hx4.lt q hq
   refine (Below.heap_setCell _ _ _ q (show q ≠ b by omega)).trans ((HV3.out.block q (by omega) fun e => ?_).trans (Below.heap_setCell _ _ _ q (show q ≠ b by omega)))
   have h1 := hyo q e.symm
   rcases HU4.out with h2 | h2
   ·have := hxo q (h2 ▸ hq); omega
   ·rw [hq] at h2; cases h2; omega
  have hy7 : (w6.setCell ⟨b, 3, none⟩ (.slice py2 (k + (ts.length - (k + 1))) cy2)).ownsRow w2.heap.size 3 1 (.slice py2 (k + (ts.length - (k + 1))) cy2) (rOut ts k).length ((rOut ts k).map (Value.int .i64)) := by
   rw [rOut_vals, rOut_length (by omega)]
   have hy6 := HV1.out
   rw [List.nil_append] at hy6
   refine row_same (F := fun q => (Value.slice py2 (k + (ts.length - (k + 1))) cy2).ownBlock = some q) (fun q hq => ?_) hy6 (fun q hq => hq)
   have hql := hy6.lt q hq
   exact Below.heap_setCell _ _ _ q (show q ≠ b by omega)
  have hIh : ∀ x ∈ rOut hs k, I64 x := fun x hx => by
   obtain ⟨j, hj, rfl⟩ := List.mem_iff_getElem.1 (rOut_sub hx)
   obtain ⟨_, _, _, _, _, _, g4⟩ := h41
   obtain ⟨_, _, _, _, _, hi⟩ := g4 j hj
   exact hi
  have hIt : ∀ x ∈ rOut ts k, I64 x := fun x hx => by
   obtain ⟨j, hj, rfl⟩ := List.mem_iff_getElem.1 (rOut_sub hx)
   obtain ⟨_, _, _, _, _, _, g4⟩ := h51
   obtain ⟨_, _, _, _, _, hi⟩ := g4 j hj
   exact hi
  have hchg : Chg (fun q => q = b) w (w6.setCell ⟨b, 3, none⟩ (.slice py2 (k + (ts.length - (k + 1))) cy2)) := (((hch1.then_up HU2.out).trans (chg_set w4 b 2 (.slice px2 (k + (hs.length - (k + 1))) cx2) hFb)).trans' (Chg.of_below (S := fun q => w2.heap.size ≤ q) HV2.out fun q h1 h2 => h2) (fun q h1 h2 => by omega)).trans (chg_set w6 b 3 (.slice py2 (k + (ts.length - (k + 1))) cy2) hFb)
  have hendA : IntsAt (fun q => (G q ∨ New w (w6.setCell ⟨b, 3, none⟩ (.slice py2 (k + (ts.length - (k + 1))) cy2)) q) ∧ q ≠ b) (w6.setCell ⟨b, 3, none⟩ (.slice py2 (k + (ts.length - (k + 1))) cy2)) (.slice px2 (k + (hs.length - (k + 1))) cx2) (rOut hs k) := intsAt_own _ rfl hIh (fun q h1 h2 => ⟨.inr ⟨by omega, h2⟩, by omega⟩) hx7
  have hendB : IntsAt (fun q => (G q ∨ New w (w6.setCell ⟨b, 3, none⟩ (.slice py2 (k + (ts.length - (k + 1))) cy2)) q) ∧ q ≠ b) (w6.setCell ⟨b, 3, none⟩ (.slice py2 (k + (ts.length - (k + 1))) cy2)) (.slice py2 (k + (ts.length - (k + 1))) cy2) (rOut ts k) := intsAt_own _ rfl hIt (fun q h1 h2 => ⟨.inr ⟨by omega, h2⟩, by omega⟩) hy7
  have d11 : w1.cell? ⟨b, 2, none⟩ = some (.slice (some ⟨gh, oh, none⟩) hs.length hc) := by rw [cell_row hh1]; exact e2
  have d22 : w2.cell? ⟨b, 3, none⟩ = some (.slice (some ⟨gt, ot, none⟩) ts.length tc) := by rw [cell_row hh2]; exact e3
  have d31 : w3.cell? ⟨b, 2, none⟩ = some (.slice (some ⟨gh, oh, none⟩) hs.length hc) := by rw [cell_row hh3]; exact e2
  have d41 : w4.cell? ⟨b, 2, none⟩ = some (.slice (some ⟨gh, oh, none⟩) hs.length hc) := by rw [cell_row hh4]; exact e2
  have d4z : w4.frozen? ⟨b, 2, none⟩ = false := fz_row hh4 2
  have d52 : w4.cell? ⟨b, 3, none⟩ = some (.slice (some ⟨gt, ot, none⟩) ts.length tc) := by rw [cell_row hh4]; exact e3
  have d62 : w6.cell? ⟨b, 3, none⟩ = some (.slice (some ⟨gt, ot, none⟩) ts.length tc) := by rw [cell_row hh6, arr_set_ne (by decide)]; exact e3
  have d6z : w6.frozen? ⟨b, 3, none⟩ = false := fz_row hh6 3
  have z1 : (k : Int) ≤ (hc : Int) := by omega
  have z2 : (k : Int) ≤ (tc : Int) := by omega
  have z3 : (k : Int) + 1 ≤ (hs.length : Int) := by omega
  have z4 : (k : Int) + 1 ≤ (ts.length : Int) := by omega
  have z5 : k ≤ hc := by omega
  have z6 : k ≤ tc := by omega
  have z7 : k + 1 ≤ hs.length := by omega
  have z8 : k + 1 ≤ ts.length := by omega
  have z9 : (hs.length : Int) ≤ (hc : Int) := by omega
  have z10 : (ts.length : Int) ≤ (tc : Int) := by omega
  have HENDA := Lib.hid hendA
  have HENDB := Lib.hid hendB
  have H41 := Lib.hid h41
  have H51 := Lib.hid h51
  have HCH1 := Lib.hid hch1
  have HD1 := Lib.hid hd1
  have HH1 := Lib.hid hh1
  have HLH := Lib.hid hlh
  have HLT' := Lib.hid hlt'
  have H52 := Lib.hid h52
  have HB13 := Lib.hid hB13
  have HH2 := Lib.hid hh2
  have HH3 := Lib.hid hh3
  have H43 := Lib.hid h43
  have HAN := Lib.hid haN
  have HH4 := Lib.hid hh4
  have HH5 := Lib.hid hh5
  have H55 := Lib.hid h55
  have HYO := Lib.hid hyo
  have HXO := Lib.hid hxo
  have HY5 := Lib.hid hy5
  have HAM := Lib.hid haM
  have HH6 := Lib.hid hh6
  have HH7 := Lib.hid hh7
  have HX7 := Lib.hid hx7
  have HY7 := Lib.hid hy7
  have HIH := Lib.hid hIh
  have HIT := Lib.hid hIt
  have HCHG := Lib.hid hchg
  have HHC := Lib.hid hhc
  have HTC := Lib.hid htc
  clear hendA hendB h41 h51 hch1 hd1 hh1 hlh hlt' h52 hB13 hh2 hh3 h43 haN hh4 hh5 h55 hyo hxo hy5 haM hh6 hh7 hx7 hy7 hIh hIt hchg hhc htc
  clear hz1 hz2 hz3 hz4 hz5 hz6 hz7 hb1 n2
  go_upto_region 6 with (at_builtin; refine Lib.wpList_append_run _ rfl _ _ _ _ rfl _ _ rfl rfl _ _ hE1 ?_)
  go_upto_region 7 with (at_builtin; refine Lib.wpList_append_run _ rfl _ _ _ _ rfl _ _ rfl rfl _ _ hE2 ?_)
  go_upto_region 8 with (at_builtin; refine Lib.wpList_append_run _ rfl _ _ _ _ rfl _ _ rfl rfl _ _ hE3 ?_)
  go_wp2_with (at_builtin; refine Lib.wpList_append_run _ rfl _ _ _ _ rfl _ _ rfl rfl _ _ hE4 ?_)
  go_ret
  exact ⟨rfl, _, _, HCHG, HH7.out, HENDA, HENDB⟩
end Go.Proofs
namespace Sc
open Go
section
variable {P : Program} {ops : Array Oper} {Q : Exit → Act → World → Prop} {md : Region.Mode}
theorem wpH.two {G : World → Prop} (i j : Nat) {oi oj : Oper} {fuel : Nat} {listed : Array Bool} {a : Act} {w : World} (hi : ops[i]? = some oi) (hj : ops[j]? = some oj) (hr : Region.ready md ops listed = [i, j]) (hwi : Region.wanted oi (yielded ops a.tmps) = true) (hwj : Region.wanted oj (yielded ops a.tmps) = true) (hG : G w)
  (h1 : ∀ K : Act → World → Prop, (∀ a w, wpH P md ops Q G fuel (listed.setIfInBounds i true) a w → K a w) → oi.wp P a w K Q)
  (h2 : ∀ K : Act → World → Prop, (∀ a w, wpH P md ops Q G fuel (listed.setIfInBounds j true) a w → K a w) → oj.wp P a w K Q) : wpH P md ops Q G (fuel + 1) listed a w := by
 refine ⟨hG, fun h0 => absurd (hr ▸ h0) (by simp), fun k hk => ?_⟩
 rw [hr, List.mem_cons, List.mem_singleton] at hk
 unfold Go.wpOp
 rcases hk with rfl | rfl
 ·simp only [hi]
  rw [if_pos hwi]
  exact .inl (h1 _ fun _ _ h => h)
 ·simp only [hj]
  rw [if_pos hwj]
  exact .inl (h2 _ fun _ _ h => h)
theorem wpG.two {G : World → Prop} (i j : Nat) {oi oj : Oper} {fuel : Nat} {listed : Array Bool} {a : Act} {w : World} (hi : ops[i]? = some oi) (hj : ops[j]? = some oj) (hr : Region.ready md ops listed = [i, j]) (hwi : Region.wanted oi (yielded ops a.tmps) = true) (hwj : Region.wanted oj (yielded ops a.tmps) = true) (hG : G w)
  (h1 : ∀ K : Act → World → Prop, (∀ a w, wpG P md ops Q G fuel (listed.setIfInBounds i true) a w → K a w) → oi.wp P a w K Q)
  (h2 : ∀ K : Act → World → Prop, (∀ a w, wpG P md ops Q G fuel (listed.setIfInBounds j true) a w → K a w) → oj.wp P a w K Q) : wpG P md ops Q G (fuel + 1) listed a w := by
 refine ⟨hG, fun h0 => absurd (hr ▸ h0) (by simp), fun k hk => ?_⟩
 rw [hr, List.mem_cons, List.mem_singleton] at hk
 unfold Go.wpOp
 rcases hk with rfl | rfl
 ·simp only [hi]
  rw [if_pos hwi]
  exact .inl (h1 _ fun _ _ h => h)
 ·simp only [hj]
  rw [if_pos hwj]
  exact .inl (h2 _ fun _ _ h => h)
end
end Sc
namespace Go.Proofs
open Go.RowKit Sc
theorem push_all {w W0 W1 : World} {k b : Nat} {x : Int} (hW : Below w.heap.size w W0) (hk : W0.ownsRow w.heap.size 3 1 (.slice (some ⟨k, 0, none⟩) 0 0) 0 []) (hb : b ≠ k) (hx : W0.cell? ⟨b, 0, none⟩ = some (.int .i64 x)) {G : Nat → Prop} {p : Option Addr} {c : Nat} {l : List Int} (h : IntsAt G W0 (.slice p l.length c) l) (hl : l.length ≤ 90000) (_hW1 : W1 = W0) :
  ∃ g1 c1 w1 g2 c2 w2, (Builtin.append_ #[91, 91] 91 #[.slice (some ⟨k, 0, none⟩) 0 0, .slice p l.length c]).run Tryz.prog W0 = .ok (.slice (some ⟨g1, 0, none⟩) l.length c1) w1 ∧
   (Builtin.append_ #[91, 91] 91 #[.slice (some ⟨g1, 0, none⟩) l.length c1, .slice (some ⟨b, 0, none⟩) 1 1]).run Tryz.prog w1 = .ok (.slice (some ⟨g2, 0, none⟩) (l.length + 1) c2) w2 ∧
   Hid (w2.ownsRow w.heap.size 3 1 (.slice (some ⟨g2, 0, none⟩) (l.length + 1) c2) (l.length + 1) (l.map (Value.int .i64) ++ [.int .i64 x])) ∧ Hid (Below w.heap.size w w2) ∧ Hid (Below w.heap.size w w1) := by
 obtain ⟨g1, c1, w1, h1, h2, h3, h4⟩ := push_at hW hk h (by omega)
 have hxl := World.block_lt_of_cell? _ _ hx
 have hx1 : w1.cell? ⟨b, 0, none⟩ = some (.int .i64 x) := (World.cell?_of_block (h4.out.block b hxl (fun e => hb (by cases e; rfl)))).trans hx
 obtain ⟨g2, c2, w2, k1, k2, k3⟩ := push_one h3.out h2.out b 0 x hx1 (by omega)
 exact ⟨g1, c1, w1, g2, c2, w2, h1, k1, k2, k3, h3⟩
theorem book_mid {G : Nat → Prop} {b T j : Nat} {cs : Array Value} {l : List Int} {x : Int} {w w2 w4 : World} (h2 : w2.heap[b]? = some (.cells cs T (0, 0))) (hc : Chg (fun q => q = b) w w2) (hbl : b < w.heap.size) (hi : ∀ y ∈ l ++ [x], I64 y) {g c : Nat} (hb : Below w2.heap.size w2 w4) (ho : w4.ownsRow w2.heap.size 3 1 (.slice (some ⟨g, 0, none⟩) (l.length + 1) c) (l.length + 1) (l.map (Value.int .i64) ++ [.int .i64 x])) :
  (w4.setCell ⟨b, j, none⟩ (.slice (some ⟨g, 0, none⟩) (l.length + 1) c)).heap[b]? = some (.cells (cs.setIfInBounds j (.slice (some ⟨g, 0, none⟩) (l.length + 1) c)) T (0, 0)) ∧ Chg (fun q => q = b) w (w4.setCell ⟨b, j, none⟩ (.slice (some ⟨g, 0, none⟩) (l.length + 1) c)) ∧
   Chg (fun q => q = b) w2 (w4.setCell ⟨b, j, none⟩ (.slice (some ⟨g, 0, none⟩) (l.length + 1) c)) ∧ IntsAt (fun q => (G q ∨ New w (w4.setCell ⟨b, j, none⟩ (.slice (some ⟨g, 0, none⟩) (l.length + 1) c)) q) ∧ q ≠ b) (w4.setCell ⟨b, j, none⟩ (.slice (some ⟨g, 0, none⟩) (l.length + 1) c)) (.slice (some ⟨g, 0, none⟩) (l.length + 1) c) (l ++ [x]) := by
 have hz2 := hc.size
 have hh4 := (hb.block b (by omega)).trans h2
 have hs4 : Same (fun q => q ≠ b) w4 (w4.setCell ⟨b, j, none⟩ (.slice (some ⟨g, 0, none⟩) (l.length + 1) c)) := fun q hq => Below.heap_setCell _ _ _ q hq
 have hz4 : (w4.setCell ⟨b, j, none⟩ (.slice (some ⟨g, 0, none⟩) (l.length + 1) c)).heap.size = w4.heap.size := by simp [World.setCell]
 have hint := intsAt_own (fun q => (G q ∨ New w (w4.setCell ⟨b, j, none⟩ (.slice (some ⟨g, 0, none⟩) (l.length + 1) c)) q) ∧ q ≠ b) (l := l ++ [x]) (by simp) hi (fun q h1 h2 => ⟨.inr ⟨by omega, by rw [hz4]; exact h2⟩, by omega⟩) (show w4.ownsRow w2.heap.size 3 1 (.slice (some ⟨g, 0, none⟩) (l.length + 1) c) (l.length + 1) ((l ++ [x]).map (Value.int .i64)) by rw [List.map_append]; exact ho)
 exact ⟨heap_set_same hh4 _, (hc.then_up hb).trans (chg_set w4 b j _ rfl), (Chg.of_below hb fun k h1 h2 => by omega).trans (chg_set w4 b j _ rfl), IntsAt.same hint (hs4.mono fun q hq => hq.2)⟩
def OpenV (G : Nat → Prop) (b T : Nat) (cs : Array Value) (most last : Int) (hs ts : List Int) (t : Int) (w : World) (e : Ending) (w' : World) : Prop :=
 (rOpen most hs.length t ≠ 0 ∧ e = .returned (.tuple #[.int .i64 0, .int .i64 (rOpen most hs.length t)]) ∧ Hid (Below w.heap.size w w')) ∨
 (rOpen most hs.length t = 0 ∧ e = .returned (.tuple #[.int .i64 (last + 1), .int .i64 0]) ∧ ∃ hv' tv', Hid (Chg (fun q => q = b) w w') ∧ w'.heap[b]? = some (.cells (((cs.setIfInBounds 4 (.int .i64 (last + 1))).setIfInBounds 2 hv').setIfInBounds 3 tv') T (0, 0)) ∧
   Hid (IntsAt (fun q => (G q ∨ New w w' q) ∧ q ≠ b) w' hv' (hs ++ [last + 1])) ∧ Hid (IntsAt (fun q => (G q ∨ New w w' q) ∧ q ≠ b) w' tv' (ts ++ [t])))
set_option maxRecDepth 100000 in
set_option maxHeartbeats 4000000 in
theorem refOpenV {G : Nat → Prop} {b T : Nat} {cs : Array Value} {hv tv : Value} {most last : Int} {hs ts : List Int} {w : World} (hh : w.heap[b]? = some (.cells cs T (0, 0))) (e1 : cs[1]? = some (.int .i64 most)) (e2 : cs[2]? = some hv) (e3 : cs[3]? = some tv) (e4 : cs[4]? = some (.int .i64 last)) (h4 : IntsAt G w hv hs) (h5 : IntsAt G w tv ts) (hbl : b < w.heap.size) (hG : ∀ q, G q → q < w.heap.size ∧ q ≠ b)
  (t : Int) (hl0 : 0 ≤ last) (hl1 : last ≤ 1000000) (n1 : hs.length ≤ 50000) (n2 : ts.length ≤ 50000) (it : I64 t) :
  Calls Tryz.prog 117 #[.pointer (some ⟨b, 1, none⟩), .int .i64 t] w (OpenV G b T cs most last hs ts t w) := by
 obtain ⟨hp, hc, rfl⟩ := intsAt_shape h4
 obtain ⟨tp, tc, rfl⟩ := intsAt_shape h5
 have hc1 : w.cell? ⟨b, 1, none⟩ = some (.int .i64 most) := by rw [cell_row hh]; exact e1
 have hc2 : w.cell? ⟨b, 2, none⟩ = some (.slice hp hs.length hc) := by rw [cell_row hh]; exact e2
 have hc4 : w.cell? ⟨b, 4, none⟩ = some (.int .i64 last) := by rw [cell_row hh]; exact e4
 have hz4 : w.frozen? ⟨b, 4, none⟩ = false := fz_row hh 4
 have hdef : rOpen most hs.length t = if t < 0 ∨ 1099511627776 < t then 1 else if most ≤ (hs.length : Int) then 6 else 0 := rfl
 have hfail : ∀ (c : Int) (w' : World), rOpen most hs.length t = c → c ≠ 0 → Below w.heap.size w w' → OpenV G b T cs most last hs ts t w (.returned (.tuple #[.int .i64 0, .int .i64 c])) w' := fun c w' h1 h2 h3 => .inl ⟨by rw [h1]; exact h2, by rw [h1], Lib.hid h3⟩
 have hI : ∀ x ∈ hs ++ [last + 1], I64 x := fun x hx => by
  rcases List.mem_append.1 hx with hx | hx
  ·obtain ⟨j, hj, rfl⟩ := List.mem_iff_getElem.1 hx
   obtain ⟨_, _, _, _, _, _, g4⟩ := h4
   obtain ⟨_, _, _, _, _, hi⟩ := g4 j hj
   exact hi
  ·rw [List.mem_singleton] at hx; subst hx; unfold I64; omega
 have hI2 : ∀ x ∈ ts ++ [t], I64 x := fun x hx => by
  rcases List.mem_append.1 hx with hx | hx
  ·obtain ⟨j, hj, rfl⟩ := List.mem_iff_getElem.1 hx
   obtain ⟨_, _, _, _, _, _, g4⟩ := h5
   obtain ⟨_, _, _, _, _, hi⟩ := g4 j hj
   exact hi
  ·rw [List.mem_singleton] at hx; subst hx; exact it
 have hfollow : Tryz.prog.follows Departure.mixedOrders = true := by kernel_rfl
 have HH := Lib.hid hh
 have H4 := Lib.hid h4
 have H5 := Lib.hid h5
 have HFAIL := Lib.hid hfail
 have HI := Lib.hid hI
 have HI2 := Lib.hid hI2
 clear hh h4 h5 hfail hI hI2
 rcases (show t < 0 ∨ (0 ≤ t ∧ 1099511627776 < t) ∨ (0 ≤ t ∧ t ≤ 1099511627776 ∧ most ≤ (hs.length : Int)) ∨ (0 ≤ t ∧ t ≤ 1099511627776 ∧ (hs.length : Int) < most) by omega) with a | ⟨a, a1⟩ | ⟨a, a1, a2⟩ | ⟨a, a1, a2⟩
 case inl =>
  rw [if_pos (.inl a)] at hdef
  have hf := HFAIL.out 1 w hdef (by decide) (Below.refl _ _)
  have HDEF := Lib.hid hdef
  have HF := Lib.hid hf
  clear hdef hf
  go_enter Tryz.func117, Tryz.ntmps117
  go_wp2
  go_ret2
  exact HF.out
 case inr.inl =>
  rw [if_pos (.inr a1)] at hdef
  have hf := HFAIL.out 1 w hdef (by decide) (Below.refl _ _)
  have HDEF := Lib.hid hdef
  have HF := Lib.hid hf
  clear hdef hf
  go_enter Tryz.func117, Tryz.ntmps117
  go_wp2
  go_ret2
  exact HF.out
 case inr.inr.inl =>
  rw [if_neg (by omega), if_pos a2] at hdef
  have hf := fun q => HFAIL.out 6 (w.drewN q) hdef (by decide) (below_drewN (Below.refl _ _) q)
  have HDEF := Lib.hid hdef
  have HF := Lib.hid hf
  clear hdef hf
  go_enter Tryz.func117, Tryz.ntmps117
  go_wp2_with fail
  go_quiet (fail)
  go_wp2_with fail
  go_ret2
  exact HF.out nq
 case inr.inr.inr =>
  rw [if_neg (by omega), if_neg (by omega)] at hdef
  have hw1 : IntKind.i64.wrap (last + 1) = last + 1 := IntWalk.i64_in _ (by omega)
  have HDEF := Lib.hid hdef
  clear hdef
  go_enter Tryz.func117, Tryz.ntmps117
  go_wp2_with fail
  go_quiet (fail)
  have hbq := below_drewN (Below.refl w.heap.size w) nq
  have hd1 := cell_up hbq hc1
  have hd2 := cell_up hbq hc2
  have hd4 := cell_up hbq hc4
  have hdz : (w.drewN nq).frozen? ⟨b, 4, none⟩ = false := hz4
  have hhq := (hbq.block b hbl).trans HH.out
  have hzq : (w.drewN nq).heap.size = w.heap.size := rfl
  generalize w.drewN nq = w1 at *
  have HBQ := Lib.hid hbq
  have HHQ := Lib.hid hhq
  clear hbq hhq
  clear hc1 hc2 hc4 hz4
  go_upto_region 6 with fail
  have hh2 : (w1.setCell ⟨b, 4, none⟩ (.int .i64 (last + 1))).heap[b]? = some (.cells (cs.setIfInBounds 4 (.int .i64 (last + 1))) T (0, 0)) := heap_set_same HHQ.out _
  have hch2 : Chg (fun q => q = b) w (w1.setCell ⟨b, 4, none⟩ (.int .i64 (last + 1))) := (Chg.of_below HBQ.out fun k h1 h2 => by omega).trans (chg_set w1 b 4 _ rfl)
  have h42 : IntsAt G (w1.setCell ⟨b, 4, none⟩ (.int .i64 (last + 1))) (.slice hp hs.length hc) hs := IntsAt.same H4.out fun q hq => hch2.block q (hG q hq).1 (hG q hq).2
  have h52 : IntsAt G (w1.setCell ⟨b, 4, none⟩ (.int .i64 (last + 1))) (.slice tp ts.length tc) ts := IntsAt.same H5.out fun q hq => hch2.block q (hG q hq).1 (hG q hq).2
  have hsz2 : (w1.setCell ⟨b, 4, none⟩ (.int .i64 (last + 1))).heap.size = w.heap.size := by rw [← hzq]; simp [World.setCell]
  generalize (w1.setCell ⟨b, 4, none⟩ (.int .i64 (last + 1))) = w2 at *
  have hb2 : w2.cell? ⟨b, 2, none⟩ = some (.slice hp hs.length hc) := by rw [cell_row hh2, arr_set_ne (by decide)]; exact e2
  have hb4 : w2.cell? ⟨b, 4, none⟩ = some (.int .i64 (last + 1)) := by rw [cell_row hh2, arr_set_get e4]
  have hbl2 : b < w2.heap.size := by omega
  -- the two new blocks, in whatever order
  obtain ⟨g1, c1, w3, hA1, HA2, HA3, HA4⟩ := push_at (w := w2) (W := (w2.alloc (.cells #[] 3 (0, 0))).drew) (k := w2.heap.size) (below_drewN (below_alloc w2 _) 1) (owns_empty w2 _ 1) (IntsAt.up h42 (below_drewN (below_alloc w2 _) 1)) (by omega)
  have hxA : (w3.alloc (.cells #[.int .i64 (last + 1)] 3 (0, 0))).cell? ⟨w3.heap.size, 0, none⟩ = some (.int .i64 (last + 1)) := by rw [cell_row (heap_alloc_new w3 _)]; rfl
  obtain ⟨g2, c2, w4A, hA5, HA6, HA7⟩ := push_one (w := w2) (W := w3.alloc (.cells #[.int .i64 (last + 1)] 3 (0, 0))) (Below.up HA3.out (below_alloc _ _)) (ownsRow_up' HA2.out (below_alloc _ _)) w3.heap.size 0 (last + 1) hxA (by omega)
  have hzE : (w2.alloc (.cells #[] 3 (0, 0))).drew.heap.size = w2.heap.size + 1 := by simp
  have hzL : (w2.alloc (.cells #[.int .i64 (last + 1)] 3 (0, 0))).drew.heap.size = w2.heap.size + 1 := by simp
  have hB0 := heap_alloc_new (w2.alloc (.cells #[] 3 (0, 0))).drew (.cells #[.int .i64 (last + 1)] 3 (0, 0))
  rw [hzE] at hB0
  have hbE := below_drewN (below_alloc w2 (.cells #[] 3 (0, 0))) 1
  have hbL := below_drewN (below_alloc w2 (.cells #[.int .i64 (last + 1)] 3 (0, 0))) 1
  have hbEL : Below w2.heap.size w2 ((w2.alloc (.cells #[] 3 (0, 0))).drew.alloc (.cells #[.int .i64 (last + 1)] 3 (0, 0))) := Below.up hbE (below_alloc _ _)
  have hbLE : Below w2.heap.size w2 ((w2.alloc (.cells #[.int .i64 (last + 1)] 3 (0, 0))).drew.alloc (.cells #[] 3 (0, 0))) := Below.up hbL (below_alloc _ _)
  obtain ⟨gB, cB, wB, gB2, cB2, w4B, hB1, hB2, HB3, HB4, HBm⟩ := push_all (w := w2) (W0 := (w2.alloc (.cells #[] 3 (0, 0))).drew.alloc (.cells #[.int .i64 (last + 1)] 3 (0, 0))) (k := w2.heap.size) (b := w2.heap.size + 1) (x := last + 1) hbEL (ownsRow_up' (owns_empty w2 _ 1) (Below.up (below_drewN (Below.refl _ _) 1) (below_alloc _ _))) (by omega) (by rw [cell_row hB0]; rfl) (IntsAt.up h42 hbEL) (by omega) rfl
  have hC0 := owns_empty (w2.alloc (.cells #[.int .i64 (last + 1)] 3 (0, 0))).drew 3 1
  rw [hzL] at hC0
  have hCx : ((w2.alloc (.cells #[.int .i64 (last + 1)] 3 (0, 0))).drew.alloc (.cells #[] 3 (0, 0))).cell? ⟨w2.heap.size, 0, none⟩ = some (.int .i64 (last + 1)) := cell_up (below_alloc _ _) (show (w2.alloc (.cells #[.int .i64 (last + 1)] 3 (0, 0))).cell? ⟨w2.heap.size, 0, none⟩ = _ by rw [cell_row (heap_alloc_new w2 _)]; rfl)
  obtain ⟨gC, cC, wC, gC2, cC2, w4C, hC1, hC2, HC3, HC4, HCm⟩ := push_all (w := w2) (W0 := (w2.alloc (.cells #[.int .i64 (last + 1)] 3 (0, 0))).drew.alloc (.cells #[] 3 (0, 0))) (k := w2.heap.size + 1) (b := w2.heap.size) (x := last + 1) hbLE (ownsRow_lower0 hC0 (by show w2.heap.size ≤ _; omega)) (by omega) hCx (IntsAt.up h42 hbLE) (by omega) rfl
  have hG2 : w2.drew.cell? ⟨b, 2, none⟩ = some (.slice hp hs.length hc) ∧ w2.drew.cell? ⟨b, 4, none⟩ = some (.int .i64 (last + 1)) := ⟨hb2, hb4⟩
  have hup : ∀ W, Below w2.heap.size w2 W → W.cell? ⟨b, 2, none⟩ = some (.slice hp hs.length hc) ∧ W.cell? ⟨b, 4, none⟩ = some (.int .i64 (last + 1)) := fun W hW => ⟨cell_up hW hb2, cell_up hW hb4⟩
  have hfz : ∀ W, Below w2.heap.size w2 W → W.frozen? ⟨b, 2, none⟩ = false := fun W hW => (hW.frozen (p := ⟨b, 2, none⟩) hbl2).trans (fz_row hh2 2)
  have fA := hfz w4A HA7.out
  have fB := hfz w4B HB4.out
  have fC := hfz w4C HC4.out
  have kA := (hup w4A HA7.out).1
  have kB := (hup w4B HB4.out).1
  have kC := (hup w4C HC4.out).1
  have HH2 := Lib.hid hh2
  have HCH2 := Lib.hid hch2
  have H42 := Lib.hid h42
  have H52 := Lib.hid h52
  have HSZ2 := Lib.hid hsz2
  have HBE := Lib.hid hbE
  have HBL := Lib.hid hbL
  have HBEL := Lib.hid hbEL
  have HBLE := Lib.hid hbLE
  have HB0 := Lib.hid hB0
  have HUP := Lib.hid hup
  have HFZ := Lib.hid hfz
  clear hh2 hch2 h42 h52 hsz2 hbE hbL hbEL hbLE hB0 hup hfz
  clear hC0 hCx hxA hd1 hd2 hd4 hdz
  refine wp_regionH (fun W => W.cell? ⟨b, 2, none⟩ = some (.slice hp hs.length hc) ∧ W.cell? ⟨b, 4, none⟩ = some (.int .i64 (last + 1))) (n := 16) (by kernel_rfl) (by kernel_rfl) ?_
  refine wpH.tk 0 ?_
  refine wpH.tk 2 ?_
  refine wpH.tk 3 ?_
  refine wpH.tk 4 ?_
  refine wpH.tk 5 ?_ (hy := by intro W hW; have hld0 := hW.1; go_simp; try with_reducible rfl)
  refine wpH.tk 7 ?_
  refine wpH.tk 8 ?_
  refine wpH.tk 9 ?_
  refine wpH.tk 10 ?_ (hy := by intro W hW; have hld0 := hW.2; go_simp; try with_reducible rfl)
  refine wpH.two 1 11 rfl rfl (by kernel_rfl) (by kernel_rfl) (by kernel_rfl) hG2 (fun K hK => ?ordE) (fun K hK => ?ordL)
  case' ordE =>
   go_simp
   try go_simp
   refine hK _ _ ?_
   clear hK K
   refine wpH.two 6 11 rfl rfl (by kernel_rfl) (by kernel_rfl) (by kernel_rfl) (HUP.out _ HBE.out) (fun K hK => ?ordEA) (fun K hK => ?ordEB)
   case' ordEA =>
    refine wp_append_run (v := .slice (some ⟨w2.heap.size, 0, none⟩) 0 0) (u := .slice hp hs.length hc) (.tmp 30) (.tmp 34) 91 rfl ?_ ?_ hA1 ?_
    ·go_simp
    ·go_simp
    try go_simp
    refine hK _ _ ?_
    clear hK K
    refine wpH.alone 11 rfl (by kernel_rfl) (by kernel_rfl) (HUP.out _ HA3.out) (fun K hK => ?_)
    go_simp
    try go_simp
    refine hK _ _ ?_
    clear hK K
    refine wpH.alone 12 rfl (by kernel_rfl) (by kernel_rfl) (HUP.out _ (Below.up HA3.out (below_alloc _ _))) (fun K hK => ?_)
    refine wp_append_run (v := .slice (some ⟨g1, 0, none⟩) hs.length c1) (u := .slice (some ⟨w3.heap.size, 0, none⟩) 1 1) (.tmp 35) (.tmp 40) 91 rfl ?_ ?_ hA5 ?_
    ·go_simp
    ·go_simp
    try go_simp
    refine hK _ _ ?_
    clear hK K
    refine wpH.tk 13 ?_
    refine wpH.tk 14 ?_
    refine wpH.alone 15 rfl (by kernel_rfl) (by kernel_rfl) (HUP.out _ HA7.out) (fun K hK => ?_)
    go_simp
    try go_simp
    refine hK _ _ ?_
    clear hK K
    refine wpH.done (by kernel_rfl) (by kernel_rfl) ?_
    obtain ⟨m1, m2, m3, m4⟩ := book_mid (G := G) (j := 2) HH2.out HCH2.out hbl HI.out HA7.out HA6.out
    generalize hW5 : w4A.setCell ⟨b, 2, none⟩ (.slice (some ⟨g2, 0, none⟩) (hs.length + 1) c2) = w5 at *
    generalize hG5 : (Value.slice (some ⟨g2, 0, none⟩) (hs.length + 1) c2) = hv5 at *
   case' ordEB =>
    go_simp
    try go_simp
    refine hK _ _ ?_
    clear hK K
    refine wpH.alone 6 rfl (by kernel_rfl) (by kernel_rfl) (HUP.out _ HBEL.out) (fun K hK => ?_)
    refine wp_append_run (v := .slice (some ⟨w2.heap.size, 0, none⟩) 0 0) (u := .slice hp hs.length hc) (.tmp 30) (.tmp 34) 91 rfl ?_ ?_ hB1 ?_
    ·go_simp
    ·go_simp
    try go_simp
    refine hK _ _ ?_
    clear hK K
    refine wpH.alone 12 rfl (by kernel_rfl) (by kernel_rfl) (HUP.out _ (HBm.out)) (fun K hK => ?_)
    refine wp_append_run (v := .slice (some ⟨gB, 0, none⟩) hs.length cB) (u := .slice (some ⟨w2.heap.size + 1, 0, none⟩) 1 1) (.tmp 35) (.tmp 40) 91 rfl ?_ ?_ hB2 ?_
    ·go_simp
    ·go_simp
    try go_simp
    refine hK _ _ ?_
    clear hK K
    refine wpH.tk 13 ?_
    refine wpH.tk 14 ?_
    refine wpH.alone 15 rfl (by kernel_rfl) (by kernel_rfl) (HUP.out _ HB4.out) (fun K hK => ?_)
    go_simp
    try go_simp
    refine hK _ _ ?_
    clear hK K
    refine wpH.done (by kernel_rfl) (by kernel_rfl) ?_
    obtain ⟨m1, m2, m3, m4⟩ := book_mid (G := G) (j := 2) HH2.out HCH2.out hbl HI.out HB4.out HB3.out
    generalize hW5 : w4B.setCell ⟨b, 2, none⟩ (.slice (some ⟨gB2, 0, none⟩) (hs.length + 1) cB2) = w5 at *
    generalize hG5 : (Value.slice (some ⟨gB2, 0, none⟩) (hs.length + 1) cB2) = hv5 at *
  case' ordL =>
   go_simp
   try go_simp
   refine hK _ _ ?_
   clear hK K
   refine wpH.alone 1 rfl (by kernel_rfl) (by kernel_rfl) (HUP.out _ HBL.out) (fun K hK => ?_)
   go_simp
   try go_simp
   refine hK _ _ ?_
   clear hK K
   refine wpH.alone 6 rfl (by kernel_rfl) (by kernel_rfl) (HUP.out _ HBLE.out) (fun K hK => ?_)
   refine wp_append_run (v := .slice (some ⟨w2.heap.size + 1, 0, none⟩) 0 0) (u := .slice hp hs.length hc) (.tmp 30) (.tmp 34) 91 rfl ?_ ?_ hC1 ?_
   ·go_simp
   ·go_simp
   try go_simp
   refine hK _ _ ?_
   clear hK K
   refine wpH.alone 12 rfl (by kernel_rfl) (by kernel_rfl) (HUP.out _ (HCm.out)) (fun K hK => ?_)
   refine wp_append_run (v := .slice (some ⟨gC, 0, none⟩) hs.length cC) (u := .slice (some ⟨w2.heap.size, 0, none⟩) 1 1) (.tmp 35) (.tmp 40) 91 rfl ?_ ?_ hC2 ?_
   ·go_simp
   ·go_simp
   try go_simp
   refine hK _ _ ?_
   clear hK K
   refine wpH.tk 13 ?_
   refine wpH.tk 14 ?_
   refine wpH.alone 15 rfl (by kernel_rfl) (by kernel_rfl) (HUP.out _ HC4.out) (fun K hK => ?_)
   go_simp
   try go_simp
   refine hK _ _ ?_
   clear hK K
   refine wpH.done (by kernel_rfl) (by kernel_rfl) ?_
   obtain ⟨m1, m2, m3, m4⟩ := book_mid (G := G) (j := 2) HH2.out HCH2.out hbl HI.out HC4.out HC3.out
   generalize hW5 : w4C.setCell ⟨b, 2, none⟩ (.slice (some ⟨gC2, 0, none⟩) (hs.length + 1) cC2) = w5 at *
   generalize hG5 : (Value.slice (some ⟨gC2, 0, none⟩) (hs.length + 1) cC2) = hv5 at *
  all_goals
   have hz5 := m3.size
   have e4' : (cs.setIfInBounds 4 (.int .i64 (last + 1)))[4]? = some (.int .i64 (last + 1)) := arr_set_get e4
   have b3 : w5.cell? ⟨b, 3, none⟩ = some (.slice tp ts.length tc) := by rw [cell_row m1, arr_set_ne (by decide), arr_set_ne (by decide)]; exact e3
   have b4 : w5.cell? ⟨b, 4, none⟩ = some (.int .i64 (last + 1)) := by rw [cell_row m1, arr_set_ne (by decide), e4']
   have h55 : IntsAt G w5 (.slice tp ts.length tc) ts := IntsAt.same H52.out fun q hq => m3.block q (by have := (hG q hq).1; have := HSZ2.out; omega) (hG q hq).2
   obtain ⟨g6, c6, w6, hT1, HT2, HT3, HT4⟩ := push_at (w := w5) (W := w5.alloc (.cells #[] 3 (0, 0))) (k := w5.heap.size) (below_alloc w5 _) (owns_empty w5 _ 1) (IntsAt.up h55 (below_alloc w5 _)) (by omega)
   have hxT : (w6.alloc (.cells #[.int .i64 t] 3 (0, 0))).cell? ⟨w6.heap.size, 0, none⟩ = some (.int .i64 t) := by rw [cell_row (heap_alloc_new w6 _)]; rfl
   obtain ⟨g7, c7, w7, hT5, HT6, HT7⟩ := push_one (w := w5) (W := w6.alloc (.cells #[.int .i64 t] 3 (0, 0))) (Below.up HT3.out (below_alloc _ _)) (ownsRow_up' HT2.out (below_alloc _ _)) w6.heap.size 0 t hxT (by omega)
   have hbl5 : b < w5.heap.size := by have := HSZ2.out; omega
   have b37 : w7.cell? ⟨b, 3, none⟩ = some (.slice tp ts.length tc) := (HT7.out.cell (p := ⟨b, 3, none⟩) hbl5).trans b3
   have z37 : w7.frozen? ⟨b, 3, none⟩ = false := (HT7.out.frozen (p := ⟨b, 3, none⟩) hbl5).trans (fz_row m1 3)
   obtain ⟨n1', n2', n3', n4'⟩ := book_mid (G := G) (j := 3) m1 m2 hbl HI2.out HT7.out HT6.out
   have b48 : (w7.setCell ⟨b, 3, none⟩ (.slice (some ⟨g7, 0, none⟩) (ts.length + 1) c7)).cell? ⟨b, 4, none⟩ = some (.int .i64 (last + 1)) := by rw [cell_row n1', arr_set_ne (by decide), arr_set_ne (by decide), e4']
   have hfin : OpenV G b T cs most last hs ts t w (.returned (.tuple #[.int .i64 (last + 1), .int .i64 0])) (w7.setCell ⟨b, 3, none⟩ (.slice (some ⟨g7, 0, none⟩) (ts.length + 1) c7)) := by
    refine .inr ⟨HDEF.out, rfl, hv5, _, n2', n1', ?_, n4'⟩
    have hzz := n3'.size
    refine SlAt.mono (E' := intE) (IntsAt.same m4 fun q hq => n3'.block q (hq.1.elim (fun h => by have := (hG q h).1; have := HSZ2.out; omega) fun h => h.2) hq.2) (fun q hq => ⟨hq.1.imp id fun h => ⟨h.1, by have := h.2; omega⟩, hq.2⟩) (fun _ _ _ h => h)
   have HFIN := Lib.hid hfin
   have HM1 := Lib.hid m1
   have HM2 := Lib.hid m2
   have HM3 := Lib.hid m3
   have HM4 := Lib.hid m4
   have HN1' := Lib.hid n1'
   have HN2' := Lib.hid n2'
   have HN3' := Lib.hid n3'
   have HN4' := Lib.hid n4'
   have H55 := Lib.hid h55
   have HZ5 := Lib.hid hz5
   have HE4' := Lib.hid e4'
   clear hfin m1 m2 m3 m4 n1' n2' n3' n4' h55 hz5 e4'
   clear hW5 hG5 hA1 hA5 hB1 hB2 hC1 hC2 fA fB fC kA kB kC hb2 hb4 hG2
   go_wp2_with (at_builtin; first | refine wpList_append_run rfl (.tmp 45) (.tmp 49) 91 rfl rfl rfl hT1 ?_ | refine wpList_append_run rfl (.tmp 50) (.tmp 52) 91 rfl rfl rfl hT5 ?_)
   go_ret2
   exact HFIN.out
end Go.Proofs
namespace Sc
open Go Go.RowKit
theorem star2 {A B : Asn} {F1 F2 : Foot} {w : World} (hd : ∀ k, F1 k → ¬ F2 k) (hA : A.P F1 w) (hB : B.P F2 w) : (StarA [A, B]).P (fun k => F1 k ∨ F2 k) w := by
 refine ⟨fun i => if i = 0 then F1 else if i = 1 then F2 else fun _ => False, fun i k hk => ?_, fun i j k hij hk hk' => ?_, fun i C hC => ?_⟩
 ·by_cases h0 : i = 0
  ·simp only [h0, if_true] at hk; exact .inl hk
  ·by_cases h1 : i = 1
   ·simp only [h1, if_true, Nat.one_ne_zero, if_false] at hk; exact .inr hk
   ·simp only [h0, h1, if_false] at hk
 ·by_cases hi0 : i = 0 <;> by_cases hj0 : j = 0
  ·exact hij (hi0.trans hj0.symm)
  ·by_cases hj1 : j = 1
   ·simp only [hi0, hj1, if_true, Nat.one_ne_zero, if_false] at hk hk'; exact hd k hk hk'
   ·simp only [hj0, hj1, if_false] at hk'
  ·by_cases hi1 : i = 1
   ·simp only [hj0, hi1, if_true, Nat.one_ne_zero, if_false] at hk hk'; exact hd k hk' hk
   ·simp only [hi0, hi1, if_false] at hk
  ·by_cases hi1 : i = 1
   ·by_cases hj1 : j = 1
    ·exact hij (hi1.trans hj1.symm)
    ·simp only [hj0, hj1, if_false] at hk'
   ·simp only [hi0, hi1, if_false] at hk
 ·match i, hC with
  | 0, hC => cases hC; exact hA
  | 1, hC => cases hC; exact hB
  | i + 2, hC => simp at hC
theorem Sep.pair {W w : World} {L : List Asn} (h : Sep W L w) (i j : Nat) (hij : i ≠ j) {A B : Asn} (hi : L[i]? = some A) (hj : L[j]? = some B) :
  ∃ F1 F2 : Foot, A.P F1 w ∧ B.P F2 w ∧ (∀ k, F1 k → ¬ F2 k) ∧ Dom F1 w ∧ Dom F2 w ∧
   ∀ w' F1' F2' (A' B' : Asn), Chg (fun k => F1 k ∨ F2 k) w w' → (∀ k, F1' k → (F1 k ∨ F2 k) ∨ New w w' k) → (∀ k, F2' k → (F1 k ∨ F2 k) ∨ New w w' k) → (∀ k, F1' k → ¬ F2' k) → A'.P F1' w' → B'.P F2' w' → Sep W ((L.set i A').set j B') w' := by
 obtain ⟨Z, hZ, hback⟩ := h.zoomN [i, j] [A, B] (by simp [hij]) rfl (fun q hq => by
  simp only [List.length_cons, List.length_nil] at hq
  rcases (show q = 0 ∨ q = 1 by omega) with rfl | rfl
  ·exact hi
  ·exact hj)
 obtain ⟨F1, F2, G, h1, h2, h3, h4, h5, h6, h7, h8, K⟩ := hZ.both 1 2 (by decide) (A := A) (B := B) rfl rfl
 refine ⟨F1, F2, h1, h2, h3, h6, h7, fun w' F1' F2' A' B' hc q1 q2 q3 q4 q5 => ?_⟩
 have hs := K w' (fun k => F1' k ∨ F2' k) (StarA [A', B']) hc (fun k hk => hk.elim (q1 k) (q2 k)) (star2 q3 q4 q5)
 have h9 := ((hs.openStar 1 rfl).erase 1).erase 1
 have := hback w' [A', B'] [] rfl h9
 rw [List.append_nil] at this
 exact this
end Sc
namespace Go.Proofs
open Go.RowKit Sc
theorem adel_rows {l : List (Int × Int)} (hn : (l.map (·.1)).Nodup) (n : Int) : (adel l n).map (·.1) = rOut (l.map (·.1)) (placeI (l.map (·.1)) n) ∧ (adel l n).map (·.2) = rOut (l.map (·.2)) (placeI (l.map (·.1)) n) := by
 rcases placeI_lt (hs := l.map (·.1)) (h := n) with hp | ⟨k, hp, hk⟩
 ·have hno : ∀ x ∈ l, x.1 ≠ n := by
   intro x hx e
   unfold placeI at hp
   cases hq : (l.map (·.1)).findIdx? (· == n) with
   | none =>
    rw [List.findIdx?_eq_none_iff] at hq
    have := hq x.1 (List.mem_map.2 ⟨x, hx, rfl⟩)
    simp [e] at this
   | some i => rw [hq] at hp; simp only at hp; omega
  rw [hp, adel_none hno]
  exact ⟨rfl, rfl⟩
 ·have hk' : k < l.length := by simpa using hk
  have hkey : l[k].1 = n := by
   unfold placeI at hp
   cases hq : (l.map (·.1)).findIdx? (· == n) with
   | none => rw [hq] at hp; simp only at hp; omega
   | some i =>
    rw [hq] at hp
    simp only at hp
    obtain rfl : i = k := by omega
    rw [List.findIdx?_eq_some_iff_getElem] at hq
    obtain ⟨hi, h1, _⟩ := hq
    simpa using h1
  rw [hp, adel_at hn (j := k) (n := n) (u := l[k].2) (by rw [List.getElem?_eq_getElem hk', ← hkey])]
  unfold rOut
  rw [if_neg (by omega), if_neg (by omega), Int.toNat_natCast, List.eraseIdx_eq_take_drop_succ]
  simp [List.map_append, List.map_take, List.map_drop]
section
variable {W w : World} {L : List Asn} {i : Nat} {c : RmC} {s : MgS}
theorem rx_store (h : Sep W (OL L i (rmItems c s)) w) (hc : c.cs.length = s.txs.length) {k : Nat} (hk : k < s.txs.length) (hkc : k < c.cs.length) (j : Nat) (u : Value) (t' : TxS) (he : (rxRow c.cs[k] s.txs[k]).setIfInBounds j u = rxRow c.cs[k] t') (e2 : t'.S = s.txs[k].S) (e3 : t'.R = s.txs[k].R) (e4 : t'.at' = s.txs[k].at') :
  Sep W (OL L i (rmItems c { s with txs := s.txs.set k t' })) (w.setCell ⟨c.cs[k].tb, j, none⟩ u) := by
 have h1 := h.box_store (cs := rxRow c.cs[k] s.txs[k]) (L.length + (4 + (3 * k + 0))) (OL_get.trans (ritems_tx hc hk 0 (by omega))) j u
 rw [he, OL_set, ritems_upd hc hk c.cs[k] t' rfl 0 (by omega) (BoxA c.cs[k].tb (rxRow c.cs[k] t') 152) (by
  have ev : RViewA c.cs[k].vb (pt c.m) (pt c.cs[k].bb) t'.at' t'.S t'.R = RViewA c.cs[k].vb (pt c.m) (pt c.cs[k].bb) s.txs[k].at' s.txs[k].S s.txs[k].R := by rw [e2, e3, e4]
  show [_, _, _] = [_, _, _]
  rw [ev]
  all_goals rfl), RmC.setX_self hkc] at h1
 exact h1
theorem rx_fz (h : Sep W (OL L i (rmItems c s)) w) (hc : c.cs.length = s.txs.length) {k : Nat} (hk : k < s.txs.length) (hkc : k < c.cs.length) (j : Nat) : w.frozen? ⟨c.cs[k].tb, j, none⟩ = false := frozen_row0 (rx_heap h hc hk) j
theorem rm_book (h : Sep W (OL L i (rmItems c s)) w) : ∃ G : Nat → Prop, c.mb < w.heap.size ∧ (∀ q, G q → q < w.heap.size ∧ q ≠ c.mb) ∧ IntsAt G w c.hv (s.tmb.map (·.1)) ∧ IntsAt G w c.tv (s.tmb.map (·.2)) ∧ QAt G w c.qv c.ql ∧ IntsAt G w c.qh s.queue ∧
  ∀ (w' : World) (c' : RmC) (s' : MgS), c'.mb = c.mb → c'.m = c.m → c'.M = c.M → c'.Tv = c.Tv → c'.cs = c.cs → s'.blocks = s.blocks → s'.last0 = s.last0 → s'.txs = s.txs → Chg (fun q => q = c.mb) w w' → w'.heap[c.mb]? = some (.cells (rmRow c' s') 96 (0, 0)) →
   IntsAt (fun q => (G q ∨ New w w' q) ∧ q ≠ c.mb) w' c'.hv (s'.tmb.map (·.1)) → IntsAt (fun q => (G q ∨ New w w' q) ∧ q ≠ c.mb) w' c'.tv (s'.tmb.map (·.2)) → QAt (fun q => (G q ∨ New w w' q) ∧ q ≠ c.mb) w' c'.qv c'.ql → IntsAt (fun q => (G q ∨ New w w' q) ∧ q ≠ c.mb) w' c'.qh s'.queue →
   Sep W (OL L i (rmItems c' s')) w' := by
 obtain ⟨F1, F2, h1, h2, h3, h4, h5, K⟩ := h.pair (L.length + 0) (L.length + 2) (by omega) (OL_get.trans (ritems_head 0 (by omega))) (OL_get.trans (ritems_head 2 (by omega)))
 refine ⟨F2, h4 _ h1.1, fun q hq => ⟨h5 q hq, fun e => h3 _ h1.1 (e ▸ hq)⟩, h2.1, h2.2.1, h2.2.2.1, h2.2.2.2, ?_⟩
 intro w' c' s' m1 m2 m3 m4 m5 s1 s2 s3 hc hh q1 q2 q3 q4
 have := K w' (fun q => q = c.mb) (fun q => (F2 q ∨ New w w' q) ∧ q ≠ c.mb) (BoxA c'.mb (rmRow c' s') 96) (ImA c'.hv c'.tv c'.qv c'.qh (s'.tmb.map (·.1)) (s'.tmb.map (·.2)) c'.ql s'.queue)
  (hc.mono fun k _ hk => by rw [hk]; exact .inl h1.1) (fun k hk => by rw [hk]; exact .inl (.inl h1.1)) (fun k hk => hk.1.elim (fun h => .inl (.inr h)) .inr) (fun k hk hk' => hk'.2 hk) ⟨m1, by rw [m1]; exact hh⟩ ⟨q1, q2, q3, q4⟩
 rw [OL_set, OL_set] at this
 have e : ((rmItems c s).set 0 (BoxA c'.mb (rmRow c' s') 96)).set 2 (ImA c'.hv c'.tv c'.qv c'.qh (s'.tmb.map (·.1)) (s'.tmb.map (·.2)) c'.ql s'.queue) = rmItems c' s' := by
  unfold rmItems rmHead rxList
  rw [m2, m3, m4, m5, s1, s2, s3]
  rfl
 rwa [e] at this
theorem txAt_nat {l : List TxS} {k : Nat} (hk : k < l.length) : txAt l ((k : Int) + 1) = l[k] := by
 unfold txAt
 rw [show ((k : Int) + 1 - 1).toNat = k by omega, List.getElem?_eq_getElem hk]; rfl
def rendTx (t : TxS) (st tm cd : Int) : TxS := { t with st := st, tm := tm, cd := cd }
def rendNext (s : MgS) (k : Nat) (t : TxS) : MgS := { s with txs := s.txs.set k t, tmb := adel s.tmb ((k : Int) + 1) }
set_option maxRecDepth 100000 in
set_option maxHeartbeats 4000000 in
theorem rend_core (h : Hid (Sep W (OL L i (rmItems c s)) w)) (hc : c.cs.length = s.txs.length) {k : Nat} (hks : k < s.txs.length) (hkn : k < 1000000) (hn : (s.tmb.map (·.1)).Nodup) (hl : s.tmb.length ≤ 16) (st tm cd : Int) :
  Calls Tryz.prog 123 #[.pointer (some ⟨c.mb, 0, none⟩), .int .i64 ((k : Int) + 1), .int .i64 st, .int .i64 tm, .int .i64 cd] w fun e w' => e = .returned (.tuple #[]) ∧ ∃ hv tv, Hid (Sep W (OL L i (rmItems { c with hv := hv, tv := tv } (rendNext s k (rendTx s.txs[k] st tm cd)))) w') := by
 have hkc : k < c.cs.length := by omega
 obtain ⟨p, cp, hTv, hrow⟩ := rm_row h.out hc
 obtain ⟨g, rfl, hck⟩ := hrow k hks hkc
 have c5 : w.cell? ⟨c.mb, 5, none⟩ = some (.slice (some ⟨g, 0, none⟩) s.txs.length cp) := by rw [rm_cell h.out, ← hTv]; rfl
 have t0 := rx_cell h.out hc hks 0
 have t1 := rx_cell h.out hc hks 1
 have t2 := rx_cell h.out hc hks 2
 change _ = some (Value.int .i64 s.txs[k].st) at t0
 change _ = some (Value.int .i64 s.txs[k].tm) at t1
 change _ = some (Value.int .i64 s.txs[k].cd) at t2
 have f0 := rx_fz h.out hc hks hkc 0
 have f1 := rx_fz h.out hc hks hkc 1
 have f2 := rx_fz h.out hc hks hkc 2
 have hS1 := rx_store h.out hc hks hkc 0 (Value.int .i64 st) { s.txs[k] with st := st } rfl rfl rfl rfl
 have hc1 : c.cs.length = (s.txs.set k { s.txs[k] with st := st }).length := by rw [hc, List.length_set]
 have hS2 := rx_store hS1 hc1 (k := k) (by simpa using hks) hkc 1 (Value.int .i64 tm) { s.txs[k] with st := st, tm := tm } (by simp [rxRow]) (by simp) (by simp) (by simp)
 simp only [List.set_set] at hS2
 have hc2 : c.cs.length = (s.txs.set k { s.txs[k] with st := st, tm := tm }).length := by rw [hc, List.length_set]
 have hS3 := rx_store hS2 hc2 (k := k) (by simpa using hks) hkc 2 (Value.int .i64 cd) { s.txs[k] with st := st, tm := tm, cd := cd } (by simp [rxRow]) (by simp) (by simp) (by simp)
 simp only [List.set_set] at hS3
 obtain ⟨W3, hW3⟩ : ∃ W3, ((w.setCell ⟨c.cs[k].tb, 0, none⟩ (.int .i64 st)).setCell ⟨c.cs[k].tb, 1, none⟩ (.int .i64 tm)).setCell ⟨c.cs[k].tb, 2, none⟩ (.int .i64 cd) = W3 := ⟨_, rfl⟩
 rw [hW3] at hS3
 obtain ⟨G, hbl, hG, h4, h5, h6, h7, K⟩ := rm_book hS3
 have hcl := refCloseV (rm_heap hS3) (hv := c.hv) (tv := c.tv) rfl rfl h4 h5 hbl hG ((k : Int) + 1) (by simp; omega) (by simp)
 obtain ⟨r1, r2⟩ := adel_rows hn ((k : Int) + 1)
 have HK : Hid (∀ (w' : World) (hv tv : Value), Chg (fun q => q = c.mb) W3 w' → w'.heap[c.mb]? = some (.cells (((rmRow c { s with txs := s.txs.set k { s.txs[k] with st := st, tm := tm, cd := cd } }).setIfInBounds 2 hv).setIfInBounds 3 tv) 96 (0, 0)) → IntsAt (fun q => (G q ∨ New W3 w' q) ∧ q ≠ c.mb) w' hv (rOut (s.tmb.map (·.1)) (placeI (s.tmb.map (·.1)) ((k : Int) + 1))) → IntsAt (fun q => (G q ∨ New W3 w' q) ∧ q ≠ c.mb) w' tv (rOut (s.tmb.map (·.2)) (placeI (s.tmb.map (·.1)) ((k : Int) + 1))) → Sep W (OL L i (rmItems { c with hv := hv, tv := tv } (rendNext s k (rendTx s.txs[k] st tm cd)))) w') := by
  refine Lib.hid fun w' hv tv q1 q2 q3 q4 => K w' { c with hv := hv, tv := tv } (rendNext s k (rendTx s.txs[k] st tm cd)) rfl rfl rfl rfl rfl rfl rfl rfl q1 q2 ?_ ?_ ?_ ?_
  ·rw [← r1] at q3; exact q3
  ·rw [← r2] at q4; exact q4
  ·exact SlAt.mono (E' := qE) (SlAt.same h6 (q1.same fun q hq => ⟨(hG q hq).1, (hG q hq).2⟩) (qE_stable G)) (fun q hq => ⟨.inl hq, (hG q hq).2⟩) (fun _ _ _ h => h)
  ·exact SlAt.mono (E' := intE) (IntsAt.same h7 (q1.same fun q hq => ⟨(hG q hq).1, (hG q hq).2⟩)) (fun q hq => ⟨.inl hq, (hG q hq).2⟩) (fun _ _ _ h => h)
 have HCL := Lib.hid hcl
 have hw1 : IntKind.i64.wrap ((k : Int) + 1 - 1) = (k : Int) := by rw [IntWalk.i64_in _ (by omega)]; omega
 have hw2 : (k : Int) + 1 - 1 = k := by omega
 have hkI : (k : Int) < (s.txs.length : Int) := by omega
 clear hcl hrow hS1 hS2 hS3 h4 h5 h6 h7 K r1 r2 hn hl
 subst hW3
 generalize (c.cs[k]).tb = tb at *
 clear hc1 hc2
 go_enter Tryz.func123, Tryz.ntmps123
 go_wp2_with fail
 refine (HCL.out).mono ?_
 rintro e w' ⟨rfl, hv, tv, q1, q2, q3, q4⟩
 have HS := Lib.hid (HK.out w' hv tv q1.out q2 q3.out q4.out)
 clear q1 q2 q3 q4
 go_wp2
 go_end0
 exact ⟨rfl, hv, tv, HS⟩
end
end Go.Proofs
namespace Go.Proofs
open Go.RowKit Sc
section
variable {W w : World} {L : List Asn} {i : Nat} {c : RmC} {s : MgS}
theorem RmOk.ends (hc : RmOk c s) {k : Nat} (hk : k < s.txs.length) (st tm cd : Int) (hq1 : ∀ h ∈ s.queue, 1 ≤ h) (hq : ∀ h ∈ s.queue, h ≠ (k : Int) + 1) (hv tv : Value) : RmOk { c with hv := hv, tv := tv } (rendNext s k (rendTx s.txs[k] st tm cd)) := by
 have hkc : k < c.cs.length := by rw [hc.len]; exact hk
 have h1 := hc.upd hk c.cs[k] (rendTx s.txs[k] st tm cd) (hc.bufr k hk hkc) hq1 (fun x hx e => absurd e (hq x hx))
 rw [RmC.setX_self hkc] at h1
 exact ⟨h1.len, h1.mapr, h1.bufr, h1.ql⟩
set_option maxRecDepth 100000 in
set_option maxHeartbeats 2000000 in
theorem rabort_core (h : Hid (Sep W (OL L i (rmItems c s)) w)) (hc : RmOk c s) {N : Nat} (g : MgG N s) (hN : N ≤ 400000) (n : Int) (iN : I64 n) :
  Calls Tryz.prog 83 #[.pointer (some ⟨c.mb, 0, none⟩), .int .i64 n] w fun e w' => e = .returned (.int .i64 (abCode s n)) ∧ ∃ c' : RmC, c'.mb = c.mb ∧ RmOk c' (abNext s n) ∧ Hid (Sep W (OL L i (rmItems c' (abNext s n))) w') := by
 have HC := Lib.hid hc
 have HG := Lib.hid g
 go_enter Tryz.func83, Tryz.ntmps83
 go_wp2_with fail
 refine (ropen_core h hc (by have := g.hn; omega) n iN).mono ?_
 clear hc g
 rintro e w1 ⟨rfl, ⟨ho, rfl⟩ | ⟨k, hks, hkc, rfl, hst, rfl⟩⟩
 ·have HO : Hid (abCode s n = 5 ∧ abNext s n = s) := ⟨by unfold abCode; rw [ho]; rfl, by unfold abNext; rw [ho]; rfl⟩
  clear ho
  go_wp2
  go_ret
  exact ⟨by rw [HO.out.1]; rfl, c, rfl, by rw [HO.out.2]; exact HC.out, by rw [HO.out.2]; exact h⟩
 ·have ho : openB s ((k : Int) + 1) = true := by rw [openB_at hks, hst]; rfl
  have HO : Hid (abCode s ((k : Int) + 1) = 0 ∧ abNext s ((k : Int) + 1) = rendNext s k (rendTx s.txs[k] 4 0 0)) := ⟨by unfold abCode; rw [ho]; rfl, by
   unfold abNext endNext
   rw [ho, txOf_at hks, setTx_at]; rfl⟩
  have hqn : ∀ x ∈ s.queue, x ≠ (k : Int) + 1 := fun x hx e => by
   have := (HG.out.qp x hx).1
   rw [e, txAt_nat hks, hst] at this
   omega
  have HF := Lib.hid (fun hv tv => HC.out.ends hks 4 0 0 (fun x hx => (HG.out.qr x hx).1) hqn hv tv)
  have HW := Lib.hid (rend_core h HC.out.len hks (by have := HG.out.hn; omega) HG.out.kn HG.out.k6 4 0 0)
  clear ho hst hqn
  go_wp2_with fail
  refine (HW.out).mono ?_
  rintro e w2 ⟨rfl, hv, tv, HS2⟩
  clear HW
  go_wp2
  go_ret
  exact ⟨by rw [HO.out.1]; rfl, { c with hv := hv, tv := tv }, rfl, by rw [HO.out.2]; exact HF.out hv tv, by rw [HO.out.2]; exact HS2⟩
end
end Go.Proofs
namespace Go.Proofs
open Go.RowKit Sc
theorem Sep.boxN {W w : World} {L : List Asn} (h : Sep W L w) (cs : Array Value) (T : TypeId) : Sep W (L ++ [BoxA w.heap.size cs T]) (w.alloc (.cells cs T (0, 0))) :=
 h.new (below_alloc w _) (BoxA w.heap.size cs T) (F := New w (w.alloc (.cells cs T (0, 0)))) (fun _ h => h) ⟨⟨Nat.le_refl _, by simp⟩, heap_alloc_new w _⟩
theorem refMapNewN {W w : World} {L : List Asn} (h : Hid (Sep W L w)) (n : Int) (h1 : 1 ≤ n) (h2 : n ≤ 1048576) : Calls Tryz.prog 78 #[.int .i64 n] w fun e w' => ∃ x : Nat, e = .returned (.tuple #[.pointer (some ⟨x, 0, none⟩), .int .i64 0]) ∧ Hid (Sep W (L ++ [BoxA x #[.int .i64 n, .slice none 0 0, .int .i64 0] 147]) w') := by
 have hS := Go.Proofs.Sep.boxN h.out #[.int .i64 n, .slice none 0 0, .int .i64 0] 147
 have HS := Lib.hid hS
 clear hS
 go_enter Tryz.func78, Tryz.ntmps78
 go_wp2
 go_ret2
 exact ⟨w.heap.size, rfl, HS.out⟩
theorem refBufNewN {W w : World} {L : List Asn} (h : Hid (Sep W L w)) (n m : Int) (h1 : 1 ≤ n) (h2 : n ≤ 1048576) (h3 : 0 ≤ m) : Calls Tryz.prog 118 #[.int .i64 n, .int .i64 m] w fun e w' => ∃ x : Nat, e = .returned (.tuple #[.pointer (some ⟨x, 0, none⟩), .int .i64 0]) ∧ Hid (Sep W (L ++ [BoxA x #[.int .i64 n, .int .i64 m, .slice none 0 0] 159]) w') ∧ Hid (Below w.heap.size w w') := by
 have hS := Go.Proofs.Sep.boxN h.out #[.int .i64 n, .int .i64 m, .slice none 0 0] 159
 have hb := below_alloc w (.cells #[.int .i64 n, .int .i64 m, .slice none 0 0] 159)
 have HS := Lib.hid hS
 have HB := Lib.hid hb
 clear hS hb
 go_enter Tryz.func118, Tryz.ntmps118
 go_wp2
 go_ret2
 exact ⟨w.heap.size, rfl, HS.out, HB.out⟩
theorem refViewNewN {W w : World} {L : List Asn} (h : Hid (Sep W L w)) (x y : Nat) (t : Int) : Calls Tryz.prog 119 #[.pointer (some ⟨x, 0, none⟩), .pointer (some ⟨y, 0, none⟩), .int .i64 t] w fun e w' => ∃ z : Nat, e = .returned (.pointer (some ⟨z, 0, none⟩)) ∧ Hid (Sep W (L ++ [BoxA z #[.pointer (some ⟨x, 0, none⟩), .pointer (some ⟨y, 0, none⟩), .int .i64 t, .int .i64 64, .slice none 0 0, .slice none 0 0] 157]) w') ∧ Hid (Below w.heap.size w w') := by
 have hS := Go.Proofs.Sep.boxN h.out #[.pointer (some ⟨x, 0, none⟩), .pointer (some ⟨y, 0, none⟩), .int .i64 t, .int .i64 64, .slice none 0 0, .slice none 0 0] 157
 have hb := below_alloc w (.cells #[.pointer (some ⟨x, 0, none⟩), .pointer (some ⟨y, 0, none⟩), .int .i64 t, .int .i64 64, .slice none 0 0, .slice none 0 0] 157)
 have HS := Lib.hid hS
 have HB := Lib.hid hb
 clear hS hb
 go_enter Tryz.func119, Tryz.ntmps119
 go_wp2
 go_ret
 exact ⟨w.heap.size, rfl, HS.out, HB.out⟩
end Go.Proofs
namespace Sc
open Go Go.RowKit
theorem Sep.rev3 {W : World} {M : List Asn} {a b c : Asn} {w : World} (h : Sep W (M ++ [a, b, c]) w) : Sep W (M ++ [c, b, a]) w := by
 refine h.sub (fun i => if i < M.length then i else if i = M.length then M.length + 2 else if i = M.length + 1 then i else M.length) ?_ ?_
 ·intro i j hi hj
  rw [List.length_append] at hi hj
  simp only [List.length_cons, List.length_nil] at hi hj
  intro he
  split at he <;> split at he <;> (try split at he) <;> (try split at he) <;> (try split at he) <;> (try split at he) <;> omega
 ·intro i A hA
  by_cases hi : i < M.length
  ·rw [List.getElem?_append_left hi] at hA
   simp only [hi, if_true]
   rw [List.getElem?_append_left hi]; exact hA
  ·obtain ⟨j, rfl⟩ : ∃ j, i = M.length + j := ⟨i - M.length, by omega⟩
   rw [List.getElem?_append_right (by omega), Nat.add_sub_cancel_left] at hA
   simp only [hi, if_false]
   match j with
   | 0 => simpa using hA
   | 1 => rw [if_neg (by omega), if_pos rfl, List.getElem?_append_right (by omega), show M.length + 1 - M.length = 1 by omega]; exact hA
   | 2 => rw [if_neg (by omega), if_neg (by omega), List.getElem?_append_right (by omega), Nat.sub_self]; exact hA
   | j + 3 => cases hA
end Sc
namespace Go.Proofs
open Go.RowKit Sc
theorem infoTxP : (Tryz.prog.info? 148).map (fun i => (i.zero, i.size, i.bytes)) = some (some (.pointer none), 1, 8) := by kernel_rfl
section
variable {W w : World} {L : List Asn} {i : Nat} {c : RmC} {s : MgS}
theorem ritems_add {Tv : Value} (hc : c.cs.length = s.txs.length) (x : RxC) (t : TxS) {B R : Asn} (hB : B = BoxA c.mb (rmRow { c with Tv := Tv } s) 96) (hR : R = RowA 148 1 Tv (c.cs.length + 1) ((c.cs.map fun x => pt x.tb) ++ [pt x.tb])) :
  ((rmItems c s ++ rxItems c.m s.blocks x t).set 3 R).set 0 B = rmItems { c with Tv := Tv, cs := c.cs ++ [x] } { s with txs := s.txs ++ [t] } := by
 subst hB
 subst hR
 have e : rxList { c with Tv := Tv, cs := c.cs ++ [x] } { s with txs := s.txs ++ [t] } = rxList c s ++ [rxItems c.m s.blocks x t] := by
  unfold rxList
  rw [List.zipWith_append hc]; rfl
 unfold rmItems
 rw [e, List.flatten_append]
 have e2 : RowA 148 1 Tv (c.cs.length + 1) ((c.cs.map fun x => pt x.tb) ++ [pt x.tb]) = RowA 148 1 Tv (c.cs ++ [x]).length ((c.cs ++ [x]).map fun x => pt x.tb) := by simp
 rw [e2]
 simp [rmHead, rmRow]
theorem RmOk.begin (hc : RmOk c s) (g1 : ∀ h ∈ s.queue, 1 ≤ h ∧ h ≤ s.txs.length) (hv tv Tv : Value) (tb vb bb : Nat) (lh : Int) (tmb : List (Int × Int)) (at_ : Int) : RmOk { c with hv := hv, tv := tv, Tv := Tv, cs := c.cs ++ [⟨tb, vb, bb, .slice none 0 0, []⟩] } { s with lastH := lh, tmb := tmb, txs := s.txs ++ [⟨1, 0, 0, at_, [], [], []⟩] } := by
 refine ⟨by simp [hc.len], hc.mapr, fun k hk hk' => ?_, ?_⟩
 ·simp only
  by_cases hkl : k < s.txs.length
  ·have := hc.bufr k hkl (by rw [hc.len]; exact hkl)
   rw [List.getElem_append_left hkl, List.getElem_append_left (by rw [hc.len]; exact hkl)]
   exact this
  ·have e : k = s.txs.length := by simp at hk; omega
   subst e
   rw [List.getElem_append_right (by omega), List.getElem_append_right (by rw [hc.len]; omega)]
   simp only [Nat.sub_self, hc.len, List.getElem_cons_zero]
   exact BufR.start
 ·show c.ql = s.queue.map fun h => ((txAt (s.txs ++ [_]) h).tm, (rxAt (c.cs ++ [_]) h).lv)
  rw [hc.ql]
  refine List.map_congr_left fun h hh => ?_
  obtain ⟨h1, h2⟩ := g1 h hh
  rw [txAt_snoc _ h1, if_neg (by omega)]
  unfold rxAt
  rw [List.getElem?_append_left (by rw [hc.len]; omega)]
theorem rx_new {M : List Asn} {m bb vb tb : Nat} {blocks at_ : Int} (h : Sep W (M ++ [BoxA bb #[.int .i64 blocks, .int .i64 16, .slice none 0 0] 159, BoxA vb #[.pointer (some ⟨m, 0, none⟩), .pointer (some ⟨bb, 0, none⟩), .int .i64 at_, .int .i64 64, .slice none 0 0, .slice none 0 0] 157, BoxA tb #[.int .i64 1, .int .i64 0, .int .i64 0, .pointer (some ⟨vb, 0, none⟩), .pointer (some ⟨bb, 0, none⟩)] 152]) w) :
  Sep W (M ++ rxItems m blocks ⟨tb, vb, bb, .slice none 0 0, []⟩ ⟨1, 0, 0, at_, [], [], []⟩) w := by
 have h1 := h.imp M.length (A := BoxA bb #[.int .i64 blocks, .int .i64 16, .slice none 0 0] 159) (A' := RBufLA bb blocks 16 (.slice none 0 0) []) (by rw [List.getElem?_append_right (Nat.le_refl _), Nat.sub_self]; rfl) (fun F _ hF => ⟨hF.1, hF.2, SlAt.nil⟩)
 rw [List.set_append_right _ _ (Nat.le_refl _), Nat.sub_self] at h1
 have h2 := h1.imp (M.length + 1) (A := BoxA vb #[.pointer (some ⟨m, 0, none⟩), .pointer (some ⟨bb, 0, none⟩), .int .i64 at_, .int .i64 64, .slice none 0 0, .slice none 0 0] 157) (A' := RViewA vb (pt m) (pt bb) at_ [] []) (by rw [List.getElem?_append_right (by omega), Nat.add_sub_cancel_left]; rfl) (fun F _ hF => ⟨.slice none 0 0, .slice none 0 0, fun _ => False, hF.1, hF.2, SlAt.nil, OutS.nil, fun g hg => by simp [Value.ownBlock] at hg, fun q h => h.elim⟩)
 rw [List.set_append_right _ _ (by omega), Nat.add_sub_cancel_left] at h2
 exact h2.rev3
set_option maxRecDepth 100000 in
set_option maxHeartbeats 4000000 in
theorem rbegin_core (h : Hid (Sep W (OL L i (rmItems c s)) w)) (hc : RmOk c s) {N : Nat} (g : MgG N s) (hN : N ≤ 400000) :
  Calls Tryz.prog 79 #[.pointer (some ⟨c.mb, 0, none⟩)] w fun e w' => e = .returned (.tuple #[.int .i64 (begH s), .int .i64 (begC s)]) ∧ ∃ c' : RmC, c'.mb = c.mb ∧ RmOk c' (begNext s) ∧ Hid (Sep W (OL L i (rmItems c' (begNext s))) w') := by
 have HC := Lib.hid hc
 have HG := Lib.hid g
 have hd := h.out.up (below_drewN (Below.refl w.heap.size w) 1)
 have c11 : w.cell? ⟨c.mb, 11, none⟩ = some (.int .i64 s.last) := by rw [rm_cell h.out]; rfl
 obtain ⟨G, hbl, hG, h4, h5, h6, h7, K⟩ := rm_book hd
 have hkd := g.kd
 have hlen := g.hn
 have hhh := g.hh
 have hlt := g.lt
 have hk6 := g.k6
 have hop := refOpenV (rm_heap hd) (most := 16) (last := s.lastH) (hv := c.hv) (tv := c.tv) rfl rfl rfl rfl h4 h5 hbl hG s.last (by omega) (by omega) (by rw [List.length_map]; omega) (by rw [List.length_map]; omega) (by unfold I64; omega)
 have hoc : rOpen 16 (s.tmb.map (·.1)).length s.last = begC s := by unfold rOpen begC OpenOk; rw [List.length_map]
 have HK : Hid (∀ (w' : World) (hv tv : Value), Chg (fun q => q = c.mb) w.drew w' → w'.heap[c.mb]? = some (.cells ((((rmRow c s).setIfInBounds 4 (.int .i64 (s.lastH + 1))).setIfInBounds 2 hv).setIfInBounds 3 tv) 96 (0, 0)) → IntsAt (fun q => (G q ∨ New w.drew w' q) ∧ q ≠ c.mb) w' hv (s.tmb.map (·.1) ++ [s.lastH + 1]) → IntsAt (fun q => (G q ∨ New w.drew w' q) ∧ q ≠ c.mb) w' tv (s.tmb.map (·.2) ++ [s.last]) →
   Sep W (OL L i (rmItems { c with hv := hv, tv := tv } { s with lastH := s.lastH + 1, tmb := s.tmb ++ [(s.lastH + 1, s.last)] })) w') := by
  refine Lib.hid fun w' hv tv q1 q2 q3 q4 => K w' { c with hv := hv, tv := tv } { s with lastH := s.lastH + 1, tmb := s.tmb ++ [(s.lastH + 1, s.last)] } rfl rfl rfl rfl rfl rfl rfl rfl q1 q2 ?_ ?_ ?_ ?_
  ·simp only [List.map_append, List.map_cons, List.map_nil]; exact q3
  ·simp only [List.map_append, List.map_cons, List.map_nil]; exact q4
  ·exact SlAt.mono (E' := qE) (SlAt.same h6 (q1.same fun q hq => ⟨(hG q hq).1, (hG q hq).2⟩) (qE_stable G)) (fun q hq => ⟨.inl hq, (hG q hq).2⟩) (fun _ _ _ h => h)
  ·exact SlAt.mono (E' := intE) (IntsAt.same h7 (q1.same fun q hq => ⟨(hG q hq).1, (hG q hq).2⟩)) (fun q hq => ⟨.inl hq, (hG q hq).2⟩) (fun _ _ _ h => h)
 have hfollow : Tryz.prog.follows Departure.mixedOrders = true := by kernel_rfl
 have HOP := Lib.hid hop
 have HOC := Lib.hid hoc
 have HD := Lib.hid hd
 clear hop hoc hd
 clear h4 h5 h6 h7 K hkd hlen hhh hlt hk6 hc g
 go_enter Tryz.func79, Tryz.ntmps79
 go_upto_region 1 with fail
 refine wp_regionG (fun W => W.cell? ⟨c.mb, 11, none⟩ = some (.int .i64 s.last)) (n := 13) (by kernel_rfl) (by kernel_rfl) ?_
 refine wpG.tk 0 ?_
 refine wpG.tk 1 ?_
 refine wpG.tk 2 ?_
 refine wpG.tk 3 ?_
 refine wpG.tk 4 ?_
 refine wpG.tk 5 ?_
 refine wpG.tk 6 ?_ (hy := by intro W hW; have hld0 := hW; go_simp; try with_reducible rfl)
 refine wpG.alone 7 rfl (by kernel_rfl) (by kernel_rfl) (c11) (fun K hK => ?_)
 go_simp
 go_at_call 117
 refine (HOP.out).mono ?_
 rintro e w2 hor
 rcases hor with ⟨hne, rfl, HB2⟩ | ⟨h0, rfl, hv, tv, q1, q2, q3, q4⟩
 case inl =>
  rw [HOC.out] at hne ⊢
  have hbc := cell_up HB2.out (show w.drew.cell? ⟨c.mb, 11, none⟩ = _ from c11)
  have HS2 := Lib.hid (HD.out.up HB2.out)
  have HN : Hid (begH s = 0 ∧ begNext s = s) := Lib.hid ⟨if_neg hne, if_neg hne⟩
  obtain ⟨code, hcode⟩ : ∃ code, begC s = code := ⟨_, rfl⟩
  rw [hcode] at hne ⊢
  have hcz : (code != 0) = true := by rw [bne_iff_ne]; exact hne
  try go_simp
  refine hK _ _ ?_
  clear hK K
  refine wpG.tk 8 ?_
  refine wpG.tk 9 ?_
  refine wpG.tk 10 ?_
  refine wpG.tk 11 ?_
  refine wpG.tk 12 ?_
  refine wpG.done (by kernel_rfl) hbc ?_
  have HNE := Lib.hid hne
  have HCODE := Lib.hid hcode
  clear hne hcode
  go_wp2_with fail
  go_ret2
  exact ⟨by rw [HN.out.1, HCODE.out]; rfl, c, rfl, by rw [HN.out.2]; exact HC.out, by rw [HN.out.2]; exact HS2⟩
 case inr =>
  rw [HOC.out] at h0
  have hs2 := HK.out w2 hv tv q1.out q2 q3.out q4.out
  have HN : Hid (begC s = 0 ∧ begH s = s.lastH + 1 ∧ begNext s = { s with lastH := s.lastH + 1, tmb := s.tmb ++ [(s.lastH + 1, s.last)], txs := s.txs ++ [⟨1, 0, 0, s.last, [], [], []⟩] }) := Lib.hid ⟨h0, if_pos h0, if_pos h0⟩
  obtain ⟨c1, hc1⟩ : ∃ c1 : RmC, c1 = { c with hv := hv, tv := tv } := ⟨_, rfl⟩
  obtain ⟨s1, hs1⟩ : ∃ s1 : MgS, s1 = { s with lastH := s.lastH + 1, tmb := s.tmb ++ [(s.lastH + 1, s.last)] } := ⟨_, rfl⟩
  rw [← hc1, ← hs1] at hs2
  have e11 : w2.cell? ⟨c.mb, 11, none⟩ = some (.int .i64 s.last) := by have := rm_cell hs2 11; rw [hc1, hs1] at this; exact this
  have e13 : w2.cell? ⟨c.mb, 13, none⟩ = some (.int .i64 s.blocks) := by have := rm_cell hs2 13; rw [hc1, hs1] at this; exact this
  have HS2 := Lib.hid hs2
  have HC1 := Lib.hid hc1
  have HS1 := Lib.hid hs1
  clear hs2 q1 q2 q3 q4 h0 hc1 hs1
  try go_simp
  refine hK _ _ ?_
  clear hK K
  refine wpG.tk 8 ?_
  refine wpG.tk 9 ?_
  refine wpG.tk 10 ?_
  refine wpG.tk 11 ?_
  refine wpG.tk 12 ?_
  refine wpG.done (by kernel_rfl) e11 ?_
  go_wp2_with fail
  refine (refBufNewN HS2 s.blocks 16 HG.out.b1 HG.out.b2 (by omega)).mono ?_
  rintro e w3 ⟨bb, rfl, HS3, HB3⟩
  have hs4 := HS3.out.up (below_drewN (Below.refl w3.heap.size w3) 1)
  rw [OL_app] at hs4
  have hs3' := HS3.out
  rw [OL_app] at hs3'
  have hcell : ∀ (Cs : List Asn) (Wx : World), Sep W (OL L i (rmItems c1 s1 ++ Cs)) Wx → Wx.cell? ⟨c.mb, 0, none⟩ = some (.pointer (some ⟨c.m, 0, none⟩)) ∧ Wx.cell? ⟨c.mb, 5, none⟩ = some c.Tv ∧ Wx.cell? ⟨c.mb, 11, none⟩ = some (.int .i64 s.last) := fun Cs Wx hx => by
   have hx' : Sep W (OL L i (rmItems c1 s1)) Wx := by rw [← OL_app] at hx; exact hx.front
   have e1 := rm_cell hx' 0
   have e2 := rm_cell hx' 5
   have e3 := rm_cell hx' 11
   rw [HC1.out, HS1.out] at e1 e2 e3
   exact ⟨e1, e2, e3⟩
  have hk3 := hcell _ _ hs3'
  obtain ⟨Tp, Tc, hTv, hrow⟩ := rm_row (by rw [← OL_app] at hs3'; exact hs3'.front) (by rw [HC1.out, HS1.out]; exact HC.out.len)
  have hTv2 : c.Tv = .slice Tp s.txs.length Tc := by rw [HC1.out, HS1.out] at hTv; exact hTv
  have HVN := Lib.hid (refViewNewN (Lib.hid hs4) c.m bb s.last)
  have HTV := Lib.hid hTv2
  have HS4 := Lib.hid hs4
  have HCELL := Lib.hid hcell
  have HS3' := Lib.hid hs3'
  clear hs4 hcell hs3'
  clear hrow hTv hTv2
  go_upto_region 5 with fail
  refine wp_regionH (fun W => W.cell? ⟨c.mb, 0, none⟩ = some (.pointer (some ⟨c.m, 0, none⟩)) ∧ W.cell? ⟨c.mb, 5, none⟩ = some c.Tv ∧ W.cell? ⟨c.mb, 11, none⟩ = some (.int .i64 s.last)) (n := 23) (by kernel_rfl) (by kernel_rfl) ?_
  refine wpH.tk 0 ?_
  refine wpH.tk 1 ?_
  refine wpH.tk 2 ?_
  refine wpH.tk 3 ?_
  refine wpH.tk 4 ?_ (hy := by intro W hW; have hld0 := hW.2.1; go_simp; try with_reducible rfl)
  refine wpH.tk 5 ?_
  refine wpH.tk 6 ?_
  refine wpH.tk 7 ?_
  refine wpH.tk 8 ?_
  refine wpH.tk 9 ?_ (hy := by intro W hW; have hld0 := hW.1; go_simp; try with_reducible rfl)
  refine wpH.tk 10 ?_
  refine wpH.tk 11 ?_
  refine wpH.tk 12 ?_
  refine wpH.tk 13 ?_
  refine wpH.tk 14 ?_ (hy := by intro W hW; have hld0 := hW.2.2; go_simp; try with_reducible rfl)
  refine wpH.alone 15 rfl (by kernel_rfl) (by kernel_rfl) hk3 (fun K hK => ?_)
  go_simp
  go_at_call 119
  refine (HVN.out).mono ?_
  rintro e w5 ⟨vb, rfl, HS5, HB5⟩
  try go_simp
  refine hK _ _ ?_
  clear hK K
  refine wpH.tk 16 ?_
  have hs5 := HS5.out
  rw [OL_app, List.append_assoc] at hs5
  refine wpH.alone 17 rfl (by kernel_rfl) (by kernel_rfl) (HCELL.out _ _ hs5) (fun K hK => ?_)
  go_simp
  try go_simp
  refine hK _ _ ?_
  clear hK K
  have hs6 := Go.Proofs.Sep.boxN hs5 #[.int .i64 1, .int .i64 0, .int .i64 0, .pointer (some ⟨vb, 0, none⟩), .pointer (some ⟨bb, 0, none⟩)] 152
  rw [← OL_app, List.append_assoc] at hs6
  have hs7 := rx_new hs6
  rw [OL_app] at hs7
  obtain ⟨ii, hii, hiz, hiy, hix⟩ := info_parts infoTxP
  have hi3 : (OL L i (rmItems c1 s1 ++ rxItems c.m s.blocks ⟨w5.heap.size, vb, bb, .slice none 0 0, []⟩ ⟨1, 0, 0, s.last, [], [], []⟩))[L.length + 3]? = some (RowA 148 1 c1.Tv c1.cs.length (c1.cs.map fun x => pt x.tb)) := OL_get.trans rfl
  have hz6 : (w5.alloc (.cells #[.int .i64 1, .int .i64 0, .int .i64 0, .pointer (some ⟨vb, 0, none⟩), .pointer (some ⟨bb, 0, none⟩)] 152 (0, 0))).heap.size = w5.heap.size + 1 := by simp
  have hcl : c1.cs.length ≤ 400000 := by rw [HC1.out]; have := HC.out.len; have := HG.out.hn; show c.cs.length ≤ _; omega
  obtain ⟨gg, cap, w8, hr8, hS8⟩ := hs7.row_push (P := Tryz.prog) (L.length + 3) hi3 94 94 ii _ 8 Tryz.underlying94 hii hiz hiy hix rfl (by decide) (cs := #[.pointer (some ⟨w5.heap.size, 0, none⟩)]) rfl (by simp [Value.oneCell']) (by unfold maxLen; omega) (by omega) (w5.heap.size + 1) hz6
  rw [OL_set] at hS8
  have hi0 : (OL L i ((rmItems c1 s1 ++ rxItems c.m s.blocks ⟨w5.heap.size, vb, bb, .slice none 0 0, []⟩ ⟨1, 0, 0, s.last, [], [], []⟩).set 3 (RowA 148 1 (.slice (some ⟨gg, 0, none⟩) (c1.cs.length + 1) cap) (c1.cs.length + 1) ((c1.cs.map fun x => pt x.tb) ++ [.pointer (some ⟨w5.heap.size, 0, none⟩)]))))[L.length + 0]? = some (BoxA c1.mb (rmRow c1 s1) 96) := OL_get.trans rfl
  have hS9 := hS8.box_store (L.length + 0) hi0 5 (.slice (some ⟨gg, 0, none⟩) (c1.cs.length + 1) cap)
  rw [OL_set] at hS9
  have hl1 : c1.cs.length = s1.txs.length := by rw [HC1.out, HS1.out]; exact HC.out.len
  have hmb : c1.mb = c.mb := by rw [HC1.out]
  have hmm : c1.m = c.m := by rw [HC1.out]
  have hTv1 : c1.Tv = c.Tv := by rw [HC1.out]
  have hbl1 : s1.blocks = s.blocks := by rw [HS1.out]
  obtain ⟨c2, hc2⟩ : ∃ c2 : RmC, c2 = { c1 with Tv := .slice (some ⟨gg, 0, none⟩) (c1.cs.length + 1) cap, cs := c1.cs ++ [⟨w5.heap.size, vb, bb, .slice none 0 0, []⟩] } := ⟨_, rfl⟩
  have hS10 : Sep W (OL L i (rmItems c2 { s1 with txs := s1.txs ++ [⟨1, 0, 0, s.last, [], [], []⟩] })) (w8.setCell ⟨c1.mb, 5, none⟩ (.slice (some ⟨gg, 0, none⟩) (c1.cs.length + 1) cap)) := by
   rw [← hmm, ← hbl1] at hS9
   rw [hc2]
   exact (ritems_add hl1 ⟨w5.heap.size, vb, bb, .slice none 0 0, []⟩ ⟨1, 0, 0, s.last, [], [], []⟩ rfl rfl) ▸ hS9
  rw [hmb] at hS10
  have hG8 : w8.cell? ⟨c.mb, 0, none⟩ = some (.pointer (some ⟨c.m, 0, none⟩)) ∧ w8.cell? ⟨c.mb, 5, none⟩ = some c.Tv ∧ w8.cell? ⟨c.mb, 11, none⟩ = some (.int .i64 s.last) := by
   obtain ⟨F0, hF0, _⟩ := hS8.get (L.length + 0) hi0
   have hh := hF0.2
   rw [hmb] at hh
   refine ⟨?_, ?_, ?_⟩
   ·rw [cell_row hh, HC1.out]; rfl
   ·rw [cell_row hh, HC1.out]; rfl
   ·rw [cell_row hh, HC1.out, HS1.out]; rfl
  have hf8 : w8.frozen? ⟨c.mb, 5, none⟩ = false := by
   obtain ⟨F0, hF0, _⟩ := hS8.get (L.length + 0) hi0
   have hh := hF0.2
   rw [hmb] at hh
   exact frozen_row0 hh 5
  rw [hTv1] at hr8
  have hk6 := HCELL.out _ _ hs7
  have hba7 := below_alloc (w5.alloc (.cells #[.int .i64 1, .int .i64 0, .int .i64 0, .pointer (some ⟨vb, 0, none⟩), .pointer (some ⟨bb, 0, none⟩)] 152 (0, 0))) (.cells #[.pointer (some ⟨w5.heap.size, 0, none⟩)] 148 (0, 0))
  have hk7 := And.intro (cell_up hba7 hk6.1) (And.intro (cell_up hba7 hk6.2.1) (cell_up hba7 hk6.2.2))
  have HFIN := Lib.hid hS10
  have HOKN : Hid (RmOk c2 { s1 with txs := s1.txs ++ [⟨1, 0, 0, s.last, [], [], []⟩] }) := by
   rw [hc2, HC1.out, HS1.out]
   exact HC.out.begin HG.out.qr hv tv _ w5.heap.size vb bb (s.lastH + 1) (s.tmb ++ [(s.lastH + 1, s.last)]) s.last
  have HC2 := Lib.hid hc2
  clear hs6 hs7 hS8 hS9 hS10 hi0 hi3 hs5 hba7 hc2 hl1
  refine wpH.alone 18 rfl (by kernel_rfl) (by kernel_rfl) hk6 (fun K hK => ?_)
  go_simp
  try go_simp
  refine hK _ _ ?_
  clear hK K
  refine wpH.alone 19 rfl (by kernel_rfl) (by kernel_rfl) hk7 (fun K hK => ?_)
  refine wp_append_run (v := c.Tv) (u := .slice (some ⟨w5.heap.size + 1, 0, none⟩) 1 1) (.tmp 34) (.tmp 48) 94 rfl ?_ ?_ hr8 ?_
  ·go_simp
  ·go_simp
  try go_simp
  refine hK _ _ ?_
  clear hK K
  refine wpH.tk 20 ?_
  refine wpH.tk 21 ?_
  refine wpH.alone 22 rfl (by kernel_rfl) (by kernel_rfl) hG8 (fun K hK => ?_)
  have hq5 := hG8.2.1
  go_simp
  try go_simp
  refine hK _ _ ?_
  clear hK K
  refine wpH.done (by kernel_rfl) (by kernel_rfl) ?_
  have HEND : Hid ({ s1 with txs := s1.txs ++ [⟨1, 0, 0, s.last, [], [], []⟩] } = begNext s) := by show _ = _; rw [HN.out.2.2, HS1.out]
  clear hr8 hG8 hf8 hk6 hk7 hq5
  go_wp2_with fail
  go_ret2
  exact ⟨by rw [HN.out.1, HN.out.2.1]; rfl, c2, by rw [HC2.out]; exact hmb, by rw [← HEND.out]; exact HOKN.out, by rw [← HEND.out]; exact HFIN⟩
end
end Go.Proofs
namespace Go.Proofs
open Go.RowKit Sc
theorem infoTxQ : (Tryz.prog.info? 70).map (fun i => (i.zero, i.size, i.bytes)) = some (some (.agg #[.int .i64 0, .slice none 0 0]), 2, 32) := by kernel_rfl
def qCells (l : List (Int × Value)) : List (List Value) := l.map fun x => [.int .i64 x.1, x.2]
theorem qCells_len (l : List (Int × Value)) : (qCells l).flatten.length = l.length * 2 := by
 induction l with
 | nil => rfl
 | cons a t ih =>
  show ([_, _] ++ (qCells t).flatten).length = _
  rw [List.length_append, ih]
  simp
  omega
theorem qCells_two (l : List (Int × Value)) : ∀ cs ∈ qCells l, cs.length = 2 := by
 intro cs h
 obtain ⟨x, _, rfl⟩ := List.mem_map.1 h
 rfl
theorem qCells_snoc (l : List (Int × Value)) (x : Int × Value) : (qCells (l ++ [x])).flatten = (qCells l).flatten ++ [.int .i64 x.1, x.2] := by
 unfold qCells
 rw [List.map_append, List.flatten_append]; rfl
theorem qCells_one {l : List (Int × Value)} (h : ∀ x ∈ l, x.2.oneCell' = true) : ∀ u ∈ (qCells l).flatten, u.oneCell' = true := by
 intro u hu
 obtain ⟨cs, hcs, huc⟩ := List.mem_flatten.1 hu
 obtain ⟨x, hx, rfl⟩ := List.mem_map.1 hcs
 simp only [List.mem_cons, List.not_mem_nil, or_false] at huc
 rcases huc with rfl | rfl
 ·rfl
 ·exact h x hx
theorem qAt_shape {G : Nat → Prop} {w : World} {v : Value} {l : List (Int × Value)} (h : QAt G w v l) : ∃ p c, v = .slice p l.length c := by
 obtain ⟨p, c, rfl, _⟩ := h; exact ⟨p, c, rfl⟩
theorem QAt.up {G : Nat → Prop} {w w' : World} {v : Value} {l : List (Int × Value)} (h : QAt G w v l) (hb : Below w.heap.size w w') : QAt G w' v l := SlAt.up h fun _ _ _ h => ⟨cell_up hb h.1, cell_up hb h.2⟩
theorem q_news {G : Nat → Prop} {w : World} {a : Addr} {n c : Nat} {l : List (Int × Value)} (h : QAt G w (.slice (some a) n c) l) : ∀ j u, (qCells l).flatten[j]? = some u → w.cell? (a.add j) = some u := by
 obtain ⟨p, c', he, _, _, _, h4⟩ := h
 cases he
 intro j u hj
 have hjl : j < l.length * 2 := by have := (List.getElem?_eq_some_iff.1 hj).1; rwa [qCells_len] at this
 obtain ⟨b, o, hp, _, h0, h1⟩ := h4 (j / 2) (by omega)
 cases hp
 have hq : j / 2 < (qCells l).length := by unfold qCells; rw [List.length_map]; omega
 have hf := fun i hi => flat_get (qCells_two l) (j / 2) hq i hi
 have hcs : (qCells l)[j / 2] = [.int .i64 (l[j / 2]'(by omega)).1, (l[j / 2]'(by omega)).2] := by simp [qCells]
 rw [hcs] at hf
 rw [addr_add]
 rcases (show j % 2 = 0 ∨ j % 2 = 1 by omega) with h2 | h2
 ·have e : j = j / 2 * 2 + 0 := by omega
  rw [e, hf 0 (by omega)] at hj
  rw [show o + j = o + j / 2 * 2 by omega, h0]
  exact hj
 ·have e : j = j / 2 * 2 + 1 := by omega
  rw [e, hf 1 (by omega)] at hj
  rw [show o + j = o + j / 2 * 2 + 1 by omega, h1]
  exact hj
theorem qAt_own {w : World} {B T : Nat} {v : Value} {n : Nat} {l : List (Int × Value)} (G : Nat → Prop) (hl : l.length = n) (hG : ∀ k, B ≤ k → k < w.heap.size → G k) (h : w.ownsRow B T 2 v n (qCells l).flatten) : QAt G w v l := by
 obtain ⟨_, ⟨e, h0⟩ | ⟨g, cap, cur, e, hB, hcur, hnc, hcm, hrest⟩⟩ := id h
 ·have : l = [] := List.eq_nil_of_length_eq_zero (by omega)
  subst this
  rw [e]; exact SlAt.nil
 ·subst e
  refine ⟨some ⟨g, 0, none⟩, cap, by rw [hl], by omega, by unfold maxLen at hcm; omega, (by intro h; cases h), fun i hi => ⟨g, 0, rfl, hG g hB (h.lt g rfl).2, ?_, ?_⟩⟩
  ·have hq : i < (qCells l).length := by unfold qCells; rw [List.length_map]; exact hi
   have := flat_get (qCells_two l) i hq 0 (by omega)
   have hc := h.cellAt (i * 2 + 0) (by omega)
   rw [this] at hc
   rw [show 0 + i * 2 = i * 2 + 0 by omega, hc]
   simp [qCells]
  ·have hq : i < (qCells l).length := by unfold qCells; rw [List.length_map]; exact hi
   have := flat_get (qCells_two l) i hq 1 (by omega)
   have hc := h.cellAt (i * 2 + 1) (by omega)
   rw [this] at hc
   rw [show 0 + i * 2 + 1 = i * 2 + 1 by omega, hc]
   simp [qCells]
theorem pushQ_at {w W : World} {k : Nat} (hW : Below w.heap.size w W) (hk : W.ownsRow w.heap.size 70 2 (.slice (some ⟨k, 0, none⟩) 0 0) 0 []) {G : Nat → Prop} {p : Option Addr} {c : Nat} {l : List (Int × Value)} (h : QAt G W (.slice p l.length c) l) (h1 : ∀ x ∈ l, x.2.oneCell' = true) (hl : l.length ≤ 100000) :
  ∃ p1 c1 w1, (Builtin.append_ #[40, 40] 40 #[.slice (some ⟨k, 0, none⟩) 0 0, .slice p l.length c]).run Tryz.prog W = .ok (.slice p1 l.length c1) w1 ∧
   Hid (w1.ownsRow w.heap.size 70 2 (.slice p1 l.length c1) l.length (qCells l).flatten) ∧ Hid (Below w.heap.size w w1) ∧ Hid (W.grownBy w1 (some k)) := by
 obtain ⟨i0, hi0, hz0, hz1, hz2⟩ := info_parts infoTxQ
 have hkl := (hk.lt k rfl).1
 obtain ⟨v', w', hr, h2, h3, h4⟩ := run_append_any0 (P := Tryz.prog) W 40 40 w.heap.size 70 i0 (.agg #[.int .i64 0, .slice none 0 0]) 2 32 Tryz.underlying40 hi0 hz0 hz1 hz2 rfl (by decide) _ 0 [] hk p l.length c (fun hp => by
  obtain ⟨p', c', he, q1, q2, q3, _⟩ := h
  cases he
  have := q3 hp
  omega) (qCells l).flatten (qCells_len l) (fun a ha => by subst ha; exact q_news h) (qCells_one h1) (by unfold maxLen; omega) (by omega) hW.size
 have hb1 : Below w.heap.size w w' := hW.grown h3 hW.size (fun q hq => by cases hq; exact hkl)
 rw [Nat.zero_add, List.nil_append] at h2
 obtain ⟨p1, c1, rfl⟩ := ownsRow_shape h2
 exact ⟨p1, c1, w', hr, h2, hb1, h3⟩
theorem pushQ_one {w W : World} (hW : Below w.heap.size w W) {v : Value} {n : Nat} {xs : List Value} (hown : W.ownsRow w.heap.size 70 2 v n xs) (b : Nat) (x : Int) (u : Value) (hu : u.oneCell' = true) (hc : W.cell? ⟨b, 0, none⟩ = some (.int .i64 x)) (hc1 : W.cell? ⟨b, 1, none⟩ = some u) (hn : n ≤ 100000) :
  ∃ g2 c2 w2, (Builtin.append_ #[40, 40] 40 #[v, .slice (some ⟨b, 0, none⟩) 1 1]).run Tryz.prog W = .ok (.slice (some ⟨g2, 0, none⟩) (n + 1) c2) w2 ∧
   Hid (w2.ownsRow w.heap.size 70 2 (.slice (some ⟨g2, 0, none⟩) (n + 1) c2) (n + 1) (xs ++ [.int .i64 x, u])) ∧ Hid (Below w.heap.size w w2) := by
 obtain ⟨i0, hi0, hz0, hz1, hz2⟩ := info_parts infoTxQ
 have hlt := hown.lt
 obtain ⟨v', w', hr, h2, h3, h4⟩ := run_append_any0 (P := Tryz.prog) W 40 40 w.heap.size 70 i0 (.agg #[.int .i64 0, .slice none 0 0]) 2 32 Tryz.underlying40 hi0 hz0 hz1 hz2 rfl (by decide) _ n xs hown (some ⟨b, 0, none⟩) 1 1 (fun hp => by cases hp) [.int .i64 x, u] rfl (fun a ha j y hj => by
  cases ha
  match j with
  | 0 => simp only [List.getElem?_cons_zero] at hj; cases hj; rw [addr_add]; exact hc
  | 1 => simp only [List.getElem?_cons_succ, List.getElem?_cons_zero] at hj; cases hj; rw [addr_add]; exact hc1
  | j + 2 => simp at hj) (fun y hy => by simp only [List.mem_cons, List.not_mem_nil, or_false] at hy; rcases hy with rfl | rfl; exact rfl; exact hu) (by unfold maxLen; omega) (by omega) hW.size
 have hb1 : Below w.heap.size w w' := hW.grown h3 hW.size (fun q hq => (hlt q hq).1)
 obtain ⟨hx, ⟨rfl, h0⟩ | ⟨g', cap, cur, rfl, hrest⟩⟩ := id h2
 ·exact absurd h0 (by omega)
 ·exact ⟨g', cap, w', hr, h2, hb1⟩
theorem pushQ_all {w W0 : World} {k b : Nat} {x : Int} {u : Value} (hu : u.oneCell' = true) (hW : Below w.heap.size w W0) (hk : W0.ownsRow w.heap.size 70 2 (.slice (some ⟨k, 0, none⟩) 0 0) 0 []) (hb : b ≠ k) (hx : W0.cell? ⟨b, 0, none⟩ = some (.int .i64 x)) (hy : W0.cell? ⟨b, 1, none⟩ = some u) {G : Nat → Prop} {p : Option Addr} {c : Nat} {l : List (Int × Value)} (h : QAt G W0 (.slice p l.length c) l) (h1 : ∀ x ∈ l, x.2.oneCell' = true) (hl : l.length ≤ 90000) :
  ∃ p1 c1 w1 g2 c2 w2, (Builtin.append_ #[40, 40] 40 #[.slice (some ⟨k, 0, none⟩) 0 0, .slice p l.length c]).run Tryz.prog W0 = .ok (.slice p1 l.length c1) w1 ∧
   (Builtin.append_ #[40, 40] 40 #[.slice p1 l.length c1, .slice (some ⟨b, 0, none⟩) 1 1]).run Tryz.prog w1 = .ok (.slice (some ⟨g2, 0, none⟩) (l.length + 1) c2) w2 ∧
   Hid (w2.ownsRow w.heap.size 70 2 (.slice (some ⟨g2, 0, none⟩) (l.length + 1) c2) (l.length + 1) ((qCells l).flatten ++ [.int .i64 x, u])) ∧ Hid (Below w.heap.size w w2) ∧ Hid (Below w.heap.size w w1) := by
 obtain ⟨p1, c1, w1, q1, q2, q3, q4⟩ := pushQ_at hW hk h h1 (by omega)
 have hxl := World.block_lt_of_cell? _ _ hx
 have hx1 : w1.cell? ⟨b, 0, none⟩ = some (.int .i64 x) := (World.cell?_of_block (q4.out.block b hxl (fun e => hb (by cases e; rfl)))).trans hx
 have hy1 : w1.cell? ⟨b, 1, none⟩ = some u := (World.cell?_of_block (q4.out.block b hxl (fun e => hb (by cases e; rfl)))).trans hy
 obtain ⟨g2, c2, w2, k1, k2, k3⟩ := pushQ_one q3.out q2.out b x u hu hx1 hy1 (by omega)
 exact ⟨p1, c1, w1, g2, c2, w2, q1, k1, k2, k3, q3⟩
theorem queue_mid {G : Nat → Prop} {b T j : Nat} {cs : Array Value} {l : List (Int × Value)} {x : Int} {u : Value} {w w2 w4 : World} (h2 : w2.heap[b]? = some (.cells cs T (0, 0))) (hc : Chg (fun q => q = b) w w2) (hbl : b < w.heap.size) {g c : Nat} (hb : Below w2.heap.size w2 w4) (ho : w4.ownsRow w2.heap.size 70 2 (.slice (some ⟨g, 0, none⟩) (l.length + 1) c) (l.length + 1) ((qCells l).flatten ++ [.int .i64 x, u])) :
  (w4.setCell ⟨b, j, none⟩ (.slice (some ⟨g, 0, none⟩) (l.length + 1) c)).heap[b]? = some (.cells (cs.setIfInBounds j (.slice (some ⟨g, 0, none⟩) (l.length + 1) c)) T (0, 0)) ∧ Chg (fun q => q = b) w (w4.setCell ⟨b, j, none⟩ (.slice (some ⟨g, 0, none⟩) (l.length + 1) c)) ∧
   Chg (fun q => q = b) w2 (w4.setCell ⟨b, j, none⟩ (.slice (some ⟨g, 0, none⟩) (l.length + 1) c)) ∧ QAt (fun q => (G q ∨ New w (w4.setCell ⟨b, j, none⟩ (.slice (some ⟨g, 0, none⟩) (l.length + 1) c)) q) ∧ q ≠ b) (w4.setCell ⟨b, j, none⟩ (.slice (some ⟨g, 0, none⟩) (l.length + 1) c)) (.slice (some ⟨g, 0, none⟩) (l.length + 1) c) (l ++ [(x, u)]) := by
 have hz2 := hc.size
 have hh4 := (hb.block b (by omega)).trans h2
 have hs4 : Same (fun q => q ≠ b) w4 (w4.setCell ⟨b, j, none⟩ (.slice (some ⟨g, 0, none⟩) (l.length + 1) c)) := fun q hq => Below.heap_setCell _ _ _ q hq
 have hz4 : (w4.setCell ⟨b, j, none⟩ (.slice (some ⟨g, 0, none⟩) (l.length + 1) c)).heap.size = w4.heap.size := by simp [World.setCell]
 have hint := qAt_own (fun q => (G q ∨ New w (w4.setCell ⟨b, j, none⟩ (.slice (some ⟨g, 0, none⟩) (l.length + 1) c)) q) ∧ q ≠ b) (l := l ++ [(x, u)]) (by simp) (fun q h1 h2 => ⟨.inr ⟨by omega, by rw [hz4]; exact h2⟩, by omega⟩) (show w4.ownsRow w2.heap.size 70 2 (.slice (some ⟨g, 0, none⟩) (l.length + 1) c) (l.length + 1) (qCells (l ++ [(x, u)])).flatten by rw [qCells_snoc]; exact ho)
 exact ⟨heap_set_same hh4 _, (hc.then_up hb).trans (chg_set w4 b j _ rfl), (Chg.of_below hb fun k h1 h2 => by omega).trans (chg_set w4 b j _ rfl), SlAt.same hint (hs4.mono fun q hq => hq.2) (qE_stable _)⟩
end Go.Proofs
namespace Go.Proofs
open Go.RowKit Sc
set_option maxRecDepth 100000 in
set_option maxHeartbeats 4000000 in
theorem refMeets_at {G : Nat → Prop} {b o : Nat} {sv : Value} {l : List Ext} {w : World} (hc : w.cell? ⟨b, o + 1, none⟩ = some sv) (hx : ExtsAt G w sv l) (hs : ∀ x ∈ l, Oke x) (e : Ext) (i1 : I64 e.first) (i2 : I64 e.len) :
  Calls Tryz.prog 170 #[.pointer (some ⟨b, o, none⟩), .agg #[.int .i64 e.first, .int .i64 e.len]] w fun r w' => r = .returned (.bool (meetsB l e)) ∧ Below w.heap.size w w' := by
 obtain ⟨p, c, rfl⟩ := extsAt_shape hx
 have hba := below_alloc w (.cells #[.int .i64 e.first, .int .i64 e.len] 56 (0, 0))
 have hnw := heap_alloc_new w (.cells #[.int .i64 e.first, .int .i64 e.len] 56 (0, 0))
 have z0 : (w.alloc (.cells #[.int .i64 e.first, .int .i64 e.len] 56 (0, 0))).cell? ⟨w.heap.size, 0, none⟩ = some (.int .i64 e.first) := by rw [cell_row hnw]; rfl
 have z1 : (w.alloc (.cells #[.int .i64 e.first, .int .i64 e.len] 56 (0, 0))).cell? ⟨w.heap.size, 1, none⟩ = some (.int .i64 e.len) := by rw [cell_row hnw]; rfl
 have c1 := cell_up hba hc
 have hx1 := ExtsAt.up hx hba
 have hfollow : Tryz.prog.follows Departure.mixedOrders = true := by kernel_rfl
 have hdef : meetsB l e = (mayB e && l.any fun y => decide (e.first < y.first + y.len) && decide (y.first < e.first + e.len)) := by
  unfold meetsB
  congr 1
  refine congrArg (fun f => l.any f) (funext fun y => ?_)
  exact Bool.and_comm _ _
 have hmy := fun W => refMayE_any e W i1 i2
 have HBA := Lib.hid hba
 have HX1 := Lib.hid hx1
 have HS := Lib.hid hs
 have HDEF := Lib.hid hdef
 have HMY := Lib.hid hmy
 clear hba hx1 hs hdef hmy
 clear hnw hx hc
 go_enter Tryz.func170, Tryz.ntmps170
 go_wp2_with fail
 generalize hW0 : w.alloc (.cells #[.int .i64 e.first, .int .i64 e.len] 56 (0, 0)) = W0 at *
 refine (HMY.out W0).mono ?_
 rintro r w1 ⟨rfl, hb1⟩
 have hb01 := Below.up HBA.out hb1
 have y0 := cell_up hb1 z0
 have y1 := cell_up hb1 z1
 have d1 := cell_up hb1 c1
 have hx2 := ExtsAt.up HX1.out hb1
 have HB1 := Lib.hid hb1
 have HB01 := Lib.hid hb01
 have HX2 := Lib.hid hx2
 clear hb1 hb01 hx2
 clear z0 z1 c1 hW0
 cases hq : mayB e with
 | false =>
  have hf : meetsB l e = false := by rw [HDEF.out, hq]; rfl
  have HF := Lib.hid hf
  have HQ := Lib.hid hq
  clear hf hq
  go_wp2_with fail
  go_ret
  exact ⟨by rw [HF.out]; rfl, HB01.out⟩
 | true =>
  obtain ⟨a1, a2, a3, a4, a5⟩ := mayB_iff.1 hq
  rw [hq, Bool.true_and] at HDEF
  have hwe : IntKind.i64.wrap (e.first + e.len) = e.first + e.len := IntWalk.i64_in _ (by omega)
  have HQ := Lib.hid hq
  clear hq
  go_wp2_with fail
  go_loopw [5] (fun i wr => ∃ k : Nat, k ≤ l.length ∧ i = .int .i64 k ∧ Hid (Below w1.heap.size w1 wr) ∧ Hid ((l.take k).any (fun y => decide (e.first < y.first + y.len) && decide (y.first < e.first + e.len)) = false)) (fun i _ => l.length - (intOf i).toNat)
  case atStart => exact ⟨0, by omega, rfl, Lib.hid (Below.refl _ _), Lib.hid rfl⟩
  case round =>
   obtain ⟨k, hk, rfl, HB, HN⟩ := hrel
   have f0 := cell_up HB.out y0
   have f1 := cell_up HB.out y1
   have f2 := cell_up HB.out d1
   by_cases hlt : k < l.length
   case neg =>
    have hf : meetsB l e = false := by
     have := HN.out
     rw [List.take_of_length_le (by omega)] at this
     rw [HDEF.out, this]
    have hki : ¬ (k : Int) < (l.length : Int) := by omega
    have HF := Lib.hid hf
    clear hf
    go_wp2_with fail
    go_ret
    exact ⟨by rw [HF.out]; rfl, Below.up HB01.out HB.out⟩
   case pos =>
    obtain ⟨_, _, hv, _, _, _, g4⟩ := ExtsAt.up HX2.out HB.out
    cases hv
    obtain ⟨g, q, rfl, _, ga, gb, _, _⟩ := g4 k hlt
    obtain ⟨o1, o2, o3, o4⟩ := HS.out _ (List.getElem_mem hlt)
    have hnx := any_take_next HN.out hlt
    have hht := fun h => any_hit (p := fun y : Ext => decide (e.first < y.first + y.len) && decide (y.first < e.first + e.len)) hlt h
    generalize l[k] = y at *
    have hwy : IntKind.i64.wrap (y.first + y.len) = y.first + y.len := IntWalk.i64_in _ (by omega)
    have hki : (k : Int) < (l.length : Int) := by omega
    have hbd := fun n => below_drewN (Below.refl wr.heap.size wr) n
    have HNX := Lib.hid hnx
    have HHT := Lib.hid hht
    have HO1 := Lib.hid o1
    have HO2 := Lib.hid o2
    have HO3 := Lib.hid o3
    have HO4 := Lib.hid o4
    have HBD := Lib.hid hbd
    clear hnx hht o1 o2 o3 o4 hbd
    clear g4
    by_cases h1 : e.first < y.first + y.len
    case neg =>
     have hg1 : decide (e.first < y.first + y.len) = false := decide_eq_false h1
     have hn2 := HNX.out (by show (decide _ && decide _) = false; rw [decide_eq_false h1]; rfl)
     have HN2 := Lib.hid hn2
     clear hn2
     go_wp2_with fail
     refine wp_regionG (fun W => Below wr.heap.size wr W) (n := 36) (by kernel_rfl) (by kernel_rfl) ?_
     refine wpG.tk 0 ?_
     refine wpG.tk 1 ?_ (hy := by intro W hW; have hld0 := cell_up hW f0; go_simp; try with_reducible rfl)
     refine wpG.tk 2 ?_
     refine wpG.tk 3 ?_
     refine wpG.tk 4 ?_
     refine wpG.tk 5 ?_ (hy := by intro W hW; have hld0 := cell_up hW f2; go_simp; try with_reducible rfl)
     refine wpG.tk 6 ?_
     refine wpG.tk 7 ?_
     refine wpG.tk 8 ?_
     refine wpG.tk 9 ?_ (hy := by intro W hW; have hld0 := cell_up hW ga; go_simp; try with_reducible rfl)
     refine wpG.tk 10 ?_
     refine wpG.tk 11 ?_
     refine wpG.tk 12 ?_
     refine wpG.tk 13 ?_ (hy := by intro W hW; have hld0 := cell_up hW f2; go_simp; try with_reducible rfl)
     refine wpG.tk 14 ?_
     refine wpG.tk 15 ?_
     refine wpG.tk 16 ?_
     refine wpG.tk 17 ?_ (hy := by intro W hW; have hld0 := cell_up hW gb; go_simp; try with_reducible rfl)
     refine wpG.tk 18 ?_
     refine wpG.tk 19 ?_
     refine wpG.tk 20 ?_
     refine wpG.sk 21 ?_
     refine wpG.sk 22 ?_
     refine wpG.sk 23 ?_
     refine wpG.sk 24 ?_
     refine wpG.sk 25 ?_
     refine wpG.sk 26 ?_
     refine wpG.sk 27 ?_
     refine wpG.sk 28 ?_
     refine wpG.sk 29 ?_
     refine wpG.sk 30 ?_
     refine wpG.sk 31 ?_
     refine wpG.sk 32 ?_
     refine wpG.sk 33 ?_
     refine wpG.sk 34 ?_
     refine wpG.tk 35 ?_
     refine wpG.done (by kernel_rfl) (HBD.out 1) ?_
     have hb2 : Below wr.heap.size wr wr.drew := HBD.out 1
     have HB2 := Lib.hid hb2
     clear hb2
     go_wp2_with fail
     go_roundw
     case rel => exact ⟨k + 1, by omega, by go_num, Lib.hid (Below.up HB.out HB2.out), HN2⟩
     case measure => simp [intOf]; omega
    case pos =>
    have hg1 : decide (e.first < y.first + y.len) = true := decide_eq_true h1
    by_cases h2 : y.first < e.first + e.len
    case neg =>
     have hg2 : decide (y.first < e.first + e.len) = false := decide_eq_false h2
     have hn2 := HNX.out (by show (decide _ && decide _) = false; rw [decide_eq_false h2, Bool.and_false])
     have HN2 := Lib.hid hn2
     clear hn2
     go_wp2_with fail
     refine wp_regionG (fun W => Below wr.heap.size wr W) (n := 36) (by kernel_rfl) (by kernel_rfl) ?_
     refine wpG.tk 0 ?_
     refine wpG.tk 1 ?_ (hy := by intro W hW; have hld0 := cell_up hW f0; go_simp; try with_reducible rfl)
     refine wpG.tk 2 ?_
     refine wpG.tk 3 ?_
     refine wpG.tk 4 ?_
     refine wpG.tk 5 ?_ (hy := by intro W hW; have hld0 := cell_up hW f2; go_simp; try with_reducible rfl)
     refine wpG.tk 6 ?_
     refine wpG.tk 7 ?_
     refine wpG.tk 8 ?_
     refine wpG.tk 9 ?_ (hy := by intro W hW; have hld0 := cell_up hW ga; go_simp; try with_reducible rfl)
     refine wpG.tk 10 ?_
     refine wpG.tk 11 ?_
     refine wpG.tk 12 ?_
     refine wpG.tk 13 ?_ (hy := by intro W hW; have hld0 := cell_up hW f2; go_simp; try with_reducible rfl)
     refine wpG.tk 14 ?_
     refine wpG.tk 15 ?_
     refine wpG.tk 16 ?_
     refine wpG.tk 17 ?_ (hy := by intro W hW; have hld0 := cell_up hW gb; go_simp; try with_reducible rfl)
     refine wpG.tk 18 ?_
     refine wpG.tk 19 ?_
     refine wpG.tk 20 ?_
     refine wpG.tk 21 ?_
     refine wpG.tk 22 ?_
     refine wpG.tk 23 ?_
     refine wpG.tk 24 ?_ (hy := by intro W hW; have hld0 := cell_up hW f2; go_simp; try with_reducible rfl)
     refine wpG.tk 25 ?_
     refine wpG.tk 26 ?_
     refine wpG.tk 27 ?_
     refine wpG.tk 28 ?_ (hy := by intro W hW; have hld0 := cell_up hW ga; go_simp; try with_reducible rfl)
     refine wpG.tk 29 ?_
     refine wpG.tk 30 ?_ (hy := by intro W hW; have hld0 := cell_up hW f0; go_simp; try with_reducible rfl)
     refine wpG.tk 31 ?_
     refine wpG.tk 32 ?_ (hy := by intro W hW; have hld0 := cell_up hW f1; go_simp; try with_reducible rfl)
     refine wpG.tk 33 ?_
     refine wpG.tk 34 ?_
     refine wpG.tk 35 ?_
     refine wpG.done (by kernel_rfl) (HBD.out 1) ?_
     have hb2 : Below wr.heap.size wr wr.drew := HBD.out 1
     have HB2 := Lib.hid hb2
     clear hb2
     go_wp2_with fail
     go_roundw
     case rel => exact ⟨k + 1, by omega, by go_num, Lib.hid (Below.up HB.out HB2.out), HN2⟩
     case measure => simp [intOf]; omega
    case pos =>
     have hg2 : decide (y.first < e.first + e.len) = true := decide_eq_true h2
     have hf : meetsB l e = true := by rw [HDEF.out]; exact HHT.out (by show (decide _ && decide _) = true; rw [decide_eq_true h1, decide_eq_true h2]; rfl)
     have HF := Lib.hid hf
     clear hf
     go_wp2_with fail
     refine wp_regionG (fun W => Below wr.heap.size wr W) (n := 36) (by kernel_rfl) (by kernel_rfl) ?_
     refine wpG.tk 0 ?_
     refine wpG.tk 1 ?_ (hy := by intro W hW; have hld0 := cell_up hW f0; go_simp; try with_reducible rfl)
     refine wpG.tk 2 ?_
     refine wpG.tk 3 ?_
     refine wpG.tk 4 ?_
     refine wpG.tk 5 ?_ (hy := by intro W hW; have hld0 := cell_up hW f2; go_simp; try with_reducible rfl)
     refine wpG.tk 6 ?_
     refine wpG.tk 7 ?_
     refine wpG.tk 8 ?_
     refine wpG.tk 9 ?_ (hy := by intro W hW; have hld0 := cell_up hW ga; go_simp; try with_reducible rfl)
     refine wpG.tk 10 ?_
     refine wpG.tk 11 ?_
     refine wpG.tk 12 ?_
     refine wpG.tk 13 ?_ (hy := by intro W hW; have hld0 := cell_up hW f2; go_simp; try with_reducible rfl)
     refine wpG.tk 14 ?_
     refine wpG.tk 15 ?_
     refine wpG.tk 16 ?_
     refine wpG.tk 17 ?_ (hy := by intro W hW; have hld0 := cell_up hW gb; go_simp; try with_reducible rfl)
     refine wpG.tk 18 ?_
     refine wpG.tk 19 ?_
     refine wpG.tk 20 ?_
     refine wpG.tk 21 ?_
     refine wpG.tk 22 ?_
     refine wpG.tk 23 ?_
     refine wpG.tk 24 ?_ (hy := by intro W hW; have hld0 := cell_up hW f2; go_simp; try with_reducible rfl)
     refine wpG.tk 25 ?_
     refine wpG.tk 26 ?_
     refine wpG.tk 27 ?_
     refine wpG.tk 28 ?_ (hy := by intro W hW; have hld0 := cell_up hW ga; go_simp; try with_reducible rfl)
     refine wpG.tk 29 ?_
     refine wpG.tk 30 ?_ (hy := by intro W hW; have hld0 := cell_up hW f0; go_simp; try with_reducible rfl)
     refine wpG.tk 31 ?_
     refine wpG.tk 32 ?_ (hy := by intro W hW; have hld0 := cell_up hW f1; go_simp; try with_reducible rfl)
     refine wpG.tk 33 ?_
     refine wpG.tk 34 ?_
     refine wpG.tk 35 ?_
     refine wpG.done (by kernel_rfl) (HBD.out 1) ?_
     have hb2 : Below wr.heap.size wr wr.drew := HBD.out 1
     have HB2 := Lib.hid hb2
     clear hb2
     go_wp2_with fail
     go_ret
     exact ⟨by rw [HF.out]; rfl, Below.up HB01.out (Below.up HB.out HB2.out)⟩
set_option maxHeartbeats 1000000 in
theorem refHas_at {G : Nat → Prop} {b o : Nat} {sv : Value} {l : List Ext} {w : World} (hc : w.cell? ⟨b, o + 1, none⟩ = some sv) (hx : ExtsAt G w sv l) (hs : ∀ x ∈ l, Oke x) (x : Int) (i1 : I64 x) :
  Calls Tryz.prog 151 #[.pointer (some ⟨b, o, none⟩), .int .i64 x] w fun r w' => r = .returned (.bool (hasB l x)) ∧ Below w.heap.size w w' := by
 have hme := refMeets_at hc hx hs ⟨x, 1⟩ i1 (by unfold I64; simp only; omega)
 have HME := Lib.hid hme
 clear hme
 clear hc hx
 go_enter Tryz.func151, Tryz.ntmps151
 go_wp2_with fail
 refine (HME.out).mono ?_
 rintro r w1 ⟨rfl, hb1⟩
 have HB1 := Lib.hid hb1
 clear hb1
 go_wp2
 go_ret
 exact ⟨rfl, HB1.out⟩
set_option maxRecDepth 100000 in
set_option maxHeartbeats 2000000 in
theorem refAgainst_at {G H : Nat → Prop} {b o : Nat} {sv tv : Value} {l : List Ext} {t : Tx} {w : World} (hc : w.cell? ⟨b, o + 1, none⟩ = some sv) (hx : ExtsAt G w sv l) (hs : ∀ x ∈ l, Oke x) (ht : TxAt H w tv t) :
  Calls Tryz.prog 152 #[tv, .pointer (some ⟨b, o, none⟩)] w fun r w' => r = .returned (.bool (againstB l t)) ∧ Below w.heap.size w w' := by
 obtain ⟨pv, rfl, hti, hp⟩ := ht
 obtain ⟨p, c, rfl⟩ := putsAt_shape hp
 have hba := below_alloc w (.cells #[.int .i64 t.time, .slice p t.puts.length c] 70 (0, 0))
 have hnw := heap_alloc_new w (.cells #[.int .i64 t.time, .slice p t.puts.length c] 70 (0, 0))
 have z1 : (w.alloc (.cells #[.int .i64 t.time, .slice p t.puts.length c] 70 (0, 0))).cell? ⟨w.heap.size, 1, none⟩ = some (.slice p t.puts.length c) := by rw [cell_row hnw]; rfl
 have hdef : againstB l t = t.puts.any fun p => hasB l p.lba := rfl
 have HBA := Lib.hid hba
 have HX := Lib.hid hx
 have HS := Lib.hid hs
 have HDEF := Lib.hid hdef
 have HP := Lib.hid hp
 clear hba hx hs hdef hp
 clear hnw
 go_enter Tryz.func152, Tryz.ntmps152
 go_wp2_with fail
 generalize hW0 : w.alloc (.cells #[.int .i64 t.time, .slice p t.puts.length c] 70 (0, 0)) = W0 at *
 go_loopw [5] (fun i wr => ∃ k : Nat, k ≤ t.puts.length ∧ i = .int .i64 k ∧ Hid (Below W0.heap.size W0 wr) ∧ Hid ((t.puts.take k).any (fun p => hasB l p.lba) = false)) (fun i _ => t.puts.length - (intOf i).toNat)
 case atStart => exact ⟨0, by omega, rfl, Lib.hid (Below.refl _ _), Lib.hid rfl⟩
 case round =>
  obtain ⟨k, hk, rfl, HB, HN⟩ := hrel
  have f1 := cell_up HB.out z1
  have hbw := Below.up HBA.out HB.out
  by_cases hlt : k < t.puts.length
  case neg =>
   have hf : againstB l t = false := by
    have := HN.out
    rw [List.take_of_length_le (by omega)] at this
    rw [HDEF.out, this]
   have hki : ¬ (k : Int) < (t.puts.length : Int) := by omega
   have HF := Lib.hid hf
   have HBW := Lib.hid hbw
   clear hf hbw
   go_wp2_with fail
   go_ret
   exact ⟨by rw [HF.out]; rfl, HBW.out⟩
  case pos =>
   obtain ⟨_, _, hv, _, _, _, g4⟩ := PutsAt.up HP.out hbw
   cases hv
   obtain ⟨g, q, rfl, _, ga, gi, _⟩ := g4 k hlt
   have hnx := any_take_next HN.out hlt
   have hht := fun h => any_hit (p := fun p : Put => hasB l p.lba) hlt h
   have hha := refHas_at (cell_up hbw hc) (ExtsAt.up HX.out hbw) HS.out t.puts[k].lba gi
   generalize t.puts[k] = y at *
   have hki : (k : Int) < (t.puts.length : Int) := by omega
   have HNX := Lib.hid hnx
   have HHT := Lib.hid hht
   have HHA := Lib.hid hha
   have HGI := Lib.hid gi
   have HBW := Lib.hid hbw
   clear hnx hht hha gi hbw
   clear g4
   go_wp2_with fail
   refine (HHA.out).mono ?_
   rintro r w2 ⟨rfl, hb2⟩
   cases hq : hasB l y.lba with
   | true =>
    have hf : againstB l t = true := by rw [HDEF.out]; exact HHT.out hq
    have HF := Lib.hid hf
    have HB2 := Lib.hid hb2
    have HQ := Lib.hid hq
    clear hf hb2 hq
    go_wp2_with fail
    go_ret
    exact ⟨by rw [HF.out]; rfl, Below.up HBW.out HB2.out⟩
   | false =>
    have hn2 := HNX.out hq
    have HN2 := Lib.hid hn2
    have HB2 := Lib.hid hb2
    have HQ := Lib.hid hq
    clear hn2 hb2 hq
    go_wp2_with fail
    go_roundw
    case rel => exact ⟨k + 1, by omega, by go_num, Lib.hid (Below.up HB.out HB2.out), HN2⟩
    case measure => simp [intOf]; omega
end Go.Proofs
namespace Go.Proofs
open Go.RowKit Sc
def validR (M : List RVer) (q : List Tx) (t : Int) (S Wr : List Ext) : Int :=
 if Wr.length = 0 then 0 else if M.any (fun v => decide (t < v.time) && (hasB S v.lba || hasB Wr v.lba)) = true then 8 else if q.any (fun x => againstB S x || againstB Wr x) = true then 8 else 0
set_option maxRecDepth 100000 in
set_option maxHeartbeats 4000000 in
theorem refValid_any {Fm G G1 G2 : Nat → Prop} {w : World} {mp qv rv wv : Value} {blocks last : Int} {M : List RVer} {q : List Tx} {rb ro wb wo : Nat} {S Wr : List Ext} (t : Int) (hm : RMapIs Fm w mp blocks last M) (nM : M.length ≤ 1000000) (nQ : q.length ≤ 1000000) (hq : TxsAt G w qv q)
  (hrc : w.cell? ⟨rb, ro + 1, none⟩ = some rv) (hr : ExtsAt G1 w rv S) (hrs : ∀ x ∈ S, Oke x) (hwc : w.cell? ⟨wb, wo + 1, none⟩ = some wv) (hw : ExtsAt G2 w wv Wr) (hws : ∀ x ∈ Wr, Oke x) :
  Calls Tryz.prog 124 #[mp, qv, .int .i64 t, .pointer (some ⟨rb, ro, none⟩), .pointer (some ⟨wb, wo, none⟩)] w fun e w' => e = .returned (.int .i64 (validR M q t S Wr)) ∧ Below w.heap.size w w' := by
 obtain ⟨b, lv, D, rfl, hFb, hh, hO, _, _⟩ := hm
 obtain ⟨p, c, rfl, hlc, hcells⟩ := ver_cells hO
 obtain ⟨wp, wc, rfl⟩ := extsAt_shape hw
 obtain ⟨qp, qc, rfl, hq1, hq2, hq3, hq4⟩ := id hq
 have c1 : w.cell? ⟨b, 1, none⟩ = some (.slice p M.length c) := by rw [cell_row hh]; rfl
 have hdef : validR M q t S Wr = if Wr.length = 0 then 0 else if M.any (fun v => decide (t < v.time) && (hasB S v.lba || hasB Wr v.lba)) = true then 8 else if q.any (fun x => againstB S x || againstB Wr x) = true then 8 else 0 := rfl
 have hHS : ∀ W, Below w.heap.size w W → ∀ x, I64 x → Calls Tryz.prog 151 #[.pointer (some ⟨rb, ro, none⟩), .int .i64 x] W fun r w' => r = .returned (.bool (hasB S x)) ∧ Below W.heap.size W w' := fun W hb x hx => refHas_at (cell_up hb hrc) (ExtsAt.up hr hb) hrs x hx
 have hHW : ∀ W, Below w.heap.size w W → ∀ x, I64 x → Calls Tryz.prog 151 #[.pointer (some ⟨wb, wo, none⟩), .int .i64 x] W fun r w' => r = .returned (.bool (hasB Wr x)) ∧ Below W.heap.size W w' := fun W hb x hx => refHas_at (cell_up hb hwc) (ExtsAt.up hw hb) hws x hx
 have hAS : ∀ W, Below w.heap.size w W → ∀ k (hk : k < q.length) tv, TxAt G W tv q[k] → Calls Tryz.prog 152 #[tv, .pointer (some ⟨rb, ro, none⟩)] W fun r w' => r = .returned (.bool (againstB S q[k])) ∧ Below W.heap.size W w' := fun W hb k hk tv ht => refAgainst_at (cell_up hb hrc) (ExtsAt.up hr hb) hrs ht
 have hAW : ∀ W, Below w.heap.size w W → ∀ k (hk : k < q.length) tv, TxAt G W tv q[k] → Calls Tryz.prog 152 #[tv, .pointer (some ⟨wb, wo, none⟩)] W fun r w' => r = .returned (.bool (againstB Wr q[k])) ∧ Below W.heap.size W w' := fun W hb k hk tv ht => refAgainst_at (cell_up hb hwc) (ExtsAt.up hw hb) hws ht
 have hTx : ∀ W, Below w.heap.size w W → ∀ k (hk : k < q.length), ∃ g o pv, qp = some ⟨g, o, none⟩ ∧ W.cell? ⟨g, o + k * 2, none⟩ = some (.int .i64 q[k].time) ∧ W.cell? ⟨g, o + k * 2 + 1, none⟩ = some pv ∧ pv.oneCell' = true ∧ TxAt G W (.agg #[.int .i64 q[k].time, pv]) q[k] := fun W hb k hk => by
  obtain ⟨_, _, hv, _, _, _, g4⟩ := TxsAt.up hq hb
  cases hv
  obtain ⟨g, o, hp, _, he⟩ := g4 k hk
  obtain ⟨pv, h1, h2, h3, h4⟩ := txE_txAt he
  exact ⟨g, o, pv, hp, h1, h2, h4, h3⟩
 have HCELLS := Lib.hid hcells
 have HDEF := Lib.hid hdef
 have HHS := Lib.hid hHS
 have HHW := Lib.hid hHW
 have HAS := Lib.hid hAS
 have HAW := Lib.hid hAW
 have HTX := Lib.hid hTx
 clear hcells hdef hHS hHW hAS hAW hTx
 clear hh hO hr hw hq hq4
 by_cases hz : Wr.length = 0
 case pos =>
  have hf : validR M q t S Wr = 0 := by rw [HDEF.out, if_pos hz]
  rw [hz] at hwc
  have HF := Lib.hid hf
  have HZ := Lib.hid hz
  clear hf hz
  go_enter Tryz.func124, Tryz.ntmps124
  go_wp2_with fail
  go_ret
  exact ⟨by rw [HF.out]; rfl, Below.refl _ _⟩
 case neg =>
  rw [if_neg hz] at HDEF
  have hzb : ((Wr.length : Int) == 0) = false := by rw [beq_eq_false_iff_ne]; omega
  have hzn : ¬ (Wr.length : Int) = 0 := by omega
  have HZ := Lib.hid hz
  clear hz
  go_enter Tryz.func124, Tryz.ntmps124
  go_wp2_with fail
  go_loopw [11] (fun i wr => ∃ k : Nat, k ≤ M.length ∧ i = .int .i64 k ∧ Hid (Below w.heap.size w wr) ∧ Hid ((M.take k).any (fun v => decide (t < v.time) && (hasB S v.lba || hasB Wr v.lba)) = false)) (fun i _ => M.length - (intOf i).toNat)
  case atStart => exact ⟨0, by omega, rfl, Lib.hid (Below.refl _ _), Lib.hid rfl⟩
  case round =>
   obtain ⟨k, hk, rfl, HB, HN⟩ := hrel
   have d1 := cell_up HB.out c1
   by_cases hlt : k < M.length
   case pos =>
    obtain ⟨g, dv, rfl, k0, k1, _, i0, i1, _⟩ := HCELLS.out k hlt
    have m0 := cell_up HB.out k0
    have m1 := cell_up HB.out k1
    have hnx := any_take_next HN.out hlt
    have hht := fun h => any_hit (p := fun v : RVer => decide (t < v.time) && (hasB S v.lba || hasB Wr v.lba)) hlt h
    generalize M[k] = y at *
    have hki : (k : Int) < (M.length : Int) := by omega
    have HNX := Lib.hid hnx
    have HHT := Lib.hid hht
    have HI0 := Lib.hid i0
    have HI1 := Lib.hid i1
    clear hnx hht i0 i1
    clear k0 k1
    by_cases h1 : t < y.time
    case neg =>
     have hg1 : decide (t < y.time) = false := decide_eq_false h1
     have hn2 := HNX.out (by show (decide _ && _) = false; rw [hg1]; rfl)
     have HN2 := Lib.hid hn2
     clear hn2
     go_wp2_with fail
     go_roundw
     case rel => exact ⟨k + 1, by omega, by go_num, HB, HN2⟩
     case measure => simp [intOf]; omega
    case pos =>
     have hg1 : decide (t < y.time) = true := decide_eq_true h1
     go_wp2_with fail
     refine (HHS.out wr HB.out y.lba HI0.out).mono ?_
     rintro r w2 ⟨rfl, hb2⟩
     have hb02 := Below.up HB.out hb2
     cases hq1' : hasB S y.lba with
     | true =>
      have hf : validR M q t S Wr = 8 := by rw [HDEF.out, if_pos (HHT.out (by show (decide _ && (_ || _)) = true; rw [hg1, hq1']; rfl))]
      have HF := Lib.hid hf
      have HB2 := Lib.hid hb2
      have HB02 := Lib.hid hb02
      have HQ1' := Lib.hid hq1'
      clear hf hb2 hb02 hq1'
      go_wp2_with fail
      go_ret
      exact ⟨by rw [HF.out]; rfl, HB02.out⟩
     | false =>
      have m02 := cell_up hb2 m0
      have d12 := cell_up hb2 d1
      have HB2 := Lib.hid hb2
      have HB02 := Lib.hid hb02
      clear hb2 hb02
      go_wp2_with fail
      refine (HHW.out w2 HB02.out y.lba HI0.out).mono ?_
      rintro r w3 ⟨rfl, hb3⟩
      have hb03 := Below.up HB02.out hb3
      cases hq2' : hasB Wr y.lba with
      | true =>
       have hf : validR M q t S Wr = 8 := by rw [HDEF.out, if_pos (HHT.out (by show (decide _ && (_ || _)) = true; rw [hg1, hq1', hq2']; rfl))]
       have HF := Lib.hid hf
       have HB3 := Lib.hid hb3
       have HB03 := Lib.hid hb03
       have HQ1' := Lib.hid hq1'
       have HQ2' := Lib.hid hq2'
       clear hf hb3 hb03 hq1' hq2'
       go_wp2_with fail
       go_ret
       exact ⟨by rw [HF.out]; rfl, HB03.out⟩
      | false =>
       have hn2 := HNX.out (by show (decide _ && (_ || _)) = false; rw [hg1, hq1', hq2']; rfl)
       have HN2 := Lib.hid hn2
       have HB3 := Lib.hid hb3
       have HB03 := Lib.hid hb03
       have HQ1' := Lib.hid hq1'
       have HQ2' := Lib.hid hq2'
       clear hn2 hb3 hb03 hq1' hq2'
       go_wp2_with fail
       go_roundw
       case rel => exact ⟨k + 1, by omega, by go_num, HB03, HN2⟩
       case measure => simp [intOf]; omega
   case neg =>
    have hMf : M.any (fun v => decide (t < v.time) && (hasB S v.lba || hasB Wr v.lba)) = false := by
     have := HN.out
     rwa [List.take_of_length_le (by omega)] at this
    have hdef2 := HDEF.out
    rw [if_neg (by rw [hMf]; decide)] at hdef2
    have hki : ¬ (k : Int) < (M.length : Int) := by omega
    obtain ⟨W4, rfl⟩ : ∃ W4 : World, W4 = wr := ⟨_, rfl⟩
    have HB4 := HB
    have HMF := Lib.hid hMf
    have HDEF2 := Lib.hid hdef2
    clear hMf hdef2
    clear HB
    go_wp2_with fail
    clear hki hk d1
    go_loopw [12] (fun i wr => ∃ k : Nat, k ≤ q.length ∧ i = .int .i64 k ∧ Hid (Below w.heap.size w wr) ∧ Hid ((q.take k).any (fun x => againstB S x || againstB Wr x) = false)) (fun i _ => q.length - (intOf i).toNat)
    case atStart => exact ⟨0, by omega, rfl, HB4, Lib.hid rfl⟩
    case round =>
     obtain ⟨k, hk, rfl, HB, HN⟩ := hrel
     by_cases hlt : k < q.length
     case neg =>
      have hf : validR M q t S Wr = 0 := by
       have := HN.out
       rw [List.take_of_length_le (by omega)] at this
       rw [HDEF2.out, if_neg (by rw [this]; decide)]
      have hki : ¬ (k : Int) < (q.length : Int) := by omega
      have HF := Lib.hid hf
      clear hf
      go_wp2_with fail
      go_ret
      exact ⟨by rw [HF.out]; rfl, HB.out⟩
     case pos =>
      obtain ⟨g, o, pv, rfl, t0, t1, h1c, hta⟩ := HTX.out wr HB.out k hlt
      have hnx := any_take_next HN.out hlt
      have hht := fun h => any_hit (p := fun x : Tx => againstB S x || againstB Wr x) hlt h
      have hasx := HAS.out wr HB.out k hlt _ hta
      have hawx := fun W hb tv ht => HAW.out W hb k hlt tv ht
      obtain ⟨pp, pc, rfl⟩ : ∃ pp pc, pv = .slice pp q[k].puts.length pc := by
       obtain ⟨pv', e, _, hp'⟩ := hta
       cases e
       obtain ⟨pp, pc, e2, _⟩ := hp'
       exact ⟨pp, pc, e2⟩
      generalize q[k] = y at *
      have hki : (k : Int) < (q.length : Int) := by omega
      have HNX := Lib.hid hnx
      have HHT := Lib.hid hht
      have HASX := Lib.hid hasx
      have HAWX := Lib.hid hawx
      have HTA := Lib.hid hta
      clear hnx hht hasx hawx hta
      clear h1c
      go_wp2_with fail
      refine (HASX.out).mono ?_
      rintro r w2 ⟨rfl, hb2⟩
      have hb02 := Below.up HB.out hb2
      cases hq1' : againstB S y with
      | true =>
       have hf : validR M q t S Wr = 8 := by rw [HDEF2.out, if_pos (HHT.out (by show (_ || _) = true; rw [hq1']; rfl))]
       have HF := Lib.hid hf
       have HB2 := Lib.hid hb2
       have HB02 := Lib.hid hb02
       have HQ1' := Lib.hid hq1'
       clear hf hb2 hb02 hq1'
       go_wp2_with fail
       go_ret
       exact ⟨by rw [HF.out]; rfl, HB02.out⟩
      | false =>
       have t02 := cell_up hb2 t0
       have t12 := cell_up hb2 t1
       have hta2 : TxAt G w2 (.agg #[.int .i64 y.time, .slice pp y.puts.length pc]) y := by
        obtain ⟨pv', e, i, hp'⟩ := HTA.out
        exact ⟨pv', e, i, hp'.up hb2⟩
       have haw2 := HAWX.out w2 hb02 _ hta2
       have HB2 := Lib.hid hb2
       have HB02 := Lib.hid hb02
       have HTA2 := Lib.hid hta2
       have HAW2 := Lib.hid haw2
       clear hb2 hb02 hta2 haw2
       go_wp2_with fail
       refine (HAW2.out).mono ?_
       rintro r w3 ⟨rfl, hb3⟩
       have hb03 := Below.up HB02.out hb3
       cases hq2' : againstB Wr y with
       | true =>
        have hf : validR M q t S Wr = 8 := by rw [HDEF2.out, if_pos (HHT.out (by show (_ || _) = true; rw [hq1', hq2']; rfl))]
        have HF := Lib.hid hf
        have HB3 := Lib.hid hb3
        have HB03 := Lib.hid hb03
        have HQ1' := Lib.hid hq1'
        have HQ2' := Lib.hid hq2'
        clear hf hb3 hb03 hq1' hq2'
        go_wp2_with fail
        go_ret
        exact ⟨by rw [HF.out]; rfl, HB03.out⟩
       | false =>
        have hn2 := HNX.out (by show (_ || _) = false; rw [hq1', hq2']; rfl)
        have HN2 := Lib.hid hn2
        have HB3 := Lib.hid hb3
        have HB03 := Lib.hid hb03
        have HQ1' := Lib.hid hq1'
        have HQ2' := Lib.hid hq2'
        clear hn2 hb3 hb03 hq1' hq2'
        go_wp2_with fail
        go_roundw
        case rel => exact ⟨k + 1, by omega, by go_num, HB03, HN2⟩
        case measure => simp [intOf]; omega
end Go.Proofs