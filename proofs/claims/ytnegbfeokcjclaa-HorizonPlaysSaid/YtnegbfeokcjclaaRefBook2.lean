/- scarpref11's Book: At, Low, Open. -/
import Derived.Test.YtnegbfeokcjclaaRefBook
import Derived.Test.YtnegbfeokcjclaaConcat0
import Derived.Test.YtnegbfeokcjclaaCutInts
import Derived.Lib.AppendZeros
import Derived.Deep.RegionLaw
import Derived.Deep.RegionHeld3
import Derived.Deep.DeepCutAuto
import Derived.Deep.CutRange
namespace Go.Proofs
open Go.RowKit Sc

/-- What the reference's Open answers, and leaves. -/
def rOpen (most : Int) (n : Nat) (t : Int) : Int := if t < 0 ∨ 1099511627776 < t then 1 else if most ≤ (n : Int) then 6 else 0
theorem ints_news {G : Nat → Prop} {w : World} {a : Addr} {n c : Nat} {l : List Int} (h : IntsAt G w (.slice (some a) n c) l) : ∀ j u, (l.map (Value.int .i64))[j]? = some u → w.cell? (a.add j) = some u := by
  obtain ⟨p, c', he, _, _, _, h4⟩ := h
  cases he
  intro j u hj
  have hjl : j < l.length := by have := (List.getElem?_eq_some_iff.1 hj).1; simpa using this
  obtain ⟨b, o, hp, _, hc, _⟩ := h4 j hjl
  cases hp
  rw [Nat.mul_one] at hc
  rw [List.getElem?_map, List.getElem?_eq_getElem hjl] at hj
  cases hj
  rw [addr_add]
  exact hc
theorem ints_one (l : List Int) : ∀ u ∈ l.map (Value.int .i64), u.oneCell' = true := fun u hu => by
  obtain ⟨z, _, rfl⟩ := List.mem_map.1 hu; rfl
theorem ownsRow_up' {w w' : World} {B T k n : Nat} {v : Value} {xs : List Value} (h : w.ownsRow B T k v n xs) (hb : Below w.heap.size w w') : w'.ownsRow B T k v n xs :=
  row_same (F := fun q => q < w.heap.size) (fun q hq => hb.block q hq) h (fun g hg => (h.lt g hg).2)
theorem ownsRow_lower0 {w : World} {B B' T k n : Nat} {v : Value} {xs : List Value} (h : w.ownsRow B T k v n xs) (hB : B' ≤ B) : w.ownsRow B' T k v n xs :=
  ⟨h.1, h.2.imp id fun ⟨g, cap, cur, e1, e0, e2⟩ => ⟨g, cap, cur, e1, Nat.le_trans hB e0, e2⟩⟩
/-- 'append([]int{}, l...)' onto an empty slice of one's own. -/
theorem push_at {w W : World} {k : Nat} (hW : Below w.heap.size w W) (hk : W.ownsRow w.heap.size 3 1 (.slice (some ⟨k, 0, none⟩) 0 0) 0 []) {G : Nat → Prop} {p : Option Addr} {c : Nat} {l : List Int} (h : IntsAt G W (.slice p l.length c) l) (hl : l.length ≤ 100000) :
    ∃ g1 c1 w1, (Builtin.append_ #[50, 50] 50 #[.slice (some ⟨k, 0, none⟩) 0 0, .slice p l.length c]).run Try.prog W = .ok (.slice (some ⟨g1, 0, none⟩) l.length c1) w1 ∧
      Hid (w1.ownsRow w.heap.size 3 1 (.slice (some ⟨g1, 0, none⟩) l.length c1) l.length (l.map (Value.int .i64))) ∧ Hid (Below w.heap.size w w1) ∧ Hid (W.grownBy w1 (some k)) := by
  obtain ⟨i0, hi0, hz0, hz1, hz2⟩ := info_parts infoInt
  have hkl := (hk.lt k rfl).1
  obtain ⟨v', w', hr, h2, h3, h4⟩ := run_append_any0 (P := Try.prog) W 50 50 w.heap.size 3 i0 (.int .i64 0) 1 8 Try.underlying50 hi0 hz0 hz1 hz2 rfl (by decide) _ 0 [] hk p l.length c (fun hp => by
    obtain ⟨p', c', he, q1, q2, q3, _⟩ := h
    cases he
    have := q3 hp
    omega) (l.map (Value.int .i64)) (by simp) (fun a ha => by subst ha; exact ints_news h) (ints_one l) (by unfold maxLen; omega) (by omega) hW.size
  have hb1 : Below w.heap.size w w' := hW.grown h3 hW.size (fun q hq => by cases hq; exact hkl)
  rw [Nat.zero_add, List.nil_append] at h2
  obtain ⟨hx, ⟨rfl, _⟩ | ⟨g, cap, cur, rfl, hrest⟩⟩ := id h2
  · exfalso
    rcases h4 with h4 | h4 <;> simp [Value.ownBlock] at h4
  · exact ⟨g, cap, w', hr, h2, hb1, h3⟩
/-- One number more. -/
theorem push_one {w W : World} (hW : Below w.heap.size w W) {g n c : Nat} {xs : List Value} (hown : W.ownsRow w.heap.size 3 1 (.slice (some ⟨g, 0, none⟩) n c) n xs) (b o : Nat) (x : Int) (hc : W.cell? ⟨b, o, none⟩ = some (.int .i64 x)) (hn : n ≤ 100000) :
    ∃ g2 c2 w2, (Builtin.append_ #[50, 50] 50 #[.slice (some ⟨g, 0, none⟩) n c, .slice (some ⟨b, o, none⟩) 1 1]).run Try.prog W = .ok (.slice (some ⟨g2, 0, none⟩) (n + 1) c2) w2 ∧
      Hid (w2.ownsRow w.heap.size 3 1 (.slice (some ⟨g2, 0, none⟩) (n + 1) c2) (n + 1) (xs ++ [.int .i64 x])) ∧ Hid (Below w.heap.size w w2) := by
  obtain ⟨i0, hi0, hz0, hz1, hz2⟩ := info_parts infoInt
  have hkl := (hown.lt g rfl).1
  obtain ⟨v', w', hr, h2, h3, h4⟩ := run_append_any0 (P := Try.prog) W 50 50 w.heap.size 3 i0 (.int .i64 0) 1 8 Try.underlying50 hi0 hz0 hz1 hz2 rfl (by decide) _ n xs hown (some ⟨b, o, none⟩) 1 1 (fun hp => by cases hp) [.int .i64 x] rfl (fun a ha j u hj => by
    cases ha
    cases j with
    | zero => simp only [List.getElem?_cons_zero] at hj; cases hj; rw [addr_add]; exact hc
    | succ j => simp at hj) (by simp [Value.oneCell']) (by unfold maxLen; omega) (by omega) hW.size
  have hb1 : Below w.heap.size w w' := hW.grown h3 hW.size (fun q hq => by cases hq; exact hkl)
  obtain ⟨hx, ⟨rfl, _⟩ | ⟨g', cap, cur, rfl, hrest⟩⟩ := id h2
  · exfalso
    rcases h4 with h4 | h4 <;> simp [Value.ownBlock] at h4
  · exact ⟨g', cap, w', hr, h2, hb1⟩
/-- Both at once, in whatever order the two new blocks are laid. -/
theorem push_all {w W0 W1 : World} {k b : Nat} {x : Int} (hW : Below w.heap.size w W0) (hk : W0.ownsRow w.heap.size 3 1 (.slice (some ⟨k, 0, none⟩) 0 0) 0 []) (hb : b ≠ k) (hx : W0.cell? ⟨b, 0, none⟩ = some (.int .i64 x)) {G : Nat → Prop} {p : Option Addr} {c : Nat} {l : List Int} (h : IntsAt G W0 (.slice p l.length c) l) (hl : l.length ≤ 90000) (hW1 : W1 = W0) :
    ∃ g1 c1 w1 g2 c2 w2, (Builtin.append_ #[50, 50] 50 #[.slice (some ⟨k, 0, none⟩) 0 0, .slice p l.length c]).run Try.prog W0 = .ok (.slice (some ⟨g1, 0, none⟩) l.length c1) w1 ∧
      (Builtin.append_ #[50, 50] 50 #[.slice (some ⟨g1, 0, none⟩) l.length c1, .slice (some ⟨b, 0, none⟩) 1 1]).run Try.prog w1 = .ok (.slice (some ⟨g2, 0, none⟩) (l.length + 1) c2) w2 ∧
      Hid (w2.ownsRow w.heap.size 3 1 (.slice (some ⟨g2, 0, none⟩) (l.length + 1) c2) (l.length + 1) (l.map (Value.int .i64) ++ [.int .i64 x])) ∧ Hid (Below w.heap.size w w2) := by
  obtain ⟨g1, c1, w1, h1, h2, h3, h4⟩ := push_at hW hk h (by omega)
  have hxl := World.block_lt_of_cell? _ _ hx
  have hx1 : w1.cell? ⟨b, 0, none⟩ = some (.int .i64 x) := (World.cell?_of_block (h4.out.block b hxl (fun e => hb (by cases e; rfl)))).trans hx
  obtain ⟨g2, c2, w2, k1, k2, k3⟩ := push_one h3.out h2.out b 0 x hx1 (by omega)
  exact ⟨g1, c1, w1, g2, c2, w2, h1, k1, k2, k3⟩

/-- The handles' row turned for a longer one. -/
def OpenMid (F : Nat → Prop) (b : Nat) (most last : Int) (hs ts : List Int) (tv : Value) (w wx : World) : Prop :=
  ∃ hv, wx.heap[b]? = some (.cells #[.int .i64 most, hv, tv, .int .i64 last] 63 (0, 0)) ∧ Chg F w wx ∧ IntsAt (fun q => (F q ∨ New w wx q) ∧ q ≠ b) wx hv hs ∧ IntsAt (fun q => F q ∧ q ≠ b) wx tv ts
theorem open_mid {F : Nat → Prop} {b : Nat} {most last : Int} {hs ts : List Int} {hv tv : Value} {w w2 w4 : World} (hF : F b) (hd : Dom F w) (h2 : w2.heap[b]? = some (.cells #[.int .i64 most, hv, tv, .int .i64 last] 63 (0, 0))) (hc : Chg F w w2) (hz : w2.heap.size = w.heap.size)
    (ht : IntsAt (fun q => F q ∧ q ≠ b) w2 tv ts) (hi : ∀ x ∈ hs ++ [last], I64 x) {g c : Nat} (hb : Below w2.heap.size w2 w4) (ho : w4.ownsRow w2.heap.size 3 1 (.slice (some ⟨g, 0, none⟩) (hs.length + 1) c) (hs.length + 1) (hs.map (Value.int .i64) ++ [.int .i64 last])) :
    OpenMid F b most last (hs ++ [last]) ts tv w (w4.setCell ⟨b, 1, none⟩ (.slice (some ⟨g, 0, none⟩) (hs.length + 1) c)) := by
  have hbl := hd b hF
  have hh4 := (hb.block b (by omega)).trans h2
  have hs4 : Same (fun q => q ≠ b) w4 (w4.setCell ⟨b, 1, none⟩ (.slice (some ⟨g, 0, none⟩) (hs.length + 1) c)) := fun q hq => Below.heap_setCell _ _ _ q hq
  have hz4 : (w4.setCell ⟨b, 1, none⟩ (.slice (some ⟨g, 0, none⟩) (hs.length + 1) c)).heap.size = w4.heap.size := by simp [World.setCell]
  have hint := intsAt_own (fun q => (F q ∨ New w (w4.setCell ⟨b, 1, none⟩ (.slice (some ⟨g, 0, none⟩) (hs.length + 1) c)) q) ∧ q ≠ b) (l := hs ++ [last]) (by simp) hi (fun q h1 h2 => ⟨.inr ⟨by omega, by rw [hz4]; exact h2⟩, by omega⟩) (show w4.ownsRow w2.heap.size 3 1 (.slice (some ⟨g, 0, none⟩) (hs.length + 1) c) (hs.length + 1) ((hs ++ [last]).map (Value.int .i64)) by rw [List.map_append]; exact ho)
  refine ⟨_, by rw [heap_set_same hh4]; rfl, ?_, ?_, ?_⟩
  · exact (hc.then_up hb).trans (chg_set w4 b 1 _ hF)
  · exact IntsAt.same hint (hs4.mono fun q hq => hq.2)
  · exact IntsAt.same (IntsAt.same ht fun q hq => hb.block q (by have := hd q hq.1; omega)) (hs4.mono fun q hq => hq.2)

/-- The times' row turned for a longer one: what is left. -/
theorem open_end {F : Nat → Prop} {b : Nat} {most last t : Int} {hs ts : List Int} {hv tv : Value} {w wx w4 : World} (hF : F b) (hd : Dom F w) (h2 : wx.heap[b]? = some (.cells #[.int .i64 most, hv, tv, .int .i64 last] 63 (0, 0))) (hc : Chg F w wx)
    (hh : IntsAt (fun q => (F q ∨ New w wx q) ∧ q ≠ b) wx hv hs) (hi : ∀ x ∈ ts ++ [t], I64 x) {g c : Nat} (hb : Below wx.heap.size wx w4) (ho : w4.ownsRow wx.heap.size 3 1 (.slice (some ⟨g, 0, none⟩) (ts.length + 1) c) (ts.length + 1) (ts.map (Value.int .i64) ++ [.int .i64 t])) :
    Chg F w (w4.setCell ⟨b, 2, none⟩ (.slice (some ⟨g, 0, none⟩) (ts.length + 1) c)) ∧ RBookP (.pointer (some ⟨b, 0, none⟩)) most hs (ts ++ [t]) last (fun q => F q ∨ New w (w4.setCell ⟨b, 2, none⟩ (.slice (some ⟨g, 0, none⟩) (ts.length + 1) c)) q) (w4.setCell ⟨b, 2, none⟩ (.slice (some ⟨g, 0, none⟩) (ts.length + 1) c)) := by
  have hbl := hd b hF
  have hz1 := hc.size
  have hz2 := hb.size
  have hh4 := (hb.block b (by omega)).trans h2
  have hs4 : Same (fun q => q ≠ b) w4 (w4.setCell ⟨b, 2, none⟩ (.slice (some ⟨g, 0, none⟩) (ts.length + 1) c)) := fun q hq => Below.heap_setCell _ _ _ q hq
  have hz4 : (w4.setCell ⟨b, 2, none⟩ (.slice (some ⟨g, 0, none⟩) (ts.length + 1) c)).heap.size = w4.heap.size := by simp [World.setCell]
  have hint := intsAt_own (fun q => (F q ∨ New w (w4.setCell ⟨b, 2, none⟩ (.slice (some ⟨g, 0, none⟩) (ts.length + 1) c)) q) ∧ q ≠ b) (l := ts ++ [t]) (by simp) hi (fun q h1 h2 => ⟨.inr ⟨by omega, by rw [hz4]; exact h2⟩, by omega⟩) (show w4.ownsRow wx.heap.size 3 1 (.slice (some ⟨g, 0, none⟩) (ts.length + 1) c) (ts.length + 1) ((ts ++ [t]).map (Value.int .i64)) by rw [List.map_append]; exact ho)
  refine ⟨(hc.then_up hb).trans (chg_set w4 b 2 _ hF), b, hv, _, rfl, .inl hF, by rw [heap_set_same hh4]; rfl, ?_, ?_⟩
  · refine SlAt.mono (E' := intE) (IntsAt.same (IntsAt.same hh fun q hq => hb.block q (hq.1.elim (fun h => by have := hd q h; omega) fun h => h.2)) (hs4.mono fun q hq => hq.2)) (fun q hq => ⟨hq.1.imp id fun h => ⟨h.1, by rw [hz4]; have := h.2; omega⟩, hq.2⟩) fun _ _ _ h => h
  · exact IntsAt.same hint (hs4.mono fun q hq => hq.2)

set_option maxRecDepth 100000 in
set_option maxHeartbeats 2000000 in
theorem refOpen_sep {W w : World} {L : List Asn} (h : Hid (Sep W L w)) (i : Nat) {b : Nat} {most last : Int} {hs ts : List Int} (hi : L[i]? = some (RBookA (.pointer (some ⟨b, 0, none⟩)) most hs ts last)) (t : Int) (hl0 : 0 ≤ last) (hl1 : last ≤ 1000000) (n1 : hs.length ≤ 50000) (n2 : ts.length ≤ 50000) (it : I64 t) :
    Calls Try.prog 32 #[.pointer (some ⟨b, 0, none⟩), .int .i64 t] w fun e w' => e = .returned (.tuple #[.int .i64 (if rOpen most hs.length t = 0 then last + 1 else 0), .int .i64 (rOpen most hs.length t)]) ∧
      Hid (Sep W (L.set i (RBookA (.pointer (some ⟨b, 0, none⟩)) most (if rOpen most hs.length t = 0 then hs ++ [last + 1] else hs) (if rOpen most hs.length t = 0 then ts ++ [t] else ts) (if rOpen most hs.length t = 0 then last + 1 else last))) w') := by
  obtain ⟨F, G, hF, _, _, hdF, _, K⟩ := h.out.at i hi
  obtain ⟨b', hv, tv, hbv, hFb, hh, h4, h5⟩ := hF
  cases hbv
  obtain ⟨hp, hc, rfl⟩ := intsAt_shape h4
  obtain ⟨tp, tc, rfl⟩ := intsAt_shape h5
  have hbl := hdF b hFb
  have hc0 : w.cell? ⟨b, 0, none⟩ = some (.int .i64 most) := by rw [cell_row hh]; rfl
  have hc1 : w.cell? ⟨b, 1, none⟩ = some (.slice hp hs.length hc) := by rw [cell_row hh]; rfl
  have hc2 : w.cell? ⟨b, 2, none⟩ = some (.slice tp ts.length tc) := by rw [cell_row hh]; rfl
  have hc3 : w.cell? ⟨b, 3, none⟩ = some (.int .i64 last) := by rw [cell_row hh]; rfl
  have hz3 : w.frozen? ⟨b, 3, none⟩ = false := fz_row hh 3
  have hkeep : ∀ w', Below w.heap.size w w' → Hid (Sep W (L.set i (RBookA (.pointer (some ⟨b, 0, none⟩)) most hs ts last)) w') := fun w' hb => K w' F (RBookA (.pointer (some ⟨b, 0, none⟩)) most hs ts last) (Chg.of_below hb fun k h1 h2 => by omega) (fun k hk => .inl hk) (RBookP.same ⟨b, _, _, rfl, hFb, hh, h4, h5⟩ (Dom.same hdF hb))
  have hdef : rOpen most hs.length t = if t < 0 ∨ 1099511627776 < t then 1 else if most ≤ (hs.length : Int) then 6 else 0 := rfl
  have HH := Lib.hid hh
  have H4 := Lib.hid h4
  have H5 := Lib.hid h5
  have HKEEP := Lib.hid hkeep
  have H := Lib.hid h
  have HK := Lib.hid K
  clear hh h4 h5 hkeep h K
  rcases (show t < 0 ∨ (0 ≤ t ∧ 1099511627776 < t) ∨ (0 ≤ t ∧ t ≤ 1099511627776 ∧ most ≤ (hs.length : Int)) ∨ (0 ≤ t ∧ t ≤ 1099511627776 ∧ (hs.length : Int) < most) by omega) with a | ⟨a, a1⟩ | ⟨a, a1, a2⟩ | ⟨a, a1, a2⟩
  case inl =>
    rw [if_pos (.inl a)] at hdef
    rw [hdef]
    have HDEF := Lib.hid hdef
    clear hdef
    go_enter Try.func32, Try.ntmps32
    go_wp2
    go_ret2
    exact ⟨rfl, HKEEP.out w (Below.refl _ _)⟩
  case inr.inl =>
    rw [if_pos (.inr a1)] at hdef
    rw [hdef]
    have HDEF := Lib.hid hdef
    clear hdef
    go_enter Try.func32, Try.ntmps32
    go_wp2
    go_ret2
    exact ⟨rfl, HKEEP.out w (Below.refl _ _)⟩
  case inr.inr.inl =>
    rw [if_neg (by omega), if_pos a2] at hdef
    rw [hdef]
    have HDEF := Lib.hid hdef
    clear hdef
    go_enter Try.func32, Try.ntmps32
    go_wp2_with fail
    go_quiet (fail)
    have hb := below_drewN (Below.refl w.heap.size w) nq
    have HB := Lib.hid hb
    clear hb
    go_wp2_with fail
    go_ret2
    exact ⟨rfl, HKEEP.out _ HB.out⟩
  case inr.inr.inr =>
    rw [if_neg (by omega), if_neg (by omega)] at hdef
    rw [hdef]
    have hw1 : IntKind.i64.wrap (last + 1) = last + 1 := IntWalk.i64_in _ (by omega)
    have HDEF := Lib.hid hdef
    clear hdef
    go_enter Try.func32, Try.ntmps32
    go_wp2_with fail
    go_quiet (fail)
    have hbq := below_drewN (Below.refl w.heap.size w) nq
    have hd0 := cell_up hbq hc0
    have hd1 := cell_up hbq hc1
    have hd2 := cell_up hbq hc2
    have hd3 := cell_up hbq hc3
    have hdz : (w.drewN nq).frozen? ⟨b, 3, none⟩ = false := hz3
    have hhq := (hbq.block b hbl).trans HH.out
    have hzq : (w.drewN nq).heap.size = w.heap.size := rfl
    generalize w.drewN nq = w1 at *
    have HBQ := Lib.hid hbq
    have HHQ := Lib.hid hhq
    clear hbq hhq
    clear hc0 hc1 hc2 hc3 hz3
    go_upto_region 6 with fail
    have hh2 : (w1.setCell ⟨b, 3, none⟩ (.int .i64 (last + 1))).heap[b]? = some (.cells #[.int .i64 most, .slice hp hs.length hc, .slice tp ts.length tc, .int .i64 (last + 1)] 63 (0, 0)) := by rw [heap_set_same HHQ.out]; rfl
    have hch2 : Chg F w (w1.setCell ⟨b, 3, none⟩ (.int .i64 (last + 1))) := (Chg.of_below HBQ.out fun k h1 h2 => by omega).trans (chg_set w1 b 3 _ hFb)
    have hs2 : Same (fun q => F q ∧ q ≠ b) w (w1.setCell ⟨b, 3, none⟩ (.int .i64 (last + 1))) := fun q hq => (Below.heap_setCell _ _ _ q hq.2).trans (HBQ.out.block q (hdF q hq.1))
    have h42 := IntsAt.same H4.out hs2
    have h52 := IntsAt.same H5.out hs2
    have hI : ∀ x ∈ hs ++ [last + 1], I64 x := fun x hx => by
      rcases List.mem_append.1 hx with hx | hx
      · obtain ⟨j, hj, rfl⟩ := List.mem_iff_getElem.1 hx
        obtain ⟨_, _, _, _, _, _, g4⟩ := H4.out
        obtain ⟨_, _, _, _, _, hi⟩ := g4 j hj
        exact hi
      · rw [List.mem_singleton] at hx; subst hx; unfold I64; omega
    have hsz2 : (w1.setCell ⟨b, 3, none⟩ (.int .i64 (last + 1))).heap.size = w.heap.size := by rw [← hzq]; simp [World.setCell]
    generalize (w1.setCell ⟨b, 3, none⟩ (.int .i64 (last + 1))) = w2 at *
    have hb1 : w2.cell? ⟨b, 1, none⟩ = some (.slice hp hs.length hc) := by rw [cell_row hh2]; rfl
    have hb3 : w2.cell? ⟨b, 3, none⟩ = some (.int .i64 (last + 1)) := by rw [cell_row hh2]; rfl
    have hbl2 : b < w2.heap.size := by omega
    -- the two new blocks, in whatever order
    have hdr : Below w2.heap.size w2.drew w2.drew := Below.refl _ _
    obtain ⟨g1, c1, w3, hA1, HA2, HA3, HA4⟩ := push_at (w := w2.drew) (W := w2.drew.alloc (.cells #[] 3 (0, 0))) (k := w2.heap.size) (below_alloc _ _) (owns_empty w2.drew _ 1) (IntsAt.up (IntsAt.up h42 (below_drewN (Below.refl _ _) 1)) (below_alloc _ _)) (by omega)
    have hxA : (w3.alloc (.cells #[.int .i64 (last + 1)] 3)).cell? ⟨w3.heap.size, 0, none⟩ = some (.int .i64 (last + 1)) := by rw [cell_row (heap_alloc_new w3 _)]; rfl
    obtain ⟨g2, c2, w4, hA5, HA6, HA7⟩ := push_one (w := w2.drew) (W := w3.alloc (.cells #[.int .i64 (last + 1)] 3)) (Below.up HA3.out (below_alloc _ _)) (ownsRow_up' HA2.out (below_alloc _ _)) w3.heap.size 0 (last + 1) hxA (by omega)
    have hzE : (w2.drew.alloc (.cells #[] 3 (0, 0))).heap.size = w2.heap.size + 1 := by simp
    have hzL : (w2.drew.alloc (.cells #[.int .i64 (last + 1)] 3)).heap.size = w2.heap.size + 1 := by simp
    have hB0 := heap_alloc_new (w2.drew.alloc (.cells #[] 3 (0, 0))) (.cells #[.int .i64 (last + 1)] 3)
    rw [hzE] at hB0
    obtain ⟨gB, cB, wB, gB2, cB2, wB2, hB1, hB2, HB3, HB4⟩ := push_all (w := w2.drew) (W0 := (w2.drew.alloc (.cells #[] 3 (0, 0))).alloc (.cells #[.int .i64 (last + 1)] 3)) (k := w2.heap.size) (b := w2.heap.size + 1) (x := last + 1) (Below.up (below_alloc _ _) (below_alloc _ _)) (ownsRow_up' (owns_empty w2.drew _ 1) (below_alloc _ _)) (by omega) (by rw [cell_row hB0]; rfl) (IntsAt.up (IntsAt.up (IntsAt.up h42 (below_drewN (Below.refl _ _) 1)) (below_alloc _ _)) (below_alloc _ _)) (by omega) rfl
    have hC0 := owns_empty (w2.drew.alloc (.cells #[.int .i64 (last + 1)] 3)) 3 1
    rw [hzL] at hC0
    obtain ⟨gC, cC, wC, gC2, cC2, wC2, hC1, hC2, HC3, HC4⟩ := push_all (w := w2.drew) (W0 := (w2.drew.alloc (.cells #[.int .i64 (last + 1)] 3)).alloc (.cells #[] 3 (0, 0))) (k := w2.heap.size + 1) (b := w2.heap.size) (x := last + 1) (Below.up (below_alloc _ _) (below_alloc _ _)) (ownsRow_lower0 hC0 (by show w2.heap.size ≤ _; omega)) (by omega) (cell_up (below_alloc _ _) (show (w2.drew.alloc (.cells #[.int .i64 (last + 1)] 3)).cell? ⟨w2.drew.heap.size, 0, none⟩ = _ by rw [cell_row (heap_alloc_new w2.drew _)]; rfl)) (IntsAt.up (IntsAt.up (IntsAt.up h42 (below_drewN (Below.refl _ _) 1)) (below_alloc _ _)) (below_alloc _ _)) (by omega) rfl
    have HH2 := Lib.hid hh2
    have HCH2 := Lib.hid hch2
    have H42 := Lib.hid h42
    have H52 := Lib.hid h52
    have HI := Lib.hid hI
    have HSZ2 := Lib.hid hsz2
    have HS2 := Lib.hid hs2
    clear hh2 hch2 h42 h52 hI hsz2 hs2
    clear hd0 hd1 hd2 hd3 hdz
    have hbE1 : (w2.alloc (.cells #[] 3 (0, 0))).cell? ⟨b, 1, none⟩ = some (.slice hp hs.length hc) := cell_up (below_alloc w2 _) hb1
    have hbE3 : (w2.alloc (.cells #[] 3 (0, 0))).cell? ⟨b, 3, none⟩ = some (.int .i64 (last + 1)) := cell_up (below_alloc w2 _) hb3
    have hbL1 : (w2.alloc (.cells #[.int .i64 (last + 1)] 3)).cell? ⟨b, 1, none⟩ = some (.slice hp hs.length hc) := cell_up (below_alloc w2 _) hb1
    have hbL3 : (w2.alloc (.cells #[.int .i64 (last + 1)] 3)).cell? ⟨b, 3, none⟩ = some (.int .i64 (last + 1)) := cell_up (below_alloc w2 _) hb3
    have hbEL1 : ((w2.alloc (.cells #[] 3 (0, 0))).alloc (.cells #[.int .i64 (last + 1)] 3)).cell? ⟨b, 1, none⟩ = some (.slice hp hs.length hc) := cell_up (below_alloc _ _) hbE1
    have hbEL3 : ((w2.alloc (.cells #[] 3 (0, 0))).alloc (.cells #[.int .i64 (last + 1)] 3)).cell? ⟨b, 3, none⟩ = some (.int .i64 (last + 1)) := cell_up (below_alloc _ _) hbE3
    have hbLE1 : ((w2.alloc (.cells #[.int .i64 (last + 1)] 3)).alloc (.cells #[] 3 (0, 0))).cell? ⟨b, 1, none⟩ = some (.slice hp hs.length hc) := cell_up (below_alloc _ _) hbL1
    have hbLE3 : ((w2.alloc (.cells #[.int .i64 (last + 1)] 3)).alloc (.cells #[] 3 (0, 0))).cell? ⟨b, 3, none⟩ = some (.int .i64 (last + 1)) := cell_up (below_alloc _ _) hbL3
    have hw31 : w3.cell? ⟨b, 1, none⟩ = some (.slice hp hs.length hc) := (HA3.out.cell (p := ⟨b, 1, none⟩) hbl2).trans hb1
    have hw33 : w3.cell? ⟨b, 3, none⟩ = some (.int .i64 (last + 1)) := (HA3.out.cell (p := ⟨b, 3, none⟩) hbl2).trans hb3
    have h4b1 : w4.cell? ⟨b, 1, none⟩ = some (.slice hp hs.length hc) := (HA7.out.cell (p := ⟨b, 1, none⟩) hbl2).trans hb1
    have h4bz : w4.frozen? ⟨b, 1, none⟩ = false := (HA7.out.frozen (p := ⟨b, 1, none⟩) hbl2).trans (fz_row HH2.out 1)
    have hBb1 : wB2.cell? ⟨b, 1, none⟩ = some (.slice hp hs.length hc) := (HB4.out.cell (p := ⟨b, 1, none⟩) hbl2).trans hb1
    have hBbz : wB2.frozen? ⟨b, 1, none⟩ = false := (HB4.out.frozen (p := ⟨b, 1, none⟩) hbl2).trans (fz_row HH2.out 1)
    have hCb1 : wC2.cell? ⟨b, 1, none⟩ = some (.slice hp hs.length hc) := (HC4.out.cell (p := ⟨b, 1, none⟩) hbl2).trans hb1
    have hCbz : wC2.frozen? ⟨b, 1, none⟩ = false := (HC4.out.frozen (p := ⟨b, 1, none⟩) hbl2).trans (fz_row HH2.out 1)
    have hmA := open_mid (w2 := w2.drew) hFb hdF HH2.out (HCH2.out.then_up (below_drewN (Below.refl _ _) 1)) HSZ2.out H52.out HI.out HA7.out HA6.out
    have hmB := open_mid (w2 := w2.drew) hFb hdF HH2.out (HCH2.out.then_up (below_drewN (Below.refl _ _) 1)) HSZ2.out H52.out HI.out HB4.out HB3.out
    have hmC := open_mid (w2 := w2.drew) hFb hdF HH2.out (HCH2.out.then_up (below_drewN (Below.refl _ _) 1)) HSZ2.out H52.out HI.out HC4.out HC3.out
    have zA1 : (Builtin.append_ #[50, 50] 50 #[.slice (some ⟨w2.heap.size, 0, none⟩) 0 0, .slice hp hs.length hc]).run Try.prog ((w2.alloc (.cells #[] 3 (0, 0))).drew) = .ok (.slice (some ⟨g1, 0, none⟩) hs.length c1) w3 := hA1
    have zB1 : (Builtin.append_ #[50, 50] 50 #[.slice (some ⟨w2.heap.size, 0, none⟩) 0 0, .slice hp hs.length hc]).run Try.prog (((w2.alloc (.cells #[] 3 (0, 0))).alloc (.cells #[.int .i64 (last + 1)] 3)).drew) = .ok (.slice (some ⟨gB, 0, none⟩) hs.length cB) wB := hB1
    have zC1 : (Builtin.append_ #[50, 50] 50 #[.slice (some ⟨w2.heap.size + 1, 0, none⟩) 0 0, .slice hp hs.length hc]).run Try.prog (((w2.alloc (.cells #[.int .i64 (last + 1)] 3)).alloc (.cells #[] 3 (0, 0))).drew) = .ok (.slice (some ⟨gC, 0, none⟩) hs.length cC) wC := hC1
    clear hA1 hB1 hC1
    have HMA := Lib.hid hmA
    have HMB := Lib.hid hmB
    have HMC := Lib.hid hmC
    clear hmA hmB hmC
    clear hxA hzE hzL hB0 hC0 hdr
    go_cut [] from 29 to 43 (fun wx => Hid (OpenMid F b most (last + 1) (hs ++ [last + 1]) ts (.slice tp ts.length tc) w wx))
    case first =>
      go_wp2_with fail
      go_region_law ((first
        | ((with_reducible refine step_append_run ((w2.alloc (.cells #[] 3 (0, 0))).drew) ?_ (.tmp 30) (.tmp 34) 50 ?_ _ _ ?_ ?_ zA1 ?_); (· rfl); (· rfl); (· rfl); (· rfl))
        | ((with_reducible refine step_append_run (((w2.alloc (.cells #[] 3 (0, 0))).alloc (.cells #[.int .i64 (last + 1)] 3)).drew) ?_ (.tmp 30) (.tmp 34) 50 ?_ _ _ ?_ ?_ zB1 ?_); (· rfl); (· rfl); (· rfl); (· rfl))
        | ((with_reducible refine step_append_run (((w2.alloc (.cells #[.int .i64 (last + 1)] 3)).alloc (.cells #[] 3 (0, 0))).drew) ?_ (.tmp 30) (.tmp 34) 50 ?_ _ _ ?_ ?_ zC1 ?_); (· rfl); (· rfl); (· rfl); (· rfl))
        | ((with_reducible refine step_append_run (w3.alloc (.cells #[.int .i64 (last + 1)] 3)) ?_ (.tmp 35) (.tmp 40) 50 ?_ _ _ ?_ ?_ hA5 ?_); (· rfl); (· rfl); (· rfl); (· rfl))
        | ((with_reducible refine step_append_run wB ?_ (.tmp 35) (.tmp 40) 50 ?_ _ _ ?_ ?_ hB2 ?_); (· rfl); (· rfl); (· rfl); (· rfl))
        | ((with_reducible refine step_append_run wC ?_ (.tmp 35) (.tmp 40) 50 ?_ _ _ ?_ ?_ hC2 ?_); (· rfl); (· rfl); (· rfl); (· rfl))))
      all_goals
        go_wp2_with fail
        go_meet
        case rel => first | exact HMA.out | exact HMB.out | exact HMC.out
    case rest =>
      obtain ⟨wx, rfl⟩ : ∃ wx : World, wx = wc := ⟨_, rfl⟩
      obtain ⟨hvx, hx0, hx1, hx2, hx3⟩ := hcut.out
      have hblx : b < wx.heap.size := by have := hx1.size; omega
      have hk2 : wx.cell? ⟨b, 2, none⟩ = some (.slice tp ts.length tc) := by rw [cell_row hx0]; rfl
      have hk2e : (wx.alloc (.cells #[] 3 (0, 0))).cell? ⟨b, 2, none⟩ = some (.slice tp ts.length tc) := cell_up (below_alloc wx _) hk2
      obtain ⟨gT, cT, wT, hT1, HT2, HT3, HT4⟩ := push_at (w := wx) (W := wx.alloc (.cells #[] 3 (0, 0))) (k := wx.heap.size) (below_alloc _ _) (owns_empty wx _ 1) (IntsAt.up hx3 (below_alloc _ _)) (by omega)
      have hxT : (wT.alloc (.cells #[.int .i64 t] 3)).cell? ⟨wT.heap.size, 0, none⟩ = some (.int .i64 t) := by rw [cell_row (heap_alloc_new wT _)]; rfl
      obtain ⟨gU, cU, wU, hU1, HU2, HU3⟩ := push_one (w := wx) (W := wT.alloc (.cells #[.int .i64 t] 3)) (Below.up HT3.out (below_alloc _ _)) (ownsRow_up' HT2.out (below_alloc _ _)) wT.heap.size 0 t hxT (by omega)
      have hI2 : ∀ x ∈ ts ++ [t], I64 x := fun x hx => by
        rcases List.mem_append.1 hx with hx | hx
        · obtain ⟨j, hj, rfl⟩ := List.mem_iff_getElem.1 hx
          obtain ⟨_, _, _, _, _, _, g4⟩ := hx3
          obtain ⟨_, _, _, _, _, hi⟩ := g4 j hj
          exact hi
        · rw [List.mem_singleton] at hx; subst hx; exact it
      obtain ⟨he1, he2⟩ := open_end hFb hdF hx0 hx1 hx2 hI2 HU3.out HU2.out
      have hU2z : wU.frozen? ⟨b, 2, none⟩ = false := (HU3.out.frozen (p := ⟨b, 2, none⟩) hblx).trans (fz_row hx0 2)
      have hU22 : wU.cell? ⟨b, 2, none⟩ = some (.slice tp ts.length tc) := (HU3.out.cell (p := ⟨b, 2, none⟩) hblx).trans hk2
      have hU23 : wU.cell? ⟨b, 3, none⟩ = some (.int .i64 (last + 1)) := (HU3.out.cell (p := ⟨b, 3, none⟩) hblx).trans (by rw [cell_row hx0]; rfl)
      have hfin := HK.out _ _ (RBookA (.pointer (some ⟨b, 0, none⟩)) most (hs ++ [last + 1]) (ts ++ [t]) (last + 1)) he1 (fun q hq => hq) he2
      have HFIN := Lib.hid hfin
      clear hfin
      clear hx0 hx1 hx2 hx3 he1 he2 hI2 hxT hcut
      clear zA1 zB1 zC1 hA5 hB2 hC2 hbE1 hbE3 hbL1 hbL3 hbEL1 hbEL3 hbLE1 hbLE3 hw31 hw33 h4b1 h4bz hBb1 hBbz hCb1 hCbz
      go_wp2_with (at_builtin; first | refine Lib.wpList_append_run _ rfl _ _ _ _ rfl _ _ rfl rfl _ _ hT1 ?_ | refine Lib.wpList_append_run _ rfl _ _ _ _ rfl _ _ rfl rfl _ _ hU1 ?_)
      go_ret2
      refine ⟨rfl, ?_⟩
      exact HFIN
end Go.Proofs
