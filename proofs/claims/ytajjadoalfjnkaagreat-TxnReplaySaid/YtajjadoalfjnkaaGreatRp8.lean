/- Texts of this claim, one behind the other: RefBuf2, ViewReads, RefView3, Rm1, Rm2, Rm3, Rm4, CutInts. -/
import Derived.Test.YtajjadoalfjnkaaGreatRp7
namespace Go.Proofs
open Go.RowKit Sc
def RowP (D : Nat → Prop) (W : World) (l : List Put) (xs : List Value) : Prop := xs.length = l.length * 2 ∧ ∀ j (h : j < l.length), ∃ pv, xs[j * 2]? = some (.int .i64 l[j].lba) ∧ xs[j * 2 + 1]? = some pv ∧ I64 l[j].lba ∧ BytesAt D W pv l[j].data
theorem RowP.nil (D : Nat → Prop) (W : World) : RowP D W [] [] := ⟨rfl, fun j h => absurd h (by simp)⟩
theorem RowP.snoc {D : Nat → Prop} {W : World} {l : List Put} {xs : List Value} (h : RowP D W l xs) {t : Put} {pv : Value} (ht : I64 t.lba) (hp : BytesAt D W pv t.data) : RowP D W (l ++ [t]) (xs ++ [.int .i64 t.lba, pv]) := by
 obtain ⟨h1, h2⟩ := h
 refine ⟨by simp [h1]; omega, fun j hj => ?_⟩
 by_cases hlt : j < l.length
 ·obtain ⟨p, e1, e2, e3, e4⟩ := h2 j hlt
  rw [List.getElem_append_left hlt]
  exact ⟨p, by rw [List.getElem?_append_left (by omega)]; exact e1, by rw [List.getElem?_append_left (by omega)]; exact e2, e3, e4⟩
 ·have hj0 : j = l.length := by simp at hj; omega
  subst hj0
  rw [List.getElem_append_right (Nat.le_refl _)]
  simp only [Nat.sub_self, List.getElem_cons_zero]
  exact ⟨pv, by rw [List.getElem?_append_right (by omega), h1, Nat.sub_self]; rfl, by rw [List.getElem?_append_right (by omega), h1, show l.length * 2 + 1 - l.length * 2 = 1 by omega]; rfl, ht, hp⟩
theorem RowP.puts {D G : Nat → Prop} {W w : World} {l : List Put} {xs : List Value} {B : Nat} {T : TypeId} {v : Value} (h : RowP D W l xs) (hs : Same D W w) (ho : w.ownsRow B T 2 v l.length xs) (hD : ∀ q, D q → G q) (hv : ∀ g, v.ownBlock = some g → G g) : PutsAt G w v l := by
 have hrow := ho
 obtain ⟨hx, hc | ⟨g, cap, cur, rfl, hbb, hg, hnc, hcm, hcs, htake⟩⟩ := ho
 ·obtain ⟨rfl, hl0⟩ := hc
  obtain rfl : l = [] := List.length_eq_zero_iff.1 hl0
  exact SlAt.nil
 ·refine ⟨_, cap, rfl, hnc, by unfold maxLen at hcm; omega, (by intro hh; cases hh), fun i hi => ⟨g, 0, rfl, hv g rfl, ?_⟩⟩
  obtain ⟨pv, e1, e2, e3, e4⟩ := h.2 i hi
  refine ⟨?_, e3, pv, ?_, BytesAt.mono (BytesAt.same e4 hs) hD⟩
  ·rw [Nat.zero_add, hrow.cellAt (i * 2) (by omega), e1]
  ·rw [Nat.zero_add, hrow.cellAt (i * 2 + 1) (by omega), e2]
theorem ref_store {F : Nat → Prop} {b : Nat} {blocks most : Int} {lv : Value} {l : List Put} {w W w3 : World} {xs : List Value} {p : Option Addr} {c : Nat} (hF : F b) (hd : Dom F w) (hcw : Chg F w W) (hh : W.heap[b]? = some (.cells #[.int .i64 blocks, .int .i64 most, lv] 159 (0, 0))) (hb : Below W.heap.size W w3)
  (hr : RowP (fun q => (F q ∨ New w W q) ∧ q ≠ b) W l xs) (ho : w3.ownsRow W.heap.size 33 2 (.slice p l.length c) l.length xs) :
  Chg F w (w3.setCell ⟨b, 2, none⟩ (.slice p l.length c)) ∧ RBufP (.pointer (some ⟨b, 0, none⟩)) blocks most l (fun q => F q ∨ New w (w3.setCell ⟨b, 2, none⟩ (.slice p l.length c)) q) (w3.setCell ⟨b, 2, none⟩ (.slice p l.length c)) := by
 have hbl := hd b hF
 have hz1 := hcw.size
 have hz2 := hb.size
 have hh3 := (hb.block b (by omega)).trans hh
 have hz4 : (w3.setCell ⟨b, 2, none⟩ (.slice p l.length c)).heap.size = w3.heap.size := by simp [World.setCell]
 have hs4 : Same (fun q => q ≠ b) w3 (w3.setCell ⟨b, 2, none⟩ (.slice p l.length c)) := fun q hq => Below.heap_setCell _ _ _ q hq
 have hlt := ho.lt
 refine ⟨(hcw.then_up hb).trans (chg_set w3 b 2 _ hF), b, _, rfl, .inl hF, by rw [heap_set_same hh3]; rfl, ?_⟩
 have ho4 : (w3.setCell ⟨b, 2, none⟩ (.slice p l.length c)).ownsRow W.heap.size 33 2 (.slice p l.length c) l.length xs := row_same (F := fun q => q ≠ b) hs4 ho (fun g hg => by have := hlt g hg; omega)
 refine hr.puts (G := fun q => (F q ∨ New w (w3.setCell ⟨b, 2, none⟩ (.slice p l.length c)) q) ∧ q ≠ b) (fun q hq => (hs4 q hq.2).trans (hb.block q ?_)) ho4 (fun q hq => ⟨hq.1.imp id fun h => ⟨h.1, by rw [hz4]; have := h.2; omega⟩, hq.2⟩) fun g hg => ?_
 ·rcases hq.1 with h | h
  ·have := hd q h; omega
  ·exact h.2
 ·have := hlt g hg
  exact ⟨.inr ⟨by omega, by rw [hz4]; exact this.2⟩, by omega⟩
theorem ownsRow_upP {w w' : World} {B T k n : Nat} {v : Value} {xs : List Value} (h : w.ownsRow B T k v n xs) (hb : Below w.heap.size w w') : w'.ownsRow B T k v n xs :=
 row_same (F := fun q => q < w.heap.size) (fun q hq => hb.block q hq) h (fun g hg => (h.lt g hg).2)
theorem bytes_push {G : Nat → Prop} {W : World} {p : Option Addr} {c : Nat} {d : Bytes} (h : BytesAt G W (.slice p d.length c) d) (hl : d.length ≤ 100000) {B k : Nat} (hk : W.ownsRow B 5 1 (.slice (some ⟨k, 0, none⟩) 0 0) 0 []) (hB : B ≤ W.heap.size) :
  ∃ p' c' w', (Builtin.append_ #[30, 30] 30 #[.slice (some ⟨k, 0, none⟩) 0 0, .slice p d.length c]).run Tryz.prog W = .ok (.slice p' d.length c') w' ∧ Hid (w'.ownsRow B 5 1 (.slice p' d.length c') d.length (d.map fun x => .int .u8 (x.toNat : Int))) ∧ Hid (W.grownBy w' (some k)) ∧
   Hid ((Value.slice p' d.length c').ownBlock = some k ∨ (Value.slice p' d.length c').ownBlock = some W.heap.size) := by
 obtain ⟨i0, hi, hz0, hz1, hz2⟩ := info_parts infoU8
 obtain ⟨p0, c0, he, a1, a2, a3, a4⟩ := h
 cases he
 obtain ⟨v', w', hr, h2, h3, h4⟩ := run_append_any0 (P := Tryz.prog) W 30 30 B 5 i0 (.int .u8 0) 1 1 Tryz.underlying30 hi hz0 hz1 hz2 rfl (by decide) _ 0 [] hk p d.length c (fun hp => by have := a3 hp; omega) (d.map fun x => .int .u8 (x.toNat : Int)) (by simp)
  (fun a ha j u hj => by
    subst ha
    simp only [List.getElem?_map, Option.map_eq_some_iff] at hj
    obtain ⟨x, hx, rfl⟩ := hj
    obtain ⟨hjl, rfl⟩ := List.getElem?_eq_some_iff.1 hx
    obtain ⟨b, o, hp, _, he⟩ := a4 j hjl
    cases hp
    unfold byteE at he
    rw [Nat.mul_one] at he
    have hadd : (⟨b, o, none⟩ : Addr).add j = ⟨b, o + j, none⟩ := by unfold Addr.add; split <;> simp_all
    rw [hadd]; exact he)
  (fun u hu => by obtain ⟨z, _, rfl⟩ := List.mem_map.1 hu; rfl) (by unfold maxLen; omega) (by omega) hB
 rw [Nat.zero_add, List.nil_append] at h2
 have hs : ∃ p' c', v' = .slice p' d.length c' := by
  obtain ⟨_, ⟨rfl, h0⟩ | ⟨g, cap, _, rfl, _⟩⟩ := h2
  ·exact ⟨none, 0, by rw [h0]⟩
  ·exact ⟨_, _, rfl⟩
 obtain ⟨p', c', rfl⟩ := hs
 exact ⟨p', c', w', hr, h2, h3, h4⟩
theorem below_setP {B b i : Nat} (w : World) (v : Value) (hb : B ≤ b) : Below B w (w.setCell ⟨b, i, none⟩ v) :=
 ⟨by simp [World.setCell], by simp [World.setCell], by simp [World.setCell], by simp [World.setCell], fun k hk => Below.heap_setCell _ _ _ k (show k ≠ b by omega)⟩
def XAt (w : World) (x : Put) (xb : Nat) (W : World) : Prop := w.heap.size ≤ xb ∧ Below w.heap.size w W ∧ ∃ dp dc, W.heap[xb]? = some (.cells #[.int .i64 x.lba, .slice dp x.data.length dc] 33 (0, 0)) ∧ BytesAt (New w W) W (.slice dp x.data.length dc) x.data
theorem xat_new {w W : World} {x : Put} {dp : Option Addr} {dc : Nat} (hb : Below w.heap.size w W) (ho : W.ownsRow w.heap.size 5 1 (.slice dp x.data.length dc) x.data.length (x.data.map fun x => .int .u8 (x.toNat : Int))) : XAt w x W.heap.size (W.alloc (.cells #[.int .i64 x.lba, .slice dp x.data.length dc] 33)) :=
 ⟨hb.size, Below.up hb (below_alloc _ _), dp, dc, heap_alloc_new W _, BytesAt.up ((bytesAt_own (New w W) rfl (fun q h1 h2 => ⟨h1, h2⟩) ho).mono fun q hq => ⟨hq.1, by have := hq.2; simp; omega⟩) (below_alloc _ _)⟩
theorem xat_set {w W : World} {x : Put} {dp : Option Addr} {dc xb : Nat} {u1 u2 : Value} (hb : Below w.heap.size w W) (ho : W.ownsRow w.heap.size 5 1 (.slice dp x.data.length dc) x.data.length (x.data.map fun x => .int .u8 (x.toNat : Int))) (hxb : w.heap.size ≤ xb)
  (hh : W.heap[xb]? = some (.cells #[u1, u2] 33 (0, 0))) (hne : (Value.slice dp x.data.length dc).ownBlock ≠ some xb) : XAt w x xb ((W.setCell ⟨xb, 0, none⟩ (.int .i64 x.lba)).setCell ⟨xb, 1, none⟩ (.slice dp x.data.length dc)) := by
 have hs : Same (fun q => q ≠ xb) W ((W.setCell ⟨xb, 0, none⟩ (.int .i64 x.lba)).setCell ⟨xb, 1, none⟩ (.slice dp x.data.length dc)) := fun q hq => (Below.heap_setCell _ _ _ q hq).trans (Below.heap_setCell _ _ _ q hq)
 refine ⟨hxb, (hb.trans (below_setP _ _ hxb)).trans (below_setP _ _ hxb), dp, dc, ?_, bytesAt_own _ rfl (fun q h1 h2 => ⟨h1, h2⟩) (row_same hs ho fun g hg e => hne (by rw [hg, e]))⟩
 rw [heap_set_same (heap_set_same hh _)]; rfl
theorem insTo_len0 (x : Put) (L : List Put) : ∀ j, j ≤ L.length → (insTo x L j).1.length + (if (insTo x L j).2 then 0 else 1) ≤ j + 1 := by
 intro j
 induction j with
 | zero => intro _; simp [insTo]
 | succ j ihj =>
  intro hj
  rw [insTo_succ x L j (by omega)]
  have h1 := ihj (by omega)
  generalize insTo x L j = s at h1 ⊢
  generalize L[j] = y
  obtain ⟨o, d⟩ := s
  unfold insStep
  cases d
  ·by_cases hx : x.lba ≤ y.lba <;> by_cases hy : y.lba = x.lba <;> simp [hx, hy] at h1 ⊢ <;> omega
  ·by_cases hy : y.lba = x.lba <;> simp [hy] at h1 ⊢ <;> omega
theorem insTo_len (x : Put) (L : List Put) (k : Nat) (hk : k ≤ L.length) : (insTo x L k).1.length ≤ k + 1 := by
 have := insTo_len0 x L k hk
 omega
def RBufWriteSaid (F : Nat → Prop) (v : Value) (blocks most : Int) (L l : List Put) (w : World) (e : Ending) (w' : World) : Prop :=
 e = .returned (.int .i64 (rbCode blocks most L l)) ∧ Chg F w w' ∧ RBufP v blocks most (rbNext blocks most L l) (fun q => F q ∨ New w w' q) w'
theorem rbuf_fail {F : Nat → Prop} {v : Value} {blocks most c : Int} {L l : List Put} {w w' : World} (h : RBufP v blocks most L F w) (hd : Dom F w) (hb : Below w.heap.size w w') (hc : rbCode blocks most L l = c) (h0 : c ≠ 0) : RBufWriteSaid F v blocks most L l w (.returned (.int .i64 c)) w' := by
 refine ⟨by rw [hc], Chg.of_below hb (fun k h1 h2 => by omega), ?_⟩
 unfold rbNext
 rw [if_neg (by rw [hc]; exact h0)]
 obtain ⟨b, lv, h1, h2, h3, h4⟩ := h.same (Dom.same hd hb)
 exact ⟨b, lv, h1, .inl h2, h3, h4.mono fun q hq => ⟨.inl hq.1, hq.2⟩⟩
theorem any_takeR {f : Put → Bool} {l : List Put} {k : Nat} (h : k < l.length) (h0 : (l.take k).any f = false) (hk : f l[k] = false) : (l.take (k + 1)).any f = false := by
 rw [take_snoc l k h, List.any_append, h0]
 simp [hk]
theorem any_hitR {f : Put → Bool} {l : List Put} {k : Nat} (h : k < l.length) (hk : f l[k] = true) : l.any f = true := List.any_eq_true.2 ⟨_, List.getElem_mem h, hk⟩
set_option maxRecDepth 100000 in
set_option maxHeartbeats 8000000 in
theorem refBufWrite_any (F G : Nat → Prop) (v lv : Value) (blocks most : Int) (L l : List Put) (w : World) (hp : RBufP v blocks most L F w) (hd : Dom F w) (hl : PutsAt G w lv l) (hG : Dom G w) (hFG : ∀ k, F k → ¬ G k) (n0 : L.length ≤ 500000) (n1 : l.length ≤ 500000) :
  Calls Tryz.prog 122 #[v, lv] w (RBufWriteSaid F v blocks most L l w) := by
 have HP := Lib.hid hp
 obtain ⟨b, bv, rfl, hFb, hh, h4⟩ := hp
 obtain ⟨lp, lc, rfl⟩ := putsAt_shape hl
 obtain ⟨bp, bc, rfl⟩ := putsAt_shape h4
 have hbl := hd b hFb
 have hc0 : w.cell? ⟨b, 0, none⟩ = some (.int .i64 blocks) := by rw [cell_row hh]; rfl
 have hc1 : w.cell? ⟨b, 1, none⟩ = some (.int .i64 most) := by rw [cell_row hh]; rfl
 have hc2 : w.cell? ⟨b, 2, none⟩ = some (.slice bp L.length bc) := by rw [cell_row hh]; rfl
 have H4 := Lib.hid h4
 have HH := Lib.hid hh
 have HL := Lib.hid hl
 clear h4 hh hl
 by_cases hnil : l = []
 case pos =>
  subst hnil
  have hcd : rbCode blocks most L [] = 1 := rfl
  have HCD := Lib.hid hcd
  clear hcd
  go_enter Tryz.func122, Tryz.ntmps122
  go_wp2
  go_ret
  exact rbuf_fail HP.out hd (Below.refl _ _) HCD.out (by decide)
 case neg =>
  have hpos := List.length_pos_iff.2 hnil
  have hl0 : ((l.length : Int) == 0) = false := by rw [beq_eq_false_iff_ne]; omega
  have hcd0 : rbCode blocks most L l = if l.any (outB blocks) then 2 else if l.any len40 then 3 else if twiceB l then 4 else if most < ((L.length + freshP L l : Nat) : Int) then 7 else 0 := by unfold rbCode; rw [if_neg hnil]
  have HCD0 := Lib.hid hcd0
  clear hcd0
  go_enter Tryz.func122, Tryz.ntmps122
  go_wp2_with fail
  go_loopw [5] (fun i wr => ∃ k : Nat, k ≤ l.length ∧ i = .int .i64 k ∧ Hid (Below w.heap.size w wr) ∧ Hid ((l.take k).any (outB blocks) = false)) (fun i _ => l.length - (intOf i).toNat)
  case atStart => exact ⟨0, by omega, rfl, Lib.hid (Below.refl _ _), Lib.hid (by rw [List.take_zero]; rfl)⟩
  case round =>
   obtain ⟨k, hk, rfl, HB, HA⟩ := hrel
   by_cases hlt : k < l.length
   case pos =>
    have hc0' := cell_up HB.out hc0
    obtain ⟨g, o, dp, dc, rfl, _, hk1, _, _, _⟩ := putsAt_get (PutsAt.up HL.out HB.out) k hlt
    have hkI : (k : Int) < (l.length : Int) := by omega
    have hstep := any_takeR (f := outB blocks) hlt HA.out
    have hhit := any_hitR (f := outB blocks) hlt
    generalize l[k] = x at hk1 hstep hhit
    have hdef : outB blocks x = (decide (x.lba < 0) || decide (blocks ≤ x.lba)) := rfl
    rcases (show x.lba < 0 ∨ (¬ x.lba < 0 ∧ blocks ≤ x.lba) ∨ (¬ x.lba < 0 ∧ ¬ blocks ≤ x.lba) by omega) with e | ⟨e, e2⟩ | ⟨e, e2⟩
    case inl =>
     have hcd : rbCode blocks most L l = 2 := by rw [HCD0.out, if_pos (hhit (by rw [hdef]; simp [e]))]
     have HCD := Lib.hid hcd
     have HSTEP := Lib.hid hstep
     have HHIT := Lib.hid hhit
     have HDEF := Lib.hid hdef
     clear hcd hstep hhit hdef
     go_wp2_with fail
     go_quiet (fail)
     have HB2 := Lib.hid (HB.out.trans (below_drewN (Below.refl _ _) nq) : Below w.heap.size w (wr.drewN nq))
     go_wp2_with fail
     go_ret
     exact rbuf_fail HP.out hd HB2.out HCD.out (by decide)
    case inr.inl =>
     have hcd : rbCode blocks most L l = 2 := by rw [HCD0.out, if_pos (hhit (by rw [hdef]; simp [e2]))]
     have HCD := Lib.hid hcd
     have HSTEP := Lib.hid hstep
     have HHIT := Lib.hid hhit
     have HDEF := Lib.hid hdef
     clear hcd hstep hhit hdef
     go_wp2_with fail
     go_quiet (fail)
     have HB2 := Lib.hid (HB.out.trans (below_drewN (Below.refl _ _) nq) : Below w.heap.size w (wr.drewN nq))
     go_wp2_with fail
     go_ret
     exact rbuf_fail HP.out hd HB2.out HCD.out (by decide)
    case inr.inr =>
     have hst := hstep (by rw [hdef]; simp [e, e2])
     have HST := Lib.hid hst
     have HSTEP := Lib.hid hstep
     have HHIT := Lib.hid hhit
     have HDEF := Lib.hid hdef
     clear hst hstep hhit hdef
     go_wp2_with fail
     go_quiet (fail)
     have HB2 := Lib.hid (HB.out.trans (below_drewN (Below.refl _ _) nq) : Below w.heap.size w (wr.drewN nq))
     go_wp2_with fail
     go_roundw
     case rel => exact ⟨k + 1, by omega, by go_num, HB2, HST⟩
     case measure => simp [intOf]; omega
   case neg =>
    have hA : l.any (outB blocks) = false := by
     have := HA.out
     rwa [List.take_of_length_le (by omega)] at this
    have hcd1 := HCD0.out
    rw [hA, if_neg (by decide)] at hcd1
    obtain ⟨W1, rfl⟩ : ∃ W1 : World, W1 = wr := ⟨_, rfl⟩
    have HB1 := HB
    have HA := Lib.hid hA
    have HCD1 := Lib.hid hcd1
    clear hA hcd1
    clear HA HCD0
    go_wp2_with fail
    go_loopw [6] (fun i wr => ∃ k : Nat, k ≤ l.length ∧ i = .int .i64 k ∧ Hid (Below w.heap.size w wr) ∧ Hid ((l.take k).any len40 = false)) (fun i _ => l.length - (intOf i).toNat)
    case atStart => exact ⟨0, by omega, rfl, HB1, Lib.hid (by rw [List.take_zero]; rfl)⟩
    case round =>
     obtain ⟨k, hk, rfl, HB, HA⟩ := hrel
     by_cases hlt : k < l.length
     case pos =>
      obtain ⟨g, o, dp, dc, rfl, _, _, hk2, _, _⟩ := putsAt_get (PutsAt.up HL.out HB.out) k hlt
      have hkI : (k : Int) < (l.length : Int) := by omega
      have hstep := any_takeR (f := len40) hlt HA.out
      have hhit := any_hitR (f := len40) hlt
      generalize l[k] = x at hk2 hstep hhit
      have hdef : len40 x = !decide (x.data.length = 40) := rfl
      generalize hxl : x.data.length = n at hk2 hdef
      by_cases e : n = 40
      case pos =>
       have hst := hstep (by rw [hdef]; simp [e])
       have hne : ((n : Int) != 40) = false := by subst e; rfl
       have HST := Lib.hid hst
       have HSTEP := Lib.hid hstep
       have HHIT := Lib.hid hhit
       have HDEF := Lib.hid hdef
       have HXL := Lib.hid hxl
       have HE := Lib.hid e
       clear hst hstep hhit hdef hxl e
       go_wp2_with fail
       go_roundw
       case rel => exact ⟨k + 1, by omega, by go_num, HB, HST⟩
       case measure => simp [intOf]; omega
      case neg =>
       have hcd : rbCode blocks most L l = 3 := by rw [HCD1.out, if_pos (hhit (by rw [hdef]; simp [e]))]
       have hne : ((n : Int) != 40) = true := by rw [bne_iff_ne]; omega
       have HCD := Lib.hid hcd
       have HSTEP := Lib.hid hstep
       have HHIT := Lib.hid hhit
       have HDEF := Lib.hid hdef
       have HXL := Lib.hid hxl
       have HE := Lib.hid e
       clear hcd hstep hhit hdef hxl e
       go_wp2_with fail
       go_ret
       exact rbuf_fail HP.out hd HB.out HCD.out (by decide)
     case neg =>
      have hA2 : l.any len40 = false := by
       have := HA.out
       rwa [List.take_of_length_le (by omega)] at this
      have hcd2 := HCD1.out
      rw [hA2, if_neg (by decide)] at hcd2
      obtain ⟨W2, rfl⟩ : ∃ W2 : World, W2 = wr := ⟨_, rfl⟩
      have HB2 := HB
      have HA2 := Lib.hid hA2
      have HCD2 := Lib.hid hcd2
      clear hA2 hcd2
      clear HA HCD1
      go_wp2_with fail
      go_loopw [7, 8] (fun n i wr => ∃ k : Nat, k ≤ l.length ∧ i = .int .i64 k ∧ n = .int .i64 (freshP L (l.take k) : Nat) ∧ Hid (Below w.heap.size w wr) ∧ Hid (∀ i j (hi : i < l.length) (hj : j < l.length), j < k → i < j → l[i].lba ≠ l[j].lba)) (fun _ i _ => l.length - (intOf i).toNat)
      case atStart => exact ⟨0, by omega, rfl, rfl, HB2, Lib.hid fun i j _ _ h => by omega⟩
      case round =>
       obtain ⟨k, hk, rfl, rfl, HB, HN⟩ := hrel
       have hfr : freshP L (l.take k) ≤ k := by have := freshP_le L (l.take k); rw [List.length_take] at this; omega
       obtain ⟨fr, hfe⟩ : ∃ fr, freshP L (l.take k) = fr := ⟨_, rfl⟩
       rw [hfe] at hfr ⊢
       by_cases hlt : k < l.length
       case pos =>
        obtain ⟨W3, rfl⟩ : ∃ W3 : World, W3 = wr := ⟨_, rfl⟩
        have HB3 := HB
        have hkI : (k : Int) < (l.length : Int) := by omega
        have HFE := Lib.hid hfe
        clear hfe
        clear HB
        go_wp2_with fail
        go_loopw [9] (fun j wr => ∃ m : Nat, m ≤ k ∧ j = .int .i64 m ∧ Hid (Below w.heap.size w wr) ∧ Hid (∀ i (hi : i < l.length), i < m → l[i].lba ≠ l[k].lba)) (fun j _ => k - (intOf j).toNat)
        case atStart => exact ⟨0, by omega, rfl, HB3, Lib.hid fun i _ h => by omega⟩
        case round =>
         obtain ⟨m, hm, rfl, HB, HM⟩ := hrel
         by_cases hlm : m < k
         case pos =>
          have hml : m < l.length := by omega
          obtain ⟨g, o, dp, dc, rfl, _, hk1, _, _, _⟩ := putsAt_get (PutsAt.up HL.out HB.out) k hlt
          obtain ⟨g', o', dp', dc', he, _, hm1, _, _, _⟩ := putsAt_get (PutsAt.up HL.out HB.out) m hml
          cases he
          have hmI : (m : Int) < (l.length : Int) := by omega
          have hmk : (m : Int) < (k : Int) := by omega
          by_cases e : l[m].lba = l[k].lba
          case pos =>
           have htw : twiceB l = true := by
            rw [← Bool.not_eq_false]
            intro h
            have := twiceB_no.1 h
            rw [List.Nodup, List.pairwise_iff_getElem] at this
            have := this m k (by simpa using hml) (by simpa using hlt) hlm
            simp only [List.getElem_map] at this
            exact this e
           have hcd : rbCode blocks most L l = 4 := by rw [HCD2.out, if_pos htw]
           generalize l[m].lba = xm at *
           generalize l[k].lba = xk at *
           have heq : (xm == xk) = true := by rw [beq_iff_eq]; exact e
           have HCD := Lib.hid hcd
           have HTW := Lib.hid htw
           have HE := Lib.hid e
           clear hcd htw e
           go_wp2_with fail
           go_quiet (fail)
           have HBq := Lib.hid (HB.out.trans (below_drewN (Below.refl _ _) nq) : Below w.heap.size w (wr.drewN nq))
           go_wp2_with fail
           go_ret
           exact rbuf_fail HP.out hd HBq.out HCD.out (by decide)
          case neg =>
           have hnx : ∀ i (hi : i < l.length), i < m + 1 → l[i].lba ≠ l[k].lba := fun i hi h => by
            by_cases him : i = m
            ·subst him; exact e
            ·exact HM.out i hi (by omega)
           have HNX := Lib.hid hnx
           clear hnx
           obtain ⟨xm, hxm⟩ : ∃ xm, l[m].lba = xm := ⟨_, rfl⟩
           obtain ⟨xk, hxk⟩ : ∃ xk, l[k].lba = xk := ⟨_, rfl⟩
           rw [hxm] at hm1 e
           rw [hxk] at hk1 e
           have heq : (xm == xk) = false := by rw [beq_eq_false_iff_ne]; exact e
           have HE := Lib.hid e
           have HXM := Lib.hid hxm
           have HXK := Lib.hid hxk
           clear e hxm hxk
           go_wp2_with fail
           go_quiet (fail)
           have HBq := Lib.hid (HB.out.trans (below_drewN (Below.refl _ _) nq) : Below w.heap.size w (wr.drewN nq))
           go_wp2_with fail
           go_roundw
           case rel => exact ⟨m + 1, by omega, by go_num, HBq, HNX⟩
           case measure => simp [intOf]; omega
         case neg =>
          obtain rfl : m = k := by omega
          obtain ⟨g, o, dp, dc, rfl, _, hk1, _, _, _⟩ := putsAt_get (PutsAt.up HL.out HB.out) m hlt
          have hnx : ∀ i j (hi : i < l.length) (hj : j < l.length), j < m + 1 → i < j → l[i].lba ≠ l[j].lba := fun i j hi hj h1 h2 => by
           by_cases hjm : j = m
           ·subst hjm; exact HM.out i hi h2
           ·exact HN.out i j hi hj (by omega) h2
          have hfx := freshP_take L l m hlt
          rw [HFE.out] at hfx
          have hget := refBufGet_any F (.pointer (some ⟨b, 0, none⟩)) blocks most L l[m].lba wr (HP.out.same (Dom.same hd HB.out)) (by omega)
          have HNX := Lib.hid hnx
          clear hnx
          generalize l[m].lba = xk at *
          obtain ⟨ok, hok⟩ : ∃ ok, (lookP L xk).isSome = ok := ⟨_, rfl⟩
          rw [hok] at hget
          have HGET := Lib.hid hget
          have HFX := Lib.hid hfx
          clear hget hfx
          go_wp2_with fail
          refine (HGET.out).mono ?_
          rintro e w5 ⟨dv, rfl, _, HB5⟩
          have HB6 := Lib.hid (Below.up HB.out HB5.out)
          clear hk1
          cases ok with
          | true =>
           have hf2 : freshP L (l.take (m + 1)) = fr := by rw [HFX.out]; rw [show (lookP L xk).isNone = false by cases h : lookP L xk <;> simp_all]; rfl
           have HF2 := Lib.hid hf2
           have HOK := Lib.hid hok
           clear hf2 hok
           go_wp2_with fail
           go_roundw
           case rel => exact ⟨m + 1, by omega, by go_num, by rw [HF2.out], HB6, HNX⟩
           case measure => simp [intOf]; omega
          | false =>
           have hf2 : freshP L (l.take (m + 1)) = fr + 1 := by rw [HFX.out]; rw [show (lookP L xk).isNone = true by cases h : lookP L xk <;> simp_all]; rfl
           have HF2 := Lib.hid hf2
           have HOK := Lib.hid hok
           clear hf2 hok
           go_wp2_with fail
           go_roundw
           case rel => exact ⟨m + 1, by omega, by go_num, by rw [HF2.out]; go_num, HB6, HNX⟩
           case measure => simp [intOf]; omega
       case neg =>
        have hfl : freshP L l = fr := by rw [← hfe, List.take_of_length_le (by omega)]
        have htw : twiceB l = false := by
         rw [twiceB_no, List.Nodup, List.pairwise_iff_getElem]
         intro i j hi hj hij
         simp only [List.length_map] at hi hj
         simp only [List.getElem_map]
         exact HN.out i j hi hj (by omega) hij
        have hcd3 := HCD2.out
        rw [htw, if_neg (by decide), hfl] at hcd3
        have hc1' := cell_up HB.out hc1
        have hc2' := cell_up HB.out hc2
        have hfx2 : ((L.length + fr : Nat) : Int) = (L.length : Int) + (fr : Int) := by omega
        rw [hfx2] at hcd3
        by_cases hbig : most < (L.length : Int) + (fr : Int)
        case pos =>
         rw [if_pos hbig] at hcd3
         have HCD3 := Lib.hid hcd3
         have HFL := Lib.hid hfl
         have HTW := Lib.hid htw
         have HFE := Lib.hid hfe
         have HFX2 := Lib.hid hfx2
         clear hcd3 hfl htw hfe hfx2
         go_wp2_with fail
         go_quiet (fail)
         have HBq := Lib.hid (HB.out.trans (below_drewN (Below.refl _ _) nq) : Below w.heap.size w (wr.drewN nq))
         go_wp2_with fail
         go_ret
         exact rbuf_fail HP.out hd HBq.out HCD3.out (by decide)
        case neg =>
         rw [if_neg hbig] at hcd3
         have HCD3 := Lib.hid hcd3
         have HFL := Lib.hid hfl
         have HTW := Lib.hid htw
         have HFE := Lib.hid hfe
         have HFX2 := Lib.hid hfx2
         clear hcd3 hfl htw hfe hfx2
         go_wp2_with fail
         go_quiet (fail)
         have HB4 := Lib.hid (HB.out.trans (below_drewN (Below.refl _ _) nq) : Below w.heap.size w (wr.drewN nq))
         generalize wr.drewN nq = W4 at *
         clear hc1' hc2' hc0 hc1 hc2
         have hA40 : ∀ x ∈ l, x.data.length = 40 := fun x hx => by
          have := HA2.out
          rw [List.any_eq_false] at this
          have := this x hx
          unfold len40 at this
          simpa using this
         have hst0 : RBufP (.pointer (some ⟨b, 0, none⟩)) blocks most L (fun q => F q ∨ New w W4 q) W4 := by
          obtain ⟨b', lv, h1, h2, h3, h4⟩ := HP.out.same (Dom.same hd HB4.out)
          exact ⟨b', lv, h1, .inl h2, h3, h4.mono fun q hq => ⟨.inl hq.1, hq.2⟩⟩
         have hch0 : Chg F w W4 := Chg.of_below HB4.out fun k h1 h2 => by omega
         have HA40 := Lib.hid hA40
         have HST0 := Lib.hid hst0
         have HCH0 := Lib.hid hch0
         clear hA40 hst0 hch0
         clear HCD2 HN
         go_wp2_with fail
         go_loopw [12] (fun i wr => ∃ k : Nat, k ≤ l.length ∧ i = .int .i64 k ∧ Hid (Chg F w wr) ∧ Hid (RBufP (.pointer (some ⟨b, 0, none⟩)) blocks most ((l.take k).foldl rIns L) (fun q => F q ∨ New w wr q) wr)) (fun i _ => l.length - (intOf i).toNat)
         case atStart => exact ⟨0, by omega, rfl, HCH0, HST0⟩
         case round =>
          obtain ⟨k, hk, rfl, HC, HR⟩ := hrel
          by_cases hlt : k < l.length
          case neg =>
           have hnx : rbNext blocks most L l = (l.take k).foldl rIns L := by unfold rbNext; rw [if_pos HCD3.out, List.take_of_length_le (by omega)]
           have HNX := Lib.hid hnx
           clear hnx
           go_wp2_with fail
           go_ret
           exact ⟨by rw [HCD3.out]; rfl, HC.out, by rw [HNX.out]; exact HR.out⟩
          case pos =>
           have hlr : PutsAt G wr (.slice lp l.length lc) l := PutsAt.same HL.out (HC.out.same fun k hk => ⟨hG k hk, fun h => hFG k h hk⟩)
           obtain ⟨g, o, dp, dc, rfl, hgg, hk1, hk2, hki, hkd⟩ := putsAt_get hlr k hlt
           have hkI : (k : Int) < (l.length : Int) := by omega
           have hnext : (l.take (k + 1)).foldl rIns L = rIns ((l.take k).foldl rIns L) l[k] := by rw [take_snoc _ _ hlt, List.foldl_append]; rfl
           have hdl := HA40.out _ (List.getElem_mem hlt)
           have hLl : ((l.take k).foldl rIns L).length ≤ 1000000 := by have := rIns_foldl_len (l.take k) L; rw [List.length_take] at this; omega
           generalize (l.take k).foldl rIns L = Lk at *
           generalize l[k] = x at *
           have hgw : g < wr.heap.size := World.block_lt_of_cell? _ _ hk1
           have hsz : wr.drew.heap.size = wr.heap.size := rfl
           have hzE : (wr.drew.alloc (.cells #[] 5 (0, 0))).heap.size = wr.heap.size + 1 := by simp
           have hzX : (wr.drew.alloc (.cells #[.int .i64 0, .slice none 0 0] 33)).heap.size = wr.heap.size + 1 := by simp
           have hdd : BytesAt G wr.drew (.slice dp x.data.length dc) x.data := BytesAt.up hkd (below_drewN (Below.refl wr.heap.size wr) 1)
           have hoE := owns_empty wr.drew 5 1
           obtain ⟨dpA, dcA, wA, hA1, HA2, HA3, HA4⟩ := bytes_push (BytesAt.up hdd (below_alloc _ (.cells #[] 5 (0, 0)))) (by omega) hoE (by simp)
           obtain ⟨dpB, dcB, wB, hB1, HB2, HB3', HB4'⟩ := bytes_push (BytesAt.up (BytesAt.up hdd (below_alloc _ (.cells #[] 5 (0, 0)))) (below_alloc _ (.cells #[.int .i64 0, .slice none 0 0] 33))) (by omega) (ownsRow_upP hoE (below_alloc _ (.cells #[.int .i64 0, .slice none 0 0] 33))) (by simp; omega)
           have hoC := owns_empty (wr.drew.alloc (.cells #[.int .i64 0, .slice none 0 0] 33)) 5 1
           rw [hzX] at hoC
           obtain ⟨dpC, dcC, wC, hC1, HC2, HC3, HC4⟩ := bytes_push (BytesAt.up (BytesAt.up hdd (below_alloc _ (.cells #[.int .i64 0, .slice none 0 0] 33))) (below_alloc _ (.cells #[] 5 (0, 0)))) (by omega) hoC (by simp)
           have zA : (Builtin.append_ #[30, 30] 30 #[.slice (some ⟨wr.heap.size, 0, none⟩) 0 0, .slice dp x.data.length dc]).run Tryz.prog ((wr.alloc (.cells #[] 5 (0, 0))).drew) = .ok (.slice dpA x.data.length dcA) wA := hA1
           have zB : (Builtin.append_ #[30, 30] 30 #[.slice (some ⟨wr.heap.size, 0, none⟩) 0 0, .slice dp x.data.length dc]).run Tryz.prog (((wr.alloc (.cells #[] 5 (0, 0))).alloc (.cells #[.int .i64 0, .slice none 0 0] 33)).drew) = .ok (.slice dpB x.data.length dcB) wB := hB1
           have zC : (Builtin.append_ #[30, 30] 30 #[.slice (some ⟨wr.heap.size + 1, 0, none⟩) 0 0, .slice dp x.data.length dc]).run Tryz.prog (((wr.alloc (.cells #[.int .i64 0, .slice none 0 0] 33)).alloc (.cells #[] 5 (0, 0))).drew) = .ok (.slice dpC x.data.length dcC) wC := hC1
           have qk : ∀ W, Below wr.heap.size wr W → W.cell? ⟨g, o + k * 2, none⟩ = some (.int .i64 x.lba) ∧ W.cell? ⟨g, o + k * 2 + 1, none⟩ = some (.slice dp x.data.length dc) := fun W hW => ⟨cell_up hW hk1, cell_up hW hk2⟩
           have hdr0 : Below wr.heap.size wr wr.drew := below_drewN (Below.refl wr.heap.size wr) 1
           have bE : Below wr.heap.size wr (wr.drew.alloc (.cells #[] 5 (0, 0))) := Below.up hdr0 (below_alloc _ _)
           have bX : Below wr.heap.size wr (wr.drew.alloc (.cells #[.int .i64 0, .slice none 0 0] 33)) := Below.up hdr0 (below_alloc _ _)
           have hbA : Below wr.heap.size wr wA := bE.grown HA3.out (by simp) (fun q hq => by cases hq; exact Nat.le_refl _)
           have hbB : Below wr.heap.size wr wB := (Below.up bE (below_alloc _ _)).grown HB3'.out (by simp; omega) (fun q hq => by cases hq; exact Nat.le_refl _)
           have hbC : Below wr.heap.size wr wC := (Below.up bX (below_alloc _ _)).grown HC3.out (by simp; omega) (fun q hq => by cases hq; omega)
           have HXB : wB.heap[wr.heap.size + 1]? = some (.cells #[.int .i64 0, .slice none 0 0] 33 (0, 0)) := by
            rw [HB3'.out.block (wr.heap.size + 1) (by simp) (by simp)]
            have := heap_alloc_new (wr.drew.alloc (.cells #[] 5 (0, 0))) (.cells #[.int .i64 0, .slice none 0 0] 33)
            rw [hzE] at this
            exact this
           have HXC : wC.heap[wr.heap.size]? = some (.cells #[.int .i64 0, .slice none 0 0] 33 (0, 0)) := by
            rw [HC3.out.block wr.heap.size (by simp; omega) (by simp), (below_alloc (wr.drew.alloc (.cells #[.int .i64 0, .slice none 0 0] 33)) _).block wr.heap.size (by simp)]
            exact heap_alloc_new wr.drew _
           have xB0 : wB.cell? ⟨wr.heap.size + 1, 0, none⟩ = some (.int .i64 0) := by rw [cell_row HXB]; rfl
           have xB1 : wB.cell? ⟨wr.heap.size + 1, 1, none⟩ = some (.slice none 0 0) := by rw [cell_row HXB]; rfl
           have xBz : wB.frozen? ⟨wr.heap.size + 1, 0, none⟩ = false := fz_row HXB 0
           have xBy : wB.frozen? ⟨wr.heap.size + 1, 1, none⟩ = false := fz_row HXB 1
           have xC0 : wC.cell? ⟨wr.heap.size, 0, none⟩ = some (.int .i64 0) := by rw [cell_row HXC]; rfl
           have xC1 : wC.cell? ⟨wr.heap.size, 1, none⟩ = some (.slice none 0 0) := by rw [cell_row HXC]; rfl
           have xCz : wC.frozen? ⟨wr.heap.size, 0, none⟩ = false := fz_row HXC 0
           have xCy : wC.frozen? ⟨wr.heap.size, 1, none⟩ = false := fz_row HXC 1
           clear hA1 hB1 hC1 hoE hoC hzE hzX
           have HLR := Lib.hid hlr
           have HNEXT := Lib.hid hnext
           have HDL := Lib.hid hdl
           have HKI := Lib.hid hki
           have HKD := Lib.hid hkd
           have HDD := Lib.hid hdd
           have HQK := Lib.hid qk
           have HBE := Lib.hid bE
           have HBX := Lib.hid bX
           have HBA := Lib.hid hbA
           have HBB := Lib.hid hbB
           have HBC := Lib.hid hbC
           clear hlr hnext hdl hki hkd hdd qk bE bX hbA hbB hbC
           have QK := HQK
           go_upto_region 30 with fail
           go_cut [13] from 105 to 182 (fun s wx => ∃ xb, s = .pointer (some ⟨xb, 0, none⟩) ∧ Hid (XAt wr x xb wx))
           case first =>
            go_region_held3 (fun W => W.cell? ⟨g, o + k * 2, none⟩ = some (.int .i64 x.lba) ∧ W.cell? ⟨g, o + k * 2 + 1, none⟩ = some (.slice dp x.data.length dc))
             (first | exact HQK.out _ ((HBB.out.trans (below_setP _ _ (by omega))).trans (below_setP _ _ (by omega))) | exact HQK.out _ ((HBC.out.trans (below_setP _ _ (by omega))).trans (below_setP _ _ (by omega))) | exact ⟨hk1, hk2⟩ | exact ⟨cell_up (below_alloc _ _) hk1, cell_up (below_alloc _ _) hk2⟩ | exact HQK.out _ HBA.out | exact HQK.out _ HBB.out | exact HQK.out _ HBC.out | exact HQK.out _ (Below.up HBA.out (below_alloc _ _)) | exact HQK.out _ (Below.up HBE.out (below_alloc _ _)) | exact HQK.out _ (Below.up HBX.out (below_alloc _ _)) | go_keep)
             ((first
               | ((with_reducible refine step_append_run ((wr.alloc (.cells #[] 5 (0, 0))).drew) ?_ (.tmp 116) (.tmp 121) 30 ?_ _ _ ?_ ?_ zA ?_); (· rfl); (· rfl); (· rfl); (· rfl))
               | ((with_reducible refine step_append_run (((wr.alloc (.cells #[] 5 (0, 0))).alloc (.cells #[.int .i64 0, .slice none 0 0] 33)).drew) ?_ (.tmp 116) (.tmp 121) 30 ?_ _ _ ?_ ?_ zB ?_); (· rfl); (· rfl); (· rfl); (· rfl))
               | ((with_reducible refine step_append_run (((wr.alloc (.cells #[.int .i64 0, .slice none 0 0] 33)).alloc (.cells #[] 5 (0, 0))).drew) ?_ (.tmp 116) (.tmp 121) 30 ?_ _ _ ?_ ?_ zC ?_); (· rfl); (· rfl); (· rfl); (· rfl))))
            all_goals
             go_wp2_with fail
             go_meet
             case rel =>
              first
               | exact ⟨_, rfl, Lib.hid (xat_new HBA.out (ownsRow_lower' HA2.out (Nat.le_refl _)))⟩
               | exact ⟨_, rfl, Lib.hid (xat_set HBB.out (ownsRow_lower' HB2.out (Nat.le_refl _)) (by omega) HXB (fun e => by
                 rcases HB4'.out with h | h
                 ·rw [h] at e; simp at e
                 ·rw [h] at e; simp at e))⟩
               | exact ⟨_, rfl, Lib.hid (xat_set HBC.out (ownsRow_lower' HC2.out (by omega)) (Nat.le_refl _) HXC (fun e => by
                 rcases HC4.out with h | h
                 ·rw [h] at e; simp at e
                 ·rw [h] at e; simp at e; omega))⟩
           case rest =>
            obtain ⟨xb, rfl, HX⟩ := hcut
            obtain ⟨W6, rfl⟩ : ∃ W6 : World, W6 = wc := ⟨_, rfl⟩
            obtain ⟨hxb, hb6, dpx, dcx, hxh, hxd⟩ := HX.out
            obtain ⟨b', lvk, hbv, _, hbh, hbp⟩ := HR.out
            cases hbv
            obtain ⟨qp, qc, rfl⟩ := putsAt_shape hbp
            have hzw := HC.out.size
            have hch6 : Chg F w W6 := HC.out.then_up hb6
            have hbh6 := (hb6.block b (by omega)).trans hbh
            have hz6 := hb6.size
            have hbp6 : PutsAt (fun q => (F q ∨ New w W6 q) ∧ q ≠ b) W6 (.slice qp Lk.length qc) Lk := (PutsAt.up hbp hb6).mono fun q hq => ⟨hq.1.imp id fun h => ⟨h.1, by have := h.2; omega⟩, hq.2⟩
            have hxd6 : BytesAt (fun q => (F q ∨ New w W6 q) ∧ q ≠ b) W6 (.slice dpx x.data.length dcx) x.data := hxd.mono fun q hq => ⟨.inr ⟨by have := hq.1; omega, hq.2⟩, by have := hq.1; omega⟩
            have hx0 : W6.cell? ⟨xb, 0, none⟩ = some (.int .i64 x.lba) := by rw [cell_row hxh]; rfl
            have hx1 : W6.cell? ⟨xb, 1, none⟩ = some (.slice dpx x.data.length dcx) := by rw [cell_row hxh]; rfl
            have hb2 : W6.cell? ⟨b, 2, none⟩ = some (.slice qp Lk.length qc) := by rw [cell_row hbh6]; rfl
            have hbf : W6.frozen? ⟨b, 2, none⟩ = false := fz_row hbh6 2
            have hS0 := (Sep.start W6).row_new (Below.refl _ _) (World.ownsRow_nil W6 W6.heap.size 33 2)
            have hcel : ∀ V, Below W6.heap.size W6 V → V.cell? ⟨xb, 0, none⟩ = some (.int .i64 x.lba) ∧ V.cell? ⟨xb, 1, none⟩ = some (.slice dpx x.data.length dcx) ∧ V.cell? ⟨b, 2, none⟩ = some (.slice qp Lk.length qc) ∧ V.frozen? ⟨b, 2, none⟩ = false ∧ V.heap[b]? = some (.cells #[.int .i64 blocks, .int .i64 most, .slice qp Lk.length qc] 159 (0, 0)) :=
             fun V hV => ⟨cell_up hV hx0, cell_up hV hx1, cell_up hV hb2, (hV.frozen (p := ⟨b, 2, none⟩) (show b < W6.heap.size by omega)).trans hbf, (hV.block b (by omega)).trans hbh6⟩
            have hstore : ∀ V p c n O xs, Below W6.heap.size W6 V → RowP (fun q => (F q ∨ New w W6 q) ∧ q ≠ b) W6 O xs → O.length = n → rIns Lk x = O → V.ownsRow W6.heap.size 33 2 (.slice p n c) n xs → Chg F w (V.setCell ⟨b, 2, none⟩ (.slice p n c)) ∧ RBufP (.pointer (some ⟨b, 0, none⟩)) blocks most (rIns Lk x) (fun q => F q ∨ New w (V.setCell ⟨b, 2, none⟩ (.slice p n c)) q) (V.setCell ⟨b, 2, none⟩ (.slice p n c)) := by
             intro V p c n O xs hV hrp hn hO hown
             subst hn
             rw [hO]
             exact ref_store hFb hd hch6 hbh6 hV hrp hown
            have HS0 := Lib.hid hS0
            have HCEL := Lib.hid hcel
            have HSTORE := Lib.hid hstore
            have HBP6 := Lib.hid hbp6
            have HXD6 := Lib.hid hxd6
            have HCH6 := Lib.hid hch6
            have HBH6 := Lib.hid hbh6
            have HBH := Lib.hid hbh
            have HBP := Lib.hid hbp
            have HXD := Lib.hid hxd
            have HXH := Lib.hid hxh
            clear hS0 hcel hstore hbp6 hxd6 hch6 hbh6 hbh hbp hxd hxh
            clear hx0 hx1 hb2 hbf HX
            go_wp2_with fail
            go_loopw [14, 15, 16] (fun ov dv iv wr2 => ∃ m : Nat, ∃ O d o c n xs, m ≤ Lk.length ∧ iv = .int .i64 m ∧ dv = .bool d ∧ ov = .slice o n c ∧ Hid (O.length = n) ∧ Hid (insTo x Lk m = (O, d)) ∧ Hid (Sep W6 [OldA W6, RowA 33 2 (.slice o n c) n xs] wr2) ∧ Hid (RowP (fun q => (F q ∨ New w W6 q) ∧ q ≠ b) W6 O xs)) (fun _ _ iv _ => Lk.length - (intOf iv).toNat)
            case atStart => exact ⟨0, [], false, none, 0, 0, [], by omega, rfl, rfl, rfl, Lib.hid rfl, Lib.hid rfl, HS0, Lib.hid (RowP.nil _ _)⟩
            case round =>
             obtain ⟨m, O, d, oo, oc, n, xs, hm, rfl, rfl, rfl, HN, HI, HS, HRP⟩ := hrel
             have hn : n ≤ 1000001 := by have := insTo_len x Lk m hm; rw [HI.out] at this; have := HN.out; simp only at *; omega
             obtain ⟨d1, d2, d3, d4, d5⟩ := HCEL.out _ HS.out.old
             by_cases hlm : m < Lk.length
             case pos =>
              obtain ⟨qg, qo, dpy, dcy, rfl, _, hy1, hy2, hyi, hyd⟩ := putsAt_get HBP6.out m hlm
              have hmI : (m : Int) < (Lk.length : Int) := by omega
              have hnx := insTo_succ x Lk m hlm
              rw [HI.out] at hnx
              generalize Lk[m] = y at *
              have hyc : ∀ V, Below W6.heap.size W6 V → V.cell? ⟨qg, qo + m * 2, none⟩ = some (.int .i64 y.lba) ∧ V.cell? ⟨qg, qo + m * 2 + 1, none⟩ = some (.slice dpy y.data.length dcy) := fun V hV => ⟨cell_up hV hy1, cell_up hV hy2⟩
              obtain ⟨e1, e2⟩ := hyc _ HS.out.old
              have HNX := Lib.hid hnx
              have HYI := Lib.hid hyi
              have HYD := Lib.hid hyd
              have HYC := Lib.hid hyc
              clear hnx hyi hyd hyc
              clear hy1 hy2
              cases d with
              | true =>
               by_cases e : y.lba = x.lba
               case pos =>
                have hnx2 : insTo x Lk (m + 1) = (O, true) := by rw [HNX.out]; simp [insStep, e]
                have hne : (y.lba != x.lba) = false := by rw [bne_eq_false_iff_eq]; exact e
                have HNX2 := Lib.hid hnx2
                have HE := Lib.hid e
                clear hnx2 e
                go_wp2_with fail
                go_quiet (fail)
                have HS7 := Lib.hid (HS.out.up (below_drewN (Below.refl wr.heap.size wr) nq))
                clear d1 d2 d3 d4 d5 e1 e2
                obtain ⟨d1, d2, d3, d4, d5⟩ := HCEL.out _ HS7.out.old
                obtain ⟨e1, e2⟩ := HYC.out _ HS7.out.old
                generalize wr.drewN nq = w7 at *
                go_wp2_with fail
                go_quiet (fail)
                have HS8 := Lib.hid (HS7.out.up (below_drewN (Below.refl w7.heap.size w7) nq))
                clear d1 d2 d3 d4 d5 e1 e2
                obtain ⟨d1, d2, d3, d4, d5⟩ := HCEL.out _ HS8.out.old
                obtain ⟨e1, e2⟩ := HYC.out _ HS8.out.old
                generalize w7.drewN nq = w8 at *
                go_wp2_with fail
                go_roundw
                case rel => exact ⟨m + 1, (O), true, _, _, n, _, by omega, by go_num, rfl, rfl, Lib.hid (HN.out), Lib.hid (HNX2.out), HS8, Lib.hid (HRP.out)⟩
                case measure => simp [intOf]; omega
               case neg =>
                have hnx2 : insTo x Lk (m + 1) = (O ++ [y], true) := by rw [HNX.out]; simp [insStep, e]
                have hne : (y.lba != x.lba) = true := by rw [bne_iff_ne]; exact e
                have HNX2 := Lib.hid hnx2
                have HE := Lib.hid e
                clear hnx2 e
                go_wp2_with fail
                go_quiet (fail)
                have HS7 := Lib.hid (HS.out.up (below_drewN (Below.refl wr.heap.size wr) nq))
                clear d1 d2 d3 d4 d5 e1 e2
                obtain ⟨d1, d2, d3, d4, d5⟩ := HCEL.out _ HS7.out.old
                obtain ⟨e1, e2⟩ := HYC.out _ HS7.out.old
                generalize wr.drewN nq = w7 at *
                go_wp2_with fail
                go_quiet (fail)
                have HS8 := Lib.hid (HS7.out.up (below_drewN (Below.refl w7.heap.size w7) nq))
                clear d1 d2 d3 d4 d5 e1 e2
                obtain ⟨d1, d2, d3, d4, d5⟩ := HCEL.out _ HS8.out.old
                obtain ⟨e1, e2⟩ := HYC.out _ HS8.out.old
                generalize w7.drewN nq = w8 at *
                obtain ⟨FB, hFB, _⟩ := HS8.out.get 1 rfl
                have hrowB := hFB.1
                obtain ⟨iiB, hiiB, hizB, hiyB, hixB⟩ := info_parts infoPut
                have HROWB := Lib.hid hrowB
                clear hFB hrowB
                go_wp2_with (at_builtin; refine wpList_append_lies _ rfl _ _ 46 rfl 0 33 iiB (.agg #[.int .i64 0, .slice none 0 0]) 2 32 Tryz.underlying46 hiiB hizB hiyB hixB rfl (by decide) _ (n) (xs) rfl (HROWB.out.alloc _) ⟨w8.heap.size, 0, none⟩ 1 1 [.int .i64 y.lba, .slice dpy y.data.length dcy] rfl rfl (World.news_of_block (cs := #[.int .i64 y.lba, .slice dpy y.data.length dcy]) (heap_alloc_new w8 _)) (by simp [Value.oneCell']) (by decide) (by unfold maxLen; omega) (by omega) (Nat.zero_le _) (w8.heap.size + 1) (by simp) ?_; intro gB cB wB hownB hgrowB hatB hltB)
                have hSB := HS8.out.row_app 1 rfl (below_alloc _ _) hownB hgrowB hatB (by simp) hltB
                clear hownB hgrowB hatB hltB hiiB hizB hiyB hixB
                have HSB := Lib.hid hSB
                clear hSB
                go_wp2_with fail
                go_roundw
                case rel => exact ⟨m + 1, (O ++ [y]), true, _, _, n + 1, _, by omega, by go_num, rfl, rfl, Lib.hid (by rw [List.length_append, HN.out]; rfl), Lib.hid (HNX2.out), HSB, Lib.hid ((HRP.out).snoc HYI.out HYD.out)⟩
                case measure => simp [intOf]; omega
              | false =>
               rcases (show (x.lba ≤ y.lba ∧ y.lba = x.lba) ∨ (x.lba ≤ y.lba ∧ y.lba ≠ x.lba) ∨ (¬ x.lba ≤ y.lba ∧ y.lba ≠ x.lba) by omega) with ⟨f, e⟩ | ⟨f, e⟩ | ⟨f, e⟩
               case inl =>
                have hnx2 : insTo x Lk (m + 1) = (O ++ [x], true) := by rw [HNX.out]; simp [insStep, e]
                have hne : (y.lba != x.lba) = false := by rw [bne_eq_false_iff_eq]; exact e
                have HNX2 := Lib.hid hnx2
                have HE := Lib.hid e
                clear hnx2 e
                go_wp2_with fail
                go_quiet (fail)
                have HS7 := Lib.hid (HS.out.up (below_drewN (Below.refl wr.heap.size wr) nq))
                clear d1 d2 d3 d4 d5 e1 e2
                obtain ⟨d1, d2, d3, d4, d5⟩ := HCEL.out _ HS7.out.old
                obtain ⟨e1, e2⟩ := HYC.out _ HS7.out.old
                generalize wr.drewN nq = w7 at *
                obtain ⟨FA, hFA, _⟩ := HS7.out.get 1 rfl
                have hrowA := hFA.1
                obtain ⟨iiA, hiiA, hizA, hiyA, hixA⟩ := info_parts infoPut
                have HROWA := Lib.hid hrowA
                clear hFA hrowA
                go_upto_region 39 with (at_builtin; refine wpList_append_lies _ rfl _ _ 46 rfl 0 33 iiA (.agg #[.int .i64 0, .slice none 0 0]) 2 32 Tryz.underlying46 hiiA hizA hiyA hixA rfl (by decide) _ (n) (xs) rfl (HROWA.out.alloc _) ⟨w7.heap.size, 0, none⟩ 1 1 [.int .i64 x.lba, .slice dpx x.data.length dcx] rfl rfl (World.news_of_block (cs := #[.int .i64 x.lba, .slice dpx x.data.length dcx]) (heap_alloc_new w7 _)) (by simp [Value.oneCell']) (by decide) (by unfold maxLen; omega) (by omega) (Nat.zero_le _) (w7.heap.size + 1) (by simp) ?_; intro gA cA wA hownA hgrowA hatA hltA)
                have hSA := HS7.out.row_app 1 rfl (below_alloc _ _) hownA hgrowA hatA (by simp) hltA
                clear hownA hgrowA hatA hltA hiiA hizA hiyA hixA
                have HSA := Lib.hid hSA
                clear hSA
                have HRA := Lib.hid (HRP.out.snoc HKI.out HXD6.out)
                clear d1 d2 d3 d4 d5 e1 e2
                obtain ⟨d1, d2, d3, d4, d5⟩ := HCEL.out _ HSA.out.old
                obtain ⟨e1, e2⟩ := HYC.out _ HSA.out.old
                go_wp2_with fail
                go_quiet (fail)
                have HS8 := Lib.hid (HSA.out.up (below_drewN (Below.refl wA.heap.size wA) nq))
                clear d1 d2 d3 d4 d5 e1 e2
                obtain ⟨d1, d2, d3, d4, d5⟩ := HCEL.out _ HS8.out.old
                obtain ⟨e1, e2⟩ := HYC.out _ HS8.out.old
                generalize wA.drewN nq = w8 at *
                go_wp2_with fail
                go_roundw
                case rel => exact ⟨m + 1, (O ++ [x]), true, _, _, n + 1, _, by omega, by go_num, rfl, rfl, Lib.hid (by rw [List.length_append, HN.out]; rfl), Lib.hid (HNX2.out), HS8, Lib.hid (HRA.out)⟩
                case measure => simp [intOf]; omega
               case inr.inl =>
                have hnx2 : insTo x Lk (m + 1) = (O ++ [x] ++ [y], true) := by rw [HNX.out]; simp [insStep, f, e]
                have hne : (y.lba != x.lba) = true := by rw [bne_iff_ne]; exact e
                have HNX2 := Lib.hid hnx2
                have HE := Lib.hid e
                clear hnx2 e
                go_wp2_with fail
                go_quiet (fail)
                have HS7 := Lib.hid (HS.out.up (below_drewN (Below.refl wr.heap.size wr) nq))
                clear d1 d2 d3 d4 d5 e1 e2
                obtain ⟨d1, d2, d3, d4, d5⟩ := HCEL.out _ HS7.out.old
                obtain ⟨e1, e2⟩ := HYC.out _ HS7.out.old
                generalize wr.drewN nq = w7 at *
                obtain ⟨FA, hFA, _⟩ := HS7.out.get 1 rfl
                have hrowA := hFA.1
                obtain ⟨iiA, hiiA, hizA, hiyA, hixA⟩ := info_parts infoPut
                have HROWA := Lib.hid hrowA
                clear hFA hrowA
                go_upto_region 39 with (at_builtin; refine wpList_append_lies _ rfl _ _ 46 rfl 0 33 iiA (.agg #[.int .i64 0, .slice none 0 0]) 2 32 Tryz.underlying46 hiiA hizA hiyA hixA rfl (by decide) _ (n) (xs) rfl (HROWA.out.alloc _) ⟨w7.heap.size, 0, none⟩ 1 1 [.int .i64 x.lba, .slice dpx x.data.length dcx] rfl rfl (World.news_of_block (cs := #[.int .i64 x.lba, .slice dpx x.data.length dcx]) (heap_alloc_new w7 _)) (by simp [Value.oneCell']) (by decide) (by unfold maxLen; omega) (by omega) (Nat.zero_le _) (w7.heap.size + 1) (by simp) ?_; intro gA cA wA hownA hgrowA hatA hltA)
                have hSA := HS7.out.row_app 1 rfl (below_alloc _ _) hownA hgrowA hatA (by simp) hltA
                clear hownA hgrowA hatA hltA hiiA hizA hiyA hixA
                have HSA := Lib.hid hSA
                clear hSA
                have HRA := Lib.hid (HRP.out.snoc HKI.out HXD6.out)
                clear d1 d2 d3 d4 d5 e1 e2
                obtain ⟨d1, d2, d3, d4, d5⟩ := HCEL.out _ HSA.out.old
                obtain ⟨e1, e2⟩ := HYC.out _ HSA.out.old
                go_wp2_with fail
                go_quiet (fail)
                have HS8 := Lib.hid (HSA.out.up (below_drewN (Below.refl wA.heap.size wA) nq))
                clear d1 d2 d3 d4 d5 e1 e2
                obtain ⟨d1, d2, d3, d4, d5⟩ := HCEL.out _ HS8.out.old
                obtain ⟨e1, e2⟩ := HYC.out _ HS8.out.old
                generalize wA.drewN nq = w8 at *
                obtain ⟨FB, hFB, _⟩ := HS8.out.get 1 rfl
                have hrowB := hFB.1
                obtain ⟨iiB, hiiB, hizB, hiyB, hixB⟩ := info_parts infoPut
                have HROWB := Lib.hid hrowB
                clear hFB hrowB
                go_wp2_with (at_builtin; refine wpList_append_lies _ rfl _ _ 46 rfl 0 33 iiB (.agg #[.int .i64 0, .slice none 0 0]) 2 32 Tryz.underlying46 hiiB hizB hiyB hixB rfl (by decide) _ (n + 1) (xs ++ [.int .i64 x.lba, .slice dpx x.data.length dcx]) rfl (HROWB.out.alloc _) ⟨w8.heap.size, 0, none⟩ 1 1 [.int .i64 y.lba, .slice dpy y.data.length dcy] rfl rfl (World.news_of_block (cs := #[.int .i64 y.lba, .slice dpy y.data.length dcy]) (heap_alloc_new w8 _)) (by simp [Value.oneCell']) (by decide) (by unfold maxLen; omega) (by omega) (Nat.zero_le _) (w8.heap.size + 1) (by simp) ?_; intro gB cB wB hownB hgrowB hatB hltB)
                have hSB := HS8.out.row_app 1 rfl (below_alloc _ _) hownB hgrowB hatB (by simp) hltB
                clear hownB hgrowB hatB hltB hiiB hizB hiyB hixB
                have HSB := Lib.hid hSB
                clear hSB
                go_wp2_with fail
                go_roundw
                case rel => exact ⟨m + 1, (O ++ [x] ++ [y]), true, _, _, n + 1 + 1, _, by omega, by go_num, rfl, rfl, Lib.hid (by rw [List.length_append, List.length_append, HN.out]; rfl), Lib.hid (HNX2.out), HSB, Lib.hid ((HRA.out).snoc HYI.out HYD.out)⟩
                case measure => simp [intOf]; omega
               case inr.inr =>
                have hnx2 : insTo x Lk (m + 1) = (O ++ [y], false) := by rw [HNX.out]; simp [insStep, f, e]
                have hne : (y.lba != x.lba) = true := by rw [bne_iff_ne]; exact e
                have HNX2 := Lib.hid hnx2
                have HE := Lib.hid e
                clear hnx2 e
                go_wp2_with fail
                go_quiet (fail)
                have HS7 := Lib.hid (HS.out.up (below_drewN (Below.refl wr.heap.size wr) nq))
                clear d1 d2 d3 d4 d5 e1 e2
                obtain ⟨d1, d2, d3, d4, d5⟩ := HCEL.out _ HS7.out.old
                obtain ⟨e1, e2⟩ := HYC.out _ HS7.out.old
                generalize wr.drewN nq = w7 at *
                go_wp2_with fail
                go_quiet (fail)
                have HS8 := Lib.hid (HS7.out.up (below_drewN (Below.refl w7.heap.size w7) nq))
                clear d1 d2 d3 d4 d5 e1 e2
                obtain ⟨d1, d2, d3, d4, d5⟩ := HCEL.out _ HS8.out.old
                obtain ⟨e1, e2⟩ := HYC.out _ HS8.out.old
                generalize w7.drewN nq = w8 at *
                obtain ⟨FB, hFB, _⟩ := HS8.out.get 1 rfl
                have hrowB := hFB.1
                obtain ⟨iiB, hiiB, hizB, hiyB, hixB⟩ := info_parts infoPut
                have HROWB := Lib.hid hrowB
                clear hFB hrowB
                go_wp2_with (at_builtin; refine wpList_append_lies _ rfl _ _ 46 rfl 0 33 iiB (.agg #[.int .i64 0, .slice none 0 0]) 2 32 Tryz.underlying46 hiiB hizB hiyB hixB rfl (by decide) _ (n) (xs) rfl (HROWB.out.alloc _) ⟨w8.heap.size, 0, none⟩ 1 1 [.int .i64 y.lba, .slice dpy y.data.length dcy] rfl rfl (World.news_of_block (cs := #[.int .i64 y.lba, .slice dpy y.data.length dcy]) (heap_alloc_new w8 _)) (by simp [Value.oneCell']) (by decide) (by unfold maxLen; omega) (by omega) (Nat.zero_le _) (w8.heap.size + 1) (by simp) ?_; intro gB cB wB hownB hgrowB hatB hltB)
                have hSB := HS8.out.row_app 1 rfl (below_alloc _ _) hownB hgrowB hatB (by simp) hltB
                clear hownB hgrowB hatB hltB hiiB hizB hiyB hixB
                have HSB := Lib.hid hSB
                clear hSB
                go_wp2_with fail
                go_roundw
                case rel => exact ⟨m + 1, (O ++ [y]), false, _, _, n + 1, _, by omega, by go_num, rfl, rfl, Lib.hid (by rw [List.length_append, HN.out]; rfl), Lib.hid (HNX2.out), HSB, Lib.hid ((HRP.out).snoc HYI.out HYD.out)⟩
                case measure => simp [intOf]; omega
             case neg =>
              obtain rfl : m = Lk.length := by omega
              cases d with
              | true =>
               have hfin : rIns Lk x = O := by unfold rIns; rw [HI.out]; rfl
               have hrow := HS.out.row_mine 1 (by decide) rfl
               obtain ⟨f1, f2⟩ := HSTORE.out _ _ _ _ _ _ HS.out.old HRP.out HN.out hfin hrow
               rw [← HNEXT.out] at f2
               have HF1 := Lib.hid f1
               have HF2 := Lib.hid f2
               have HFIN := Lib.hid hfin
               have HROW := Lib.hid hrow
               clear f1 f2 hfin hrow
               go_wp2_with fail
               go_roundw
               case rel => exact ⟨k + 1, by omega, by go_num, HF1, HF2⟩
               case measure => simp [intOf]; omega
              | false =>
               have hfin : rIns Lk x = O ++ [x] := by unfold rIns; rw [HI.out]; rfl
               obtain ⟨FA, hFA, _⟩ := HS.out.get 1 rfl
               have hrowA := hFA.1
               obtain ⟨iiA, hiiA, hizA, hiyA, hixA⟩ := info_parts infoPut
               have HROWA := Lib.hid hrowA
               clear hFA hrowA
               go_upto_region 43 with (at_builtin; refine wpList_append_lies _ rfl _ _ 46 rfl 0 33 iiA (.agg #[.int .i64 0, .slice none 0 0]) 2 32 Tryz.underlying46 hiiA hizA hiyA hixA rfl (by decide) _ (n) (xs) rfl (HROWA.out.alloc _) ⟨wr.heap.size, 0, none⟩ 1 1 [.int .i64 x.lba, .slice dpx x.data.length dcx] rfl rfl (World.news_of_block (cs := #[.int .i64 x.lba, .slice dpx x.data.length dcx]) (heap_alloc_new wr _)) (by simp [Value.oneCell']) (by decide) (by unfold maxLen; omega) (by omega) (Nat.zero_le _) (wr.heap.size + 1) (by simp) ?_; intro gA cA wA hownA hgrowA hatA hltA)
               have hSA := HS.out.row_app 1 rfl (below_alloc _ _) hownA hgrowA hatA (by simp) hltA
               clear hownA hgrowA hatA hltA hiiA hizA hiyA hixA
               have hrow := hSA.row_mine 1 (by decide) rfl
               obtain ⟨g1, g2, g3, g4, g5⟩ := HCEL.out _ hSA.old
               obtain ⟨f1, f2⟩ := HSTORE.out _ _ _ _ _ _ hSA.old (HRP.out.snoc HKI.out HXD6.out) (by rw [List.length_append, HN.out]; rfl) hfin hrow
               rw [← HNEXT.out] at f2
               have HF1 := Lib.hid f1
               have HF2 := Lib.hid f2
               have HFIN := Lib.hid hfin
               have HROW := Lib.hid hrow
               have HSA := Lib.hid hSA
               clear f1 f2 hfin hrow hSA
               go_wp2_with fail
               go_roundw
               case rel => exact ⟨k + 1, by omega, by go_num, HF1, HF2⟩
               case measure => simp [intOf]; omega
end Go.Proofs
namespace Go.Proofs
open Go.RowKit Sc
end Go.Proofs
namespace Go.Proofs
open Go.RowKit Sc
theorem refMapApply_sep {W w : World} {L : List Asn} (h : Hid (Sep W L w)) (i : Nat) {v tv : Value} {blocks last : Int} {M : List RVer} (hi : L[i]? = some (RMapA v blocks last M)) (t : Tx) (ht : ∀ G, Sc.Rest L i G w → TxAt G w tv t) (hM : M.length ≤ 1000000) (hn : t.puts.length ≤ 1000000) :
  Calls Tryz.prog 91 #[v, tv] w fun e w' => e = .returned (.int .i64 (applyCode blocks last t)) ∧ Hid (Sep W (L.set i (RMapA v blocks (applyLast blocks last t) (if applyCode blocks last t = 0 then mergeV t.time t.puts M else M))) w') := by
 obtain ⟨F, G, hF, hR, hFG, dF, dG, K⟩ := h.out.at i hi
 refine (refMapApply_any F G v tv blocks last M t w hF dF hM (ht G hR) dG hFG hn).mono ?_
 rintro e w' ⟨he, hc, hm⟩
 exact ⟨he, Lib.hid (K w' _ (RMapA v blocks (applyLast blocks last t) (if applyCode blocks last t = 0 then mergeV t.time t.puts M else M)) hc (fun q hq => hq) hm)⟩
theorem refBufWriteV_sep {W w : World} {L : List Asn} (h : Sep W L w) (i : Nat) {v lv : Value} {blocks most : Int} {s : List Put} (hi : L[i]? = some (RBufA v blocks most s)) (l : List Put) (hl : ∀ G, Sc.Rest L i G w → PutsAt G w lv l) (n0 : s.length ≤ 500000) (n1 : l.length ≤ 500000) :
  Calls Tryz.prog 122 #[v, lv] w fun e w' => e = .returned (.int .i64 (rbCode blocks most s l)) ∧ Hid (Sep W (L.set i (RBufA v blocks most (rbNext blocks most s l))) w') := by
 obtain ⟨F, G, hF, hR, hFG, hdF, hdG, K⟩ := h.at i hi
 refine (refBufWrite_any F G v lv blocks most s l w hF hdF (hl G hR) hdG hFG n0 n1).mono ?_
 rintro e w' ⟨rfl, hc, hm⟩
 exact ⟨rfl, K w' _ (RBufA v blocks most (rbNext blocks most s l)) hc (fun k hk => hk) hm⟩
end Go.Proofs
namespace Go.Proofs
open Go.RowKit Sc
structure RxC where
 tb : Nat
 vb : Nat
 bb : Nat
 lv : Value
 rb : List Put
instance instRxC : Inhabited RxC := ⟨⟨0, 0, 0, .slice none 0 0, []⟩⟩
structure RmC where
 mb : Nat
 m : Nat
 hv : Value
 tv : Value
 Tv : Value
 qv : Value
 qh : Value
 ql : List (Int × Value)
 M : List RVer
 cs : List RxC
def qE : Elem (Int × Value) := fun w b o x => w.cell? ⟨b, o, none⟩ = some (.int .i64 x.1) ∧ w.cell? ⟨b, o + 1, none⟩ = some x.2
theorem qE_stable (G : Nat → Prop) : Stable G qE := fun w w' b o x hs hb ⟨h1, h2⟩ => ⟨by rw [hs.cell hb]; exact h1, by rw [hs.cell hb]; exact h2⟩
def QAt (G : Nat → Prop) : World → Value → List (Int × Value) → Prop := SlAt G 2 qE
def RBufLA (b : Nat) (blocks most : Int) (lv : Value) (L : List Put) : Asn := ⟨fun F w => F b ∧ w.heap[b]? = some (.cells #[.int .i64 blocks, .int .i64 most, lv] 159 (0, 0)) ∧ PutsAt (fun q => F q ∧ q ≠ b) w lv L,
 fun _ _ _ hs _ ⟨h1, h2, h3⟩ => ⟨h1, (hs b h1).trans h2, h3.same fun q hq => hs q hq.1⟩⟩
theorem rbufL_weak {b : Nat} {blocks most : Int} {lv : Value} {L : List Put} {F : Nat → Prop} {w : World} (h : (RBufLA b blocks most lv L).P F w) : (RBufA (pt b) blocks most L).P F w := ⟨b, lv, rfl, h.1, h.2.1, h.2.2⟩
theorem Sep.bufL {W w : World} {L : List Asn} (h : Sep W L w) (i : Nat) {b : Nat} {blocks most : Int} {l : List Put} (hi : L[i]? = some (RBufA (pt b) blocks most l)) : ∃ lv, Sep W (L.set i (RBufLA b blocks most lv l)) w := by
 obtain ⟨F, G, ⟨b', lv, hb, h1, h2, h3⟩, _, _, _, _, K⟩ := h.at i hi
 cases hb
 exact ⟨lv, K w F (RBufLA b blocks most lv l) (Chg.refl _ _) (fun k hk => .inl hk) ⟨h1, h2, h3⟩⟩
def rxRow (c : RxC) (t : TxS) : Array Value := #[.int .i64 t.st, .int .i64 t.tm, .int .i64 t.cd, pt c.vb, pt c.bb]
def rxItems (m : Nat) (blocks : Int) (c : RxC) (t : TxS) : List Asn :=
 [BoxA c.tb (rxRow c t) 152, RViewA c.vb (pt m) (pt c.bb) t.at' t.S t.R, RBufLA c.bb blocks 16 c.lv c.rb]
def rmRow (c : RmC) (s : MgS) : Array Value := #[pt c.m, .int .i64 16, c.hv, c.tv, .int .i64 s.lastH, c.Tv, c.qv, c.qh, .int .i64 s.out, .int .i64 s.num, .int .i64 s.given, .int .i64 s.last, .bool s.ro, .int .i64 s.blocks, .int .i64 s.base]
def ImA (hv tv qv qh : Value) (os ts : List Int) (ql : List (Int × Value)) (qs : List Int) : Asn := ⟨fun F w => IntsAt F w hv os ∧ IntsAt F w tv ts ∧ QAt F w qv ql ∧ IntsAt F w qh qs,
 fun F _ _ hs _ ⟨h1, h2, h3, h4⟩ => ⟨h1.same hs, h2.same hs, SlAt.same h3 hs (qE_stable F), h4.same hs⟩⟩
def rmHead (c : RmC) (s : MgS) : List Asn :=
 [BoxA c.mb (rmRow c s) 96, RMapA (pt c.m) s.blocks s.last0 c.M, ImA c.hv c.tv c.qv c.qh (s.tmb.map (·.1)) (s.tmb.map (·.2)) c.ql s.queue, RowA 148 1 c.Tv c.cs.length (c.cs.map fun x => pt x.tb)]
def rxList (c : RmC) (s : MgS) : List (List Asn) := List.zipWith (rxItems c.m s.blocks) c.cs s.txs
def rmItems (c : RmC) (s : MgS) : List Asn := rmHead c s ++ (rxList c s).flatten
def rxAt (cs : List RxC) (h : Int) : RxC := (cs[(h - 1).toNat]?).getD default
structure RmOk (c : RmC) (s : MgS) : Prop where
 len : c.cs.length = s.txs.length
 mapr : MapR s.vs c.M
 bufr : ∀ k (hk : k < s.txs.length) (hk' : k < c.cs.length), BufR s.txs[k].buf c.cs[k].rb
 ql : c.ql = s.queue.map fun h => ((txAt s.txs h).tm, (rxAt c.cs h).lv)
def RMgrA (v : Value) (s : MgS) : Asn := ⟨fun F w => ∃ c : RmC, v = pt c.mb ∧ RmOk c s ∧ (StarA (rmItems c s)).P F w, fun F w w' hs hz ⟨c, h1, h2, h3⟩ => ⟨c, h1, h2, (StarA (rmItems c s)).loc F w w' hs hz h3⟩⟩
theorem RMgrA.opened {W w : World} {L : List Asn} (h : Sep W L w) (i : Nat) {v : Value} {s : MgS} (hi : L[i]? = some (RMgrA v s)) : ∃ c : RmC, v = pt c.mb ∧ RmOk c s ∧ Sep W (OL L i (rmItems c s)) w := by
 obtain ⟨F, G, ⟨c, h1, h2, h3⟩, _, _, _, _, K⟩ := h.at i hi
 have hil := (List.getElem?_eq_some_iff.1 hi).1
 have := K w F (StarA (rmItems c s)) (Chg.refl _ _) (fun k hk => .inl hk) h3
 have := this.openStar i (List.getElem?_set_self hil)
 rw [OL_again] at this
 exact ⟨c, h1, h2, this⟩
theorem RMgrA.closed {W w : World} {L : List Asn} {i : Nat} {c : RmC} {s : MgS} (h : Sep W (OL L i (rmItems c s)) w) (hi : i < L.length) (hc : RmOk c s) : Sep W (L.set i (RMgrA (pt c.mb) s)) w := by
 have h1 := h.closeStar hi
 have h2 := h1.imp i (A := StarA (rmItems c s)) (A' := RMgrA (pt c.mb) s) (List.getElem?_set_self hi) fun F _ hP => ⟨c, rfl, hc, hP⟩
 rw [List.set_set] at h2
 exact h2
theorem flat3_get {l : List (List Asn)} (h4 : ∀ x ∈ l, x.length = 3) : ∀ {i : Nat} (hi : i < l.length) (j : Nat), j < 3 → l.flatten[3 * i + j]? = l[i][j]? := by
 induction l with
 | nil => intro i hi; simp at hi
 | cons x t ih =>
  intro i hi j hj
  have hx := h4 x (by simp)
  rw [List.flatten_cons]
  cases i with
  | zero => rw [List.getElem?_append_left (by omega)]; simp
  | succ i =>
   rw [List.getElem?_append_right (by omega), hx, show 3 * (i + 1) + j - 3 = 3 * i + j by omega]
   exact ih (fun y hy => h4 y (List.mem_cons_of_mem _ hy)) (by simpa using hi) j hj
theorem flat3_set {l : List (List Asn)} (h4 : ∀ x ∈ l, x.length = 3) : ∀ {i : Nat} (hi : i < l.length) (j : Nat), j < 3 → ∀ A : Asn, l.flatten.set (3 * i + j) A = (l.set i (l[i].set j A)).flatten := by
 induction l with
 | nil => intro i hi; simp at hi
 | cons x t ih =>
  intro i hi j hj A
  have hx := h4 x (by simp)
  cases i with
  | zero =>
   rw [List.flatten_cons, List.set_append_left _ _ (by omega)]
   simp
  | succ i =>
   rw [List.flatten_cons, List.set_append_right _ _ (by omega), hx, show 3 * (i + 1) + j - 3 = 3 * i + j by omega, ih (fun y hy => h4 y (List.mem_cons_of_mem _ hy)) (by simpa using hi) j hj A]
   simp
theorem zip_set2 {α β γ : Type} (f : α → β → γ) : ∀ (xs : List α) (bs : List β) (k : Nat) (a : α) (b : β), List.zipWith f (xs.set k a) (bs.set k b) = (List.zipWith f xs bs).set k (f a b)
 | [], _, _, a, _ => by simp
 | _ :: _, [], _, _, _ => by simp
 | x :: xs, y :: bs, 0, a, b => by simp
 | x :: xs, y :: bs, k + 1, a, b => by
  rw [List.set_cons_succ, List.set_cons_succ, List.zipWith_cons_cons, zip_set2 f xs bs k a b, List.zipWith_cons_cons, List.set_cons_succ]
section
variable {c : RmC} {s : MgS}
theorem rxList_len (hc : c.cs.length = s.txs.length) : (rxList c s).length = s.txs.length := by unfold rxList; rw [List.length_zipWith, hc, Nat.min_self]
theorem rxList_three : ∀ x ∈ rxList c s, x.length = 3 := by
 intro x hx
 unfold rxList at hx
 rw [List.mem_iff_getElem] at hx
 obtain ⟨i, hi, rfl⟩ := hx
 rw [List.getElem_zipWith]; rfl
theorem rxList_get (hc : c.cs.length = s.txs.length) {k : Nat} (hk : k < s.txs.length) : (rxList c s)[k]'(by rw [rxList_len hc]; exact hk) = rxItems c.m s.blocks (c.cs[k]'(by omega)) s.txs[k] := by unfold rxList; rw [List.getElem_zipWith]
theorem ritems_tx (hc : c.cs.length = s.txs.length) {k : Nat} (hk : k < s.txs.length) (j : Nat) (hj : j < 3) : (rmItems c s)[4 + (3 * k + j)]? = (rxItems c.m s.blocks (c.cs[k]'(by omega)) s.txs[k])[j]? := by
 unfold rmItems
 rw [List.getElem?_append_right (by show 4 ≤ _; omega), show 4 + (3 * k + j) - (rmHead c s).length = 3 * k + j by show 4 + (3 * k + j) - 4 = _; omega, flat3_get rxList_three (by rw [rxList_len hc]; exact hk) j hj, rxList_get hc hk]
theorem ritems_head (j : Nat) (hj : j < 4) : (rmItems c s)[j]? = (rmHead c s)[j]? := by
 unfold rmItems
 rw [List.getElem?_append_left (by show j < 4; exact hj)]
def RmC.setX (c : RmC) (k : Nat) (x : RxC) : RmC := { c with cs := c.cs.set k x }
theorem ritems_upd (hc : c.cs.length = s.txs.length) {k : Nat} (hk : k < s.txs.length) (x' : RxC) (t' : TxS) (hx : x'.tb = (c.cs[k]'(by omega)).tb) (j : Nat) (hj : j < 3) (A : Asn) (hA : (rxItems c.m s.blocks (c.cs[k]'(by omega)) s.txs[k]).set j A = rxItems c.m s.blocks x' t') :
  (rmItems c s).set (4 + (3 * k + j)) A = rmItems (c.setX k x') { s with txs := s.txs.set k t' } := by
 have hkc : k < c.cs.length := by omega
 have e1 : (c.cs.set k x').map (fun x : RxC => pt x.tb) = c.cs.map fun x : RxC => pt x.tb := by
  rw [List.map_set, hx]
  have : (c.cs.map fun x : RxC => pt x.tb)[k]'(by simpa using hkc) = pt c.cs[k].tb := by simp
  rw [← this, List.set_getElem_self]
 have e2 : rmHead (c.setX k x') { s with txs := s.txs.set k t' } = rmHead c s := by
  unfold rmHead RmC.setX
  simp only [e1, List.length_set]
  rfl
 have e3 : rxList (c.setX k x') { s with txs := s.txs.set k t' } = (rxList c s).set k (rxItems c.m s.blocks x' t') := zip_set2 (rxItems c.m s.blocks) c.cs s.txs k x' t'
 unfold rmItems
 rw [e2, e3, List.set_append_right _ _ (by show 4 ≤ _; omega), show 4 + (3 * k + j) - (rmHead c s).length = 3 * k + j by show 4 + (3 * k + j) - 4 = _; omega, flat3_set rxList_three (by rw [rxList_len hc]; exact hk) j hj, rxList_get hc hk, hA]
end
section
variable {W w : World} {L : List Asn} {i : Nat} {c : RmC} {s : MgS}
theorem rm_heap (h : Sep W (OL L i (rmItems c s)) w) : w.heap[c.mb]? = some (.cells (rmRow c s) 96 (0, 0)) := by
 obtain ⟨F, hF, _⟩ := h.get (L.length + 0) (OL_get.trans (ritems_head 0 (by omega)))
 exact hF.2
theorem rm_cell (h : Sep W (OL L i (rmItems c s)) w) (j : Nat) : w.cell? ⟨c.mb, j, none⟩ = (rmRow c s)[j]? := by rw [cell_row (rm_heap h)]
theorem rx_heap (h : Sep W (OL L i (rmItems c s)) w) (hc : c.cs.length = s.txs.length) {k : Nat} (hk : k < s.txs.length) : w.heap[(c.cs[k]'(by omega)).tb]? = some (.cells (rxRow (c.cs[k]'(by omega)) s.txs[k]) 152 (0, 0)) := by
 obtain ⟨F, hF, _⟩ := h.get (L.length + (4 + (3 * k + 0))) (OL_get.trans (ritems_tx hc hk 0 (by omega)))
 exact hF.2
theorem rx_cell (h : Sep W (OL L i (rmItems c s)) w) (hc : c.cs.length = s.txs.length) {k : Nat} (hk : k < s.txs.length) (j : Nat) : w.cell? ⟨(c.cs[k]'(by omega)).tb, j, none⟩ = (rxRow (c.cs[k]'(by omega)) s.txs[k])[j]? := by rw [cell_row (rx_heap h hc hk)]
theorem rm_row (h : Sep W (OL L i (rmItems c s)) w) (hc : c.cs.length = s.txs.length) : ∃ p cp, c.Tv = .slice p s.txs.length cp ∧ ∀ k (_ : k < s.txs.length) (hk' : k < c.cs.length), ∃ g, p = some ⟨g, 0, none⟩ ∧ w.cell? ⟨g, k, none⟩ = some (pt c.cs[k].tb) := by
 obtain ⟨F, hF, _⟩ := h.get (L.length + 3) (OL_get.trans (ritems_head 3 (by omega)))
 have ho := hF.1
 obtain ⟨_, ⟨e, hn⟩ | ⟨g, cap, cur, e, _, _, hcc, _⟩⟩ := id ho
 ·exact ⟨none, 0, by rw [e, ← hc, hn], fun k hk hk' => by omega⟩
 ·refine ⟨some ⟨g, 0, none⟩, cap, by rw [e, hc], fun k hk hk' => ⟨g, rfl, ?_⟩⟩
  rw [e] at ho
  have := ho.cellAt k (by rw [Nat.mul_one]; exact hk')
  rw [this]
  simp [hk']
end
end Go.Proofs
namespace Go.Proofs
open Go.RowKit Sc
section
variable {W w : World} {L : List Asn} {i : Nat} {c : RmC} {s : MgS}
def ROpenTold (c : RmC) (s : MgS) (n : Int) (w : World) (e : Ending) (w' : World) : Prop :=
 w' = w ∧ ((openB s n = false ∧ e = .returned (.pointer none)) ∨ ∃ k : Nat, ∃ hk : k < s.txs.length, ∃ hk' : k < c.cs.length, n = ((k : Int) + 1) ∧ s.txs[k].st = 1 ∧ e = .returned (.pointer (some ⟨c.cs[k].tb, 0, none⟩)))
set_option maxRecDepth 100000 in
set_option maxHeartbeats 1000000 in
theorem ropen_core (h : Hid (Sep W (OL L i (rmItems c s)) w)) (hc : RmOk c s) (hlen : s.txs.length ≤ 1000000) (n : Int) (iN : I64 n) :
  Calls Tryz.prog 120 #[.pointer (some ⟨c.mb, 0, none⟩), .int .i64 n] w (ROpenTold c s n w) := by
 obtain ⟨p, cp, hTv, hrow⟩ := rm_row h.out hc.len
 have c5 : w.cell? ⟨c.mb, 5, none⟩ = some (.slice p s.txs.length cp) := by rw [rm_cell h.out, ← hTv]; rfl
 by_cases h1 : n < 1
 case pos =>
  have HN := Lib.hid (openB_no (s := s) (h := n) (by omega))
  clear hrow c5
  go_enter Tryz.func120, Tryz.ntmps120
  go_wp2
  go_ret
  exact ⟨rfl, .inl ⟨HN.out, rfl⟩⟩
 case neg =>
 by_cases h2 : (s.txs.length : Int) < n
 case pos =>
  have HN := Lib.hid (openB_no (s := s) (h := n) (by omega))
  clear hrow
  go_enter Tryz.func120, Tryz.ntmps120
  go_wp2
  go_ret
  exact ⟨rfl, .inl ⟨HN.out, rfl⟩⟩
 case neg =>
  obtain ⟨k, hk⟩ : ∃ k : Nat, n = ((k : Int) + 1) := ⟨(n - 1).toNat, by omega⟩
  subst hk
  have hks : k < s.txs.length := by omega
  have hkc : k < c.cs.length := by rw [hc.len]; exact hks
  obtain ⟨g, rfl, hck⟩ := hrow k hks hkc
  have t0 : w.cell? ⟨c.cs[k].tb, 0, none⟩ = some (.int .i64 s.txs[k].st) := by rw [rx_cell h.out hc.len hks]; rfl
  have hob := openB_at hks
  have HR : Hid (s.txs[k].st = 1 → ROpenTold c s ((k : Int) + 1) w (.returned (.pointer (some ⟨c.cs[k].tb, 0, none⟩))) w) := fun e => ⟨rfl, .inr ⟨k, hks, hkc, rfl, e, rfl⟩⟩
  have hw1 : IntKind.i64.wrap ((k : Int) + 1 - 1) = (k : Int) := by rw [IntWalk.i64_in _ (by omega)]; omega
  have hw2 : (k : Int) + 1 - 1 = k := by omega
  have hkI : (k : Int) < (s.txs.length : Int) := by omega
  have HOB := Lib.hid hob
  clear hob
  clear hrow
  generalize (c.cs[k]).tb = tb at *
  generalize s.txs[k].st = st at *
  clear hks
  have HKC := Lib.hid hkc
  clear hkc
  by_cases h1 : st = 1
  ·subst h1
   go_enter Tryz.func120, Tryz.ntmps120
   go_wp2
   go_ret
   exact HR.out (by first | rfl | trivial)
  ·have h1b : (st != 1) = true := by rw [bne_iff_ne]; exact h1
   have HB : Hid (openB s ((k : Int) + 1) = false) := by show _ = _; rw [HOB.out, beq_eq_false_iff_ne]; exact h1
   clear h1
   go_enter Tryz.func120, Tryz.ntmps120
   go_wp2
   go_ret
   exact ⟨rfl, .inl ⟨HB.out, rfl⟩⟩
end
end Go.Proofs
namespace Go.Proofs
open Go.RowKit Sc
theorem refReadG_core {W w : World} {Z Bf : Asn} {xv yv : Value} {z : Nat} {blocks last b2 most t : Int} {L : List RVer} {s : List Put} {S : List Ext} {R : List Sc.Read} (hBf : ∀ F w, Bf.P F w → RBufP yv b2 most s F w) (h : Hid (Sep W [Z, RMapA xv blocks last L, Bf, RViewA z xv yv t S R] w)) (hbl : blocks ≤ 1048576) (hS : SetG S) (nS : S.length ≤ 40000) (nR : R.length ≤ 900000) (nL : L.length ≤ 1000000) (ns : s.length ≤ 1000000) (h40 : ∀ k, (refBlk L s t k).length = 40) (e : Ext) (i1 : I64 e.first) (i2 : I64 e.len) :
  Calls Tryz.prog 121 #[.pointer (some ⟨z, 0, none⟩), .agg #[.int .i64 e.first, .int .i64 e.len]] w fun r w' =>
   (readCode blocks S e ≠ 0 ∧ r = .returned (.tuple #[.slice none 0 0, .int .i64 (readCode blocks S e)]) ∧ Hid (Sep W [Z, RMapA xv blocks last L, Bf, RViewA z xv yv t S R] w')) ∨
   (readCode blocks S e = 0 ∧ ∃ p c, r = .returned (.tuple #[.slice p (refRows L s t e.first e.len.toNat).length c, .int .i64 0]) ∧
     Hid (Sep W [Z, RMapA xv blocks last L, Bf, RViewA z xv yv t (addNext 64 S [e]) (R ++ refReads L s t e.first e.len.toNat), ByA (.slice p (refRows L s t e.first e.len.toNat).length c) (refRows L s t e.first e.len.toNat)] w')) := by
 obtain ⟨F, G, hF, hR, hFG, dF, dG, K⟩ := h.out.at 3 rfl
 obtain ⟨Fm, m1, m2⟩ := hR 1 _ (by decide) rfl
 obtain ⟨Fb, n1, n2⟩ := hR 2 _ (by decide) rfl
 refine (refRead_any m2 (hBf _ _ n2) hF (fun q hq => dG q (m1 q hq)) (fun q hq => dG q (n1 q hq)) dF (fun q h1 h2 => hFG q h1 (m1 q h2)) (fun q h1 h2 => hFG q h1 (n1 q h2)) hbl hS nS nR nL ns h40 e i1 i2).mono ?_
 rintro r w' (⟨h1, h2, h3⟩ | ⟨h1, p, c, h2, F2, F3, h3, h4, h5, h6⟩)
 ·exact .inl ⟨h1, h2, Lib.hid (h.out.up h3.out)⟩
 ·have hs := K w' (fun q => F2 q ∨ F3 q) (StarA [RViewA z xv yv t (addNext 64 S [e]) (R ++ refReads L s t e.first e.len.toNat), ByA (.slice p (refRows L s t e.first e.len.toNat).length c) (refRows L s t e.first e.len.toNat)]) h3.out (fun q hq => hq.elim (h4.out.1 q) fun h => .inr (h4.out.2 q h).1)
   ⟨fun i => if i = 0 then F2 else if i = 1 then F3 else fun _ => False, fun i k hk => by
      by_cases h0 : i = 0
      ·simp only [h0, if_true] at hk; exact .inl hk
      ·by_cases h1 : i = 1
       ·simp only [h1, if_true, Nat.one_ne_zero, if_false] at hk; exact .inr hk
       ·simp only [h0, h1, if_false] at hk,
     fun i j k hij hk hk' => by
      by_cases hi0 : i = 0 <;> by_cases hj0 : j = 0
      ·exact hij (hi0.trans hj0.symm)
      ·by_cases hj1 : j = 1
       ·simp only [hi0, hj1, if_true, Nat.one_ne_zero, if_false] at hk hk'; exact (h4.out.2 k hk').2 hk
       ·simp only [hj0, hj1, if_false] at hk'
      ·by_cases hi1 : i = 1
       ·simp only [hj0, hi1, if_true, Nat.one_ne_zero, if_false] at hk hk'; exact (h4.out.2 k hk).2 hk'
       ·simp only [hi0, hi1, if_false] at hk
      ·by_cases hi1 : i = 1
       ·by_cases hj1 : j = 1
        ·exact hij (hi1.trans hj1.symm)
        ·simp only [hj0, hj1, if_false] at hk'
       ·simp only [hi0, hi1, if_false] at hk,
     fun i A hA => by
      match i, hA with
      | 0, hA => cases hA; exact h5.out
      | 1, hA => cases hA; exact h6.out
      | i + 2, hA => simp at hA⟩
  exact .inr ⟨h1, p, c, h2, Lib.hid ((hs.openStar 3 rfl).erase 3)⟩
theorem refReadG_sep {W w : World} {L : List Asn} {Bf : Asn} (h : Hid (Sep W L w)) (im ib iv : Nat) {xv yv : Value} {z : Nat} {blocks last b2 most t : Int} {M : List RVer} {s : List Put} {S : List Ext} {R : List Sc.Read} (hBf : ∀ F w, Bf.P F w → RBufP yv b2 most s F w) (hn : [im, ib, iv].Nodup)
  (hm : L[im]? = some (RMapA xv blocks last M)) (hb : L[ib]? = some (Bf)) (hv : L[iv]? = some (RViewA z xv yv t S R))
  (hbl : blocks ≤ 1048576) (hS : SetG S) (nS : S.length ≤ 40000) (nR : R.length ≤ 900000) (nL : M.length ≤ 1000000) (ns : s.length ≤ 1000000) (h40 : ∀ k, (refBlk M s t k).length = 40) (e : Ext) (i1 : I64 e.first) (i2 : I64 e.len) :
  Calls Tryz.prog 121 #[.pointer (some ⟨z, 0, none⟩), .agg #[.int .i64 e.first, .int .i64 e.len]] w fun r w' =>
   (readCode blocks S e ≠ 0 ∧ r = .returned (.tuple #[.slice none 0 0, .int .i64 (readCode blocks S e)]) ∧ Hid (Sep W L w')) ∨
   (readCode blocks S e = 0 ∧ ∃ p c, r = .returned (.tuple #[.slice p (refRows M s t e.first e.len.toNat).length c, .int .i64 0]) ∧
     Hid (Sep W (setAll L [im, ib, iv] [RMapA xv blocks last M, Bf, RViewA z xv yv t (addNext 64 S [e]) (R ++ refReads M s t e.first e.len.toNat)] ++
      [ByA (.slice p (refRows M s t e.first e.len.toNat).length c) (refRows M s t e.first e.len.toNat)]) w')) := by
 have hA : ∀ j (hj : j < [im, ib, iv].length), L[[im, ib, iv][j]]? = some ([RMapA xv blocks last M, Bf, RViewA z xv yv t S R][j]'(by simpa using hj)) := by
  intro j hj
  simp only [List.length_cons, List.length_nil] at hj
  rcases (show j = 0 ∨ j = 1 ∨ j = 2 by omega) with rfl | rfl | rfl
  ·exact hm
  ·exact hb
  ·exact hv
 obtain ⟨Z, hZ, hback⟩ := h.out.zoomN [im, ib, iv] [RMapA xv blocks last M, Bf, RViewA z xv yv t S R] hn rfl hA
 refine (refReadG_core hBf (h := hZ) hbl hS nS nR nL ns h40 e i1 i2).mono ?_
 rintro r w' (⟨h1, h2, h3⟩ | ⟨h1, p, c, h2, h3⟩)
 ·refine .inl ⟨h1, h2, ?_⟩
  have := hback w' [RMapA xv blocks last M, Bf, RViewA z xv yv t S R] [] rfl h3.out
  rw [List.append_nil, setAll_self hn rfl hA] at this
  exact this
 ·exact .inr ⟨h1, p, c, h2, hback w' [_, _, _] [_] rfl h3.out⟩
section
variable {W w : World} {L : List Asn} {i : Nat} {c : RmC} {s : MgS}
theorem rxAt_set {l : List RxC} {h x : Int} (t : RxC) (h1 : 1 ≤ h) (h2 : h ≤ l.length) (hx : 1 ≤ x) : rxAt (l.set (h - 1).toNat t) x = if x = h then t else rxAt l x := by
 unfold rxAt
 by_cases e : x = h
 ·rw [if_pos e, e, List.getElem?_set_self (by omega)]; rfl
 ·rw [if_neg e, List.getElem?_set_ne (by omega)]
theorem rxAt_at {l : List RxC} {k : Nat} (hk : k < l.length) : rxAt l ((k : Int) + 1) = l[k] := by
 unfold rxAt
 rw [show ((k : Int) + 1 - 1).toNat = k by omega, List.getElem?_eq_getElem hk]; rfl
theorem RmOk.upd (hc : RmOk c s) {k : Nat} (hk : k < s.txs.length) (x' : RxC) (t' : TxS) (hb : BufR t'.buf x'.rb) (hq1 : ∀ h ∈ s.queue, 1 ≤ h) (hq : ∀ h ∈ s.queue, h = (k : Int) + 1 → t'.tm = s.txs[k].tm ∧ x'.lv = (c.cs[k]'(by rw [hc.len]; exact hk)).lv) : RmOk (c.setX k x') { s with txs := s.txs.set k t' } := by
 have hkc : k < c.cs.length := by rw [hc.len]; exact hk
 refine ⟨by show (c.cs.set k x').length = (s.txs.set k t').length; rw [List.length_set, List.length_set]; exact hc.len, hc.mapr, fun j hj hj' => ?_, ?_⟩
 ·have hj1 : j < (s.txs.set k t').length := hj
  have hj2 : j < (c.cs.set k x').length := hj'
  show BufR ((s.txs.set k t')[j]'hj1).buf ((c.cs.set k x')[j]'hj2).rb
  by_cases hjk : k = j
  ·subst hjk
   rw [List.getElem_set_self, List.getElem_set_self]; exact hb
  ·rw [List.getElem_set_ne hjk, List.getElem_set_ne hjk]
   exact hc.bufr j (by simpa using hj1) (by simpa using hj2)
 ·show c.ql = s.queue.map fun h => ((txAt (s.txs.set k t') h).tm, (rxAt (c.cs.set k x') h).lv)
  rw [hc.ql]
  refine List.map_congr_left fun h hh => ?_
  have e1 := txAt_set (l := s.txs) (h := (k : Int) + 1) (x := h) t' (by omega) (by omega) (hq1 h hh)
  have e2 := rxAt_set (l := c.cs) (h := (k : Int) + 1) (x := h) x' (by omega) (by omega) (hq1 h hh)
  rw [show ((k : Int) + 1 - 1).toNat = k by omega] at e1 e2
  rw [e1, e2]
  by_cases he : h = (k : Int) + 1
  ·rw [if_pos he, if_pos he]
   obtain ⟨q1, q2⟩ := hq h hh he
   rw [q1, q2, he, rxAt_at hkc]
   have : txAt s.txs ((k : Int) + 1) = s.txs[k] := by
    unfold txAt
    rw [show ((k : Int) + 1 - 1).toNat = k by omega, List.getElem?_eq_getElem hk]; rfl
   rw [this]
  ·rw [if_neg he, if_neg he]
set_option maxRecDepth 100000 in
set_option maxHeartbeats 2000000 in
theorem rwrite_core (h : Hid (Sep W (OL L i (rmItems c s)) w)) (hc : RmOk c s) {N : Nat} (g : MgG N s) (hN : N ≤ 1000000) (n : Int) (iN : I64 n) (lv : Value) (l : List Put) (hl : ∀ G, Sc.Rest L i G w → PutsAt G w lv l) (n1 : l.length ≤ 400000) :
  Calls Tryz.prog 81 #[.pointer (some ⟨c.mb, 0, none⟩), .int .i64 n, lv] w fun e w' => e = .returned (.int .i64 (wrCode s n l)) ∧ ∃ c' : RmC, c'.mb = c.mb ∧ RmOk c' (wrNext s n l) ∧ Hid (Sep W (OL L i (rmItems c' (wrNext s n l))) w') := by
 have HL := Lib.hid hl
 have HC := Lib.hid hc
 have HG := Lib.hid g
 clear hl
 go_enter Tryz.func81, Tryz.ntmps81
 go_wp2_with fail
 refine (ropen_core h hc (by have := g.hn; omega) n iN).mono ?_
 rintro e w1 ⟨rfl, ⟨ho, rfl⟩ | ⟨k, hks, hkc, rfl, hst, rfl⟩⟩
 ·have HO : Hid (wrCode s n l = 5 ∧ wrNext s n l = s) := ⟨by unfold wrCode; rw [ho]; rfl, by unfold wrNext; rw [ho]; rfl⟩
  clear ho g hc
  go_wp2
  go_ret
  exact ⟨by rw [HO.out.1]; rfl, c, rfl, by rw [HO.out.2]; exact HC.out, by rw [HO.out.2]; exact h⟩
 ·have t4 : w1.cell? ⟨c.cs[k].tb, 4, none⟩ = some (.pointer (some ⟨c.cs[k].bb, 0, none⟩)) := by rw [rx_cell h.out hc.len hks]; rfl
  have ho : openB s ((k : Int) + 1) = true := by rw [openB_at hks, hst]; rfl
  have HO : Hid (wrCode s ((k : Int) + 1) l = bufCode s.blocks 16 s.txs[k].buf l ∧ wrNext s ((k : Int) + 1) l = { s with txs := s.txs.set k { s.txs[k] with buf := bufNext s.blocks 16 s.txs[k].buf l } }) :=
   ⟨by unfold wrCode; rw [ho, txOf_at hks]; rfl, by unfold wrNext; rw [ho, txOf_at hks, setTx_at]; rfl⟩
  have hbr := hc.bufr k hks hkc
  have hbl : c.cs[k].rb.length ≤ 16 := by rw [hbr.len]; have := (g.tx _ (List.getElem_mem hks)).bl; omega
  have e2 : (OL L i (rmItems c s))[L.length + (4 + (3 * k + 2))]? = some (RBufLA c.cs[k].bb s.blocks 16 c.cs[k].lv c.cs[k].rb) := OL_get.trans (ritems_tx hc.len hks 2 (by omega))
  have h2 := h.out.imp (L.length + (4 + (3 * k + 2))) e2 (A' := RBufA (pt c.cs[k].bb) s.blocks 16 c.cs[k].rb) fun F _ hF => rbufL_weak hF
  have hil2 := (List.getElem?_eq_some_iff.1 e2).1
  have hw := refBufWriteV_sep h2 (L.length + (4 + (3 * k + 2))) (lv := lv) (List.getElem?_set_self hil2) l (fun G hG => HL.out G (Rest_OL (fun j A hj hA => hG j A hj (by rw [List.getElem?_set_ne (fun e => hj e.symm)]; exact hA)))) (by omega) (by omega)
  rw [hbr.code, List.set_set] at hw
  have hnx := hbr.next (blocks := s.blocks) (most := 16) l
  have hqn : ∀ h ∈ s.queue, h = (k : Int) + 1 → False := fun x hx e => by
   have := (g.qp x hx).1
   have h3 : txAt s.txs x = s.txs[k] := by rw [e]; unfold txAt; rw [show ((k : Int) + 1 - 1).toNat = k by omega, List.getElem?_eq_getElem hks]; rfl
   rw [h3, hst] at this
   omega
  have hq1 : ∀ h ∈ s.queue, 1 ≤ h := fun x hx => (g.qr x hx).1
  have HW := Lib.hid hw
  have HNX := Lib.hid hnx
  have HQN := Lib.hid hqn
  have HQ1 := Lib.hid hq1
  clear hw hnx hqn hq1
  clear ho hst g hc hbr h2 e2 hbl
  go_wp2_with fail
  refine (HW.out).mono ?_
  rintro e w2 ⟨rfl, HS2⟩
  obtain ⟨lv2, hs3⟩ := Sep.bufL HS2.out (L.length + (4 + (3 * k + 2))) (List.getElem?_set_self hil2)
  rw [List.set_set, OL_set, ritems_upd HC.out.len hks { c.cs[k] with lv := lv2, rb := rbNext s.blocks 16 c.cs[k].rb l } { s.txs[k] with buf := bufNext s.blocks 16 s.txs[k].buf l } rfl 2 (by omega) _ rfl] at hs3
  have HS3 := Lib.hid hs3
  have HF := Lib.hid (HC.out.upd hks { c.cs[k] with lv := lv2, rb := rbNext s.blocks 16 c.cs[k].rb l } { s.txs[k] with buf := bufNext s.blocks 16 s.txs[k].buf l } HNX.out HQ1.out (fun x hx e => absurd e (HQN.out x hx)))
  clear hs3 HS2 HW
  go_wp2
  go_ret
  exact ⟨by rw [HO.out.1]; rfl, c.setX k _, rfl, by rw [HO.out.2]; exact HF.out, by rw [HO.out.2]; exact HS3⟩
end
end Go.Proofs
namespace Go.Proofs
open Go.RowKit Sc
section
variable {W w : World} {L : List Asn} {i : Nat} {c : RmC} {s : MgS}
theorem ritems_read (hc : c.cs.length = s.txs.length) {k : Nat} (hk : k < s.txs.length) (S : List Ext) (R : List Sc.Read) :
  setAll (OL L i (rmItems c s)) [L.length + 1, L.length + (4 + (3 * k + 2)), L.length + (4 + (3 * k + 1))]
   [RMapA (pt c.m) s.blocks s.last0 c.M, RBufLA (c.cs[k]'(by omega)).bb s.blocks 16 (c.cs[k]'(by omega)).lv (c.cs[k]'(by omega)).rb, RViewA (c.cs[k]'(by omega)).vb (pt c.m) (pt (c.cs[k]'(by omega)).bb) s.txs[k].at' S R] =
  OL L i (rmItems (c.setX k (c.cs[k]'(by omega))) { s with txs := s.txs.set k { s.txs[k] with S := S, R := R } }) := by
 unfold setAll
 rw [OL_set, set_same (ritems_head 1 (by omega))]
 unfold setAll
 rw [OL_set, set_same (ritems_tx hc hk 2 (by omega))]
 unfold setAll
 rw [OL_set, ritems_upd hc hk (c.cs[k]'(by omega)) { s.txs[k] with S := S, R := R } rfl 1 (by omega) _ rfl]
 rfl
theorem RmC.setX_self {k : Nat} (hk : k < c.cs.length) : c.setX k c.cs[k] = c := by
 unfold RmC.setX
 rw [List.set_getElem_self]
set_option maxRecDepth 100000 in
set_option maxHeartbeats 2000000 in
theorem rread_core (h : Hid (Sep W (OL L i (rmItems c s)) w)) (hc : RmOk c s) {N : Nat} (g : MgG N s) (hN : N ≤ 400000) (hM : c.M.length ≤ 1000000) (n : Int) (iN : I64 n) (e : Ext) (i1 : I64 e.first) (i2 : I64 e.len) (hi : i < L.length) :
  Calls Tryz.prog 80 #[.pointer (some ⟨c.mb, 0, none⟩), .int .i64 n, .agg #[.int .i64 e.first, .int .i64 e.len]] w fun r w' =>
   (rdCode s n e ≠ 0 ∧ r = .returned (.tuple #[.slice none 0 0, .int .i64 (rdCode s n e)]) ∧ Hid (Sep W (OL L i (rmItems c s)) w')) ∨
   (rdCode s n e = 0 ∧ RmOk c (rdNext s n e) ∧ ∃ p cp, r = .returned (.tuple #[.slice p (rdOut s n e).length cp, .int .i64 0]) ∧
     Hid (Sep W (OL (L ++ [ByA (.slice p (rdOut s n e).length cp) (rdOut s n e)]) i (rmItems c (rdNext s n e))) w')) := by
 have HC := Lib.hid hc
 have HG := Lib.hid g
 have h' : Hid (Sep W (OL (L ++ [BoxA w.heap.size #[.int .i64 e.first, .int .i64 e.len] 56]) i (rmItems c s)) (w.alloc (.cells #[.int .i64 e.first, .int .i64 e.len] 56))) := h.out.boxed hi _ _
 have e0 := h'.out.box_at hi 0
 have e1 := h'.out.box_at hi 1
 change _ = some (Value.int .i64 e.first) at e0
 change _ = some (Value.int .i64 e.len) at e1
 clear h
 go_enter Tryz.func80, Tryz.ntmps80
 go_wp2_with fail
 refine (ropen_core h' hc (by have := g.hn; omega) n iN).mono ?_
 rintro r w1 ⟨rfl, ⟨ho, rfl⟩ | ⟨k, hks, hkc, rfl, hst, rfl⟩⟩
 ·have HO : Hid (rdCode s n e = 5) := by show _ = _; unfold rdCode; rw [ho]; rfl
  have HS := Lib.hid (h'.out.unbox hi)
  rw [List.append_nil] at HS
  clear ho h' g hc
  go_wp2
  go_ret2
  exact .inl ⟨by rw [HO.out]; decide, by rw [HO.out]; rfl, HS⟩
 ·have ho : openB s ((k : Int) + 1) = true := by rw [openB_at hks, hst]; rfl
  have ht := g.tx _ (List.getElem_mem hks)
  have hbr := hc.bufr k hks hkc
  have hrc : rdCode s ((k : Int) + 1) e = readCode s.blocks s.txs[k].S e := by unfold rdCode; rw [ho, txOf_at hks]; rfl
  have hd := h'.out.up (below_drewN (Below.refl (w.alloc (.cells #[.int .i64 e.first, .int .i64 e.len] 56)).heap.size (w.alloc (.cells #[.int .i64 e.first, .int .i64 e.len] 56))) 1)
  have t3 := rx_cell hd hc.len hks 3
  change _ = some (Value.pointer (some ⟨(c.cs[k]).vb, 0, none⟩)) at t3
  have f0 := hd.box_at hi 0
  have f1 := hd.box_at hi 1
  change _ = some (Value.int .i64 e.first) at f0
  change _ = some (Value.int .i64 e.len) at f1
  have hlL : (L ++ [BoxA w.heap.size #[.int .i64 e.first, .int .i64 e.len] 56]).length = L.length + 1 := by simp
  have hblk : ∀ x, refBlk c.M c.cs[k].rb s.txs[k].at' x = blkV s.vs s.txs[k].buf s.txs[k].at' x := fun x => (blk_ref hc.mapr hbr s.txs[k].at' x).symm
  have hw := refReadG_sep (Lib.hid hd) (L.length + 1 + 1) (L.length + 1 + (4 + (3 * k + 2))) (L.length + 1 + (4 + (3 * k + 1))) (fun F w h => rbufL_weak h) (by simp; omega) (by rw [← hlL]; exact OL_get.trans (ritems_head 1 (by omega))) (by rw [← hlL]; exact OL_get.trans (ritems_tx hc.len hks 2 (by omega))) (by rw [← hlL]; exact OL_get.trans (ritems_tx hc.len hks 1 (by omega)))
   g.b2 ht.sg (by have := ht.sl; omega) (by have := ht.rl; omega) hM (by rw [hbr.len]; have := ht.bl; omega) (fun x => by rw [hblk]; exact blkV_length g.ge ht.bg _ x) e i1 i2
  have hrows : refRows c.M c.cs[k].rb s.txs[k].at' e.first e.len.toNat = rdOut s ((k : Int) + 1) e := by
   unfold rdOut refRows
   rw [txOf_at hks]
   congr 1
   funext x
   exact hblk _
  have hreads : refReads c.M c.cs[k].rb s.txs[k].at' e.first e.len.toNat = readsV s.vs s.txs[k].buf s.txs[k].at' e.first e.len.toNat := by
   unfold refReads readsV
   refine List.map_congr_left fun x _ => ?_
   rw [hblk, own_ref hbr]
  rw [hrows, hreads] at hw
  have hrn : readCode s.blocks s.txs[k].S e = 0 → rdNext s ((k : Int) + 1) e = { s with txs := s.txs.set k (rdTx s s.txs[k] e) } := fun h0 => by
   unfold rdNext
   rw [hrc, if_pos h0, setTx_at, txOf_at hks]
  have hir := ritems_read (L := L ++ [BoxA w.heap.size #[.int .i64 e.first, .int .i64 e.len] 56]) (i := i) hc.len hks (addNext 64 s.txs[k].S [e]) (s.txs[k].R ++ readsV s.vs s.txs[k].buf s.txs[k].at' e.first e.len.toNat)
  rw [hlL, RmC.setX_self hkc] at hir
  rw [hir] at hw
  have hok : RmOk c { s with txs := s.txs.set k (rdTx s s.txs[k] e) } := by
   have := hc.upd hks c.cs[k] (rdTx s s.txs[k] e) hbr (fun x hx => (g.qr x hx).1) (fun x _ _ => ⟨rfl, rfl⟩)
   rwa [RmC.setX_self hkc] at this
  have HW := Lib.hid hw
  have HRC := Lib.hid hrc
  have HRN := Lib.hid hrn
  have HOK := Lib.hid hok
  clear hw hrc hrn hok
  clear ho hst ht hd e0 e1 hir h' hblk hrows hreads hbr g
  go_upto_region 4 with fail
  refine wp_regionG (fun W => W.cell? ⟨(c.cs[k]).tb, 3, none⟩ = some (.pointer (some ⟨(c.cs[k]).vb, 0, none⟩)) ∧ W.cell? ⟨w.heap.size, 0, none⟩ = some (.int .i64 e.first) ∧ W.cell? ⟨w.heap.size, 1, none⟩ = some (.int .i64 e.len)) (n := 10) (by kernel_rfl) (by kernel_rfl) ?_
  refine wpG.tk 0 ?_
  refine wpG.tk 1 ?_
  refine wpG.tk 2 ?_
  refine wpG.tk 3 ?_ (hy := by intro W hW; have hld0 := hW.1; go_simp; try with_reducible rfl)
  refine wpG.tk 4 ?_ (hy := by intro W hW; have hld0 := hW.2.1; have hld1 := hW.2.2; go_simp; try with_reducible rfl)
  refine wpG.alone 5 rfl (by kernel_rfl) (by kernel_rfl) ⟨t3, f0, f1⟩ (fun K hK => ?_)
  go_simp
  go_at_call 121
  refine (HW.out).mono ?_
  rintro r w2 (⟨hno, rfl, HS2⟩ | ⟨h0, p, cp, rfl, HS2⟩)
  ·have q3 := rx_cell HS2.out HC.out.len hks 3
   change _ = some (Value.pointer (some ⟨(c.cs[k]).vb, 0, none⟩)) at q3
   have q0 := HS2.out.box_at hi 0
   have q1 := HS2.out.box_at hi 1
   change _ = some (Value.int .i64 e.first) at q0
   change _ = some (Value.int .i64 e.len) at q1
   have HS := Lib.hid (HS2.out.unbox hi)
   rw [List.append_nil] at HS
   have HNO := Lib.hid hno
   clear hno
   try go_simp
   refine hK _ _ ?_
   clear hK K
   refine wpG.tk 6 ?_
   refine wpG.tk 7 ?_
   refine wpG.tk 8 ?_
   refine wpG.tk 9 ?_
   refine wpG.done (by kernel_rfl) ⟨q3, q0, q1⟩ ?_
   go_wp2
   go_ret2
   exact .inl ⟨by rw [HRC.out]; exact HNO.out, by rw [HRC.out]; rfl, HS⟩
  ·have hs3 := HS2.out.shift (by simp; omega)
   rw [List.append_assoc] at hs3
   have q3 := rx_cell hs3 HOK.out.len (k := k) (by simpa using hks) 3
   change _ = some (Value.pointer (some ⟨(c.cs[k]).vb, 0, none⟩)) at q3
   have q0 := hs3.box_at hi 0
   have q1 := hs3.box_at hi 1
   change _ = some (Value.int .i64 e.first) at q0
   change _ = some (Value.int .i64 e.len) at q1
   have HS := Lib.hid (hs3.unbox hi)
   have H0 := Lib.hid h0
   clear h0 hs3 HS2
   try go_simp
   refine hK _ _ ?_
   clear hK K
   refine wpG.tk 6 ?_
   refine wpG.tk 7 ?_
   refine wpG.tk 8 ?_
   refine wpG.tk 9 ?_
   refine wpG.done (by kernel_rfl) ⟨q3, q0, q1⟩ ?_
   go_wp2
   go_ret2
   refine .inr ⟨by rw [HRC.out]; exact H0.out, by rw [HRN.out H0.out]; exact HOK.out, p, cp, rfl, ?_⟩
   rw [HRN.out H0.out]
   exact HS
end
end Go.Proofs
namespace Go.Proofs
open Go.RowKit Sc
theorem addr_add (g o j : Nat) : (⟨g, o, none⟩ : Addr).add j = ⟨g, o + j, none⟩ := by unfold Addr.add; split <;> simp_all
theorem slice_to (g n c j : Nat) (hj : j ≤ c) (W : World) :
  (Instr.slice 91 (.slice (some ⟨g, 0, none⟩) n c) none (some (.int .i64 (j : Int))) none).run Tryz.prog W = .ok (.slice (some ⟨g, 0, none⟩) j c) W := by
 obtain ⟨i0, hi0, _⟩ := info_parts infoInt
 have hu : Tryz.prog.underlying 91 = some (.slice (Tryz.prog.elem 91)) := by kernel_rfl
 have he : Tryz.prog.elem 91 = 3 := by kernel_rfl
 rw [run_slice_h (P := Tryz.prog) (w := W) 91 _ n c hu .i64 (j : Int) (by omega) (by omega), he, run_sizeOf (P := Tryz.prog) W hi0]
 simp only [Result.andThen, sliced, Option.map_some, addr_add, Nat.zero_mul, Nat.add_zero, ite_self, Nat.sub_zero, Int.toNat_natCast]
theorem slice_from (g n c j : Nat) (hn : j + 1 ≤ n) (hc : n ≤ c) :
  ∃ A : Addr, (∀ W, (Instr.slice 91 (.slice (some ⟨g, 0, none⟩) n c) (some (.int .i64 ((j : Int) + 1))) none none).run Tryz.prog W = .ok (.slice (some A) (n - (j + 1)) (c - (j + 1))) W) ∧ (n = j + 1 ∨ ∀ i, A.add i = ⟨g, j + 1 + i, none⟩) := by
 obtain ⟨i0, hi0, _⟩ := info_parts infoInt
 have hu : Tryz.prog.underlying 91 = some (.slice (Tryz.prog.elem 91)) := by kernel_rfl
 have he : Tryz.prog.elem 91 = 3 := by kernel_rfl
 have hk : Tryz.prog.cellsOf 3 = 1 := by kernel_rfl
 have ht : ((j : Int) + 1).toNat = j + 1 := by omega
 by_cases h : c = j + 1
 ·refine ⟨⟨g, 0, none⟩, fun W => ?_, .inl (by omega)⟩
  rw [run_slice_l (P := Tryz.prog) (w := W) 91 _ n c hu .i64 ((j : Int) + 1) (by omega) (by omega), he, run_sizeOf (P := Tryz.prog) W hi0]
  simp only [Result.andThen, sliced, ht, if_pos h]
 ·refine ⟨⟨g, j + 1, none⟩, fun W => ?_, .inr fun i => addr_add _ _ _⟩
  rw [run_slice_l (P := Tryz.prog) (w := W) 91 _ n c hu .i64 ((j : Int) + 1) (by omega) (by omega), he, run_sizeOf (P := Tryz.prog) W hi0]
  simp only [Result.andThen, sliced, ht, if_neg h, Option.map_some, addr_add, hk, Nat.mul_one, Nat.zero_add]
end Go.Proofs