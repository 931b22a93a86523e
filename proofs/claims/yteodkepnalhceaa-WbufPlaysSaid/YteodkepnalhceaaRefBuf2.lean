/- scarpref11's Buf: Write. -/
import Derived.Test.YteodkepnalhceaaRefBuf
import Derived.Test.YteodkepnalhceaaStepRun
import Derived.Test.YteodkepnalhceaaClone
import Derived.Test.YteodkepnalhceaaDat
namespace Go.Proofs
open Go.RowKit Sc

/-- The cells of a row of Puts, whose data lie in blocks of D. -/
def RowP (D : Nat → Prop) (W : World) (l : List Put) (xs : List Value) : Prop := xs.length = l.length * 2 ∧ ∀ j (h : j < l.length), ∃ pv, xs[j * 2]? = some (.int .i64 l[j].lba) ∧ xs[j * 2 + 1]? = some pv ∧ I64 l[j].lba ∧ BytesAt D W pv l[j].data
theorem RowP.nil (D : Nat → Prop) (W : World) : RowP D W [] [] := ⟨rfl, fun j h => absurd h (by simp)⟩
theorem RowP.snoc {D : Nat → Prop} {W : World} {l : List Put} {xs : List Value} (h : RowP D W l xs) {t : Put} {pv : Value} (ht : I64 t.lba) (hp : BytesAt D W pv t.data) : RowP D W (l ++ [t]) (xs ++ [.int .i64 t.lba, pv]) := by
  obtain ⟨h1, h2⟩ := h
  refine ⟨by simp [h1]; omega, fun j hj => ?_⟩
  by_cases hlt : j < l.length
  · obtain ⟨p, e1, e2, e3, e4⟩ := h2 j hlt
    rw [List.getElem_append_left hlt]
    exact ⟨p, by rw [List.getElem?_append_left (by omega)]; exact e1, by rw [List.getElem?_append_left (by omega)]; exact e2, e3, e4⟩
  · have hj0 : j = l.length := by simp at hj; omega
    subst hj0
    rw [List.getElem_append_right (Nat.le_refl _)]
    simp only [Nat.sub_self, List.getElem_cons_zero]
    exact ⟨pv, by rw [List.getElem?_append_right (by omega), h1, Nat.sub_self]; rfl, by rw [List.getElem?_append_right (by omega), h1, show l.length * 2 + 1 - l.length * 2 = 1 by omega]; rfl, ht, hp⟩
theorem RowP.puts {D G : Nat → Prop} {W w : World} {l : List Put} {xs : List Value} {B : Nat} {T : TypeId} {v : Value} (h : RowP D W l xs) (hs : Same D W w) (ho : w.ownsRow B T 2 v l.length xs) (hD : ∀ q, D q → G q) (hv : ∀ g, v.ownBlock = some g → G g) : PutsAt G w v l := by
  have hrow := ho
  obtain ⟨hx, hc | ⟨g, cap, cur, rfl, hbb, hg, hnc, hcm, hcs, htake⟩⟩ := ho
  · obtain ⟨rfl, hl0⟩ := hc
    obtain rfl : l = [] := List.length_eq_zero_iff.1 hl0
    exact SlAt.nil
  · refine ⟨_, cap, rfl, hnc, by unfold maxLen at hcm; omega, (by intro hh; cases hh), fun i hi => ⟨g, 0, rfl, hv g rfl, ?_⟩⟩
    obtain ⟨pv, e1, e2, e3, e4⟩ := h.2 i hi
    refine ⟨?_, e3, pv, ?_, BytesAt.mono (BytesAt.same e4 hs) hD⟩
    · rw [Nat.zero_add, hrow.cellAt (i * 2) (by omega), e1]
    · rw [Nat.zero_add, hrow.cellAt (i * 2 + 1) (by omega), e2]
/-- The new row is laid into the Buf. -/
theorem ref_store {F : Nat → Prop} {b : Nat} {blocks most : Int} {lv : Value} {l : List Put} {w W w3 : World} {xs : List Value} {p : Option Addr} {c : Nat} (hF : F b) (hd : Dom F w) (hcw : Chg F w W) (hh : W.heap[b]? = some (.cells #[.int .i64 blocks, .int .i64 most, lv] 73 (0, 0))) (hb : Below W.heap.size W w3)
    (hr : RowP (fun q => (F q ∨ New w W q) ∧ q ≠ b) W l xs) (ho : w3.ownsRow W.heap.size 54 2 (.slice p l.length c) l.length xs) :
    Chg F w (w3.setCell ⟨b, 2, none⟩ (.slice p l.length c)) ∧ RBufP (.pointer (some ⟨b, 0, none⟩)) blocks most l (fun q => F q ∨ New w (w3.setCell ⟨b, 2, none⟩ (.slice p l.length c)) q) (w3.setCell ⟨b, 2, none⟩ (.slice p l.length c)) := by
  have hbl := hd b hF
  have hz1 := hcw.size
  have hz2 := hb.size
  have hh3 := (hb.block b (by omega)).trans hh
  have hz4 : (w3.setCell ⟨b, 2, none⟩ (.slice p l.length c)).heap.size = w3.heap.size := by simp [World.setCell]
  have hs4 : Same (fun q => q ≠ b) w3 (w3.setCell ⟨b, 2, none⟩ (.slice p l.length c)) := fun q hq => Below.heap_setCell _ _ _ q hq
  have hlt := ho.lt
  refine ⟨(hcw.then_up hb).trans (chg_set w3 b 2 _ hF), b, _, rfl, .inl hF, by rw [heap_set_same hh3]; rfl, ?_⟩
  have ho4 : (w3.setCell ⟨b, 2, none⟩ (.slice p l.length c)).ownsRow W.heap.size 54 2 (.slice p l.length c) l.length xs := row_same (F := fun q => q ≠ b) hs4 ho (fun g hg => by have := hlt g hg; omega)
  refine hr.puts (G := fun q => (F q ∨ New w (w3.setCell ⟨b, 2, none⟩ (.slice p l.length c)) q) ∧ q ≠ b) (fun q hq => (hs4 q hq.2).trans (hb.block q ?_)) ho4 (fun q hq => ⟨hq.1.imp id fun h => ⟨h.1, by rw [hz4]; have := h.2; omega⟩, hq.2⟩) fun g hg => ?_
  · rcases hq.1 with h | h
    · have := hd q h; omega
    · exact h.2
  · have := hlt g hg
    exact ⟨.inr ⟨by omega, by rw [hz4]; exact this.2⟩, by omega⟩
theorem ownsRow_upP {w w' : World} {B T k n : Nat} {v : Value} {xs : List Value} (h : w.ownsRow B T k v n xs) (hb : Below w.heap.size w w') : w'.ownsRow B T k v n xs :=
  row_same (F := fun q => q < w.heap.size) (fun q hq => hb.block q hq) h (fun g hg => (h.lt g hg).2)

/-- 'append(e, d...)', where e is an empty row of one's own. -/
theorem bytes_push {G : Nat → Prop} {W : World} {p : Option Addr} {c : Nat} {d : Bytes} (h : BytesAt G W (.slice p d.length c) d) (hl : d.length ≤ 100000) {B k : Nat} (hk : W.ownsRow B 5 1 (.slice (some ⟨k, 0, none⟩) 0 0) 0 []) (hB : B ≤ W.heap.size) :
    ∃ p' c' w', (Builtin.append_ #[51, 51] 51 #[.slice (some ⟨k, 0, none⟩) 0 0, .slice p d.length c]).run Try.prog W = .ok (.slice p' d.length c') w' ∧ Hid (w'.ownsRow B 5 1 (.slice p' d.length c') d.length (d.map fun x => .int .u8 (x.toNat : Int))) ∧ Hid (W.grownBy w' (some k)) ∧
      Hid ((Value.slice p' d.length c').ownBlock = some k ∨ (Value.slice p' d.length c').ownBlock = some W.heap.size) := by
  obtain ⟨i0, hi, hz0, hz1, hz2⟩ := info_parts infoU8
  obtain ⟨p0, c0, he, a1, a2, a3, a4⟩ := h
  cases he
  obtain ⟨v', w', hr, h2, h3, h4⟩ := run_append_any0 (P := Try.prog) W 51 51 B 5 i0 (.int .u8 0) 1 1 Try.underlying51 hi hz0 hz1 hz2 rfl (by decide) _ 0 [] hk p d.length c (fun hp => by have := a3 hp; omega) (d.map fun x => .int .u8 (x.toNat : Int)) (by simp)
    (fun a ha j u hj => by
      subst ha
      simp only [List.getElem?_map, Option.map_eq_some_iff] at hj
      obtain ⟨x, hx, rfl⟩ := hj
      obtain ⟨hjl, rfl⟩ := List.getElem?_eq_some_iff.1 hx
      obtain ⟨b, o, hp, _, he⟩ := a4 j hjl
      cases hp
      unfold byteE at he
      rw [Nat.mul_one] at he
      have hadd : (⟨b, o, none⟩ : Addr).add j = ⟨b, o + j, none⟩ := by unfold Addr.add; split <;> simp_all
      rw [hadd]; exact he)
    (fun u hu => by obtain ⟨z, _, rfl⟩ := List.mem_map.1 hu; rfl) (by unfold maxLen; omega) (by omega) hB
  rw [Nat.zero_add, List.nil_append] at h2
  have hs : ∃ p' c', v' = .slice p' d.length c' := by
    obtain ⟨_, ⟨rfl, h0⟩ | ⟨g, cap, _, rfl, _⟩⟩ := h2
    · exact ⟨none, 0, by rw [h0]⟩
    · exact ⟨_, _, rfl⟩
  obtain ⟨p', c', rfl⟩ := hs
  exact ⟨p', c', w', hr, h2, h3, h4⟩
theorem below_setP {B b i : Nat} (w : World) (v : Value) (hb : B ≤ b) : Below B w (w.setCell ⟨b, i, none⟩ v) :=
  ⟨by simp [World.setCell], by simp [World.setCell], by simp [World.setCell], by simp [World.setCell], fun k hk => Below.heap_setCell _ _ _ k (show k ≠ b by omega)⟩
/-- The Put that is to be laid, in a block of its own. -/
def XAt (w : World) (x : Put) (xb : Nat) (W : World) : Prop := w.heap.size ≤ xb ∧ Below w.heap.size w W ∧ ∃ dp dc, W.heap[xb]? = some (.cells #[.int .i64 x.lba, .slice dp x.data.length dc] 54 (0, 0)) ∧ BytesAt (New w W) W (.slice dp x.data.length dc) x.data

theorem xat_new {w W : World} {x : Put} {dp : Option Addr} {dc : Nat} (hb : Below w.heap.size w W) (ho : W.ownsRow w.heap.size 5 1 (.slice dp x.data.length dc) x.data.length (x.data.map fun x => .int .u8 (x.toNat : Int))) : XAt w x W.heap.size (W.alloc (.cells #[.int .i64 x.lba, .slice dp x.data.length dc] 54)) :=
  ⟨hb.size, Below.up hb (below_alloc _ _), dp, dc, heap_alloc_new W _, BytesAt.up ((bytesAt_own (New w W) rfl (fun q h1 h2 => ⟨h1, h2⟩) ho).mono fun q hq => ⟨hq.1, by have := hq.2; simp; omega⟩) (below_alloc _ _)⟩
theorem xat_set {w W : World} {x : Put} {dp : Option Addr} {dc xb : Nat} {u1 u2 : Value} (hb : Below w.heap.size w W) (ho : W.ownsRow w.heap.size 5 1 (.slice dp x.data.length dc) x.data.length (x.data.map fun x => .int .u8 (x.toNat : Int))) (hxb : w.heap.size ≤ xb)
    (hh : W.heap[xb]? = some (.cells #[u1, u2] 54 (0, 0))) (hne : (Value.slice dp x.data.length dc).ownBlock ≠ some xb) : XAt w x xb ((W.setCell ⟨xb, 0, none⟩ (.int .i64 x.lba)).setCell ⟨xb, 1, none⟩ (.slice dp x.data.length dc)) := by
  have hs : Same (fun q => q ≠ xb) W ((W.setCell ⟨xb, 0, none⟩ (.int .i64 x.lba)).setCell ⟨xb, 1, none⟩ (.slice dp x.data.length dc)) := fun q hq => (Below.heap_setCell _ _ _ q hq).trans (Below.heap_setCell _ _ _ q hq)
  refine ⟨hxb, (hb.trans (below_setP _ _ hxb)).trans (below_setP _ _ hxb), dp, dc, ?_, bytesAt_own _ rfl (fun q h1 h2 => ⟨h1, h2⟩) (row_same hs ho fun g hg e => hne (by rw [hg, e]))⟩
  rw [heap_set_same (heap_set_same hh _)]; rfl
theorem insTo_len0 (x : Put) (L : List Put) : ∀ j, j ≤ L.length → (insTo x L j).1.length + (if (insTo x L j).2 then 0 else 1) ≤ j + 1 := by
  intro j
  induction j with
  | zero => intro _; simp [insTo]
  | succ j ihj =>
    intro hj
    rw [insTo_succ x L j (by omega)]
    have h1 := ihj (by omega)
    generalize insTo x L j = s at h1 ⊢
    generalize L[j] = y
    obtain ⟨o, d⟩ := s
    unfold insStep
    cases d
    · by_cases hx : x.lba ≤ y.lba <;> by_cases hy : y.lba = x.lba <;> simp [hx, hy] at h1 ⊢ <;> omega
    · by_cases hy : y.lba = x.lba <;> simp [hy] at h1 ⊢ <;> omega
theorem insTo_len (x : Put) (L : List Put) (k : Nat) (hk : k ≤ L.length) : (insTo x L k).1.length ≤ k + 1 := by
  have := insTo_len0 x L k hk
  omega

def RBufWriteSaid (F : Nat → Prop) (v : Value) (blocks most : Int) (L l : List Put) (w : World) (e : Ending) (w' : World) : Prop :=
  e = .returned (.int .i64 (rbCode blocks most L l)) ∧ Chg F w w' ∧ RBufP v blocks most (rbNext blocks most L l) (fun q => F q ∨ New w w' q) w'
theorem rbuf_fail {F : Nat → Prop} {v : Value} {blocks most c : Int} {L l : List Put} {w w' : World} (h : RBufP v blocks most L F w) (hd : Dom F w) (hb : Below w.heap.size w w') (hc : rbCode blocks most L l = c) (h0 : c ≠ 0) : RBufWriteSaid F v blocks most L l w (.returned (.int .i64 c)) w' := by
  refine ⟨by rw [hc], Chg.of_below hb (fun k h1 h2 => by omega), ?_⟩
  unfold rbNext
  rw [if_neg (by rw [hc]; exact h0)]
  obtain ⟨b, lv, h1, h2, h3, h4⟩ := h.same (Dom.same hd hb)
  exact ⟨b, lv, h1, .inl h2, h3, h4.mono fun q hq => ⟨.inl hq.1, hq.2⟩⟩
theorem any_take {f : Put → Bool} {l : List Put} {k : Nat} (h : k < l.length) (h0 : (l.take k).any f = false) (hk : f l[k] = false) : (l.take (k + 1)).any f = false := by
  rw [take_snoc l k h, List.any_append, h0]
  simp [hk]
theorem any_hit {f : Put → Bool} {l : List Put} {k : Nat} (h : k < l.length) (hk : f l[k] = true) : l.any f = true := List.any_eq_true.2 ⟨_, List.getElem_mem h, hk⟩

set_option maxRecDepth 100000 in
set_option maxHeartbeats 8000000 in
theorem refBufWrite_any (F G : Nat → Prop) (v lv : Value) (blocks most : Int) (L l : List Put) (w : World) (hp : RBufP v blocks most L F w) (hd : Dom F w) (hl : PutsAt G w lv l) (hG : Dom G w) (hFG : ∀ k, F k → ¬ G k) (n0 : L.length ≤ 500000) (n1 : l.length ≤ 500000) :
    Calls Try.prog 39 #[v, lv] w (RBufWriteSaid F v blocks most L l w) := by
  have HP := Lib.hid hp
  obtain ⟨b, bv, rfl, hFb, hh, h4⟩ := hp
  obtain ⟨lp, lc, rfl⟩ := putsAt_shape hl
  obtain ⟨bp, bc, rfl⟩ := putsAt_shape h4
  have hbl := hd b hFb
  have hc0 : w.cell? ⟨b, 0, none⟩ = some (.int .i64 blocks) := by rw [cell_row hh]; rfl
  have hc1 : w.cell? ⟨b, 1, none⟩ = some (.int .i64 most) := by rw [cell_row hh]; rfl
  have hc2 : w.cell? ⟨b, 2, none⟩ = some (.slice bp L.length bc) := by rw [cell_row hh]; rfl
  have H4 := Lib.hid h4
  have HH := Lib.hid hh
  have HL := Lib.hid hl
  clear h4 hh hl
  by_cases hnil : l = []
  case pos =>
    subst hnil
    have hcd : rbCode blocks most L [] = 1 := rfl
    have HCD := Lib.hid hcd
    clear hcd
    go_enter Try.func39, Try.ntmps39
    go_wp2
    go_ret
    exact rbuf_fail HP.out hd (Below.refl _ _) HCD.out (by decide)
  case neg =>
    have hpos := List.length_pos_iff.2 hnil
    have hl0 : ((l.length : Int) == 0) = false := by rw [beq_eq_false_iff_ne]; omega
    have hcd0 : rbCode blocks most L l = if l.any (outB blocks) then 2 else if l.any len40 then 3 else if twiceB l then 4 else if most < ((L.length + freshP L l : Nat) : Int) then 7 else 0 := by unfold rbCode; rw [if_neg hnil]
    have HCD0 := Lib.hid hcd0
    clear hcd0
    go_enter Try.func39, Try.ntmps39
    go_wp2_with fail
    go_loopw [5] (fun i wr => ∃ k : Nat, k ≤ l.length ∧ i = .int .i64 k ∧ Hid (Below w.heap.size w wr) ∧ Hid ((l.take k).any (outB blocks) = false)) (fun i _ => l.length - (intOf i).toNat)
    case atStart => exact ⟨0, by omega, rfl, Lib.hid (Below.refl _ _), Lib.hid (by rw [List.take_zero]; rfl)⟩
    case round =>
      obtain ⟨k, hk, rfl, HB, HA⟩ := hrel
      by_cases hlt : k < l.length
      case pos =>
        have hc0' := cell_up HB.out hc0
        obtain ⟨g, o, dp, dc, rfl, _, hk1, _, _, _⟩ := putsAt_get (PutsAt.up HL.out HB.out) k hlt
        have hkI : (k : Int) < (l.length : Int) := by omega
        have hstep := any_take (f := outB blocks) hlt HA.out
        have hhit := any_hit (f := outB blocks) hlt
        generalize l[k] = x at hk1 hstep hhit
        have hdef : outB blocks x = (decide (x.lba < 0) || decide (blocks ≤ x.lba)) := rfl
        rcases (show x.lba < 0 ∨ (¬ x.lba < 0 ∧ blocks ≤ x.lba) ∨ (¬ x.lba < 0 ∧ ¬ blocks ≤ x.lba) by omega) with e | ⟨e, e2⟩ | ⟨e, e2⟩
        case inl =>
          have hcd : rbCode blocks most L l = 2 := by rw [HCD0.out, if_pos (hhit (by rw [hdef]; simp [e]))]
          have HCD := Lib.hid hcd
          have HSTEP := Lib.hid hstep
          have HHIT := Lib.hid hhit
          have HDEF := Lib.hid hdef
          clear hcd hstep hhit hdef
          go_wp2_with fail
          go_quiet (fail)
          have HB2 := Lib.hid (HB.out.trans (below_drewN (Below.refl _ _) nq) : Below w.heap.size w (wr.drewN nq))
          go_wp2_with fail
          go_ret
          exact rbuf_fail HP.out hd HB2.out HCD.out (by decide)
        case inr.inl =>
          have hcd : rbCode blocks most L l = 2 := by rw [HCD0.out, if_pos (hhit (by rw [hdef]; simp [e2]))]
          have HCD := Lib.hid hcd
          have HSTEP := Lib.hid hstep
          have HHIT := Lib.hid hhit
          have HDEF := Lib.hid hdef
          clear hcd hstep hhit hdef
          go_wp2_with fail
          go_quiet (fail)
          have HB2 := Lib.hid (HB.out.trans (below_drewN (Below.refl _ _) nq) : Below w.heap.size w (wr.drewN nq))
          go_wp2_with fail
          go_ret
          exact rbuf_fail HP.out hd HB2.out HCD.out (by decide)
        case inr.inr =>
          have hst := hstep (by rw [hdef]; simp [e, e2])
          have HST := Lib.hid hst
          have HSTEP := Lib.hid hstep
          have HHIT := Lib.hid hhit
          have HDEF := Lib.hid hdef
          clear hst hstep hhit hdef
          go_wp2_with fail
          go_quiet (fail)
          have HB2 := Lib.hid (HB.out.trans (below_drewN (Below.refl _ _) nq) : Below w.heap.size w (wr.drewN nq))
          go_wp2_with fail
          go_roundw
          case rel => exact ⟨k + 1, by omega, by go_num, HB2, HST⟩
          case measure => simp [intOf]; omega
      case neg =>
        have hA : l.any (outB blocks) = false := by
          have := HA.out
          rwa [List.take_of_length_le (by omega)] at this
        have hcd1 := HCD0.out
        rw [hA, if_neg (by decide)] at hcd1
        obtain ⟨W1, rfl⟩ : ∃ W1 : World, W1 = wr := ⟨_, rfl⟩
        have HB1 := HB
        have HA := Lib.hid hA
        have HCD1 := Lib.hid hcd1
        clear hA hcd1
        clear HA HCD0
        go_wp2_with fail
        go_loopw [6] (fun i wr => ∃ k : Nat, k ≤ l.length ∧ i = .int .i64 k ∧ Hid (Below w.heap.size w wr) ∧ Hid ((l.take k).any len40 = false)) (fun i _ => l.length - (intOf i).toNat)
        case atStart => exact ⟨0, by omega, rfl, HB1, Lib.hid (by rw [List.take_zero]; rfl)⟩
        case round =>
          obtain ⟨k, hk, rfl, HB, HA⟩ := hrel
          by_cases hlt : k < l.length
          case pos =>
            obtain ⟨g, o, dp, dc, rfl, _, _, hk2, _, _⟩ := putsAt_get (PutsAt.up HL.out HB.out) k hlt
            have hkI : (k : Int) < (l.length : Int) := by omega
            have hstep := any_take (f := len40) hlt HA.out
            have hhit := any_hit (f := len40) hlt
            generalize l[k] = x at hk2 hstep hhit
            have hdef : len40 x = !decide (x.data.length = 40) := rfl
            generalize hxl : x.data.length = n at hk2 hdef
            by_cases e : n = 40
            case pos =>
              have hst := hstep (by rw [hdef]; simp [e])
              have hne : ((n : Int) != 40) = false := by subst e; rfl
              have HST := Lib.hid hst
              have HSTEP := Lib.hid hstep
              have HHIT := Lib.hid hhit
              have HDEF := Lib.hid hdef
              have HXL := Lib.hid hxl
              have HE := Lib.hid e
              clear hst hstep hhit hdef hxl e
              go_wp2_with fail
              go_roundw
              case rel => exact ⟨k + 1, by omega, by go_num, HB, HST⟩
              case measure => simp [intOf]; omega
            case neg =>
              have hcd : rbCode blocks most L l = 3 := by rw [HCD1.out, if_pos (hhit (by rw [hdef]; simp [e]))]
              have hne : ((n : Int) != 40) = true := by rw [bne_iff_ne]; omega
              have HCD := Lib.hid hcd
              have HSTEP := Lib.hid hstep
              have HHIT := Lib.hid hhit
              have HDEF := Lib.hid hdef
              have HXL := Lib.hid hxl
              have HE := Lib.hid e
              clear hcd hstep hhit hdef hxl e
              go_wp2_with fail
              go_ret
              exact rbuf_fail HP.out hd HB.out HCD.out (by decide)
          case neg =>
            have hA2 : l.any len40 = false := by
              have := HA.out
              rwa [List.take_of_length_le (by omega)] at this
            have hcd2 := HCD1.out
            rw [hA2, if_neg (by decide)] at hcd2
            obtain ⟨W2, rfl⟩ : ∃ W2 : World, W2 = wr := ⟨_, rfl⟩
            have HB2 := HB
            have HA2 := Lib.hid hA2
            have HCD2 := Lib.hid hcd2
            clear hA2 hcd2
            clear HA HCD1
            go_wp2_with fail
            go_loopw [7, 8] (fun n i wr => ∃ k : Nat, k ≤ l.length ∧ i = .int .i64 k ∧ n = .int .i64 (freshP L (l.take k) : Nat) ∧ Hid (Below w.heap.size w wr) ∧ Hid (∀ i j (hi : i < l.length) (hj : j < l.length), j < k → i < j → l[i].lba ≠ l[j].lba)) (fun _ i _ => l.length - (intOf i).toNat)
            case atStart => exact ⟨0, by omega, rfl, rfl, HB2, Lib.hid fun i j _ _ h => by omega⟩
            case round =>
              obtain ⟨k, hk, rfl, rfl, HB, HN⟩ := hrel
              have hfr : freshP L (l.take k) ≤ k := by have := freshP_le L (l.take k); rw [List.length_take] at this; omega
              obtain ⟨fr, hfe⟩ : ∃ fr, freshP L (l.take k) = fr := ⟨_, rfl⟩
              rw [hfe] at hfr ⊢
              by_cases hlt : k < l.length
              case pos =>
                obtain ⟨W3, rfl⟩ : ∃ W3 : World, W3 = wr := ⟨_, rfl⟩
                have HB3 := HB
                have hkI : (k : Int) < (l.length : Int) := by omega
                have HFE := Lib.hid hfe
                clear hfe
                clear HB
                go_wp2_with fail
                go_loopw [9] (fun j wr => ∃ m : Nat, m ≤ k ∧ j = .int .i64 m ∧ Hid (Below w.heap.size w wr) ∧ Hid (∀ i (hi : i < l.length), i < m → l[i].lba ≠ l[k].lba)) (fun j _ => k - (intOf j).toNat)
                case atStart => exact ⟨0, by omega, rfl, HB3, Lib.hid fun i _ h => by omega⟩
                case round =>
                  obtain ⟨m, hm, rfl, HB, HM⟩ := hrel
                  by_cases hlm : m < k
                  case pos =>
                    have hml : m < l.length := by omega
                    obtain ⟨g, o, dp, dc, rfl, _, hk1, _, _, _⟩ := putsAt_get (PutsAt.up HL.out HB.out) k hlt
                    obtain ⟨g', o', dp', dc', he, _, hm1, _, _, _⟩ := putsAt_get (PutsAt.up HL.out HB.out) m hml
                    cases he
                    have hmI : (m : Int) < (l.length : Int) := by omega
                    have hmk : (m : Int) < (k : Int) := by omega
                    by_cases e : l[m].lba = l[k].lba
                    case pos =>
                      have htw : twiceB l = true := by
                        rw [← Bool.not_eq_false]
                        intro h
                        have := twiceB_no.1 h
                        rw [List.Nodup, List.pairwise_iff_getElem] at this
                        have := this m k (by simpa using hml) (by simpa using hlt) hlm
                        simp only [List.getElem_map] at this
                        exact this e
                      have hcd : rbCode blocks most L l = 4 := by rw [HCD2.out, if_pos htw]
                      generalize l[m].lba = xm at *
                      generalize l[k].lba = xk at *
                      have heq : (xm == xk) = true := by rw [beq_iff_eq]; exact e
                      have HCD := Lib.hid hcd
                      have HTW := Lib.hid htw
                      have HE := Lib.hid e
                      clear hcd htw e
                      go_wp2_with fail
                      go_quiet (fail)
                      have HBq := Lib.hid (HB.out.trans (below_drewN (Below.refl _ _) nq) : Below w.heap.size w (wr.drewN nq))
                      go_wp2_with fail
                      go_ret
                      exact rbuf_fail HP.out hd HBq.out HCD.out (by decide)
                    case neg =>
                      have hnx : ∀ i (hi : i < l.length), i < m + 1 → l[i].lba ≠ l[k].lba := fun i hi h => by
                        by_cases him : i = m
                        · subst him; exact e
                        · exact HM.out i hi (by omega)
                      have HNX := Lib.hid hnx
                      clear hnx
                      obtain ⟨xm, hxm⟩ : ∃ xm, l[m].lba = xm := ⟨_, rfl⟩
                      obtain ⟨xk, hxk⟩ : ∃ xk, l[k].lba = xk := ⟨_, rfl⟩
                      rw [hxm] at hm1 e
                      rw [hxk] at hk1 e
                      have heq : (xm == xk) = false := by rw [beq_eq_false_iff_ne]; exact e
                      have HE := Lib.hid e
                      have HXM := Lib.hid hxm
                      have HXK := Lib.hid hxk
                      clear e hxm hxk
                      go_wp2_with fail
                      go_quiet (fail)
                      have HBq := Lib.hid (HB.out.trans (below_drewN (Below.refl _ _) nq) : Below w.heap.size w (wr.drewN nq))
                      go_wp2_with fail
                      go_roundw
                      case rel => exact ⟨m + 1, by omega, by go_num, HBq, HNX⟩
                      case measure => simp [intOf]; omega
                  case neg =>
                    obtain rfl : m = k := by omega
                    obtain ⟨g, o, dp, dc, rfl, _, hk1, _, _, _⟩ := putsAt_get (PutsAt.up HL.out HB.out) m hlt
                    have hnx : ∀ i j (hi : i < l.length) (hj : j < l.length), j < m + 1 → i < j → l[i].lba ≠ l[j].lba := fun i j hi hj h1 h2 => by
                      by_cases hjm : j = m
                      · subst hjm; exact HM.out i hi h2
                      · exact HN.out i j hi hj (by omega) h2
                    have hfx := freshP_take L l m hlt
                    rw [HFE.out] at hfx
                    have hget := refBufGet_any F (.pointer (some ⟨b, 0, none⟩)) blocks most L l[m].lba wr (HP.out.same (Dom.same hd HB.out)) (by omega)
                    have HNX := Lib.hid hnx
                    clear hnx
                    generalize l[m].lba = xk at *
                    obtain ⟨ok, hok⟩ : ∃ ok, (lookP L xk).isSome = ok := ⟨_, rfl⟩
                    rw [hok] at hget
                    have HGET := Lib.hid hget
                    have HFX := Lib.hid hfx
                    clear hget hfx
                    go_wp2_with fail
                    refine (HGET.out).mono ?_
                    rintro e w5 ⟨dv, rfl, _, HB5⟩
                    have HB6 := Lib.hid (Below.up HB.out HB5.out)
                    clear hk1
                    cases ok with
                    | true =>
                      have hf2 : freshP L (l.take (m + 1)) = fr := by rw [HFX.out]; rw [show (lookP L xk).isNone = false by cases h : lookP L xk <;> simp_all]; rfl
                      have HF2 := Lib.hid hf2
                      have HOK := Lib.hid hok
                      clear hf2 hok
                      go_wp2_with fail
                      go_roundw
                      case rel => exact ⟨m + 1, by omega, by go_num, by rw [HF2.out], HB6, HNX⟩
                      case measure => simp [intOf]; omega
                    | false =>
                      have hf2 : freshP L (l.take (m + 1)) = fr + 1 := by rw [HFX.out]; rw [show (lookP L xk).isNone = true by cases h : lookP L xk <;> simp_all]; rfl
                      have HF2 := Lib.hid hf2
                      have HOK := Lib.hid hok
                      clear hf2 hok
                      go_wp2_with fail
                      go_roundw
                      case rel => exact ⟨m + 1, by omega, by go_num, by rw [HF2.out]; go_num, HB6, HNX⟩
                      case measure => simp [intOf]; omega
              case neg =>
                have hfl : freshP L l = fr := by rw [← hfe, List.take_of_length_le (by omega)]
                have htw : twiceB l = false := by
                  rw [twiceB_no, List.Nodup, List.pairwise_iff_getElem]
                  intro i j hi hj hij
                  simp only [List.length_map] at hi hj
                  simp only [List.getElem_map]
                  exact HN.out i j hi hj (by omega) hij
                have hcd3 := HCD2.out
                rw [htw, if_neg (by decide), hfl] at hcd3
                have hc1' := cell_up HB.out hc1
                have hc2' := cell_up HB.out hc2
                have hfx2 : ((L.length + fr : Nat) : Int) = (L.length : Int) + (fr : Int) := by omega
                rw [hfx2] at hcd3
                by_cases hbig : most < (L.length : Int) + (fr : Int)
                case pos =>
                  rw [if_pos hbig] at hcd3
                  have HCD3 := Lib.hid hcd3
                  have HFL := Lib.hid hfl
                  have HTW := Lib.hid htw
                  have HFE := Lib.hid hfe
                  have HFX2 := Lib.hid hfx2
                  clear hcd3 hfl htw hfe hfx2
                  go_wp2_with fail
                  go_quiet (fail)
                  have HBq := Lib.hid (HB.out.trans (below_drewN (Below.refl _ _) nq) : Below w.heap.size w (wr.drewN nq))
                  go_wp2_with fail
                  go_ret
                  exact rbuf_fail HP.out hd HBq.out HCD3.out (by decide)
                case neg =>
                  rw [if_neg hbig] at hcd3
                  have HCD3 := Lib.hid hcd3
                  have HFL := Lib.hid hfl
                  have HTW := Lib.hid htw
                  have HFE := Lib.hid hfe
                  have HFX2 := Lib.hid hfx2
                  clear hcd3 hfl htw hfe hfx2
                  go_wp2_with fail
                  go_quiet (fail)
                  have HB4 := Lib.hid (HB.out.trans (below_drewN (Below.refl _ _) nq) : Below w.heap.size w (wr.drewN nq))
                  generalize wr.drewN nq = W4 at *
                  clear hc1' hc2' hc0 hc1 hc2
                  have hA40 : ∀ x ∈ l, x.data.length = 40 := fun x hx => by
                    have := HA2.out
                    rw [List.any_eq_false] at this
                    have := this x hx
                    unfold len40 at this
                    simpa using this
                  have hst0 : RBufP (.pointer (some ⟨b, 0, none⟩)) blocks most L (fun q => F q ∨ New w W4 q) W4 := by
                    obtain ⟨b', lv, h1, h2, h3, h4⟩ := HP.out.same (Dom.same hd HB4.out)
                    exact ⟨b', lv, h1, .inl h2, h3, h4.mono fun q hq => ⟨.inl hq.1, hq.2⟩⟩
                  have hch0 : Chg F w W4 := Chg.of_below HB4.out fun k h1 h2 => by omega
                  have HA40 := Lib.hid hA40
                  have HST0 := Lib.hid hst0
                  have HCH0 := Lib.hid hch0
                  clear hA40 hst0 hch0
                  clear HCD2 HN
                  go_wp2_with fail
                  go_loopw [12] (fun i wr => ∃ k : Nat, k ≤ l.length ∧ i = .int .i64 k ∧ Hid (Chg F w wr) ∧ Hid (RBufP (.pointer (some ⟨b, 0, none⟩)) blocks most ((l.take k).foldl rIns L) (fun q => F q ∨ New w wr q) wr)) (fun i _ => l.length - (intOf i).toNat)
                  case atStart => exact ⟨0, by omega, rfl, HCH0, HST0⟩
                  case round =>
                    obtain ⟨k, hk, rfl, HC, HR⟩ := hrel
                    by_cases hlt : k < l.length
                    case neg =>
                      have hnx : rbNext blocks most L l = (l.take k).foldl rIns L := by unfold rbNext; rw [if_pos HCD3.out, List.take_of_length_le (by omega)]
                      have HNX := Lib.hid hnx
                      clear hnx
                      go_wp2_with fail
                      go_ret
                      exact ⟨by rw [HCD3.out]; rfl, HC.out, by rw [HNX.out]; exact HR.out⟩
                    case pos =>
                      have hlr : PutsAt G wr (.slice lp l.length lc) l := PutsAt.same HL.out (HC.out.same fun k hk => ⟨hG k hk, fun h => hFG k h hk⟩)
                      obtain ⟨g, o, dp, dc, rfl, hgg, hk1, hk2, hki, hkd⟩ := putsAt_get hlr k hlt
                      have hkI : (k : Int) < (l.length : Int) := by omega
                      have hnext : (l.take (k + 1)).foldl rIns L = rIns ((l.take k).foldl rIns L) l[k] := by rw [take_snoc _ _ hlt, List.foldl_append]; rfl
                      have hdl := HA40.out _ (List.getElem_mem hlt)
                      have hLl : ((l.take k).foldl rIns L).length ≤ 1000000 := by have := rIns_foldl_len (l.take k) L; rw [List.length_take] at this; omega
                      generalize (l.take k).foldl rIns L = Lk at *
                      generalize l[k] = x at *
                      have hgw : g < wr.heap.size := World.block_lt_of_cell? _ _ hk1
                      have hsz : wr.drew.heap.size = wr.heap.size := rfl
                      have hzE : (wr.drew.alloc (.cells #[] 5 (0, 0))).heap.size = wr.heap.size + 1 := by simp
                      have hzX : (wr.drew.alloc (.cells #[.int .i64 0, .slice none 0 0] 54)).heap.size = wr.heap.size + 1 := by simp
                      have hdd : BytesAt G wr.drew (.slice dp x.data.length dc) x.data := BytesAt.up hkd (below_drewN (Below.refl wr.heap.size wr) 1)
                      have hoE := owns_empty wr.drew 5 1
                      obtain ⟨dpA, dcA, wA, hA1, HA2, HA3, HA4⟩ := bytes_push (BytesAt.up hdd (below_alloc _ (.cells #[] 5 (0, 0)))) (by omega) hoE (by simp)
                      obtain ⟨dpB, dcB, wB, hB1, HB2, HB3', HB4'⟩ := bytes_push (BytesAt.up (BytesAt.up hdd (below_alloc _ (.cells #[] 5 (0, 0)))) (below_alloc _ (.cells #[.int .i64 0, .slice none 0 0] 54))) (by omega) (ownsRow_upP hoE (below_alloc _ (.cells #[.int .i64 0, .slice none 0 0] 54))) (by simp; omega)
                      have hoC := owns_empty (wr.drew.alloc (.cells #[.int .i64 0, .slice none 0 0] 54)) 5 1
                      rw [hzX] at hoC
                      obtain ⟨dpC, dcC, wC, hC1, HC2, HC3, HC4⟩ := bytes_push (BytesAt.up (BytesAt.up hdd (below_alloc _ (.cells #[.int .i64 0, .slice none 0 0] 54))) (below_alloc _ (.cells #[] 5 (0, 0)))) (by omega) hoC (by simp)
                      have zA : (Builtin.append_ #[51, 51] 51 #[.slice (some ⟨wr.heap.size, 0, none⟩) 0 0, .slice dp x.data.length dc]).run Try.prog ((wr.alloc (.cells #[] 5 (0, 0))).drew) = .ok (.slice dpA x.data.length dcA) wA := hA1
                      have zB : (Builtin.append_ #[51, 51] 51 #[.slice (some ⟨wr.heap.size, 0, none⟩) 0 0, .slice dp x.data.length dc]).run Try.prog (((wr.alloc (.cells #[] 5 (0, 0))).alloc (.cells #[.int .i64 0, .slice none 0 0] 54)).drew) = .ok (.slice dpB x.data.length dcB) wB := hB1
                      have zC : (Builtin.append_ #[51, 51] 51 #[.slice (some ⟨wr.heap.size + 1, 0, none⟩) 0 0, .slice dp x.data.length dc]).run Try.prog (((wr.alloc (.cells #[.int .i64 0, .slice none 0 0] 54)).alloc (.cells #[] 5 (0, 0))).drew) = .ok (.slice dpC x.data.length dcC) wC := hC1
                      have qk : ∀ W, Below wr.heap.size wr W → W.cell? ⟨g, o + k * 2, none⟩ = some (.int .i64 x.lba) ∧ W.cell? ⟨g, o + k * 2 + 1, none⟩ = some (.slice dp x.data.length dc) := fun W hW => ⟨cell_up hW hk1, cell_up hW hk2⟩
                      have hdr0 : Below wr.heap.size wr wr.drew := below_drewN (Below.refl wr.heap.size wr) 1
                      have bE : Below wr.heap.size wr (wr.drew.alloc (.cells #[] 5 (0, 0))) := Below.up hdr0 (below_alloc _ _)
                      have bX : Below wr.heap.size wr (wr.drew.alloc (.cells #[.int .i64 0, .slice none 0 0] 54)) := Below.up hdr0 (below_alloc _ _)
                      have hbA : Below wr.heap.size wr wA := bE.grown HA3.out (by simp) (fun q hq => by cases hq; exact Nat.le_refl _)
                      have hbB : Below wr.heap.size wr wB := (Below.up bE (below_alloc _ _)).grown HB3'.out (by simp; omega) (fun q hq => by cases hq; exact Nat.le_refl _)
                      have hbC : Below wr.heap.size wr wC := (Below.up bX (below_alloc _ _)).grown HC3.out (by simp; omega) (fun q hq => by cases hq; omega)
                      have HXB : wB.heap[wr.heap.size + 1]? = some (.cells #[.int .i64 0, .slice none 0 0] 54 (0, 0)) := by
                        rw [HB3'.out.block (wr.heap.size + 1) (by simp) (by simp)]
                        have := heap_alloc_new (wr.drew.alloc (.cells #[] 5 (0, 0))) (.cells #[.int .i64 0, .slice none 0 0] 54)
                        rw [hzE] at this
                        exact this
                      have HXC : wC.heap[wr.heap.size]? = some (.cells #[.int .i64 0, .slice none 0 0] 54 (0, 0)) := by
                        rw [HC3.out.block wr.heap.size (by simp; omega) (by simp), (below_alloc (wr.drew.alloc (.cells #[.int .i64 0, .slice none 0 0] 54)) _).block wr.heap.size (by simp)]
                        exact heap_alloc_new wr.drew _
                      have xB0 : wB.cell? ⟨wr.heap.size + 1, 0, none⟩ = some (.int .i64 0) := by rw [cell_row HXB]; rfl
                      have xB1 : wB.cell? ⟨wr.heap.size + 1, 1, none⟩ = some (.slice none 0 0) := by rw [cell_row HXB]; rfl
                      have xBz : wB.frozen? ⟨wr.heap.size + 1, 0, none⟩ = false := fz_row HXB 0
                      have xBy : wB.frozen? ⟨wr.heap.size + 1, 1, none⟩ = false := fz_row HXB 1
                      have xC0 : wC.cell? ⟨wr.heap.size, 0, none⟩ = some (.int .i64 0) := by rw [cell_row HXC]; rfl
                      have xC1 : wC.cell? ⟨wr.heap.size, 1, none⟩ = some (.slice none 0 0) := by rw [cell_row HXC]; rfl
                      have xCz : wC.frozen? ⟨wr.heap.size, 0, none⟩ = false := fz_row HXC 0
                      have xCy : wC.frozen? ⟨wr.heap.size, 1, none⟩ = false := fz_row HXC 1
                      clear hA1 hB1 hC1 hoE hoC hzE hzX
                      have HLR := Lib.hid hlr
                      have HNEXT := Lib.hid hnext
                      have HDL := Lib.hid hdl
                      have HKI := Lib.hid hki
                      have HKD := Lib.hid hkd
                      have HDD := Lib.hid hdd
                      have HQK := Lib.hid qk
                      have HBE := Lib.hid bE
                      have HBX := Lib.hid bX
                      have HBA := Lib.hid hbA
                      have HBB := Lib.hid hbB
                      have HBC := Lib.hid hbC
                      clear hlr hnext hdl hki hkd hdd qk bE bX hbA hbB hbC
                      have QK := HQK
                      go_upto_region 30 with fail
                      go_cut [13] from 105 to 182 (fun s wx => ∃ xb, s = .pointer (some ⟨xb, 0, none⟩) ∧ Hid (XAt wr x xb wx))
                      case first =>
                        go_region_held3 (fun W => W.cell? ⟨g, o + k * 2, none⟩ = some (.int .i64 x.lba) ∧ W.cell? ⟨g, o + k * 2 + 1, none⟩ = some (.slice dp x.data.length dc))
                          (first | exact HQK.out _ ((HBB.out.trans (below_setP _ _ (by omega))).trans (below_setP _ _ (by omega))) | exact HQK.out _ ((HBC.out.trans (below_setP _ _ (by omega))).trans (below_setP _ _ (by omega))) | exact ⟨hk1, hk2⟩ | exact ⟨cell_up (below_alloc _ _) hk1, cell_up (below_alloc _ _) hk2⟩ | exact HQK.out _ HBA.out | exact HQK.out _ HBB.out | exact HQK.out _ HBC.out | exact HQK.out _ (Below.up HBA.out (below_alloc _ _)) | exact HQK.out _ (Below.up HBE.out (below_alloc _ _)) | exact HQK.out _ (Below.up HBX.out (below_alloc _ _)) | go_keep)
                          ((first
                            | ((with_reducible refine step_append_run ((wr.alloc (.cells #[] 5 (0, 0))).drew) ?_ (.tmp 116) (.tmp 121) 51 ?_ _ _ ?_ ?_ zA ?_); (· rfl); (· rfl); (· rfl); (· rfl))
                            | ((with_reducible refine step_append_run (((wr.alloc (.cells #[] 5 (0, 0))).alloc (.cells #[.int .i64 0, .slice none 0 0] 54)).drew) ?_ (.tmp 116) (.tmp 121) 51 ?_ _ _ ?_ ?_ zB ?_); (· rfl); (· rfl); (· rfl); (· rfl))
                            | ((with_reducible refine step_append_run (((wr.alloc (.cells #[.int .i64 0, .slice none 0 0] 54)).alloc (.cells #[] 5 (0, 0))).drew) ?_ (.tmp 116) (.tmp 121) 51 ?_ _ _ ?_ ?_ zC ?_); (· rfl); (· rfl); (· rfl); (· rfl))))
                        all_goals
                          go_wp2_with fail
                          go_meet
                          case rel =>
                            first
                              | exact ⟨_, rfl, Lib.hid (xat_new HBA.out (ownsRow_lower' HA2.out (Nat.le_refl _)))⟩
                              | exact ⟨_, rfl, Lib.hid (xat_set HBB.out (ownsRow_lower' HB2.out (Nat.le_refl _)) (by omega) HXB (fun e => by
                                  rcases HB4'.out with h | h
                                  · rw [h] at e; simp at e
                                  · rw [h] at e; simp at e))⟩
                              | exact ⟨_, rfl, Lib.hid (xat_set HBC.out (ownsRow_lower' HC2.out (by omega)) (Nat.le_refl _) HXC (fun e => by
                                  rcases HC4.out with h | h
                                  · rw [h] at e; simp at e
                                  · rw [h] at e; simp at e; omega))⟩
                      case rest =>
                        obtain ⟨xb, rfl, HX⟩ := hcut
                        obtain ⟨W6, rfl⟩ : ∃ W6 : World, W6 = wc := ⟨_, rfl⟩
                        obtain ⟨hxb, hb6, dpx, dcx, hxh, hxd⟩ := HX.out
                        obtain ⟨b', lvk, hbv, _, hbh, hbp⟩ := HR.out
                        cases hbv
                        obtain ⟨qp, qc, rfl⟩ := putsAt_shape hbp
                        have hzw := HC.out.size
                        have hch6 : Chg F w W6 := HC.out.then_up hb6
                        have hbh6 := (hb6.block b (by omega)).trans hbh
                        have hz6 := hb6.size
                        have hbp6 : PutsAt (fun q => (F q ∨ New w W6 q) ∧ q ≠ b) W6 (.slice qp Lk.length qc) Lk := (PutsAt.up hbp hb6).mono fun q hq => ⟨hq.1.imp id fun h => ⟨h.1, by have := h.2; omega⟩, hq.2⟩
                        have hxd6 : BytesAt (fun q => (F q ∨ New w W6 q) ∧ q ≠ b) W6 (.slice dpx x.data.length dcx) x.data := hxd.mono fun q hq => ⟨.inr ⟨by have := hq.1; omega, hq.2⟩, by have := hq.1; omega⟩
                        have hx0 : W6.cell? ⟨xb, 0, none⟩ = some (.int .i64 x.lba) := by rw [cell_row hxh]; rfl
                        have hx1 : W6.cell? ⟨xb, 1, none⟩ = some (.slice dpx x.data.length dcx) := by rw [cell_row hxh]; rfl
                        have hb2 : W6.cell? ⟨b, 2, none⟩ = some (.slice qp Lk.length qc) := by rw [cell_row hbh6]; rfl
                        have hbf : W6.frozen? ⟨b, 2, none⟩ = false := fz_row hbh6 2
                        have hS0 := (Sep.start W6).row_new (Below.refl _ _) (World.ownsRow_nil W6 W6.heap.size 54 2)
                        have hcel : ∀ V, Below W6.heap.size W6 V → V.cell? ⟨xb, 0, none⟩ = some (.int .i64 x.lba) ∧ V.cell? ⟨xb, 1, none⟩ = some (.slice dpx x.data.length dcx) ∧ V.cell? ⟨b, 2, none⟩ = some (.slice qp Lk.length qc) ∧ V.frozen? ⟨b, 2, none⟩ = false ∧ V.heap[b]? = some (.cells #[.int .i64 blocks, .int .i64 most, .slice qp Lk.length qc] 73 (0, 0)) :=
                          fun V hV => ⟨cell_up hV hx0, cell_up hV hx1, cell_up hV hb2, (hV.frozen (p := ⟨b, 2, none⟩) (show b < W6.heap.size by omega)).trans hbf, (hV.block b (by omega)).trans hbh6⟩
                        have hstore : ∀ V p c n O xs, Below W6.heap.size W6 V → RowP (fun q => (F q ∨ New w W6 q) ∧ q ≠ b) W6 O xs → O.length = n → rIns Lk x = O → V.ownsRow W6.heap.size 54 2 (.slice p n c) n xs → Chg F w (V.setCell ⟨b, 2, none⟩ (.slice p n c)) ∧ RBufP (.pointer (some ⟨b, 0, none⟩)) blocks most (rIns Lk x) (fun q => F q ∨ New w (V.setCell ⟨b, 2, none⟩ (.slice p n c)) q) (V.setCell ⟨b, 2, none⟩ (.slice p n c)) := by
                          intro V p c n O xs hV hrp hn hO hown
                          subst hn
                          rw [hO]
                          exact ref_store hFb hd hch6 hbh6 hV hrp hown
                        have HS0 := Lib.hid hS0
                        have HCEL := Lib.hid hcel
                        have HSTORE := Lib.hid hstore
                        have HBP6 := Lib.hid hbp6
                        have HXD6 := Lib.hid hxd6
                        have HCH6 := Lib.hid hch6
                        have HBH6 := Lib.hid hbh6
                        have HBH := Lib.hid hbh
                        have HBP := Lib.hid hbp
                        have HXD := Lib.hid hxd
                        have HXH := Lib.hid hxh
                        clear hS0 hcel hstore hbp6 hxd6 hch6 hbh6 hbh hbp hxd hxh
                        clear hx0 hx1 hb2 hbf HX
                        go_wp2_with fail
                        go_loopw [14, 15, 16] (fun ov dv iv wr2 => ∃ m : Nat, ∃ O d o c n xs, m ≤ Lk.length ∧ iv = .int .i64 m ∧ dv = .bool d ∧ ov = .slice o n c ∧ Hid (O.length = n) ∧ Hid (insTo x Lk m = (O, d)) ∧ Hid (Sep W6 [OldA W6, RowA 54 2 (.slice o n c) n xs] wr2) ∧ Hid (RowP (fun q => (F q ∨ New w W6 q) ∧ q ≠ b) W6 O xs)) (fun _ _ iv _ => Lk.length - (intOf iv).toNat)
                        case atStart => exact ⟨0, [], false, none, 0, 0, [], by omega, rfl, rfl, rfl, Lib.hid rfl, Lib.hid rfl, HS0, Lib.hid (RowP.nil _ _)⟩
                        case round =>
                          obtain ⟨m, O, d, oo, oc, n, xs, hm, rfl, rfl, rfl, HN, HI, HS, HRP⟩ := hrel
                          have hn : n ≤ 1000001 := by have := insTo_len x Lk m hm; rw [HI.out] at this; have := HN.out; simp only at *; omega
                          obtain ⟨d1, d2, d3, d4, d5⟩ := HCEL.out _ HS.out.old
                          by_cases hlm : m < Lk.length
                          case pos =>
                            obtain ⟨qg, qo, dpy, dcy, rfl, _, hy1, hy2, hyi, hyd⟩ := putsAt_get HBP6.out m hlm
                            have hmI : (m : Int) < (Lk.length : Int) := by omega
                            have hnx := insTo_succ x Lk m hlm
                            rw [HI.out] at hnx
                            generalize Lk[m] = y at *
                            have hyc : ∀ V, Below W6.heap.size W6 V → V.cell? ⟨qg, qo + m * 2, none⟩ = some (.int .i64 y.lba) ∧ V.cell? ⟨qg, qo + m * 2 + 1, none⟩ = some (.slice dpy y.data.length dcy) := fun V hV => ⟨cell_up hV hy1, cell_up hV hy2⟩
                            obtain ⟨e1, e2⟩ := hyc _ HS.out.old
                            have HNX := Lib.hid hnx
                            have HYI := Lib.hid hyi
                            have HYD := Lib.hid hyd
                            have HYC := Lib.hid hyc
                            clear hnx hyi hyd hyc
                            clear hy1 hy2
                            cases d with
                            | true =>
                              by_cases e : y.lba = x.lba
                              case pos =>
                                have hnx2 : insTo x Lk (m + 1) = (O, true) := by rw [HNX.out]; simp [insStep, e]
                                have hne : (y.lba != x.lba) = false := by rw [bne_eq_false_iff_eq]; exact e
                                have HNX2 := Lib.hid hnx2
                                have HE := Lib.hid e
                                clear hnx2 e
                                go_wp2_with fail
                                go_quiet (fail)
                                have HS7 := Lib.hid (HS.out.up (below_drewN (Below.refl wr.heap.size wr) nq))
                                clear d1 d2 d3 d4 d5 e1 e2
                                obtain ⟨d1, d2, d3, d4, d5⟩ := HCEL.out _ HS7.out.old
                                obtain ⟨e1, e2⟩ := HYC.out _ HS7.out.old
                                generalize wr.drewN nq = w7 at *
                                go_wp2_with fail
                                go_quiet (fail)
                                have HS8 := Lib.hid (HS7.out.up (below_drewN (Below.refl w7.heap.size w7) nq))
                                clear d1 d2 d3 d4 d5 e1 e2
                                obtain ⟨d1, d2, d3, d4, d5⟩ := HCEL.out _ HS8.out.old
                                obtain ⟨e1, e2⟩ := HYC.out _ HS8.out.old
                                generalize w7.drewN nq = w8 at *
                                go_wp2_with fail
                                go_roundw
                                case rel => exact ⟨m + 1, (O), true, _, _, n, _, by omega, by go_num, rfl, rfl, Lib.hid (HN.out), Lib.hid (HNX2.out), HS8, Lib.hid (HRP.out)⟩
                                case measure => simp [intOf]; omega
                              case neg =>
                                have hnx2 : insTo x Lk (m + 1) = (O ++ [y], true) := by rw [HNX.out]; simp [insStep, e]
                                have hne : (y.lba != x.lba) = true := by rw [bne_iff_ne]; exact e
                                have HNX2 := Lib.hid hnx2
                                have HE := Lib.hid e
                                clear hnx2 e
                                go_wp2_with fail
                                go_quiet (fail)
                                have HS7 := Lib.hid (HS.out.up (below_drewN (Below.refl wr.heap.size wr) nq))
                                clear d1 d2 d3 d4 d5 e1 e2
                                obtain ⟨d1, d2, d3, d4, d5⟩ := HCEL.out _ HS7.out.old
                                obtain ⟨e1, e2⟩ := HYC.out _ HS7.out.old
                                generalize wr.drewN nq = w7 at *
                                go_wp2_with fail
                                go_quiet (fail)
                                have HS8 := Lib.hid (HS7.out.up (below_drewN (Below.refl w7.heap.size w7) nq))
                                clear d1 d2 d3 d4 d5 e1 e2
                                obtain ⟨d1, d2, d3, d4, d5⟩ := HCEL.out _ HS8.out.old
                                obtain ⟨e1, e2⟩ := HYC.out _ HS8.out.old
                                generalize w7.drewN nq = w8 at *
                                obtain ⟨FB, hFB, _⟩ := HS8.out.get 1 rfl
                                have hrowB := hFB.1
                                obtain ⟨iiB, hiiB, hizB, hiyB, hixB⟩ := info_parts infoPut
                                have HROWB := Lib.hid hrowB
                                clear hFB hrowB
                                go_wp2_with (at_builtin; refine wpList_append_lies _ rfl _ _ 50 rfl 0 54 iiB (.agg #[.int .i64 0, .slice none 0 0]) 2 32 Try.underlying50 hiiB hizB hiyB hixB rfl (by decide) _ (n) (xs) rfl (HROWB.out.alloc _) ⟨w8.heap.size, 0, none⟩ 1 1 [.int .i64 y.lba, .slice dpy y.data.length dcy] rfl rfl (World.news_of_block (cs := #[.int .i64 y.lba, .slice dpy y.data.length dcy]) (heap_alloc_new w8 _)) (by simp [Value.oneCell']) (by decide) (by unfold maxLen; omega) (by omega) (Nat.zero_le _) (w8.heap.size + 1) (by simp) ?_; intro gB cB wB hownB hgrowB hatB hltB)
                                have hSB := HS8.out.row_app 1 rfl (below_alloc _ _) hownB hgrowB hatB (by simp) hltB
                                clear hownB hgrowB hatB hltB hiiB hizB hiyB hixB
                                have HSB := Lib.hid hSB
                                clear hSB
                                go_wp2_with fail
                                go_roundw
                                case rel => exact ⟨m + 1, (O ++ [y]), true, _, _, n + 1, _, by omega, by go_num, rfl, rfl, Lib.hid (by rw [List.length_append, HN.out]; rfl), Lib.hid (HNX2.out), HSB, Lib.hid ((HRP.out).snoc HYI.out HYD.out)⟩
                                case measure => simp [intOf]; omega
                            | false =>
                              rcases (show (x.lba ≤ y.lba ∧ y.lba = x.lba) ∨ (x.lba ≤ y.lba ∧ y.lba ≠ x.lba) ∨ (¬ x.lba ≤ y.lba ∧ y.lba ≠ x.lba) by omega) with ⟨f, e⟩ | ⟨f, e⟩ | ⟨f, e⟩
                              case inl =>
                                have hnx2 : insTo x Lk (m + 1) = (O ++ [x], true) := by rw [HNX.out]; simp [insStep, f, e]
                                have hne : (y.lba != x.lba) = false := by rw [bne_eq_false_iff_eq]; exact e
                                have HNX2 := Lib.hid hnx2
                                have HE := Lib.hid e
                                clear hnx2 e
                                go_wp2_with fail
                                go_quiet (fail)
                                have HS7 := Lib.hid (HS.out.up (below_drewN (Below.refl wr.heap.size wr) nq))
                                clear d1 d2 d3 d4 d5 e1 e2
                                obtain ⟨d1, d2, d3, d4, d5⟩ := HCEL.out _ HS7.out.old
                                obtain ⟨e1, e2⟩ := HYC.out _ HS7.out.old
                                generalize wr.drewN nq = w7 at *
                                obtain ⟨FA, hFA, _⟩ := HS7.out.get 1 rfl
                                have hrowA := hFA.1
                                obtain ⟨iiA, hiiA, hizA, hiyA, hixA⟩ := info_parts infoPut
                                have HROWA := Lib.hid hrowA
                                clear hFA hrowA
                                go_upto_region 39 with (at_builtin; refine wpList_append_lies _ rfl _ _ 50 rfl 0 54 iiA (.agg #[.int .i64 0, .slice none 0 0]) 2 32 Try.underlying50 hiiA hizA hiyA hixA rfl (by decide) _ (n) (xs) rfl (HROWA.out.alloc _) ⟨w7.heap.size, 0, none⟩ 1 1 [.int .i64 x.lba, .slice dpx x.data.length dcx] rfl rfl (World.news_of_block (cs := #[.int .i64 x.lba, .slice dpx x.data.length dcx]) (heap_alloc_new w7 _)) (by simp [Value.oneCell']) (by decide) (by unfold maxLen; omega) (by omega) (Nat.zero_le _) (w7.heap.size + 1) (by simp) ?_; intro gA cA wA hownA hgrowA hatA hltA)
                                have hSA := HS7.out.row_app 1 rfl (below_alloc _ _) hownA hgrowA hatA (by simp) hltA
                                clear hownA hgrowA hatA hltA hiiA hizA hiyA hixA
                                have HSA := Lib.hid hSA
                                clear hSA
                                have HRA := Lib.hid (HRP.out.snoc HKI.out HXD6.out)
                                clear d1 d2 d3 d4 d5 e1 e2
                                obtain ⟨d1, d2, d3, d4, d5⟩ := HCEL.out _ HSA.out.old
                                obtain ⟨e1, e2⟩ := HYC.out _ HSA.out.old
                                go_wp2_with fail
                                go_quiet (fail)
                                have HS8 := Lib.hid (HSA.out.up (below_drewN (Below.refl wA.heap.size wA) nq))
                                clear d1 d2 d3 d4 d5 e1 e2
                                obtain ⟨d1, d2, d3, d4, d5⟩ := HCEL.out _ HS8.out.old
                                obtain ⟨e1, e2⟩ := HYC.out _ HS8.out.old
                                generalize wA.drewN nq = w8 at *
                                go_wp2_with fail
                                go_roundw
                                case rel => exact ⟨m + 1, (O ++ [x]), true, _, _, n + 1, _, by omega, by go_num, rfl, rfl, Lib.hid (by rw [List.length_append, HN.out]; rfl), Lib.hid (HNX2.out), HS8, Lib.hid (HRA.out)⟩
                                case measure => simp [intOf]; omega
                              case inr.inl =>
                                have hnx2 : insTo x Lk (m + 1) = (O ++ [x] ++ [y], true) := by rw [HNX.out]; simp [insStep, f, e]
                                have hne : (y.lba != x.lba) = true := by rw [bne_iff_ne]; exact e
                                have HNX2 := Lib.hid hnx2
                                have HE := Lib.hid e
                                clear hnx2 e
                                go_wp2_with fail
                                go_quiet (fail)
                                have HS7 := Lib.hid (HS.out.up (below_drewN (Below.refl wr.heap.size wr) nq))
                                clear d1 d2 d3 d4 d5 e1 e2
                                obtain ⟨d1, d2, d3, d4, d5⟩ := HCEL.out _ HS7.out.old
                                obtain ⟨e1, e2⟩ := HYC.out _ HS7.out.old
                                generalize wr.drewN nq = w7 at *
                                obtain ⟨FA, hFA, _⟩ := HS7.out.get 1 rfl
                                have hrowA := hFA.1
                                obtain ⟨iiA, hiiA, hizA, hiyA, hixA⟩ := info_parts infoPut
                                have HROWA := Lib.hid hrowA
                                clear hFA hrowA
                                go_upto_region 39 with (at_builtin; refine wpList_append_lies _ rfl _ _ 50 rfl 0 54 iiA (.agg #[.int .i64 0, .slice none 0 0]) 2 32 Try.underlying50 hiiA hizA hiyA hixA rfl (by decide) _ (n) (xs) rfl (HROWA.out.alloc _) ⟨w7.heap.size, 0, none⟩ 1 1 [.int .i64 x.lba, .slice dpx x.data.length dcx] rfl rfl (World.news_of_block (cs := #[.int .i64 x.lba, .slice dpx x.data.length dcx]) (heap_alloc_new w7 _)) (by simp [Value.oneCell']) (by decide) (by unfold maxLen; omega) (by omega) (Nat.zero_le _) (w7.heap.size + 1) (by simp) ?_; intro gA cA wA hownA hgrowA hatA hltA)
                                have hSA := HS7.out.row_app 1 rfl (below_alloc _ _) hownA hgrowA hatA (by simp) hltA
                                clear hownA hgrowA hatA hltA hiiA hizA hiyA hixA
                                have HSA := Lib.hid hSA
                                clear hSA
                                have HRA := Lib.hid (HRP.out.snoc HKI.out HXD6.out)
                                clear d1 d2 d3 d4 d5 e1 e2
                                obtain ⟨d1, d2, d3, d4, d5⟩ := HCEL.out _ HSA.out.old
                                obtain ⟨e1, e2⟩ := HYC.out _ HSA.out.old
                                go_wp2_with fail
                                go_quiet (fail)
                                have HS8 := Lib.hid (HSA.out.up (below_drewN (Below.refl wA.heap.size wA) nq))
                                clear d1 d2 d3 d4 d5 e1 e2
                                obtain ⟨d1, d2, d3, d4, d5⟩ := HCEL.out _ HS8.out.old
                                obtain ⟨e1, e2⟩ := HYC.out _ HS8.out.old
                                generalize wA.drewN nq = w8 at *
                                obtain ⟨FB, hFB, _⟩ := HS8.out.get 1 rfl
                                have hrowB := hFB.1
                                obtain ⟨iiB, hiiB, hizB, hiyB, hixB⟩ := info_parts infoPut
                                have HROWB := Lib.hid hrowB
                                clear hFB hrowB
                                go_wp2_with (at_builtin; refine wpList_append_lies _ rfl _ _ 50 rfl 0 54 iiB (.agg #[.int .i64 0, .slice none 0 0]) 2 32 Try.underlying50 hiiB hizB hiyB hixB rfl (by decide) _ (n + 1) (xs ++ [.int .i64 x.lba, .slice dpx x.data.length dcx]) rfl (HROWB.out.alloc _) ⟨w8.heap.size, 0, none⟩ 1 1 [.int .i64 y.lba, .slice dpy y.data.length dcy] rfl rfl (World.news_of_block (cs := #[.int .i64 y.lba, .slice dpy y.data.length dcy]) (heap_alloc_new w8 _)) (by simp [Value.oneCell']) (by decide) (by unfold maxLen; omega) (by omega) (Nat.zero_le _) (w8.heap.size + 1) (by simp) ?_; intro gB cB wB hownB hgrowB hatB hltB)
                                have hSB := HS8.out.row_app 1 rfl (below_alloc _ _) hownB hgrowB hatB (by simp) hltB
                                clear hownB hgrowB hatB hltB hiiB hizB hiyB hixB
                                have HSB := Lib.hid hSB
                                clear hSB
                                go_wp2_with fail
                                go_roundw
                                case rel => exact ⟨m + 1, (O ++ [x] ++ [y]), true, _, _, n + 1 + 1, _, by omega, by go_num, rfl, rfl, Lib.hid (by rw [List.length_append, List.length_append, HN.out]; rfl), Lib.hid (HNX2.out), HSB, Lib.hid ((HRA.out).snoc HYI.out HYD.out)⟩
                                case measure => simp [intOf]; omega
                              case inr.inr =>
                                have hnx2 : insTo x Lk (m + 1) = (O ++ [y], false) := by rw [HNX.out]; simp [insStep, f, e]
                                have hne : (y.lba != x.lba) = true := by rw [bne_iff_ne]; exact e
                                have HNX2 := Lib.hid hnx2
                                have HE := Lib.hid e
                                clear hnx2 e
                                go_wp2_with fail
                                go_quiet (fail)
                                have HS7 := Lib.hid (HS.out.up (below_drewN (Below.refl wr.heap.size wr) nq))
                                clear d1 d2 d3 d4 d5 e1 e2
                                obtain ⟨d1, d2, d3, d4, d5⟩ := HCEL.out _ HS7.out.old
                                obtain ⟨e1, e2⟩ := HYC.out _ HS7.out.old
                                generalize wr.drewN nq = w7 at *
                                go_wp2_with fail
                                go_quiet (fail)
                                have HS8 := Lib.hid (HS7.out.up (below_drewN (Below.refl w7.heap.size w7) nq))
                                clear d1 d2 d3 d4 d5 e1 e2
                                obtain ⟨d1, d2, d3, d4, d5⟩ := HCEL.out _ HS8.out.old
                                obtain ⟨e1, e2⟩ := HYC.out _ HS8.out.old
                                generalize w7.drewN nq = w8 at *
                                obtain ⟨FB, hFB, _⟩ := HS8.out.get 1 rfl
                                have hrowB := hFB.1
                                obtain ⟨iiB, hiiB, hizB, hiyB, hixB⟩ := info_parts infoPut
                                have HROWB := Lib.hid hrowB
                                clear hFB hrowB
                                go_wp2_with (at_builtin; refine wpList_append_lies _ rfl _ _ 50 rfl 0 54 iiB (.agg #[.int .i64 0, .slice none 0 0]) 2 32 Try.underlying50 hiiB hizB hiyB hixB rfl (by decide) _ (n) (xs) rfl (HROWB.out.alloc _) ⟨w8.heap.size, 0, none⟩ 1 1 [.int .i64 y.lba, .slice dpy y.data.length dcy] rfl rfl (World.news_of_block (cs := #[.int .i64 y.lba, .slice dpy y.data.length dcy]) (heap_alloc_new w8 _)) (by simp [Value.oneCell']) (by decide) (by unfold maxLen; omega) (by omega) (Nat.zero_le _) (w8.heap.size + 1) (by simp) ?_; intro gB cB wB hownB hgrowB hatB hltB)
                                have hSB := HS8.out.row_app 1 rfl (below_alloc _ _) hownB hgrowB hatB (by simp) hltB
                                clear hownB hgrowB hatB hltB hiiB hizB hiyB hixB
                                have HSB := Lib.hid hSB
                                clear hSB
                                go_wp2_with fail
                                go_roundw
                                case rel => exact ⟨m + 1, (O ++ [y]), false, _, _, n + 1, _, by omega, by go_num, rfl, rfl, Lib.hid (by rw [List.length_append, HN.out]; rfl), Lib.hid (HNX2.out), HSB, Lib.hid ((HRP.out).snoc HYI.out HYD.out)⟩
                                case measure => simp [intOf]; omega
                          case neg =>
                            obtain rfl : m = Lk.length := by omega
                            cases d with
                            | true =>
                              have hfin : rIns Lk x = O := by unfold rIns; rw [HI.out]; rfl
                              have hrow := HS.out.row_mine 1 (by decide) rfl
                              obtain ⟨f1, f2⟩ := HSTORE.out _ _ _ _ _ _ HS.out.old HRP.out HN.out hfin hrow
                              rw [← HNEXT.out] at f2
                              have HF1 := Lib.hid f1
                              have HF2 := Lib.hid f2
                              have HFIN := Lib.hid hfin
                              have HROW := Lib.hid hrow
                              clear f1 f2 hfin hrow
                              go_wp2_with fail
                              go_roundw
                              case rel => exact ⟨k + 1, by omega, by go_num, HF1, HF2⟩
                              case measure => simp [intOf]; omega
                            | false =>
                              have hfin : rIns Lk x = O ++ [x] := by unfold rIns; rw [HI.out]; rfl
                              obtain ⟨FA, hFA, _⟩ := HS.out.get 1 rfl
                              have hrowA := hFA.1
                              obtain ⟨iiA, hiiA, hizA, hiyA, hixA⟩ := info_parts infoPut
                              have HROWA := Lib.hid hrowA
                              clear hFA hrowA
                              go_upto_region 43 with (at_builtin; refine wpList_append_lies _ rfl _ _ 50 rfl 0 54 iiA (.agg #[.int .i64 0, .slice none 0 0]) 2 32 Try.underlying50 hiiA hizA hiyA hixA rfl (by decide) _ (n) (xs) rfl (HROWA.out.alloc _) ⟨wr.heap.size, 0, none⟩ 1 1 [.int .i64 x.lba, .slice dpx x.data.length dcx] rfl rfl (World.news_of_block (cs := #[.int .i64 x.lba, .slice dpx x.data.length dcx]) (heap_alloc_new wr _)) (by simp [Value.oneCell']) (by decide) (by unfold maxLen; omega) (by omega) (Nat.zero_le _) (wr.heap.size + 1) (by simp) ?_; intro gA cA wA hownA hgrowA hatA hltA)
                              have hSA := HS.out.row_app 1 rfl (below_alloc _ _) hownA hgrowA hatA (by simp) hltA
                              clear hownA hgrowA hatA hltA hiiA hizA hiyA hixA
                              have hrow := hSA.row_mine 1 (by decide) rfl
                              obtain ⟨g1, g2, g3, g4, g5⟩ := HCEL.out _ hSA.old
                              obtain ⟨f1, f2⟩ := HSTORE.out _ _ _ _ _ _ hSA.old (HRP.out.snoc HKI.out HXD6.out) (by rw [List.length_append, HN.out]; rfl) hfin hrow
                              rw [← HNEXT.out] at f2
                              have HF1 := Lib.hid f1
                              have HF2 := Lib.hid f2
                              have HFIN := Lib.hid hfin
                              have HROW := Lib.hid hrow
                              have HSA := Lib.hid hSA
                              clear f1 f2 hfin hrow hSA
                              go_wp2_with fail
                              go_roundw
                              case rel => exact ⟨k + 1, by omega, by go_num, HF1, HF2⟩
                              case measure => simp [intOf]; omega
end Go.Proofs
