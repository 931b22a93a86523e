/- append of whatever slice onto a slice of one's own; slices.Grow of nil and slices.Concat of two, over extents. -/
import Derived.Test.YteodkepnalhceaaIval2
import Derived.Lib.AppendZerosOnto
import Derived.Maps.AppendAt
namespace Sc
open Go Go.RowKit
section
variable {P : Program}
theorem run_append_nil (w : World) (t ty e : TypeId) (i : TypeInfo) (ht : P.underlying t = some (.slice e)) (hi : P.info? e = some i) (p : Option Addr) (n c : Nat) (hn : n ≤ c) :
    (Builtin.append_ #[t, t] ty #[.slice p n c, .slice none 0 0]).run P w = .ok (.slice p n c) w := by
  cases p with
  | none => simp [Builtin.append_, run_underlying ht, Go.sizeOf, typeInfo, hi, Builtin.lenOf, Builtin.firstCells, hn]
  | some a => simp [Builtin.append_, run_underlying ht, Go.sizeOf, typeInfo, hi, Builtin.lenOf, Builtin.firstCells, hn, storeCells]
theorem run_append_any (w : World) (t ty : TypeId) (base : Nat) (e : TypeId) (i : TypeInfo) (z : Value) (size bytes : Nat) (ht : P.underlying t = some (.slice e)) (hi : P.info? e = some i) (hz : i.zero = some z)
    (hsize : i.size = size) (hby : i.bytes = bytes) (hzs : z.cells.size = size) (hsz : 0 < size)
    (v : Value) (n : Nat) (xs : List Value) (hown : w.ownsRow base e size v n xs) (p : Option Addr) (m c : Nat) (hp : p = none → m = 0 ∧ c = 0) (news : List Value) (hl : news.length = m * size)
    (hnews : ∀ a, p = some a → ∀ j u, news[j]? = some u → w.cell? (a.add j) = some u) (h1 : ∀ u ∈ news, u.oneCell' = true) (h63 : n + m ≤ maxLen) (hbytes : (n + m) * bytes ≤ 140737488355328) (hbase : base ≤ w.heap.size) :
    ∃ v' w', (Builtin.append_ #[t, t] ty #[v, .slice p m c]).run P w = .ok v' w' ∧ w'.ownsRow base e size v' (n + m) (xs ++ news) ∧ w.grownBy w' v.ownBlock ∧ (v'.ownBlock = v.ownBlock ∨ v'.ownBlock = some w.heap.size) := by
  cases p with
  | some a =>
    obtain ⟨v', w', h1, h2, h3, _, h5⟩ := run_append_own_at (P := P) w base t ty e i z size bytes ht hi hz hsize hby hzs hsz v n xs hown a m c news hl (hnews a rfl) h1 h63 hbytes hbase
    exact ⟨v', w', h1, h2, h3, h5⟩
  | none =>
    obtain ⟨rfl, rfl⟩ := hp rfl
    have hnil : news = [] := List.length_eq_zero_iff.1 (by omega)
    subst hnil
    obtain ⟨hx, hc | ⟨g, cap, cur, rfl, hb, hg, hnc, hcm, hcs, htake⟩⟩ := id hown
    · obtain ⟨rfl, rfl⟩ := hc
      exact ⟨_, w, run_append_nil w t ty e i ht hi none 0 0 (Nat.le_refl _), by simpa using hown, ⟨rfl, rfl, rfl, Nat.le_refl _, fun _ _ _ => rfl⟩, .inl rfl⟩
    · exact ⟨_, w, run_append_nil w t ty e i ht hi _ n cap hnc, by simpa using hown, ⟨rfl, rfl, rfl, Nat.le_refl _, fun _ _ _ => rfl⟩, .inl rfl⟩
end
end Sc
namespace Go.Proofs
open Go.RowKit Sc

def GrowSaid (w : World) (e : Ending) (w' : World) : Prop := ∃ v, e = .returned v ∧ w'.ownsRow w.heap.size 28 2 v 0 [] ∧ Below w.heap.size w w'
set_option maxRecDepth 100000 in
set_option maxHeartbeats 1000000 in
theorem growExt_nil (n : Nat) (w : World) (hn : n ≤ 1000000) : Calls Try.prog 66 #[.slice none 0 0, .int .i64 n] w (GrowSaid w) := by
  obtain ⟨i0, hi, hz0, hz1, hz2⟩ := info_parts infoExt
  by_cases h0 : n = 0
  · subst h0
    clear hi hz0 hz1 hz2
    go_enter Try.func66, Try.ntmps66
    go_wp2
    go_ret
    exact ⟨.slice none 0 0, rfl, World.ownsRow_nil _ _ _ _, Below.refl _ _⟩
  · have hold : (Builtin.firstCells i0.size 0 (.slice none 0 0)).run Try.prog w.drew = .ok ([] : List Value).toArray w.drew := by simp [Builtin.firstCells]
    have hrz := Lib.run_append_grow_zeros (P := Try.prog) w 29 3 29 28 i0 (.agg #[.int .i64 0, .int .i64 0]) .i64 .i64 Try.underlying29 Try.underlying3 hi hz0 none 0 0 [] hold n (by omega) (by omega) (by omega) (by omega) (by rw [hz2]; omega) (growslice_fits (by omega) (by rw [hz2]; omega))
    rw [Nat.zero_add] at hrz
    have hge := grownCap_ge w n 0 28
    have hle := grownCap_le_maxLen w n 0 28 (by unfold maxLen; omega)
    generalize grownCap w n 0 28 = C at *
    have hcur : ((([] : List Value).toArray ++ Builtin.zeroCells (Value.agg #[.int .i64 0, .int .i64 0]).cells n ++ Builtin.zeroCells (Value.agg #[.int .i64 0, .int .i64 0]).cells (C - n))).size = C * 2 := by
      simp [Builtin.zeroCells, Value.cells]; omega
    generalize (([] : List Value).toArray ++ Builtin.zeroCells (Value.agg #[.int .i64 0, .int .i64 0]).cells n ++ Builtin.zeroCells (Value.agg #[.int .i64 0, .int .i64 0]).cells (C - n)) = cur at *
    have hpos : 0 < (n : Int) := by omega
    have hn' : (n : Int) ≤ 1000000 := by omega
    have HRZ := Lib.hid hrz
    have HGE := Lib.hid hge
    have HLE := Lib.hid hle
    have HCUR := Lib.hid hcur
    clear hge hle hcur
    clear hold hrz hi hz0 hz1 hz2 h0
    go_enter Try.func66, Try.ntmps66
    go_wp2_with (at_builtin; refine Lib.wpList_append_run _ rfl _ _ _ _ rfl _ _ rfl rfl _ _ HRZ.out ?_)
    all_goals
      go_ret
      refine ⟨.slice (some ⟨w.heap.size, 0, none⟩) 0 C, rfl, ?_, (below_drewN (Below.refl _ w) 1).alloc (Nat.le_refl _) _⟩
      exact World.ownsRow_made w.drew cur C (Nat.le_refl _) HLE.out HCUR.out

/-- What the first so many of two slices hold. -/
def part2 (l1 l2 : List Ext) (k : Nat) : List Ext := if k = 0 then [] else if k = 1 then l1 else l1 ++ l2
theorem part2_len (l1 l2 : List Ext) (k : Nat) : (part2 l1 l2 k).length ≤ l1.length + l2.length := by
  unfold part2
  split
  · simp
  · split <;> simp
def RowSaid (l : List Ext) (w : World) (e : Ending) (w' : World) : Prop := ∃ v, e = .returned v ∧ Hid (w'.ownsRow w.heap.size 28 2 v l.length (flatE l)) ∧ Hid (Below w.heap.size w w')
set_option maxRecDepth 100000 in
set_option maxHeartbeats 2000000 in
theorem concatExt_any (G : Nat → Prop) (rb : Nat) (p1 p2 : Option Addr) (c1 c2 : Nat) (l1 l2 : List Ext) (w : World) (h0 : w.cell? ⟨rb, 0, none⟩ = some (.slice p1 l1.length c1)) (h1 : w.cell? ⟨rb, 1, none⟩ = some (.slice p2 l2.length c2))
    (e1 : ExtsAt G w (.slice p1 l1.length c1) l1) (e2 : ExtsAt G w (.slice p2 l2.length c2) l2) (n1 : l1.length ≤ 100000) (n2 : l2.length ≤ 100000) :
    Calls Try.prog 45 #[.slice (some ⟨rb, 0, none⟩) 2 2] w (RowSaid (l1 ++ l2) w) := by
  obtain ⟨i0, hi, hz0, hz1, hz2⟩ := info_parts infoExt
  have hsz : ∀ k, (part2 l1 l2 k).length ≤ 200000 := fun k => by have := part2_len l1 l2 k; omega
  have q0 : (part2 l1 l2 0).length = 0 := rfl
  have q1 : (part2 l1 l2 1).length = l1.length := rfl
  have q2 : (part2 l1 l2 2).length = l1.length + l2.length := by simp [part2]
  have HE1 := Lib.hid e1
  have HE2 := Lib.hid e2
  have HSZ := Lib.hid hsz
  have HQ0 := Lib.hid q0
  have HQ1 := Lib.hid q1
  have HQ2 := Lib.hid q2
  have HI := Lib.hid hi
  have HZ0 := Lib.hid hz0
  have HZ1 := Lib.hid hz1
  have HZ2 := Lib.hid hz2
  clear e1 e2 hsz q0 q1 q2 hi hz0 hz1 hz2
  go_enter Try.func45, Try.ntmps45
  go_wp2_with fail
  go_loopw [3, 11] (fun s i wr => ∃ k : Nat, k ≤ 2 ∧ i = .int .i64 k ∧ s = .int .i64 ((part2 l1 l2 k).length : Nat) ∧ wr = w) (fun _ i _ => 2 - (intOf i).toNat)
  case atStart => exact ⟨0, by omega, rfl, rfl, rfl⟩
  case round =>
    obtain ⟨k, hk, rfl, rfl, hww⟩ := hrel
    rw [hww]
    clear hww
    rcases (show k = 0 ∨ k = 1 ∨ k = 2 by omega) with rfl | rfl | rfl
    · rw [HQ0.out]
      go_wp2_with fail
      go_roundw
      case rel => exact ⟨1, by omega, by go_num, by rw [HQ1.out], by first | rfl | trivial⟩
      case measure => simp [intOf]
    · rw [HQ1.out]
      have hw1 : IntKind.i64.wrap ((l1.length : Int) + (l2.length : Int)) = (l1.length : Int) + (l2.length : Int) := IntWalk.i64_in _ (by omega)
      go_wp2_with fail
      go_roundw
      case rel => exact ⟨2, by omega, by go_num, by rw [HQ2.out]; go_num, by first | rfl | trivial⟩
      case measure => simp [intOf]
    · have hq2 := HSZ.out 2
      generalize hnn : (part2 l1 l2 2).length = N at *
      have HNN := Lib.hid hnn
      clear hnn
      go_wp2_with fail
      refine (growExt_nil N _ (by omega)).mono ?_
      rintro e w1 ⟨v1, rfl, hown1, hb1⟩
      have h01 := cell_up hb1 h0
      have h11 := cell_up hb1 h1
      have HOWN1 := Lib.hid hown1
      have HB1 := Lib.hid hb1
      clear hown1 hb1
      clear hq2
      go_wp2_with fail
      go_loopw [6, 27] (fun vo i wr => ∃ k : Nat, k ≤ 2 ∧ i = .int .i64 k ∧ Hid (wr.ownsRow w.heap.size 28 2 vo (part2 l1 l2 k).length (flatE (part2 l1 l2 k))) ∧ Hid (Below w.heap.size w wr)) (fun _ i _ => 2 - (intOf i).toNat)
      case atStart => exact ⟨0, by omega, rfl, HOWN1.out, HB1.out⟩
      case round =>
        obtain ⟨k, hk, rfl, HO, HB⟩ := hrel
        have hc0 := cell_up HB.out h0
        have hc1 := cell_up HB.out h1
        clear h01 h11
        rcases (show k = 0 ∨ k = 1 ∨ k = 2 by omega) with rfl | rfl | rfl
        · have hsrc := ExtsAt.up HE1.out HB.out
          have hsh := HE1.out
          obtain ⟨_, _, hh, _, _, hp3, _⟩ := hsh
          cases hh
          obtain ⟨v', w', hr, hown', hgrow, hat⟩ := run_append_any (P := Try.prog) wr 29 29 w.heap.size 28 i0 (.agg #[.int .i64 0, .int .i64 0]) 2 16 Try.underlying29 HI.out HZ0.out HZ1.out HZ2.out rfl (by decide) u6 _ _ HO.out p1 l1.length c1 (fun e => by subst e; have := hp3 rfl; omega) (flatE l1) (flatE_length l1) (fun a e => by subst e; exact extsAt_news hsrc) (flatE_one l1) (by rw [HQ0.out]; unfold maxLen; omega) (by rw [HQ0.out]; omega) HB.out.size
          rw [HQ0.out, Nat.zero_add] at hown'
          have hb' := HB.out.grown hgrow HB.out.size (fun j hj => (HO.out.lt j hj).1)
          have HOWN' := Lib.hid hown'
          have HB' := Lib.hid hb'
          have HR := Lib.hid hr
          clear hown' hb' hr
          clear hp3 hsrc hgrow hat
          go_wp2_with (at_builtin; refine Lib.wpList_append_run _ rfl _ _ _ _ rfl _ _ rfl rfl _ _ HR.out ?_)
          go_roundw
          case rel => exact ⟨1, by omega, by go_num, HOWN'.out, HB'.out⟩
          case measure => simp [intOf]
        · have hsrc := ExtsAt.up HE2.out HB.out
          have hsh := HE2.out
          obtain ⟨_, _, hh, _, _, hp3, _⟩ := hsh
          cases hh
          obtain ⟨v', w', hr, hown', hgrow, hat⟩ := run_append_any (P := Try.prog) wr 29 29 w.heap.size 28 i0 (.agg #[.int .i64 0, .int .i64 0]) 2 16 Try.underlying29 HI.out HZ0.out HZ1.out HZ2.out rfl (by decide) u6 _ _ HO.out p2 l2.length c2 (fun e => by subst e; have := hp3 rfl; omega) (flatE l2) (flatE_length l2) (fun a e => by subst e; exact extsAt_news hsrc) (flatE_one l2) (by rw [HQ1.out]; unfold maxLen; omega) (by rw [HQ1.out]; omega) HB.out.size
          rw [HQ1.out, ← HQ2.out] at hown'
          have hfl : flatE (part2 l1 l2 1) ++ flatE l2 = flatE (part2 l1 l2 2) := by rw [← flatE_append]; rfl
          rw [hfl] at hown'
          have hb' := HB.out.grown hgrow HB.out.size (fun j hj => (HO.out.lt j hj).1)
          have HOWN' := Lib.hid hown'
          have HB' := Lib.hid hb'
          have HR := Lib.hid hr
          clear hown' hb' hr
          clear hp3 hsrc hgrow hat hfl
          go_wp2_with (at_builtin; refine Lib.wpList_append_run _ rfl _ _ _ _ rfl _ _ rfl rfl _ _ HR.out ?_)
          go_roundw
          case rel => exact ⟨2, by omega, by go_num, by unfold Hid; rw [HNN.out]; exact HOWN'.out, HB'.out⟩
          case measure => simp [intOf]
        · go_wp2_with fail
          go_ret
          exact ⟨_, rfl, HO.out, HB.out⟩
end Go.Proofs
