/- Texts of this claim, one behind the other: RefMapP, RefMap1, RefMap2P, Append, RegApp, Concat0, OutPush, RefMap2L, PlainPut, RefSet, RefAddV, RefBufPlain, RefBuf, Plays15P, RefView1. -/
import Derived.Deep.AppendLies
import Derived.Maps.AppendAt
import Derived.Deep.DeepCutAuto
import Derived.Deep.CutRange
import Derived.Lib.AppendZeros
import Derived.Deep.RegionHeld3
import Derived.BigQuiet
import Derived.Test.YtajjadoalfjnkaaGreatRp5
namespace Go.Proofs
open Go.RowKit Sc
structure RVer where
 lba : Int
 time : Int
 data : Bytes
def grp (L : List RVer) (k : Int) : List Put := (L.filter fun v => v.lba == k).map fun v => ⟨v.time, v.data⟩
def putG (t : Int) (ps : List Put) (k : Int) : List Put := (ps.filter fun p => p.lba == k).map fun p => ⟨t, p.data⟩
def mkV (t : Int) (p : Put) : RVer := ⟨p.lba, t, p.data⟩
theorem grp_append (a b : List RVer) (k : Int) : grp (a ++ b) k = grp a k ++ grp b k := by unfold grp; rw [List.filter_append, List.map_append]
theorem grp_mk (t : Int) (ps : List Put) (k : Int) : grp (ps.map (mkV t)) k = putG t ps k := by
 induction ps with
 | nil => rfl
 | cons p ps ih =>
  have e : grp ((p :: ps).map (mkV t)) k = grp [mkV t p] k ++ grp (ps.map (mkV t)) k := by rw [← grp_append]; rfl
  have e2 : putG t (p :: ps) k = putG t [p] k ++ putG t ps k := by
   unfold putG
   rw [← List.map_append, ← List.filter_append]; rfl
  rw [e, e2, ih]
  congr 1
  unfold grp putG mkV
  by_cases h : p.lba = k
  ·simp [h]
  ·simp [h]
theorem putG_append (t : Int) (a b : List Put) (k : Int) : putG t (a ++ b) k = putG t a k ++ putG t b k := by unfold putG; rw [List.filter_append, List.map_append]
theorem grp_none {L : List RVer} {k : Int} (h : ∀ v ∈ L, v.lba ≠ k) : grp L k = [] := by
 unfold grp
 rw [List.filter_eq_nil_iff.2 fun v hv => by simpa using h v hv]; rfl
theorem putG_none {t : Int} {ps : List Put} {k : Int} (h : ∀ p ∈ ps, p.lba ≠ k) : putG t ps k = [] := by
 unfold putG
 rw [List.filter_eq_nil_iff.2 fun v hv => by simpa using h v hv]; rfl
def mergeV (t : Int) : List Put → List RVer → List RVer
 | ps, [] => ps.map (mkV t)
 | ps, v :: L => (ps.takeWhile fun p => decide (p.lba < v.lba)).map (mkV t) ++ v :: mergeV t (ps.dropWhile fun p => decide (p.lba < v.lba)) L
def AscV (L : List RVer) : Prop := L.Pairwise fun a b => a.lba ≤ b.lba
theorem drop_ge {ps : List Put} (h : ps.Pairwise fun p q => p.lba < q.lba) (x : Int) : ∀ p ∈ ps.dropWhile (fun p => decide (p.lba < x)), x ≤ p.lba := by
 induction ps with
 | nil => simp
 | cons q ps ih =>
  rw [List.pairwise_cons] at h
  rw [List.dropWhile_cons]
  split
  ·exact ih h.2
  ·rename_i hq
   intro p hp
   have hq' : ¬ q.lba < x := by simpa using hq
   rcases List.mem_cons.1 hp with rfl | hp
   ·omega
   ·have := h.1 p hp; omega
theorem take_lt (ps : List Put) (x : Int) : ∀ p ∈ ps.takeWhile (fun p => decide (p.lba < x)), p.lba < x := by
 induction ps with
 | nil => simp
 | cons q ps ih =>
  rw [List.takeWhile_cons]
  split
  ·rename_i hq
   intro p hp
   rcases List.mem_cons.1 hp with rfl | hp
   ·simpa using hq
   ·exact ih p hp
  ·simp
theorem grp_merge (t : Int) (k : Int) : ∀ (L : List RVer) (ps : List Put), AscV L → (ps.Pairwise fun p q => p.lba < q.lba) → grp (mergeV t ps L) k = grp L k ++ putG t ps k
 | [], ps, _, _ => by
  show grp (ps.map (mkV t)) k = [] ++ _
  rw [grp_mk]; rfl
 | v :: L, ps, hL, hp => by
  unfold AscV at hL
  rw [List.pairwise_cons] at hL
  have ih := grp_merge t k L (ps.dropWhile fun p => decide (p.lba < v.lba)) hL.2 (hp.sublist (List.dropWhile_sublist _))
  have e : grp (mergeV t ps (v :: L)) k = putG t (ps.takeWhile fun p => decide (p.lba < v.lba)) k ++ (grp [v] k ++ grp (mergeV t (ps.dropWhile fun p => decide (p.lba < v.lba)) L) k) := by
   show grp (_ ++ ([v] ++ _)) k = _
   rw [grp_append, grp_mk, grp_append]
  have e2 : putG t ps k = putG t (ps.takeWhile fun p => decide (p.lba < v.lba)) k ++ putG t (ps.dropWhile fun p => decide (p.lba < v.lba)) k := by
   rw [← putG_append, List.takeWhile_append_dropWhile]
  have e3 : grp (v :: L) k = grp [v] k ++ grp L k := by rw [← grp_append]; rfl
  rw [e, ih, e2, e3]
  by_cases hk : k < v.lba
  ·have h1 : grp [v] k = [] := grp_none fun u hu => by rw [List.mem_singleton] at hu; subst hu; omega
   have h2 : grp L k = [] := grp_none fun u hu => by have := hL.1 u hu; omega
   rw [h1, h2]
   simp
  ·have h1 : putG t (ps.takeWhile fun p => decide (p.lba < v.lba)) k = [] := putG_none fun p hp => by have := take_lt ps v.lba p hp; omega
   rw [h1]
   simp
theorem asc_merge (t : Int) : ∀ (L : List RVer) (ps : List Put), AscV L → (ps.Pairwise fun p q => p.lba < q.lba) → AscV (mergeV t ps L)
 | [], ps, _, hp => by
  show (ps.map (mkV t)).Pairwise _
  rw [List.pairwise_map]
  exact hp.imp fun h => by unfold mkV; simp only; omega
 | v :: L, ps, hL, hp => by
  unfold AscV at hL
  rw [List.pairwise_cons] at hL
  have hd := hp.sublist (List.dropWhile_sublist (fun p : Put => decide (p.lba < v.lba)) (l := ps))
  have ih := asc_merge t L (ps.dropWhile fun p => decide (p.lba < v.lba)) hL.2 hd
  have hge : ∀ u ∈ mergeV t (ps.dropWhile fun p => decide (p.lba < v.lba)) L, v.lba ≤ u.lba := fun u hu => by
   have hg := grp_merge t u.lba L (ps.dropWhile fun p => decide (p.lba < v.lba)) hL.2 hd
   have hne : grp (mergeV t (ps.dropWhile fun p => decide (p.lba < v.lba)) L) u.lba ≠ [] := fun h0 => by
    unfold grp at h0
    rw [List.map_eq_nil_iff, List.filter_eq_nil_iff] at h0
    have := h0 u hu
    simp at this
   rw [hg] at hne
   by_cases hc : grp L u.lba = []
   ·rw [hc, List.nil_append] at hne
    refine Classical.byContradiction fun hlt => hne (putG_none fun p hp' e => ?_)
    have := drop_ge hp v.lba p hp'
    omega
   ·refine Classical.byContradiction fun hlt => hc (grp_none fun x hx e => ?_)
    have := hL.1 x hx
    omega
  show ((ps.takeWhile fun p => decide (p.lba < v.lba)).map (mkV t) ++ v :: mergeV t (ps.dropWhile fun p => decide (p.lba < v.lba)) L).Pairwise _
  rw [List.pairwise_append]
  refine ⟨?_, List.pairwise_cons.2 ⟨hge, ih⟩, fun a ha b hb => ?_⟩
  ·rw [List.pairwise_map]
   exact (hp.sublist (List.takeWhile_sublist _)).imp fun h => by unfold mkV; simp only; omega
  ·obtain ⟨p, hp', rfl⟩ := List.mem_map.1 ha
   have h1 := take_lt ps v.lba p hp'
   have h2 : v.lba ≤ b.lba := by
    rcases List.mem_cons.1 hb with rfl | hb
    ·omega
    ·exact hge b hb
   unfold mkV
   simp only
   omega
def getL (l : List Put) (t : Int) : Bytes × Int := l.foldl (fun acc p => if p.lba ≤ t then (p.data, p.lba) else acc) (zeroB, 0)
def getR (L : List RVer) (k t : Int) : Bytes × Int := L.foldl (fun acc v => if v.lba = k ∧ v.time ≤ t then (v.data, v.time) else acc) (zeroB, 0)
theorem getR_grp (L : List RVer) (k t : Int) : getR L k t = getL (grp L k) t := by
 unfold getR getL grp
 generalize (zeroB, (0 : Int)) = acc
 induction L generalizing acc with
 | nil => rfl
 | cons v L ih =>
  rw [List.foldl_cons, ih]
  by_cases h : v.lba = k
  ·have : (v :: L).filter (fun v => v.lba == k) = v :: L.filter fun v => v.lba == k := List.filter_cons_of_pos (by simpa using h)
   rw [this, List.map_cons, List.foldl_cons]
   by_cases h2 : v.time ≤ t
   ·rw [if_pos ⟨h, h2⟩, if_pos h2]
   ·rw [if_neg (fun hh => h2 hh.2), if_neg h2]
  ·have : (v :: L).filter (fun v => v.lba == k) = L.filter fun v => v.lba == k := List.filter_cons_of_neg (by simpa using h)
   rw [this, if_neg (fun hh => h hh.1)]
theorem getL_at (l : List Put) (t : Int) : getL l t = match l[atN l t - 1]? with
  | some p => if atN l t = 0 then (zeroB, 0) else (p.data, p.lba)
  | none => (zeroB, 0) := by
 have key : ∀ n, n ≤ l.length → getL (l.take n) t = match (l.take n)[atN (l.take n) t - 1]? with
   | some p => if atN (l.take n) t = 0 then (zeroB, 0) else (p.data, p.lba)
   | none => (zeroB, 0) := by
  intro n
  induction n with
  | zero => intro _; rw [List.take_zero]; rfl
  | succ n ih =>
   intro hn
   have ih := ih (by omega)
   rw [take_snoc l n (by omega)]
   generalize l.take n = m at *
   generalize l[n] = p
   have e : getL (m ++ [p]) t = if p.lba ≤ t then (p.data, p.lba) else getL m t := by unfold getL; rw [List.foldl_append]; rfl
   rw [e, atN_snoc]
   by_cases h : p.lba ≤ t
   ·rw [if_pos h, if_pos h]
    simp
   ·rw [if_neg h, if_neg h, ih]
    have hle := atN_le m t
    by_cases h0 : atN m t = 0
    ·rw [h0]
     simp only [if_true]
     split <;> split <;> rfl
    ·rw [List.getElem?_append_left (by omega)]
 have := key l.length (Nat.le_refl _)
 rw [List.take_length] at this
 exact this
theorem getR_get {L : List RVer} {vs : Vers} (h : ∀ k, (alook vs k).getD [] = grp L k) (k t : Int) : getR L k t = getV vs k t := by
 rw [getR_grp, getL_at, getV_of (h k)]
 all_goals (cases (grp L k)[atN (grp L k) t - 1]? <;> rfl)
end Go.Proofs
namespace Go.Proofs
open Go.RowKit Sc
theorem wpList_make_ref {P : Program} (w : World) {ops : Array Oper} {rest : List Oper} {o : Oper} {a : Act} {Q : Exit → Act → World → Prop}
  (hg : Region.wanted o (yielded ops a.tmps) = true) (l c : Operand) (t : TypeId) (hop : o.op = Op.makeSlice t l c)
  (base : Nat) (e : TypeId) (i : TypeInfo) (z : Value) (size : Nat) (h1 : P.underlying t = some (.slice e)) (h2 : P.info? e = some i) (h3 : i.zero = some z) (h4 : i.size = size)
  (kl kc : IntKind) (L C : Int) (n : Nat) (hl : a.eval l = .int kl L) (hc : a.eval c = .int kc C) (hL : L = (n : Int)) (hC : C = (n : Int)) (b2 : i.bytes * n ≤ 281474976710656) (b3 : n ≤ maxLen) (b4 : base ≤ w.heap.size)
  (hK : ∀ w', w'.ownsRow base e size (.slice (some ⟨w.heap.size, 0, none⟩) n n) n (madeCells z.cells (n * size)).toList → w.grownBy w' none → wpList P ops Q rest (a.put o.dst (.slice (some ⟨w.heap.size, 0, none⟩) n n)) w') :
  wpList P ops Q (o :: rest) a w := by
 refine wpList_step fun K hK' => ?_
 rw [if_pos hg]
 obtain ⟨w', hrun, r1, r2⟩ := run_make_full (P := P) w base t e i z size h1 h2 h3 h4 kl kc n b2 b3 b4
 subst hL
 subst hC
 unfold Oper.wp
 simp [execOp, hop, hl, hc, hrun, Result.andThen]
 exact hK' _ _ (hK w' r1 r2)
def verR (D : Nat → Prop) (w : World) (cs : List Value) (x : RVer) : Prop := ∃ dv, cs = [.int .i64 x.lba, .int .i64 x.time, dv] ∧ I64 x.lba ∧ I64 x.time ∧ BytesAt D w dv x.data
theorem verR_stable : RStable verR := fun _ _ _ _ _ _ hd hs ⟨dv, h1, h2, h3, h4⟩ => ⟨dv, h1, h2, h3, (h4.same hs).mono hd⟩
def RMapIs (F : Nat → Prop) (w : World) (v : Value) (blocks last : Int) (L : List RVer) : Prop :=
 ∃ b lv D, v = .pointer (some ⟨b, 0, none⟩) ∧ F b ∧ w.heap[b]? = some (.cells #[.int .i64 blocks, lv, .int .i64 last] 147 (0, 0)) ∧ OutS 161 3 verR 0 w lv L D ∧ (∀ g, lv.ownBlock = some g → F g ∧ g ≠ b) ∧ ∀ q, D q → F q ∧ q ≠ b
theorem RMapIs.same {F : Nat → Prop} {w w' : World} {v : Value} {blocks last : Int} {L : List RVer} (h : RMapIs F w v blocks last L) (hs : Same F w w') (hz : w.heap.size ≤ w'.heap.size) : RMapIs F w' v blocks last L :=
 let ⟨b, lv, D, h1, h2, h3, h4, h5, h6⟩ := h
 ⟨b, lv, D, h1, h2, (hs b h2).trans h3, h4.same verR_stable hs hz (fun g hg => (h5 g hg).1) (fun q hq => (h6 q hq).1), h5, h6⟩
def RMapA (v : Value) (blocks last : Int) (L : List RVer) : Asn := ⟨fun F w => RMapIs F w v blocks last L, fun _ _ _ hs hz h => h.same hs hz⟩
theorem ver_cells {w : World} {lv : Value} {L : List RVer} {D : Nat → Prop} (h : OutS 161 3 verR 0 w lv L D) : ∃ p c, lv = .slice p L.length c ∧ L.length ≤ c ∧ ∀ i (hi : i < L.length), ∃ g dv, p = some ⟨g, 0, none⟩ ∧ w.cell? ⟨g, i * 3, none⟩ = some (.int .i64 L[i].lba) ∧ w.cell? ⟨g, i * 3 + 1, none⟩ = some (.int .i64 L[i].time) ∧ w.cell? ⟨g, i * 3 + 2, none⟩ = some dv ∧ I64 L[i].lba ∧ I64 L[i].time ∧ BytesAt D w dv L[i].data := by
 obtain ⟨css, h1, h2, h3, h4, _⟩ := h
 have hrow := h3
 obtain ⟨_, ⟨e, h0⟩ | ⟨g, cap, cur, e, _, _, hnc, _⟩⟩ := h3
 ·exact ⟨none, 0, by rw [e, h0], by omega, fun i hi => by omega⟩
 ·subst e
  refine ⟨_, cap, rfl, hnc, fun i hi => ?_⟩
  have hi' : i < css.length := by omega
  obtain ⟨dv, e1, e2, e3, e4⟩ := h4 i hi' hi
  have hf : ∀ j, j < 3 → w.cell? ⟨g, i * 3 + j, none⟩ = css[i][j]? := fun j hj => by
   rw [hrow.cellAt (i * 3 + j) (by omega)]
   exact flat_get h2 i hi' j hj
  rw [e1] at hf
  exact ⟨g, dv, rfl, hf 0 (by omega), hf 1 (by omega), hf 2 (by omega), e2, e3, e4⟩
theorem getR_snoc (L : List RVer) (v : RVer) (k t : Int) : getR (L ++ [v]) k t = if v.lba = k ∧ v.time ≤ t then (v.data, v.time) else getR L k t := by unfold getR; rw [List.foldl_append]; rfl
set_option maxRecDepth 100000 in
set_option maxHeartbeats 2000000 in
theorem refMapGet_any (F : Nat → Prop) (v : Value) (blocks last : Int) (L : List RVer) (lba t : Int) (w : World) (h : RMapIs F w v blocks last L) (hL : L.length ≤ 1000000) :
  Calls Tryz.prog 149 #[v, .int .i64 lba, .int .i64 t] w fun e w' =>
   (blk blocks lba = false ∧ e = .returned (.tuple #[.slice none 0 0, .int .i64 0]) ∧ Hid (Below w.heap.size w w')) ∨
   (blk blocks lba = true ∧ ∃ gp gc, e = .returned (.tuple #[.slice gp (getR L lba t).1.length gc, .int .i64 (getR L lba t).2]) ∧ Hid (BytesAt (fun k => F k ∨ New w w' k) w' (.slice gp (getR L lba t).1.length gc) (getR L lba t).1) ∧ Hid (Below w.heap.size w w')) := by
 obtain ⟨b, lv, D, rfl, hFb, hh, hO, hg, hD⟩ := h
 obtain ⟨p, c, rfl, hlc, hcells⟩ := ver_cells hO
 have c0 : w.cell? ⟨b, 0, none⟩ = some (.int .i64 blocks) := by rw [cell_row hh]; rfl
 have c1 : w.cell? ⟨b, 1, none⟩ = some (.slice p L.length c) := by rw [cell_row hh]; rfl
 have HC := Lib.hid hcells
 have HD := Lib.hid hD
 clear hh hO hg hcells hD
 by_cases h1 : lba < 0
 case pos =>
  have HB : Hid (blk blocks lba = false) := by show _ = _; unfold blk; rw [decide_eq_false (show ¬ 0 ≤ lba by omega)]; rfl
  go_enter Tryz.func149, Tryz.ntmps149
  go_wp2
  go_ret2
  exact .inl ⟨HB.out, rfl, Below.refl _ _⟩
 case neg =>
 by_cases h2 : blocks ≤ lba
 case pos =>
  have HB : Hid (blk blocks lba = false) := by show _ = _; unfold blk; rw [decide_eq_false (show ¬ lba < blocks by omega)]; simp
  go_enter Tryz.func149, Tryz.ntmps149
  go_wp2
  go_ret2
  exact .inl ⟨HB.out, rfl, Below.refl _ _⟩
 case neg =>
 have HB : Hid (blk blocks lba = true) := by show _ = _; unfold blk; rw [decide_eq_true (show 0 ≤ lba by omega), decide_eq_true (show lba < blocks by omega)]; rfl
 obtain ⟨i0, hi, hz0, hz1, hz2⟩ := info_parts infoU8
 go_enter Tryz.func149, Tryz.ntmps149
 go_wp2_with (at_make; refine wpList_make_ref _ (by kernel_rfl) _ _ 30 rfl w.heap.size 5 i0 (.int .u8 0) 1 Tryz.underlying30 hi hz0 hz1 _ _ _ _ 40 rfl rfl rfl rfl (by rw [hz2]; omega) (by unfold maxLen; omega) (Nat.le_refl _) ?_; intro w1 hown hgrow)
 have HDM : Hid (BytesAt (New w w1) w1 (.slice (some ⟨w.heap.size, 0, none⟩) 40 40) zeroB) := bytesAt_row (B := w.heap.size) (l := zeroB) _ ⟨Nat.le_refl _, (hown.lt w.heap.size rfl).2⟩ (by decide) (Nat.le_refl _) (by omega) (by rw [made_u8] at hown; exact hown)
 have HBM : Hid (Below w.heap.size w w1) := (Below.refl _ _).grown hgrow (Nat.le_refl _) (fun j hj => by cases hj)
 clear hown hgrow hi hz0 hz1 hz2
 go_wp2_with fail
 go_loopw [8, 9, 10] (fun s8 s9 s10 wr => ∃ k : Nat, ∃ gp gc, k ≤ L.length ∧ s10 = .int .i64 k ∧ s9 = .int .i64 (getR (L.take k) lba t).2 ∧ s8 = .slice gp (getR (L.take k) lba t).1.length gc ∧ Hid (BytesAt (fun k => F k ∨ New w wr k) wr (.slice gp (getR (L.take k) lba t).1.length gc) (getR (L.take k) lba t).1) ∧ Hid (Below w.heap.size w wr)) (fun _ _ s10 _ => L.length - (intOf s10).toNat)
 case atStart => exact ⟨0, _, _, Nat.zero_le _, by go_num, rfl, rfl, BytesAt.mono HDM.out fun _ hk => .inr hk, HBM⟩
 case round =>
  obtain ⟨k, gp, gc, hk, rfl, rfl, rfl, HX, HW⟩ := hrel
  have m0 := cell_up HW.out c0
  have m1 := cell_up HW.out c1
  by_cases hkl : k < L.length
  case neg =>
   obtain rfl : k = L.length := by omega
   have hx := HX.out
   rw [List.take_length] at hx ⊢
   have HX2 := Lib.hid hx
   clear hx HX m0
   go_wp2
   go_ret2
   exact .inr ⟨HB.out, gp, gc, rfl, HX2, HW⟩
  case pos =>
   obtain ⟨g, dv, rfl, k0, k1, k2, _, _, hd⟩ := HC.out k hkl
   obtain ⟨dp, dc, rfl⟩ : ∃ dp dc, dv = .slice dp L[k].data.length dc := by obtain ⟨dp, dc, e, _⟩ := hd; exact ⟨dp, dc, e⟩
   have n0 := cell_up HW.out k0
   have n1 := cell_up HW.out k1
   have n2 := cell_up HW.out k2
   have HDD : Hid (BytesAt (fun k => F k ∨ New w wr k) wr (.slice dp L[k].data.length dc) L[k].data) := BytesAt.mono (BytesAt.up hd HW.out) fun q hq => .inl (HD.out q hq).1
   have htk : getR (L.take (k + 1)) lba t = if L[k].lba = lba ∧ L[k].time ≤ t then (L[k].data, L[k].time) else getR (L.take k) lba t := by rw [take_snoc L k hkl, getR_snoc]
   generalize hgr : getR (L.take k) lba t = gr at *
   have HTK := Lib.hid htk
   clear hgr htk k0 k1 k2 hd m0
   by_cases e1 : L[k].lba = lba
   case neg =>
    have hb : (L[k].lba == lba) = false := by rw [beq_eq_false_iff_ne]; exact e1
    have HR : Hid (getR (L.take (k + 1)) lba t = gr) := by show _ = _; rw [HTK.out, if_neg (fun hh => e1 hh.1)]
    clear e1
    go_wp2_with fail
    go_roundw
    case rel => exact ⟨k + 1, gp, gc, by omega, by go_num, by rw [HR.out], by rw [HR.out], by rw [HR.out]; exact HX, HW⟩
    case measure => simp [intOf]; omega
   case pos =>
   have hb : (L[k].lba == lba) = true := by rw [beq_iff_eq]; exact e1
   by_cases e2 : L[k].time ≤ t
   case neg =>
    have HR : Hid (getR (L.take (k + 1)) lba t = gr) := by show _ = _; rw [HTK.out, if_neg (fun hh => e2 hh.2)]
    clear e1
    go_wp2_with fail
    go_roundw
    case rel => exact ⟨k + 1, gp, gc, by omega, by go_num, by rw [HR.out], by rw [HR.out], by rw [HR.out]; exact HX, HW⟩
    case measure => simp [intOf]; omega
   case pos =>
    have HR : Hid (getR (L.take (k + 1)) lba t = (L[k].data, L[k].time)) := by show _ = _; rw [HTK.out, if_pos ⟨e1, e2⟩]
    clear e1
    go_wp2_with fail
    go_roundw
    case rel => exact ⟨k + 1, dp, dc, by omega, by go_num, by rw [HR.out], by rw [HR.out], by rw [HR.out]; exact HDD, HW⟩
    case measure => simp [intOf]; omega
end Go.Proofs
namespace Go.Proofs
open Go.RowKit Sc
theorem merge_put {t : Int} {p : Put} {ps : List Put} {v : RVer} {L : List RVer} (h : p.lba < v.lba) : mergeV t (p :: ps) (v :: L) = mkV t p :: mergeV t ps (v :: L) := by
 show ((p :: ps).takeWhile fun p => decide (p.lba < v.lba)).map (mkV t) ++ v :: mergeV t ((p :: ps).dropWhile fun p => decide (p.lba < v.lba)) L = _
 rw [List.takeWhile_cons_of_pos (by simpa using h), List.dropWhile_cons_of_pos (by simpa using h)]
 rfl
theorem merge_old {t : Int} {ps : List Put} {v : RVer} {L : List RVer} (h : ∀ p qs, ps = p :: qs → ¬ p.lba < v.lba) : mergeV t ps (v :: L) = v :: mergeV t ps L := by
 show (ps.takeWhile fun p => decide (p.lba < v.lba)).map (mkV t) ++ v :: mergeV t (ps.dropWhile fun p => decide (p.lba < v.lba)) L = _
 cases ps with
 | nil => rfl
 | cons p qs =>
  have hp := h p qs rfl
  rw [List.takeWhile_cons_of_neg (by simpa using hp), List.dropWhile_cons_of_neg (by simpa using hp)]
  rfl
theorem step_put {t : Int} {ps : List Put} {L : List RVer} {k i : Nat} (hk : k < ps.length) (h : i = L.length ∨ ∃ hi : i < L.length, ps[k].lba < L[i].lba) : mergeV t (ps.drop k) (L.drop i) = mkV t ps[k] :: mergeV t (ps.drop (k + 1)) (L.drop i) := by
 rw [List.drop_eq_getElem_cons hk]
 rcases h with rfl | ⟨hi, hlt⟩
 ·rw [List.drop_length]; rfl
 ·rw [List.drop_eq_getElem_cons hi]
  exact merge_put hlt
theorem step_old {t : Int} {ps : List Put} {L : List RVer} {k i : Nat} (hi : i < L.length) (h : k = ps.length ∨ ∃ hk : k < ps.length, ¬ ps[k].lba < L[i].lba) : mergeV t (ps.drop k) (L.drop i) = L[i] :: mergeV t (ps.drop k) (L.drop (i + 1)) := by
 rw [List.drop_eq_getElem_cons hi]
 refine merge_old fun p qs e => ?_
 rcases h with rfl | ⟨hk, hlt⟩
 ·rw [List.drop_length] at e; cases e
 ·rw [List.drop_eq_getElem_cons hk] at e
  cases e
  exact hlt
theorem merge_len (t : Int) : ∀ (L : List RVer) (ps : List Put), (mergeV t ps L).length = L.length + ps.length
 | [], ps => by show (ps.map (mkV t)).length = _; simp
 | v :: L, ps => by
  show ((ps.takeWhile fun p => decide (p.lba < v.lba)).map (mkV t) ++ v :: mergeV t (ps.dropWhile fun p => decide (p.lba < v.lba)) L).length = _
  have h := congrArg List.length (List.takeWhile_append_dropWhile (p := fun p : Put => decide (p.lba < v.lba)) (l := ps))
  rw [List.length_append] at h
  rw [List.length_append, List.length_map, List.length_cons, merge_len t L, List.length_cons]
  omega
theorem rise_no {ps : List Put} {i : Nat} (hi : i + 1 < ps.length) (h : ps[i + 1].lba ≤ ps[i].lba) : riseB ps = false := by
 cases hr : riseB ps with
 | false => rfl
 | true =>
  have := riseB_pairwise hr
  rw [List.pairwise_iff_getElem] at this
  have := this i (i + 1) (by omega) hi (by omega)
  omega
theorem rise_yes {ps : List Put} (h0 : 0 < ps.length) (h : ∀ j (hj : j + 1 < ps.length), ps[j].lba < ps[j + 1].lba) : riseB ps = true := by
 unfold riseB
 rw [Bool.and_eq_true, decide_eq_true_eq, List.all_eq_true]
 refine ⟨h0, fun i hi => ?_⟩
 have hi := List.mem_range.1 hi
 rw [decide_eq_true_eq]
 have e1 := lbaAt_get (show i < ps.length by omega)
 have e2 := lbaAt_get (show i + 1 < ps.length by omega)
 unfold lbaAt at e1 e2
 rw [← e1, ← e2]
 exact h i (by omega)
section
variable {blocks last : Int} {t : Tx}
theorem code_time (h : t.time ≤ last ∨ 1099511627776 < t.time) : applyCode blocks last t = 11 := if_pos h
theorem code_none (h : ¬ (t.time ≤ last ∨ 1099511627776 < t.time)) (h0 : t.puts.length = 0) : applyCode blocks last t = 1 := by
 unfold applyCode
 rw [if_neg h, if_pos]
 unfold riseB
 rw [h0]; rfl
theorem code_rise (h : ¬ (t.time ≤ last ∨ 1099511627776 < t.time)) (h0 : riseB t.puts = false) : applyCode blocks last t = 1 := by
 unfold applyCode
 rw [if_neg h, if_pos h0]
theorem code_out (h : ¬ (t.time ≤ last ∨ 1099511627776 < t.time)) (h0 : riseB t.puts = true) {i : Nat} (hi : i < t.puts.length) (ho : t.puts[i].lba < 0 ∨ blocks ≤ t.puts[i].lba) : applyCode blocks last t = 2 := by
 have hp := riseB_pairwise h0
 rw [List.pairwise_iff_getElem] at hp
 have hf : t.puts[0].lba ≤ t.puts[i].lba := by
  by_cases e : i = 0
  ·subst e; omega
  ·have := hp 0 i (by omega) hi (by omega); omega
 have hl : t.puts[i].lba ≤ (t.puts[t.puts.length - 1]'(by omega)).lba := by
  by_cases e : i = t.puts.length - 1
  ·subst e; omega
  ·have := hp i (t.puts.length - 1) hi (by omega) (by omega); omega
 unfold applyCode
 rw [if_neg h, if_neg (by rw [h0]; decide), if_pos]
 rw [← lbaAt_get (show 0 < t.puts.length by omega), ← lbaAt_get (show t.puts.length - 1 < t.puts.length by omega)]
 unfold blk
 rcases ho with ho | ho
 ·left
  simp only [Bool.and_eq_false_iff, decide_eq_false_iff_not]
  omega
 ·right
  simp only [Bool.and_eq_false_iff, decide_eq_false_iff_not]
  omega
theorem code_in (h0 : riseB t.puts = true) (hall : ∀ i (hi : i < t.puts.length), 0 ≤ t.puts[i].lba ∧ t.puts[i].lba < blocks) : ¬ (blk blocks (lbaAt t.puts 0) = false ∨ blk blocks (lbaAt t.puts (t.puts.length - 1)) = false) := by
 have hlen : 0 < t.puts.length := by
  have := h0
  unfold riseB at this
  rw [Bool.and_eq_true, decide_eq_true_eq] at this
  exact this.1
 rw [← lbaAt_get hlen, ← lbaAt_get (show t.puts.length - 1 < t.puts.length by omega)]
 have h1 := hall 0 hlen
 have h2 := hall (t.puts.length - 1) (by omega)
 unfold blk
 rw [decide_eq_true h1.1, decide_eq_true h1.2, decide_eq_true h2.1, decide_eq_true h2.2]
 simp
theorem code_len (h : ¬ (t.time ≤ last ∨ 1099511627776 < t.time)) (h0 : riseB t.puts = true) (hall : ∀ i (hi : i < t.puts.length), 0 ≤ t.puts[i].lba ∧ t.puts[i].lba < blocks) {i : Nat} (hi : i < t.puts.length) (hl : t.puts[i].data.length ≠ 40) : applyCode blocks last t = 3 := by
 unfold applyCode
 rw [if_neg h, if_neg (by rw [h0]; decide), if_neg (code_in h0 hall), if_pos]
 rw [List.any_eq_true]
 exact ⟨_, List.getElem_mem hi, by simpa using hl⟩
theorem code_ok (h : ¬ (t.time ≤ last ∨ 1099511627776 < t.time)) (h0 : riseB t.puts = true) (hall : ∀ i (hi : i < t.puts.length), 0 ≤ t.puts[i].lba ∧ t.puts[i].lba < blocks) (hl : ∀ i (hi : i < t.puts.length), t.puts[i].data.length = 40) : applyCode blocks last t = 0 := by
 unfold applyCode
 rw [if_neg h, if_neg (by rw [h0]; decide), if_neg (code_in h0 hall), if_neg]
 rw [Bool.not_eq_true, List.any_eq_false]
 intro p hp
 obtain ⟨i, hi, rfl⟩ := List.mem_iff_getElem.1 hp
 simp [hl i hi]
end
end Go.Proofs
namespace Sc
open Go Go.RowKit
section
variable {P : Program} (w : World)
end
theorem owns_empty (w : World) (T k : Nat) : (w.alloc (.cells #[] T (0, 0))).ownsRow w.heap.size T k (.slice (some ⟨w.heap.size, 0, none⟩) 0 0) 0 [] :=
 ⟨by simp, .inr ⟨w.heap.size, 0, #[], rfl, Nat.le_refl _, heap_alloc_new w _, Nat.le_refl _, by unfold maxLen; omega, by simp, by simp⟩⟩
end Sc
namespace Sc
open Go Go.RowKit
theorem wp_append_run {P : Program} {w : World} {o : Oper} {a : Act} {K : Act → World → Prop} {Q : Exit → Act → World → Prop} (s x : Operand) (t : TypeId)
  (ho : o.op = .call { callee := .builtin .append, args := #[s, x], argTypes := #[t, t] }) {v u : Value} (hs : a.eval s = v) (hx : a.eval x = u) {v' : Value} {w' : World}
  (hr : (Builtin.append_ #[t, t] o.type #[v, u]).run P w = .ok v' w') (h : K (a.put o.dst v') w') : Oper.wp P o a w K Q := by
 unfold Oper.wp execOp
 simp only [ho, resolve, invoke, builtin, Sem.run_bind, Sem.run_pure, Result.andThen_ok, List.map_toArray, List.map_cons, List.map_nil, hs, hx, hr]
 exact h
end Sc
namespace Sc
open Go Go.RowKit
theorem wpList_append_run {P : Program} {w : World} {ops : Array Oper} {rest : List Oper} {o : Oper} {a : Act} {Q : Exit → Act → World → Prop} (hgd : o.guard = none) (s x : Operand) (t : TypeId)
  (ho : o.op = .call { callee := .builtin .append, args := #[s, x], argTypes := #[t, t] }) {v u : Value} (hs : a.eval s = v) (hx : a.eval x = u) {v' : Value} {w' : World}
  (hr : (Builtin.append_ #[t, t] o.type #[v, u]).run P w = .ok v' w') (h : wpList P ops Q rest (a.put o.dst v') w') : wpList P ops Q (o :: rest) a w :=
 wpList_plain hgd fun _ hK => wp_append_run s x t ho hs hx hr (hK _ _ h)
theorem Sep.row_push {P : Program} {W w : World} {L : List Asn} (h : Sep W L w) (i : Nat) {T k n : Nat} {v : Value} {xs : List Value} (hi : L[i]? = some (RowA T k v n xs))
  (t ty : TypeId) (ii : TypeInfo) (z : Value) (bytes : Nat) (ht : P.underlying t = some (.slice T)) (hii : P.info? T = some ii) (hz : ii.zero = some z) (hsize : ii.size = k) (hby : ii.bytes = bytes) (hzs : z.cells.size = k) (hsz : 0 < k)
  {cs : Array Value} (hcs : cs.toList.length = k) (h1 : ∀ u ∈ cs.toList, u.oneCell' = true) (h63 : n + 1 ≤ maxLen) (hbytes : (n + 1) * bytes ≤ 140737488355328) (B : Nat) (hB : w.heap.size = B) :
  ∃ g cap w', (Builtin.append_ #[t, t] ty #[v, .slice (some ⟨B, 0, none⟩) 1 1]).run P (w.alloc (.cells cs T (0, 0))) = .ok (.slice (some ⟨g, 0, none⟩) (n + 1) cap) w' ∧
   Sep W (L.set i (RowA T k (.slice (some ⟨g, 0, none⟩) (n + 1) cap) (n + 1) (xs ++ cs.toList))) w' := by
 subst hB
 obtain ⟨F, hF, hdF⟩ := h.get i hi
 have hb := below_alloc w (.cells cs T (0, 0))
 have hown : (w.alloc (.cells cs T (0, 0))).ownsRow 0 T k v n xs := row_same (fun q hq => hb.block q (hdF q hq)) hF.1 hF.2
 obtain ⟨v', w', hr, ho, hg, hn, hat⟩ := run_append_own_at (P := P) (w.alloc (.cells cs T (0, 0))) 0 t ty T ii z k bytes ht hii hz hsize hby hzs hsz v n xs hown ⟨w.heap.size, 0, none⟩ 1 1 cs.toList (by rw [hcs, Nat.one_mul]) (World.news_of_block (cs := cs) (heap_alloc_new w _)) h1 h63 hbytes (Nat.zero_le _)
 have hlt := ho.lt
 obtain ⟨hx, ⟨rfl, h0⟩ | ⟨g, cap, cur, rfl, hrest⟩⟩ := ho
 ·exact absurd h0 (by omega)
 ·refine ⟨g, cap, w', hr, h.row_app i hi hb ⟨hx, .inr ⟨g, cap, cur, rfl, hrest⟩⟩ hg (H := w.heap.size + 1) ?_ (by simp) (hlt g rfl).2⟩
  rcases hat with e | e
  ·exact .inl e.symm
  ·refine .inr ?_
   simpa [Value.ownBlock] using e
end Sc
namespace Sc
open Go Go.RowKit
section
variable {P : Program}
theorem run_append_nil0 (w : World) (t ty e : TypeId) (i : TypeInfo) (ht : P.underlying t = some (.slice e)) (hi : P.info? e = some i) (p : Option Addr) (n c : Nat) (hn : n ≤ c) :
  (Builtin.append_ #[t, t] ty #[.slice p n c, .slice none 0 0]).run P w = .ok (.slice p n c) w := by
 cases p with
 | none => simp [Builtin.append_, run_underlying ht, Go.sizeOf, typeInfo, hi, Builtin.lenOf, Builtin.firstCells, hn]
 | some a => simp [Builtin.append_, run_underlying ht, Go.sizeOf, typeInfo, hi, Builtin.lenOf, Builtin.firstCells, hn, storeCells]
theorem run_append_any0 (w : World) (t ty : TypeId) (base : Nat) (e : TypeId) (i : TypeInfo) (z : Value) (size bytes : Nat) (ht : P.underlying t = some (.slice e)) (hi : P.info? e = some i) (hz : i.zero = some z)
  (hsize : i.size = size) (hby : i.bytes = bytes) (hzs : z.cells.size = size) (hsz : 0 < size)
  (v : Value) (n : Nat) (xs : List Value) (hown : w.ownsRow base e size v n xs) (p : Option Addr) (m c : Nat) (hp : p = none → m = 0 ∧ c = 0) (news : List Value) (hl : news.length = m * size)
  (hnews : ∀ a, p = some a → ∀ j u, news[j]? = some u → w.cell? (a.add j) = some u) (h1 : ∀ u ∈ news, u.oneCell' = true) (h63 : n + m ≤ maxLen) (hbytes : (n + m) * bytes ≤ 140737488355328) (hbase : base ≤ w.heap.size) :
  ∃ v' w', (Builtin.append_ #[t, t] ty #[v, .slice p m c]).run P w = .ok v' w' ∧ w'.ownsRow base e size v' (n + m) (xs ++ news) ∧ w.grownBy w' v.ownBlock ∧ (v'.ownBlock = v.ownBlock ∨ v'.ownBlock = some w.heap.size) := by
 cases p with
 | some a =>
  obtain ⟨v', w', h1, h2, h3, _, h5⟩ := run_append_own_at (P := P) w base t ty e i z size bytes ht hi hz hsize hby hzs hsz v n xs hown a m c news hl (hnews a rfl) h1 h63 hbytes hbase
  exact ⟨v', w', h1, h2, h3, h5⟩
 | none =>
  obtain ⟨rfl, rfl⟩ := hp rfl
  have hnil : news = [] := List.length_eq_zero_iff.1 (by omega)
  subst hnil
  obtain ⟨hx, hc | ⟨g, cap, cur, rfl, hb, hg, hnc, hcm, hcs, htake⟩⟩ := id hown
  ·obtain ⟨rfl, rfl⟩ := hc
   exact ⟨_, w, run_append_nil0 w t ty e i ht hi none 0 0 (Nat.le_refl _), by simpa using hown, ⟨rfl, rfl, rfl, Nat.le_refl _, fun _ _ _ => rfl⟩, .inl rfl⟩
  ·exact ⟨_, w, run_append_nil0 w t ty e i ht hi _ n cap hnc, by simpa using hown, ⟨rfl, rfl, rfl, Nat.le_refl _, fun _ _ _ => rfl⟩, .inl rfl⟩
end
end Sc
namespace Sc
open Go Go.RowKit
theorem OutS.push {P : Program} {α : Type} {T k : Nat} {R : (Nat → Prop) → World → List Value → α → Prop} (hR : RStable R) {B : Nat} {w : World} {v : Value} {l : List α} {D D3 : Nat → Prop} (h : OutS T k R B w v l D)
  (t ty : TypeId) (i : TypeInfo) (z : Value) (bytes : Nat) (ht : P.underlying t = some (.slice T)) (hi : P.info? T = some i) (hz : i.zero = some z) (hsize : i.size = k) (hby : i.bytes = bytes) (hzs : z.cells.size = k) (hsz : 0 < k)
  {cs : List Value} {x : α} (hcs : cs.length = k) (hx : R D3 w cs x) (h3 : ∀ b, D3 b → B ≤ b ∧ b < w.heap.size ∧ v.ownBlock ≠ some b) (ad : Addr) (c : Nat) (hc : ∀ j u, cs[j]? = some u → w.cell? (ad.add j) = some u) (h1 : ∀ u ∈ cs, u.oneCell' = true)
  (h63 : l.length + 1 ≤ maxLen) (hbytes : (l.length + 1) * bytes ≤ 140737488355328) (hbase : B ≤ w.heap.size) :
  ∃ g cap w', (Builtin.append_ #[t, t] ty #[v, .slice (some ad) 1 c]).run P w = .ok (.slice (some ⟨g, 0, none⟩) (l.length + 1) cap) w' ∧
   OutS T k R B w' (.slice (some ⟨g, 0, none⟩) (l.length + 1) cap) (l ++ [x]) (fun b => D b ∨ D3 b) ∧ w.grownBy w' v.ownBlock ∧ (∀ b, v.ownBlock = some b → B ≤ b) ∧ l.length + 1 ≤ cap := by
 obtain ⟨css, q1, q2, q3, q4, q5⟩ := h
 obtain ⟨v', w', hr, ho, hg, hn, hat⟩ := run_append_own_at (P := P) w B t ty T i z k bytes ht hi hz hsize hby hzs hsz v l.length css.flatten q3 ad 1 c cs (by rw [hcs, Nat.one_mul]) hc h1 h63 hbytes hbase
 have hlt := q3.lt
 obtain ⟨_, ⟨rfl, h0⟩ | ⟨g, cap, cur, rfl, hrest⟩⟩ := ho
 ·exact absurd h0 (by omega)
 ·refine ⟨g, cap, w', hr, ?_, hg, fun b hb => (hlt b hb).1, hrest.2.2.1⟩
  refine OutS.snoc hR q1 q2 q4 q5 hcs hx h3 ⟨by assumption, .inr ⟨g, cap, cur, rfl, hrest⟩⟩ hg ?_
  rcases hat with e | e
  ·exact .inl e.symm
  ·refine .inr ?_
   simpa [Value.ownBlock] using e
def txR (D : Nat → Prop) (w : World) (cs : List Value) (x : Tx) : Prop := ∃ pv, cs = [.int .i64 x.time, pv] ∧ I64 x.time ∧ PutsAt D w pv x.puts
theorem txR_stable : RStable txR := fun _D _D' _w _w' _cs _x hd hs ⟨pv, h1, h2, h3⟩ => ⟨pv, h1, h2, (h3.same hs).mono hd⟩
theorem OutS.txs {T : Nat} {B : Nat} {w : World} {v : Value} {l : List Tx} {D : Nat → Prop} {G : Nat → Prop} (h : OutS T 2 txR B w v l D) (hG : ∀ b, B ≤ b → b < w.heap.size → G b) : TxsAt G w v l := by
 have hD : ∀ b, D b → G b := by obtain ⟨_, _, _, _, _, h5⟩ := h; exact fun b hb => hG b (h5 b hb).1 (h5 b hb).2.1
 refine h.slAt hG fun b o cs x hl hc _ ⟨pv, he, hi, hd⟩ => ?_
 subst he
 exact ⟨by first | (simp; done) | (have := hc 0 (by omega); simpa using this), hi, pv, by first | (simp; done) | (have := hc 1 (by omega); simpa using this), hd.mono hD⟩
end Sc
namespace Go.Proofs
open Go.RowKit Sc
theorem RMapIs.mono {F F' : Nat → Prop} {w : World} {v : Value} {blocks last : Int} {L : List RVer} (h : RMapIs F w v blocks last L) (hF : ∀ k, F k → F' k) : RMapIs F' w v blocks last L :=
 let ⟨b, lv, D, h1, h2, h3, h4, h5, h6⟩ := h
 ⟨b, lv, D, h1, hF _ h2, h3, h4, fun g hg => ⟨hF _ (h5 g hg).1, (h5 g hg).2⟩, fun q hq => ⟨hF _ (h6 q hq).1, (h6 q hq).2⟩⟩
def RMapSaid (F : Nat → Prop) (v : Value) (blocks last : Int) (L : List RVer) (t : Tx) (w : World) (e : Ending) (w' : World) : Prop :=
 e = .returned (.int .i64 (applyCode blocks last t)) ∧ Chg F w w' ∧ RMapIs (fun k => F k ∨ New w w' k) w' v blocks (applyLast blocks last t) (if applyCode blocks last t = 0 then mergeV t.time t.puts L else L)
theorem rmap_fail {F : Nat → Prop} {v : Value} {blocks last c : Int} {L : List RVer} {t : Tx} {w w' : World} (hm : RMapIs F w v blocks last L) (hd : Dom F w) (hb : Below w.heap.size w w') (hc : applyCode blocks last t = c) (h0 : c ≠ 0) : RMapSaid F v blocks last L t w (.returned (.int .i64 c)) w' := by
 refine ⟨by rw [hc], Chg.of_below hb (fun k h1 h2 => by omega), ?_⟩
 unfold applyLast
 rw [hc, if_neg h0, if_neg h0]
 exact (hm.same (fun k hk => hb.block k (hd k hk)) hb.size).mono fun k hk => .inl hk
theorem infoVerR : (Tryz.prog.info? 161).map (fun i => (i.zero, i.size, i.bytes)) = some (some (.agg #[.int .i64 0, .int .i64 0, .slice none 0 0]), 3, 40) := by kernel_rfl
theorem bytes_pushM {G : Nat → Prop} {W : World} {p : Option Addr} {c : Nat} {d : Bytes} (h : BytesAt G W (.slice p d.length c) d) (hl : d.length ≤ 100000) {B k : Nat} (hk : W.ownsRow B 5 1 (.slice (some ⟨k, 0, none⟩) 0 0) 0 []) (hB : B ≤ W.heap.size) :
  ∃ p' c' w', (Builtin.append_ #[30, 30] 30 #[.slice (some ⟨k, 0, none⟩) 0 0, .slice p d.length c]).run Tryz.prog W = .ok (.slice p' d.length c') w' ∧ Hid (w'.ownsRow B 5 1 (.slice p' d.length c') d.length (d.map fun x => .int .u8 (x.toNat : Int))) ∧ Hid (W.grownBy w' (some k)) := by
 obtain ⟨i0, hi, hz0, hz1, hz2⟩ := info_parts infoU8
 obtain ⟨p0, c0, he, a1, a2, a3, a4⟩ := h
 cases he
 obtain ⟨v', w', hr, h2, h3, h4⟩ := run_append_any0 (P := Tryz.prog) W 30 30 B 5 i0 (.int .u8 0) 1 1 Tryz.underlying30 hi hz0 hz1 hz2 rfl (by decide) _ 0 [] hk p d.length c (fun hp => by have := a3 hp; omega) (d.map fun x => .int .u8 (x.toNat : Int)) (by simp)
  (fun a ha j u hj => by
    subst ha
    simp only [List.getElem?_map, Option.map_eq_some_iff] at hj
    obtain ⟨x, hx, rfl⟩ := hj
    obtain ⟨hjl, rfl⟩ := List.getElem?_eq_some_iff.1 hx
    obtain ⟨b, o, hp, _, he⟩ := a4 j hjl
    cases hp
    unfold byteE at he
    rw [Nat.mul_one] at he
    have hadd : (⟨b, o, none⟩ : Addr).add j = ⟨b, o + j, none⟩ := by unfold Addr.add; split <;> simp_all
    rw [hadd]; exact he)
  (fun u hu => by obtain ⟨z, _, rfl⟩ := List.mem_map.1 hu; rfl) (by unfold maxLen; omega) (by omega) hB
 rw [Nat.zero_add, List.nil_append] at h2
 have hs : ∃ p' c', v' = .slice p' d.length c' := by
  obtain ⟨_, ⟨rfl, h0⟩ | ⟨g, cap, _, rfl, _⟩⟩ := h2
  ·exact ⟨none, 0, by rw [h0]⟩
  ·exact ⟨_, _, rfl⟩
 obtain ⟨p', c', rfl⟩ := hs
 exact ⟨p', c', w', hr, h2, h3⟩
def NlIs (B : Nat) (w : World) (D : Nat → Prop) (v : Value) (nl : List RVer) : Prop :=
 ∃ D2, OutS 161 3 verR 0 w v nl D2 ∧ (∀ g, v.ownBlock = some g → B ≤ g) ∧ ∀ q, D2 q → D q ∨ B ≤ q
theorem NlIs.nil {B : Nat} {w : World} {D : Nat → Prop} : NlIs B w D (.slice none 0 0) [] := ⟨_, OutS.nil, fun g hg => by simp [Value.ownBlock] at hg, fun q h => h.elim⟩
theorem NlIs.up {B : Nat} {w w' : World} {D : Nat → Prop} {v : Value} {nl : List RVer} (h : NlIs B w D v nl) (hb : Below w.heap.size w w') : NlIs B w' D v nl :=
 let ⟨D2, h1, h2, h3⟩ := h
 ⟨D2, h1.up verR_stable hb, h2, h3⟩
set_option maxRecDepth 100000 in
theorem nl_push {B : Nat} {W : World} {D D3 : Nat → Prop} {v : Value} {nl : List RVer} (h : NlIs B W D v nl) (hB : B ≤ W.heap.size) {cs : List Value} {x : RVer} (hcs : cs.length = 3) (hx : verR D3 W cs x) (h3 : ∀ b, D3 b → b < W.heap.size ∧ v.ownBlock ≠ some b ∧ (D b ∨ B ≤ b))
  (ad : Addr) (c : Nat) (hc : ∀ j u, cs[j]? = some u → W.cell? (ad.add j) = some u) (h1 : ∀ u ∈ cs, u.oneCell' = true) (hn : nl.length ≤ 3000000) :
  ∃ g cap w', (Builtin.append_ #[145, 145] 145 #[v, .slice (some ad) 1 c]).run Tryz.prog W = .ok (.slice (some ⟨g, 0, none⟩) (nl.length + 1) cap) w' ∧
   Hid (NlIs B w' D (.slice (some ⟨g, 0, none⟩) (nl.length + 1) cap) (nl ++ [x])) ∧ Hid (Below B W w') := by
 obtain ⟨i0, hi, hz0, hz1, hz2⟩ := info_parts infoVerR
 obtain ⟨D2, ⟨css, q1, q2, q3, q4, q5⟩, hv, hD2⟩ := h
 obtain ⟨v', w', hr, ho, hg, hne, hat⟩ := run_append_own_at (P := Tryz.prog) W 0 145 145 161 i0 (.agg #[.int .i64 0, .int .i64 0, .slice none 0 0]) 3 40 Tryz.underlying145 hi hz0 hz1 hz2 rfl (by decide) v nl.length css.flatten q3 ad 1 c cs (by rw [hcs]) hc h1 (by unfold maxLen; omega) (by omega) (Nat.zero_le _)
 have hlt := q3.lt
 obtain ⟨_, ⟨rfl, h0⟩ | ⟨g, cap, cur, rfl, hrest⟩⟩ := ho
 ·exact absurd h0 (by omega)
 ·have hat' : v.ownBlock = some g ∨ g = W.heap.size := by
   rcases hat with e | e
   ·exact .inl e.symm
   ·exact .inr (by simpa [Value.ownBlock] using e)
  refine ⟨g, cap, w', hr, ⟨_, OutS.snoc verR_stable q1 q2 q4 q5 hcs hx (fun b hb => ⟨Nat.zero_le _, (h3 b hb).1, (h3 b hb).2.1⟩) ⟨by assumption, .inr ⟨g, cap, cur, rfl, hrest⟩⟩ hg hat', fun g' hg' => ?_, fun q hq => hq.elim (hD2 q) fun h => (h3 q h).2.2⟩, (Below.refl B W).grown hg hB hv⟩
  have e' : g = g' := by simpa [Value.ownBlock] using hg'
  subst e'
  rcases hat' with e | e
  ·exact hv _ e
  ·omega
theorem rmap_done {F D : Nat → Prop} {b : Nat} {blocks last : Int} {lv nv : Value} {L M : List RVer} {t : Tx} {w W0 wr : World} (hF : F b) (hd : Dom F w) (hh : w.heap[b]? = some (.cells #[.int .i64 blocks, lv, .int .i64 last] 147 (0, 0))) (hD : ∀ q, D q → F q ∧ q ≠ b)
  (hW0 : Below w.heap.size w W0) (hb : Below W0.heap.size W0 wr) (hn : NlIs W0.heap.size wr D nv M) (hc : applyCode blocks last t = 0) (hM : M = mergeV t.time t.puts L) :
  RMapSaid F (.pointer (some ⟨b, 0, none⟩)) blocks last L t w (.returned (.int .i64 0)) ((wr.setCell ⟨b, 1, none⟩ nv).setCell ⟨b, 2, none⟩ (.int .i64 t.time)) := by
 have hbl := hd b hF
 have hwr := Below.up hW0 hb
 have hz1 := hwr.size
 have hz0 := hW0.size
 have hz2 := hb.size
 have hz : ((wr.setCell ⟨b, 1, none⟩ nv).setCell ⟨b, 2, none⟩ (.int .i64 t.time)).heap.size = wr.heap.size := by simp [World.setCell]
 have hhr : wr.heap[b]? = _ := (hwr.block b hbl).trans hh
 have hs : Same (fun q => q ≠ b) wr ((wr.setCell ⟨b, 1, none⟩ nv).setCell ⟨b, 2, none⟩ (.int .i64 t.time)) := fun q hq => (Below.heap_setCell _ _ _ q hq).trans (Below.heap_setCell _ _ _ q hq)
 refine ⟨by rw [hc], ((Chg.of_below hwr fun k h1 h2 => by omega).trans (chg_set wr b 1 _ hF)).trans (chg_set _ b 2 _ hF), ?_⟩
 unfold applyLast
 rw [hc, if_pos rfl, if_pos rfl, ← hM]
 obtain ⟨D2, h1, h2, h3⟩ := hn
 have hlt := h1.own.choose_spec.lt
 obtain ⟨_, _, _, _, _, h5⟩ := id h1
 refine ⟨b, nv, D2, rfl, .inl hF, ?_, h1.same verR_stable hs (by rw [hz]; exact Nat.le_refl _) (fun g hg => by have := h2 g hg; omega) (fun q hq e => ?_), fun g hg => ⟨.inr ⟨by have := h2 g hg; omega, by rw [hz]; exact (hlt g hg).2⟩, by have := h2 g hg; omega⟩, fun q hq => ?_⟩
 ·rw [heap_set_same (heap_set_same hhr _)]; rfl
 ·rcases h3 q hq with h | h
  ·exact (hD q h).2 e
  ·omega
 ·rcases h3 q hq with h | h
  ·exact ⟨.inl (hD q h).1, (hD q h).2⟩
  ·exact ⟨.inr ⟨by omega, by rw [hz]; exact (h5 q hq).2.1⟩, by omega⟩
end Go.Proofs
namespace Sc
open Go Go.RowKit
def putGo : Int → Int → Bool → List Ext → List Ext
 | f, e, d, [] => if d then [] else [⟨f, e - f⟩]
 | f, e, d, x :: l => if x.first + x.len < f then x :: putGo f e d l else if e < x.first then (if d then [] else [⟨f, e - f⟩]) ++ x :: putGo f e true l else putGo (min f x.first) (max e (x.first + x.len)) d l
def putX (l : List Ext) (x : Ext) : List Ext := putGo x.first (x.first + x.len) false l
theorem putGo_true {f e : Int} (hf : f ≤ e) : ∀ {l : List Ext}, (∀ y ∈ l, 1 ≤ y.len) → (∀ y ∈ l, e < y.first) → putGo f e true l = l
 | [], _, _ => rfl
 | x :: l, h1, h2 => by
  have a := h1 x (by simp)
  have b := h2 x (by simp)
  unfold putGo
  rw [if_neg (by omega), if_pos b, putGo_true hf (fun y hy => h1 y (by simp [hy])) (fun y hy => h2 y (by simp [hy]))]
  rfl
theorem putGo_good : ∀ (l : List Ext) (f e : Int), Canon l → f < e →
  Canon (putGo f e false l) ∧ (∀ x, cov (putGo f e false l) x ↔ (f ≤ x ∧ x < e) ∨ cov l x) ∧ (∀ z ∈ putGo f e false l, ∀ m, m < f → (∀ y ∈ l, m < y.first) → m < z.first) ∧ (putGo f e false l).length ≤ l.length + 1
 | [], f, e, _, hf => by
  have hg : putGo f e false [] = [⟨f, e - f⟩] := rfl
  rw [hg]
  refine ⟨Canon.mk1 (by simp only; omega), fun x => ?_, fun z hz m hm _ => ?_, by simp⟩
  ·rw [cov_cons]
   have := cov_nil x
   constructor
   ·rintro (h | h)
    ·exact .inl (by simp only at h; omega)
    ·exact absurd h this
   ·rintro (h | h)
    ·exact .inl ⟨h.1, by simp only; omega⟩
    ·exact absurd h this
  ·rw [List.mem_singleton] at hz; subst hz; exact hm
 | x :: l, f, e, hc, hf => by
  obtain ⟨h1, h2, h3⟩ := hc.cons
  unfold putGo
  by_cases hA : x.first + x.len < f
  ·rw [if_pos hA]
   obtain ⟨i1, i2, i3, i4⟩ := putGo_good l f e h3 hf
   refine ⟨⟨fun y hy => ?_, List.pairwise_cons.2 ⟨fun z hz => i3 z hz _ hA h2, i1.2⟩⟩, fun y => ?_, fun z hz m hm hy => ?_, by simp; omega⟩
   ·rcases List.mem_cons.1 hy with rfl | hy
    ·exact h1
    ·exact i1.1 y hy
   ·rw [cov_cons, i2, cov_cons]
    exact ⟨fun h => h.elim (fun h => .inr (.inl h)) fun h => h.elim .inl fun h => .inr (.inr h), fun h => h.elim (fun h => .inr (.inl h)) fun h => h.elim .inl fun h => .inr (.inr h)⟩
   ·rcases List.mem_cons.1 hz with rfl | hz
    ·exact hy _ (by simp)
    ·exact i3 z hz m hm fun y h => hy y (by simp [h])
  ·rw [if_neg hA]
   by_cases hB : e < x.first
   ·rw [if_pos hB, putGo_true (by omega) h3.1 fun y hy => by have := h2 y hy; omega]
    simp only [Bool.false_eq_true, if_false, List.singleton_append]
    refine ⟨⟨fun y hy => ?_, ?_⟩, fun y => ?_, fun z hz m hm hy => ?_, by simp⟩
    ·rcases List.mem_cons.1 hy with rfl | hy
     ·simp only; omega
     ·exact hc.1 y hy
    ·refine List.pairwise_cons.2 ⟨fun y hy => ?_, hc.2⟩
     rcases List.mem_cons.1 hy with rfl | hy
     ·simp only; omega
     ·have := h2 y hy; simp only; omega
    ·rw [cov_cons]
     constructor
     ·rintro (h | h)
      ·exact .inl (by simp only at h; omega)
      ·exact .inr h
     ·rintro (h | h)
      ·exact .inl ⟨h.1, by simp only; omega⟩
      ·exact .inr h
    ·rcases List.mem_cons.1 hz with rfl | hz
     ·exact hm
     ·exact hy z hz
   ·rw [if_neg hB]
    obtain ⟨i1, i2, i3, i4⟩ := putGo_good l (min f x.first) (max e (x.first + x.len)) h3 (by omega)
    refine ⟨i1, fun y => ?_, fun z hz m hm hy => ?_, by simp; omega⟩
    ·rw [i2, cov_cons]
     constructor
     ·rintro (h | h)
      ·by_cases hy : f ≤ y ∧ y < e
       ·exact .inl hy
       ·exact .inr (.inl (by omega))
      ·exact .inr (.inr h)
     ·rintro (h | h | h)
      ·exact .inl (by omega)
      ·exact .inl (by omega)
      ·exact .inr h
    ·exact i3 z hz m (by have := hy x (by simp); omega) fun y h => hy y (by simp [h])
theorem putX_good {l : List Ext} {x : Ext} (hc : Canon l) (hx : 1 ≤ x.len) : Canon (putX l x) ∧ (∀ y, cov (putX l x) y ↔ cov l y ∨ (x.first ≤ y ∧ y < x.first + x.len)) ∧ (putX l x).length ≤ l.length + 1 := by
 obtain ⟨h1, h2, _, h4⟩ := putGo_good l x.first (x.first + x.len) hc (by omega)
 exact ⟨h1, fun y => (h2 y).trans Or.comm, h4⟩
theorem putAll {l0 : List Ext} (hc : Canon l0) (h0 : ∀ e ∈ l0, Oke e) (l : List Ext) (hl : ∀ e ∈ l, Oke e) : l.foldl putX l0 = normE (l0 ++ l) := by
 have key : ∀ (l l0 : List Ext), Canon l0 → (∀ e ∈ l, 1 ≤ e.len) → Canon (l.foldl putX l0) ∧ ∀ y, cov (l.foldl putX l0) y ↔ cov (l0 ++ l) y := by
  intro l
  induction l with
  | nil => intro l0 hc _; exact ⟨hc, fun y => by rw [List.append_nil]; exact Iff.rfl⟩
  | cons x l ih =>
   intro l0 hc hl
   obtain ⟨h1, h2, _⟩ := putX_good hc (hl x (by simp))
   obtain ⟨g1, g2⟩ := ih (putX l0 x) h1 fun e he => hl e (by simp [he])
   refine ⟨g1, fun y => ?_⟩
   show cov (l.foldl putX (putX l0 x)) y ↔ _
   rw [g2, cov_append, cov_append, cov_cons, h2]
   exact or_assoc
 obtain ⟨k1, k2⟩ := key l l0 hc fun e he => (hl e he).2.2.1
 exact (normE_ext (fun e he => (List.mem_append.1 he).elim (fun h => (h0 e h).2.2.1) fun h => (hl e h).2.2.1) k1 k2).symm
end Sc
namespace Go.Proofs
open Go.RowKit Sc
set_option maxHeartbeats 400000 in
theorem refMayE_any (x : Ext) (w : World) (h1 : I64 x.first) (h2 : I64 x.len) : Calls Tryz.prog 167 #[extV x] w fun e w' => e = .returned (.bool (mayB x)) ∧ Below w.heap.size w w' := by
 unfold I64 at h1 h2
 cases hq : mayB x with
 | true =>
  obtain ⟨a1, a2, a3, a4, a5⟩ := mayB_iff.1 hq
  have a6 : x.first ≤ 1048577 - x.len := by omega
  have HQ := Lib.hid hq
  clear hq
  go_enter Tryz.func167, Tryz.ntmps167
  go_wp2
  go_ret
  refine ⟨congrArg boolRet ?_, below_alloc _ _⟩
  first | rfl | (simp; omega)
 | false =>
  have h := mayB_no.1 hq
  rcases (show x.first < 0 ∨ (0 ≤ x.first ∧ 1048576 < x.first) ∨ (0 ≤ x.first ∧ x.first ≤ 1048576 ∧ x.len < 1) ∨ (0 ≤ x.first ∧ x.first ≤ 1048576 ∧ 1 ≤ x.len ∧ 1048576 < x.len) ∨ (0 ≤ x.first ∧ x.first ≤ 1048576 ∧ 1 ≤ x.len ∧ x.len ≤ 1048576 ∧ 1048577 - x.len < x.first) by omega) with a | ⟨a1, a⟩ | ⟨a1, a2, a⟩ | ⟨a1, a2, a3, a⟩ | ⟨a1, a2, a3, a4, a⟩
  all_goals
   clear h
   have HQ := Lib.hid hq
   clear hq
   go_enter Tryz.func167, Tryz.ntmps167
   go_wp2
   go_ret
   refine ⟨congrArg boolRet ?_, below_alloc _ _⟩
   first | rfl | (simp; omega)
theorem putGo_step {f e : Int} {d : Bool} {l : List Ext} {k : Nat} (h : k < l.length) : putGo f e d (l.drop k) = if l[k].first + l[k].len < f then l[k] :: putGo f e d (l.drop (k + 1)) else if e < l[k].first then (if d then [] else [⟨f, e - f⟩]) ++ l[k] :: putGo f e true (l.drop (k + 1)) else putGo (min f l[k].first) (max e (l[k].first + l[k].len)) d (l.drop (k + 1)) := by
 rw [List.drop_eq_getElem_cons h]; rfl
theorem flatE_more (a : List Ext) (x n : Int) : flatE (a ++ [⟨x, n⟩]) = flatE a ++ [.int .i64 x, .int .i64 n] := by rw [flatE_append]; rfl
def NewRowE (l : List Ext) (w : World) (e : Ending) (w' : World) : Prop := ∃ v, e = .returned v ∧ w'.ownsRow w.heap.size 56 2 v l.length (flatE l) ∧ Below w.heap.size w w'
set_option maxRecDepth 100000 in
set_option maxHeartbeats 4000000 in
theorem refPut_any (G : Nat → Prop) (vl : Value) (l : List Ext) (e : Ext) (w : World) (hv : ExtsAt G w vl l) (hok : ∀ x ∈ l, Oke x) (he : Oke e) (hl : l.length ≤ 100000) :
  Calls Tryz.prog 168 #[vl, extV e] w (NewRowE (putX l e) w) := by
 obtain ⟨p, c, rfl⟩ := extsAt_shape hv
 obtain ⟨e1, e2, e3, e4⟩ := he
 have hfw : IntKind.i64.wrap (e.first + e.len) = e.first + e.len := IntWalk.i64_in _ (by omega)
 have hS0 := ((Sep.start w).up (below_alloc w (.cells #[.int .i64 e.first, .int .i64 e.len] 56))).new (Below.refl _ _) (OutEA (.slice none 0 0) []) (F := fun _ => False) (fun _ h => h.elim) ⟨World.ownsRow_nil _ _ _ _, by simp [Value.ownBlock]⟩
 have hgo : ([] : List Ext) ++ putGo e.first (e.first + e.len) false (l.drop 0) = putX l e := rfl
 generalize putX l e = goal at *
 have HV := Lib.hid hv
 have HOK := Lib.hid hok
 have HS0 := Lib.hid hS0
 have HGO := Lib.hid hgo
 clear hv hok hS0 hgo
 go_enter Tryz.func168, Tryz.ntmps168
 go_wp2_with fail
 go_loopw [5, 6, 7, 8, 9] (fun vf ve vo vd i wr => ∃ k : Nat, ∃ po co f en d out, k ≤ l.length ∧ i = .int .i64 k ∧ vf = .int .i64 f ∧ ve = .int .i64 en ∧ vd = .bool d ∧ vo = .slice po out.length co ∧ 0 ≤ f ∧ f < en ∧ en ≤ 1048577 ∧ Hid (Sep w [OldA w, RowA 56 2 (.slice po out.length co) out.length (flatE out)] wr) ∧ Hid (out ++ putGo f en d (l.drop k) = goal) ∧ out.length ≤ 2 * k) (fun _ _ _ _ i _ => l.length - (intOf i).toNat)
 case atStart => exact ⟨0, none, 0, e.first, e.first + e.len, false, [], by omega, rfl, rfl, rfl, rfl, rfl, e1, by omega, by omega, HS0.out, HGO.out, by simp⟩
 case round =>
  obtain ⟨k, po, co, f, en, d, out, hk, rfl, rfl, rfl, rfl, rfl, f0, f1, f2, HS, HG, hol⟩ := hrel
  by_cases hlt : k < l.length
  case neg =>
   have hg := HG.out
   rw [show k = l.length by omega, List.drop_length] at hg
   replace hg : out ++ (if d then [] else [⟨f, en - f⟩]) = goal := hg
   cases d with
   | true =>
    simp only [if_true, List.append_nil] at hg
    subst hg
    have hmine := HS.out.row_mine 1 (by decide) rfl
    have HMINE := Lib.hid hmine
    clear hmine
    go_wp2_with fail
    go_ret
    exact ⟨_, rfl, HMINE.out, HS.out.old⟩
   | false =>
    simp only [Bool.false_eq_true, if_false] at hg
    have hw2 : IntKind.i64.wrap (en - f) = en - f := IntWalk.i64_in _ (by omega)
    have HG := Lib.hid hg
    clear hg
    obtain ⟨FA, hFA, _⟩ := HS.out.get 1 rfl
    have hrowA := hFA.1
    obtain ⟨iiA, hiiA, hizA, hiyA, hixA⟩ := info_parts infoExt
    have HROWA := Lib.hid hrowA
    clear hFA hrowA
    go_wp2_with (at_builtin; refine wpList_append_lies _ rfl _ _ 153 rfl 0 56 iiA (.agg #[.int .i64 0, .int .i64 0]) 2 16 Tryz.underlying153 hiiA hizA hiyA hixA rfl (by decide) _ (out.length) (flatE out) rfl (HROWA.out.alloc _) ⟨wr.heap.size, 0, none⟩ 1 1 [.int .i64 f, .int .i64 (en - f)] rfl rfl (World.news_of_block (cs := #[.int .i64 f, .int .i64 (en - f)]) (heap_alloc_new wr _)) (by simp [Value.oneCell']) (by decide) (by unfold maxLen; omega) (by omega) (Nat.zero_le _) (wr.heap.size + 1) (by simp) ?_; intro gA cA wA hownA hgrowA hatA hltA)
    have hSA := HS.out.row_app 1 rfl (below_alloc _ _) hownA hgrowA hatA (by simp) hltA
    clear hownA hgrowA hatA hltA hiiA hizA hiyA hixA
    have hmine := hSA.row_mine 1 (by decide) rfl
    have HSA := Lib.hid hSA
    have HMINE := Lib.hid hmine
    clear hSA hmine
    go_wp2_with fail
    go_ret
    have q1 : goal.length = out.length + 1 := by rw [← HG.out]; simp
    refine ⟨_, rfl, ?_, HSA.out.old⟩
    rw [q1, ← HG.out, flatE_more]
    exact HMINE.out
  case pos =>
   obtain ⟨p', c', hv', _, _, _, g4⟩ := ExtsAt.up HV.out HS.out.old
   cases hv'
   obtain ⟨g, o, rfl, _, hc0, hc1, _⟩ := g4 k hlt
   have hst := putGo_step (f := f) (e := en) (d := d) hlt
   have hme := HOK.out _ (List.getElem_mem hlt)
   generalize l[k] = x at hc0 hc1 hst hme
   obtain ⟨b1, b2, b3, b4⟩ := hme
   have hw1 : IntKind.i64.wrap (x.first + x.len) = x.first + x.len := IntWalk.i64_in _ (by omega)
   have hw2 : IntKind.i64.wrap (en - f) = en - f := IntWalk.i64_in _ (by omega)
   have k0 : (0 : Int) ≤ (k : Int) := by omega
   have k1 : (k : Int) < (l.length : Int) := by omega
   have hg := HG.out
   rw [hst] at hg
   clear g4 hst
   have hba := below_alloc wr (.cells #[.int .i64 x.first, .int .i64 x.len] 56)
   have hea : (wr.alloc (.cells #[.int .i64 x.first, .int .i64 x.len] 56)).cell? ⟨wr.heap.size, 0, none⟩ = some (.int .i64 x.first) := by rw [cell_row (heap_alloc_new wr _)]; rfl
   have heb : (wr.alloc (.cells #[.int .i64 x.first, .int .i64 x.len] 56)).cell? ⟨wr.heap.size, 1, none⟩ = some (.int .i64 x.len) := by rw [cell_row (heap_alloc_new wr _)]; rfl
   have hSb := HS.out.new hba (BoxA wr.heap.size #[.int .i64 x.first, .int .i64 x.len] 56) (F := New wr (wr.alloc (.cells #[.int .i64 x.first, .int .i64 x.len] 56))) (fun _ h => h) ⟨⟨Nat.le_refl _, by simp⟩, heap_alloc_new wr _⟩
   have HBA := Lib.hid hba
   have HSB := Lib.hid hSb
   clear hba hSb
   by_cases hA : x.first + x.len < f
   case pos =>
    rw [if_pos hA] at hg
    have HG := Lib.hid hg
    clear hg
    go_upto_region 12 with fail
    generalize (wr.alloc (.cells #[.int .i64 x.first, .int .i64 x.len] 56)) = wq at *
    obtain ⟨FA, hFA, _⟩ := HSB.out.get 1 rfl
    have hrowA := hFA.1
    obtain ⟨iiA, hiiA, hizA, hiyA, hixA⟩ := info_parts infoExt
    have HROWA := Lib.hid hrowA
    clear hFA hrowA
    go_wp2_with (at_builtin; refine wpList_append_lies _ rfl _ _ 153 rfl 0 56 iiA (.agg #[.int .i64 0, .int .i64 0]) 2 16 Tryz.underlying153 hiiA hizA hiyA hixA rfl (by decide) _ (out.length) (flatE out) rfl (HROWA.out.alloc _) ⟨wq.heap.size, 0, none⟩ 1 1 [.int .i64 x.first, .int .i64 x.len] rfl rfl (World.news_of_block (cs := #[.int .i64 x.first, .int .i64 x.len]) (heap_alloc_new wq _)) (by simp [Value.oneCell']) (by decide) (by unfold maxLen; omega) (by omega) (Nat.zero_le _) (wq.heap.size + 1) (by simp) ?_; intro gA cA wA hownA hgrowA hatA hltA)
    have hSA := HSB.out.row_app 1 rfl (below_alloc _ _) hownA hgrowA hatA (by simp) hltA
    clear hownA hgrowA hatA hltA hiiA hizA hiyA hixA
    have hSA2 := hSA.take 2
    have HSA := Lib.hid hSA
    have HSA2 := Lib.hid hSA2
    clear hSA hSA2
    clear hea heb
    go_wp2_with fail
    go_roundw
    case rel =>
     have q1 : (out ++ [x]).length = out.length + 1 := by simp
     refine ⟨k + 1, _, cA, f, en, d, out ++ [x], by omega, by go_num, rfl, rfl, rfl, by rw [q1], f0, f1, f2, ?_, ?_, by omega⟩
     ·unfold Hid
      rw [q1]
      show Sep w [OldA w, RowA 56 2 _ (out.length + 1) (flatE (out ++ [⟨x.first, x.len⟩]))] _
      rw [flatE_more]
      exact HSA2.out
     ·unfold Hid; rw [List.append_assoc]; exact HG.out
    case measure => simp [intOf]; omega
   case neg =>
    rw [if_neg hA] at hg
    by_cases hB : en < x.first
    case pos =>
     rw [if_pos hB] at hg
     cases d with
     | true =>
      simp only [if_true, List.nil_append] at hg
      have HG := Lib.hid hg
      clear hg
      go_upto_region 17 with fail
      generalize (wr.alloc (.cells #[.int .i64 x.first, .int .i64 x.len] 56)) = wq at *
      obtain ⟨FA, hFA, _⟩ := HSB.out.get 1 rfl
      have hrowA := hFA.1
      obtain ⟨iiA, hiiA, hizA, hiyA, hixA⟩ := info_parts infoExt
      have HROWA := Lib.hid hrowA
      clear hFA hrowA
      go_wp2_with (at_builtin; refine wpList_append_lies _ rfl _ _ 153 rfl 0 56 iiA (.agg #[.int .i64 0, .int .i64 0]) 2 16 Tryz.underlying153 hiiA hizA hiyA hixA rfl (by decide) _ (out.length) (flatE out) rfl (HROWA.out.alloc _) ⟨wq.heap.size, 0, none⟩ 1 1 [.int .i64 x.first, .int .i64 x.len] rfl rfl (World.news_of_block (cs := #[.int .i64 x.first, .int .i64 x.len]) (heap_alloc_new wq _)) (by simp [Value.oneCell']) (by decide) (by unfold maxLen; omega) (by omega) (Nat.zero_le _) (wq.heap.size + 1) (by simp) ?_; intro gA cA wA hownA hgrowA hatA hltA)
      have hSA := HSB.out.row_app 1 rfl (below_alloc _ _) hownA hgrowA hatA (by simp) hltA
      clear hownA hgrowA hatA hltA hiiA hizA hiyA hixA
      have hSA2 := hSA.take 2
      have HSA := Lib.hid hSA
      have HSA2 := Lib.hid hSA2
      clear hSA hSA2
      clear hea heb
      go_wp2_with fail
      go_roundw
      case rel =>
       have q1 : (out ++ [x]).length = out.length + 1 := by simp
       refine ⟨k + 1, _, cA, f, en, true, out ++ [x], by omega, by go_num, rfl, rfl, rfl, by rw [q1], f0, f1, f2, ?_, ?_, by omega⟩
       ·unfold Hid
        rw [q1]
        show Sep w [OldA w, RowA 56 2 _ (out.length + 1) (flatE (out ++ [⟨x.first, x.len⟩]))] _
        rw [flatE_more]
        exact HSA2.out
       ·unfold Hid; rw [List.append_assoc]; exact HG.out
      case measure => simp [intOf]; omega
     | false =>
      simp only [Bool.false_eq_true, if_false] at hg
      have HG := Lib.hid hg
      clear hg
      go_upto_region 15 with fail
      generalize (wr.alloc (.cells #[.int .i64 x.first, .int .i64 x.len] 56)) = wq at *
      obtain ⟨FA, hFA, _⟩ := HSB.out.get 1 rfl
      have hrowA := hFA.1
      obtain ⟨iiA, hiiA, hizA, hiyA, hixA⟩ := info_parts infoExt
      have HROWA := Lib.hid hrowA
      clear hFA hrowA
      go_upto_region 16 with (at_builtin; refine wpList_append_lies _ rfl _ _ 153 rfl 0 56 iiA (.agg #[.int .i64 0, .int .i64 0]) 2 16 Tryz.underlying153 hiiA hizA hiyA hixA rfl (by decide) _ (out.length) (flatE out) rfl (HROWA.out.alloc _) ⟨wq.heap.size, 0, none⟩ 1 1 [.int .i64 f, .int .i64 (en - f)] rfl rfl (World.news_of_block (cs := #[.int .i64 f, .int .i64 (en - f)]) (heap_alloc_new wq _)) (by simp [Value.oneCell']) (by decide) (by unfold maxLen; omega) (by omega) (Nat.zero_le _) (wq.heap.size + 1) (by simp) ?_; intro gA cA wA hownA hgrowA hatA hltA)
      have hSA := HSB.out.row_app 1 rfl (below_alloc _ _) hownA hgrowA hatA (by simp) hltA
      clear hownA hgrowA hatA hltA hiiA hizA hiyA hixA
      obtain ⟨FB, hFB, _⟩ := hSA.get 2 rfl
      have hqa : wA.cell? ⟨wr.heap.size, 0, none⟩ = some (.int .i64 x.first) := by rw [cell_row hFB.2]; rfl
      have hqb : wA.cell? ⟨wr.heap.size, 1, none⟩ = some (.int .i64 x.len) := by rw [cell_row hFB.2]; rfl
      have HSA := Lib.hid hSA
      clear hSA
      clear hea heb hFB
      obtain ⟨FB, hFB, _⟩ := HSA.out.get 1 rfl
      have hrowB := hFB.1
      obtain ⟨iiB, hiiB, hizB, hiyB, hixB⟩ := info_parts infoExt
      have HROWB := Lib.hid hrowB
      clear hFB hrowB
      go_wp2_with (at_builtin; refine wpList_append_lies _ rfl _ _ 153 rfl 0 56 iiB (.agg #[.int .i64 0, .int .i64 0]) 2 16 Tryz.underlying153 hiiB hizB hiyB hixB rfl (by decide) _ (out.length + 1) (flatE out ++ [.int .i64 f, .int .i64 (en - f)]) rfl (HROWB.out.alloc _) ⟨wA.heap.size, 0, none⟩ 1 1 [.int .i64 x.first, .int .i64 x.len] rfl rfl (World.news_of_block (cs := #[.int .i64 x.first, .int .i64 x.len]) (heap_alloc_new wA _)) (by simp [Value.oneCell']) (by decide) (by unfold maxLen; omega) (by omega) (Nat.zero_le _) (wA.heap.size + 1) (by simp) ?_; intro gB cB wB hownB hgrowB hatB hltB)
      have hSB := HSA.out.row_app 1 rfl (below_alloc _ _) hownB hgrowB hatB (by simp) hltB
      clear hownB hgrowB hatB hltB hiiB hizB hiyB hixB
      have hSA2 := hSB.take 2
      have HSA2 := Lib.hid hSA2
      clear hSA2
      clear hSB
      go_wp2_with fail
      go_roundw
      case rel =>
       have q1 : (out ++ [(⟨f, en - f⟩ : Ext)] ++ [x]).length = out.length + 1 + 1 := by simp
       refine ⟨k + 1, _, cB, f, en, true, out ++ [(⟨f, en - f⟩ : Ext)] ++ [x], by omega, by go_num, rfl, rfl, rfl, by rw [q1], f0, f1, f2, ?_, ?_, by omega⟩
       ·unfold Hid
        rw [q1]
        show Sep w [OldA w, RowA 56 2 _ (out.length + 1 + 1) (flatE (out ++ [(⟨f, en - f⟩ : Ext)] ++ [⟨x.first, x.len⟩]))] _
        rw [flatE_more, flatE_more]
        exact HSA2.out
       ·unfold Hid; rw [List.append_assoc, List.append_assoc]; exact HG.out
      case measure => simp [intOf]; omega
    case neg =>
     rw [if_neg hB] at hg
     have hSA2 := HSB.out.take 2
     have HG := Lib.hid hg
     have HSA2 := Lib.hid hSA2
     clear hg hSA2
     go_wp2_with fail
     go_roundw
     case rel => exact ⟨k + 1, po, co, min f x.first, max en (x.first + x.len), d, out, by omega, by go_num, rfl, rfl, rfl, rfl, by omega, by omega, by omega, HSA2.out, HG.out, by omega⟩
     case measure => simp [intOf]; omega
structure RSetIs (F : Nat → Prop) (w : World) (v : Value) (most : Int) (l : List Ext) : Prop where
 out : ∃ b sv, v = .pointer (some ⟨b, 0, none⟩) ∧ F b ∧ w.heap[b]? = some (.cells #[.int .i64 most, sv] 155 (0, 0)) ∧ ExtsAt F w sv l
theorem RSetIs.same {F : Nat → Prop} {w w' : World} {v : Value} {most : Int} {l : List Ext} (h : RSetIs F w v most l) (hs : Same F w w') : RSetIs F w' v most l := by
 obtain ⟨⟨b, sv, h1, h2, h3, h4⟩⟩ := h
 exact ⟨⟨b, sv, h1, h2, (hs b h2).trans h3, h4.same hs⟩⟩
def RSetA (v : Value) (most : Int) (l : List Ext) : Asn := ⟨fun F w => RSetIs F w v most l, fun _ _ _ hs _ h => h.same hs⟩
def radd (most : Int) (l0 l : List Ext) : Int := if allB l = false then 1 else if max most 0 < ((normE (l0 ++ l)).length : Int) then 7 else 0
def raddNext (most : Int) (l0 l : List Ext) : List Ext := if radd most l0 l = 0 then normE (l0 ++ l) else l0
theorem foldl_take_succ {α β : Type} (f : β → α → β) (b : β) (l : List α) (k : Nat) (h : k < l.length) : (l.take (k + 1)).foldl f b = f ((l.take k).foldl f b) l[k] := by
 rw [take_snoc l k h, List.foldl_append]; rfl
set_option maxRecDepth 100000 in
set_option maxHeartbeats 4000000 in
theorem refAdd_sep {W w : World} {L : List Asn} (h : Sep W L w) (i : Nat) {v lv : Value} {most : Int} {l0 : List Ext} (hi : L[i]? = some (RSetA v most l0)) (l : List Ext) (hl : ExtsAt (fun _ => True) w lv l) (hl64 : ∀ e ∈ l, I64 e.first ∧ I64 e.len) (hg : SetG l0) (_im : I64 most) (n0 : l0.length ≤ 40000) (n1 : l.length ≤ 40000) :
  Calls Tryz.prog 147 #[v, lv] w fun e w' => e = .returned (.int .i64 (radd most l0 l)) ∧ Hid (Sep W (L.set i (RSetA v most (raddNext most l0 l))) w') := by
 obtain ⟨F, G, hF, hR, hFG, hdF, hdG, K⟩ := h.at i hi
 obtain ⟨⟨b, sv, rfl, hFb, hh, hsv⟩⟩ := hF
 obtain ⟨p, c, rfl⟩ := extsAt_shape hl
 obtain ⟨p0, c0, rfl⟩ := extsAt_shape hsv
 have hK := fun w' F' A' => K w' F' A'
 have hbl := hdF b hFb
 have hc0 : w.cell? ⟨b, 0, none⟩ = some (.int .i64 most) := by rw [cell_row hh]; rfl
 have hc1 : w.cell? ⟨b, 1, none⟩ = some (.slice p0 l0.length c0) := by rw [cell_row hh]; rfl
 have HL := Lib.hid hl
 have HSV := Lib.hid hsv
 have HK := Lib.hid hK
 have HH := Lib.hid hh
 have HL64 := Lib.hid hl64
 have HG := Lib.hid hg
 clear hl hsv hK hh hl64 hg
 clear K hR hFG hdG h
 go_enter Tryz.func147, Tryz.ntmps147
 go_wp2_with fail
 go_loopw [5] (fun i wr => ∃ k : Nat, k ≤ l.length ∧ i = .int .i64 k ∧ Hid (Below w.heap.size w wr) ∧ Hid (allB (l.take k) = true)) (fun i _ => l.length - (intOf i).toNat)
 case atStart => exact ⟨0, by omega, rfl, Below.refl _ _, rfl⟩
 case round =>
  obtain ⟨k, hk, rfl, HB, HA⟩ := hrel
  by_cases hlt : k < l.length
  case pos =>
   obtain ⟨p', c', he', _, _, _, h4⟩ := ExtsAt.up HL.out HB.out
   cases he'
   obtain ⟨g, o, rfl, _, hca, hcb, hia, hib⟩ := h4 k hlt
   have hmay := refMayE_any l[k] wr hia hib
   have hbad : mayB l[k] = false → radd most l0 l = 1 := fun hq => by
    unfold radd
    rw [if_pos]
    unfold allB
    rw [List.all_eq_false]
    exact ⟨_, List.getElem_mem hlt, by rw [hq]; decide⟩
   have hnext : mayB l[k] = true → allB (l.take (k + 1)) = true := fun hq => by
    rw [take_snoc l k hlt]
    unfold allB
    rw [List.all_append, show (l.take k).all mayB = true from HA.out]
    simp [hq]
   generalize l[k] = x at *
   have hkI : (k : Int) < (l.length : Int) := by omega
   have HMAY := Lib.hid hmay
   have HBAD := Lib.hid hbad
   have HNEXT := Lib.hid hnext
   have HIA := Lib.hid hia
   have HIB := Lib.hid hib
   clear hmay hbad hnext hia hib
   clear h4
   go_wp2_with fail
   refine (HMAY.out).mono ?_
   rintro r w2 ⟨rfl, hb2⟩
   have hb02 := Below.up HB.out hb2
   have HB2 := Lib.hid hb2
   have HB02 := Lib.hid hb02
   clear hb2 hb02
   cases hq : mayB x with
   | false =>
    have hcode := HBAD.out hq
    have hnx : raddNext most l0 l = l0 := by unfold raddNext; rw [if_neg (by rw [hcode]; decide)]
    have HQ := Lib.hid hq
    have HCODE := Lib.hid hcode
    have HNX := Lib.hid hnx
    clear hq hcode hnx
    go_wp2_with fail
    go_ret
    refine ⟨by rw [HCODE.out]; rfl, ?_⟩
    unfold Hid
    rw [HNX.out]
    exact HK.out w2 F (RSetA _ most l0) (Chg.of_below HB02.out fun k h1 h2 => by omega) (fun k hk => .inl hk) (RSetIs.same ⟨⟨b, _, rfl, hFb, HH.out, HSV.out⟩⟩ (Dom.same hdF HB02.out))
   | true =>
    have hnx := HNEXT.out hq
    have HQ := Lib.hid hq
    have HNX := Lib.hid hnx
    clear hq hnx
    go_wp2_with fail
    go_roundw
    case rel => exact ⟨k + 1, by omega, by go_num, HB02.out, HNX.out⟩
    case measure => simp [intOf]; omega
  case neg =>
   have hall := HA.out
   rw [show k = l.length by omega, List.take_length] at hall
   have hoke : ∀ x ∈ l, Oke x := fun x hx => mayB_oke (allB_mem hall x hx)
   have hcode0 : radd most l0 l = if max most 0 < ((normE (l0 ++ l)).length : Int) then 7 else 0 := by unfold radd; rw [if_neg (by rw [hall]; decide)]
   have hput := putAll HG.out.1 HG.out.2 l hoke
   have hsv1 := ExtsAt.up HSV.out HB.out
   have hlv1 := ExtsAt.up HL.out HB.out
   have hc01 := cell_up HB.out hc0
   have hc11 := cell_up HB.out hc1
   obtain ⟨i0, hi0, hz0, hz1, hz2⟩ := info_parts infoExt
   have hown := owns_empty wr 56 2
   have hc12 := cell_up (below_alloc wr (.cells #[] 56 (0, 0))) hc11
   have hsv2 := ExtsAt.up hsv1 (below_alloc wr (.cells #[] 56 (0, 0)))
   have hp0 : p0 = none → l0.length = 0 ∧ c0 = 0 := fun hp => by
    obtain ⟨p', c', he, h1, h2, h3, _⟩ := hsv1
    cases he
    have := h3 hp
    omega
   have hnews : ∀ a, p0 = some a → ∀ j u, (flatE l0)[j]? = some u → (wr.alloc (.cells #[] 56 (0, 0))).cell? (a.add j) = some u := fun a ha j u hu => by
    subst ha
    exact extsAt_news hsv2 j u hu
   obtain ⟨v6, w6, hr6, ho6, hg6, hor6⟩ := run_append_any (P := Tryz.prog) (wr.alloc (.cells #[] 56 (0, 0))) 153 153 wr.heap.size 56 i0 (.agg #[.int .i64 0, .int .i64 0]) 2 16 Tryz.underlying153 hi0 hz0 hz1 hz2 rfl (by decide) _ 0 [] hown p0 l0.length c0 hp0 (flatE l0) (flatE_length l0) hnews (flatE_one l0) (by unfold maxLen; omega) (by omega) (by simp)
   have hb6 : Below wr.heap.size wr w6 := (below_alloc wr _).grown hg6 (by simp) (fun q hq => by cases hq; exact Nat.le_refl _)
   rw [Nat.zero_add, List.nil_append] at ho6
   have hx6 := row_extsAt (New w w6) rfl (fun e he => by have := HG.out.2 e he; unfold Oke at this; unfold I64; omega) (fun k h1 h2 => ⟨Nat.le_trans HB.out.size h1, h2⟩) ho6
   obtain ⟨p6, c6, rfl⟩ := extsAt_shape hx6
   have hb06 := Below.up HB.out hb6
   have hn0 : normE (l0 ++ l.take 0) = l0 := normE_self HG.out.1
   have hst : ∀ j (hj : j < l.length), putX (normE (l0 ++ l.take j)) l[j] = normE (l0 ++ l.take (j + 1)) := fun j hj => by
    rw [← putAll HG.out.1 HG.out.2 (l.take (j + 1)) (fun e he => hoke e (List.mem_of_mem_take he)), foldl_take_succ _ _ _ _ hj, putAll HG.out.1 HG.out.2 (l.take j) (fun e he => hoke e (List.mem_of_mem_take he))]
   have hgd : ∀ j, SetG (normE (l0 ++ l.take j)) ∧ (normE (l0 ++ l.take j)).length ≤ l0.length + l.length := fun j => by
    have ho : ∀ e ∈ l0 ++ l.take j, Oke e := fun e he => (List.mem_append.1 he).elim (HG.out.2 e) fun h => hoke e (List.mem_of_mem_take h)
    obtain ⟨g1, _, g3⟩ := normE_good' ho
    rw [List.length_append, List.length_take] at g3
    exact ⟨g1, by omega⟩
   have HALL := Lib.hid hall
   have HOKE := Lib.hid hoke
   have HCODE0 := Lib.hid hcode0
   have HPUT := Lib.hid hput
   have HX6 := Lib.hid hx6
   have HB06 := Lib.hid hb06
   have HN0 := Lib.hid hn0
   have HST := Lib.hid hst
   have HGD := Lib.hid hgd
   have HSV1 := Lib.hid hsv1
   have HLV1 := Lib.hid hlv1
   have HSV2 := Lib.hid hsv2
   have HP0 := Lib.hid hp0
   have HNEWS := Lib.hid hnews
   have HR6 := Lib.hid hr6
   clear hall hoke hcode0 hput hx6 hb06 hn0 hst hgd hsv1 hlv1 hsv2 hp0 hnews hr6
   clear hown ho6 hg6 hor6 hi0 hz0 hz1 hz2 hb6
   go_wp2_with (at_builtin; refine Lib.wpList_append_run _ rfl _ _ _ _ rfl _ _ rfl rfl _ _ HR6.out ?_)
   clear hlt hk
   go_loopw [6, 7] (fun vo i wr => ∃ k : Nat, ∃ po co X, k ≤ l.length ∧ i = .int .i64 k ∧ vo = .slice po X.length co ∧ Hid (X = normE (l0 ++ l.take k)) ∧ Hid (Below w.heap.size w wr) ∧ Hid (ExtsAt (New w wr) wr (.slice po X.length co) X)) (fun _ i _ => l.length - (intOf i).toNat)
   case atStart => exact ⟨0, p6, c6, l0, by omega, rfl, rfl, HN0.out.symm, HB06.out, HX6.out⟩
   case round =>
    obtain ⟨k, po, co, X, hk, rfl, rfl, HXE, HB, HX⟩ := hrel
    obtain ⟨hgx, hgl⟩ := HGD.out k
    rw [← HXE.out] at hgx hgl
    by_cases hlt : k < l.length
    case pos =>
     obtain ⟨p', c', he', _, _, _, h4⟩ := ExtsAt.up HL.out HB.out
     cases he'
     obtain ⟨g, o, rfl, _, hca, hcb, hia, hib⟩ := h4 k hlt
     have hok := HOKE.out _ (List.getElem_mem hlt)
     have hstk := HST.out k hlt
     rw [← HXE.out] at hstk
     have hpt := refPut_any _ _ X l[k] wr HX.out hgx.2 hok (by omega)
     rw [hstk] at hpt
     obtain ⟨hgy, hgyl⟩ := HGD.out (k + 1)
     generalize l[k] = x at *
     obtain ⟨Y, hY⟩ : ∃ Y, Y = normE (l0 ++ l.take (k + 1)) := ⟨_, rfl⟩
     rw [← hY] at hpt hgy hgyl
     have hkI : (k : Int) < (l.length : Int) := by omega
     have HPT := Lib.hid hpt
     have HOK := Lib.hid hok
     have HIA := Lib.hid hia
     have HIB := Lib.hid hib
     have HGY := Lib.hid hgy
     have HY := Lib.hid hY
     clear hpt hok hia hib hgy hY
     clear h4 hstk hgx hgl
     go_wp2_with fail
     refine (HPT.out).mono ?_
     rintro r w8 ⟨v8, rfl, ho8, hb8⟩
     have hb08 := Below.up HB.out hb8
     have hx8 := row_extsAt (New w w8) rfl (fun e he => by have := HGY.out.2 e he; unfold Oke at this; unfold I64; omega) (fun k h1 h2 => ⟨Nat.le_trans HB.out.size h1, h2⟩) ho8
     obtain ⟨p8, c8, rfl⟩ := extsAt_shape hx8
     have HB8 := Lib.hid hb8
     have HB08 := Lib.hid hb08
     have HX8 := Lib.hid hx8
     clear hb8 hb08 hx8
     clear ho8
     go_wp2_with fail
     go_roundw
     case rel => exact ⟨k + 1, p8, c8, Y, by omega, by go_num, rfl, HY.out, HB08.out, HX8.out⟩
     case measure => simp [intOf]; omega
    case neg =>
     have hxe := HXE.out
     rw [show k = l.length by omega, List.take_length] at hxe
     have hcode := HCODE0.out
     rw [← hxe] at hcode
     have hcc0 := cell_up HB.out hc0
     have hcc1 := cell_up HB.out hc1
     have hhb : wr.heap[b]? = some (.cells #[.int .i64 most, .slice p0 l0.length c0] 155 (0, 0)) := (HB.out.block b hbl).trans HH.out
     have hfz : wr.frozen? ⟨b, 1, none⟩ = false := fz_row hhb 1
     have HXE := Lib.hid hxe
     have HGX := Lib.hid hgx
     have HHB := Lib.hid hhb
     clear hxe hgx hhb
     clear hc01 hc11 hc12
     by_cases hbig : max most 0 < (X.length : Int)
     case pos =>
      rw [if_pos hbig] at hcode
      have hnx : raddNext most l0 l = l0 := by unfold raddNext; rw [if_neg (by rw [hcode]; decide)]
      have HCODE := Lib.hid hcode
      have HNX := Lib.hid hnx
      clear hcode hnx
      go_wp2_with fail
      go_ret
      refine ⟨by rw [HCODE.out]; rfl, ?_⟩
      unfold Hid
      rw [HNX.out]
      exact HK.out _ F (RSetA _ most l0) (Chg.of_below HB.out fun k h1 h2 => by omega) (fun k hk => .inl hk) (RSetIs.same ⟨⟨b, _, rfl, hFb, HH.out, HSV.out⟩⟩ (Dom.same hdF HB.out))
     case neg =>
      rw [if_neg hbig] at hcode
      have hnx : raddNext most l0 l = X := by unfold raddNext; rw [if_pos hcode, HXE.out]
      have hbig' : (X.length : Int) ≤ max most 0 := by omega
      have HCODE := Lib.hid hcode
      have HNX := Lib.hid hnx
      clear hcode hnx
      clear hbig
      go_wp2_with fail
      go_ret
      refine ⟨by rw [HCODE.out]; rfl, ?_⟩
      unfold Hid
      rw [HNX.out]
      refine HK.out _ (fun q => F q ∨ New w (wr.setCell ⟨b, 1, none⟩ (.slice po X.length co)) q) (RSetA _ most X) ((Chg.of_below HB.out fun k h1 h2 => by omega).trans (chg_set wr b 1 _ hFb)) (fun q hq => hq) ⟨⟨b, .slice po X.length co, rfl, .inl hFb, by rw [heap_set_same HHB.out]; rfl, ?_⟩⟩
      refine SlAt.mono (ExtsAt.same HX.out (w' := wr.setCell ⟨b, 1, none⟩ (.slice po X.length co)) fun k hk => ?_) (fun k hk => .inr ?_) (fun _ _ _ h => h)
      ·exact Below.heap_setCell _ _ _ k (fun e => by have := hk.1; simp at e; omega)
      ·exact ⟨hk.1, by have := hk.2; simpa [World.setCell] using this⟩
end Go.Proofs
namespace Go.Proofs
open Go.RowKit Sc
def AddVSaid (b : Nat) (most : Int) (l0 l : List Ext) (w : World) (e : Ending) (w' : World) : Prop :=
 e = .returned (.int .i64 (radd most l0 l)) ∧ ((radd most l0 l ≠ 0 ∧ Hid (Below w.heap.size w w')) ∨
  (radd most l0 l = 0 ∧ ∃ wr po co, w' = wr.setCell ⟨b, 4, none⟩ (.slice po (raddNext most l0 l).length co) ∧ Hid (Below w.heap.size w wr) ∧ Hid (ExtsAt (New w wr) wr (.slice po (raddNext most l0 l).length co) (raddNext most l0 l))))
set_option maxRecDepth 100000 in
set_option maxHeartbeats 4000000 in
theorem refAddV_any {F0 : Nat → Prop} {w : World} {b T : Nat} {cs : Array Value} {sv lv : Value} {most : Int} {l0 : List Ext} (hbl : b < w.heap.size) (hh : w.heap[b]? = some (.cells cs T (0, 0))) (e3 : cs[3]? = some (.int .i64 most)) (e4 : cs[4]? = some sv) (hsv : ExtsAt F0 w sv l0) (l : List Ext) (hl : ExtsAt (fun _ => True) w lv l) (hl64 : ∀ e ∈ l, I64 e.first ∧ I64 e.len) (hg : SetG l0) (_im : I64 most) (n0 : l0.length ≤ 40000) (n1 : l.length ≤ 40000) :
  Calls Tryz.prog 147 #[.pointer (some ⟨b, 3, none⟩), lv] w (AddVSaid b most l0 l w) := by
 obtain ⟨p, c, rfl⟩ := extsAt_shape hl
 obtain ⟨p0, c0, rfl⟩ := extsAt_shape hsv
 have hc0 : w.cell? ⟨b, 3, none⟩ = some (.int .i64 most) := by rw [cell_row hh]; exact e3
 have hc1 : w.cell? ⟨b, 4, none⟩ = some (.slice p0 l0.length c0) := by rw [cell_row hh]; exact e4
 clear e3 e4
 have HL := Lib.hid hl
 have HSV := Lib.hid hsv
 have HH := Lib.hid hh
 have HL64 := Lib.hid hl64
 have HG := Lib.hid hg
 clear hl hsv hh hl64 hg
 go_enter Tryz.func147, Tryz.ntmps147
 go_wp2_with fail
 go_loopw [5] (fun i wr => ∃ k : Nat, k ≤ l.length ∧ i = .int .i64 k ∧ Hid (Below w.heap.size w wr) ∧ Hid (allB (l.take k) = true)) (fun i _ => l.length - (intOf i).toNat)
 case atStart => exact ⟨0, by omega, rfl, Below.refl _ _, rfl⟩
 case round =>
  obtain ⟨k, hk, rfl, HB, HA⟩ := hrel
  by_cases hlt : k < l.length
  case pos =>
   obtain ⟨p', c', he', _, _, _, h4⟩ := ExtsAt.up HL.out HB.out
   cases he'
   obtain ⟨g, o, rfl, _, hca, hcb, hia, hib⟩ := h4 k hlt
   have hmay := refMayE_any l[k] wr hia hib
   have hbad : mayB l[k] = false → radd most l0 l = 1 := fun hq => by
    unfold radd
    rw [if_pos]
    unfold allB
    rw [List.all_eq_false]
    exact ⟨_, List.getElem_mem hlt, by rw [hq]; decide⟩
   have hnext : mayB l[k] = true → allB (l.take (k + 1)) = true := fun hq => by
    rw [take_snoc l k hlt]
    unfold allB
    rw [List.all_append, show (l.take k).all mayB = true from HA.out]
    simp [hq]
   generalize l[k] = x at *
   have hkI : (k : Int) < (l.length : Int) := by omega
   have HMAY := Lib.hid hmay
   have HBAD := Lib.hid hbad
   have HNEXT := Lib.hid hnext
   have HIA := Lib.hid hia
   have HIB := Lib.hid hib
   clear hmay hbad hnext hia hib
   clear h4
   go_wp2_with fail
   refine (HMAY.out).mono ?_
   rintro r w2 ⟨rfl, hb2⟩
   have hb02 := Below.up HB.out hb2
   have HB2 := Lib.hid hb2
   have HB02 := Lib.hid hb02
   clear hb2 hb02
   cases hq : mayB x with
   | false =>
    have hcode := HBAD.out hq
    have hnx : raddNext most l0 l = l0 := by unfold raddNext; rw [if_neg (by rw [hcode]; decide)]
    have HQ := Lib.hid hq
    have HCODE := Lib.hid hcode
    have HNX := Lib.hid hnx
    clear hq hcode hnx
    go_wp2_with fail
    go_ret
    exact ⟨by rw [HCODE.out]; rfl, .inl ⟨by rw [HCODE.out]; decide, HB02⟩⟩
   | true =>
    have hnx := HNEXT.out hq
    have HQ := Lib.hid hq
    have HNX := Lib.hid hnx
    clear hq hnx
    go_wp2_with fail
    go_roundw
    case rel => exact ⟨k + 1, by omega, by go_num, HB02.out, HNX.out⟩
    case measure => simp [intOf]; omega
  case neg =>
   have hall := HA.out
   rw [show k = l.length by omega, List.take_length] at hall
   have hoke : ∀ x ∈ l, Oke x := fun x hx => mayB_oke (allB_mem hall x hx)
   have hcode0 : radd most l0 l = if max most 0 < ((normE (l0 ++ l)).length : Int) then 7 else 0 := by unfold radd; rw [if_neg (by rw [hall]; decide)]
   have hput := putAll HG.out.1 HG.out.2 l hoke
   have hsv1 := ExtsAt.up HSV.out HB.out
   have hlv1 := ExtsAt.up HL.out HB.out
   have hc01 := cell_up HB.out hc0
   have hc11 := cell_up HB.out hc1
   obtain ⟨i0, hi0, hz0, hz1, hz2⟩ := info_parts infoExt
   have hown := owns_empty wr 56 2
   have hc12 := cell_up (below_alloc wr (.cells #[] 56 (0, 0))) hc11
   have hsv2 := ExtsAt.up hsv1 (below_alloc wr (.cells #[] 56 (0, 0)))
   have hp0 : p0 = none → l0.length = 0 ∧ c0 = 0 := fun hp => by
    obtain ⟨p', c', he, h1, h2, h3, _⟩ := hsv1
    cases he
    have := h3 hp
    omega
   have hnews : ∀ a, p0 = some a → ∀ j u, (flatE l0)[j]? = some u → (wr.alloc (.cells #[] 56 (0, 0))).cell? (a.add j) = some u := fun a ha j u hu => by
    subst ha
    exact extsAt_news hsv2 j u hu
   obtain ⟨v6, w6, hr6, ho6, hg6, hor6⟩ := run_append_any (P := Tryz.prog) (wr.alloc (.cells #[] 56 (0, 0))) 153 153 wr.heap.size 56 i0 (.agg #[.int .i64 0, .int .i64 0]) 2 16 Tryz.underlying153 hi0 hz0 hz1 hz2 rfl (by decide) _ 0 [] hown p0 l0.length c0 hp0 (flatE l0) (flatE_length l0) hnews (flatE_one l0) (by unfold maxLen; omega) (by omega) (by simp)
   have hb6 : Below wr.heap.size wr w6 := (below_alloc wr _).grown hg6 (by simp) (fun q hq => by cases hq; exact Nat.le_refl _)
   rw [Nat.zero_add, List.nil_append] at ho6
   have hx6 := row_extsAt (New w w6) rfl (fun e he => by have := HG.out.2 e he; unfold Oke at this; unfold I64; omega) (fun k h1 h2 => ⟨Nat.le_trans HB.out.size h1, h2⟩) ho6
   obtain ⟨p6, c6, rfl⟩ := extsAt_shape hx6
   have hb06 := Below.up HB.out hb6
   have hn0 : normE (l0 ++ l.take 0) = l0 := normE_self HG.out.1
   have hst : ∀ j (hj : j < l.length), putX (normE (l0 ++ l.take j)) l[j] = normE (l0 ++ l.take (j + 1)) := fun j hj => by
    rw [← putAll HG.out.1 HG.out.2 (l.take (j + 1)) (fun e he => hoke e (List.mem_of_mem_take he)), foldl_take_succ _ _ _ _ hj, putAll HG.out.1 HG.out.2 (l.take j) (fun e he => hoke e (List.mem_of_mem_take he))]
   have hgd : ∀ j, SetG (normE (l0 ++ l.take j)) ∧ (normE (l0 ++ l.take j)).length ≤ l0.length + l.length := fun j => by
    have ho : ∀ e ∈ l0 ++ l.take j, Oke e := fun e he => (List.mem_append.1 he).elim (HG.out.2 e) fun h => hoke e (List.mem_of_mem_take h)
    obtain ⟨g1, _, g3⟩ := normE_good' ho
    rw [List.length_append, List.length_take] at g3
    exact ⟨g1, by omega⟩
   have HALL := Lib.hid hall
   have HOKE := Lib.hid hoke
   have HCODE0 := Lib.hid hcode0
   have HPUT := Lib.hid hput
   have HX6 := Lib.hid hx6
   have HB06 := Lib.hid hb06
   have HN0 := Lib.hid hn0
   have HST := Lib.hid hst
   have HGD := Lib.hid hgd
   have HSV1 := Lib.hid hsv1
   have HLV1 := Lib.hid hlv1
   have HSV2 := Lib.hid hsv2
   have HP0 := Lib.hid hp0
   have HNEWS := Lib.hid hnews
   have HR6 := Lib.hid hr6
   clear hall hoke hcode0 hput hx6 hb06 hn0 hst hgd hsv1 hlv1 hsv2 hp0 hnews hr6
   clear hown ho6 hg6 hor6 hi0 hz0 hz1 hz2 hb6
   go_wp2_with (at_builtin; refine Lib.wpList_append_run _ rfl _ _ _ _ rfl _ _ rfl rfl _ _ HR6.out ?_)
   clear hlt hk
   go_loopw [6, 7] (fun vo i wr => ∃ k : Nat, ∃ po co X, k ≤ l.length ∧ i = .int .i64 k ∧ vo = .slice po X.length co ∧ Hid (X = normE (l0 ++ l.take k)) ∧ Hid (Below w.heap.size w wr) ∧ Hid (ExtsAt (New w wr) wr (.slice po X.length co) X)) (fun _ i _ => l.length - (intOf i).toNat)
   case atStart => exact ⟨0, p6, c6, l0, by omega, rfl, rfl, HN0.out.symm, HB06.out, HX6.out⟩
   case round =>
    obtain ⟨k, po, co, X, hk, rfl, rfl, HXE, HB, HX⟩ := hrel
    obtain ⟨hgx, hgl⟩ := HGD.out k
    rw [← HXE.out] at hgx hgl
    by_cases hlt : k < l.length
    case pos =>
     obtain ⟨p', c', he', _, _, _, h4⟩ := ExtsAt.up HL.out HB.out
     cases he'
     obtain ⟨g, o, rfl, _, hca, hcb, hia, hib⟩ := h4 k hlt
     have hok := HOKE.out _ (List.getElem_mem hlt)
     have hstk := HST.out k hlt
     rw [← HXE.out] at hstk
     have hpt := refPut_any _ _ X l[k] wr HX.out hgx.2 hok (by omega)
     rw [hstk] at hpt
     obtain ⟨hgy, hgyl⟩ := HGD.out (k + 1)
     generalize l[k] = x at *
     obtain ⟨Y, hY⟩ : ∃ Y, Y = normE (l0 ++ l.take (k + 1)) := ⟨_, rfl⟩
     rw [← hY] at hpt hgy hgyl
     have hkI : (k : Int) < (l.length : Int) := by omega
     have HPT := Lib.hid hpt
     have HOK := Lib.hid hok
     have HIA := Lib.hid hia
     have HIB := Lib.hid hib
     have HGY := Lib.hid hgy
     have HY := Lib.hid hY
     clear hpt hok hia hib hgy hY
     clear h4 hstk hgx hgl
     go_wp2_with fail
     refine (HPT.out).mono ?_
     rintro r w8 ⟨v8, rfl, ho8, hb8⟩
     have hb08 := Below.up HB.out hb8
     have hx8 := row_extsAt (New w w8) rfl (fun e he => by have := HGY.out.2 e he; unfold Oke at this; unfold I64; omega) (fun k h1 h2 => ⟨Nat.le_trans HB.out.size h1, h2⟩) ho8
     obtain ⟨p8, c8, rfl⟩ := extsAt_shape hx8
     have HB8 := Lib.hid hb8
     have HB08 := Lib.hid hb08
     have HX8 := Lib.hid hx8
     clear hb8 hb08 hx8
     clear ho8
     go_wp2_with fail
     go_roundw
     case rel => exact ⟨k + 1, p8, c8, Y, by omega, by go_num, rfl, HY.out, HB08.out, HX8.out⟩
     case measure => simp [intOf]; omega
    case neg =>
     have hxe := HXE.out
     rw [show k = l.length by omega, List.take_length] at hxe
     have hcode := HCODE0.out
     rw [← hxe] at hcode
     have hcc0 := cell_up HB.out hc0
     have hcc1 := cell_up HB.out hc1
     have hhb : wr.heap[b]? = some (.cells cs T (0, 0)) := (HB.out.block b hbl).trans HH.out
     have hfz : wr.frozen? ⟨b, 4, none⟩ = false := fz_row hhb 4
     have HXE := Lib.hid hxe
     have HGX := Lib.hid hgx
     have HHB := Lib.hid hhb
     clear hxe hgx hhb
     clear hc01 hc11 hc12
     by_cases hbig : max most 0 < (X.length : Int)
     case pos =>
      rw [if_pos hbig] at hcode
      have hnx : raddNext most l0 l = l0 := by unfold raddNext; rw [if_neg (by rw [hcode]; decide)]
      have HCODE := Lib.hid hcode
      have HNX := Lib.hid hnx
      clear hcode hnx
      go_wp2_with fail
      go_ret
      exact ⟨by rw [HCODE.out]; rfl, .inl ⟨by rw [HCODE.out]; decide, HB⟩⟩
     case neg =>
      rw [if_neg hbig] at hcode
      have hnx : raddNext most l0 l = X := by unfold raddNext; rw [if_pos hcode, HXE.out]
      have hbig' : (X.length : Int) ≤ max most 0 := by omega
      have HCODE := Lib.hid hcode
      have HNX := Lib.hid hnx
      clear hcode hnx
      clear hbig
      go_wp2_with fail
      go_ret
      exact ⟨by rw [HCODE.out]; rfl, .inr ⟨HCODE.out, wr, po, co, by rw [HNX.out], HB, by rw [HNX.out]; exact HX⟩⟩
end Go.Proofs
namespace Go.Proofs
open Go.RowKit Sc
def lookP (L : List Put) (k : Int) : Option Bytes := (L.find? fun p => p.lba == k).map (·.data)
def Asc (L : List Put) : Prop := L.Pairwise (fun p q => p.lba < q.lba)
theorem lookP_nil (k : Int) : lookP [] k = none := rfl
theorem lookP_cons (p : Put) (L : List Put) (k : Int) : lookP (p :: L) k = if p.lba = k then some p.data else lookP L k := by
 unfold lookP
 rw [List.find?_cons]
 by_cases h : p.lba = k
 ·have : (p.lba == k) = true := by rw [beq_iff_eq]; exact h
  rw [this, if_pos h]; rfl
 ·have : (p.lba == k) = false := by rw [beq_eq_false_iff_ne]; exact h
  rw [this, if_neg h]
theorem lookP_append (A B : List Put) (k : Int) : lookP (A ++ B) k = (lookP A k).or (lookP B k) := by
 induction A with
 | nil => rfl
 | cons p A ih =>
  rw [List.cons_append, lookP_cons, lookP_cons, ih]
  split <;> rfl
theorem lookP_none {L : List Put} {k : Int} : lookP L k = none ↔ ∀ p ∈ L, p.lba ≠ k := by
 induction L with
 | nil => simp [lookP_nil]
 | cons p L ih =>
  rw [lookP_cons]
  by_cases h : p.lba = k
  ·rw [if_pos h]; simp [h]
  ·rw [if_neg h, ih]; simp [h]
theorem lookP_mem {L : List Put} {k : Int} {d : Bytes} (h : lookP L k = some d) : (⟨k, d⟩ : Put) ∈ L := by
 induction L with
 | nil => cases h
 | cons p L ih =>
  rw [lookP_cons] at h
  by_cases hk : p.lba = k
  ·rw [if_pos hk] at h
   cases h
   subst hk
   exact List.mem_cons_self ..
  ·rw [if_neg hk] at h
   exact List.mem_cons_of_mem _ (ih h)
theorem asc_ext : ∀ {A B : List Put}, Asc A → Asc B → (∀ k, lookP A k = lookP B k) → A = B
 | [], [], _, _, _ => rfl
 | [], q :: B, _, _, h => by have := h q.lba; rw [lookP_cons, if_pos rfl] at this; cases this
 | p :: A, [], _, _, h => by have := h p.lba; rw [lookP_cons, if_pos rfl] at this; cases this
 | p :: A, q :: B, ha, hb, h => by
  obtain ⟨a1, a2⟩ := List.pairwise_cons.1 ha
  obtain ⟨b1, b2⟩ := List.pairwise_cons.1 hb
  have hpq : p.lba = q.lba := by
   have e1 := h p.lba
   have e2 := h q.lba
   rw [lookP_cons, if_pos rfl, lookP_cons] at e1
   rw [lookP_cons, lookP_cons, if_pos rfl] at e2
   rcases (show p.lba = q.lba ∨ p.lba < q.lba ∨ q.lba < p.lba by omega) with e | e | e
   ·exact e
   ·rw [if_neg (by omega)] at e1
    have := b1 _ (lookP_mem e1.symm)
    simp only at this
    omega
   ·rw [if_neg (by omega)] at e2
    have := a1 _ (lookP_mem e2)
    simp only at this
    omega
  have hd : p.data = q.data := by
   have e1 := h p.lba
   rw [lookP_cons, if_pos rfl, lookP_cons, if_pos hpq.symm] at e1
   exact Option.some.inj e1
  have hpe : p = q := by obtain ⟨x, y⟩ := p; obtain ⟨z, t⟩ := q; simp only at hpq hd; rw [hpq, hd]
  subst hpe
  rw [asc_ext a2 b2 fun k => ?_]
  have e := h k
  rw [lookP_cons, lookP_cons] at e
  by_cases hk : p.lba = k
  ·rw [lookP_none.2 fun r hr => by have := a1 r hr; omega, lookP_none.2 fun r hr => by have := b1 r hr; omega]
  ·rw [if_neg hk, if_neg hk] at e
   exact e
def insStep (x : Put) (s : List Put × Bool) (y : Put) : List Put × Bool :=
 let s1 : List Put × Bool := if s.2 = false ∧ x.lba ≤ y.lba then (s.1 ++ [x], true) else s
 if y.lba = x.lba then s1 else (s1.1 ++ [y], s1.2)
def insTo (x : Put) (L : List Put) (k : Nat) : List Put × Bool := (L.take k).foldl (insStep x) ([], false)
def insEnd (x : Put) (s : List Put × Bool) : List Put := if s.2 then s.1 else s.1 ++ [x]
def rIns (L : List Put) (x : Put) : List Put := insEnd x (insTo x L L.length)
theorem insTo_succ (x : Put) (L : List Put) (k : Nat) (h : k < L.length) : insTo x L (k + 1) = insStep x (insTo x L k) L[k] := by
 unfold insTo
 rw [take_snoc L k h, List.foldl_append]; rfl
theorem ins_true (x : Put) : ∀ (L out : List Put), (∀ y ∈ L, x.lba < y.lba) → L.foldl (insStep x) (out, true) = (out ++ L, true)
 | [], out, _ => by simp
 | y :: L, out, h => by
  have hy := h y (List.mem_cons_self ..)
  have e : insStep x (out, true) y = (out ++ [y], true) := by
   unfold insStep
   simp only [Bool.true_eq_false, false_and, if_false]
   rw [if_neg (by omega)]
  rw [List.foldl_cons, e, ins_true x L _ fun z hz => h z (List.mem_cons_of_mem _ hz), List.append_assoc]; rfl
theorem ins_false (x : Put) : ∀ (L out : List Put), Asc L → insEnd x (L.foldl (insStep x) (out, false)) = out ++ (L.filter (fun y => decide (y.lba < x.lba)) ++ x :: L.filter fun y => decide (x.lba < y.lba))
 | [], out, _ => rfl
 | y :: L, out, h => by
  obtain ⟨h1, h2⟩ := List.pairwise_cons.1 h
  rw [List.foldl_cons]
  rcases (show y.lba < x.lba ∨ y.lba = x.lba ∨ x.lba < y.lba by omega) with e | e | e
  ·have hs : insStep x (out, false) y = (out ++ [y], false) := by
    unfold insStep
    simp only [true_and]
    rw [if_neg (by omega), if_neg (by omega)]
   rw [hs, ins_false x L _ h2]
   simp [e, show ¬ x.lba < y.lba by omega]
  ·have hs : insStep x (out, false) y = (out ++ [x], true) := by
    have c1 : x.lba ≤ y.lba := by omega
    simp only [insStep, true_and, if_pos c1, if_pos e]
   have hl : ∀ z ∈ L, x.lba < z.lba := fun z hz => by have := h1 z hz; omega
   rw [hs, ins_true x L _ hl]
   have f1 : L.filter (fun z => decide (z.lba < x.lba)) = [] := List.filter_eq_nil_iff.2 fun z hz => by have := hl z hz; simp; omega
   have f2 : L.filter (fun z => decide (x.lba < z.lba)) = L := List.filter_eq_self.2 fun z hz => by have := hl z hz; simpa using this
   simp [insEnd, e, f1, f2]
  ·have hs : insStep x (out, false) y = (out ++ [x] ++ [y], true) := by
    have c1 : x.lba ≤ y.lba := by omega
    have c2 : ¬ y.lba = x.lba := by omega
    simp only [insStep, true_and, if_pos c1, if_neg c2]
   have hl : ∀ z ∈ L, x.lba < z.lba := fun z hz => by have := h1 z hz; omega
   rw [hs, ins_true x L _ hl]
   have f1 : L.filter (fun z => decide (z.lba < x.lba)) = [] := List.filter_eq_nil_iff.2 fun z hz => by have := hl z hz; simp; omega
   have f2 : L.filter (fun z => decide (x.lba < z.lba)) = L := List.filter_eq_self.2 fun z hz => by have := hl z hz; simpa using this
   simp [insEnd, e, f1, f2, show ¬ y.lba < x.lba by omega]
theorem rIns_eq (L : List Put) (x : Put) (h : Asc L) : rIns L x = L.filter (fun y => decide (y.lba < x.lba)) ++ x :: L.filter fun y => decide (x.lba < y.lba) := by
 have := ins_false x L [] h
 rw [List.nil_append] at this
 unfold rIns insTo
 rw [List.take_length]
 exact this
theorem lookP_filter (f : Int → Bool) (k : Int) : ∀ L : List Put, lookP (L.filter fun y => f y.lba) k = if f k then lookP L k else none
 | [] => by simp [lookP_nil]
 | p :: L => by
  rw [List.filter_cons]
  by_cases hp : f p.lba = true
  ·rw [if_pos hp, lookP_cons, lookP_cons, lookP_filter f k L]
   by_cases hk : p.lba = k
   ·subst hk; rw [if_pos rfl, if_pos rfl, if_pos hp]
   ·rw [if_neg hk, if_neg hk]
  ·rw [if_neg hp, lookP_cons, lookP_filter f k L]
   by_cases hk : p.lba = k
   ·subst hk; rw [if_neg hp, if_neg hp]
   ·rw [if_neg hk]
theorem rIns_good {L : List Put} (h : Asc L) (x : Put) : Asc (rIns L x) ∧ ∀ k, lookP (rIns L x) k = if k = x.lba then some x.data else lookP L k := by
 rw [rIns_eq L x h]
 refine ⟨List.pairwise_append.2 ⟨List.Pairwise.filter _ h, List.pairwise_cons.2 ⟨fun y hy => ?_, List.Pairwise.filter _ h⟩, fun a ha b hb => ?_⟩, fun k => ?_⟩
 ·have := (List.mem_filter.1 hy).2; simpa using this
 ·have h1 := (List.mem_filter.1 ha).2
  simp only [decide_eq_true_eq] at h1
  rcases List.mem_cons.1 hb with rfl | hb
  ·exact h1
  ·have h2 := (List.mem_filter.1 hb).2
   simp only [decide_eq_true_eq] at h2
   omega
 ·rw [lookP_append, lookP_cons, lookP_filter (fun y => decide (y < x.lba)) k, lookP_filter (fun y => decide (x.lba < y)) k]
  rcases (show k < x.lba ∨ k = x.lba ∨ x.lba < k by omega) with e | e | e
  ·simp [e, show ¬ k = x.lba by omega, show ¬ x.lba = k by omega, show ¬ x.lba < k by omega]
  ·subst e; simp
  ·simp [e, show ¬ k = x.lba by omega, show ¬ x.lba = k by omega, show ¬ k < x.lba by omega]
theorem rIns_len (L : List Put) (x : Put) : (rIns L x).length ≤ L.length + 1 := by
 have key : ∀ (l : List Put) (s : List Put × Bool), (l.foldl (insStep x) s).1.length + (if (l.foldl (insStep x) s).2 then 0 else 1) ≤ s.1.length + (if s.2 then 0 else 1) + l.length := by
  intro l
  induction l with
  | nil => intro s; exact Nat.le_refl _
  | cons y l ih =>
   intro s
   rw [List.foldl_cons, List.length_cons]
   have h1 := ih (insStep x s y)
   have h2 : (insStep x s y).1.length + (if (insStep x s y).2 then 0 else 1) ≤ s.1.length + (if s.2 then 0 else 1) + 1 := by
    obtain ⟨o, d⟩ := s
    unfold insStep
    cases d
    ·by_cases hx : x.lba ≤ y.lba <;> by_cases hy : y.lba = x.lba <;> simp [hx, hy] <;> omega
    ·by_cases hy : y.lba = x.lba <;> simp [hy]
   omega
 have := key (L.take L.length) ([], false)
 unfold rIns insEnd insTo
 rw [List.take_length] at this ⊢
 simp only [List.length_nil, Bool.false_eq_true, if_false] at this
 split
 ·rename_i h; rw [if_pos h] at this; omega
 ·rename_i h; rw [if_neg h] at this; rw [List.length_append, List.length_singleton]; omega
structure BufR (s : List (Int × Bytes)) (L : List Put) : Prop where
 asc : Asc L
 look : ∀ k, lookP L k = alook s k
 nd : (s.map (·.1)).Nodup
theorem BufR.start : BufR [] [] := ⟨List.Pairwise.nil, fun _ => rfl, List.nodup_nil⟩
theorem aset_nd {s : List (Int × Bytes)} {k : Int} {d : Bytes} (h : (s.map (·.1)).Nodup) : ((aset s k d).map (·.1)).Nodup := by
 induction s with
 | nil => simp [aset]
 | cons p s ih =>
  obtain ⟨a, x⟩ := p
  simp only [List.map_cons, List.nodup_cons] at h
  unfold aset
  split
  ·rename_i e; subst e; simpa using h
  ·rename_i e
   simp only [List.map_cons, List.nodup_cons]
   refine ⟨fun hm => ?_, ih h.2⟩
   obtain ⟨y, hy, he⟩ := List.mem_map.1 hm
   rcases aset_mem hy with rfl | hy
   ·exact e he.symm
   ·exact h.1 (List.mem_map.2 ⟨y, hy, he⟩)
theorem BufR.one {s : List (Int × Bytes)} {L : List Put} (h : BufR s L) (p : Put) : BufR (aset s p.lba p.data) (rIns L p) := by
 obtain ⟨h1, h2⟩ := rIns_good h.asc p
 exact ⟨h1, fun k => by rw [h2, alook_aset, h.look], aset_nd h.nd⟩
theorem BufR.all : ∀ (l : List Put) {s : List (Int × Bytes)} {L : List Put}, BufR s L → BufR (putsTo s l) (l.foldl rIns L)
 | [], _, _, h => h
 | p :: l, _, _, h => BufR.all l (h.one p)
theorem BufR.len {s : List (Int × Bytes)} {L : List Put} (h : BufR s L) : L.length = s.length := by
 have hn : (L.map (·.lba)).Nodup := by
  unfold List.Nodup
  rw [List.pairwise_map]
  exact h.asc.imp fun h => by omega
 have hp : (L.map (·.lba)).Perm (s.map (·.1)) := by
  refine (List.perm_ext_iff_of_nodup hn h.nd).2 fun k => ?_
  have h1 : k ∈ L.map (·.lba) ↔ lookP L k ≠ none := by
   rw [ne_eq, lookP_none]
   constructor
   ·intro hm hall
    obtain ⟨p, hp, rfl⟩ := List.mem_map.1 hm
    exact hall p hp rfl
   ·intro hne
    simp only [Classical.not_forall, Decidable.not_not] at hne
    obtain ⟨p, hp, he⟩ := hne
    exact List.mem_map.2 ⟨p, hp, he⟩
  have h2 : k ∈ s.map (·.1) ↔ alook s k ≠ none := by
   rw [ne_eq, alook_none]
   constructor
   ·intro hm hall
    obtain ⟨p, hp, rfl⟩ := List.mem_map.1 hm
    exact hall p hp rfl
   ·intro hne
    simp only [Classical.not_forall, Decidable.not_not] at hne
    obtain ⟨p, hp, he⟩ := hne
    exact List.mem_map.2 ⟨p, hp, he⟩
  rw [h1, h2, h.look]
 have := hp.length_eq
 rwa [List.length_map, List.length_map] at this
def freshP (L l : List Put) : Nat := (l.filter fun p => (lookP L p.lba).isNone).length
theorem freshP_take (L l : List Put) (k : Nat) (h : k < l.length) : freshP L (l.take (k + 1)) = freshP L (l.take k) + if (lookP L l[k].lba).isNone then 1 else 0 := by
 unfold freshP
 rw [take_snoc l k h, List.filter_append, List.length_append]
 congr 1
 cases h1 : (lookP L l[k].lba).isNone <;> simp [h1]
theorem freshP_le (L l : List Put) : freshP L l ≤ l.length := List.length_filter_le _ _
theorem BufR.fresh {s : List (Int × Bytes)} {L : List Put} (h : BufR s L) (l : List Put) : freshP L l = freshN s l := by
 unfold freshP freshN
 simp only [h.look]
def rbCode (blocks most : Int) (L l : List Put) : Int :=
 if l = [] then 1 else if l.any (outB blocks) then 2 else if l.any len40 then 3 else if twiceB l then 4 else if most < ((L.length + freshP L l : Nat) : Int) then 7 else 0
def rbNext (blocks most : Int) (L l : List Put) : List Put := if rbCode blocks most L l = 0 then l.foldl rIns L else L
theorem BufR.code {blocks most : Int} {s : List (Int × Bytes)} {L : List Put} (h : BufR s L) (l : List Put) : rbCode blocks most L l = bufCode blocks most s l := by
 unfold rbCode bufCode
 rw [h.len, h.fresh]
theorem BufR.next {blocks most : Int} {s : List (Int × Bytes)} {L : List Put} (h : BufR s L) (l : List Put) : BufR (bufNext blocks most s l) (rbNext blocks most L l) := by
 unfold bufNext rbNext
 rw [h.code]
 split
 ·exact h.all l
 ·exact h
theorem rIns_foldl_len (l : List Put) : ∀ L : List Put, (l.foldl rIns L).length ≤ L.length + l.length := by
 induction l with
 | nil => intro L; simp
 | cons p l ih =>
  intro L
  rw [List.foldl_cons, List.length_cons]
  have := ih (rIns L p)
  have := rIns_len L p
  omega
end Go.Proofs
namespace Go.Proofs
open Go.RowKit Sc
def RBufP (v : Value) (blocks most : Int) (L : List Put) (F : Nat → Prop) (w : World) : Prop :=
 ∃ b lv, v = .pointer (some ⟨b, 0, none⟩) ∧ F b ∧ w.heap[b]? = some (.cells #[.int .i64 blocks, .int .i64 most, lv] 159 (0, 0)) ∧ PutsAt (fun q => F q ∧ q ≠ b) w lv L
theorem RBufP.same {v : Value} {blocks most : Int} {L : List Put} {F : Nat → Prop} {w w' : World} (h : RBufP v blocks most L F w) (hsm : Same F w w') : RBufP v blocks most L F w' := by
 obtain ⟨b, lv, h1, h2, h3, h4⟩ := h
 exact ⟨b, lv, h1, h2, (hsm b h2).trans h3, h4.same (fun q hq => hsm q hq.1)⟩
def RBufA (v : Value) (blocks most : Int) (L : List Put) : Asn := ⟨fun F w => RBufP v blocks most L F w, fun _ _ _ hs _ h => h.same hs⟩
theorem putsAt_shape {G : Nat → Prop} {w : World} {v : Value} {l : List Put} (h : PutsAt G w v l) : ∃ p c, v = .slice p l.length c := by
 obtain ⟨p, c, rfl, _⟩ := h; exact ⟨p, c, rfl⟩
theorem putsAt_get {G : Nat → Prop} {w : World} {p : Option Addr} {n c : Nat} {l : List Put} (h : PutsAt G w (.slice p n c) l) (k : Nat) (hk : k < l.length) :
  ∃ g o dp dc, p = some ⟨g, o, none⟩ ∧ G g ∧ w.cell? ⟨g, o + k * 2, none⟩ = some (.int .i64 l[k].lba) ∧ w.cell? ⟨g, o + k * 2 + 1, none⟩ = some (.slice dp l[k].data.length dc) ∧ I64 l[k].lba ∧ BytesAt G w (.slice dp l[k].data.length dc) l[k].data := by
 obtain ⟨p', c', he, _, _, _, h4⟩ := h
 cases he
 obtain ⟨g, o, rfl, hg, h1, h2, dv, h3, h5⟩ := h4 k hk
 obtain ⟨dp, dc, rfl, _⟩ := id h5
 exact ⟨g, o, dp, dc, rfl, hg, h1, h3, h2, h5⟩
set_option maxRecDepth 100000 in
set_option maxHeartbeats 1000000 in
theorem refBufGet_any (F : Nat → Prop) (v : Value) (blocks most : Int) (L : List Put) (lba : Int) (w : World) (hp : RBufP v blocks most L F w) (hlen : L.length ≤ 1000000) :
  Calls Tryz.prog 148 #[v, .int .i64 lba] w fun e w' => ∃ dv, e = .returned (.tuple #[dv, .bool (lookP L lba).isSome]) ∧ Hid (BytesAt F w' dv ((lookP L lba).getD [])) ∧ Hid (Below w.heap.size w w') := by
 obtain ⟨b, lv, rfl, hFb, hh, h4⟩ := hp
 obtain ⟨p, c, rfl⟩ := putsAt_shape h4
 have hc2 : w.cell? ⟨b, 2, none⟩ = some (.slice p L.length c) := by rw [cell_row hh]; rfl
 have H4 := Lib.hid h4
 have HH := Lib.hid hh
 clear h4 hh
 go_enter Tryz.func148, Tryz.ntmps148
 go_wp2_with fail
 go_loopw [6] (fun i wr => ∃ k : Nat, k ≤ L.length ∧ i = .int .i64 k ∧ Hid (Below w.heap.size w wr) ∧ Hid (lookP (L.take k) lba = none)) (fun i _ => L.length - (intOf i).toNat)
 case atStart => exact ⟨0, by omega, rfl, Lib.hid (Below.refl _ _), Lib.hid rfl⟩
 case round =>
  obtain ⟨k, hk, rfl, HB, HN⟩ := hrel
  have hc2' := cell_up HB.out hc2
  by_cases hlt : k < L.length
  case pos =>
   obtain ⟨g, o, dp, dc, rfl, _, hk1, hk2, _, hkd⟩ := putsAt_get (PutsAt.up H4.out HB.out) k hlt
   have hkI : (k : Int) < (L.length : Int) := by omega
   have hnx : lookP (L.take (k + 1)) lba = if L[k].lba = lba then some L[k].data else none := by
    rw [take_snoc _ _ hlt, lookP_append, HN.out, lookP_cons, lookP_nil]
    rfl
   have hall : L[k].lba = lba → lookP L lba = some L[k].data := fun e => by
    have h0 : lookP (L.take (k + 1) ++ L.drop (k + 1)) lba = some L[k].data := by rw [lookP_append, hnx, if_pos e]; rfl
    rwa [List.take_append_drop] at h0
   generalize L[k] = x at *
   by_cases hx : x.lba = lba
   case pos =>
    have hxb : (x.lba == lba) = true := by rw [beq_iff_eq]; exact hx
    have hfin := hall hx
    have hby : BytesAt F wr (.slice dp x.data.length dc) x.data := BytesAt.mono hkd fun q hq => hq.1
    have HFIN := Lib.hid hfin
    have HX := Lib.hid hx
    have HNX := Lib.hid hnx
    have HALL := Lib.hid hall
    have HKD := Lib.hid hkd
    have HBY := Lib.hid hby
    clear hfin hx hnx hall hkd hby
    go_wp2_with fail
    go_ret2
    rw [HFIN.out]
    exact ⟨_, rfl, HBY, HB⟩
   case neg =>
    have hxb : (x.lba == lba) = false := by rw [beq_eq_false_iff_ne]; exact hx
    rw [if_neg hx] at hnx
    have HX := Lib.hid hx
    have HNX := Lib.hid hnx
    have HALL := Lib.hid hall
    have HKD := Lib.hid hkd
    clear hx hnx hall hkd
    go_wp2_with fail
    go_roundw
    case rel => exact ⟨k + 1, by omega, by go_num, HB, HNX⟩
    case measure => simp [intOf]; omega
  case neg =>
   have hfin : lookP L lba = none := by
    have := HN.out
    rwa [List.take_of_length_le (by omega)] at this
   have HFIN := Lib.hid hfin
   clear hfin
   go_wp2_with fail
   go_ret2
   rw [HFIN.out]
   exact ⟨_, rfl, Lib.hid SlAt.nil, HB⟩
end Go.Proofs
namespace Go.Proofs
open Go.RowKit Sc
theorem add_radd64 {S : List Ext} (e : Ext) : addCode 64 S [e] = radd 64 S [e] := by
 unfold addCode radd
 cases hq : allB [e] with
 | false => rfl
 | true =>
  simp only [Bool.true_eq_false, if_false]
  rw [if_neg (show ¬ [e] = [] from by simp), show max (64 : Int) 0 = 64 from by decide]
theorem addNext_radd64 {S : List Ext} (e : Ext) : addNext 64 S [e] = raddNext 64 S [e] := by
 unfold addNext raddNext
 rw [add_radd64]
theorem within_may {blocks : Int} (hb : blocks ≤ 1048576) (e : Ext) : withinB blocks e.first e.len = (mayB e && decide (e.first + e.len ≤ blocks)) := by
 rw [Bool.eq_iff_iff]
 unfold withinB
 simp only [Bool.and_eq_true, decide_eq_true_eq, mayB_iff]
 omega
structure MapR (vs : Vers) (L : List RVer) : Prop where
 asc : AscV L
 look : ∀ k, (alook vs k).getD [] = grp L k
theorem MapR.start : MapR [] [] := ⟨List.Pairwise.nil, fun _ => rfl⟩
theorem putG_one {t : Int} : ∀ {ps : List Put} {p : Put}, (ps.map (·.lba)).Nodup → p ∈ ps → putG t ps p.lba = [⟨t, p.data⟩]
 | [], _, _, h => by cases h
 | q :: ps, p, hn, h => by
  rw [List.map_cons, List.nodup_cons] at hn
  rcases List.mem_cons.1 h with rfl | hp
  ·have e : putG t (p :: ps) p.lba = putG t [p] p.lba ++ putG t ps p.lba := putG_append t [p] ps p.lba
   rw [e, putG_none fun r hr e => hn.1 (List.mem_map.2 ⟨r, hr, e⟩)]
   unfold putG; simp
  ·have e : putG t (q :: ps) p.lba = putG t [q] p.lba ++ putG t ps p.lba := putG_append t [q] ps p.lba
   rw [e, putG_one hn.2 hp, putG_none fun r hr e2 => hn.1 (List.mem_map.2 ⟨p, hp, by rw [← e2, List.mem_singleton.1 hr]⟩)]
   rfl
theorem MapR.next {blocks last : Int} {vs : Vers} {L : List RVer} (h : MapR vs L) (t : Tx) : MapR (applyNext blocks last vs t) (if applyCode blocks last t = 0 then mergeV t.time t.puts L else L) := by
 unfold applyNext
 split
 ·rename_i hc
  have hr := riseB_pairwise (code_zero hc).2.2.1
  have hn := pairwise_nodup hr
  refine ⟨asc_merge _ L t.puts h.asc hr, fun k => ?_⟩
  rw [grp_merge _ k L t.puts h.asc hr, ← h.look k]
  by_cases hk : ∃ p ∈ t.puts, p.lba = k
  ·obtain ⟨p, hp, rfl⟩ := hk
   rw [applyVs_mine _ _ _ p hn hp, putG_one hn hp]; rfl
  ·have hno : ∀ p ∈ t.puts, p.lba ≠ k := fun p hp e => hk ⟨p, hp, e⟩
   rw [applyVs_other _ _ _ k hno, putG_none hno, List.append_nil]
 ·exact h
theorem MapR.get {vs : Vers} {L : List RVer} (h : MapR vs L) (k t : Int) : getR L k t = getV vs k t := getR_get h.look k t
theorem blk_ref {vs : Vers} {L : List RVer} {s : List (Int × Bytes)} {rb : List Put} (hm : MapR vs L) (hb : BufR s rb) (t k : Int) : blkV vs s t k = (lookP rb k).getD (getR L k t).1 := by
 unfold blkV
 rw [hm.get, hb.look]
theorem own_ref {s : List (Int × Bytes)} {rb : List Put} (hb : BufR s rb) (k : Int) : (alook s k).isSome = (lookP rb k).isSome := by rw [hb.look]
end Go.Proofs
namespace Go.Proofs
open Go.RowKit Sc
def RViewV (F : Nat → Prop) (w : World) (z : Nat) (xv yv : Value) (t : Int) (S : List Ext) (R : List Sc.Read) (rv : Value) : Prop :=
 ∃ sv D, F z ∧ w.heap[z]? = some (.cells #[xv, yv, .int .i64 t, .int .i64 64, sv, rv] 157 (0, 0)) ∧ ExtsAt (fun q => F q ∧ q ≠ z ∧ rv.ownBlock ≠ some q) w sv S ∧ OutS 76 3 readR 0 w rv R D ∧ (∀ g, rv.ownBlock = some g → F g ∧ g ≠ z) ∧ ∀ q, D q → F q ∧ q ≠ z
def RViewIs (F : Nat → Prop) (w : World) (z : Nat) (xv yv : Value) (t : Int) (S : List Ext) (R : List Sc.Read) : Prop := ∃ rv, RViewV F w z xv yv t S R rv
theorem RViewV.same {F : Nat → Prop} {w w' : World} {z : Nat} {xv yv : Value} {t : Int} {S : List Ext} {R : List Sc.Read} {rv : Value} (h : RViewV F w z xv yv t S R rv) (hs : Same F w w') (hz : w.heap.size ≤ w'.heap.size) : RViewV F w' z xv yv t S R rv :=
 let ⟨sv, D, h1, h2, h3, h4, h5, h6⟩ := h
 ⟨sv, D, h1, (hs z h1).trans h2, h3.same (fun q hq => hs q hq.1), h4.same readR_stable hs hz (fun g hg => (h5 g hg).1) (fun q hq => (h6 q hq).1), h5, h6⟩
theorem RViewV.mono {F F' : Nat → Prop} {w : World} {z : Nat} {xv yv : Value} {t : Int} {S : List Ext} {R : List Sc.Read} {rv : Value} (h : RViewV F w z xv yv t S R rv) (hF : ∀ k, F k → F' k) : RViewV F' w z xv yv t S R rv :=
 let ⟨sv, D, h1, h2, h3, h4, h5, h6⟩ := h
 ⟨sv, D, hF _ h1, h2, SlAt.mono h3 (fun q hq => ⟨hF q hq.1, hq.2⟩) (fun _ _ _ h => h), h4, fun g hg => ⟨hF g (h5 g hg).1, (h5 g hg).2⟩, fun q hq => ⟨hF q (h6 q hq).1, (h6 q hq).2⟩⟩
def RViewA (z : Nat) (xv yv : Value) (t : Int) (S : List Ext) (R : List Sc.Read) : Asn := ⟨fun F w => RViewIs F w z xv yv t S R, fun _ _ _ hs hz ⟨rv, h⟩ => ⟨rv, h.same hs hz⟩⟩
theorem rv_cells {F : Nat → Prop} {w : World} {z : Nat} {xv yv : Value} {t : Int} {S : List Ext} {R : List Sc.Read} {rv : Value} (h : RViewV F w z xv yv t S R rv) : w.cell? ⟨z, 0, none⟩ = some xv ∧ w.cell? ⟨z, 1, none⟩ = some yv ∧ w.cell? ⟨z, 2, none⟩ = some (.int .i64 t) ∧ w.cell? ⟨z, 5, none⟩ = some rv ∧ (∃ sv, w.cell? ⟨z, 4, none⟩ = some sv) := by
 obtain ⟨sv, _, _, h, _⟩ := h
 exact ⟨by rw [cell_row h]; rfl, by rw [cell_row h]; rfl, by rw [cell_row h]; rfl, by rw [cell_row h]; rfl, sv, by rw [cell_row h]; rfl⟩
theorem rv_set {F : Nat → Prop} {w wr : World} {z : Nat} {xv yv : Value} {t : Int} {S S' : List Ext} {R : List Sc.Read} {rv : Value} (h : RViewV F w z xv yv t S R rv) (hd : Dom F w) (hb : Below w.heap.size w wr) {po : Option Addr} {co : Nat} (hx : ExtsAt (New w wr) wr (.slice po S'.length co) S') :
  Chg F w (wr.setCell ⟨z, 4, none⟩ (.slice po S'.length co)) ∧ RViewV (fun q => F q ∨ New w (wr.setCell ⟨z, 4, none⟩ (.slice po S'.length co)) q) (wr.setCell ⟨z, 4, none⟩ (.slice po S'.length co)) z xv yv t S' R rv := by
 obtain ⟨sv, D, h1, h2, h3, h4, h5, h6⟩ := h
 have hzl := hd z h1
 have hz : (wr.setCell ⟨z, 4, none⟩ (.slice po S'.length co)).heap.size = wr.heap.size := by simp [World.setCell]
 have hs : Same (fun q => q ≠ z) wr (wr.setCell ⟨z, 4, none⟩ (.slice po S'.length co)) := fun q hq => Below.heap_setCell _ _ _ q hq
 have hhr := (hb.block z hzl).trans h2
 refine ⟨(Chg.of_below hb fun k q1 q2 => by omega).trans (chg_set wr z 4 _ h1), .slice po S'.length co, D, .inl h1, by rw [heap_set_same hhr]; rfl, ?_, ?_, fun g hg => ⟨.inl (h5 g hg).1, (h5 g hg).2⟩, fun q hq => ⟨.inl (h6 q hq).1, (h6 q hq).2⟩⟩
 ·refine SlAt.mono (ExtsAt.same hx fun q hq => hs q (by have := hq.1; omega)) (fun q hq => ⟨.inr ⟨hq.1, by rw [hz]; exact hq.2⟩, by have := hq.1; omega, fun e => ?_⟩) (fun _ _ _ h => h)
  have := hd q (h5 q e).1
  have := hq.1; omega
 ·exact (h4.up readR_stable hb).same readR_stable hs (by rw [hz]; exact Nat.le_refl _) (fun g hg => (h5 g hg).2) (fun q hq => (h6 q hq).2)
set_option maxRecDepth 100000 in
theorem rv_push {F : Nat → Prop} {W : World} {z : Nat} {xv yv : Value} {t : Int} {S : List Ext} {R : List Sc.Read} {rv : Value} (h : RViewV F W z xv yv t S R rv) (hd : Dom F W) {D3 : Nat → Prop} {cs : List Value} {x : Sc.Read} (hcs : cs.length = 3) (hx : readR D3 W cs x) (h3 : ∀ b, D3 b → F b ∧ b ≠ z ∧ rv.ownBlock ≠ some b)
  (ad : Addr) (c : Nat) (hc : ∀ j u, cs[j]? = some u → W.cell? (ad.add j) = some u) (h1 : ∀ u ∈ cs, u.oneCell' = true) (hn : R.length ≤ 1000000) :
  ∃ g cap w', (Builtin.append_ #[71, 71] 71 #[rv, .slice (some ad) 1 c]).run Tryz.prog W = .ok (.slice (some ⟨g, 0, none⟩) (R.length + 1) cap) w' ∧ w'.cell? ⟨z, 5, none⟩ = some rv ∧ w'.frozen? ⟨z, 5, none⟩ = false ∧ (∀ q, q < W.heap.size → rv.ownBlock ≠ some q → w'.heap[q]? = W.heap[q]?) ∧
   Hid (Chg F W (w'.setCell ⟨z, 5, none⟩ (.slice (some ⟨g, 0, none⟩) (R.length + 1) cap))) ∧ Hid (RViewV (fun q => F q ∨ New W (w'.setCell ⟨z, 5, none⟩ (.slice (some ⟨g, 0, none⟩) (R.length + 1) cap)) q) (w'.setCell ⟨z, 5, none⟩ (.slice (some ⟨g, 0, none⟩) (R.length + 1) cap)) z xv yv t S (R ++ [x]) (.slice (some ⟨g, 0, none⟩) (R.length + 1) cap)) := by
 obtain ⟨i0, hi, hz0, hz1, hz2⟩ := info_parts infoRead
 obtain ⟨sv, D, q1, q2, q3, ⟨css, p1, p2, p3, p4, p5⟩, q5, q6⟩ := h
 obtain ⟨v', w', hr, ho, hg, hne, hat⟩ := run_append_own_at (P := Tryz.prog) W 0 71 71 76 i0 (.agg #[.int .i64 0, .slice none 0 0, .bool false]) 3 40 Tryz.underlying71 hi hz0 hz1 hz2 rfl (by decide) rv R.length css.flatten p3 ad 1 c cs (by rw [hcs]) hc h1 (by unfold maxLen; omega) (by omega) (Nat.zero_le _)
 obtain ⟨_, ⟨rfl, h0⟩ | ⟨g, cap, cur, rfl, hrest⟩⟩ := ho
 ·exact absurd h0 (by omega)
 have hat' : rv.ownBlock = some g ∨ g = W.heap.size := by
  rcases hat with e | e
  ·exact .inl e.symm
  ·exact .inr (by simpa [Value.ownBlock] using e)
 have hzl := hd z q1
 have hgz : g ≠ z := by
  rcases hat' with e | e
  ·exact (q5 g e).2
  ·omega
 have hro : rv.ownBlock ≠ some z := fun e => (q5 z e).2 rfl
 have hown : w'.ownsRow 0 76 3 (.slice (some ⟨g, 0, none⟩) (R.length + 1) cap) (R.length + 1) (css.flatten ++ cs) := ⟨by assumption, .inr ⟨g, cap, cur, rfl, hrest⟩⟩
 have hlt := (hown.lt g rfl).2
 have hsn := OutS.snoc (l := R) (x := x) readR_stable p1 p2 p4 p5 hcs hx (fun b hb => ⟨Nat.zero_le _, hd b (h3 b hb).1, (h3 b hb).2.2⟩) hown hg hat'
 have hh' : w'.heap[z]? = _ := (hg.block z hzl (fun e => hro e.symm)).trans q2
 have hz : (w'.setCell ⟨z, 5, none⟩ (.slice (some ⟨g, 0, none⟩) (R.length + 1) cap)).heap.size = w'.heap.size := by simp [World.setCell]
 have hs : Same (fun q => q ≠ z) w' (w'.setCell ⟨z, 5, none⟩ (.slice (some ⟨g, 0, none⟩) (R.length + 1) cap)) := fun q hq => Below.heap_setCell _ _ _ q hq
 have hgF : F g ∨ New W (w'.setCell ⟨z, 5, none⟩ (.slice (some ⟨g, 0, none⟩) (R.length + 1) cap)) g := by
  rcases hat' with e | e
  ·exact .inl (q5 g e).1
  ·exact .inr ⟨by omega, by rw [hz]; exact hlt⟩
 have hll : (R ++ [x]).length = R.length + 1 := by simp
 refine ⟨g, cap, w', hr, by rw [cell_row hh']; rfl, fz_row hh' 5, fun q hq hqo => hg.block q hq (fun e => hqo e.symm), (chg_grown hg fun k hk => (q5 k hk).1).trans (chg_set w' z 5 _ q1), sv, fun b => D b ∨ D3 b, .inl q1, by rw [heap_set_same hh']; rfl, ?_, ?_, ?_, ?_⟩
 ·refine SlAt.mono (ExtsAt.same q3 (w' := w'.setCell ⟨z, 5, none⟩ (.slice (some ⟨g, 0, none⟩) (R.length + 1) cap)) fun q hq => (hs q hq.2.1).trans (hg.block q (hd q hq.1) (fun e => hq.2.2 e.symm))) (fun q hq => ⟨.inl hq.1, hq.2.1, fun e => ?_⟩) (fun _ _ _ h => h)
  have e' : g = q := by simpa [Value.ownBlock] using e
  subst e'
  rcases hat' with e | e
  ·exact hq.2.2 e
  ·have := hd g hq.1; omega
 ·have := hsn.same (F := fun q => q ≠ z) readR_stable hs (by rw [hz]; exact Nat.le_refl _) (fun q hq => by
   obtain rfl : g = q := by simpa [Value.ownBlock] using hq
   exact hgz) (fun q hq => hq.elim (fun h => (q6 q h).2) fun h => (h3 q h).2.1)
  rw [← hll] at this ⊢
  exact this
 ·intro q hq
  obtain rfl : g = q := by simpa [Value.ownBlock] using hq
  exact ⟨hgF, hgz⟩
 ·rintro q (hq | hq)
  ·exact ⟨.inl (q6 q hq).1, (q6 q hq).2⟩
  ·exact ⟨.inl (h3 q hq).1, (h3 q hq).2.1⟩
set_option maxRecDepth 100000 in
set_option maxHeartbeats 2000000 in
theorem refIn_any (G : Nat → Prop) (v : Value) (blocks last : Int) (L : List RVer) (e : Ext) (w : World) (hm : RMapIs G w v blocks last L) (hbl : blocks ≤ 1048576) (i1 : I64 e.first) (i2 : I64 e.len) :
  Calls Tryz.prog 146 #[v, .agg #[.int .i64 e.first, .int .i64 e.len]] w fun r w' => r = .returned (.bool (withinB blocks e.first e.len)) ∧ Hid (Below w.heap.size w w') := by
 obtain ⟨b, lv, D, rfl, hFb, hh, _⟩ := hm
 have hba := below_alloc w (.cells #[.int .i64 e.first, .int .i64 e.len] 56)
 have hnw := heap_alloc_new w (.cells #[.int .i64 e.first, .int .i64 e.len] 56 (0, 0))
 have z0 : (w.alloc (.cells #[.int .i64 e.first, .int .i64 e.len] 56 (0, 0))).cell? ⟨w.heap.size, 0, none⟩ = some (.int .i64 e.first) := by rw [cell_row hnw]; rfl
 have z1 : (w.alloc (.cells #[.int .i64 e.first, .int .i64 e.len] 56 (0, 0))).cell? ⟨w.heap.size, 1, none⟩ = some (.int .i64 e.len) := by rw [cell_row hnw]; rfl
 have c0 := cell_up hba (show w.cell? ⟨b, 0, none⟩ = some (.int .i64 blocks) by rw [cell_row hh]; rfl)
 have HBA := Lib.hid hba
 have hwm := within_may hbl e
 have hii := mayB_iff (e := e)
 have HWM := Lib.hid hwm
 have HII := Lib.hid hii
 clear hba hnw hh hwm hii
 go_enter Tryz.func146, Tryz.ntmps146
 go_wp2_with fail
 generalize hW0 : w.alloc (.cells #[.int .i64 e.first, .int .i64 e.len] 56 (0, 0)) = W0 at *
 have hd0 : Below W0.heap.size W0 W0.drew := below_drewN (Below.refl _ _) 1
 cases hq : mayB e with
 | false =>
  refine wp_regionG (fun W => Below W0.heap.size W0 W) (n := 15) (by kernel_rfl) (by kernel_rfl) ?_
  refine wpG.tk 0 ?_ (hy := by intro W hW; have hld0 := cell_up hW z0; have hld1 := cell_up hW z1; go_simp; try with_reducible rfl)
  refine wpG.alone 1 rfl (by kernel_rfl) (by kernel_rfl) (hd0) (fun K hK => ?_)
  go_simp
  go_at_call 167
  refine (refMayE_any e W0.drew i1 i2).mono ?_
  rintro r w2 ⟨rfl, hb2⟩
  have hb3 := Below.up hd0 hb2
  rw [hq]
  try go_simp
  refine hK _ _ ?_
  clear hK K
  refine wpG.tk 2 ?_
  refine wpG.sk 3 ?_
  refine wpG.sk 4 ?_
  refine wpG.sk 5 ?_
  refine wpG.sk 6 ?_
  refine wpG.sk 7 ?_
  refine wpG.sk 8 ?_
  refine wpG.sk 9 ?_
  refine wpG.sk 10 ?_
  refine wpG.sk 11 ?_
  refine wpG.sk 12 ?_
  refine wpG.tk 13 ?_
  refine wpG.tk 14 ?_
  refine wpG.done (by kernel_rfl) hb3 ?_
  go_wp2_with fail
  go_ret
  refine ⟨?_, Below.up HBA.out hb3⟩
  rw [HWM.out, hq]; rfl
 | true =>
  obtain ⟨a1, a2, a3, a4, a5⟩ := HII.out.1 hq
  have hw1 : IntKind.i64.wrap (e.first + e.len) = e.first + e.len := IntWalk.i64_in _ (by omega)
  refine wp_regionG (fun W => Below W0.heap.size W0 W) (n := 15) (by kernel_rfl) (by kernel_rfl) ?_
  refine wpG.tk 0 ?_ (hy := by intro W hW; have hld0 := cell_up hW z0; have hld1 := cell_up hW z1; go_simp; try with_reducible rfl)
  refine wpG.alone 1 rfl (by kernel_rfl) (by kernel_rfl) (hd0) (fun K hK => ?_)
  go_simp
  go_at_call 167
  refine (refMayE_any e W0.drew i1 i2).mono ?_
  rintro r w2 ⟨rfl, hb2⟩
  have hb3 := Below.up hd0 hb2
  rw [hq]
  try go_simp
  refine hK _ _ ?_
  clear hK K
  refine wpG.tk 2 ?_
  refine wpG.tk 3 ?_
  refine wpG.tk 4 ?_ (hy := by intro W hW; have hld0 := cell_up hW z0; go_simp; try with_reducible rfl)
  refine wpG.tk 5 ?_
  refine wpG.tk 6 ?_ (hy := by intro W hW; have hld0 := cell_up hW z1; go_simp; try with_reducible rfl)
  refine wpG.tk 7 ?_
  refine wpG.tk 8 ?_
  refine wpG.tk 9 ?_
  refine wpG.tk 10 ?_
  refine wpG.tk 11 ?_ (hy := by intro W hW; have hld0 := cell_up hW c0; go_simp; try with_reducible rfl)
  refine wpG.tk 12 ?_
  refine wpG.tk 13 ?_
  refine wpG.tk 14 ?_
  refine wpG.done (by kernel_rfl) hb3 ?_
  go_wp2_with fail
  go_ret
  refine ⟨?_, Below.up HBA.out hb3⟩
  rw [HWM.out, hq]; rfl
end Go.Proofs