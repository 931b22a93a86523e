/- Texts of this claim, one behind the other: RefView2P, StepRun, RefView2, RefMap2. -/
import Derived.Deep.DeepCutAuto
import Derived.Deep.CutRange
import Derived.BigQuiet
import Derived.Test.YtajjadoalfjnkaaGreatRp6
namespace Go.Proofs
open Go.RowKit Sc
def u8L (bs : Bytes) : List Value := bs.map fun x => .int .u8 (x.toNat : Int)
def VR (F : Nat → Prop) (w0 : World) (N : Nat) (wr : World) (z : Nat) (xv yv : Value) (t : Int) (S : List Ext) (R : List Sc.Read) (rv ov : Value) (bs : Bytes) : Prop :=
 ∃ Fv : Nat → Prop, Chg F w0 wr ∧ RViewV Fv wr z xv yv t S R rv ∧ N ≤ wr.heap.size ∧ (∀ q, Fv q → (F q ∨ w0.heap.size ≤ q) ∧ q < N) ∧ wr.ownsRow w0.heap.size 5 1 ov bs.length (u8L bs) ∧ ∀ g, ov.ownBlock = some g → ¬ Fv g ∧ g < N
section
variable {F : Nat → Prop} {w0 wr : World} {N z : Nat} {xv yv rv ov : Value} {t : Int} {S : List Ext} {R : List Sc.Read} {bs : Bytes}
theorem VR.up (h : VR F w0 N wr z xv yv t S R rv ov bs) {w' : World} (hb : Below wr.heap.size wr w') : VR F w0 N w' z xv yv t S R rv ov bs := by
 obtain ⟨Fv, h1, h2, h3, h4, h5, h6⟩ := h
 exact ⟨Fv, h1.then_up hb, h2.same (fun q hq => hb.block q (by have := (h4 q hq).2; omega)) hb.size, Nat.le_trans h3 hb.size, h4, ownsRow_up h5 hb, h6⟩
theorem VR.start {w1 : World} (hc : Chg F w0 w1) (hv : RViewV (fun q => F q ∨ New w0 w1 q) w1 z xv yv t S R rv) (hd : Dom F w0) : VR F w0 w1.heap.size w1 z xv yv t S R rv (.slice none 0 0) [] :=
 ⟨_, hc, hv, Nat.le_refl _, fun q hq => hq.elim (fun h => ⟨.inl h, Nat.lt_of_lt_of_le (hd q h) hc.size⟩) fun h => ⟨.inr h.1, h.2⟩, World.ownsRow_nil _ _ _ _, fun g hg => by simp [Value.ownBlock] at hg⟩
theorem VR.cells (h : VR F w0 N wr z xv yv t S R rv ov bs) : wr.cell? ⟨z, 0, none⟩ = some xv ∧ wr.cell? ⟨z, 1, none⟩ = some yv ∧ wr.cell? ⟨z, 2, none⟩ = some (.int .i64 t) ∧ wr.cell? ⟨z, 5, none⟩ = some rv := by
 obtain ⟨Fv, h1, h2, _⟩ := h
 exact ⟨(rv_cells h2).1, (rv_cells h2).2.1, (rv_cells h2).2.2.1, (rv_cells h2).2.2.2.1⟩
theorem VR.chg (h : VR F w0 N wr z xv yv t S R rv ov bs) : Chg F w0 wr := by obtain ⟨Fv, h1, _⟩ := h; exact h1
theorem VR.fin (h : VR F w0 N wr z xv yv t S R rv ov bs) : RViewIs (fun q => F q ∨ New w0 wr q) wr z xv yv t S R := by
 obtain ⟨Fv, h1, h2, h3, h4, _⟩ := h
 exact ⟨rv, h2.mono fun q hq => (h4 q hq).1.imp id fun h => ⟨h, by have := (h4 q hq).2; omega⟩⟩
theorem VR.bytes (h : VR F w0 N wr z xv yv t S R rv ov bs) : BytesAt (fun _ => True) wr ov bs := by
 obtain ⟨Fv, _, _, _, _, h5, _⟩ := h
 exact bytesAt_own _ rfl (fun _ _ _ => trivial) h5
theorem VR.push (h : VR F w0 N wr z xv yv t S R rv ov bs) {w3 : World} (hb3 : Below wr.heap.size wr w3) {p1 : Option Addr} {c1 : Nat} {x : Sc.Read} (hx : I64 x.lba) (hdat : BytesAt (New wr w3) w3 (.slice p1 x.data.length c1) x.data) {Dd : Nat → Prop} {dv : Value} {d : Bytes} (hd : BytesAt Dd wr dv d) (hDd : ∀ q, Dd q → q < wr.heap.size ∧ ((q < w0.heap.size ∧ ¬ F q) ∨ N ≤ q)) (hn : R.length ≤ 1000000)
  {eb : Nat} (heb : eb < w0.heap.size ∧ ¬ F eb) {u : Value} (heu : wr.cell? ⟨eb, 0, none⟩ = some u) :
  ∃ g cap w6, (Builtin.append_ #[71, 71] 71 #[rv, .slice (some ⟨w3.heap.size, 0, none⟩) 1 1]).run Tryz.prog (w3.alloc (.cells #[.int .i64 x.lba, .slice p1 x.data.length c1, .bool x.own] 76)) = .ok (.slice (some ⟨g, 0, none⟩) (R.length + 1) cap) w6 ∧ w6.cell? ⟨z, 5, none⟩ = some rv ∧ w6.frozen? ⟨z, 5, none⟩ = false ∧ w6.cell? ⟨eb, 0, none⟩ = some u ∧
   Hid (VR F w0 (w6.setCell ⟨z, 5, none⟩ (.slice (some ⟨g, 0, none⟩) (R.length + 1) cap)).heap.size (w6.setCell ⟨z, 5, none⟩ (.slice (some ⟨g, 0, none⟩) (R.length + 1) cap)) z xv yv t S (R ++ [x]) (.slice (some ⟨g, 0, none⟩) (R.length + 1) cap) ov bs) ∧
   Hid (BytesAt Dd (w6.setCell ⟨z, 5, none⟩ (.slice (some ⟨g, 0, none⟩) (R.length + 1) cap)) dv d) := by
 obtain ⟨Fv, h1, h2, h3, h4, h5, h6⟩ := h
 have hba := below_alloc w3 (.cells #[.int .i64 x.lba, .slice p1 x.data.length c1, .bool x.own] 76)
 have hb4 := Below.up hb3 hba
 have hbv : RViewV Fv (w3.alloc (.cells #[.int .i64 x.lba, .slice p1 x.data.length c1, .bool x.own] 76)) z xv yv t S R rv := h2.same (fun q hq => hb4.block q (by have := (h4 q hq).2; omega)) hb4.size
 have hzF : Fv z := by obtain ⟨_, _, h, _⟩ := h2; exact h
 have hrF : ∀ g, rv.ownBlock = some g → Fv g := by obtain ⟨_, _, _, _, _, _, h, _⟩ := h2; exact fun g hg => (h g hg).1
 have hsz3 := hb3.size
 have hsza := hba.size
 obtain ⟨g, cap, w6, q1, q2, q3, q4, q5, q6⟩ := rv_push (F := fun q => Fv q ∨ New wr w3 q) (hbv.mono fun k hk => .inl hk) (fun q hq => by
   rcases hq with h | h
   ·have := (h4 q h).2; omega
   ·have := h.2; omega)
  (D3 := New wr w3) (cs := [.int .i64 x.lba, .slice p1 x.data.length c1, .bool x.own]) (x := x) rfl ⟨_, rfl, hx, BytesAt.up hdat hba⟩ (fun b hb => ⟨.inr hb, fun e => by have := (h4 z hzF).2; have := hb.1; omega, fun e => by have := (h4 b (hrF b e)).2; have := hb.1; omega⟩) ⟨w3.heap.size, 0, none⟩ 1 (World.news_of_block (cs := #[.int .i64 x.lba, .slice p1 x.data.length c1, .bool x.own]) (heap_alloc_new w3 _)) (by simp [Value.oneCell']) hn
 have hz7 : (w6.setCell ⟨z, 5, none⟩ (.slice (some ⟨g, 0, none⟩) (R.length + 1) cap)).heap.size = w6.heap.size := by simp [World.setCell]
 have hsz6 := q5.out.size
 have hblk : ∀ q, q < wr.heap.size → ¬ Fv q → (w6.setCell ⟨z, 5, none⟩ (.slice (some ⟨g, 0, none⟩) (R.length + 1) cap)).heap[q]? = wr.heap[q]? := fun q hq hf =>
  (q5.out.block q (by omega) (fun hh => hh.elim hf fun h => by have := h.1; omega)).trans (hb4.block q hq)
 have hDF : ∀ q, Dd q → ¬ Fv q := fun q hq hf => by
  have := h4 q hf
  rcases (hDd q hq).2 with ⟨a, b⟩ | a
  ·rcases this.1 with c | c
   ·exact b c
   ·omega
  ·omega
 refine ⟨g, cap, w6, q1, q2, q3, ?_, ⟨fun q => (Fv q ∨ New wr w3 q) ∨ New (w3.alloc (.cells #[.int .i64 x.lba, .slice p1 x.data.length c1, .bool x.own] 76)) (w6.setCell ⟨z, 5, none⟩ (.slice (some ⟨g, 0, none⟩) (R.length + 1) cap)) q, ?_, q6.out, Nat.le_refl _, ?_, ?_, ?_⟩, ?_⟩
 ·have hne : ¬ Fv eb := fun hf => by
   rcases (h4 eb hf).1 with c | c
   ·exact heb.2 c
   ·omega
  have hlt : eb < wr.heap.size := World.block_lt_of_cell? wr _ heu
  rw [World.cell?_of_block (w := wr) ((q4 eb (by omega) (fun e => hne (hrF eb e))).trans (hb4.block eb hlt))]
  exact heu
 ·refine (h1.then_up hb4).trans' q5.out fun i hi hh => ?_
  rcases hh with h | h
  ·rcases (h4 i h).1 with c | c
   ·exact c
   ·omega
  ·have := h.1; have := h1.size; omega
 ·rintro q ((h | h) | h)
  ·exact ⟨(h4 q h).1, by have := (h4 q h).2; omega⟩
  ·exact ⟨.inr (by have := h.1; have := h1.size; omega), by have := h.2; omega⟩
  ·exact ⟨.inr (by have := h.1; have := h1.size; omega), h.2⟩
 ·exact row_same (F := fun q => q < wr.heap.size ∧ ¬ Fv q) (fun q hq => hblk q hq.1 hq.2) h5 fun g' hg' => ⟨by have := (h6 g' hg').2; omega, (h6 g' hg').1⟩
 ·intro g' hg'
  obtain ⟨a, b⟩ := h6 g' hg'
  refine ⟨?_, by omega⟩
  rintro ((h | h) | h)
  ·exact a h
  ·have := h.1; omega
  ·have := h.1; omega
 ·exact BytesAt.same hd fun q hq => hblk q (hDd q hq).1 (hDF q hq)
theorem VR.out (h : VR F w0 N wr z xv yv t S R rv ov bs) {Dd : Nat → Prop} {dp : Option Addr} {dc : Nat} {d : Bytes} (hd : BytesAt Dd wr (.slice dp d.length dc) d) (hl : bs.length + d.length ≤ 100000) :
  ∃ po co w8, (Builtin.append_ #[30, 30] 30 #[ov, .slice dp d.length dc]).run Tryz.prog wr = .ok (.slice po (bs.length + d.length) co) w8 ∧ Hid (VR F w0 w8.heap.size w8 z xv yv t S R rv (.slice po (bs.length + d.length) co) (bs ++ d)) := by
 obtain ⟨Fv, h1, h2, h3, h4, h5, h6⟩ := h
 obtain ⟨i0, hi, hz0, hz1, hz2⟩ := info_parts infoU8
 obtain ⟨p0, c0, he, a1, a2, a3, a4⟩ := hd
 cases he
 have hs1 := h1.size
 obtain ⟨v', w', hr, r2, r3, r4⟩ := run_append_any0 (P := Tryz.prog) wr 30 30 w0.heap.size 5 i0 (.int .u8 0) 1 1 Tryz.underlying30 hi hz0 hz1 hz2 rfl (by decide) ov bs.length (u8L bs) h5 dp d.length dc (fun hp => by have := a3 hp; omega) (u8L d) (by unfold u8L; simp)
  (fun a ha j u hj => by
    subst ha
    unfold u8L at hj
    simp only [List.getElem?_map, Option.map_eq_some_iff] at hj
    obtain ⟨x, hx, rfl⟩ := hj
    obtain ⟨hjl, rfl⟩ := List.getElem?_eq_some_iff.1 hx
    obtain ⟨b, o, hp, _, he⟩ := a4 j hjl
    cases hp
    unfold byteE at he
    rw [Nat.mul_one] at he
    have hadd : (⟨b, o, none⟩ : Addr).add j = ⟨b, o + j, none⟩ := by unfold Addr.add; split <;> simp_all
    rw [hadd]; exact he)
  (fun u hu => by unfold u8L at hu; obtain ⟨z, _, rfl⟩ := List.mem_map.1 hu; rfl) (by unfold maxLen; omega) (by omega) h1.size
 obtain ⟨po, co, rfl⟩ := ownsRow_shape r2
 have hnF : ∀ q, Fv q → wr.heap[q]? = w'.heap[q]? ∧ q < w'.heap.size := fun q hq => by
  have hq2 := (h4 q hq).2
  have hb := r3.block q (by omega) (fun e => (h6 q e.symm).1 hq)
  exact ⟨hb.symm, by have := r3.size; omega⟩
 have hlt := h5.lt
 have hlen : (bs ++ d).length = bs.length + d.length := by simp
 refine ⟨po, co, w', hr, Fv, h1.trans' (chg_grown r3 (S := fun q => w0.heap.size ≤ q) fun k hk => (hlt k hk).1) (fun i hi hh => by omega), h2.same (fun q hq => (hnF q hq).1.symm) r3.size, Nat.le_refl _, fun q hq => ⟨(h4 q hq).1, (hnF q hq).2⟩, ?_, fun g hg => ?_⟩
 ·rw [hlen]
  have e : u8L (bs ++ d) = u8L bs ++ u8L d := by unfold u8L; rw [List.map_append]
  rw [e]
  exact r2
 ·refine ⟨fun hf => ?_, (r2.lt g hg).2⟩
  rcases r4 with e | e
  ·rw [hg] at e
   exact (h6 g e.symm).1 hf
  ·rw [hg] at e
   have := (h4 g hf).2
   cases e
   omega
end
end Go.Proofs
namespace Sc
open Go Go.RowKit
theorem step_append_run {P : Program} (w : World) {ops : Array Oper} {o : Oper} {a : Act} {K : Act → World → Prop} {Q : Exit → Act → World → Prop} {E : Prop} (hgd : o.guard = none) (s x : Operand) (t : TypeId)
  (ho : o.op = .call { callee := .builtin .append, args := #[s, x], argTypes := #[t, t] }) (v u : Value) (hs : a.eval s = v) (hx : a.eval x = u) {v' : Value} {w' : World}
  (hr : (Builtin.append_ #[t, t] o.type #[v, u]).run P w = .ok v' w') (h : K (a.put o.dst v') w') : if Region.wanted o (yielded ops a.tmps) = true then Oper.wp P o a w K Q else E := by
 have hw : Region.wanted o (yielded ops a.tmps) = true := by simp [Region.wanted, hgd]
 rw [if_pos hw]
 unfold Oper.wp execOp
 simp only [ho, resolve, invoke, builtin, Sem.run_bind, Sem.run_pure, Result.andThen_ok, List.map_toArray, List.map_cons, List.map_nil, hs, hx, hr]
 exact h
end Sc
namespace Go.Proofs
open Go.RowKit Sc
def refBlk (L : List RVer) (s : List Put) (t k : Int) : Bytes := (lookP s k).getD (getR L k t).1
def refReads (L : List RVer) (s : List Put) (t a : Int) (m : Nat) : List Sc.Read := (List.range m).map fun i : Nat => ⟨a + i, refBlk L s t (a + i), (lookP s (a + i)).isSome⟩
theorem refReads_succ (L : List RVer) (s : List Put) (t a : Int) (m : Nat) : refReads L s t a (m + 1) = refReads L s t a m ++ [⟨a + m, refBlk L s t (a + m), (lookP s (a + m)).isSome⟩] := by unfold refReads; rw [List.range_succ]; simp
theorem refReads_length (L : List RVer) (s : List Put) (t a : Int) (m : Nat) : (refReads L s t a m).length = m := by simp [refReads]
def refRows (L : List RVer) (s : List Put) (t a : Int) (m : Nat) : Bytes := rowsF (fun i : Nat => refBlk L s t (a + i)) m
theorem refRows_succ (L : List RVer) (s : List Put) (t a : Int) (m : Nat) : refRows L s t a (m + 1) = refRows L s t a m ++ refBlk L s t (a + m) := rowsF_succ _ _
section
variable {F : Nat → Prop} {w0 wr : World} {N z : Nat} {xv yv rv ov : Value} {t : Int} {S : List Ext} {R : List Sc.Read} {bs : Bytes}
theorem VR.fin2 (h : VR F w0 N wr z xv yv t S R rv ov bs) : ∃ F2 F3 : Nat → Prop, (∀ k, F2 k → F k ∨ New w0 wr k) ∧ RViewIs F2 wr z xv yv t S R ∧ (∀ k, F3 k → New w0 wr k ∧ ¬ F2 k) ∧ BytesAt F3 wr ov bs := by
 obtain ⟨Fv, h1, h2, h3, h4, h5, h6⟩ := h
 refine ⟨Fv, fun q => ov.ownBlock = some q, fun q hq => (h4 q hq).1.imp id fun h => ⟨h, by have := (h4 q hq).2; omega⟩, ⟨rv, h2⟩, fun q hq => ⟨⟨(h5.lt q hq).1, (h5.lt q hq).2⟩, (h6 q hq).1⟩, ?_⟩
 obtain ⟨hx, ⟨e, h0⟩ | ⟨g, cap, cur, e, hB, hcur, hnc, hcm, hh⟩⟩ := id h5
 ·have : bs = [] := List.eq_nil_of_length_eq_zero h0
  subst this
  rw [e]
  exact SlAt.nil
 ·subst e
  exact bytesAt_row (B := w0.heap.size) _ rfl rfl hnc (by unfold maxLen at hcm; omega) h5
end
def RReadSaid (F : Nat → Prop) (w : World) (z : Nat) (xv yv : Value) (blocks t : Int) (L : List RVer) (s : List Put) (S : List Ext) (R : List Sc.Read) (e : Ext) (r : Ending) (w' : World) : Prop :=
 (readCode blocks S e ≠ 0 ∧ r = .returned (.tuple #[.slice none 0 0, .int .i64 (readCode blocks S e)]) ∧ Hid (Below w.heap.size w w')) ∨
 (readCode blocks S e = 0 ∧ ∃ p c, r = .returned (.tuple #[.slice p (refRows L s t e.first e.len.toNat).length c, .int .i64 0]) ∧ ∃ F2 F3 : Nat → Prop, Hid (Chg F w w') ∧ Hid ((∀ k, F2 k → F k ∨ New w w' k) ∧ ∀ k, F3 k → New w w' k ∧ ¬ F2 k) ∧
   Hid (RViewIs F2 w' z xv yv t (addNext 64 S [e]) (R ++ refReads L s t e.first e.len.toNat)) ∧ Hid (BytesAt F3 w' (.slice p (refRows L s t e.first e.len.toNat).length c) (refRows L s t e.first e.len.toNat)))
theorem exts_box1 {G : Nat → Prop} {w : World} {g : Nat} {e : Ext} {T : TypeId} (hh : w.heap[g]? = some (.cells #[.int .i64 e.first, .int .i64 e.len] T (0, 0))) (hg : G g) (h1 : I64 e.first) (h2 : I64 e.len) : ExtsAt G w (.slice (some ⟨g, 0, none⟩) 1 1) [e] := by
 refine ⟨some ⟨g, 0, none⟩, 1, rfl, by simp, by decide, by simp, fun i hi => ?_⟩
 obtain rfl : i = 0 := by simp at hi; omega
 exact ⟨g, 0, rfl, hg, by rw [cell_row hh]; rfl, by rw [cell_row hh]; rfl, h1, h2⟩
set_option maxRecDepth 100000 in
set_option maxHeartbeats 4000000 in
theorem refRead_any {Fm Fb F : Nat → Prop} {w : World} {xv yv : Value} {z : Nat} {blocks last b2 most t : Int} {L : List RVer} {s : List Put} {S : List Ext} {R : List Sc.Read} (hm : RMapIs Fm w xv blocks last L) (hb : RBufP yv b2 most s Fb w) (hv : RViewIs F w z xv yv t S R) (dm : Dom Fm w) (db : Dom Fb w) (dv : Dom F w) (nm : ∀ k, F k → ¬ Fm k) (nb : ∀ k, F k → ¬ Fb k) (hbl : blocks ≤ 1048576) (hS : SetG S) (nS : S.length ≤ 40000) (nR : R.length ≤ 900000) (nL : L.length ≤ 1000000) (ns : s.length ≤ 1000000) (h40 : ∀ k, (refBlk L s t k).length = 40) (e : Ext) (i1 : I64 e.first) (i2 : I64 e.len) :
  Calls Tryz.prog 121 #[.pointer (some ⟨z, 0, none⟩), .agg #[.int .i64 e.first, .int .i64 e.len]] w (RReadSaid F w z xv yv blocks t L s S R e) := by
 have hdef : readCode blocks S e = if e.len < 1 ∨ 16 < e.len then 3 else if withinB blocks e.first e.len = false then 2 else if addCode 64 S [e] ≠ 0 then 7 else 0 := rfl
 have hfail : ∀ (c : Int) (w' : World), readCode blocks S e = c → c ≠ 0 → Below w.heap.size w w' → RReadSaid F w z xv yv blocks t L s S R e (.returned (.tuple #[.slice none 0 0, .int .i64 c])) w' := fun c w' h1 h2 h3 => .inl ⟨by rw [h1]; exact h2, by rw [h1], Lib.hid h3⟩
 have hfollow : Tryz.prog.follows Departure.mixedOrders = true := by kernel_rfl
 have hba := below_alloc w (.cells #[.int .i64 e.first, .int .i64 e.len] 56)
 by_cases h1 : e.len < 1
 case pos =>
  rw [if_pos (.inl h1)] at hdef
  have hf := fun w' => hfail 3 w' hdef (by decide)
  have HF := Lib.hid hf
  have HBA := Lib.hid hba
  have HDEF := Lib.hid hdef
  clear hf hba hdef
  clear hfail
  go_enter Tryz.func121, Tryz.ntmps121
  go_wp2
  go_ret2
  exact HF.out _ HBA.out
 case neg =>
 by_cases h2 : 16 < e.len
 case pos =>
  rw [if_pos (.inr h2)] at hdef
  have hf := fun w' => hfail 3 w' hdef (by decide)
  have HF := Lib.hid hf
  have HBA := Lib.hid hba
  have HDEF := Lib.hid hdef
  clear hf hba hdef
  clear hfail
  go_enter Tryz.func121, Tryz.ntmps121
  go_wp2
  go_ret2
  exact HF.out _ HBA.out
 case neg =>
  rw [if_neg (by omega)] at hdef
  obtain ⟨xb, _, _, rfl, _, _, _⟩ := id hm
  obtain ⟨yb, _, rfl, _, _, _⟩ := id hb
  obtain ⟨rv, hvv⟩ := hv
  obtain ⟨n, hn⟩ : ∃ n : Nat, e.len = n := ⟨e.len.toNat, by omega⟩
  have hnw := heap_alloc_new w (.cells #[.int .i64 e.first, .int .i64 e.len] 56 (0, 0))
  have hszw : (w.alloc (.cells #[.int .i64 e.first, .int .i64 e.len] 56 (0, 0))).heap.size = w.heap.size + 1 := by simp
  have z0 : (w.alloc (.cells #[.int .i64 e.first, .int .i64 e.len] 56 (0, 0))).cell? ⟨w.heap.size, 0, none⟩ = some (.int .i64 e.first) := by rw [cell_row hnw]; rfl
  have z1 : (w.alloc (.cells #[.int .i64 e.first, .int .i64 e.len] 56 (0, 0))).cell? ⟨w.heap.size, 1, none⟩ = some (.int .i64 e.len) := by rw [cell_row hnw]; rfl
  have hzl := dv z (by obtain ⟨_, _, h, _⟩ := hvv; exact h)
  have c0 := cell_up hba (rv_cells hvv).1
  have hm0 := hm.same (fun q hq => hba.block q (dm q hq)) hba.size
  have hb0 := hb.same (fun q hq => hba.block q (db q hq))
  have hv0 := hvv.same (fun q hq => hba.block q (dv q hq)) hba.size
  have HNW := Lib.hid hnw
  have HM := Lib.hid hm
  have HB := Lib.hid hb
  have HVV := Lib.hid hvv
  have HDEF := Lib.hid hdef
  have HM0 := Lib.hid hm0
  have HB0 := Lib.hid hb0
  have HV0 := Lib.hid hv0
  have HS := Lib.hid hS
  have H40 := Lib.hid h40
  have HN := Lib.hid hn
  clear hnw hm hb hvv hdef hm0 hb0 hv0 hS h40 hn
  go_enter Tryz.func121, Tryz.ntmps121
  go_wp2_with fail
  generalize hW0 : w.alloc (.cells #[.int .i64 e.first, .int .i64 e.len] 56 (0, 0)) = W0 at *
  have hd0 : Below W0.heap.size W0 W0.drew := below_drewN (Below.refl _ _) 1
  have hmd : RMapIs Fm W0.drew (.pointer (some ⟨xb, 0, none⟩)) blocks last L := HM0.out
  have HMD := Lib.hid hmd
  have HBA := Lib.hid hba
  clear hmd hba
  cases hq : withinB blocks e.first e.len with
  | false =>
   rw [if_pos hq] at HDEF
   refine wp_regionG (fun W => Below W0.heap.size W0 W) (n := 7) (by kernel_rfl) (by kernel_rfl) ?_
   refine wpG.tk 0 ?_
   refine wpG.tk 1 ?_
   refine wpG.tk 2 ?_
   refine wpG.tk 3 ?_ (hy := by intro W hW; have hld0 := cell_up hW c0; go_simp; try with_reducible rfl)
   refine wpG.tk 4 ?_ (hy := by intro W hW; have hld0 := cell_up hW z0; have hld1 := cell_up hW z1; go_simp; try with_reducible rfl)
   refine wpG.alone 5 rfl (by kernel_rfl) (by kernel_rfl) (hd0) (fun K hK => ?_)
   go_simp
   go_at_call 146
   refine (refIn_any Fm _ blocks last L e W0.drew HMD.out hbl i1 i2).mono ?_
   rintro r w2 ⟨rfl, HB2⟩
   have hb3 := Below.up hd0 HB2.out
   rw [hq]
   try go_simp
   refine hK _ _ ?_
   clear hK K
   refine wpG.tk 6 ?_
   refine wpG.done (by kernel_rfl) hb3 ?_
   have HB3 := Lib.hid hb3
   clear hb3
   go_wp2_with fail
   go_ret2
   exact hfail 2 _ HDEF.out (by decide) (Below.up HBA.out HB3.out)
  | true =>
   rw [if_neg (by rw [hq]; decide)] at HDEF
   refine wp_regionG (fun W => Below W0.heap.size W0 W) (n := 7) (by kernel_rfl) (by kernel_rfl) ?_
   refine wpG.tk 0 ?_
   refine wpG.tk 1 ?_
   refine wpG.tk 2 ?_
   refine wpG.tk 3 ?_ (hy := by intro W hW; have hld0 := cell_up hW c0; go_simp; try with_reducible rfl)
   refine wpG.tk 4 ?_ (hy := by intro W hW; have hld0 := cell_up hW z0; have hld1 := cell_up hW z1; go_simp; try with_reducible rfl)
   refine wpG.alone 5 rfl (by kernel_rfl) (by kernel_rfl) (hd0) (fun K hK => ?_)
   go_simp
   go_at_call 146
   refine (refIn_any Fm _ blocks last L e W0.drew HMD.out hbl i1 i2).mono ?_
   rintro r w2 ⟨rfl, HB2⟩
   have hb3 := Below.up hd0 HB2.out
   rw [hq]
   try go_simp
   refine hK _ _ ?_
   clear hK K
   refine wpG.tk 6 ?_
   refine wpG.done (by kernel_rfl) hb3 ?_
   have y0 := cell_up hb3 z0
   have y1 := cell_up hb3 z1
   have hba3 : Below W0.heap.size W0 (w2.alloc (.cells #[.int .i64 e.first, .int .i64 e.len] 56 (0, 0))).drew := below_drewN (Below.up hb3 (below_alloc w2 (.cells #[.int .i64 e.first, .int .i64 e.len] 56 (0, 0)))) 1
   have hv3 := HV0.out.same (fun q hq => hba3.block q (by have := dv q hq; omega)) hba3.size
   have hm3 := HM0.out.same (fun q hq => hba3.block q (by have := dm q hq; omega)) hba3.size
   have hbb3 := HB0.out.same (fun q hq => hba3.block q (by have := db q hq; omega))
   have hx0 := cell_up hba3 z0
   have hx1 := cell_up hba3 z1
   have hex : ExtsAt (fun _ => True) (w2.alloc (.cells #[.int .i64 e.first, .int .i64 e.len] 56 (0, 0))).drew (.slice (some ⟨w2.heap.size, 0, none⟩) 1 1) [e] := exts_box1 (w := (w2.alloc (.cells #[.int .i64 e.first, .int .i64 e.len] 56 (0, 0))).drew) (heap_alloc_new w2 (.cells #[.int .i64 e.first, .int .i64 e.len] 56 (0, 0))) trivial i1 i2
   have hz3 : (w2.alloc (.cells #[.int .i64 e.first, .int .i64 e.len] 56 (0, 0))).drew.heap.size = w2.heap.size + 1 := by simp
   have hwz := Below.size hb3
   have hadd : Calls Tryz.prog 147 #[.pointer (some ⟨z, 3, none⟩), .slice (some ⟨w2.heap.size, 0, none⟩) 1 1] (w2.alloc (.cells #[.int .i64 e.first, .int .i64 e.len] 56 (0, 0))).drew (AddVSaid z 64 S [e] (w2.alloc (.cells #[.int .i64 e.first, .int .i64 e.len] 56 (0, 0))).drew) := by
    obtain ⟨sv, D, hFz, hhz, hsv, _, _, _⟩ := id hv3
    exact refAddV_any (by omega) hhz rfl rfl hsv [e] hex (fun x hx => by rw [List.mem_singleton] at hx; subst hx; exact ⟨i1, i2⟩) HS.out (by unfold I64; omega) nS (by simp)
   obtain ⟨c, hc⟩ : ∃ c, radd 64 S [e] = c := ⟨_, rfl⟩
   have hcc := add_radd64 (S := S) e
   have hcn := addNext_radd64 (S := S) e
   rw [hc] at hcc
   rw [hcc] at HDEF
   have HBA3 := Lib.hid hba3
   have HV3 := Lib.hid hv3
   have HM3 := Lib.hid hm3
   have HBB3 := Lib.hid hbb3
   have HEX := Lib.hid hex
   have HB3 := Lib.hid hb3
   have HADD := Lib.hid hadd
   have HC := Lib.hid hc
   have HCN := Lib.hid hcn
   clear hba3 hv3 hm3 hbb3 hex hb3 hadd hc hcn
   clear HM0 HB0 HV0 HMD hd0 hcc
   go_wp2_with fail
   refine wp_regionG (fun W => W.cell? ⟨w.heap.size, 0, none⟩ = some (.int .i64 e.first) ∧ W.cell? ⟨w.heap.size, 1, none⟩ = some (.int .i64 e.len)) (n := 7) (by kernel_rfl) (by kernel_rfl) ?_
   refine wpG.tk 0 ?_
   refine wpG.tk 1 ?_
   refine wpG.tk 2 ?_
   refine wpG.tk 3 ?_ (hy := by intro W hW; have hld0 := hW.1; have hld1 := hW.2; go_simp; try with_reducible rfl)
   refine wpG.alone 4 rfl (by kernel_rfl) (by kernel_rfl) ⟨y0, y1⟩ (fun K hK => ?_)
   go_simp
   try go_simp
   refine hK _ _ ?_
   clear hK K
   refine wpG.alone 5 rfl (by kernel_rfl) (by kernel_rfl) (⟨hx0, hx1⟩) (fun K hK => ?_)
   go_simp
   go_at_call 147
   refine (HADD.out).mono ?_
   rintro r w4 ⟨rfl, hor⟩
   rw [HC.out] at hor ⊢
   rcases hor with ⟨hne, HB4⟩ | ⟨h0, w5, po, co, rfl, HB4, HX4⟩
   case inl =>
    have hcb : (c != 0) = true := by simpa using hne
    try go_simp
    refine hK _ _ ?_
    clear hK K
    refine wpG.tk 6 ?_
    refine wpG.done (by kernel_rfl) ⟨cell_up HB4.out hx0, cell_up HB4.out hx1⟩ ?_
    have hfin := hfail 7 w4 (by rw [HDEF.out, if_pos hne]) (by decide) (Below.up HBA.out (Below.up HBA3.out HB4.out))
    have HFIN := Lib.hid hfin
    have HNE := Lib.hid hne
    clear hfin hne
    go_wp2_with fail
    go_ret2
    exact HFIN.out
   case inr =>
    subst h0
    have hcode : readCode blocks S e = 0 := by rw [HDEF.out, if_neg (by decide)]
    rw [← HCN.out] at HX4 ⊢
    have dom3 : Dom F (w2.alloc (.cells #[.int .i64 e.first, .int .i64 e.len] 56 (0, 0))).drew := fun q hq => by have := dv q hq; omega
    obtain ⟨hch4, hv4⟩ := rv_set HV3.out dom3 HB4.out HX4.out
    have hVR := VR.start hch4 hv4 dom3
    have hzF : F z := by obtain ⟨_, _, h, _⟩ := HV3.out; exact h
    have hneF : ¬ F w.heap.size := fun h => by have := dv _ h; omega
    have hx04 := hch4.cell hneF hx0
    have hx14 := hch4.cell hneF hx1
    try go_simp
    refine hK _ _ ?_
    clear hK K
    refine wpG.tk 6 ?_
    refine wpG.done (by kernel_rfl) ⟨hx04, hx14⟩ ?_
    have hba03 := Below.up HBA.out HBA3.out
    generalize hW5 : w5.setCell ⟨z, 4, none⟩ (.slice po (addNext 64 S [e]).length co) = W5 at *
    generalize hW3 : (w2.alloc (.cells #[.int .i64 e.first, .int .i64 e.len] 56 (0, 0))).drew = W3 at *
    have hbk : 0 ≤ e.first ∧ 1 ≤ e.len ∧ e.len ≤ blocks ∧ e.first ≤ blocks - e.len := by
     have := hq
     unfold withinB at this
     simp only [Bool.and_eq_true, decide_eq_true_eq] at this
     omega
    have HCODE := Lib.hid hcode
    have HVR := Lib.hid hVR
    have HBA03 := Lib.hid hba03
    have HBK := Lib.hid hbk
    clear hcode hVR hba03 hbk
    clear hch4 hv4 hW5 hW3 HB4 HX4 HADD HEX HV3 y0 y1 hx04 hx14
    go_wp2_with fail
    go_loopw [6, 7] (fun ov iv wr => ∃ k : Nat, ∃ N op oc m rv bs, k ≤ n ∧ iv = .int .i64 k ∧ ov = .slice op m oc ∧ Hid (bs = refRows L s t e.first k ∧ bs.length = m ∧ m = 40 * k) ∧ Hid (VR F W3 N wr z (.pointer (some ⟨xb, 0, none⟩)) (.pointer (some ⟨yb, 0, none⟩)) t (addNext 64 S [e]) (R ++ refReads L s t e.first k) rv (.slice op m oc) bs)) (fun _ iv _ => n - (intOf iv).toNat)
    case atStart => exact ⟨0, _, _, _, _, _, _, Nat.zero_le _, rfl, rfl, Lib.hid ⟨rfl, rfl, rfl⟩, by rw [show refReads L s t e.first 0 = [] from rfl, List.append_nil]; exact HVR⟩
    case round =>
     obtain ⟨k, N, op, oc, m, rv2, bs, hk, rfl, rfl, HM2, HV⟩ := hrel
     have hch := HV.out.chg
     have a0 := hch.cell hneF hx0
     have a1 := hch.cell hneF hx1
     obtain ⟨b0, b1, b2', b5⟩ := HV.out.cells
     by_cases hlt : k < n
     case neg =>
      obtain rfl : k = n := by omega
      obtain ⟨hbs, hbl2, hm40⟩ := HM2.out
      clear hm40
      obtain ⟨F2, F3, q1, q2, q3, q4⟩ := HV.out.fin2
      have hnn : e.len.toNat = k := by have := HN.out; omega
      subst hbs
      subst hbl2
      have hfin : RReadSaid F w z (.pointer (some ⟨xb, 0, none⟩)) (.pointer (some ⟨yb, 0, none⟩)) blocks t L s S R e (.returned (.tuple #[.slice op (refRows L s t e.first k).length oc, .int .i64 0])) wr := by
       refine .inr ⟨HCODE.out, op, oc, by rw [hnn], F2, F3, Lib.hid (Chg.after_up HBA03.out hch), Lib.hid ⟨fun q hq => (q1 q hq).imp id fun h => ⟨Nat.le_trans HBA03.out.size h.1, h.2⟩, fun q hq => ⟨⟨Nat.le_trans HBA03.out.size (q3 q hq).1.1, (q3 q hq).1.2⟩, (q3 q hq).2⟩⟩, ?_, ?_⟩
       ·rw [hnn]; exact q2
       ·rw [hnn]; exact q4
      have hki : ¬ (k : Int) < e.len := by have := HN.out; omega
      generalize (refRows L s t e.first k).length = mm at *
      have HFIN := Lib.hid hfin
      have HNN := Lib.hid hnn
      have HCH := Lib.hid hch
      clear hfin hnn hch
      clear q1 q2 q3 q4 HM2 HV
      go_wp2_with fail
      go_ret2
      exact HFIN.out
     case pos =>
      have hki : (k : Int) < e.len := by have := HN.out; omega
      have hbk := HBK.out
      have hkey : 0 ≤ e.first + k ∧ e.first + k < blocks := by omega
      have hwrap : IntKind.i64.wrap (e.first + k) = e.first + k := IntWalk.i64_in _ (by omega)
      have hz03 := HBA03.out.size
      have hbR : RBufP (.pointer (some ⟨yb, 0, none⟩)) b2 most s Fb wr.drew := HBB3.out.same (w' := wr.drew) (hch.same fun q hq => ⟨by have := db q hq; omega, fun h => nb q h hq⟩)
      have hmR : RMapIs Fm wr (.pointer (some ⟨xb, 0, none⟩)) blocks last L := HM3.out.same (hch.same fun q hq => ⟨by have := dm q hq; omega, fun h => nm q h hq⟩) hch.size
      have hdR : Below wr.heap.size wr wr.drew := below_drewN (Below.refl _ _) 1
      have hbkT : blk blocks (e.first + k) = true := by unfold blk; rw [decide_eq_true hkey.1, decide_eq_true hkey.2]; rfl
      have h40k := H40.out (e.first + k)
      have hrs := refReads_succ L s t e.first k
      have hrw := refRows_succ L s t e.first k
      have hdom : ∀ q, (Fb q ∨ Fm q) → q < W3.heap.size ∧ ¬ F q := fun q hq => hq.elim (fun h => ⟨by have := db q h; omega, fun h' => nb q h' h⟩) fun h => ⟨by have := dm q h; omega, fun h' => nm q h' h⟩
      have hsz3 := hch.size
      have hnlen : (R ++ refReads L s t e.first k).length ≤ 1000000 := by rw [List.length_append, refReads_length]; have := HN.out; omega
      have hebw : w.heap.size < W3.heap.size := by have := World.block_lt_of_cell? W3 _ hx0; exact this
      obtain ⟨ow, how⟩ : ∃ ow, (lookP s (e.first + k)).isSome = ow := ⟨_, rfl⟩
      obtain ⟨bd, hbd⟩ : ∃ bd, refBlk L s t (e.first + k) = bd := ⟨_, rfl⟩
      rw [hbd] at h40k hrs hrw
      have HBR := Lib.hid hbR
      have HMR := Lib.hid hmR
      have HDR := Lib.hid hdR
      have HBK := Lib.hid hbk
      have H40K := Lib.hid h40k
      have HRS := Lib.hid hrs
      have HRW := Lib.hid hrw
      have HDOM := Lib.hid hdom
      have HBKT := Lib.hid hbkT
      have HCH := Lib.hid hch
      clear hbR hmR hdR hbk h40k hrs hrw hdom hbkT hch
      go_wp2_with fail
      cases ow
      case' true =>
       have hbd0 : (lookP s (e.first + k)).getD [] = bd := by
        rw [← hbd]; unfold refBlk
        cases hl : lookP s (e.first + k) with
        | none => rw [hl] at how; cases how
        | some d => rfl
       refine wp_regionG (fun W => Below wr.heap.size wr W) (n := 14) (by kernel_rfl) (by kernel_rfl) ?_
       refine wpG.tk 0 ?_
       refine wpG.tk 1 ?_
       refine wpG.tk 2 ?_
       refine wpG.tk 3 ?_ (hy := by intro W hW; have hld0 := cell_up hW b1; go_simp; try with_reducible rfl)
       refine wpG.tk 4 ?_
       refine wpG.tk 5 ?_ (hy := by intro W hW; have hld0 := cell_up hW a0; go_simp; try with_reducible rfl)
       refine wpG.tk 6 ?_
       refine wpG.tk 7 ?_
       refine wpG.alone 8 rfl (by kernel_rfl) (by kernel_rfl) (HDR.out) (fun K hK => ?_)
       go_simp
       go_at_call 148
       refine (refBufGet_any Fb _ b2 most s (e.first + k) wr.drew HBR.out ns).mono ?_
       rintro r w7 ⟨dv7, rfl, HD7, HB7⟩
       rw [how]
       rw [hbd0] at HD7
       have hb7 := Below.up HDR.out HB7.out
       obtain ⟨dp, dc, rfl⟩ : ∃ dp dc, dv7 = .slice dp bd.length dc := by obtain ⟨dp, dc, e, _⟩ := HD7.out; exact ⟨dp, dc, e⟩
       try go_simp
       refine hK _ _ ?_
       clear hK K
       refine wpG.tk 9 ?_
       refine wpG.tk 10 ?_
       refine wpG.tk 11 ?_
       refine wpG.tk 12 ?_
       refine wpG.tk 13 ?_
       refine wpG.done (by kernel_rfl) hb7 ?_
       have HDD : Hid (∃ Dd, BytesAt Dd w7 (.slice dp bd.length dc) bd ∧ ∀ q, Dd q → q < w7.heap.size ∧ ((q < W3.heap.size ∧ ¬ F q) ∨ N ≤ q)) := Lib.hid ⟨Fb, HD7.out, fun q hq => ⟨by have := (HDOM.out q (.inl hq)).1; have := hb7.size; omega, .inl (HDOM.out q (.inl hq))⟩⟩
       have g0 := cell_up hb7 a0
       have g5 := cell_up hb7 b5
       have hcm : IntKind.i64.wrap 0 = 0 := rfl
       clear HD7 hbd0 a0 b0 b1 b2' b5
       have HB7' := Lib.hid hb7
       clear hb7
       have HBD := Lib.hid hbd
       clear hbd
      case' false =>
       have hln : lookP s (e.first + k) = none := by
        cases hl : lookP s (e.first + k) with
        | none => rfl
        | some d => rw [hl] at how; cases how
       have hbd1 : (getR L (e.first + k) t).1 = bd := by rw [← hbd]; unfold refBlk; rw [hln]; rfl
       refine wp_regionG (fun W => Below wr.heap.size wr W) (n := 14) (by kernel_rfl) (by kernel_rfl) ?_
       refine wpG.tk 0 ?_
       refine wpG.tk 1 ?_
       refine wpG.tk 2 ?_
       refine wpG.tk 3 ?_ (hy := by intro W hW; have hld0 := cell_up hW b1; go_simp; try with_reducible rfl)
       refine wpG.tk 4 ?_
       refine wpG.tk 5 ?_ (hy := by intro W hW; have hld0 := cell_up hW a0; go_simp; try with_reducible rfl)
       refine wpG.tk 6 ?_
       refine wpG.tk 7 ?_
       refine wpG.alone 8 rfl (by kernel_rfl) (by kernel_rfl) (HDR.out) (fun K hK => ?_)
       go_simp
       go_at_call 148
       refine (refBufGet_any Fb _ b2 most s (e.first + k) wr.drew HBR.out ns).mono ?_
       rintro r w6 ⟨dv6, rfl, HD6, HB6⟩
       rw [how]
       have hb6 := Below.up HDR.out HB6.out
       obtain ⟨dp6, dc6, n6, rfl⟩ : ∃ dp dc n, dv6 = .slice dp n dc := by obtain ⟨dp, dc, e, _⟩ := HD6.out; exact ⟨dp, dc, _, e⟩
       try go_simp
       refine hK _ _ ?_
       clear hK K
       refine wpG.tk 9 ?_
       refine wpG.tk 10 ?_
       refine wpG.tk 11 ?_
       refine wpG.tk 12 ?_
       refine wpG.tk 13 ?_
       refine wpG.done (by kernel_rfl) hb6 ?_
       have hm6 : RMapIs Fm w6.drew (.pointer (some ⟨xb, 0, none⟩)) blocks last L := HMR.out.same (w' := w6.drew) (fun q hq => hb6.block q (by have := (HDOM.out q (.inr hq)).1; omega)) hb6.size
       have e0 := cell_up hb6 a0
       have e1 := cell_up hb6 b0
       have e2 := cell_up hb6 b2'
       have e5 := cell_up hb6 b5
       have hdr6 : Below w6.heap.size w6 w6.drew := below_drewN (Below.refl _ _) 1
       have HM6 := Lib.hid hm6
       have HB6 := Lib.hid hb6
       have HDR6 := Lib.hid hdr6
       clear hm6 hb6 hdr6
       clear HD6 a0 b0 b1 b2' b5
       go_wp2_with fail
       refine wp_regionG (fun W => Below w6.heap.size w6 W) (n := 17) (by kernel_rfl) (by kernel_rfl) ?_
       refine wpG.tk 0 ?_
       refine wpG.tk 1 ?_
       refine wpG.tk 2 ?_
       refine wpG.tk 3 ?_ (hy := by intro W hW; have hld0 := cell_up hW e1; go_simp; try with_reducible rfl)
       refine wpG.tk 4 ?_
       refine wpG.tk 5 ?_ (hy := by intro W hW; have hld0 := cell_up hW e0; go_simp; try with_reducible rfl)
       refine wpG.tk 6 ?_
       refine wpG.tk 7 ?_
       refine wpG.tk 8 ?_
       refine wpG.tk 9 ?_
       refine wpG.tk 10 ?_
       refine wpG.tk 11 ?_ (hy := by intro W hW; have hld0 := cell_up hW e2; go_simp; try with_reducible rfl)
       refine wpG.alone 12 rfl (by kernel_rfl) (by kernel_rfl) (HDR6.out) (fun K hK => ?_)
       go_simp
       go_at_call 149
       refine (refMapGet_any Fm _ blocks last L (e.first + k) t w6.drew HM6.out nL).mono ?_
       rintro r w7 hor
       rw [HBKT.out] at hor
       obtain ⟨dp, dc, rfl, HD7, HB7⟩ : ∃ dp dc, r = .returned (.tuple #[.slice dp bd.length dc, .int .i64 (getR L (e.first + k) t).2]) ∧ Hid (BytesAt (fun q => Fm q ∨ New w6.drew w7 q) w7 (.slice dp bd.length dc) bd) ∧ Hid (Below w6.drew.heap.size w6.drew w7) := by
        rcases hor with ⟨h, _⟩ | ⟨_, dp, dc, h1, h2, h3⟩
        ·cases h
        ·rw [hbd1] at h1 h2; exact ⟨dp, dc, h1, h2, h3⟩
       have hb67 := Below.up HDR6.out HB7.out
       have hb7 := Below.up HB6.out hb67
       try go_simp
       refine hK _ _ ?_
       clear hK K
       refine wpG.tk 13 ?_
       refine wpG.tk 14 ?_
       refine wpG.tk 15 ?_
       refine wpG.tk 16 ?_
       refine wpG.done (by kernel_rfl) hb67 ?_
       have HDD : Hid (∃ Dd, BytesAt Dd w7 (.slice dp bd.length dc) bd ∧ ∀ q, Dd q → q < w7.heap.size ∧ ((q < W3.heap.size ∧ ¬ F q) ∨ N ≤ q)) := by
        obtain ⟨_, _, _, hN3, _⟩ := HV.out
        refine Lib.hid ⟨_, HD7.out, fun q hq => ?_⟩
        rcases hq with hq | hq
        ·exact ⟨by have := (HDOM.out q (.inr hq)).1; have := hb7.size; omega, .inl (HDOM.out q (.inr hq))⟩
        ·exact ⟨hq.2, .inr (by have := hq.1; have := HB6.out.size; have h6 : w6.drew.heap.size = w6.heap.size := rfl; omega)⟩
       have g0 := cell_up hb67 e0
       have g5 := cell_up hb67 e5
       clear HD7 hbd1 hln e0 e1 e2 e5
       have HB7' := Lib.hid hb7
       clear hb7
       have HBD := Lib.hid hbd
       have HB67 := Lib.hid hb67
       clear hbd hb67
      all_goals
       obtain ⟨Dd, hdd1, hdd2⟩ := HDD.out
       have hV7 := HV.out.up HB7'.out
       have hA1 : Below w7.heap.size w7 (w7.alloc (.cells #[] 5)).drew := below_drewN (below_alloc w7 _) 1
       have hz2 : w7.heap.size ≤ (w7.alloc (.cells #[] 5)).drew.heap.size := hA1.size
       obtain ⟨dp1, dc1, w8, hr8, ho8, hg8⟩ := bytes_pushM (BytesAt.up hdd1 hA1) (by have := H40K.out; omega) (B := w7.heap.size) (k := w7.heap.size) (owns_empty w7 _ _) hz2
       have hA2 : Below w7.heap.size w7 w8 := hA1.grown hg8.out hz2 (fun b e => by cases e; exact Nat.le_refl _)
       have hb8 : BytesAt (New w7 w8) w8 (.slice dp1 bd.length dc1) bd := bytesAt_own _ rfl (fun q h1 h2 => ⟨h1, h2⟩) ho8.out
       have hpush := VR.push (x := ⟨e.first + k, bd, (lookP s (e.first + k)).isSome⟩) hV7 hA2 (i64_small (by simp only; omega)) hb8 hdd1 hdd2 hnlen ⟨hebw, hneF⟩ g0
       rw [how] at hpush
       dsimp only at hpush
       obtain ⟨rl, hrl0⟩ : ∃ rl, (R ++ refReads L s t e.first k).length = rl := ⟨_, rfl⟩
       rw [hrl0] at hpush
       obtain ⟨g, cap, w9, hr9, j1, j2, j3, HVN, HDN⟩ := hpush
       have g0' := cell_up hA2 g0
       have g5' := cell_up hA2 g5
       have hG0 : w7.drew.cell? ⟨z, 5, none⟩ = some rv2 ∧ w7.drew.cell? ⟨w.heap.size, 0, none⟩ = some (.int .i64 e.first) := ⟨g5, g0⟩
       have hG1 := And.intro (cell_up hA1 g5) (cell_up hA1 g0)
       have hG3 := fun ob : Obj => And.intro (cell_up (below_alloc w8 ob) g5') (cell_up (below_alloc w8 ob) g0')
       go_wp2_with fail
       refine wp_regionH (fun W => W.cell? ⟨z, 5, none⟩ = some rv2 ∧ W.cell? ⟨w.heap.size, 0, none⟩ = some (.int .i64 e.first)) (n := 19) (by kernel_rfl) (by kernel_rfl) ?_
       refine wpH.tk 0 ?_
       refine wpH.tk 1 ?_
       refine wpH.tk 2 ?_
       refine wpH.tk 3 ?_
       refine wpH.tk 4 ?_ (hy := by intro W hW; have hld0 := hW.1; go_simp; try with_reducible rfl)
       refine wpH.tk 5 ?_
       refine wpH.tk 6 ?_ (hy := by intro W hW; have hld0 := hW.2; go_simp; try with_reducible rfl)
       refine wpH.tk 7 ?_
       refine wpH.tk 8 ?_
       refine wpH.tk 10 ?_
       refine wpH.tk 12 ?_
       refine wpH.alone 9 rfl (by kernel_rfl) (by kernel_rfl) hG0 (fun K hK => ?_)
       go_simp
       try go_simp
       refine hK _ _ ?_
       clear hK K
       refine wpH.alone 11 rfl (by kernel_rfl) (by kernel_rfl) hG1 (fun K hK => ?_)
       refine wp_append_run (v := .slice (some ⟨w7.heap.size, 0, none⟩) 0 0) (u := .slice dp bd.length dc) (.tmp 77) (.tmp 78) 30 rfl ?_ ?_ hr8 ?_
       ·go_simp
       ·go_simp
       try go_simp
       refine hK _ _ ?_
       clear hK K
       refine wpH.tk 13 ?_
       refine wpH.alone 14 rfl (by kernel_rfl) (by kernel_rfl) ⟨g5', g0'⟩ (fun K hK => ?_)
       go_simp
       try go_simp
       refine hK _ _ ?_
       clear hK K
       refine wpH.alone 15 rfl (by kernel_rfl) (by kernel_rfl) (hG3 _) (fun K hK => ?_)
       refine wp_append_run (v := rv2) (u := .slice (some ⟨w8.heap.size, 0, none⟩) 1 1) (.tmp 72) (.tmp 82) 71 rfl ?_ ?_ hr9 ?_
       ·go_simp
       ·go_simp
       try go_simp
       refine hK _ _ ?_
       clear hK K
       refine wpH.tk 16 ?_
       refine wpH.tk 17 ?_
       refine wpH.alone 18 rfl (by kernel_rfl) (by kernel_rfl) ⟨j1, j3⟩ (fun K hK => ?_)
       go_simp
       try go_simp
       refine hK _ _ ?_
       clear hK K
       refine wpH.done (by kernel_rfl) (by kernel_rfl) ?_
       obtain ⟨hbs, hbl2, hm40⟩ := HM2.out
       have hl8 : bs.length + bd.length ≤ 100000 := by have := H40K.out; have := HN.out; omega
       obtain ⟨po, co, w10, hr10, HV10⟩ := HVN.out.out HDN.out hl8
       have hbs2 : bs ++ bd = refRows L s t e.first (k + 1) := by rw [HRW.out, hbs]
       have hm2 : bs.length + bd.length = 40 * (k + 1) := by have := H40K.out; omega
       have hrl : R ++ refReads L s t e.first k ++ [⟨e.first + k, bd, (lookP s (e.first + k)).isSome⟩] = R ++ refReads L s t e.first (k + 1) := by rw [HRS.out, List.append_assoc]
       rw [how] at hrl
       rw [hrl] at HV10
       have hll : (bs ++ bd).length = bs.length + bd.length := List.length_append
       have hmk := hm40
       subst hbl2
       clear hm40 hmk
       generalize hW9 : w9.setCell ⟨z, 5, none⟩ (.slice (some ⟨g, 0, none⟩) (rl + 1) cap) = W9 at *
       have HM2' := Lib.hid hm2
       clear hm2
       have HBS := Lib.hid hbs
       have HBS2 := Lib.hid hbs2
       have HRL := Lib.hid hrl
       have HLL := Lib.hid hll
       have HW9 := Lib.hid hW9
       have HRL0 := Lib.hid hrl0
       clear hbs hbs2 hrl hll hW9 hrl0
       clear hG0 hG1 hG3 g0' g5' g0 g5 hA1 hA2 hb8 hV7 hdd1 hdd2 j1 j2 j3 hr8 hr9
       go_wp2_with (at_builtin; refine wpList_append_run rfl (.tmp 86) (.tmp 87) 30 rfl rfl rfl hr10 ?_)
       go_roundw
       case rel => exact ⟨k + 1, _, _, _, _, _, _, by omega, by go_num, rfl, Lib.hid ⟨HBS2.out, HLL.out, HM2'.out⟩, HV10⟩
       case measure => simp [intOf]; omega
end Go.Proofs
namespace Go.Proofs
open Go.RowKit Sc
set_option maxRecDepth 100000 in
set_option maxHeartbeats 8000000 in
theorem refMapApply_any (F G : Nat → Prop) (v tv : Value) (blocks last : Int) (L : List RVer) (t : Tx) (w : World) (hm : RMapIs F w v blocks last L) (hd : Dom F w) (hL : L.length ≤ 1000000) (ht : TxAt G w tv t) (_hG : Dom G w) (_hFG : ∀ k, F k → ¬ G k) (hn : t.puts.length ≤ 1000000) :
  Calls Tryz.prog 91 #[v, tv] w (RMapSaid F v blocks last L t w) := by
 have HM := Lib.hid hm
 have HDM := Lib.hid hd
 obtain ⟨b, lv, D, rfl, hFb, hh, hO, hg, hD⟩ := hm
 obtain ⟨p, c, rfl, hlc, hcells⟩ := ver_cells hO
 obtain ⟨pv, rfl, hti, hp⟩ := ht
 obtain ⟨pp, pc, rfl, hp1, hp2, hp3, hp4⟩ := hp
 have hba := below_alloc w (.cells #[.int .i64 t.time, .slice pp t.puts.length pc] 70)
 have hnw := heap_alloc_new w (.cells #[.int .i64 t.time, .slice pp t.puts.length pc] 70 (0, 0))
 have HBW := Lib.hid hba
 have z0 : (w.alloc (.cells #[.int .i64 t.time, .slice pp t.puts.length pc] 70 (0, 0))).cell? ⟨w.heap.size, 0, none⟩ = some (.int .i64 t.time) := by rw [cell_row hnw]; rfl
 have z1 : (w.alloc (.cells #[.int .i64 t.time, .slice pp t.puts.length pc] 70 (0, 0))).cell? ⟨w.heap.size, 1, none⟩ = some (.slice pp t.puts.length pc) := by rw [cell_row hnw]; rfl
 have c0 := cell_up hba (show w.cell? ⟨b, 0, none⟩ = some (.int .i64 blocks) by rw [cell_row hh]; rfl)
 have c1 := cell_up hba (show w.cell? ⟨b, 1, none⟩ = some (.slice p L.length c) by rw [cell_row hh]; rfl)
 have c2 := cell_up hba (show w.cell? ⟨b, 2, none⟩ = some (.int .i64 last) by rw [cell_row hh]; rfl)
 have HC := Lib.hid hcells
 have HP4 := Lib.hid hp4
 have HO := Lib.hid hO
 have HGO := Lib.hid hg
 have HDO := Lib.hid hD
 have HHH := Lib.hid hh
 have HTI := Lib.hid hti
 have HFB := Lib.hid hFb
 clear hba hnw hh hO hg hcells hD hp3 hp4 hd _hFG _hG hti hFb
 generalize hps : t.puts = ps at *
 generalize htm : t.time = tm at *
 by_cases h1 : tm ≤ last
 case pos =>
  have HF := Lib.hid (fun q : Nat => rmap_fail HM.out HDM.out (t := t) (w' := (w.alloc (.cells #[.int .i64 tm, .slice pp ps.length pc] 70 (0, 0))).drewN q) (below_drewN HBW.out q) (code_time (.inl (by rw [htm]; exact h1))) (by decide))
  go_enter Tryz.func91, Tryz.ntmps91
  go_wp2_with fail
  go_quiet (fail)
  go_wp2
  go_ret
  exact HF.out _
 case neg =>
 by_cases h2 : 1099511627776 < tm
 case pos =>
  have HF := Lib.hid (fun q : Nat => rmap_fail HM.out HDM.out (t := t) (w' := (w.alloc (.cells #[.int .i64 tm, .slice pp ps.length pc] 70 (0, 0))).drewN q) (below_drewN HBW.out q) (code_time (.inr (by rw [htm]; exact h2))) (by decide))
  go_enter Tryz.func91, Tryz.ntmps91
  go_wp2_with fail
  go_quiet (fail)
  go_wp2
  go_ret
  exact HF.out _
 case neg =>
 have HNT : Hid (¬ (t.time ≤ last ∨ 1099511627776 < t.time)) := fun hh => by rw [htm] at hh; omega
 by_cases h0 : ps.length = 0
 case pos =>
  have HF := Lib.hid (fun q : Nat => rmap_fail HM.out HDM.out (t := t) (w' := (w.alloc (.cells #[.int .i64 tm, .slice pp ps.length pc] 70 (0, 0))).drewN q) (below_drewN HBW.out q) (code_none HNT.out (by rw [hps]; exact h0)) (by decide))
  have h0' : ((ps.length : Int) == 0) = true := by rw [beq_iff_eq]; omega
  clear h0
  go_enter Tryz.func91, Tryz.ntmps91
  go_wp2_with fail
  go_quiet (fail)
  go_wp2
  go_ret
  exact HF.out _
 case neg =>
  have h0' : ((ps.length : Int) == 0) = false := by rw [beq_eq_false_iff_ne]; omega
  have hBF : ∀ (wr : World) (cc : Int), Below (w.alloc (.cells #[.int .i64 tm, .slice pp ps.length pc] 70 (0, 0))).heap.size (w.alloc (.cells #[.int .i64 tm, .slice pp ps.length pc] 70 (0, 0))) wr → applyCode blocks last t = cc → cc ≠ 0 → RMapSaid F (.pointer (some ⟨b, 0, none⟩)) blocks last L t w (.returned (.int .i64 cc)) wr := fun wr cc hb hc hne => rmap_fail HM.out HDM.out (Below.up HBW.out hb) hc hne
  have HBF := Lib.hid hBF
  have hQ : ∀ (wr : World), Below (w.alloc (.cells #[.int .i64 tm, .slice pp ps.length pc] 70 (0, 0))).heap.size (w.alloc (.cells #[.int .i64 tm, .slice pp ps.length pc] 70 (0, 0))) wr → ∀ k (hk : k < ps.length), ∃ qb qo dv, pp = some ⟨qb, qo, none⟩ ∧ wr.cell? ⟨qb, qo + k * 2, none⟩ = some (.int .i64 ps[k].lba) ∧ I64 ps[k].lba ∧ wr.cell? ⟨qb, qo + k * 2 + 1, none⟩ = some dv ∧ BytesAt (fun _ => True) wr dv ps[k].data := fun wr hb k hk => by
   obtain ⟨qb, qo, e, _, k1, k2, dv, k3, k4⟩ := HP4.out k hk
   have hbb := Below.up HBW.out hb
   exact ⟨qb, qo, dv, e, cell_up hbb k1, k2, cell_up hbb k3, (BytesAt.up k4 hbb).mono fun _ _ => trivial⟩
  have HQ := Lib.hid hQ
  clear hBF hQ
  go_enter Tryz.func91, Tryz.ntmps91
  go_wp2_with fail
  go_quiet (fail)
  go_wp2_with fail
  generalize hW0 : w.alloc (.cells #[.int .i64 tm, .slice pp ps.length pc] 70 (0, 0)) = W0 at *
  have HB00 : Hid (Below W0.heap.size W0 (W0.drewN 1)) := below_drewN (Below.refl _ _) 1
  go_loopw [5] (fun s5 wr => ∃ k : Nat, k + 1 ≤ ps.length ∧ s5 = .int .i64 ((k : Int) + 1) ∧ Hid (∀ j (hj : j + 1 < ps.length), j < k → ps[j].lba < ps[j + 1].lba) ∧ Hid (Below W0.heap.size W0 wr)) (fun s5 _ => ps.length - (intOf s5).toNat)
  case atStart => exact ⟨0, by omega, by go_num, fun j _ hj => by omega, below_drewN (Below.refl _ _) _⟩
  case round =>
   obtain ⟨k, hk, rfl, HR, HB⟩ := hrel
   clear HB00
   have y1 := cell_up HB.out z1
   by_cases hkl : k + 1 < ps.length
   case pos =>
    obtain ⟨qb, qo, dv, rfl, q1, i1, _, _⟩ := HQ.out wr HB.out k (by omega)
    obtain ⟨_, _, dv2, e2, q2, i2, _, _⟩ := HQ.out wr HB.out (k + 1) hkl
    cases e2
    have hkl' : (k : Int) + 1 < (ps.length : Int) := by omega
    have hw1 : IntKind.i64.wrap (k : Int) = k := IntWalk.i64_in _ (by omega)
    by_cases hle : ps[k + 1].lba ≤ ps[k].lba
    case pos =>
     have HF := Lib.hid (fun q : Nat => HBF.out (wr.drewN q) 1 (below_drewN HB.out q) (code_rise HNT.out (by subst hps; exact rise_no hkl hle)) (by decide))
     go_wp2_with fail
     go_quiet (fail)
     go_wp2
     go_ret
     exact HF.out _
    case neg =>
     have HR2 : Hid (∀ j (hj : j + 1 < ps.length), j < k + 1 → ps[j].lba < ps[j + 1].lba) := fun j hj hjk => by
      by_cases e : j = k
      ·subst e; omega
      ·exact HR.out j hj (by omega)
     go_wp2_with fail
     go_quiet (fail)
     go_wp2
     go_roundw
     case rel => exact ⟨k + 1, by omega, by go_num, HR2, below_drewN HB.out _⟩
     case measure => simp [intOf]; omega
   case neg =>
    have hkk : k + 1 = ps.length := by omega
    have HRA : Hid (riseB t.puts = true) := by
     have h := HR.out
     show _ = _
     subst hps
     exact rise_yes (by omega) fun j hj => h j hj (by omega)
    have hkl' : ¬ ((k : Int) + 1 < (ps.length : Int)) := by omega
    obtain ⟨W1, rfl⟩ : ∃ W1 : World, W1 = wr := ⟨_, rfl⟩
    have HB1 := HB
    clear HR hkl hk
    go_wp2_with fail
    clear y1 hkl' hkk HB
    go_loopw [6] (fun s6 wr => ∃ k : Nat, k ≤ ps.length ∧ s6 = .int .i64 (k : Int) ∧ Hid (∀ j (hj : j < ps.length), j < k → 0 ≤ ps[j].lba ∧ ps[j].lba < blocks) ∧ Hid (Below W0.heap.size W0 wr)) (fun s6 _ => ps.length - (intOf s6).toNat)
    case atStart => exact ⟨0, by omega, by go_num, fun j _ hj => by omega, HB1⟩
    case round =>
     clear HB1
     obtain ⟨k, hk, rfl, HR, HB⟩ := hrel
     have y1 := cell_up HB.out z1
     have y0 := cell_up HB.out c0
     by_cases hkl : k < ps.length
     case pos =>
      obtain ⟨qb, qo, dv, rfl, q1, i1, _, _⟩ := HQ.out wr HB.out k hkl
      have hkl' : (k : Int) < (ps.length : Int) := by omega
      by_cases hn0 : ps[k].lba < 0
      case pos =>
       have HF := Lib.hid (fun q : Nat => HBF.out (wr.drewN q) 2 (below_drewN HB.out q) (by subst hps; exact code_out HNT.out HRA.out hkl (.inl hn0)) (by decide))
       go_wp2_with fail
       go_quiet (fail)
       go_wp2
       go_ret
       exact HF.out _
      case neg =>
      by_cases hn1 : blocks ≤ ps[k].lba
      case pos =>
       have HF := Lib.hid (fun q : Nat => HBF.out (wr.drewN q) 2 (below_drewN HB.out q) (by subst hps; exact code_out HNT.out HRA.out hkl (.inr hn1)) (by decide))
       go_wp2_with fail
       go_quiet (fail)
       go_wp2
       go_ret
       exact HF.out _
      case neg =>
       have HR2 : Hid (∀ j (hj : j < ps.length), j < k + 1 → 0 ≤ ps[j].lba ∧ ps[j].lba < blocks) := fun j hj hjk => by
        by_cases e : j = k
        ·subst e; omega
        ·exact HR.out j hj (by omega)
       go_wp2_with fail
       go_quiet (fail)
       go_wp2
       go_roundw
       case rel => exact ⟨k + 1, by omega, by go_num, HR2, below_drewN HB.out _⟩
       case measure => simp [intOf]; omega
     case neg =>
      obtain rfl : k = ps.length := by omega
      have HIN : Hid (∀ j (hj : j < ps.length), 0 ≤ ps[j].lba ∧ ps[j].lba < blocks) := fun j hj => HR.out j hj hj
      obtain ⟨W2, rfl⟩ : ∃ W2 : World, W2 = wr := ⟨_, rfl⟩
      have HB1 := HB
      clear HR hkl hk
      go_wp2_with fail
      clear y1 y0 HB
      go_loopw [7] (fun s7 wr => ∃ k : Nat, k ≤ ps.length ∧ s7 = .int .i64 (k : Int) ∧ Hid (∀ j (hj : j < ps.length), j < k → ps[j].data.length = 40) ∧ Hid (Below W0.heap.size W0 wr)) (fun s7 _ => ps.length - (intOf s7).toNat)
      case atStart => exact ⟨0, by omega, by go_num, fun j _ hj => by omega, HB1⟩
      case round =>
       clear HB1
       obtain ⟨k, hk, rfl, HR, HB⟩ := hrel
       have y1 := cell_up HB.out z1
       by_cases hkl : k < ps.length
       case pos =>
        obtain ⟨qb, qo, dv, rfl, _, _, q2, q3⟩ := HQ.out wr HB.out k hkl
        obtain ⟨dp, dc, rfl⟩ : ∃ dp dc, dv = .slice dp ps[k].data.length dc := by obtain ⟨dp, dc, e, _⟩ := q3; exact ⟨dp, dc, e⟩
        clear q3
        have hkl' : (k : Int) < (ps.length : Int) := by omega
        by_cases hn0 : ps[k].data.length = 40
        case neg =>
         have HF := Lib.hid (HBF.out wr 3 HB.out (by subst hps; exact code_len HNT.out HRA.out HIN.out hkl hn0) (by decide))
         have hn0' : ((ps[k].data.length : Int) == 40) = false := by rw [beq_eq_false_iff_ne]; omega
         clear hn0
         go_wp2
         go_ret
         exact HF.out
        case pos =>
         have HR2 : Hid (∀ j (hj : j < ps.length), j < k + 1 → ps[j].data.length = 40) := fun j hj hjk => by
          by_cases e : j = k
          ·subst e; omega
          ·exact HR.out j hj (by omega)
         rw [hn0] at q2
         clear hn0
         go_wp2
         go_roundw
         case rel => exact ⟨k + 1, by omega, by go_num, HR2, HB⟩
         case measure => simp [intOf]; omega
       case neg =>
        obtain rfl : k = ps.length := by omega
        have HLEN : Hid (∀ j (hj : j < ps.length), ps[j].data.length = 40) := fun j hj => HR.out j hj hj
        obtain ⟨W3, rfl⟩ : ∃ W3 : World, W3 = wr := ⟨_, rfl⟩
        have HB1 := HB
        clear HR hkl hk
        go_wp2_with fail
        have hDD : ∀ q, D q → q < W0.heap.size := fun q hq => Nat.lt_of_lt_of_le (HDM.out q (HDO.out q hq).1) HBW.out.size
        have HDD := Lib.hid hDD
        clear hDD
        have HML : Hid ((mergeV tm ps L).length = L.length + ps.length) := merge_len _ _ _
        have HHC : Hid (∀ i (hi : i < L.length), ∃ g dv, p = some ⟨g, 0, none⟩ ∧ W0.cell? ⟨g, i * 3, none⟩ = some (.int .i64 L[i].lba) ∧ W0.cell? ⟨g, i * 3 + 1, none⟩ = some (.int .i64 L[i].time) ∧ W0.cell? ⟨g, i * 3 + 2, none⟩ = some dv ∧ I64 L[i].lba ∧ I64 L[i].time ∧ BytesAt D W0 dv L[i].data) := fun i hi => by
         obtain ⟨g, dv, e, k1, k2, k3, k4, k5, k6⟩ := HC.out i hi
         exact ⟨g, dv, e, cell_up HBW.out k1, cell_up HBW.out k2, cell_up HBW.out k3, k4, k5, BytesAt.up k6 HBW.out⟩
        clear HC
        go_loopw [8, 9, 10] (fun s8 s9 s10 wr => ∃ k i : Nat, ∃ nl op oc, k ≤ ps.length ∧ i ≤ L.length + 1 ∧ s9 = .int .i64 (k : Int) ∧ s10 = .int .i64 (i : Int) ∧ s8 = .slice op nl.length oc ∧ Hid (i = L.length + 1 → k = ps.length) ∧ Hid (nl ++ mergeV tm (ps.drop k) (L.drop i) = mergeV tm ps L) ∧ Hid (NlIs W0.heap.size wr D (.slice op nl.length oc) nl) ∧ Hid (Below W0.heap.size W0 wr)) (fun _ _ s10 _ => L.length + 1 - (intOf s10).toNat)
        case atStart => exact ⟨0, 0, [], _, _, by omega, by omega, by go_num, by go_num, rfl, fun h => by omega, rfl, NlIs.nil, HB1⟩
        case round =>
         clear HB1
         obtain ⟨k, i, nl, op, oc, hk, hi, rfl, rfl, rfl, HE, HM2, HN, HB⟩ := hrel
         have y1 := cell_up HB.out c1
         by_cases hil : i ≤ L.length
         case neg =>
          obtain rfl : i = L.length + 1 := by omega
          obtain rfl : k = ps.length := HE.out rfl
          have hM : nl = mergeV t.time t.puts L := by
           have h := HM2.out
           rw [List.drop_length, List.drop_eq_nil_of_le (by omega)] at h
           rw [hps, htm, ← h]
           show nl = nl ++ []
           rw [List.append_nil]
          have hf := rmap_done HFB.out HDM.out HHH.out HDO.out HBW.out HB.out HN.out (code_ok HNT.out HRA.out (by subst hps; exact HIN.out) (by subst hps; exact HLEN.out)) hM
          rw [htm] at hf
          have HF := Lib.hid hf
          have hbne : w.heap.size ≠ b := by have := HDM.out b HFB.out; omega
          have y0 : (wr.setCell ⟨b, 1, none⟩ (.slice op nl.length oc)).cell? ⟨w.heap.size, 0, none⟩ = some (.int .i64 tm) := (World.cell?_of_block (Below.heap_setCell _ _ _ _ hbne)).trans (cell_up HB.out z0)
          have hhr : wr.heap[b]? = some (.cells #[.int .i64 blocks, .slice p L.length c, .int .i64 last] 147 (0, 0)) := ((Below.up HBW.out HB.out).block b (HDM.out b HFB.out)).trans HHH.out
          have hh2 := heap_set_same (i := 1) hhr (.slice op nl.length oc)
          have f1 := fz_row hhr 1
          have f2 := fz_row hh2 2
          have y2 : (wr.setCell ⟨b, 1, none⟩ (.slice op nl.length oc)).cell? ⟨b, 2, none⟩ = some (.int .i64 last) := by rw [cell_row hh2]; rfl
          clear hf hM hbne HM2 HE hk hi hhr hh2
          go_wp2
          go_ret
          exact HF.out
         case pos =>
          have hil' : (i : Int) ≤ (L.length : Int) := by omega
          obtain ⟨W4, rfl⟩ : ∃ W4 : World, W4 = wr := ⟨_, rfl⟩
          have HB1 := HB
          clear HE HB
          go_wp2_with fail
          clear y1
          go_loopw [8, 9] (fun s8 s9 wr => ∃ k : Nat, ∃ nl op oc, k ≤ ps.length ∧ s9 = .int .i64 (k : Int) ∧ s8 = .slice op nl.length oc ∧ Hid (nl ++ mergeV tm (ps.drop k) (L.drop i) = mergeV tm ps L) ∧ Hid (NlIs W0.heap.size wr D (.slice op nl.length oc) nl) ∧ Hid (Below W0.heap.size W0 wr)) (fun _ s9 _ => ps.length - (intOf s9).toNat)
          case atStart => exact ⟨k, nl, _, _, hk, by go_num, rfl, HM2, HN, HB1⟩
          case round =>
           clear HB1 HM2 HN hk
           obtain ⟨k, nl, op, oc, hk, rfl, rfl, HM2, HN, HB⟩ := hrel
           have y1 := cell_up HB.out c1
           have x1 := cell_up HB.out z1
           have hnl : nl.length ≤ 2000000 := by
            have h := congrArg List.length HM2.out
            rw [List.length_append, HML.out] at h
            omega
           by_cases hkl : k < ps.length
           case neg =>
            have hkl' : ¬ ((k : Int) < (ps.length : Int)) := by omega
            obtain rfl : k = ps.length := by omega
            by_cases hie : i = L.length
            case pos =>
             subst hie
             clear hkl hk hi hil hil'
             have HBR := Lib.hid (fun q => below_drewN HB.out q)
             have HNR := Lib.hid (fun q => NlIs.up HN.out (below_drewN (Below.refl wr.heap.size wr) q))
             have hm3 : nl ++ mergeV tm (ps.drop ps.length) (L.drop (L.length + 1)) = mergeV tm ps L := by
              have h := HM2.out
              rw [List.drop_length (l := L)] at h
              rw [List.drop_eq_nil_of_le (by omega : L.length ≤ L.length + 1)]
              exact h
             have HM3 := Lib.hid hm3
             clear hm3
             clear HB HN
             go_wp2_with fail
             go_quiet (fail)
             go_wp2_with fail
             go_roundw
             case rel => exact ⟨ps.length, L.length + 1, nl, _, _, by omega, by omega, by go_num, by go_num, rfl, fun _ => rfl, HM3, HNR.out _, HBR.out _⟩
             case measure => simp [intOf]
            case neg =>
             have hil2 : i < L.length := by omega
             have hil3 : (i : Int) < (L.length : Int) := by omega
             have HOR : Hid (ps.length = ps.length ∨ ∃ hk : ps.length < ps.length, ¬ ps[ps.length].lba < L[i].lba) := .inl rfl
             clear hkl hk
             have hst : mergeV tm (ps.drop ps.length) (L.drop i) = L[i] :: mergeV tm (ps.drop ps.length) (L.drop (i + 1)) := step_old hil2 HOR.out
             have hm3 : (nl ++ [L[i]]) ++ mergeV tm (ps.drop ps.length) (L.drop (i + 1)) = mergeV tm ps L := by
              have h := HM2.out
              rw [hst] at h
              rw [List.append_assoc]
              exact h
             have HM3 := Lib.hid hm3
             clear hm3
             have HBR := Lib.hid (fun q => below_drewN HB.out q)
             have HNR := Lib.hid (fun q => NlIs.up HN.out (below_drewN (Below.refl wr.heap.size wr) q))
             clear hst HM2 HOR
             go_wp2_with fail
             go_quiet (fail)
             have hbq := HBR.out nq
             have hnq := HNR.out nq
             have HBQ := Lib.hid hbq
             have HNQ := Lib.hid hnq
             clear hbq hnq
             clear HBR HNR HB HN
             generalize wr.drewN nq = wq at *
             obtain ⟨g1, vv1, e1, k0, k1, k2, kk1, kk2, kk3⟩ := HHC.out i hil2
             subst e1
             obtain ⟨dp, dc, rfl⟩ : ∃ dp dc, vv1 = .slice dp L[i].data.length dc := by obtain ⟨dp, dc, e, _⟩ := kk3; exact ⟨dp, dc, e⟩
             have v0 := cell_up HBQ.out k0
             have v1 := cell_up HBQ.out k1
             have v2 := cell_up HBQ.out k2
             have y1 := cell_up HBQ.out c1
             have hzq := HBQ.out.size
             generalize hx : L[i] = x at *
             have hba := below_alloc wq (.cells #[.int .i64 x.lba, .int .i64 x.time, .slice dp x.data.length dc] 161)
             have hA4 := Below.up HBQ.out hba
             have hby4 := BytesAt.up kk3 hA4
             have hvo : ∀ g, (Value.slice op nl.length oc).ownBlock = some g → W0.heap.size ≤ g := fun g hg => by
              obtain ⟨_, _, h2, _⟩ := HNQ.out
              exact h2 g hg
             obtain ⟨gg, cap, w6, hr6, hN6, hB6⟩ := nl_push (HNQ.out.up hba) (B := W0.heap.size) hA4.size (cs := [.int .i64 x.lba, .int .i64 x.time, .slice dp x.data.length dc]) (x := x) (D3 := D) rfl ⟨_, rfl, kk1, kk2, hby4⟩ (fun q hq => ⟨by have := HDD.out q hq; have := hba.size; omega, fun e => by have := hvo q e; have := HDD.out q hq; omega, .inl hq⟩) ⟨wq.heap.size, 0, none⟩ 1 (World.news_of_block (cs := #[.int .i64 x.lba, .int .i64 x.time, .slice dp x.data.length dc]) (heap_alloc_new wq _)) (by simp [Value.oneCell']) (by omega)
             have hA6 := Below.trans hA4 hB6.out
             have HA6 := Lib.hid hA6
             have hlen : (nl ++ [x]).length = nl.length + 1 := by simp
             clear hba hA4 hby4 hvo hA6 hB6 kk1 kk2 kk3 k0 k1 k2
             go_wp2_with (at_builtin; refine wpList_append_run rfl (.tmp 159) (.tmp 167) 145 rfl rfl rfl hr6 ?_)
             go_roundw
             case rel => exact ⟨ps.length, i + 1, nl ++ [x], _, _, by omega, by omega, by go_num, by go_num, by rw [hlen], fun h => by omega, HM3, by rw [hlen]; exact hN6, HA6⟩
             case measure => simp [intOf]; omega
           case pos =>
            have hkl' : (k : Int) < (ps.length : Int) := by omega
            by_cases hie : i = L.length
            case pos =>
             subst hie
             have hie' : ((L.length : Int) == (L.length : Int)) = true := by rw [beq_iff_eq]
             have HST : Hid (mergeV tm (ps.drop k) (L.drop L.length) = mkV tm ps[k] :: mergeV tm (ps.drop (k + 1)) (L.drop L.length)) := step_put hkl (.inl rfl)
             have HBR := Lib.hid (fun q => below_drewN HB.out q)
             have HNR := Lib.hid (fun q => NlIs.up HN.out (below_drewN (Below.refl wr.heap.size wr) q))
             go_wp2_with fail
             go_quiet (fail)
             go_wp2_with fail
             have hbq := HBR.out nq
             have hnq := HNR.out nq
             have HBQ := Lib.hid hbq
             have HNQ := Lib.hid hnq
             clear hbq hnq
             clear HBR HNR HB HN x1 y1
             generalize wr.drewN nq = wq at *
             obtain ⟨qb1, qo1, dv1, e1, q1, i1, q2, q3⟩ := HQ.out W0 (Below.refl _ _) k hkl
             subst e1
             obtain ⟨dp, dc, rfl⟩ : ∃ dp dc, dv1 = .slice dp ps[k].data.length dc := by obtain ⟨dp, dc, e, _⟩ := q3; exact ⟨dp, dc, e⟩
             have HL40 : Hid (ps[k].data.length = 40) := HLEN.out k hkl
             have HQ3 := Lib.hid q3
             have HI1 := Lib.hid i1
             clear q3 i1
             generalize hx : ps[k] = x at *
             refine wp_regionG (fun W => Below W0.heap.size W0 W) (n := 21) (by kernel_rfl) (by kernel_rfl) ?_
             refine wpG.tk 0 ?_
             refine wpG.tk 1 ?_
             refine wpG.tk 2 ?_ (hy := by intro W hW; have hld0 := cell_up hW z1; go_simp; try with_reducible rfl)
             refine wpG.tk 3 ?_
             refine wpG.tk 4 ?_
             refine wpG.tk 5 ?_
             refine wpG.tk 6 ?_ (hy := by intro W hW; have hld0 := cell_up hW q1; go_simp; try with_reducible rfl)
             refine wpG.tk 7 ?_
             refine wpG.tk 8 ?_ (hy := by intro W hW; have hld0 := cell_up hW z0; go_simp; try with_reducible rfl)
             refine wpG.tk 10 ?_
             refine wpG.tk 11 ?_ (hy := by intro W hW; have hld0 := cell_up hW z1; go_simp; try with_reducible rfl)
             refine wpG.tk 12 ?_
             refine wpG.tk 13 ?_
             refine wpG.tk 14 ?_
             refine wpG.tk 15 ?_ (hy := by intro W hW; have hld0 := cell_up hW q2; go_simp; try with_reducible rfl)
             have hG0 : Below W0.heap.size W0 wq.drew := below_drewN HBQ.out 1
             refine wpG.alone 9 rfl (by kernel_rfl) (by kernel_rfl) hG0 (fun K hK => ?_)
             go_simp
             try go_simp
             refine hK _ _ ?_
             clear hK K
             have hA1 : Below W0.heap.size W0 (wq.alloc (.cells #[] 5)).drew := below_drewN (Below.up HBQ.out (below_alloc wq _)) 1
             have hz1 : (wq.alloc (.cells #[] 5)).drew.heap.size = wq.heap.size + 1 := by simp
             have hz2 : wq.heap.size ≤ (wq.alloc (.cells #[] 5)).drew.heap.size := by omega
             obtain ⟨dp1, dc1, w3, hr3, ho3, hg3⟩ := bytes_pushM (BytesAt.up HQ3.out hA1) (by have := HL40.out; omega) (B := wq.heap.size) (k := wq.heap.size) (owns_empty wq _ _) hz2
             have hzq := HBQ.out.size
             have hA2 : Below wq.heap.size wq w3 := (below_drewN (below_alloc wq (.cells #[] 5)) 1).grown hg3.out hz2 (fun b e => by cases e; exact Nat.le_refl _)
             have hA3 := Below.up HBQ.out hA2
             refine wpG.alone 16 rfl (by kernel_rfl) (by kernel_rfl) hA1 (fun K hK => ?_)
             refine wp_append_run (v := .slice (some ⟨wq.heap.size, 0, none⟩) 0 0) (u := .slice dp x.data.length dc) (.tmp 139) (.tmp 145) 30 rfl ?_ ?_ hr3 ?_
             ·go_simp
             ·go_simp
             try go_simp
             refine hK _ _ ?_
             clear hK K
             refine wpG.tk 17 ?_
             refine wpG.alone 18 rfl (by kernel_rfl) (by kernel_rfl) hA3 (fun K hK => ?_)
             go_simp
             have hba := below_alloc w3 (.cells #[.int .i64 x.lba, .int .i64 tm, .slice dp1 x.data.length dc1] 161)
             have hA4 := Below.up hA3 hba
             have hby : BytesAt (fun q => wq.heap.size ≤ q ∧ q < w3.heap.size) w3 (.slice dp1 x.data.length dc1) x.data := bytesAt_own _ rfl (fun q h1 h2 => ⟨h1, h2⟩) ho3.out
             have hby4 := BytesAt.up hby hba
             have howl : ∀ g, (Value.slice op nl.length oc).ownBlock = some g → g < wq.heap.size := fun g hg => by
              obtain ⟨_, h1, _, _⟩ := HNQ.out
              exact (h1.own.choose_spec.lt g hg).2
             obtain ⟨gg, cap, w6, hr6, hN6, hB6⟩ := nl_push ((HNQ.out.up hA2).up hba) (B := W0.heap.size) hA4.size (cs := [.int .i64 x.lba, .int .i64 tm, .slice dp1 x.data.length dc1]) (x := mkV tm x) (D3 := fun q => wq.heap.size ≤ q ∧ q < w3.heap.size) rfl ⟨_, rfl, HI1.out, HTI.out, hby4⟩ (fun q hq => ⟨Nat.lt_of_lt_of_le hq.2 hba.size, fun e => by have := howl q e; omega, .inr (by omega)⟩) ⟨w3.heap.size, 0, none⟩ 1 (World.news_of_block (cs := #[.int .i64 x.lba, .int .i64 tm, .slice dp1 x.data.length dc1]) (heap_alloc_new w3 _)) (by simp [Value.oneCell']) (by omega)
             have hA6 := Below.trans hA4 hB6.out
             clear hba hby hby4 howl hg3 ho3 hA2 hz1 hz2 hzq hr3
             try go_simp
             refine hK _ _ ?_
             clear hK K
             refine wpG.alone 19 rfl (by kernel_rfl) (by kernel_rfl) hA4 (fun K hK => ?_)
             refine wp_append_run (v := .slice op nl.length oc) (u := .slice (some ⟨w3.heap.size, 0, none⟩) 1 1) (.tmp 130) (.tmp 148) 145 rfl ?_ ?_ hr6 ?_
             ·go_simp
             ·go_simp
             try go_simp
             refine hK _ _ ?_
             clear hK K
             refine wpG.tk 20 ?_
             refine wpG.done (by kernel_rfl) hA6 ?_
             have HA6 := Lib.hid hA6
             have hlen : (nl ++ [mkV tm x]).length = nl.length + 1 := by simp
             have hm3 : (nl ++ [mkV tm x]) ++ mergeV tm (ps.drop (k + 1)) (L.drop L.length) = mergeV tm ps L := by
              have h := HM2.out
              rw [HST.out] at h
              rw [List.append_assoc]
              exact h
             have HM3 := Lib.hid hm3
             clear hm3
             clear hG0 hA1 hA3 hA4 hA6 hr6 hB6 q1 q2
             go_wp2_with fail
             go_roundw
             case rel => exact ⟨k + 1, nl ++ [mkV tm x], _, _, by omega, by go_num, by rw [hlen], HM3, by rw [hlen]; exact hN6, HA6⟩
             case measure => simp [intOf]; omega
            case neg =>
             have hie' : ((i : Int) == (L.length : Int)) = false := by rw [beq_eq_false_iff_ne]; omega
             have hil2 : i < L.length := by omega
             have hil3 : (i : Int) < (L.length : Int) := by omega
             obtain ⟨g, vv, rfl, k0, _, _, _, _, _⟩ := HHC.out i hil2
             obtain ⟨qb, qo, dv, rfl, q1, i1, _, _⟩ := HQ.out wr HB.out k hkl
             have v0 := cell_up HB.out k0
             by_cases hlt : ps[k].lba < L[i].lba
             case pos =>
              have HST : Hid (mergeV tm (ps.drop k) (L.drop i) = mkV tm ps[k] :: mergeV tm (ps.drop (k + 1)) (L.drop i)) := step_put hkl (.inr ⟨hil2, hlt⟩)
              have HBR := Lib.hid (fun q => below_drewN HB.out q)
              have HNR := Lib.hid (fun q => NlIs.up HN.out (below_drewN (Below.refl wr.heap.size wr) q))
              go_wp2_with fail
              go_quiet (fail)
              go_wp2_with fail
              have hbq := HBR.out nq
              have hnq := HNR.out nq
              have HBQ := Lib.hid hbq
              have HNQ := Lib.hid hnq
              clear hbq hnq
              clear HBR HNR HB HN x1 y1
              generalize wr.drewN nq = wq at *
              obtain ⟨qb1, qo1, dv1, e1, q1, i1, q2, q3⟩ := HQ.out W0 (Below.refl _ _) k hkl
              cases e1
              obtain ⟨dp, dc, rfl⟩ : ∃ dp dc, dv1 = .slice dp ps[k].data.length dc := by obtain ⟨dp, dc, e, _⟩ := q3; exact ⟨dp, dc, e⟩
              have HL40 : Hid (ps[k].data.length = 40) := HLEN.out k hkl
              have HQ3 := Lib.hid q3
              have HI1 := Lib.hid i1
              clear q3 i1
              generalize hx : ps[k] = x at *
              refine wp_regionG (fun W => Below W0.heap.size W0 W) (n := 21) (by kernel_rfl) (by kernel_rfl) ?_
              refine wpG.tk 0 ?_
              refine wpG.tk 1 ?_
              refine wpG.tk 2 ?_ (hy := by intro W hW; have hld0 := cell_up hW z1; go_simp; try with_reducible rfl)
              refine wpG.tk 3 ?_
              refine wpG.tk 4 ?_
              refine wpG.tk 5 ?_
              refine wpG.tk 6 ?_ (hy := by intro W hW; have hld0 := cell_up hW q1; go_simp; try with_reducible rfl)
              refine wpG.tk 7 ?_
              refine wpG.tk 8 ?_ (hy := by intro W hW; have hld0 := cell_up hW z0; go_simp; try with_reducible rfl)
              refine wpG.tk 10 ?_
              refine wpG.tk 11 ?_ (hy := by intro W hW; have hld0 := cell_up hW z1; go_simp; try with_reducible rfl)
              refine wpG.tk 12 ?_
              refine wpG.tk 13 ?_
              refine wpG.tk 14 ?_
              refine wpG.tk 15 ?_ (hy := by intro W hW; have hld0 := cell_up hW q2; go_simp; try with_reducible rfl)
              have hG0 : Below W0.heap.size W0 wq.drew := below_drewN HBQ.out 1
              refine wpG.alone 9 rfl (by kernel_rfl) (by kernel_rfl) hG0 (fun K hK => ?_)
              go_simp
              try go_simp
              refine hK _ _ ?_
              clear hK K
              have hA1 : Below W0.heap.size W0 (wq.alloc (.cells #[] 5)).drew := below_drewN (Below.up HBQ.out (below_alloc wq _)) 1
              have hz1 : (wq.alloc (.cells #[] 5)).drew.heap.size = wq.heap.size + 1 := by simp
              have hz2 : wq.heap.size ≤ (wq.alloc (.cells #[] 5)).drew.heap.size := by omega
              obtain ⟨dp1, dc1, w3, hr3, ho3, hg3⟩ := bytes_pushM (BytesAt.up HQ3.out hA1) (by have := HL40.out; omega) (B := wq.heap.size) (k := wq.heap.size) (owns_empty wq _ _) hz2
              have hzq := HBQ.out.size
              have hA2 : Below wq.heap.size wq w3 := (below_drewN (below_alloc wq (.cells #[] 5)) 1).grown hg3.out hz2 (fun b e => by cases e; exact Nat.le_refl _)
              have hA3 := Below.up HBQ.out hA2
              refine wpG.alone 16 rfl (by kernel_rfl) (by kernel_rfl) hA1 (fun K hK => ?_)
              refine wp_append_run (v := .slice (some ⟨wq.heap.size, 0, none⟩) 0 0) (u := .slice dp x.data.length dc) (.tmp 139) (.tmp 145) 30 rfl ?_ ?_ hr3 ?_
              ·go_simp
              ·go_simp
              try go_simp
              refine hK _ _ ?_
              clear hK K
              refine wpG.tk 17 ?_
              refine wpG.alone 18 rfl (by kernel_rfl) (by kernel_rfl) hA3 (fun K hK => ?_)
              go_simp
              have hba := below_alloc w3 (.cells #[.int .i64 x.lba, .int .i64 tm, .slice dp1 x.data.length dc1] 161)
              have hA4 := Below.up hA3 hba
              have hby : BytesAt (fun q => wq.heap.size ≤ q ∧ q < w3.heap.size) w3 (.slice dp1 x.data.length dc1) x.data := bytesAt_own _ rfl (fun q h1 h2 => ⟨h1, h2⟩) ho3.out
              have hby4 := BytesAt.up hby hba
              have howl : ∀ g, (Value.slice op nl.length oc).ownBlock = some g → g < wq.heap.size := fun g hg => by
               obtain ⟨_, h1, _, _⟩ := HNQ.out
               exact (h1.own.choose_spec.lt g hg).2
              obtain ⟨gg, cap, w6, hr6, hN6, hB6⟩ := nl_push ((HNQ.out.up hA2).up hba) (B := W0.heap.size) hA4.size (cs := [.int .i64 x.lba, .int .i64 tm, .slice dp1 x.data.length dc1]) (x := mkV tm x) (D3 := fun q => wq.heap.size ≤ q ∧ q < w3.heap.size) rfl ⟨_, rfl, HI1.out, HTI.out, hby4⟩ (fun q hq => ⟨Nat.lt_of_lt_of_le hq.2 hba.size, fun e => by have := howl q e; omega, .inr (by omega)⟩) ⟨w3.heap.size, 0, none⟩ 1 (World.news_of_block (cs := #[.int .i64 x.lba, .int .i64 tm, .slice dp1 x.data.length dc1]) (heap_alloc_new w3 _)) (by simp [Value.oneCell']) (by omega)
              have hA6 := Below.trans hA4 hB6.out
              clear hba hby hby4 howl hg3 ho3 hA2 hz1 hz2 hzq hr3
              try go_simp
              refine hK _ _ ?_
              clear hK K
              refine wpG.alone 19 rfl (by kernel_rfl) (by kernel_rfl) hA4 (fun K hK => ?_)
              refine wp_append_run (v := .slice op nl.length oc) (u := .slice (some ⟨w3.heap.size, 0, none⟩) 1 1) (.tmp 130) (.tmp 148) 145 rfl ?_ ?_ hr6 ?_
              ·go_simp
              ·go_simp
              try go_simp
              refine hK _ _ ?_
              clear hK K
              refine wpG.tk 20 ?_
              refine wpG.done (by kernel_rfl) hA6 ?_
              have HA6 := Lib.hid hA6
              have hlen : (nl ++ [mkV tm x]).length = nl.length + 1 := by simp
              have hm3 : (nl ++ [mkV tm x]) ++ mergeV tm (ps.drop (k + 1)) (L.drop i) = mergeV tm ps L := by
               have h := HM2.out
               rw [HST.out] at h
               rw [List.append_assoc]
               exact h
              have HM3 := Lib.hid hm3
              clear hm3
              clear hG0 hA1 hA3 hA4 hA6 hr6 hB6 q1 q2
              go_wp2_with fail
              go_roundw
              case rel => exact ⟨k + 1, nl ++ [mkV tm x], _, _, by omega, by go_num, by rw [hlen], HM3, by rw [hlen]; exact hN6, HA6⟩
              case measure => simp [intOf]; omega
             case neg =>
              have HOR : Hid (k = ps.length ∨ ∃ hk : k < ps.length, ¬ ps[k].lba < L[i].lba) := .inr ⟨hkl, hlt⟩
              have hst : mergeV tm (ps.drop k) (L.drop i) = L[i] :: mergeV tm (ps.drop k) (L.drop (i + 1)) := step_old hil2 HOR.out
              have hm3 : (nl ++ [L[i]]) ++ mergeV tm (ps.drop k) (L.drop (i + 1)) = mergeV tm ps L := by
               have h := HM2.out
               rw [hst] at h
               rw [List.append_assoc]
               exact h
              have HM3 := Lib.hid hm3
              clear hm3
              have HBR := Lib.hid (fun q => below_drewN HB.out q)
              have HNR := Lib.hid (fun q => NlIs.up HN.out (below_drewN (Below.refl wr.heap.size wr) q))
              clear hst HM2 HOR
              go_wp2_with fail
              go_quiet (fail)
              have hbq := HBR.out nq
              have hnq := HNR.out nq
              have HBQ := Lib.hid hbq
              have HNQ := Lib.hid hnq
              clear hbq hnq
              clear HBR HNR HB HN
              generalize wr.drewN nq = wq at *
              obtain ⟨g1, vv1, e1, k0, k1, k2, kk1, kk2, kk3⟩ := HHC.out i hil2
              cases e1
              obtain ⟨dp, dc, rfl⟩ : ∃ dp dc, vv1 = .slice dp L[i].data.length dc := by obtain ⟨dp, dc, e, _⟩ := kk3; exact ⟨dp, dc, e⟩
              have v0 := cell_up HBQ.out k0
              have v1 := cell_up HBQ.out k1
              have v2 := cell_up HBQ.out k2
              have y1 := cell_up HBQ.out c1
              have hzq := HBQ.out.size
              generalize hx : L[i] = x at *
              have hba := below_alloc wq (.cells #[.int .i64 x.lba, .int .i64 x.time, .slice dp x.data.length dc] 161)
              have hA4 := Below.up HBQ.out hba
              have hby4 := BytesAt.up kk3 hA4
              have hvo : ∀ g, (Value.slice op nl.length oc).ownBlock = some g → W0.heap.size ≤ g := fun g hg => by
               obtain ⟨_, _, h2, _⟩ := HNQ.out
               exact h2 g hg
              obtain ⟨gg, cap, w6, hr6, hN6, hB6⟩ := nl_push (HNQ.out.up hba) (B := W0.heap.size) hA4.size (cs := [.int .i64 x.lba, .int .i64 x.time, .slice dp x.data.length dc]) (x := x) (D3 := D) rfl ⟨_, rfl, kk1, kk2, hby4⟩ (fun q hq => ⟨by have := HDD.out q hq; have := hba.size; omega, fun e => by have := hvo q e; have := HDD.out q hq; omega, .inl hq⟩) ⟨wq.heap.size, 0, none⟩ 1 (World.news_of_block (cs := #[.int .i64 x.lba, .int .i64 x.time, .slice dp x.data.length dc]) (heap_alloc_new wq _)) (by simp [Value.oneCell']) (by omega)
              have hA6 := Below.trans hA4 hB6.out
              have HA6 := Lib.hid hA6
              have hlen : (nl ++ [x]).length = nl.length + 1 := by simp
              clear hba hA4 hby4 hvo hA6 hB6 kk1 kk2 kk3 k0 k1 k2
              go_wp2_with (at_builtin; refine wpList_append_run rfl (.tmp 159) (.tmp 167) 145 rfl rfl rfl hr6 ?_)
              go_roundw
              case rel => exact ⟨k, i + 1, nl ++ [x], _, _, by omega, by omega, by go_num, by go_num, by rw [hlen], fun h => by omega, HM3, by rw [hlen]; exact hN6, HA6⟩
              case measure => simp [intOf]; omega
end Go.Proofs