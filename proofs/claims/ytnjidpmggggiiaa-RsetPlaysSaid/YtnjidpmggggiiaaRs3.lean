/- Texts of this claim, one behind the other: Info, Ival2, SortNone, Dat, Ival3, Ival4, Concat, Ival5, SetSep, PlainPut, RefSet, RefAddV, RegH. -/
import Derived.Test.YtnjidpmggggiiaaChecked
import Derived.Deep.RegionHeld3
import Derived.StillTailTactics
import Derived.Shelf.SlSortCmp.NoneTotal
import Derived.BigRegion
import Derived.BigQuiet
import Derived.Lib.AppendZerosOnto
import Derived.Maps.AppendAt
import Derived.Deep.DeepCutAuto
import Derived.Deep.CutRange
import Derived.Test.YtnjidpmggggiiaaRs2

/- The types' rows: zero values and sizes; what an own row of ints reads as. -/
namespace Go.Proofs
open Go.RowKit Sc

theorem infoPut : (Try.prog.info? 61).map (fun i => (i.zero, i.size, i.bytes)) = some (some (.agg #[.int .i64 0, .slice none 0 0]), 2, 32) := by kernel_rfl
theorem infoInt : (Try.prog.info? 3).map (fun i => (i.zero, i.size, i.bytes)) = some (some (.int .i64 0), 1, 8) := by kernel_rfl
theorem infoRow : (Try.prog.info? 26).map (fun i => (i.zero, i.size, i.bytes)) = some (some (.slice none 0 0), 1, 24) := by kernel_rfl
theorem intsAt_own {w : World} {B : Nat} {v : Value} {n : Nat} {l : List Int} (G : Nat → Prop) (hl : l.length = n) (hi : ∀ x ∈ l, I64 x) (hG : ∀ k, B ≤ k → k < w.heap.size → G k)
    (h : w.ownsRow B 3 1 v n (l.map (Value.int .i64))) : IntsAt G w v l := by
  have hlt := h.lt
  have hrow := h
  obtain ⟨hx, hc | ⟨g, cap, cur, rfl, hb, hg, hnc, hcm, hcs, htake⟩⟩ := h
  · obtain ⟨rfl, rfl⟩ := hc
    obtain rfl : l = [] := List.length_eq_zero_iff.1 hl
    exact SlAt.nil
  · have hgl := hlt g rfl
    subst hl
    refine ⟨_, cap, rfl, hnc, by unfold maxLen at hcm; omega, (by intro hh; cases hh), fun i hi' => ⟨g, 0, rfl, hG g hgl.1 hgl.2, ?_, hi _ (List.getElem_mem hi')⟩⟩
    rw [show 0 + i * 1 = i by omega, hrow.cellAt i (by omega)]
    simp [hi']
theorem infoExt : (Try.prog.info? 39).map (fun i => (i.zero, i.size, i.bytes)) = some (some (.agg #[.int .i64 0, .int .i64 0]), 2, 16) := by kernel_rfl
end Go.Proofs

/- Package ival: joined. -/
namespace Go.Proofs
open Go.RowKit Sc

set_option maxHeartbeats 400000 in
theorem cloneExt_nil (w : World) : Calls Try.prog 63 #[.slice none 0 0] w fun e w' => e = .returned (.slice none 0 0) ∧ w = w' := by
  have heq := fun (W : World) => Lib.run_eql_slice_nil (P := Try.prog) W 70 39 none 0 0 0 0 Try.underlying70
  go_enter Try.func63, Try.ntmps63
  go_wp2
  go_ret
  exact ⟨rfl, rfl⟩
set_option maxHeartbeats 400000 in
theorem cloneExt_some (a : Addr) (n c : Nat) (news : List Value) (w : World) (hlen : Hid (news.length = n * 2)) (hcell : Hid (∀ j u, news[j]? = some u → w.cell? (a.add j) = some u)) (hone : Hid (∀ u ∈ news, u.oneCell' = true)) (hn : Hid (n ≤ 1000000)) :
    Calls Try.prog 63 #[.slice (some a) n c] w fun e w' => ∃ v', e = .returned v' ∧ Hid (w'.ownsRow w.heap.size 39 2 v' n news) ∧ Hid (Below w.heap.size w w') := by
  obtain ⟨i0, hi, hz0, hz1, hz2⟩ := info_parts infoExt
  have heq := fun (W : World) => Lib.run_eql_slice_nil (P := Try.prog) W 70 39 (some a) n c 0 0 Try.underlying70
  go_enter Try.func63, Try.ntmps63
  go_wp2_with (at_builtin; refine wpList_append_own _ rfl _ _ 70 rfl w.heap.size 39 i0 (.agg #[.int .i64 0, .int .i64 0]) 2 16 Try.underlying70 hi hz0 hz1 hz2 rfl (by decide) _ 0 [] rfl (World.ownsRow_made w _ 0 (Nat.le_refl _) (by decide) rfl) a n c news rfl hlen.out (fun j u hj => cell_alloc_old (hcell.out j u hj)) hone.out (by have := hn.out; unfold maxLen; omega) (by have := hn.out; omega) (by simp) ?_; intro v' w1 hown hgrow hnil)
  go_ret
  refine ⟨v', rfl, by unfold Hid; simpa using hown, ?_⟩
  refine ((Below.refl _ _).alloc (Nat.le_refl _) _).grown hgrow (by simp) (fun k hk => ?_)
  cases hk; exact Nat.le_refl _

/-- Cells of some extents. -/
def flatE (l : List Ext) : List Value := l.flatMap fun e => [.int .i64 e.first, .int .i64 e.len]
theorem flatE_length (l : List Ext) : (flatE l).length = l.length * 2 := by
  unfold flatE
  induction l with
  | nil => rfl
  | cons e l ih => simp [ih]; omega
theorem flatE_get : ∀ (l : List Ext) (i : Nat) (h : i < l.length), (flatE l)[i * 2]? = some (.int .i64 l[i].first) ∧ (flatE l)[i * 2 + 1]? = some (.int .i64 l[i].len)
  | e :: l, 0, _ => ⟨rfl, rfl⟩
  | e :: l, i + 1, h => by
    obtain ⟨h1, h2⟩ := flatE_get l i (by simpa using h)
    have e1 : (i + 1) * 2 = i * 2 + 1 + 1 := by omega
    simp only [e1, List.getElem_cons_succ]
    exact ⟨h1, h2⟩
theorem flatE_append (a b : List Ext) : flatE (a ++ b) = flatE a ++ flatE b := by unfold flatE; simp
theorem flatE_one (l : List Ext) : ∀ u ∈ flatE l, u.oneCell' = true := by
  intro u hu
  obtain ⟨e, _, he⟩ := List.mem_flatMap.1 hu
  simp at he
  rcases he with rfl | rfl <;> rfl
/-- The cells of a slice of extents. -/
theorem extsAt_news {G : Nat → Prop} {w : World} {a : Addr} {n c : Nat} {l : List Ext} (h : ExtsAt G w (.slice (some a) n c) l) : ∀ j u, (flatE l)[j]? = some u → w.cell? (a.add j) = some u := by
  obtain ⟨p, c', he, _, _, _, h4⟩ := h
  cases he
  intro j u hj
  have hjl : j < l.length * 2 := by rw [← flatE_length]; exact (List.getElem?_eq_some_iff.1 hj).1
  obtain ⟨q, hq⟩ : ∃ q, j = q * 2 ∨ j = q * 2 + 1 := ⟨j / 2, by omega⟩
  have hql : q < l.length := by omega
  obtain ⟨b, o, hp, _, h1, h2, _⟩ := h4 q hql
  cases hp
  obtain ⟨g1, g2⟩ := flatE_get l q hql
  have hadd : (⟨b, o, none⟩ : Addr).add j = ⟨b, o + j, none⟩ := by unfold Addr.add; split <;> simp_all
  rw [hadd]
  rcases hq with rfl | rfl
  · rw [g1] at hj; cases hj; exact h1
  · rw [g2] at hj; cases hj; exact h2
theorem extsAt_shape {G : Nat → Prop} {w : World} {v : Value} {l : List Ext} (h : ExtsAt G w v l) : ∃ p c, v = .slice p l.length c := by
  obtain ⟨p, c, rfl, _⟩ := h
  exact ⟨p, c, rfl⟩
/-- A row of extents of one's own. -/
theorem row_extsAt {w : World} {B n : Nat} {v : Value} {l : List Ext} (G : Nat → Prop) (hl : l.length = n) (hi : ∀ e ∈ l, I64 e.first ∧ I64 e.len) (hG : ∀ k, B ≤ k → k < w.heap.size → G k) (h : w.ownsRow B 39 2 v n (flatE l)) : ExtsAt G w v l := by
  have hlt := h.lt
  have hrow := h
  obtain ⟨hx, hc | ⟨g, cap, cur, rfl, hb, hg, hnc, hcm, hcs, htake⟩⟩ := h
  · obtain ⟨rfl, rfl⟩ := hc
    obtain rfl : l = [] := List.length_eq_zero_iff.1 hl
    exact SlAt.nil
  · have hgl := hlt g rfl
    subst hl
    refine ⟨_, cap, rfl, hnc, by unfold maxLen at hcm; omega, (by intro hh; cases hh), fun i hi' => ⟨g, 0, rfl, hG g hgl.1 hgl.2, ?_⟩⟩
    obtain ⟨g1, g2⟩ := flatE_get l i hi'
    have he := hi _ (List.getElem_mem hi')
    refine ⟨?_, ?_, he⟩
    · rw [Nat.zero_add, hrow.cellAt (i * 2) (by omega)]; exact g1
    · rw [Nat.zero_add, hrow.cellAt (i * 2 + 1) (by omega)]; exact g2
end Go.Proofs

/- slices.SortFunc over no extents. -/
namespace Go.Proofs
open Go.RowKit Sc Go.Shelf

theorem sortExt_none (p : Option Addr) (cap : Nat) (fv : Value) (w : World) : Calls Try.prog 82 #[.slice p 0 cap, fv] w fun e w' => e = .returned (.tuple #[]) ∧ w' = w :=
  AnyF.slices_SortFunc_none { Try.sortExt with } p cap fv w
end Go.Proofs

/- Rows of bytes, told by their values. Of no program. -/
namespace Sc
open Go Go.RowKit
/-- Rows of bytes, each told by its value. -/
def DatA (vals : List Value) (ls : List Bytes) : Asn := ⟨fun F w => All2 (BytesAt F w) vals ls, fun _ _ _ hs _ h => h.imp fun _ _ hb => hb.same hs⟩
theorem all2_snoc {α β : Type} {R : α → β → Prop} {a : α} {b : β} (h : R a b) : ∀ {l : List α} {m : List β}, All2 R l m → All2 R (l ++ [a]) (m ++ [b])
  | [], [], _ => ⟨h, trivial⟩
  | _ :: _, _ :: _, ⟨h1, h2⟩ => ⟨h1, all2_snoc h h2⟩
  | [], _ :: _, h' => h'.elim
  | _ :: _, [], h' => h'.elim
theorem Sep.dat_new {W w w' : World} {L : List Asn} (h : Sep W L w) (i : Nat) {vals : List Value} {ls : List Bytes} (hi : L[i]? = some (DatA vals ls)) (hb : Below w.heap.size w w') {v : Value} {b : Bytes} (hv : BytesAt (New w w') w' v b) :
    Sep W (L.set i (DatA (vals ++ [v]) (ls ++ [b]))) w' := by
  obtain ⟨F, G, hF, hR, hFG, hdF, hdG, K⟩ := h.at i hi
  refine K w' (fun k => F k ∨ New w w' k) _ (Chg.of_below hb fun k h1 h2 => by omega) (fun k hk => hk) ?_
  exact all2_snoc (hv.mono fun _ h => .inr h) (All2.imp (fun _ _ (h : BytesAt F w _ _) => (h.up hb).mono fun _ h => .inl h) hF)
/-- A row of one's own lies behind what was there. -/
theorem Sep.row_mine {W w : World} {L : List Asn} (h : Sep W (OldA W :: L) w) (i : Nat) (hi : i ≠ 0) {T k n : Nat} {v : Value} {xs : List Value} (hL : (OldA W :: L)[i]? = some (RowA T k v n xs)) : w.ownsRow W.heap.size T k v n xs := by
  obtain ⟨hg, Fs, h1, h2, h3⟩ := h
  have a := h3 i _ hL
  have o := h3 0 (OldA W) rfl
  obtain ⟨hx, hc | ⟨g, cap, cur, rfl, hb, hq⟩⟩ := a.1
  · exact ⟨hx, .inl hc⟩
  · refine ⟨hx, .inr ⟨g, cap, cur, rfl, ?_, hq⟩⟩
    have hFg := a.2 g rfl
    by_cases hlt : g < W.heap.size
    · exact absurd (o.1 g hlt) (h2 i 0 g hi hFg)
    · omega
/-- A thing that came later lies in new memory. -/
theorem Sep.get_new {W w : World} {L : List Asn} (h : Sep W (OldA W :: L) w) (i : Nat) (hi : i ≠ 0) {A : Asn} (hL : (OldA W :: L)[i]? = some A) : ∃ F, A.P F w ∧ ∀ k, F k → New W w k := by
  obtain ⟨hg, Fs, h1, h2, h3⟩ := h
  have o := h3 0 (OldA W) rfl
  refine ⟨Fs i, h3 i A hL, fun k hk => ⟨?_, h1 i k hk⟩⟩
  by_cases hlt : k < W.heap.size
  · exact absurd (o.1 k hlt) (h2 i 0 k hi hk)
  · omega
end Sc

/- Package ival: joined. -/
namespace Go.Proofs
open Go.RowKit Sc

/-- A row of extents that is being read. -/
def RowEA (g : Nat) (l : List Ext) : Asn := ⟨fun F w => F g ∧ RowE w g l, fun _ _ _ hs _ h => ⟨h.1, fun i hi => by
  obtain ⟨a, b, c, d⟩ := h.2 i hi
  exact ⟨by rw [hs.cell h.1]; exact a, by rw [hs.cell h.1]; exact b, by rw [World.frozen?_of_block (hs g h.1)]; exact c, by rw [World.frozen?_of_block (hs g h.1)]; exact d⟩⟩⟩
abbrev OutEA (v : Value) (l : List Ext) : Asn := RowA 39 2 v l.length (flatE l)
theorem row_rowE {w : World} {B n g c : Nat} {l : List Ext} (hl : l.length = n) (h : w.ownsRow B 39 2 (.slice (some ⟨g, 0, none⟩) n c) n (flatE l)) : RowE w g l := by
  intro i hi
  obtain ⟨g1, g2⟩ := flatE_get l i hi
  exact ⟨by rw [h.cellAt (i * 2) (by omega)]; exact g1, by rw [h.cellAt (i * 2 + 1) (by omega)]; exact g2, h.frozenAt _, h.frozenAt _⟩
theorem normE_nil : normE [] = [] := by simp [normE, joinL]
theorem flatE_set (a : List Ext) (o : Ext) (x : Int) : (flatE (a ++ [o])).set (a.length * 2 + 1) (.int .i64 x) = flatE (a ++ [⟨o.first, x⟩]) := by
  rw [flatE_append, flatE_append, List.set_append_right _ _ (by rw [flatE_length]; omega), flatE_length, show a.length * 2 + 1 - a.length * 2 = 1 by omega]
  rfl
def JoinSaid (l : List Ext) (w : World) (e : Ending) (w' : World) : Prop := ∃ v, e = .returned v ∧ w'.ownsRow w.heap.size 39 2 v l.length (flatE l) ∧ Below w.heap.size w w'

set_option maxRecDepth 100000 in
set_option maxHeartbeats 4000000 in
theorem joined_any (G : Nat → Prop) (v : Value) (l : List Ext) (w : World) (hv : ExtsAt G w v l) (hm : ∀ e ∈ l, Oke e) (hl : l.length ≤ 100000) :
    Calls Try.prog 70 #[v] w (JoinSaid (normE l) w) := by
  by_cases hnil : l = []
  case pos =>
    subst hnil
    obtain ⟨p, c, rfl, h1, h2, h3, _⟩ := hv
    have hclone : Calls Try.prog 63 #[.slice p 0 c] w fun e w' => ∃ p' c', e = .returned (.slice p' 0 c') ∧ Hid (Below w.heap.size w w') := by
      cases p with
      | none =>
        obtain rfl := h3 rfl
        refine (cloneExt_nil w).mono ?_
        rintro e w' ⟨rfl, rfl⟩
        exact ⟨none, 0, rfl, Below.refl _ _⟩
      | some a =>
        refine (cloneExt_some a 0 c [] w rfl (fun j u hj => by cases hj) (fun u hu => by cases hu) (by unfold Hid; omega)).mono ?_
        rintro e w' ⟨v', rfl, ho, hb⟩
        obtain ⟨_, ⟨rfl, _⟩ | ⟨g, cap, _, rfl, _⟩⟩ := ho.out
        · exact ⟨_, _, rfl, hb⟩
        · exact ⟨_, _, rfl, hb⟩
    have HCLONE := Lib.hid hclone
    clear hclone
    clear h1 h2 h3
    go_enter Try.func70, Try.ntmps70
    go_wp2_with fail
    go_step3
    go_wp2_with fail
    refine (HCLONE.out).mono ?_
    rintro e w1 ⟨p', c', rfl, hb1⟩
    go_wp2_with fail
    refine (sortExt_none p' c' _ _).mono ?_
    rintro e w2 ⟨rfl, rfl⟩
    go_wp2_with fail
    go_step3
    go_wp2_with fail
    go_loopw [2, 12] (fun vo i wr => vo = .slice none 0 0 ∧ i = .int .i64 0 ∧ wr = w2) (fun _ _ _ => 0)
    case atStart => exact ⟨rfl, rfl, rfl⟩
    case round =>
      obtain ⟨rfl, rfl, rfl⟩ := hrel
      go_wp2_with fail
      rw [Exit.noGoto_ret]
      go_ret
      refine ⟨.slice none 0 0, rfl, ?_, hb1.out⟩
      rw [normE_nil]
      exact World.ownsRow_nil _ _ _ _
  case neg =>
    have hpos := List.length_pos_iff.2 hnil
    obtain ⟨p, c, rfl, h1, h2, h3, h4⟩ := hv
    obtain ⟨b0, o0, rfl, _, _⟩ := h4 0 hpos
    have hnews := extsAt_news (G := G) (w := w) (a := ⟨b0, o0, none⟩) (n := l.length) (c := c) (l := l) ⟨_, c, rfl, h1, h2, h3, h4⟩
    have hcl := cloneExt_some ⟨b0, o0, none⟩ l.length c (flatE l) w (flatE_length l) hnews (flatE_one l) (by unfold Hid; omega)
    have HM := Lib.hid hm
    have HCL := Lib.hid hcl
    clear hm hcl
    clear h1 h2 h3 h4 hnews hnil
    go_enter Try.func70, Try.ntmps70
    go_wp2_with fail
    go_step3
    go_wp2_with fail
    refine (HCL.out).mono ?_
    rintro e w1 ⟨v1, rfl, HO1, HB1⟩
    have hS1 := (Sep.start w).row_new HB1.out HO1.out
    obtain ⟨g, cg, rfl, hg1, hg2⟩ := HO1.out.form hpos
    have hR1 := row_rowE rfl HO1.out
    have HS1 := Lib.hid hS1
    have HR1 := Lib.hid hR1
    have HG1 := Lib.hid hg1
    have HG2 := Lib.hid hg2
    clear hS1 hR1 hg1 hg2
    go_wp2_with fail
    refine (sortExt_any g cg l w1 HR1.out HG2.out (by omega)).mono ?_
    rintro e w2 ⟨rfl, l', hp, hs, hc2, hR2⟩
    have hS2 : Sep w [OldA w, RowEA g l'] w2 := by
      obtain ⟨F, GG, hF, _, _, hdF, _, K⟩ := HS1.out.at 1 rfl
      exact K w2 F (RowEA g l') (hc2.mono fun k _ hk => by subst hk; exact hF.2 _ rfl) (fun k hk => .inl hk) ⟨hF.2 g rfl, hR2⟩
    have hS3 := hS2.new (Below.refl _ _) (OutEA (.slice none 0 0) []) (F := fun _ => False) (fun _ h => h.elim) ⟨World.ownsRow_nil _ _ _ _, by simp [Value.ownBlock]⟩
    have hlen := hp.length_eq
    have hm' : ∀ e ∈ l', Oke e := fun e he => HM.out e (hp.mem_iff.1 he)
    have hfin : joinL l' = normE l := normE_eq (fun e he => (HM.out e he).2.2.1) hp hs
    rw [← hlen] at hl hpos ⊢
    have HS3 := Lib.hid hS3
    have HM' := Lib.hid hm'
    have HFIN := Lib.hid hfin
    have HS := Lib.hid hs
    clear hS3 hm' hfin hs
    clear hS2 hc2 hR2 hp hlen
    go_wp2_with fail
    go_step3
    go_wp2_with fail
    go_loopw [2, 12] (fun vo i wr => ∃ k : Nat, ∃ po co, k ≤ l'.length ∧ i = .int .i64 k ∧ vo = .slice po (joinL (l'.take k)).length co ∧ Hid (Sep w [OldA w, RowEA g l', OutEA (.slice po (joinL (l'.take k)).length co) (joinL (l'.take k))] wr)) (fun _ i _ => l'.length - (intOf i).toNat)
    case atStart => exact ⟨0, none, 0, by omega, rfl, rfl, HS3.out⟩
    case round =>
      obtain ⟨k, po, co, hk, rfl, rfl, HS⟩ := hrel
      by_cases hlt : k < l'.length
      case neg =>
        obtain rfl : k = l'.length := by omega
        obtain ⟨F, hF, _⟩ := HS.out.get 2 rfl
        rw [List.take_length, HFIN.out] at hF ⊢
        have hold := HS.out.old
        have hown := HS.out.row_mine 2 (by decide) rfl
        rw [List.take_length, HFIN.out] at hown
        have HOLD := Lib.hid hold
        have HOWN := Lib.hid hown
        clear hold hown
        clear hF
        go_wp2_with fail
        rw [Exit.noGoto_ret]
        go_ret
        refine ⟨_, rfl, ?_, HOLD.out⟩
        exact HOWN.out
      case pos =>
        obtain ⟨F1, hF1, _⟩ := HS.out.get 1 rfl
        obtain ⟨hc0, hc1, _, _⟩ := hF1.2 k hlt
        have htk := take_snoc l' k hlt
        have hme := HM'.out _ (List.getElem_mem hlt)
        generalize l'[k] = e at hc0 hc1 htk hme
        have hoke := joinL_oke (l'.take k) (fun e he => HM'.out e (List.mem_of_mem_take he))
        have hjl := joinL_len (l'.take k)
        rw [List.length_take] at hjl
        have hj2 : joinL (l'.take (k + 1)) = joinStep (joinL (l'.take k)) e := by rw [htk, joinL_snoc]
        generalize joinL (l'.take k) = out at *
        obtain ⟨b1, b2, b3, b4⟩ := hme
        have hw1 : IntKind.i64.wrap (e.first + e.len) = e.first + e.len := IntWalk.i64_in _ (by omega)
        have k0 : (0 : Int) ≤ (k : Int) := by omega
        have k1 : (k : Int) < (l'.length : Int) := by omega
        have HTK := Lib.hid htk
        have HJ2 := Lib.hid hj2
        clear htk hj2
        clear hF1
        have hba := below_alloc wr (.cells #[.int .i64 e.first, .int .i64 e.len] 39)
        have hea : (wr.alloc (.cells #[.int .i64 e.first, .int .i64 e.len] 39)).cell? ⟨wr.heap.size, 0, none⟩ = some (.int .i64 e.first) := by rw [cell_row (heap_alloc_new wr _)]; rfl
        have heb : (wr.alloc (.cells #[.int .i64 e.first, .int .i64 e.len] 39)).cell? ⟨wr.heap.size, 1, none⟩ = some (.int .i64 e.len) := by rw [cell_row (heap_alloc_new wr _)]; rfl
        have hsa : wr.heap.size < (wr.alloc (.cells #[.int .i64 e.first, .int .i64 e.len] 39)).heap.size := by simp
        have HBA := Lib.hid hba
        have HSA := Lib.hid hsa
        clear hba hsa
        by_cases hout : out = []
        case pos =>
          subst hout
          go_wp2_with fail
          go_quiet (fail)
          have hSq := HS.out.up (w' := (wr.alloc (.cells #[.int .i64 e.first, .int .i64 e.len] 39)).drewN nq) (below_drewN HBA.out _)
          have hqa : ((wr.alloc (.cells #[.int .i64 e.first, .int .i64 e.len] 39)).drewN nq).cell? ⟨wr.heap.size, 0, none⟩ = some (.int .i64 e.first) := hea
          have hqb : ((wr.alloc (.cells #[.int .i64 e.first, .int .i64 e.len] 39)).drewN nq).cell? ⟨wr.heap.size, 1, none⟩ = some (.int .i64 e.len) := heb
          generalize (wr.alloc (.cells #[.int .i64 e.first, .int .i64 e.len] 39)).drewN nq = wq at *
          have HSQ := Lib.hid hSq
          clear hSq
          clear hea heb
          obtain ⟨FA, hFA, _⟩ := HSQ.out.get 2 rfl
          have hrowA := hFA.1
          obtain ⟨iiA, hiiA, hizA, hiyA, hixA⟩ := info_parts infoExt
          have HROWA := Lib.hid hrowA
          clear hFA hrowA
          go_wp2_with (at_builtin; refine wpList_append_lies _ rfl _ _ 70 rfl 0 39 iiA (.agg #[.int .i64 0, .int .i64 0]) 2 16 Try.underlying70 hiiA hizA hiyA hixA rfl (by decide) _ (0) ([]) rfl (HROWA.out.alloc _) ⟨wq.heap.size, 0, none⟩ 1 1 [.int .i64 e.first, .int .i64 e.len] rfl rfl (World.news_of_block (cs := #[.int .i64 e.first, .int .i64 e.len]) (heap_alloc_new wq _)) (by simp [Value.oneCell']) (by decide) (by unfold maxLen; omega) (by omega) (Nat.zero_le _) (wq.heap.size + 1) (by simp) ?_; intro gA cA wA hownA hgrowA hatA hltA)
          have hSA := HSQ.out.row_app 2 rfl (below_alloc _ _) hownA hgrowA hatA (by simp) hltA
          clear hownA hgrowA hatA hltA hiiA hizA hiyA hixA
          have HSA := Lib.hid hSA
          clear hSA
          rw [joinStep_nil] at HJ2
          go_wp2_with fail
          go_roundw
          case rel =>
            refine ⟨k + 1, _, cA, by omega, by go_num, by rw [HJ2.out]; rfl, ?_⟩
            unfold Hid
            rw [HJ2.out]
            exact HSA.out
          case measure => simp [intOf]; omega
        case neg =>
          obtain ⟨a, o, rfl⟩ := snoc_of hout
          obtain ⟨o1, o2, o3, o4⟩ := hoke o (by simp)
          have hL : (a ++ [o]).length = a.length + 1 := by simp
          have hS' : Sep w [OldA w, RowEA g l', RowA 39 2 (.slice po (a ++ [o]).length co) (a ++ [o]).length (flatE (a ++ [o]))] wr := HS.out
          obtain ⟨F2, hF2, _⟩ := HS.out.get 2 rfl
          obtain ⟨g2, c2, he2, _⟩ := hF2.1.form (by omega)
          cases he2
          obtain ⟨hx1, _⟩ := HS.out.row_cell 2 rfl (a.length * 2) (by omega)
          obtain ⟨hx2, hfz⟩ := HS.out.row_cell 2 rfl (a.length * 2 + 1) (by omega)
          obtain ⟨ga, gb⟩ := flatE_get (a ++ [o]) a.length (by simp)
          rw [ga] at hx1
          rw [gb] at hx2
          simp only [List.getElem_concat_length] at hx1 hx2
          rw [hL] at hS' hjl ⊢
          rw [joinStep_snoc] at HJ2
          have hxa := cell_up HBA.out hx1
          have hxb := cell_up HBA.out hx2
          have hfa : (wr.alloc (.cells #[.int .i64 e.first, .int .i64 e.len] 39)).frozen? ⟨g2, a.length * 2 + 1, none⟩ = false := by
            rw [HBA.out.frozen (p := ⟨g2, a.length * 2 + 1, none⟩) (World.block_lt_of_cell? _ _ hx2)]; exact hfz
          have hw2 : IntKind.i64.wrap (o.first + o.len) = o.first + o.len := IntWalk.i64_in _ (by omega)
          have hn1 : ((a.length : Nat) : Int) < ((a.length + 1 : Nat) : Int) := by omega
          have hn0 : (0 : Int) ≤ (a.length : Int) := by omega
          have HS' := Lib.hid hS'
          clear hS'
          clear hF2 hoke ga gb hx1 hx2 hfz
          by_cases hc : e.first ≤ o.first + o.len
          case pos =>
            rw [if_pos hc] at HJ2
            have hdc : decide (e.first ≤ o.first + o.len) = true := decide_eq_true hc
            go_wp2_with fail
            go_quiet (fail)
            have hSq := HS'.out.up (w' := (wr.alloc (.cells #[.int .i64 e.first, .int .i64 e.len] 39)).drewN nq) (below_drewN HBA.out _)
            generalize hqq : (wr.alloc (.cells #[.int .i64 e.first, .int .i64 e.len] 39)).drewN nq = wq at *
            have hqa : wq.cell? ⟨wr.heap.size, 0, none⟩ = some (.int .i64 e.first) := by rw [← hqq]; exact hea
            have hqb : wq.cell? ⟨wr.heap.size, 1, none⟩ = some (.int .i64 e.len) := by rw [← hqq]; exact heb
            have hqx : wq.cell? ⟨g2, a.length * 2, none⟩ = some (.int .i64 o.first) := by rw [← hqq]; exact hxa
            have hqy : wq.cell? ⟨g2, a.length * 2 + 1, none⟩ = some (.int .i64 o.len) := by rw [← hqq]; exact hxb
            have hqf : wq.frozen? ⟨g2, a.length * 2 + 1, none⟩ = false := by rw [← hqq]; exact hfa
            have hw3 : IntKind.i64.wrap (e.first + e.len - o.first) = e.first + e.len - o.first := IntWalk.i64_in _ (by omega)
            have HSQ := Lib.hid hSq
            have HQQ := Lib.hid hqq
            clear hSq hqq
            clear hea heb hxa hxb hfa
            go_wp2_with fail
            go_region
            have hS8 := (HSQ.out.row_set 2 rfl (a.length * 2 + 1) (.int .i64 (max o.len (e.first + e.len - o.first)))).up (w' := (wq.setCell ⟨g2, a.length * 2 + 1, none⟩ (.int .i64 (max o.len (e.first + e.len - o.first)))).drew) (below_drewN (Below.refl _ _) 1)
            rw [flatE_set] at hS8
            have HS8 := Lib.hid hS8
            clear hS8
            go_wp2_with fail
            go_roundw
            case rel =>
              refine ⟨k + 1, some ⟨g2, 0, none⟩, co, by omega, by go_num, by rw [HJ2.out]; simp, ?_⟩
              unfold Hid
              rw [HJ2.out]
              have e1 : (a ++ [(⟨o.first, max o.len (e.first + e.len - o.first)⟩ : Ext)]).length = a.length + 1 := by simp
              rw [e1]
              show Sep w [OldA w, RowEA g l', RowA 39 2 _ (a ++ [(⟨o.first, max o.len (e.first + e.len - o.first)⟩ : Ext)]).length _] _
              rw [e1]
              exact HS8.out
            case measure => simp [intOf]; omega
          case neg =>
            rw [if_neg hc] at HJ2
            have hdc : decide (e.first ≤ o.first + o.len) = false := decide_eq_false hc
            clear hc
            go_wp2_with fail
            go_quiet (fail)
            have hSq := HS'.out.up (w' := (wr.alloc (.cells #[.int .i64 e.first, .int .i64 e.len] 39)).drewN nq) (below_drewN HBA.out _)
            generalize hqq : (wr.alloc (.cells #[.int .i64 e.first, .int .i64 e.len] 39)).drewN nq = wq at *
            have hqa : wq.cell? ⟨wr.heap.size, 0, none⟩ = some (.int .i64 e.first) := by rw [← hqq]; exact hea
            have hqb : wq.cell? ⟨wr.heap.size, 1, none⟩ = some (.int .i64 e.len) := by rw [← hqq]; exact heb
            have HSQ := Lib.hid hSq
            have HQQ := Lib.hid hqq
            clear hSq hqq
            clear hea heb hxa hxb hfa
            obtain ⟨FA, hFA, _⟩ := HSQ.out.get 2 rfl
            have hrowA := hFA.1
            obtain ⟨iiA, hiiA, hizA, hiyA, hixA⟩ := info_parts infoExt
            have HROWA := Lib.hid hrowA
            clear hFA hrowA
            go_wp2_with (at_builtin; refine wpList_append_lies _ rfl _ _ 70 rfl 0 39 iiA (.agg #[.int .i64 0, .int .i64 0]) 2 16 Try.underlying70 hiiA hizA hiyA hixA rfl (by decide) _ (a.length + 1) (flatE (a ++ [o])) rfl (HROWA.out.alloc _) ⟨wq.heap.size, 0, none⟩ 1 1 [.int .i64 e.first, .int .i64 e.len] rfl rfl (World.news_of_block (cs := #[.int .i64 e.first, .int .i64 e.len]) (heap_alloc_new wq _)) (by simp [Value.oneCell']) (by decide) (by unfold maxLen; omega) (by omega) (Nat.zero_le _) (wq.heap.size + 1) (by simp) ?_; intro gA cA wA hownA hgrowA hatA hltA)
            have hSA := HSQ.out.row_app 2 rfl (below_alloc _ _) hownA hgrowA hatA (by simp) hltA
            clear hownA hgrowA hatA hltA hiiA hizA hiyA hixA
            have HSA := Lib.hid hSA
            clear hSA
            go_wp2_with fail
            go_roundw
            case rel =>
              have e1 : (a ++ [o] ++ [e]).length = a.length + 1 + 1 := by simp
              have e2 : flatE (a ++ [o] ++ [e]) = flatE (a ++ [o]) ++ [.int .i64 e.first, .int .i64 e.len] := by rw [flatE_append]; rfl
              refine ⟨k + 1, _, cA, by omega, by go_num, by rw [HJ2.out, e1], ?_⟩
              unfold Hid
              rw [HJ2.out, e1]
              show Sep w [OldA w, RowEA g l', RowA 39 2 _ (a ++ [o] ++ [e]).length (flatE (a ++ [o] ++ [e]))] _
              rw [e1, e2]
              exact HSA.out
            case measure => simp [intOf]; omega
end Go.Proofs

/- Package ival: New, Extents, Count, Meets, Has, Crosses. -/
namespace Go.Proofs
open Go.RowKit Sc

/-- A Set, in the blocks F. -/
structure SetIs (F : Nat → Prop) (w : World) (v : Value) (most : Int) (l : List Ext) : Prop where
  out : ∃ b sv, v = .pointer (some ⟨b, 0, none⟩) ∧ F b ∧ w.heap[b]? = some (.cells #[.int .i64 most, sv] 132 (0, 0)) ∧ ExtsAt F w sv l
  dom : Dom F w
theorem SetIs.same {F : Nat → Prop} {w w' : World} {v : Value} {most : Int} {l : List Ext} (h : SetIs F w v most l) (hs : Same F w w') (hz : w.heap.size ≤ w'.heap.size) : SetIs F w' v most l := by
  obtain ⟨⟨b, sv, h1, h2, h3, h4⟩, hd⟩ := h
  exact ⟨⟨b, sv, h1, h2, by rw [hs b h2]; exact h3, h4.same hs⟩, hd.of_size hz⟩
theorem SetIs.up {F : Nat → Prop} {w w' : World} {v : Value} {most : Int} {l : List Ext} (h : SetIs F w v most l) (hb : Below w.heap.size w w') : SetIs F w' v most l := h.same (h.dom.same hb) hb.size
def SetA (v : Value) (most : Int) (l : List Ext) : Asn := ⟨fun F w => SetIs F w v most l, fun _ _ _ hs hz h => h.same hs hz⟩
theorem SetIs.cells {F : Nat → Prop} {w : World} {v : Value} {most : Int} {l : List Ext} (h : SetIs F w v most l) :
    ∃ b p c, v = .pointer (some ⟨b, 0, none⟩) ∧ F b ∧ b < w.heap.size ∧ w.cell? ⟨b, 0, none⟩ = some (.int .i64 most) ∧ w.cell? ⟨b, 1, none⟩ = some (.slice p l.length c) ∧ ExtsAt F w (.slice p l.length c) l := by
  obtain ⟨⟨b, sv, h1, h2, h3, h4⟩, hd⟩ := h
  obtain ⟨p, c, rfl⟩ := extsAt_shape h4
  exact ⟨b, p, c, h1, h2, hd b h2, by rw [cell_row h3]; rfl, by rw [cell_row h3]; rfl, h4⟩

def SetNew (n : Int) (w : World) (e : Ending) (w' : World) : Prop := ∃ b : Nat, e = .returned (.pointer (some ⟨b, 0, none⟩)) ∧ SetIs (New w w') w' (.pointer (some ⟨b, 0, none⟩)) n [] ∧ Below w.heap.size w w'
theorem setNew_any (n : Int) (w : World) : Calls Try.prog 54 #[.int .i64 n] w (SetNew n w) := by
  go_enter Try.func54, Try.ntmps54
  go_wp2
  go_ret
  exact ⟨w.heap.size, rfl, ⟨⟨w.heap.size, .slice none 0 0, rfl, ⟨Nat.le_refl _, by simp⟩, heap_alloc_new w _, SlAt.nil⟩, fun k hk => hk.2⟩, below_alloc w _⟩

/-- Cells of extents, freshly laid, or none. -/
def ExtsSaid (l : List Ext) (w : World) (e : Ending) (w' : World) : Prop := ∃ p c, e = .returned (.slice p l.length c) ∧ ExtsAt (New w w') w' (.slice p l.length c) l ∧ Below w.heap.size w w'
theorem cloneExt_any (G : Nat → Prop) (v : Value) (l : List Ext) (w : World) (hv : ExtsAt G w v l) (hi : ∀ e ∈ l, I64 e.first ∧ I64 e.len) (hl : l.length ≤ 1000000) :
    Calls Try.prog 63 #[v] w (ExtsSaid l w) := by
  obtain ⟨p, c, rfl, h1, h2, h3, h4⟩ := hv
  cases p with
  | none =>
    obtain rfl := h3 rfl
    obtain rfl : l = [] := List.length_eq_zero_iff.1 (by omega)
    refine (cloneExt_nil w).mono ?_
    rintro e w' ⟨rfl, rfl⟩
    exact ⟨none, 0, rfl, SlAt.nil, Below.refl _ _⟩
  | some a =>
    refine (cloneExt_some a l.length c (flatE l) w (flatE_length l) ?_ (flatE_one l) hl).mono ?_
    · exact extsAt_news (G := G) (w := w) (a := a) (n := l.length) (c := c) (l := l) ⟨_, c, rfl, h1, h2, h3, h4⟩
    · rintro e w' ⟨v', rfl, ho, hb⟩
      have := row_extsAt (New w w') rfl hi (fun k a b => ⟨a, b⟩) ho.out
      obtain ⟨p', c', rfl⟩ := extsAt_shape this
      exact ⟨p', c', rfl, this, hb.out⟩
theorem extsAt_i64 {G : Nat → Prop} {w : World} {v : Value} {l : List Ext} (h : ExtsAt G w v l) : ∀ e ∈ l, I64 e.first ∧ I64 e.len := by
  obtain ⟨p, c, rfl, _, _, _, h4⟩ := h
  intro e he
  obtain ⟨i, hi, rfl⟩ := List.getElem_of_mem he
  obtain ⟨_, _, _, _, _, _, q⟩ := h4 i hi
  exact q
theorem setExtents_any (F : Nat → Prop) (v : Value) (most : Int) (l : List Ext) (w : World) (h : SetIs F w v most l) (hl : l.length ≤ 1000000) :
    Calls Try.prog 30 #[v] w (ExtsSaid l w) := by
  obtain ⟨b, p, c, rfl, _, hb, hc0, hc1, hx⟩ := h.cells
  have hcl := cloneExt_any F _ l w hx (extsAt_i64 hx) hl
  have HCL := Lib.hid hcl
  clear hcl
  clear hx
  go_enter Try.func30, Try.ntmps30
  go_wp2_with fail
  refine (HCL.out).mono ?_
  rintro e w1 ⟨p', c', rfl, hx1, hb1⟩
  have HX1 := Lib.hid hx1
  have HB1 := Lib.hid hb1
  clear hx1 hb1
  go_wp2
  go_ret
  exact ⟨p', c', rfl, HX1.out, HB1.out⟩
theorem setExtents_nil (w : World) : Calls Try.prog 30 #[.pointer none] w fun e w' => e = .returned (.slice none 0 0) ∧ w = w' := by
  go_enter Try.func30, Try.ntmps30
  go_wp2
  go_ret
  exact ⟨rfl, rfl⟩
/-- How many blocks. -/
def cntE (l : List Ext) : Int := (l.map (·.len)).sum
theorem cntE_take (l : List Ext) (k : Nat) (h : k < l.length) : cntE (l.take (k + 1)) = cntE (l.take k) + l[k].len := by
  unfold cntE; rw [take_snoc l k h, List.map_append, List.sum_append]; simp only [List.map_cons, List.map_nil, List.sum_cons, List.sum_nil]; omega
theorem cntE_bd (l : List Ext) (h : ∀ e ∈ l, Oke e) : ∀ k, 0 ≤ cntE (l.take k) ∧ cntE (l.take k) ≤ 1048577 * l.length := by
  have : ∀ m : List Ext, (∀ e ∈ m, Oke e) → 0 ≤ cntE m ∧ cntE m ≤ 1048577 * m.length := by
    intro m
    induction m with
    | nil => intro _; simp [cntE]
    | cons e m ih =>
      intro h
      have h1 := ih fun x hx => h x (by simp [hx])
      have h2 := h e (by simp)
      unfold Oke at h2
      unfold cntE at *
      simp only [List.map_cons, List.sum_cons, List.length_cons]
      omega
  intro k
  have h1 := this (l.take k) fun e he => h e (List.mem_of_mem_take he)
  rw [List.length_take] at h1
  have : min k l.length ≤ l.length := Nat.min_le_right _ _
  omega
set_option maxHeartbeats 1000000 in
theorem countLoop_any (l : List Ext) (h : ∀ e ∈ l, Oke e) (hl : l.length ≤ 1000000) (v : Value) (w : World) (hv : Calls Try.prog 30 #[v] w (ExtsSaid l w)) :
    Calls Try.prog 23 #[v] w fun e w' => e = .returned (.int .i64 (cntE l)) ∧ Below w.heap.size w w' := by
  have HV := Lib.hid hv
  have H := Lib.hid h
  clear hv h
  go_enter Try.func23, Try.ntmps23
  go_wp2_with fail
  refine (HV.out).mono ?_
  rintro e w1 ⟨p, c, rfl, hx, hb1⟩
  obtain ⟨p', c', he, h1, h2, _, h4⟩ := hx
  cases he
  have H4 := Lib.hid h4
  have HB1 := Lib.hid hb1
  clear h4 hb1
  go_wp2_with fail
  go_loopw [2, 8] (fun s i wr => ∃ k : Nat, k ≤ l.length ∧ i = .int .i64 k ∧ s = .int .i64 (cntE (l.take k)) ∧ Hid (Below w1.heap.size w1 wr)) (fun _ i _ => l.length - (intOf i).toNat)
  case atStart => exact ⟨0, by omega, rfl, by simp [cntE], Below.refl _ _⟩
  case round =>
    obtain ⟨k, hk, rfl, rfl, HB⟩ := hrel
    by_cases hlt : k < l.length
    · obtain ⟨b, o, rfl, hb, hc0, hc1, _, _⟩ := H4.out k hlt
      have hc0' := cell_up HB.out hc0
      have hc1' := cell_up HB.out hc1
      have hsu := cntE_take l k hlt
      have hbd := cntE_bd l H.out k
      have hok := H.out _ (List.getElem_mem hlt)
      unfold Oke at hok
      generalize l[k] = e at *
      generalize cntE (l.take k) = q at *
      have hb2 := Below.up HB.out (below_alloc wr (.cells #[.int .i64 e.first, .int .i64 e.len] 39))
      obtain ⟨hbd1, hbd2⟩ := hbd
      obtain ⟨ok1, ok2, ok3, ok4⟩ := hok
      have hq : q ≤ 1048577 * 1000000 := by omega
      have hw1 : IntKind.i64.wrap (q + e.len) = q + e.len := IntWalk.i64_in _ (by omega)
      have HSU := Lib.hid hsu
      have HB2 := Lib.hid hb2
      clear hsu hb2
      clear hc0 hc1 hbd2
      go_wp2_with fail
      go_roundw
      case rel => exact ⟨k + 1, by omega, by go_num, by rw [HSU.out], HB2.out⟩
      case measure => simp [intOf]; omega
    · obtain rfl : k = l.length := by omega
      have hb2 := Below.up HB1.out HB.out
      have HB2 := Lib.hid hb2
      clear hb2
      go_wp2
      go_ret
      refine ⟨?_, HB2.out⟩
      rw [List.take_length]
      rfl
theorem setCount_any (F : Nat → Prop) (v : Value) (most : Int) (l : List Ext) (w : World) (h : SetIs F w v most l) (ho : ∀ e ∈ l, Oke e) (hl : l.length ≤ 1000000) :
    Calls Try.prog 23 #[v] w fun e w' => e = .returned (.int .i64 (cntE l)) ∧ Below w.heap.size w w' := countLoop_any l ho hl v w (setExtents_any F v most l w h hl)
theorem setCount_nil (w : World) : Calls Try.prog 23 #[.pointer none] w fun e w' => e = .returned (.int .i64 0) ∧ Below w.heap.size w w' :=
  countLoop_any [] (by simp) (by simp) _ w ((setExtents_nil w).mono fun _ _ ⟨h1, h2⟩ => ⟨none, 0, h1, SlAt.nil, by subst h2; exact Below.refl _ _⟩)
end Go.Proofs

/- append of whatever slice onto a slice of one's own; slices.Grow of nil and slices.Concat of two, over extents. -/
namespace Sc
open Go Go.RowKit
section
variable {P : Program}
theorem run_append_nil (w : World) (t ty e : TypeId) (i : TypeInfo) (ht : P.underlying t = some (.slice e)) (hi : P.info? e = some i) (p : Option Addr) (n c : Nat) (hn : n ≤ c) :
    (Builtin.append_ #[t, t] ty #[.slice p n c, .slice none 0 0]).run P w = .ok (.slice p n c) w := by
  cases p with
  | none => simp [Builtin.append_, run_underlying ht, Go.sizeOf, typeInfo, hi, Builtin.lenOf, Builtin.firstCells, hn]
  | some a => simp [Builtin.append_, run_underlying ht, Go.sizeOf, typeInfo, hi, Builtin.lenOf, Builtin.firstCells, hn, storeCells]
theorem run_append_any (w : World) (t ty : TypeId) (base : Nat) (e : TypeId) (i : TypeInfo) (z : Value) (size bytes : Nat) (ht : P.underlying t = some (.slice e)) (hi : P.info? e = some i) (hz : i.zero = some z)
    (hsize : i.size = size) (hby : i.bytes = bytes) (hzs : z.cells.size = size) (hsz : 0 < size)
    (v : Value) (n : Nat) (xs : List Value) (hown : w.ownsRow base e size v n xs) (p : Option Addr) (m c : Nat) (hp : p = none → m = 0 ∧ c = 0) (news : List Value) (hl : news.length = m * size)
    (hnews : ∀ a, p = some a → ∀ j u, news[j]? = some u → w.cell? (a.add j) = some u) (h1 : ∀ u ∈ news, u.oneCell' = true) (h63 : n + m ≤ maxLen) (hbytes : (n + m) * bytes ≤ 140737488355328) (hbase : base ≤ w.heap.size) :
    ∃ v' w', (Builtin.append_ #[t, t] ty #[v, .slice p m c]).run P w = .ok v' w' ∧ w'.ownsRow base e size v' (n + m) (xs ++ news) ∧ w.grownBy w' v.ownBlock ∧ (v'.ownBlock = v.ownBlock ∨ v'.ownBlock = some w.heap.size) := by
  cases p with
  | some a =>
    obtain ⟨v', w', h1, h2, h3, _, h5⟩ := run_append_own_at (P := P) w base t ty e i z size bytes ht hi hz hsize hby hzs hsz v n xs hown a m c news hl (hnews a rfl) h1 h63 hbytes hbase
    exact ⟨v', w', h1, h2, h3, h5⟩
  | none =>
    obtain ⟨rfl, rfl⟩ := hp rfl
    have hnil : news = [] := List.length_eq_zero_iff.1 (by omega)
    subst hnil
    obtain ⟨hx, hc | ⟨g, cap, cur, rfl, hb, hg, hnc, hcm, hcs, htake⟩⟩ := id hown
    · obtain ⟨rfl, rfl⟩ := hc
      exact ⟨_, w, run_append_nil w t ty e i ht hi none 0 0 (Nat.le_refl _), by simpa using hown, ⟨rfl, rfl, rfl, Nat.le_refl _, fun _ _ _ => rfl⟩, .inl rfl⟩
    · exact ⟨_, w, run_append_nil w t ty e i ht hi _ n cap hnc, by simpa using hown, ⟨rfl, rfl, rfl, Nat.le_refl _, fun _ _ _ => rfl⟩, .inl rfl⟩
end
end Sc
namespace Go.Proofs
open Go.RowKit Sc

def GrowSaid (w : World) (e : Ending) (w' : World) : Prop := ∃ v, e = .returned v ∧ w'.ownsRow w.heap.size 39 2 v 0 [] ∧ Below w.heap.size w w'
set_option maxRecDepth 100000 in
set_option maxHeartbeats 1000000 in
theorem growExt_nil (n : Nat) (w : World) (hn : n ≤ 1000000) : Calls Try.prog 85 #[.slice none 0 0, .int .i64 n] w (GrowSaid w) := by
  obtain ⟨i0, hi, hz0, hz1, hz2⟩ := info_parts infoExt
  by_cases h0 : n = 0
  · subst h0
    clear hi hz0 hz1 hz2
    go_enter Try.func85, Try.ntmps85
    go_wp2
    go_ret
    exact ⟨.slice none 0 0, rfl, World.ownsRow_nil _ _ _ _, Below.refl _ _⟩
  · have hold : (Builtin.firstCells i0.size 0 (.slice none 0 0)).run Try.prog w.drew = .ok ([] : List Value).toArray w.drew := by simp [Builtin.firstCells]
    have hrz := Lib.run_append_grow_zeros (P := Try.prog) w 70 3 70 39 i0 (.agg #[.int .i64 0, .int .i64 0]) .i64 .i64 Try.underlying70 Try.underlying3 hi hz0 none 0 0 [] hold n (by omega) (by omega) (by omega) (by omega) (by rw [hz2]; omega) (growslice_fits (by omega) (by rw [hz2]; omega))
    rw [Nat.zero_add] at hrz
    have hge := grownCap_ge w n 0 39
    have hle := grownCap_le_maxLen w n 0 39 (by unfold maxLen; omega)
    generalize grownCap w n 0 39 = C at *
    have hcur : ((([] : List Value).toArray ++ Builtin.zeroCells (Value.agg #[.int .i64 0, .int .i64 0]).cells n ++ Builtin.zeroCells (Value.agg #[.int .i64 0, .int .i64 0]).cells (C - n))).size = C * 2 := by
      simp [Builtin.zeroCells, Value.cells]; omega
    generalize (([] : List Value).toArray ++ Builtin.zeroCells (Value.agg #[.int .i64 0, .int .i64 0]).cells n ++ Builtin.zeroCells (Value.agg #[.int .i64 0, .int .i64 0]).cells (C - n)) = cur at *
    have hpos : 0 < (n : Int) := by omega
    have hn' : (n : Int) ≤ 1000000 := by omega
    have HRZ := Lib.hid hrz
    have HGE := Lib.hid hge
    have HLE := Lib.hid hle
    have HCUR := Lib.hid hcur
    clear hge hle hcur
    clear hold hrz hi hz0 hz1 hz2 h0
    go_enter Try.func85, Try.ntmps85
    go_wp2_with (at_builtin; refine Lib.wpList_append_run _ rfl _ _ _ _ rfl _ _ rfl rfl _ _ HRZ.out ?_)
    all_goals
      go_ret
      refine ⟨.slice (some ⟨w.heap.size, 0, none⟩) 0 C, rfl, ?_, (below_drewN (Below.refl _ w) 1).alloc (Nat.le_refl _) _⟩
      exact World.ownsRow_made w.drew cur C (Nat.le_refl _) HLE.out HCUR.out

/-- What the first so many of two slices hold. -/
def part2 (l1 l2 : List Ext) (k : Nat) : List Ext := if k = 0 then [] else if k = 1 then l1 else l1 ++ l2
theorem part2_len (l1 l2 : List Ext) (k : Nat) : (part2 l1 l2 k).length ≤ l1.length + l2.length := by
  unfold part2
  split
  · simp
  · split <;> simp
def RowSaid (l : List Ext) (w : World) (e : Ending) (w' : World) : Prop := ∃ v, e = .returned v ∧ Hid (w'.ownsRow w.heap.size 39 2 v l.length (flatE l)) ∧ Hid (Below w.heap.size w w')
set_option maxRecDepth 100000 in
set_option maxHeartbeats 2000000 in
theorem concatExt_any (G : Nat → Prop) (rb : Nat) (p1 p2 : Option Addr) (c1 c2 : Nat) (l1 l2 : List Ext) (w : World) (h0 : w.cell? ⟨rb, 0, none⟩ = some (.slice p1 l1.length c1)) (h1 : w.cell? ⟨rb, 1, none⟩ = some (.slice p2 l2.length c2))
    (e1 : ExtsAt G w (.slice p1 l1.length c1) l1) (e2 : ExtsAt G w (.slice p2 l2.length c2) l2) (n1 : l1.length ≤ 100000) (n2 : l2.length ≤ 100000) :
    Calls Try.prog 71 #[.slice (some ⟨rb, 0, none⟩) 2 2] w (RowSaid (l1 ++ l2) w) := by
  obtain ⟨i0, hi, hz0, hz1, hz2⟩ := info_parts infoExt
  have hsz : ∀ k, (part2 l1 l2 k).length ≤ 200000 := fun k => by have := part2_len l1 l2 k; omega
  have q0 : (part2 l1 l2 0).length = 0 := rfl
  have q1 : (part2 l1 l2 1).length = l1.length := rfl
  have q2 : (part2 l1 l2 2).length = l1.length + l2.length := by simp [part2]
  have HE1 := Lib.hid e1
  have HE2 := Lib.hid e2
  have HSZ := Lib.hid hsz
  have HQ0 := Lib.hid q0
  have HQ1 := Lib.hid q1
  have HQ2 := Lib.hid q2
  have HI := Lib.hid hi
  have HZ0 := Lib.hid hz0
  have HZ1 := Lib.hid hz1
  have HZ2 := Lib.hid hz2
  clear e1 e2 hsz q0 q1 q2 hi hz0 hz1 hz2
  go_enter Try.func71, Try.ntmps71
  go_wp2_with fail
  go_loopw [3, 11] (fun s i wr => ∃ k : Nat, k ≤ 2 ∧ i = .int .i64 k ∧ s = .int .i64 ((part2 l1 l2 k).length : Nat) ∧ wr = w) (fun _ i _ => 2 - (intOf i).toNat)
  case atStart => exact ⟨0, by omega, rfl, rfl, rfl⟩
  case round =>
    obtain ⟨k, hk, rfl, rfl, hww⟩ := hrel
    rw [hww]
    clear hww
    rcases (show k = 0 ∨ k = 1 ∨ k = 2 by omega) with rfl | rfl | rfl
    · rw [HQ0.out]
      go_wp2_with fail
      go_roundw
      case rel => exact ⟨1, by omega, by go_num, by rw [HQ1.out], by first | rfl | trivial⟩
      case measure => simp [intOf]
    · rw [HQ1.out]
      have hw1 : IntKind.i64.wrap ((l1.length : Int) + (l2.length : Int)) = (l1.length : Int) + (l2.length : Int) := IntWalk.i64_in _ (by omega)
      go_wp2_with fail
      go_roundw
      case rel => exact ⟨2, by omega, by go_num, by rw [HQ2.out]; go_num, by first | rfl | trivial⟩
      case measure => simp [intOf]
    · have hq2 := HSZ.out 2
      generalize hnn : (part2 l1 l2 2).length = N at *
      have HNN := Lib.hid hnn
      clear hnn
      go_wp2_with fail
      refine (growExt_nil N _ (by omega)).mono ?_
      rintro e w1 ⟨v1, rfl, hown1, hb1⟩
      have h01 := cell_up hb1 h0
      have h11 := cell_up hb1 h1
      have HOWN1 := Lib.hid hown1
      have HB1 := Lib.hid hb1
      clear hown1 hb1
      clear hq2
      go_wp2_with fail
      go_loopw [6, 27] (fun vo i wr => ∃ k : Nat, k ≤ 2 ∧ i = .int .i64 k ∧ Hid (wr.ownsRow w.heap.size 39 2 vo (part2 l1 l2 k).length (flatE (part2 l1 l2 k))) ∧ Hid (Below w.heap.size w wr)) (fun _ i _ => 2 - (intOf i).toNat)
      case atStart => exact ⟨0, by omega, rfl, HOWN1.out, HB1.out⟩
      case round =>
        obtain ⟨k, hk, rfl, HO, HB⟩ := hrel
        have hc0 := cell_up HB.out h0
        have hc1 := cell_up HB.out h1
        clear h01 h11
        rcases (show k = 0 ∨ k = 1 ∨ k = 2 by omega) with rfl | rfl | rfl
        · have hsrc := ExtsAt.up HE1.out HB.out
          have hsh := HE1.out
          obtain ⟨_, _, hh, _, _, hp3, _⟩ := hsh
          cases hh
          obtain ⟨v', w', hr, hown', hgrow, hat⟩ := run_append_any (P := Try.prog) wr 70 70 w.heap.size 39 i0 (.agg #[.int .i64 0, .int .i64 0]) 2 16 Try.underlying70 HI.out HZ0.out HZ1.out HZ2.out rfl (by decide) u6 _ _ HO.out p1 l1.length c1 (fun e => by subst e; have := hp3 rfl; omega) (flatE l1) (flatE_length l1) (fun a e => by subst e; exact extsAt_news hsrc) (flatE_one l1) (by rw [HQ0.out]; unfold maxLen; omega) (by rw [HQ0.out]; omega) HB.out.size
          rw [HQ0.out, Nat.zero_add] at hown'
          have hb' := HB.out.grown hgrow HB.out.size (fun j hj => (HO.out.lt j hj).1)
          have HOWN' := Lib.hid hown'
          have HB' := Lib.hid hb'
          have HR := Lib.hid hr
          clear hown' hb' hr
          clear hp3 hsrc hgrow hat
          go_wp2_with (at_builtin; refine Lib.wpList_append_run _ rfl _ _ _ _ rfl _ _ rfl rfl _ _ HR.out ?_)
          go_roundw
          case rel => exact ⟨1, by omega, by go_num, HOWN'.out, HB'.out⟩
          case measure => simp [intOf]
        · have hsrc := ExtsAt.up HE2.out HB.out
          have hsh := HE2.out
          obtain ⟨_, _, hh, _, _, hp3, _⟩ := hsh
          cases hh
          obtain ⟨v', w', hr, hown', hgrow, hat⟩ := run_append_any (P := Try.prog) wr 70 70 w.heap.size 39 i0 (.agg #[.int .i64 0, .int .i64 0]) 2 16 Try.underlying70 HI.out HZ0.out HZ1.out HZ2.out rfl (by decide) u6 _ _ HO.out p2 l2.length c2 (fun e => by subst e; have := hp3 rfl; omega) (flatE l2) (flatE_length l2) (fun a e => by subst e; exact extsAt_news hsrc) (flatE_one l2) (by rw [HQ1.out]; unfold maxLen; omega) (by rw [HQ1.out]; omega) HB.out.size
          rw [HQ1.out, ← HQ2.out] at hown'
          have hfl : flatE (part2 l1 l2 1) ++ flatE l2 = flatE (part2 l1 l2 2) := by rw [← flatE_append]; rfl
          rw [hfl] at hown'
          have hb' := HB.out.grown hgrow HB.out.size (fun j hj => (HO.out.lt j hj).1)
          have HOWN' := Lib.hid hown'
          have HB' := Lib.hid hb'
          have HR := Lib.hid hr
          clear hown' hb' hr
          clear hp3 hsrc hgrow hat hfl
          go_wp2_with (at_builtin; refine Lib.wpList_append_run _ rfl _ _ _ _ rfl _ _ rfl rfl _ _ HR.out ?_)
          go_roundw
          case rel => exact ⟨2, by omega, by go_num, by unfold Hid; rw [HNN.out]; exact HOWN'.out, HB'.out⟩
          case measure => simp [intOf]
        · go_wp2_with fail
          go_ret
          exact ⟨_, rfl, HO.out, HB.out⟩
end Go.Proofs

/- Package ival: Meets, Has, Crosses, Add. -/
namespace Go.Proofs
open Go.RowKit Sc

theorem meetsC_any (x e : Ext) (b : Nat) (W : World) (h0 : W.cell? ⟨b, 0, none⟩ = some (.int .i64 e.first)) (h1 : W.cell? ⟨b, 1, none⟩ = some (.int .i64 e.len)) (hx : Sml x) (he : Sml e) :
    Calls Try.prog 91 #[extV x, .pointer (some ⟨b, 0, none⟩)] W fun r w' => r = .returned (.bool (meetB x e)) ∧ Below W.heap.size W w' := by
  have hb0 := below_alloc W (.cells #[.int .i64 x.first, .int .i64 x.len] 39)
  have h0' := cell_up hb0 h0
  have h1' := cell_up hb0 h1
  have HB0 := Lib.hid hb0
  clear hb0
  clear h0 h1
  go_enter Try.func91, Try.ntmps91
  go_wp2_with fail
  refine (meet_any x e _ hx he).mono ?_
  rintro r w1 ⟨rfl, hb1⟩
  have hb2 := Below.up HB0.out hb1
  have HB1 := Lib.hid hb1
  have HB2 := Lib.hid hb2
  clear hb1 hb2
  go_wp2
  go_ret
  exact ⟨rfl, HB2.out⟩
/-- Has a set a block of an extent? -/
def meetsB (l : List Ext) (e : Ext) : Bool := mayB e && l.any fun x => meetB x e
set_option maxHeartbeats 400000 in
theorem setMeets_any (F : Nat → Prop) (v : Value) (most : Int) (l : List Ext) (e : Ext) (w : World) (h : SetIs F w v most l) (hs : ∀ x ∈ l, Oke x) (i1 : I64 e.first) (i2 : I64 e.len) :
    Calls Try.prog 86 #[v, extV e] w fun r w' => r = .returned (.bool (meetsB l e)) ∧ Below w.heap.size w w' := by
  have hb0 := below_alloc w (.cells #[.int .i64 e.first, .int .i64 e.len] 39)
  have he0 : (w.alloc (.cells #[.int .i64 e.first, .int .i64 e.len] 39)).cell? ⟨w.heap.size, 0, none⟩ = some (.int .i64 e.first) := by rw [cell_row (heap_alloc_new w _)]; rfl
  have he1 : (w.alloc (.cells #[.int .i64 e.first, .int .i64 e.len] 39)).cell? ⟨w.heap.size, 1, none⟩ = some (.int .i64 e.len) := by rw [cell_row (heap_alloc_new w _)]; rfl
  obtain ⟨b, p, c, rfl, _, hb, hc0, hc1, hx⟩ := (h.up hb0).cells
  have HB0 := Lib.hid hb0
  have HX := Lib.hid hx
  have HS := Lib.hid hs
  clear hb0 hx hs
  clear h
  cases hq : mayB e with
  | false =>
    have hm : meetsB l e = false := by unfold meetsB; rw [hq]; rfl
    have HM := Lib.hid hm
    have HQ := Lib.hid hq
    clear hm hq
    clear he0 he1
    go_enter Try.func86, Try.ntmps86
    go_wp2_with fail
    refine (may_any e _ i1 i2).mono ?_
    rintro r w1 ⟨rfl, hb1⟩
    rw [HQ.out]
    have hb2 := Below.up HB0.out hb1
    have HB1 := Lib.hid hb1
    have HB2 := Lib.hid hb2
    clear hb1 hb2
    go_wp2
    go_ret
    exact ⟨congrArg boolRet HM.out.symm, HB2.out⟩
  | true =>
    have hm : meetsB l e = l.any fun x => meetB x e := by unfold meetsB; rw [hq]; rfl
    have hsm := mayB_sml hq
    have HM := Lib.hid hm
    have HQ := Lib.hid hq
    have HSM := Lib.hid hsm
    clear hm hq hsm
    go_enter Try.func86, Try.ntmps86
    go_wp2_with fail
    refine (may_any e _ i1 i2).mono ?_
    rintro r w1 ⟨rfl, hb1⟩
    rw [HQ.out]
    have hc11 := cell_up hb1 hc1
    have hd0 := cell_up hb1 he0
    have hd1 := cell_up hb1 he1
    have hb2 := Below.up HB0.out hb1
    have hx1 := ExtsAt.up HX.out hb1
    have HB1 := Lib.hid hb1
    have HB2 := Lib.hid hb2
    have HX1 := Lib.hid hx1
    have HD0 := Lib.hid hd0
    have HD1 := Lib.hid hd1
    clear hb1 hb2 hx1 hd0 hd1
    clear hc0 hc1 he0 he1
    go_wp2_with fail
    refine (anyExt_any F _ l (fun x => meetB x e) 91 #[.pointer (some ⟨w.heap.size, 0, none⟩)] (by go_simp) _ HX1.out (fun i hi W hW => meetsC_any l[i] e w.heap.size W (cell_up hW HD0.out) (cell_up hW HD1.out) (HS.out _ (List.getElem_mem hi)).sml HSM.out)).mono ?_
    rintro r w2 ⟨rfl, hb3⟩
    have hb4 := Below.up HB2.out hb3
    have HB3 := Lib.hid hb3
    have HB4 := Lib.hid hb4
    clear hb3 hb4
    go_wp2
    go_ret
    exact ⟨congrArg boolRet HM.out.symm, HB4.out⟩
def hasB (l : List Ext) (x : Int) : Bool := meetsB l ⟨x, 1⟩
theorem setHas_any (F : Nat → Prop) (v : Value) (most : Int) (l : List Ext) (x : Int) (w : World) (h : SetIs F w v most l) (hs : ∀ x ∈ l, Oke x) (i1 : I64 x) :
    Calls Try.prog 77 #[v, .int .i64 x] w fun r w' => r = .returned (.bool (hasB l x)) ∧ Below w.heap.size w w' := by
  have hme := setMeets_any F v most l ⟨x, 1⟩ w h hs i1 (by unfold I64; simp only; omega)
  obtain ⟨b, p, c, rfl, _⟩ := h.cells
  have HME := Lib.hid hme
  clear hme
  clear h
  go_enter Try.func77, Try.ntmps77
  go_wp2_with fail
  refine (HME.out).mono ?_
  rintro r w1 ⟨rfl, hb1⟩
  have HB1 := Lib.hid hb1
  clear hb1
  go_wp2
  go_ret
  exact ⟨rfl, HB1.out⟩
theorem hasB_iff {l : List Ext} {x : Int} (h : ∀ e ∈ l, Oke e) : hasB l x = true ↔ cov l x := by
  unfold hasB meetsB
  rw [Bool.and_eq_true, List.any_eq_true]
  constructor
  · rintro ⟨_, e, he, hm⟩
    unfold meetB at hm
    simp only [Bool.and_eq_true, decide_eq_true_eq] at hm
    exact ⟨e, he, by omega, by omega⟩
  · rintro ⟨e, he, h1, h2⟩
    have ho := h e he
    unfold Oke at ho
    refine ⟨mayB_iff.2 (by simp only; omega), e, he, ?_⟩
    unfold meetB
    simp only [Bool.and_eq_true, decide_eq_true_eq]
    omega

/-- What Add answers, and leaves. -/
def addCode (most : Int) (l0 l : List Ext) : Int := if allB l = false then 1 else if l = [] then 0 else if most < ((normE (l0 ++ l)).length : Int) then 7 else 0
def addNext (most : Int) (l0 l : List Ext) : List Ext := if addCode most l0 l = 0 then normE (l0 ++ l) else l0
theorem allB_mem {l : List Ext} (h : allB l = true) : ∀ e ∈ l, mayB e = true := by unfold allB at h; rwa [List.all_eq_true] at h
/-- What Add answers of nothing. -/
def nilCode (l : List Ext) : Int := if allB l = false then 1 else if l = [] then 0 else 7
theorem addNil (v lv : Value) (l : List Ext) (G : Nat → Prop) (w : World) (hv : v = .pointer none) (hl : ExtsAt G w lv l) : Calls Try.prog 44 #[v, lv] w fun r w' => r = .returned (.int .i64 (nilCode l)) ∧ Below w.heap.size w w' := by
  subst hv
  unfold nilCode
  have H := Lib.hid hl
  obtain ⟨p, c, rfl⟩ := extsAt_shape hl
  clear hl
  cases hq : allB l with
  | false =>
    have HQ := Lib.hid hq
    clear hq
    go_enter Try.func44, Try.ntmps44
    go_wp2_with fail
    refine (all_any G _ l _ H.out).mono ?_
    rintro r w1 ⟨rfl, hb1⟩
    rw [HQ.out]
    have HB1 := Lib.hid hb1
    clear hb1
    go_wp2
    go_ret
    exact ⟨rfl, HB1.out⟩
  | true =>
    by_cases hn : l = []
    · subst hn
      have HQ := Lib.hid hq
      clear hq
      go_enter Try.func44, Try.ntmps44
      go_wp2_with fail
      refine (all_any G _ [] _ H.out).mono ?_
      rintro r w1 ⟨rfl, hb1⟩
      rw [HQ.out]
      have HB1 := Lib.hid hb1
      clear hb1
      go_wp2
      go_ret
      exact ⟨rfl, HB1.out⟩
    · have hlen : ((l.length : Nat) : Int) ≠ 0 := by have := List.length_pos_iff.2 hn; omega
      have hl0 : ((l.length : Int) == 0) = false := by rw [beq_eq_false_iff_ne]; exact hlen
      have hf : (if true = false then (1 : Int) else if l = [] then 0 else 7) = 7 := by simp [hn]
      have HQ := Lib.hid hq
      have HF := Lib.hid hf
      clear hq hf
      clear hlen
      go_enter Try.func44, Try.ntmps44
      go_wp2_with fail
      refine (all_any G _ l _ H.out).mono ?_
      rintro r w1 ⟨rfl, hb1⟩
      rw [HQ.out]
      have HB1 := Lib.hid hb1
      clear hb1
      go_wp2
      go_ret
      exact ⟨rfl, HB1.out⟩
def AddSaid (F : Nat → Prop) (v : Value) (most : Int) (l0 l : List Ext) (w : World) (r : Ending) (w' : World) : Prop :=
  r = .returned (.int .i64 (addCode most l0 l)) ∧ Chg F w w' ∧ SetIs (fun k => F k ∨ New w w' k) w' v most (addNext most l0 l)
theorem SetIs.more {F : Nat → Prop} {w w' : World} {v : Value} {most : Int} {l : List Ext} (h : SetIs F w v most l) (hb : Below w.heap.size w w') : SetIs (fun k => F k ∨ New w w' k) w' v most l := by
  obtain ⟨⟨b, sv, h1, h2, h3, h4⟩, hd⟩ := h.up hb
  refine ⟨⟨b, sv, h1, .inl h2, h3, SlAt.mono h4 (fun _ h => .inl h) (fun _ _ _ h => h)⟩, fun k hk => hk.elim (hd k) fun h => h.2⟩
theorem normE_self {l : List Ext} (h : Canon l) : normE (l ++ []) = l := by
  rw [List.append_nil]
  exact normE_ext h.1 h fun _ => Iff.rfl

set_option maxRecDepth 100000 in
set_option maxHeartbeats 2000000 in
theorem setAdd_any (F G : Nat → Prop) (v lv : Value) (most : Int) (l0 l : List Ext) (w : World) (h : SetIs F w v most l0) (hl : ExtsAt G w lv l) (ho : ∀ e ∈ l0, Oke e) (hc : Canon l0) (n0 : l0.length ≤ 50000) (n1 : l.length ≤ 50000) :
    Calls Try.prog 44 #[v, lv] w (AddSaid F v most l0 l w) := by
  have H := Lib.hid hl
  have HS := Lib.hid h
  obtain ⟨p, c, rfl⟩ := extsAt_shape hl
  obtain ⟨b, p0, c0, rfl, hFb, hb, hc0, hc1, hx⟩ := h.cells
  have hheap := h.out
  clear hl
  cases hq : allB l with
  | false =>
    have hcode : addCode most l0 l = 1 := by unfold addCode; rw [if_pos hq]
    have hnext : addNext most l0 l = l0 := by unfold addNext; rw [if_neg (by rw [hcode]; decide)]
    have HQ := Lib.hid hq
    have HCODE := Lib.hid hcode
    have HNEXT := Lib.hid hnext
    clear hq hcode hnext
    clear hx hheap
    go_enter Try.func44, Try.ntmps44
    go_wp2_with fail
    refine (all_any G _ l _ H.out).mono ?_
    rintro r w1 ⟨rfl, hb1⟩
    rw [HQ.out]
    have HB1 := Lib.hid hb1
    clear hb1
    go_wp2
    go_ret
    refine ⟨?_, Chg.of_below HB1.out (fun k h1 h2 => by omega), ?_⟩
    · rw [HCODE.out]; rfl
    · rw [HNEXT.out]; exact HS.out.more HB1.out
  | true =>
    by_cases hn : l = []
    · subst hn
      have hcode : addCode most l0 [] = 0 := by unfold addCode; rw [if_neg (by rw [hq]; decide), if_pos rfl]
      have hnext : addNext most l0 [] = l0 := by unfold addNext; rw [if_pos hcode, normE_self hc]
      have HQ := Lib.hid hq
      have HCODE := Lib.hid hcode
      have HNEXT := Lib.hid hnext
      clear hq hcode hnext
      clear hx hheap
      go_enter Try.func44, Try.ntmps44
      go_wp2_with fail
      refine (all_any G _ [] _ H.out).mono ?_
      rintro r w1 ⟨rfl, hb1⟩
      rw [HQ.out]
      have HB1 := Lib.hid hb1
      clear hb1
      go_wp2
      go_ret
      refine ⟨?_, Chg.of_below HB1.out (fun k h1 h2 => by omega), ?_⟩
      · rw [HCODE.out]; rfl
      · rw [HNEXT.out]; exact HS.out.more HB1.out
    · have hlen : ((l.length : Nat) : Int) ≠ 0 := by have := List.length_pos_iff.2 hn; omega
      have hl0 : ((l.length : Int) == 0) = false := by rw [beq_eq_false_iff_ne]; exact hlen
      have hall : ∀ e ∈ l0 ++ l, Oke e := fun e he => (List.mem_append.1 he).elim (ho e) fun h => mayB_oke (allB_mem hq e h)
      have hcd : addCode most l0 l = if most < ((normE (l0 ++ l)).length : Int) then 7 else 0 := by unfold addCode; rw [if_neg (by rw [hq]; decide), if_neg hn]
      have HQ := Lib.hid hq
      have HCD := Lib.hid hcd
      have HALL := Lib.hid hall
      have HX := Lib.hid hx
      have HHEAP := Lib.hid hheap
      clear hq hcd hall hx hheap
      clear hlen
      go_enter Try.func44, Try.ntmps44
      go_wp2_with fail
      refine (all_any G _ l _ H.out).mono ?_
      rintro r w1 ⟨rfl, hb1⟩
      rw [HQ.out]
      have hc11 := cell_up hb1 hc1
      have hc01 := cell_up hb1 hc0
      have hx1 := (ExtsAt.up HX.out hb1)
      have hl1 := ExtsAt.up H.out hb1
      have HB1 := Lib.hid hb1
      have HX1 := Lib.hid hx1
      have HL1 := Lib.hid hl1
      clear hb1 hx1 hl1
      clear hc0 hc1
      have hA := below_alloc w1 (.cells #[.slice p0 l0.length c0, .slice p l.length c] 70)
      have hr0 : (w1.alloc (.cells #[.slice p0 l0.length c0, .slice p l.length c] 70)).cell? ⟨w1.heap.size, 0, none⟩ = some (.slice p0 l0.length c0) := by rw [cell_row (heap_alloc_new w1 _)]; rfl
      have hr1 : (w1.alloc (.cells #[.slice p0 l0.length c0, .slice p l.length c] 70)).cell? ⟨w1.heap.size, 1, none⟩ = some (.slice p l.length c) := by rw [cell_row (heap_alloc_new w1 _)]; rfl
      have hcon := concatExt_any (fun _ => True) w1.heap.size p0 p c0 c l0 l _ hr0 hr1 (SlAt.mono (ExtsAt.up HX1.out hA) (fun _ _ => trivial) (fun _ _ _ h => h)) (SlAt.mono (ExtsAt.up HL1.out hA) (fun _ _ => trivial) (fun _ _ _ h => h)) (by omega) (by omega)
      have hB := cell_up hA hc11
      have hC := cell_up hA hc01
      have hD := Below.up HB1.out hA
      have hlll : (l0 ++ l).length ≤ 100000 := by simp; omega
      generalize hll : l0 ++ l = ll at *
      have HA := Lib.hid hA
      have HCON := Lib.hid hcon
      have HB := Lib.hid hB
      have HC := Lib.hid hC
      have HD := Lib.hid hD
      have HLL := Lib.hid hll
      clear hA hcon hB hC hD hll
      clear hr0 hr1 hc01
      go_wp2_with fail
      refine (HCON.out).mono ?_
      rintro r w2 ⟨v2, rfl, HO2, HB2⟩
      have hx2 := row_extsAt (fun _ => True) rfl (fun e he => by have := HALL.out e he; unfold Oke at this; unfold I64; omega) (fun _ _ _ => trivial) HO2.out
      obtain ⟨p2, c2, rfl⟩ := extsAt_shape hx2
      have hB2 := cell_up HB2.out HB.out
      have hC2 := cell_up HB2.out HC.out
      have hD2 := Below.up HD.out HB2.out
      have HX2 := Lib.hid hx2
      have HD2 := Lib.hid hD2
      clear hx2 hD2
      go_wp2_with fail
      refine (joined_any _ _ ll _ HX2.out HALL.out hlll).mono ?_
      rintro r w3 ⟨v3, rfl, ho3, hb3⟩
      have hnoke := normE_oke HALL.out
      have hx3 := row_extsAt (New w w3) rfl (fun e he => by have := hnoke e he; unfold Oke at this; unfold I64; omega) (fun k h1 h2 => ⟨by have := HD2.out.size; omega, h2⟩) ho3
      have hD3 := Below.up HD2.out hb3
      have hB3 := cell_up hb3 hB2
      have hC3 := cell_up hb3 hC2
      generalize hxx : normE ll = x at *
      obtain ⟨p3, c3, rfl⟩ := extsAt_shape hx3
      have HX3 := Lib.hid hx3
      have HD3 := Lib.hid hD3
      have HNOKE := Lib.hid hnoke
      have HXX := Lib.hid hxx
      clear hx3 hD3 hnoke hxx
      clear ho3 hb3 hB2 hC2 hc11
      by_cases hbig : most < (x.length : Int)
      · have hcode : addCode most l0 l = 7 := by rw [HCD.out, if_pos hbig]
        have hnext : addNext most l0 l = l0 := by unfold addNext; rw [if_neg (by rw [hcode]; decide)]
        have HCODE := Lib.hid hcode
        have HNEXT := Lib.hid hnext
        clear hcode hnext
        go_wp2_with fail
        go_ret
        refine ⟨?_, Chg.of_below HD3.out (fun k h1 h2 => by omega), ?_⟩
        · rw [HCODE.out]; rfl
        · rw [HNEXT.out]; exact HS.out.more HD3.out
      · have hcode : addCode most l0 l = 0 := by rw [HCD.out, if_neg hbig]
        have hnext : addNext most l0 l = x := by unfold addNext; rw [if_pos hcode, HLL.out, HXX.out]
        have hbig' : (x.length : Int) ≤ most := by omega
        obtain ⟨b', sv, he, _, hh, hsv⟩ := HHEAP.out
        cases he
        have hfz : w3.frozen? ⟨b, 1, none⟩ = false := by rw [HD3.out.frozen (p := ⟨b, 1, none⟩) hb]; exact fz_row hh 1
        have hh3 : w3.heap[b]? = some (.cells #[.int .i64 most, sv] 132 (0, 0)) := by rw [HD3.out.block b hb]; exact hh
        have HCODE := Lib.hid hcode
        have HNEXT := Lib.hid hnext
        have HH := Lib.hid hh
        have HH3 := Lib.hid hh3
        have HSV := Lib.hid hsv
        clear hcode hnext hh hh3 hsv
        clear hbig
        go_wp2_with fail
        go_ret
        have hdz := HD3.out.size
        refine ⟨?_, ?_, ?_⟩
        · rw [HCODE.out]; rfl
        · exact (Chg.of_below HD3.out (fun k h1 h2 => by omega)).trans (chg_set w3 b 1 _ hFb)
        · rw [HNEXT.out]
          refine ⟨⟨b, .slice p3 x.length c3, rfl, .inl hFb, by rw [heap_set_same HH3.out]; rfl, ?_⟩, fun k hk => ?_⟩
          · refine SlAt.mono (ExtsAt.same HX3.out (w' := w3.setCell ⟨b, 1, none⟩ (.slice p3 x.length c3)) fun k hk => ?_) (fun k hk => .inr ?_) (fun _ _ _ h => h)
            · exact Below.heap_setCell _ _ _ k (fun e => by have := hk.1; simp at e; omega)
            · exact ⟨hk.1, by have := hk.2; simpa [World.setCell] using this⟩
          · rcases hk with hk | hk
            · have := HS.out.dom k hk
              simp [World.setCell]; omega
            · exact hk.2
end Go.Proofs

/- Sets of extents side by side with other things. -/
namespace Go.Proofs
open Go.RowKit Sc

/-- What a Set holds: extents that rise and do not touch, where extents may lie. -/
def SetG (l : List Ext) : Prop := Canon l ∧ ∀ e ∈ l, Oke e
theorem SetG.nil : SetG [] := ⟨Canon.nil, by simp⟩
theorem addOke {l0 l : List Ext} (h : SetG l0) (ha : allB l = true) : ∀ e ∈ l0 ++ l, Oke e := fun e he => (List.mem_append.1 he).elim (h.2 e) fun h => mayB_oke (allB_mem ha e h)
theorem addCode_may {most : Int} {l0 l : List Ext} (h : addCode most l0 l = 0) : allB l = true := by
  unfold addCode at h
  cases hq : allB l with
  | true => rfl
  | false => rw [if_pos hq] at h; cases h
theorem normE_good' {l : List Ext} (h : ∀ e ∈ l, Oke e) : SetG (normE l) ∧ (∀ x, cov (normE l) x ↔ cov l x) ∧ (normE l).length ≤ l.length := by
  obtain ⟨h1, h2, h3, _⟩ := normE_good (fun e he => (h e he).2.2.1)
  exact ⟨⟨h1, normE_oke h⟩, h2, h3⟩
theorem addNext_good {most : Int} {l0 l : List Ext} (h : SetG l0) : SetG (addNext most l0 l) := by
  unfold addNext
  split
  · rename_i hc
    exact (normE_good' (addOke h (addCode_may hc))).1
  · exact h
theorem addNext_len {most : Int} {l0 l : List Ext} (h : SetG l0) : (addNext most l0 l).length ≤ l0.length + l.length := by
  unfold addNext
  split
  · rename_i hc
    have := (normE_good' (addOke h (addCode_may hc))).2.2
    simpa using this
  · omega
theorem addNext_cov {most : Int} {l0 l : List Ext} (h : SetG l0) (hc : addCode most l0 l = 0) (x : Int) : cov (addNext most l0 l) x ↔ cov l0 x ∨ cov l x := by
  unfold addNext
  rw [if_pos hc, (normE_good' (addOke h (addCode_may hc))).2.1, cov_append]
/-- A code of Add, told. -/
theorem addCode_is {most : Int} {l0 l m : List Ext} (_h : SetG l0) (ha : allB l = true) (hn : l ≠ []) (hm : normE (l0 ++ l) = m) : addCode most l0 l = (if most < (m.length : Int) then 7 else 0) ∧ addNext most l0 l = if most < (m.length : Int) then l0 else m := by
  have h1 : addCode most l0 l = if most < (m.length : Int) then 7 else 0 := by unfold addCode; rw [if_neg (by rw [ha]; decide), if_neg hn, hm]
  refine ⟨h1, ?_⟩
  unfold addNext
  rw [h1, hm]
  by_cases hb : most < (m.length : Int)
  · rw [if_pos hb, if_pos hb, if_neg (by decide)]
  · rw [if_neg hb, if_neg hb, if_pos rfl]

theorem setNew_sep {W w : World} {L : List Asn} (h : Sep W L w) (n : Int) :
    Calls Try.prog 54 #[.int .i64 n] w fun e w' => ∃ b : Nat, e = .returned (.pointer (some ⟨b, 0, none⟩)) ∧ Hid (Sep W (L ++ [SetA (.pointer (some ⟨b, 0, none⟩)) n []]) w') := by
  refine (setNew_any n w).mono ?_
  rintro e w' ⟨b, rfl, hm, hb⟩
  exact ⟨b, rfl, h.new hb (SetA _ n []) (fun _ h => h) hm⟩
theorem setAdd_sep {W w : World} {L : List Asn} (h : Sep W L w) (i : Nat) {v lv : Value} {most : Int} {l0 : List Ext} (hi : L[i]? = some (SetA v most l0)) (l : List Ext) (hl : ExtsAt (fun _ => True) w lv l) (hg : SetG l0) (n0 : l0.length ≤ 50000) (n1 : l.length ≤ 50000) :
    Calls Try.prog 44 #[v, lv] w fun e w' => e = .returned (.int .i64 (addCode most l0 l)) ∧ Hid (Sep W (L.set i (SetA v most (addNext most l0 l))) w') := by
  obtain ⟨F, G, hF, hR, hFG, hdF, hdG, K⟩ := h.at i hi
  refine (setAdd_any F _ v lv most l0 l w hF hl hg.2 hg.1 n0 n1).mono ?_
  rintro e w' ⟨rfl, hc, hm⟩
  exact ⟨rfl, K w' _ (SetA v most (addNext most l0 l)) hc (fun k hk => hk) hm⟩
theorem exts_one (w : World) (a n : Int) (ha : I64 a) (hn : I64 n) : ExtsAt (fun _ => True) (w.alloc (.cells #[.int .i64 a, .int .i64 n] 39)) (.slice (some ⟨w.heap.size, 0, none⟩) 1 1) [⟨a, n⟩] := by
  refine ⟨_, 1, rfl, Nat.le_refl _, by omega, (by intro h; cases h), fun i hi => ?_⟩
  simp only [List.length_cons, List.length_nil] at hi
  obtain rfl : i = 0 := by omega
  exact ⟨w.heap.size, 0, rfl, trivial, by rw [cell_row (heap_alloc_new w _)]; rfl, by rw [cell_row (heap_alloc_new w _)]; rfl, ha, hn⟩
theorem exts_two (w : World) (a n b m : Int) (ha : I64 a) (hn : I64 n) (hb : I64 b) (hm : I64 m) : ExtsAt (fun _ => True) (w.alloc (.cells #[.int .i64 a, .int .i64 n, .int .i64 b, .int .i64 m] 39)) (.slice (some ⟨w.heap.size, 0, none⟩) 2 2) [⟨a, n⟩, ⟨b, m⟩] := by
  refine ⟨_, 2, rfl, Nat.le_refl _, by omega, (by intro h; cases h), fun i hi => ?_⟩
  simp only [List.length_cons, List.length_nil] at hi
  rcases (show i = 0 ∨ i = 1 by omega) with rfl | rfl
  · exact ⟨w.heap.size, 0, rfl, trivial, by rw [cell_row (heap_alloc_new w _)]; rfl, by rw [cell_row (heap_alloc_new w _)]; rfl, ha, hn⟩
  · exact ⟨w.heap.size, 0, rfl, trivial, by rw [cell_row (heap_alloc_new w _)]; rfl, by rw [cell_row (heap_alloc_new w _)]; rfl, hb, hm⟩
theorem i64_small {n : Int} (h : -1000000000 ≤ n ∧ n ≤ 1000000000) : I64 n := by unfold I64; omega
/-- Add of one extent that is laid for it. -/
theorem setAdd_one {W w : World} {L : List Asn} (h : Hid (Sep W L w)) (i : Nat) {v : Value} {most : Int} {l0 : List Ext} (hi : L[i]? = some (SetA v most l0)) (a n : Int) (ia : I64 a) (inn : I64 n) (hg : SetG l0) (n0 : l0.length ≤ 50000) :
    Calls Try.prog 44 #[v, .slice (some ⟨w.heap.size, 0, none⟩) 1 1] (w.alloc (.cells #[.int .i64 a, .int .i64 n] 39)) fun e w' => e = .returned (.int .i64 (addCode most l0 [⟨a, n⟩])) ∧ Hid (Sep W (L.set i (SetA v most (addNext most l0 [⟨a, n⟩]))) w') :=
  setAdd_sep (h.out.up (below_alloc w _)) i hi [⟨a, n⟩] (exts_one w a n ia inn) hg n0 (by simp)
theorem setAdd_at {W w : World} {L : List Asn} (h : Hid (Sep W L w)) (i : Nat) {v : Value} {most : Int} {l0 : List Ext} (hi : L[i]? = some (SetA v most l0)) (a n : Int) (ia : I64 a) (inn : I64 n) (hg : SetG l0) (n0 : l0.length ≤ 50000) (g : Nat) (hgg : w.heap.size = g) :
    Calls Try.prog 44 #[v, .slice (some ⟨g, 0, none⟩) 1 1] (w.alloc (.cells #[.int .i64 a, .int .i64 n] 39)) fun e w' => e = .returned (.int .i64 (addCode most l0 [⟨a, n⟩])) ∧ Hid (Sep W (L.set i (SetA v most (addNext most l0 [⟨a, n⟩]))) w') := by
  subst hgg
  exact setAdd_one h i hi a n ia inn hg n0
theorem setExtents_sep {W w : World} {L : List Asn} (h : Hid (Sep W L w)) (i : Nat) {v : Value} {most : Int} {l : List Ext} (hi : L[i]? = some (SetA v most l)) (hl : l.length ≤ 1000000) :
    Calls Try.prog 30 #[v] w fun e w' => ∃ p c, e = .returned (.slice p l.length c) ∧ Hid (ExtsAt (New w w') w' (.slice p l.length c) l) ∧ Hid (Below w.heap.size w w') ∧ Hid (Sep W L w') := by
  obtain ⟨F, hF, _⟩ := h.out.get i hi
  refine (setExtents_any F v most l w hF hl).mono ?_
  rintro e w' ⟨p, c, rfl, hx, hb⟩
  exact ⟨p, c, rfl, hx, hb, h.out.up hb⟩
theorem setCount_sep {W w : World} {L : List Asn} (h : Hid (Sep W L w)) (i : Nat) {v : Value} {most : Int} {l : List Ext} (hi : L[i]? = some (SetA v most l)) (hg : SetG l) (hl : l.length ≤ 1000000) :
    Calls Try.prog 23 #[v] w fun e w' => e = .returned (.int .i64 (cntE l)) ∧ Hid (Below w.heap.size w w') ∧ Hid (Sep W L w') := by
  obtain ⟨F, hF, _⟩ := h.out.get i hi
  refine (setCount_any F v most l w hF hg.2 hl).mono ?_
  rintro e w' ⟨rfl, hb⟩
  exact ⟨rfl, hb, h.out.up hb⟩
end Go.Proofs

/- scarpref11's put, plain: an extent into extents that rise and do not touch. -/
namespace Sc
open Go Go.RowKit

def putGo : Int → Int → Bool → List Ext → List Ext
  | f, e, d, [] => if d then [] else [⟨f, e - f⟩]
  | f, e, d, x :: l => if x.first + x.len < f then x :: putGo f e d l else if e < x.first then (if d then [] else [⟨f, e - f⟩]) ++ x :: putGo f e true l else putGo (min f x.first) (max e (x.first + x.len)) d l
def putX (l : List Ext) (x : Ext) : List Ext := putGo x.first (x.first + x.len) false l
theorem putGo_true {f e : Int} (hf : f ≤ e) : ∀ {l : List Ext}, (∀ y ∈ l, 1 ≤ y.len) → (∀ y ∈ l, e < y.first) → putGo f e true l = l
  | [], _, _ => rfl
  | x :: l, h1, h2 => by
    have a := h1 x (by simp)
    have b := h2 x (by simp)
    unfold putGo
    rw [if_neg (by omega), if_pos b, putGo_true hf (fun y hy => h1 y (by simp [hy])) (fun y hy => h2 y (by simp [hy]))]
    rfl
theorem putGo_good : ∀ (l : List Ext) (f e : Int), Canon l → f < e →
    Canon (putGo f e false l) ∧ (∀ x, cov (putGo f e false l) x ↔ (f ≤ x ∧ x < e) ∨ cov l x) ∧ (∀ z ∈ putGo f e false l, ∀ m, m < f → (∀ y ∈ l, m < y.first) → m < z.first) ∧ (putGo f e false l).length ≤ l.length + 1
  | [], f, e, _, hf => by
    have hg : putGo f e false [] = [⟨f, e - f⟩] := rfl
    rw [hg]
    refine ⟨Canon.mk1 (by simp only; omega), fun x => ?_, fun z hz m hm _ => ?_, by simp⟩
    · rw [cov_cons]
      have := cov_nil x
      constructor
      · rintro (h | h)
        · exact .inl (by simp only at h; omega)
        · exact absurd h this
      · rintro (h | h)
        · exact .inl ⟨h.1, by simp only; omega⟩
        · exact absurd h this
    · rw [List.mem_singleton] at hz; subst hz; exact hm
  | x :: l, f, e, hc, hf => by
    obtain ⟨h1, h2, h3⟩ := hc.cons
    unfold putGo
    by_cases hA : x.first + x.len < f
    · rw [if_pos hA]
      obtain ⟨i1, i2, i3, i4⟩ := putGo_good l f e h3 hf
      refine ⟨⟨fun y hy => ?_, List.pairwise_cons.2 ⟨fun z hz => i3 z hz _ hA h2, i1.2⟩⟩, fun y => ?_, fun z hz m hm hy => ?_, by simp; omega⟩
      · rcases List.mem_cons.1 hy with rfl | hy
        · exact h1
        · exact i1.1 y hy
      · rw [cov_cons, i2, cov_cons]
        exact ⟨fun h => h.elim (fun h => .inr (.inl h)) fun h => h.elim .inl fun h => .inr (.inr h), fun h => h.elim (fun h => .inr (.inl h)) fun h => h.elim .inl fun h => .inr (.inr h)⟩
      · rcases List.mem_cons.1 hz with rfl | hz
        · exact hy _ (by simp)
        · exact i3 z hz m hm fun y h => hy y (by simp [h])
    · rw [if_neg hA]
      by_cases hB : e < x.first
      · rw [if_pos hB, putGo_true (by omega) h3.1 fun y hy => by have := h2 y hy; omega]
        simp only [Bool.false_eq_true, if_false, List.singleton_append]
        refine ⟨⟨fun y hy => ?_, ?_⟩, fun y => ?_, fun z hz m hm hy => ?_, by simp⟩
        · rcases List.mem_cons.1 hy with rfl | hy
          · simp only; omega
          · exact hc.1 y hy
        · refine List.pairwise_cons.2 ⟨fun y hy => ?_, hc.2⟩
          rcases List.mem_cons.1 hy with rfl | hy
          · simp only; omega
          · have := h2 y hy; simp only; omega
        · rw [cov_cons]
          constructor
          · rintro (h | h)
            · exact .inl (by simp only at h; omega)
            · exact .inr h
          · rintro (h | h)
            · exact .inl ⟨h.1, by simp only; omega⟩
            · exact .inr h
        · rcases List.mem_cons.1 hz with rfl | hz
          · exact hm
          · exact hy z hz
      · rw [if_neg hB]
        obtain ⟨i1, i2, i3, i4⟩ := putGo_good l (min f x.first) (max e (x.first + x.len)) h3 (by omega)
        refine ⟨i1, fun y => ?_, fun z hz m hm hy => ?_, by simp; omega⟩
        · rw [i2, cov_cons]
          constructor
          · rintro (h | h)
            · by_cases hy : f ≤ y ∧ y < e
              · exact .inl hy
              · exact .inr (.inl (by omega))
            · exact .inr (.inr h)
          · rintro (h | h | h)
            · exact .inl (by omega)
            · exact .inl (by omega)
            · exact .inr h
        · exact i3 z hz m (by have := hy x (by simp); omega) fun y h => hy y (by simp [h])
theorem putX_good {l : List Ext} {x : Ext} (hc : Canon l) (hx : 1 ≤ x.len) : Canon (putX l x) ∧ (∀ y, cov (putX l x) y ↔ cov l y ∨ (x.first ≤ y ∧ y < x.first + x.len)) ∧ (putX l x).length ≤ l.length + 1 := by
  obtain ⟨h1, h2, _, h4⟩ := putGo_good l x.first (x.first + x.len) hc (by omega)
  exact ⟨h1, fun y => (h2 y).trans Or.comm, h4⟩
theorem oke_of_cov {l : List Ext} (hc : Canon l) (h : ∀ y, cov l y → 0 ≤ y ∧ y ≤ 1048576) : ∀ e ∈ l, Oke e := by
  intro e he
  have h1 := hc.1 e he
  have h2 := h e.first ⟨e, he, by omega, by omega⟩
  have h3 := h (e.first + e.len - 1) ⟨e, he, by omega, by omega⟩
  unfold Oke; omega
theorem cov_oke {l : List Ext} (h : ∀ e ∈ l, Oke e) : ∀ y, cov l y → 0 ≤ y ∧ y ≤ 1048576 := by
  rintro y ⟨e, he, h1, h2⟩
  have := h e he
  unfold Oke at this; omega
/-- All of some extents put in, one by one: just what joined gives. -/
theorem putAll {l0 : List Ext} (hc : Canon l0) (h0 : ∀ e ∈ l0, Oke e) (l : List Ext) (hl : ∀ e ∈ l, Oke e) : l.foldl putX l0 = normE (l0 ++ l) := by
  have key : ∀ (l l0 : List Ext), Canon l0 → (∀ e ∈ l, 1 ≤ e.len) → Canon (l.foldl putX l0) ∧ ∀ y, cov (l.foldl putX l0) y ↔ cov (l0 ++ l) y := by
    intro l
    induction l with
    | nil => intro l0 hc _; exact ⟨hc, fun y => by rw [List.append_nil]; exact Iff.rfl⟩
    | cons x l ih =>
      intro l0 hc hl
      obtain ⟨h1, h2, _⟩ := putX_good hc (hl x (by simp))
      obtain ⟨g1, g2⟩ := ih (putX l0 x) h1 fun e he => hl e (by simp [he])
      refine ⟨g1, fun y => ?_⟩
      show cov (l.foldl putX (putX l0 x)) y ↔ _
      rw [g2, cov_append, cov_append, cov_cons, h2]
      exact or_assoc
  obtain ⟨k1, k2⟩ := key l l0 hc fun e he => (hl e he).2.2.1
  exact (normE_ext (fun e he => (List.mem_append.1 he).elim (fun h => (h0 e h).2.2.1) fun h => (hl e h).2.2.1) k1 k2).symm
end Sc

/- scarpref11's Set: May, put, Add. -/
namespace Go.Proofs
open Go.RowKit Sc

set_option maxHeartbeats 400000 in
theorem refMayE_any (x : Ext) (w : World) (h1 : I64 x.first) (h2 : I64 x.len) : Calls Try.prog 74 #[extV x] w fun e w' => e = .returned (.bool (mayB x)) ∧ Below w.heap.size w w' := by
  unfold I64 at h1 h2
  cases hq : mayB x with
  | true =>
    obtain ⟨a1, a2, a3, a4, a5⟩ := mayB_iff.1 hq
    have a6 : x.first ≤ 1048577 - x.len := by omega
    have HQ := Lib.hid hq
    clear hq
    go_enter Try.func74, Try.ntmps74
    go_wp2
    go_ret
    refine ⟨congrArg boolRet ?_, below_alloc _ _⟩
    first | rfl | (simp; omega)
  | false =>
    have h := mayB_no.1 hq
    rcases (show x.first < 0 ∨ (0 ≤ x.first ∧ 1048576 < x.first) ∨ (0 ≤ x.first ∧ x.first ≤ 1048576 ∧ x.len < 1) ∨ (0 ≤ x.first ∧ x.first ≤ 1048576 ∧ 1 ≤ x.len ∧ 1048576 < x.len) ∨ (0 ≤ x.first ∧ x.first ≤ 1048576 ∧ 1 ≤ x.len ∧ x.len ≤ 1048576 ∧ 1048577 - x.len < x.first) by omega) with a | ⟨a1, a⟩ | ⟨a1, a2, a⟩ | ⟨a1, a2, a3, a⟩ | ⟨a1, a2, a3, a4, a⟩
    all_goals
      clear h
      have HQ := Lib.hid hq
      clear hq
      go_enter Try.func74, Try.ntmps74
      go_wp2
      go_ret
      refine ⟨congrArg boolRet ?_, below_alloc _ _⟩
      first | rfl | (simp; omega)

theorem putGo_step {f e : Int} {d : Bool} {l : List Ext} {k : Nat} (h : k < l.length) : putGo f e d (l.drop k) = if l[k].first + l[k].len < f then l[k] :: putGo f e d (l.drop (k + 1)) else if e < l[k].first then (if d then [] else [⟨f, e - f⟩]) ++ l[k] :: putGo f e true (l.drop (k + 1)) else putGo (min f l[k].first) (max e (l[k].first + l[k].len)) d (l.drop (k + 1)) := by
  rw [List.drop_eq_getElem_cons h]; rfl
theorem flatE_more (a : List Ext) (x n : Int) : flatE (a ++ [⟨x, n⟩]) = flatE a ++ [.int .i64 x, .int .i64 n] := by rw [flatE_append]; rfl
/-- A list of extents that a call builds. -/
def NewRowE (l : List Ext) (w : World) (e : Ending) (w' : World) : Prop := ∃ v, e = .returned v ∧ w'.ownsRow w.heap.size 39 2 v l.length (flatE l) ∧ Below w.heap.size w w'
theorem outE_eq {v : Value} {l m : List Ext} (h : l = m) : RowA 39 2 v l.length (flatE l) = RowA 39 2 v m.length (flatE m) := by rw [h]

set_option maxRecDepth 100000 in
set_option maxHeartbeats 4000000 in
theorem refPut_any (G : Nat → Prop) (vl : Value) (l : List Ext) (e : Ext) (w : World) (hv : ExtsAt G w vl l) (hok : ∀ x ∈ l, Oke x) (he : Oke e) (hl : l.length ≤ 100000) :
    Calls Try.prog 75 #[vl, extV e] w (NewRowE (putX l e) w) := by
  obtain ⟨p, c, rfl⟩ := extsAt_shape hv
  obtain ⟨e1, e2, e3, e4⟩ := he
  have hfw : IntKind.i64.wrap (e.first + e.len) = e.first + e.len := IntWalk.i64_in _ (by omega)
  have hS0 := ((Sep.start w).up (below_alloc w (.cells #[.int .i64 e.first, .int .i64 e.len] 39))).new (Below.refl _ _) (OutEA (.slice none 0 0) []) (F := fun _ => False) (fun _ h => h.elim) ⟨World.ownsRow_nil _ _ _ _, by simp [Value.ownBlock]⟩
  have hgo : ([] : List Ext) ++ putGo e.first (e.first + e.len) false (l.drop 0) = putX l e := rfl
  generalize putX l e = goal at *
  have HV := Lib.hid hv
  have HOK := Lib.hid hok
  have HS0 := Lib.hid hS0
  have HGO := Lib.hid hgo
  clear hv hok hS0 hgo
  go_enter Try.func75, Try.ntmps75
  go_wp2_with fail
  go_loopw [5, 6, 7, 8, 9] (fun vf ve vo vd i wr => ∃ k : Nat, ∃ po co f en d out, k ≤ l.length ∧ i = .int .i64 k ∧ vf = .int .i64 f ∧ ve = .int .i64 en ∧ vd = .bool d ∧ vo = .slice po out.length co ∧ 0 ≤ f ∧ f < en ∧ en ≤ 1048577 ∧ Hid (Sep w [OldA w, RowA 39 2 (.slice po out.length co) out.length (flatE out)] wr) ∧ Hid (out ++ putGo f en d (l.drop k) = goal) ∧ out.length ≤ 2 * k) (fun _ _ _ _ i _ => l.length - (intOf i).toNat)
  case atStart => exact ⟨0, none, 0, e.first, e.first + e.len, false, [], by omega, rfl, rfl, rfl, rfl, rfl, e1, by omega, by omega, HS0.out, HGO.out, by simp⟩
  case round =>
    obtain ⟨k, po, co, f, en, d, out, hk, rfl, rfl, rfl, rfl, rfl, f0, f1, f2, HS, HG, hol⟩ := hrel
    by_cases hlt : k < l.length
    case neg =>
      have hg := HG.out
      rw [show k = l.length by omega, List.drop_length] at hg
      replace hg : out ++ (if d then [] else [⟨f, en - f⟩]) = goal := hg
      cases d with
      | true =>
        simp only [if_true, List.append_nil] at hg
        subst hg
        have hmine := HS.out.row_mine 1 (by decide) rfl
        have HMINE := Lib.hid hmine
        clear hmine
        go_wp2_with fail
        go_ret
        exact ⟨_, rfl, HMINE.out, HS.out.old⟩
      | false =>
        simp only [Bool.false_eq_true, if_false] at hg
        have hw2 : IntKind.i64.wrap (en - f) = en - f := IntWalk.i64_in _ (by omega)
        have HG := Lib.hid hg
        clear hg
        obtain ⟨FA, hFA, _⟩ := HS.out.get 1 rfl
        have hrowA := hFA.1
        obtain ⟨iiA, hiiA, hizA, hiyA, hixA⟩ := info_parts infoExt
        have HROWA := Lib.hid hrowA
        clear hFA hrowA
        go_wp2_with (at_builtin; refine wpList_append_lies _ rfl _ _ 70 rfl 0 39 iiA (.agg #[.int .i64 0, .int .i64 0]) 2 16 Try.underlying70 hiiA hizA hiyA hixA rfl (by decide) _ (out.length) (flatE out) rfl (HROWA.out.alloc _) ⟨wr.heap.size, 0, none⟩ 1 1 [.int .i64 f, .int .i64 (en - f)] rfl rfl (World.news_of_block (cs := #[.int .i64 f, .int .i64 (en - f)]) (heap_alloc_new wr _)) (by simp [Value.oneCell']) (by decide) (by unfold maxLen; omega) (by omega) (Nat.zero_le _) (wr.heap.size + 1) (by simp) ?_; intro gA cA wA hownA hgrowA hatA hltA)
        have hSA := HS.out.row_app 1 rfl (below_alloc _ _) hownA hgrowA hatA (by simp) hltA
        clear hownA hgrowA hatA hltA hiiA hizA hiyA hixA
        have hmine := hSA.row_mine 1 (by decide) rfl
        have HSA := Lib.hid hSA
        have HMINE := Lib.hid hmine
        clear hSA hmine
        go_wp2_with fail
        go_ret
        have q1 : goal.length = out.length + 1 := by rw [← HG.out]; simp
        refine ⟨_, rfl, ?_, HSA.out.old⟩
        rw [q1, ← HG.out, flatE_more]
        exact HMINE.out
    case pos =>
      obtain ⟨p', c', hv', _, _, _, g4⟩ := ExtsAt.up HV.out HS.out.old
      cases hv'
      obtain ⟨g, o, rfl, _, hc0, hc1, _⟩ := g4 k hlt
      have hst := putGo_step (f := f) (e := en) (d := d) hlt
      have hme := HOK.out _ (List.getElem_mem hlt)
      generalize l[k] = x at hc0 hc1 hst hme
      obtain ⟨b1, b2, b3, b4⟩ := hme
      have hw1 : IntKind.i64.wrap (x.first + x.len) = x.first + x.len := IntWalk.i64_in _ (by omega)
      have hw2 : IntKind.i64.wrap (en - f) = en - f := IntWalk.i64_in _ (by omega)
      have k0 : (0 : Int) ≤ (k : Int) := by omega
      have k1 : (k : Int) < (l.length : Int) := by omega
      have hg := HG.out
      rw [hst] at hg
      clear g4 hst
      have hba := below_alloc wr (.cells #[.int .i64 x.first, .int .i64 x.len] 39)
      have hea : (wr.alloc (.cells #[.int .i64 x.first, .int .i64 x.len] 39)).cell? ⟨wr.heap.size, 0, none⟩ = some (.int .i64 x.first) := by rw [cell_row (heap_alloc_new wr _)]; rfl
      have heb : (wr.alloc (.cells #[.int .i64 x.first, .int .i64 x.len] 39)).cell? ⟨wr.heap.size, 1, none⟩ = some (.int .i64 x.len) := by rw [cell_row (heap_alloc_new wr _)]; rfl
      have hSb := HS.out.new hba (BoxA wr.heap.size #[.int .i64 x.first, .int .i64 x.len] 39) (F := New wr (wr.alloc (.cells #[.int .i64 x.first, .int .i64 x.len] 39))) (fun _ h => h) ⟨⟨Nat.le_refl _, by simp⟩, heap_alloc_new wr _⟩
      have HBA := Lib.hid hba
      have HSB := Lib.hid hSb
      clear hba hSb
      by_cases hA : x.first + x.len < f
      case pos =>
        rw [if_pos hA] at hg
        have HG := Lib.hid hg
        clear hg
        go_upto_region 12 with fail
        generalize (wr.alloc (.cells #[.int .i64 x.first, .int .i64 x.len] 39)) = wq at *
        obtain ⟨FA, hFA, _⟩ := HSB.out.get 1 rfl
        have hrowA := hFA.1
        obtain ⟨iiA, hiiA, hizA, hiyA, hixA⟩ := info_parts infoExt
        have HROWA := Lib.hid hrowA
        clear hFA hrowA
        go_wp2_with (at_builtin; refine wpList_append_lies _ rfl _ _ 70 rfl 0 39 iiA (.agg #[.int .i64 0, .int .i64 0]) 2 16 Try.underlying70 hiiA hizA hiyA hixA rfl (by decide) _ (out.length) (flatE out) rfl (HROWA.out.alloc _) ⟨wq.heap.size, 0, none⟩ 1 1 [.int .i64 x.first, .int .i64 x.len] rfl rfl (World.news_of_block (cs := #[.int .i64 x.first, .int .i64 x.len]) (heap_alloc_new wq _)) (by simp [Value.oneCell']) (by decide) (by unfold maxLen; omega) (by omega) (Nat.zero_le _) (wq.heap.size + 1) (by simp) ?_; intro gA cA wA hownA hgrowA hatA hltA)
        have hSA := HSB.out.row_app 1 rfl (below_alloc _ _) hownA hgrowA hatA (by simp) hltA
        clear hownA hgrowA hatA hltA hiiA hizA hiyA hixA
        have hSA2 := hSA.take 2
        have HSA := Lib.hid hSA
        have HSA2 := Lib.hid hSA2
        clear hSA hSA2
        clear hea heb
        go_wp2_with fail
        go_roundw
        case rel =>
          have q1 : (out ++ [x]).length = out.length + 1 := by simp
          refine ⟨k + 1, _, cA, f, en, d, out ++ [x], by omega, by go_num, rfl, rfl, rfl, by rw [q1], f0, f1, f2, ?_, ?_, by omega⟩
          · unfold Hid
            rw [q1]
            show Sep w [OldA w, RowA 39 2 _ (out.length + 1) (flatE (out ++ [⟨x.first, x.len⟩]))] _
            rw [flatE_more]
            exact HSA2.out
          · unfold Hid; rw [List.append_assoc]; exact HG.out
        case measure => simp [intOf]; omega
      case neg =>
        rw [if_neg hA] at hg
        by_cases hB : en < x.first
        case pos =>
          rw [if_pos hB] at hg
          cases d with
          | true =>
            simp only [if_true, List.nil_append] at hg
            have HG := Lib.hid hg
            clear hg
            go_upto_region 17 with fail
            generalize (wr.alloc (.cells #[.int .i64 x.first, .int .i64 x.len] 39)) = wq at *
            obtain ⟨FA, hFA, _⟩ := HSB.out.get 1 rfl
            have hrowA := hFA.1
            obtain ⟨iiA, hiiA, hizA, hiyA, hixA⟩ := info_parts infoExt
            have HROWA := Lib.hid hrowA
            clear hFA hrowA
            go_wp2_with (at_builtin; refine wpList_append_lies _ rfl _ _ 70 rfl 0 39 iiA (.agg #[.int .i64 0, .int .i64 0]) 2 16 Try.underlying70 hiiA hizA hiyA hixA rfl (by decide) _ (out.length) (flatE out) rfl (HROWA.out.alloc _) ⟨wq.heap.size, 0, none⟩ 1 1 [.int .i64 x.first, .int .i64 x.len] rfl rfl (World.news_of_block (cs := #[.int .i64 x.first, .int .i64 x.len]) (heap_alloc_new wq _)) (by simp [Value.oneCell']) (by decide) (by unfold maxLen; omega) (by omega) (Nat.zero_le _) (wq.heap.size + 1) (by simp) ?_; intro gA cA wA hownA hgrowA hatA hltA)
            have hSA := HSB.out.row_app 1 rfl (below_alloc _ _) hownA hgrowA hatA (by simp) hltA
            clear hownA hgrowA hatA hltA hiiA hizA hiyA hixA
            have hSA2 := hSA.take 2
            have HSA := Lib.hid hSA
            have HSA2 := Lib.hid hSA2
            clear hSA hSA2
            clear hea heb
            go_wp2_with fail
            go_roundw
            case rel =>
              have q1 : (out ++ [x]).length = out.length + 1 := by simp
              refine ⟨k + 1, _, cA, f, en, true, out ++ [x], by omega, by go_num, rfl, rfl, rfl, by rw [q1], f0, f1, f2, ?_, ?_, by omega⟩
              · unfold Hid
                rw [q1]
                show Sep w [OldA w, RowA 39 2 _ (out.length + 1) (flatE (out ++ [⟨x.first, x.len⟩]))] _
                rw [flatE_more]
                exact HSA2.out
              · unfold Hid; rw [List.append_assoc]; exact HG.out
            case measure => simp [intOf]; omega
          | false =>
            simp only [Bool.false_eq_true, if_false] at hg
            have HG := Lib.hid hg
            clear hg
            go_upto_region 15 with fail
            generalize (wr.alloc (.cells #[.int .i64 x.first, .int .i64 x.len] 39)) = wq at *
            obtain ⟨FA, hFA, _⟩ := HSB.out.get 1 rfl
            have hrowA := hFA.1
            obtain ⟨iiA, hiiA, hizA, hiyA, hixA⟩ := info_parts infoExt
            have HROWA := Lib.hid hrowA
            clear hFA hrowA
            go_upto_region 16 with (at_builtin; refine wpList_append_lies _ rfl _ _ 70 rfl 0 39 iiA (.agg #[.int .i64 0, .int .i64 0]) 2 16 Try.underlying70 hiiA hizA hiyA hixA rfl (by decide) _ (out.length) (flatE out) rfl (HROWA.out.alloc _) ⟨wq.heap.size, 0, none⟩ 1 1 [.int .i64 f, .int .i64 (en - f)] rfl rfl (World.news_of_block (cs := #[.int .i64 f, .int .i64 (en - f)]) (heap_alloc_new wq _)) (by simp [Value.oneCell']) (by decide) (by unfold maxLen; omega) (by omega) (Nat.zero_le _) (wq.heap.size + 1) (by simp) ?_; intro gA cA wA hownA hgrowA hatA hltA)
            have hSA := HSB.out.row_app 1 rfl (below_alloc _ _) hownA hgrowA hatA (by simp) hltA
            clear hownA hgrowA hatA hltA hiiA hizA hiyA hixA
            obtain ⟨FB, hFB, _⟩ := hSA.get 2 rfl
            have hqa : wA.cell? ⟨wr.heap.size, 0, none⟩ = some (.int .i64 x.first) := by rw [cell_row hFB.2]; rfl
            have hqb : wA.cell? ⟨wr.heap.size, 1, none⟩ = some (.int .i64 x.len) := by rw [cell_row hFB.2]; rfl
            have HSA := Lib.hid hSA
            clear hSA
            clear hea heb hFB
            obtain ⟨FB, hFB, _⟩ := HSA.out.get 1 rfl
            have hrowB := hFB.1
            obtain ⟨iiB, hiiB, hizB, hiyB, hixB⟩ := info_parts infoExt
            have HROWB := Lib.hid hrowB
            clear hFB hrowB
            go_wp2_with (at_builtin; refine wpList_append_lies _ rfl _ _ 70 rfl 0 39 iiB (.agg #[.int .i64 0, .int .i64 0]) 2 16 Try.underlying70 hiiB hizB hiyB hixB rfl (by decide) _ (out.length + 1) (flatE out ++ [.int .i64 f, .int .i64 (en - f)]) rfl (HROWB.out.alloc _) ⟨wA.heap.size, 0, none⟩ 1 1 [.int .i64 x.first, .int .i64 x.len] rfl rfl (World.news_of_block (cs := #[.int .i64 x.first, .int .i64 x.len]) (heap_alloc_new wA _)) (by simp [Value.oneCell']) (by decide) (by unfold maxLen; omega) (by omega) (Nat.zero_le _) (wA.heap.size + 1) (by simp) ?_; intro gB cB wB hownB hgrowB hatB hltB)
            have hSB := HSA.out.row_app 1 rfl (below_alloc _ _) hownB hgrowB hatB (by simp) hltB
            clear hownB hgrowB hatB hltB hiiB hizB hiyB hixB
            have hSA2 := hSB.take 2
            have HSA2 := Lib.hid hSA2
            clear hSA2
            clear hSB
            go_wp2_with fail
            go_roundw
            case rel =>
              have q1 : (out ++ [(⟨f, en - f⟩ : Ext)] ++ [x]).length = out.length + 1 + 1 := by simp
              refine ⟨k + 1, _, cB, f, en, true, out ++ [(⟨f, en - f⟩ : Ext)] ++ [x], by omega, by go_num, rfl, rfl, rfl, by rw [q1], f0, f1, f2, ?_, ?_, by omega⟩
              · unfold Hid
                rw [q1]
                show Sep w [OldA w, RowA 39 2 _ (out.length + 1 + 1) (flatE (out ++ [(⟨f, en - f⟩ : Ext)] ++ [⟨x.first, x.len⟩]))] _
                rw [flatE_more, flatE_more]
                exact HSA2.out
              · unfold Hid; rw [List.append_assoc, List.append_assoc]; exact HG.out
            case measure => simp [intOf]; omega
        case neg =>
          rw [if_neg hB] at hg
          have hSA2 := HSB.out.take 2
          have HG := Lib.hid hg
          have HSA2 := Lib.hid hSA2
          clear hg hSA2
          go_wp2_with fail
          go_roundw
          case rel => exact ⟨k + 1, po, co, min f x.first, max en (x.first + x.len), d, out, by omega, by go_num, rfl, rfl, rfl, rfl, by omega, by omega, by omega, HSA2.out, HG.out, by omega⟩
          case measure => simp [intOf]; omega
/-- A Set of the reference's. -/
structure RSetIs (F : Nat → Prop) (w : World) (v : Value) (most : Int) (l : List Ext) : Prop where
  out : ∃ b sv, v = .pointer (some ⟨b, 0, none⟩) ∧ F b ∧ w.heap[b]? = some (.cells #[.int .i64 most, sv] 72 (0, 0)) ∧ ExtsAt F w sv l
theorem RSetIs.same {F : Nat → Prop} {w w' : World} {v : Value} {most : Int} {l : List Ext} (h : RSetIs F w v most l) (hs : Same F w w') : RSetIs F w' v most l := by
  obtain ⟨⟨b, sv, h1, h2, h3, h4⟩⟩ := h
  exact ⟨⟨b, sv, h1, h2, (hs b h2).trans h3, h4.same hs⟩⟩
def RSetA (v : Value) (most : Int) (l : List Ext) : Asn := ⟨fun F w => RSetIs F w v most l, fun _ _ _ hs _ h => h.same hs⟩
/-- What its Add answers, and leaves. -/
def radd (most : Int) (l0 l : List Ext) : Int := if allB l = false then 1 else if max most 0 < ((normE (l0 ++ l)).length : Int) then 7 else 0
def raddNext (most : Int) (l0 l : List Ext) : List Ext := if radd most l0 l = 0 then normE (l0 ++ l) else l0
theorem foldl_take_succ {α β : Type} (f : β → α → β) (b : β) (l : List α) (k : Nat) (h : k < l.length) : (l.take (k + 1)).foldl f b = f ((l.take k).foldl f b) l[k] := by
  rw [take_snoc l k h, List.foldl_append]; rfl

set_option maxRecDepth 100000 in
set_option maxHeartbeats 4000000 in
theorem refAdd_sep {W w : World} {L : List Asn} (h : Sep W L w) (i : Nat) {v lv : Value} {most : Int} {l0 : List Ext} (hi : L[i]? = some (RSetA v most l0)) (l : List Ext) (hl : ExtsAt (fun _ => True) w lv l) (hl64 : ∀ e ∈ l, I64 e.first ∧ I64 e.len) (hg : SetG l0) (im : I64 most) (n0 : l0.length ≤ 40000) (n1 : l.length ≤ 40000) :
    Calls Try.prog 60 #[v, lv] w fun e w' => e = .returned (.int .i64 (radd most l0 l)) ∧ Hid (Sep W (L.set i (RSetA v most (raddNext most l0 l))) w') := by
  obtain ⟨F, G, hF, hR, hFG, hdF, hdG, K⟩ := h.at i hi
  obtain ⟨⟨b, sv, rfl, hFb, hh, hsv⟩⟩ := hF
  obtain ⟨p, c, rfl⟩ := extsAt_shape hl
  obtain ⟨p0, c0, rfl⟩ := extsAt_shape hsv
  have hK := fun w' F' A' => K w' F' A'
  have hbl := hdF b hFb
  have hc0 : w.cell? ⟨b, 0, none⟩ = some (.int .i64 most) := by rw [cell_row hh]; rfl
  have hc1 : w.cell? ⟨b, 1, none⟩ = some (.slice p0 l0.length c0) := by rw [cell_row hh]; rfl
  have HL := Lib.hid hl
  have HSV := Lib.hid hsv
  have HK := Lib.hid hK
  have HH := Lib.hid hh
  have HL64 := Lib.hid hl64
  have HG := Lib.hid hg
  clear hl hsv hK hh hl64 hg
  clear K hR hFG hdG h
  go_enter Try.func60, Try.ntmps60
  go_wp2_with fail
  go_loopw [5] (fun i wr => ∃ k : Nat, k ≤ l.length ∧ i = .int .i64 k ∧ Hid (Below w.heap.size w wr) ∧ Hid (allB (l.take k) = true)) (fun i _ => l.length - (intOf i).toNat)
  case atStart => exact ⟨0, by omega, rfl, Below.refl _ _, rfl⟩
  case round =>
    obtain ⟨k, hk, rfl, HB, HA⟩ := hrel
    by_cases hlt : k < l.length
    case pos =>
      obtain ⟨p', c', he', _, _, _, h4⟩ := ExtsAt.up HL.out HB.out
      cases he'
      obtain ⟨g, o, rfl, _, hca, hcb, hia, hib⟩ := h4 k hlt
      have hmay := refMayE_any l[k] wr hia hib
      have hbad : mayB l[k] = false → radd most l0 l = 1 := fun hq => by
        unfold radd
        rw [if_pos]
        unfold allB
        rw [List.all_eq_false]
        exact ⟨_, List.getElem_mem hlt, by rw [hq]; decide⟩
      have hnext : mayB l[k] = true → allB (l.take (k + 1)) = true := fun hq => by
        rw [take_snoc l k hlt]
        unfold allB
        rw [List.all_append, show (l.take k).all mayB = true from HA.out]
        simp [hq]
      generalize l[k] = x at *
      have hkI : (k : Int) < (l.length : Int) := by omega
      have HMAY := Lib.hid hmay
      have HBAD := Lib.hid hbad
      have HNEXT := Lib.hid hnext
      have HIA := Lib.hid hia
      have HIB := Lib.hid hib
      clear hmay hbad hnext hia hib
      clear h4
      go_wp2_with fail
      refine (HMAY.out).mono ?_
      rintro r w2 ⟨rfl, hb2⟩
      have hb02 := Below.up HB.out hb2
      have HB2 := Lib.hid hb2
      have HB02 := Lib.hid hb02
      clear hb2 hb02
      cases hq : mayB x with
      | false =>
        have hcode := HBAD.out hq
        have hnx : raddNext most l0 l = l0 := by unfold raddNext; rw [if_neg (by rw [hcode]; decide)]
        have HQ := Lib.hid hq
        have HCODE := Lib.hid hcode
        have HNX := Lib.hid hnx
        clear hq hcode hnx
        go_wp2_with fail
        go_ret
        refine ⟨by rw [HCODE.out]; rfl, ?_⟩
        unfold Hid
        rw [HNX.out]
        exact HK.out w2 F (RSetA _ most l0) (Chg.of_below HB02.out fun k h1 h2 => by omega) (fun k hk => .inl hk) (RSetIs.same ⟨⟨b, _, rfl, hFb, HH.out, HSV.out⟩⟩ (Dom.same hdF HB02.out))
      | true =>
        have hnx := HNEXT.out hq
        have HQ := Lib.hid hq
        have HNX := Lib.hid hnx
        clear hq hnx
        go_wp2_with fail
        go_roundw
        case rel => exact ⟨k + 1, by omega, by go_num, HB02.out, HNX.out⟩
        case measure => simp [intOf]; omega
    case neg =>
      have hall := HA.out
      rw [show k = l.length by omega, List.take_length] at hall
      have hoke : ∀ x ∈ l, Oke x := fun x hx => mayB_oke (allB_mem hall x hx)
      have hcode0 : radd most l0 l = if max most 0 < ((normE (l0 ++ l)).length : Int) then 7 else 0 := by unfold radd; rw [if_neg (by rw [hall]; decide)]
      have hput := putAll HG.out.1 HG.out.2 l hoke
      have hsv1 := ExtsAt.up HSV.out HB.out
      have hlv1 := ExtsAt.up HL.out HB.out
      have hc01 := cell_up HB.out hc0
      have hc11 := cell_up HB.out hc1
      obtain ⟨i0, hi0, hz0, hz1, hz2⟩ := info_parts infoExt
      have hown := owns_empty wr 39 2
      have hc12 := cell_up (below_alloc wr (.cells #[] 39 (0, 0))) hc11
      have hsv2 := ExtsAt.up hsv1 (below_alloc wr (.cells #[] 39 (0, 0)))
      have hp0 : p0 = none → l0.length = 0 ∧ c0 = 0 := fun hp => by
        obtain ⟨p', c', he, h1, h2, h3, _⟩ := hsv1
        cases he
        have := h3 hp
        omega
      have hnews : ∀ a, p0 = some a → ∀ j u, (flatE l0)[j]? = some u → (wr.alloc (.cells #[] 39 (0, 0))).cell? (a.add j) = some u := fun a ha j u hu => by
        subst ha
        exact extsAt_news hsv2 j u hu
      obtain ⟨v6, w6, hr6, ho6, hg6, hor6⟩ := run_append_any (P := Try.prog) (wr.alloc (.cells #[] 39 (0, 0))) 70 70 wr.heap.size 39 i0 (.agg #[.int .i64 0, .int .i64 0]) 2 16 Try.underlying70 hi0 hz0 hz1 hz2 rfl (by decide) _ 0 [] hown p0 l0.length c0 hp0 (flatE l0) (flatE_length l0) hnews (flatE_one l0) (by unfold maxLen; omega) (by omega) (by simp)
      have hb6 : Below wr.heap.size wr w6 := (below_alloc wr _).grown hg6 (by simp) (fun q hq => by cases hq; exact Nat.le_refl _)
      rw [Nat.zero_add, List.nil_append] at ho6
      have hx6 := row_extsAt (New w w6) rfl (fun e he => by have := HG.out.2 e he; unfold Oke at this; unfold I64; omega) (fun k h1 h2 => ⟨Nat.le_trans HB.out.size h1, h2⟩) ho6
      obtain ⟨p6, c6, rfl⟩ := extsAt_shape hx6
      have hb06 := Below.up HB.out hb6
      have hn0 : normE (l0 ++ l.take 0) = l0 := normE_self HG.out.1
      have hst : ∀ j (hj : j < l.length), putX (normE (l0 ++ l.take j)) l[j] = normE (l0 ++ l.take (j + 1)) := fun j hj => by
        rw [← putAll HG.out.1 HG.out.2 (l.take (j + 1)) (fun e he => hoke e (List.mem_of_mem_take he)), foldl_take_succ _ _ _ _ hj, putAll HG.out.1 HG.out.2 (l.take j) (fun e he => hoke e (List.mem_of_mem_take he))]
      have hgd : ∀ j, SetG (normE (l0 ++ l.take j)) ∧ (normE (l0 ++ l.take j)).length ≤ l0.length + l.length := fun j => by
        have ho : ∀ e ∈ l0 ++ l.take j, Oke e := fun e he => (List.mem_append.1 he).elim (HG.out.2 e) fun h => hoke e (List.mem_of_mem_take h)
        obtain ⟨g1, _, g3⟩ := normE_good' ho
        rw [List.length_append, List.length_take] at g3
        exact ⟨g1, by omega⟩
      have HALL := Lib.hid hall
      have HOKE := Lib.hid hoke
      have HCODE0 := Lib.hid hcode0
      have HPUT := Lib.hid hput
      have HX6 := Lib.hid hx6
      have HB06 := Lib.hid hb06
      have HN0 := Lib.hid hn0
      have HST := Lib.hid hst
      have HGD := Lib.hid hgd
      have HSV1 := Lib.hid hsv1
      have HLV1 := Lib.hid hlv1
      have HSV2 := Lib.hid hsv2
      have HP0 := Lib.hid hp0
      have HNEWS := Lib.hid hnews
      have HR6 := Lib.hid hr6
      clear hall hoke hcode0 hput hx6 hb06 hn0 hst hgd hsv1 hlv1 hsv2 hp0 hnews hr6
      clear hown ho6 hg6 hor6 hi0 hz0 hz1 hz2 hb6
      go_wp2_with (at_builtin; refine Lib.wpList_append_run _ rfl _ _ _ _ rfl _ _ rfl rfl _ _ HR6.out ?_)
      clear hlt hk
      go_loopw [6, 7] (fun vo i wr => ∃ k : Nat, ∃ po co X, k ≤ l.length ∧ i = .int .i64 k ∧ vo = .slice po X.length co ∧ Hid (X = normE (l0 ++ l.take k)) ∧ Hid (Below w.heap.size w wr) ∧ Hid (ExtsAt (New w wr) wr (.slice po X.length co) X)) (fun _ i _ => l.length - (intOf i).toNat)
      case atStart => exact ⟨0, p6, c6, l0, by omega, rfl, rfl, HN0.out.symm, HB06.out, HX6.out⟩
      case round =>
        obtain ⟨k, po, co, X, hk, rfl, rfl, HXE, HB, HX⟩ := hrel
        obtain ⟨hgx, hgl⟩ := HGD.out k
        rw [← HXE.out] at hgx hgl
        by_cases hlt : k < l.length
        case pos =>
          obtain ⟨p', c', he', _, _, _, h4⟩ := ExtsAt.up HL.out HB.out
          cases he'
          obtain ⟨g, o, rfl, _, hca, hcb, hia, hib⟩ := h4 k hlt
          have hok := HOKE.out _ (List.getElem_mem hlt)
          have hstk := HST.out k hlt
          rw [← HXE.out] at hstk
          have hpt := refPut_any _ _ X l[k] wr HX.out hgx.2 hok (by omega)
          rw [hstk] at hpt
          obtain ⟨hgy, hgyl⟩ := HGD.out (k + 1)
          generalize l[k] = x at *
          obtain ⟨Y, hY⟩ : ∃ Y, Y = normE (l0 ++ l.take (k + 1)) := ⟨_, rfl⟩
          rw [← hY] at hpt hgy hgyl
          have hkI : (k : Int) < (l.length : Int) := by omega
          have HPT := Lib.hid hpt
          have HOK := Lib.hid hok
          have HIA := Lib.hid hia
          have HIB := Lib.hid hib
          have HGY := Lib.hid hgy
          have HY := Lib.hid hY
          clear hpt hok hia hib hgy hY
          clear h4 hstk hgx hgl
          go_wp2_with fail
          refine (HPT.out).mono ?_
          rintro r w8 ⟨v8, rfl, ho8, hb8⟩
          have hb08 := Below.up HB.out hb8
          have hx8 := row_extsAt (New w w8) rfl (fun e he => by have := HGY.out.2 e he; unfold Oke at this; unfold I64; omega) (fun k h1 h2 => ⟨Nat.le_trans HB.out.size h1, h2⟩) ho8
          obtain ⟨p8, c8, rfl⟩ := extsAt_shape hx8
          have HB8 := Lib.hid hb8
          have HB08 := Lib.hid hb08
          have HX8 := Lib.hid hx8
          clear hb8 hb08 hx8
          clear ho8
          go_wp2_with fail
          go_roundw
          case rel => exact ⟨k + 1, p8, c8, Y, by omega, by go_num, rfl, HY.out, HB08.out, HX8.out⟩
          case measure => simp [intOf]; omega
        case neg =>
          have hxe := HXE.out
          rw [show k = l.length by omega, List.take_length] at hxe
          have hcode := HCODE0.out
          rw [← hxe] at hcode
          have hcc0 := cell_up HB.out hc0
          have hcc1 := cell_up HB.out hc1
          have hhb : wr.heap[b]? = some (.cells #[.int .i64 most, .slice p0 l0.length c0] 72 (0, 0)) := (HB.out.block b hbl).trans HH.out
          have hfz : wr.frozen? ⟨b, 1, none⟩ = false := fz_row hhb 1
          have HXE := Lib.hid hxe
          have HGX := Lib.hid hgx
          have HHB := Lib.hid hhb
          clear hxe hgx hhb
          clear hc01 hc11 hc12
          by_cases hbig : max most 0 < (X.length : Int)
          case pos =>
            rw [if_pos hbig] at hcode
            have hnx : raddNext most l0 l = l0 := by unfold raddNext; rw [if_neg (by rw [hcode]; decide)]
            have HCODE := Lib.hid hcode
            have HNX := Lib.hid hnx
            clear hcode hnx
            go_wp2_with fail
            go_ret
            refine ⟨by rw [HCODE.out]; rfl, ?_⟩
            unfold Hid
            rw [HNX.out]
            exact HK.out _ F (RSetA _ most l0) (Chg.of_below HB.out fun k h1 h2 => by omega) (fun k hk => .inl hk) (RSetIs.same ⟨⟨b, _, rfl, hFb, HH.out, HSV.out⟩⟩ (Dom.same hdF HB.out))
          case neg =>
            rw [if_neg hbig] at hcode
            have hnx : raddNext most l0 l = X := by unfold raddNext; rw [if_pos hcode, HXE.out]
            have hbig' : (X.length : Int) ≤ max most 0 := by omega
            have HCODE := Lib.hid hcode
            have HNX := Lib.hid hnx
            clear hcode hnx
            clear hbig
            go_wp2_with fail
            go_ret
            refine ⟨by rw [HCODE.out]; rfl, ?_⟩
            unfold Hid
            rw [HNX.out]
            refine HK.out _ (fun q => F q ∨ New w (wr.setCell ⟨b, 1, none⟩ (.slice po X.length co)) q) (RSetA _ most X) ((Chg.of_below HB.out fun k h1 h2 => by omega).trans (chg_set wr b 1 _ hFb)) (fun q hq => hq) ⟨⟨b, .slice po X.length co, rfl, .inl hFb, by rw [heap_set_same HHB.out]; rfl, ?_⟩⟩
            refine SlAt.mono (ExtsAt.same HX.out (w' := wr.setCell ⟨b, 1, none⟩ (.slice po X.length co)) fun k hk => ?_) (fun k hk => .inr ?_) (fun _ _ _ h => h)
            · exact Below.heap_setCell _ _ _ k (fun e => by have := hk.1; simp at e; omega)
            · exact ⟨hk.1, by have := hk.2; simpa [World.setCell] using this⟩
end Go.Proofs

/- scarpref11's Set, laid in a View: Add. -/
namespace Go.Proofs
open Go.RowKit Sc
/-- What Add leaves, where the Set lies at cell 3 of a block. -/
def AddVSaid (b : Nat) (most : Int) (l0 l : List Ext) (w : World) (e : Ending) (w' : World) : Prop :=
  e = .returned (.int .i64 (radd most l0 l)) ∧ ((radd most l0 l ≠ 0 ∧ Hid (Below w.heap.size w w')) ∨
    (radd most l0 l = 0 ∧ ∃ wr po co, w' = wr.setCell ⟨b, 4, none⟩ (.slice po (raddNext most l0 l).length co) ∧ Hid (Below w.heap.size w wr) ∧ Hid (ExtsAt (New w wr) wr (.slice po (raddNext most l0 l).length co) (raddNext most l0 l))))
set_option maxRecDepth 100000 in
set_option maxHeartbeats 4000000 in
theorem refAddV_any {F0 : Nat → Prop} {w : World} {b T : Nat} {cs : Array Value} {sv lv : Value} {most : Int} {l0 : List Ext} (hbl : b < w.heap.size) (hh : w.heap[b]? = some (.cells cs T (0, 0))) (e3 : cs[3]? = some (.int .i64 most)) (e4 : cs[4]? = some sv) (hsv : ExtsAt F0 w sv l0) (l : List Ext) (hl : ExtsAt (fun _ => True) w lv l) (hl64 : ∀ e ∈ l, I64 e.first ∧ I64 e.len) (hg : SetG l0) (im : I64 most) (n0 : l0.length ≤ 40000) (n1 : l.length ≤ 40000) :
    Calls Try.prog 60 #[.pointer (some ⟨b, 3, none⟩), lv] w (AddVSaid b most l0 l w) := by
  obtain ⟨p, c, rfl⟩ := extsAt_shape hl
  obtain ⟨p0, c0, rfl⟩ := extsAt_shape hsv
  have hc0 : w.cell? ⟨b, 3, none⟩ = some (.int .i64 most) := by rw [cell_row hh]; exact e3
  have hc1 : w.cell? ⟨b, 4, none⟩ = some (.slice p0 l0.length c0) := by rw [cell_row hh]; exact e4
  clear e3 e4
  have HL := Lib.hid hl
  have HSV := Lib.hid hsv
  have HH := Lib.hid hh
  have HL64 := Lib.hid hl64
  have HG := Lib.hid hg
  clear hl hsv hh hl64 hg
  go_enter Try.func60, Try.ntmps60
  go_wp2_with fail
  go_loopw [5] (fun i wr => ∃ k : Nat, k ≤ l.length ∧ i = .int .i64 k ∧ Hid (Below w.heap.size w wr) ∧ Hid (allB (l.take k) = true)) (fun i _ => l.length - (intOf i).toNat)
  case atStart => exact ⟨0, by omega, rfl, Below.refl _ _, rfl⟩
  case round =>
    obtain ⟨k, hk, rfl, HB, HA⟩ := hrel
    by_cases hlt : k < l.length
    case pos =>
      obtain ⟨p', c', he', _, _, _, h4⟩ := ExtsAt.up HL.out HB.out
      cases he'
      obtain ⟨g, o, rfl, _, hca, hcb, hia, hib⟩ := h4 k hlt
      have hmay := refMayE_any l[k] wr hia hib
      have hbad : mayB l[k] = false → radd most l0 l = 1 := fun hq => by
        unfold radd
        rw [if_pos]
        unfold allB
        rw [List.all_eq_false]
        exact ⟨_, List.getElem_mem hlt, by rw [hq]; decide⟩
      have hnext : mayB l[k] = true → allB (l.take (k + 1)) = true := fun hq => by
        rw [take_snoc l k hlt]
        unfold allB
        rw [List.all_append, show (l.take k).all mayB = true from HA.out]
        simp [hq]
      generalize l[k] = x at *
      have hkI : (k : Int) < (l.length : Int) := by omega
      have HMAY := Lib.hid hmay
      have HBAD := Lib.hid hbad
      have HNEXT := Lib.hid hnext
      have HIA := Lib.hid hia
      have HIB := Lib.hid hib
      clear hmay hbad hnext hia hib
      clear h4
      go_wp2_with fail
      refine (HMAY.out).mono ?_
      rintro r w2 ⟨rfl, hb2⟩
      have hb02 := Below.up HB.out hb2
      have HB2 := Lib.hid hb2
      have HB02 := Lib.hid hb02
      clear hb2 hb02
      cases hq : mayB x with
      | false =>
        have hcode := HBAD.out hq
        have hnx : raddNext most l0 l = l0 := by unfold raddNext; rw [if_neg (by rw [hcode]; decide)]
        have HQ := Lib.hid hq
        have HCODE := Lib.hid hcode
        have HNX := Lib.hid hnx
        clear hq hcode hnx
        go_wp2_with fail
        go_ret
        exact ⟨by rw [HCODE.out]; rfl, .inl ⟨by rw [HCODE.out]; decide, HB02⟩⟩
      | true =>
        have hnx := HNEXT.out hq
        have HQ := Lib.hid hq
        have HNX := Lib.hid hnx
        clear hq hnx
        go_wp2_with fail
        go_roundw
        case rel => exact ⟨k + 1, by omega, by go_num, HB02.out, HNX.out⟩
        case measure => simp [intOf]; omega
    case neg =>
      have hall := HA.out
      rw [show k = l.length by omega, List.take_length] at hall
      have hoke : ∀ x ∈ l, Oke x := fun x hx => mayB_oke (allB_mem hall x hx)
      have hcode0 : radd most l0 l = if max most 0 < ((normE (l0 ++ l)).length : Int) then 7 else 0 := by unfold radd; rw [if_neg (by rw [hall]; decide)]
      have hput := putAll HG.out.1 HG.out.2 l hoke
      have hsv1 := ExtsAt.up HSV.out HB.out
      have hlv1 := ExtsAt.up HL.out HB.out
      have hc01 := cell_up HB.out hc0
      have hc11 := cell_up HB.out hc1
      obtain ⟨i0, hi0, hz0, hz1, hz2⟩ := info_parts infoExt
      have hown := owns_empty wr 39 2
      have hc12 := cell_up (below_alloc wr (.cells #[] 39 (0, 0))) hc11
      have hsv2 := ExtsAt.up hsv1 (below_alloc wr (.cells #[] 39 (0, 0)))
      have hp0 : p0 = none → l0.length = 0 ∧ c0 = 0 := fun hp => by
        obtain ⟨p', c', he, h1, h2, h3, _⟩ := hsv1
        cases he
        have := h3 hp
        omega
      have hnews : ∀ a, p0 = some a → ∀ j u, (flatE l0)[j]? = some u → (wr.alloc (.cells #[] 39 (0, 0))).cell? (a.add j) = some u := fun a ha j u hu => by
        subst ha
        exact extsAt_news hsv2 j u hu
      obtain ⟨v6, w6, hr6, ho6, hg6, hor6⟩ := run_append_any (P := Try.prog) (wr.alloc (.cells #[] 39 (0, 0))) 70 70 wr.heap.size 39 i0 (.agg #[.int .i64 0, .int .i64 0]) 2 16 Try.underlying70 hi0 hz0 hz1 hz2 rfl (by decide) _ 0 [] hown p0 l0.length c0 hp0 (flatE l0) (flatE_length l0) hnews (flatE_one l0) (by unfold maxLen; omega) (by omega) (by simp)
      have hb6 : Below wr.heap.size wr w6 := (below_alloc wr _).grown hg6 (by simp) (fun q hq => by cases hq; exact Nat.le_refl _)
      rw [Nat.zero_add, List.nil_append] at ho6
      have hx6 := row_extsAt (New w w6) rfl (fun e he => by have := HG.out.2 e he; unfold Oke at this; unfold I64; omega) (fun k h1 h2 => ⟨Nat.le_trans HB.out.size h1, h2⟩) ho6
      obtain ⟨p6, c6, rfl⟩ := extsAt_shape hx6
      have hb06 := Below.up HB.out hb6
      have hn0 : normE (l0 ++ l.take 0) = l0 := normE_self HG.out.1
      have hst : ∀ j (hj : j < l.length), putX (normE (l0 ++ l.take j)) l[j] = normE (l0 ++ l.take (j + 1)) := fun j hj => by
        rw [← putAll HG.out.1 HG.out.2 (l.take (j + 1)) (fun e he => hoke e (List.mem_of_mem_take he)), foldl_take_succ _ _ _ _ hj, putAll HG.out.1 HG.out.2 (l.take j) (fun e he => hoke e (List.mem_of_mem_take he))]
      have hgd : ∀ j, SetG (normE (l0 ++ l.take j)) ∧ (normE (l0 ++ l.take j)).length ≤ l0.length + l.length := fun j => by
        have ho : ∀ e ∈ l0 ++ l.take j, Oke e := fun e he => (List.mem_append.1 he).elim (HG.out.2 e) fun h => hoke e (List.mem_of_mem_take h)
        obtain ⟨g1, _, g3⟩ := normE_good' ho
        rw [List.length_append, List.length_take] at g3
        exact ⟨g1, by omega⟩
      have HALL := Lib.hid hall
      have HOKE := Lib.hid hoke
      have HCODE0 := Lib.hid hcode0
      have HPUT := Lib.hid hput
      have HX6 := Lib.hid hx6
      have HB06 := Lib.hid hb06
      have HN0 := Lib.hid hn0
      have HST := Lib.hid hst
      have HGD := Lib.hid hgd
      have HSV1 := Lib.hid hsv1
      have HLV1 := Lib.hid hlv1
      have HSV2 := Lib.hid hsv2
      have HP0 := Lib.hid hp0
      have HNEWS := Lib.hid hnews
      have HR6 := Lib.hid hr6
      clear hall hoke hcode0 hput hx6 hb06 hn0 hst hgd hsv1 hlv1 hsv2 hp0 hnews hr6
      clear hown ho6 hg6 hor6 hi0 hz0 hz1 hz2 hb6
      go_wp2_with (at_builtin; refine Lib.wpList_append_run _ rfl _ _ _ _ rfl _ _ rfl rfl _ _ HR6.out ?_)
      clear hlt hk
      go_loopw [6, 7] (fun vo i wr => ∃ k : Nat, ∃ po co X, k ≤ l.length ∧ i = .int .i64 k ∧ vo = .slice po X.length co ∧ Hid (X = normE (l0 ++ l.take k)) ∧ Hid (Below w.heap.size w wr) ∧ Hid (ExtsAt (New w wr) wr (.slice po X.length co) X)) (fun _ i _ => l.length - (intOf i).toNat)
      case atStart => exact ⟨0, p6, c6, l0, by omega, rfl, rfl, HN0.out.symm, HB06.out, HX6.out⟩
      case round =>
        obtain ⟨k, po, co, X, hk, rfl, rfl, HXE, HB, HX⟩ := hrel
        obtain ⟨hgx, hgl⟩ := HGD.out k
        rw [← HXE.out] at hgx hgl
        by_cases hlt : k < l.length
        case pos =>
          obtain ⟨p', c', he', _, _, _, h4⟩ := ExtsAt.up HL.out HB.out
          cases he'
          obtain ⟨g, o, rfl, _, hca, hcb, hia, hib⟩ := h4 k hlt
          have hok := HOKE.out _ (List.getElem_mem hlt)
          have hstk := HST.out k hlt
          rw [← HXE.out] at hstk
          have hpt := refPut_any _ _ X l[k] wr HX.out hgx.2 hok (by omega)
          rw [hstk] at hpt
          obtain ⟨hgy, hgyl⟩ := HGD.out (k + 1)
          generalize l[k] = x at *
          obtain ⟨Y, hY⟩ : ∃ Y, Y = normE (l0 ++ l.take (k + 1)) := ⟨_, rfl⟩
          rw [← hY] at hpt hgy hgyl
          have hkI : (k : Int) < (l.length : Int) := by omega
          have HPT := Lib.hid hpt
          have HOK := Lib.hid hok
          have HIA := Lib.hid hia
          have HIB := Lib.hid hib
          have HGY := Lib.hid hgy
          have HY := Lib.hid hY
          clear hpt hok hia hib hgy hY
          clear h4 hstk hgx hgl
          go_wp2_with fail
          refine (HPT.out).mono ?_
          rintro r w8 ⟨v8, rfl, ho8, hb8⟩
          have hb08 := Below.up HB.out hb8
          have hx8 := row_extsAt (New w w8) rfl (fun e he => by have := HGY.out.2 e he; unfold Oke at this; unfold I64; omega) (fun k h1 h2 => ⟨Nat.le_trans HB.out.size h1, h2⟩) ho8
          obtain ⟨p8, c8, rfl⟩ := extsAt_shape hx8
          have HB8 := Lib.hid hb8
          have HB08 := Lib.hid hb08
          have HX8 := Lib.hid hx8
          clear hb8 hb08 hx8
          clear ho8
          go_wp2_with fail
          go_roundw
          case rel => exact ⟨k + 1, p8, c8, Y, by omega, by go_num, rfl, HY.out, HB08.out, HX8.out⟩
          case measure => simp [intOf]; omega
        case neg =>
          have hxe := HXE.out
          rw [show k = l.length by omega, List.take_length] at hxe
          have hcode := HCODE0.out
          rw [← hxe] at hcode
          have hcc0 := cell_up HB.out hc0
          have hcc1 := cell_up HB.out hc1
          have hhb : wr.heap[b]? = some (.cells cs T (0, 0)) := (HB.out.block b hbl).trans HH.out
          have hfz : wr.frozen? ⟨b, 4, none⟩ = false := fz_row hhb 4
          have HXE := Lib.hid hxe
          have HGX := Lib.hid hgx
          have HHB := Lib.hid hhb
          clear hxe hgx hhb
          clear hc01 hc11 hc12
          by_cases hbig : max most 0 < (X.length : Int)
          case pos =>
            rw [if_pos hbig] at hcode
            have hnx : raddNext most l0 l = l0 := by unfold raddNext; rw [if_neg (by rw [hcode]; decide)]
            have HCODE := Lib.hid hcode
            have HNX := Lib.hid hnx
            clear hcode hnx
            go_wp2_with fail
            go_ret
            exact ⟨by rw [HCODE.out]; rfl, .inl ⟨by rw [HCODE.out]; decide, HB⟩⟩
          case neg =>
            rw [if_neg hbig] at hcode
            have hnx : raddNext most l0 l = X := by unfold raddNext; rw [if_pos hcode, HXE.out]
            have hbig' : (X.length : Int) ≤ max most 0 := by omega
            have HCODE := Lib.hid hcode
            have HNX := Lib.hid hnx
            clear hcode hnx
            clear hbig
            go_wp2_with fail
            go_ret
            exact ⟨by rw [HCODE.out]; rfl, .inr ⟨HCODE.out, wr, po, co, by rw [HNX.out], HB, by rw [HNX.out]; exact HX⟩⟩
end Go.Proofs

/- Regions that draw their order, walked operation by operation, where the LAST operation may leave the class of worlds (a store at the end): what only reads may be taken if another operation hangs on it. Of no program. -/
namespace Sc
open Go
section
variable {P : Program} {ops : Array Oper} {Q : Exit → Act → World → Prop} {md : Region.Mode}
/-- As wpG; but behind the last operation the world is free. -/
def wpH (P : Program) (md : Region.Mode) (ops : Array Oper) (Q : Exit → Act → World → Prop) (G : World → Prop) : Nat → Array Bool → Act → World → Prop
  | 0, listed, a, w => (∀ k, k < ops.size → listed.getD k true = true) ∧ Region.ready md ops listed = [] ∧ Q .normal a w
  | fuel + 1, listed, a, w =>
    G w ∧ (Region.ready md ops listed = [] → Q .normal a w) ∧
    ∀ i ∈ Region.ready md ops listed, wpOp P ops Q i (wpH P md ops Q G fuel (listed.setIfInBounds i true)) a w
theorem wpH.any {G : World → Prop} : ∀ {fuel : Nat} {listed : Array Bool} {a : Act} {w : World}, wpH P md ops Q G fuel listed a w → wpAny P md ops Q fuel listed a w
  | 0, _, _, _, h => h.2
  | _ + 1, _, _, _, h => ⟨h.2.1, fun i hi => wpOp_mono (fun _ _ h => wpH.any h) (h.2.2 i hi)⟩
/-- Another one hangs on it, and is still to come. -/
def hangs (md : Region.Mode) (ops : Array Oper) (listed : Array Bool) (i : Nat) : Bool :=
  (List.range ops.size).any fun l => l != i && !(listed.getD l true) && (match ops[l]? with | some ol => ol.after.toList.any (fun e => Region.binds md e && e.on == i) | none => false)
def Hangs (md : Region.Mode) (ops : Array Oper) (listed : Array Bool) (i : Nat) : Prop :=
  ∃ (l : Nat) (ol : Oper) (e : _), l ≠ i ∧ l < ops.size ∧ listed.getD l true = false ∧ ops[l]? = some ol ∧ e ∈ ol.after ∧ Region.binds md e = true ∧ e.on = i
theorem hangs_spec {listed : Array Bool} {i : Nat} (h : hangs md ops listed i = true) : Hangs md ops listed i := by
  unfold hangs at h
  rw [List.any_eq_true] at h
  obtain ⟨l, hl, h⟩ := h
  rw [Bool.and_eq_true, Bool.and_eq_true] at h
  obtain ⟨⟨h1, h2⟩, h3⟩ := h
  cases ho : ops[l]? with
  | none => rw [ho] at h3; cases h3
  | some ol =>
    rw [ho] at h3
    simp only [List.any_eq_true] at h3
    obtain ⟨e, he, h4⟩ := h3
    rw [Bool.and_eq_true] at h4
    exact ⟨l, ol, e, by simpa using h1, List.mem_range.1 hl, by simpa using h2, ho, by simpa using he, h4.1, by simpa using h4.2⟩
theorem takeH_all {G : World → Prop} {i : Nat} {oi : Oper} {v : Value} (hi : ops[i]? = some oi) (hsel : ∀ (j : Nat) (o : Oper) cs b, ops[j]? = some o → o.op ≠ .select cs b)
    (hQ : ∀ c a w, Q (.panic c) (a.put oi.dst v) w → Q (.panic c) a w) :
    ∀ (fuel : Nat) (listed : Array Bool) (a : Act) (w : World),
      (∀ j oj, ops[j]? = some oj → j ≠ i → listed.getD j true = false → (∀ e ∈ oj.after, Region.binds md e = true → e.on ≠ i) → oi.apart ops oj = true) →
      Hangs md ops listed i → i ∈ Region.ready md ops listed → YieldsG P ops G oi v a →
      wpH P md ops Q G fuel (listed.setIfInBounds i true) (a.put oi.dst v) w → wpH P md ops Q G (fuel + 1) listed a w := by
  intro fuel
  induction fuel with
  | zero =>
    intro listed a w _ hh hr hy H
    obtain ⟨l, ol, e, h1, h2, h3, _⟩ := hh
    have := H.1 l h2
    rw [getD_set_ne true (Ne.symm h1), h3] at this
    cases this
  | succ fuel ih =>
    intro listed a w hfree hh hr hy H
    refine ⟨H.1, fun h => absurd (h ▸ hr) (by simp), fun j hj => ?_⟩
    by_cases hji : j = i
    · subst hji; exact hy.wpOp hi H.1 H
    · obtain ⟨hjun, oj, hoj, hall⟩ := mem_ready.1 hj
      have hiun := (mem_ready.1 hr).1
      have hap := hfree j oj hoj hji hjun fun e he hb heq => by
        have h1 := hall e he hb
        rw [heq, Array.getD_eq_getD_getElem?] at h1
        rw [Array.getD_eq_getD_getElem?] at hiun
        cases hx : listed[i]? with
        | none => rw [hx] at h1; cases h1
        | some b => rw [hx] at h1 hiun; simp only [Option.getD_some] at h1 hiun; rw [h1] at hiun; cases hiun
      have h1 := H.2.2 j (ready_mono hj hji)
      have h2 := wpOp_track hoj (wpOp_put hoj (fake_apart (v := v) hap) (fun cs b e => by cases e) (fun cs b => hsel j oj cs b hoj) hQ (fake_yields a) h1)
      refine wpOp_mono (fun a' w' h3 => ?_) h2
      obtain ⟨⟨_, h4⟩, u, ds, rfl⟩ := h3
      obtain ⟨l, ol, e, q1, q2, q3, q4, q5, q6, q7⟩ := hh
      have hlj : j ≠ l := fun hx => by
        subst hx
        rw [hoj] at q4; cases q4
        have h1 := hall e q5 q6
        rw [q7] at h1
        have hiun := (mem_ready.1 hr).1
        rw [Array.getD_eq_getD_getElem?] at h1 hiun
        cases hx : listed[i]? with
        | none => rw [hx] at h1; cases h1
        | some b => rw [hx] at h1 hiun; simp only [Option.getD_some] at h1 hiun; rw [h1] at hiun; cases hiun
      refine ih _ _ w' (fun k ok hk hki hun hno => hfree k ok hk hki ?_ hno) ⟨l, ol, e, q1, q2, by rw [getD_set_ne true hlj]; exact q3, q4, q5, q6, q7⟩ (ready_mono hr (Ne.symm hji)) (hy.track (fun cs b => hsel i oi cs b hi) (Oper.apart_spec hap).2.2 u ds) ?_
      · by_cases hjk : j = k
        · subst hjk; exact hjun
        · rw [getD_set_ne true hjk] at hun; exact hun
      · rw [Array.setIfInBounds_comm _ _ hji]; exact h4
/-- An operation that only reads is taken as soon as it is ready. -/
theorem wpH.take {G : World → Prop} (i : Nat) {oi : Oper} {v : Value} {fuel : Nat} {listed : Array Bool} {a a' : Act} {w : World} (hi : ops[i]? = some oi) (hs : Region.noSelect ops = true) (hf : Region.free md ops listed i = true) (hr : (Region.ready md ops listed).contains i = true) (hd : hangs md ops listed i = true)
    (hw : Region.wanted oi (yielded ops a.tmps) = true) (hQ : ∀ c a w, Q (.panic c) (a.put oi.dst v) w → Q (.panic c) a w) (hy : ∀ w, G w → (execOp a.eval oi).run P w = .ok (.value v) w) (ha : a.put oi.dst v = a')
    (h : wpH P md ops Q G fuel (listed.setIfInBounds i true) a' w) : wpH P md ops Q G (fuel + 1) listed a w := by
  subst ha
  exact takeH_all hi (Region.noSelect_spec hs) hQ fuel listed a w (Region.free_spec hi hf) (hangs_spec hd) (by simpa using hr) (.inl ⟨hw, hy⟩) h
/-- One that its guard leaves out. -/
theorem wpH.skip {G : World → Prop} (i : Nat) {oi : Oper} {fuel : Nat} {listed : Array Bool} {a a' : Act} {w : World} (hi : ops[i]? = some oi) (hs : Region.noSelect ops = true) (hf : Region.free md ops listed i = true) (hr : (Region.ready md ops listed).contains i = true) (hd : hangs md ops listed i = true)
    (hw : Region.wanted oi (yielded ops a.tmps) = false) (hQ : ∀ c a w, Q (.panic c) (a.put oi.dst undef) w → Q (.panic c) a w) (ha : a.put oi.dst undef = a')
    (h : wpH P md ops Q G fuel (listed.setIfInBounds i true) a' w) : wpH P md ops Q G (fuel + 1) listed a w := by
  subst ha
  exact takeH_all hi (Region.noSelect_spec hs) hQ fuel listed a w (Region.free_spec hi hf) (hangs_spec hd) (by simpa using hr) (.inr ⟨hw, rfl⟩) h
/-- One that stands alone: a call, a store, an allocation. -/
theorem wpH.alone {G : World → Prop} (i : Nat) {oi : Oper} {fuel : Nat} {listed : Array Bool} {a : Act} {w : World} (hi : ops[i]? = some oi) (hr : Region.ready md ops listed = [i]) (hw : Region.wanted oi (yielded ops a.tmps) = true) (hG : G w)
    (h : ∀ K : Act → World → Prop, (∀ a w, wpH P md ops Q G fuel (listed.setIfInBounds i true) a w → K a w) → oi.wp P a w K Q) : wpH P md ops Q G (fuel + 1) listed a w := by
  refine ⟨hG, fun h0 => absurd (hr ▸ h0) (by simp), fun j hj => ?_⟩
  rw [hr, List.mem_singleton] at hj
  subst hj
  unfold Go.wpOp
  simp only [hi]
  rw [if_pos hw]
  exact .inl (h _ fun _ _ h => h)
theorem wpH.done {G : World → Prop} {listed : Array Bool} {a : Act} {w : World} (hl : listed.toList.all id = true) (hr : Region.ready md ops listed = []) (h : Q .normal a w) : wpH P md ops Q G 0 listed a w := by
  refine ⟨fun k _ => ?_, hr, h⟩
  rw [Array.getD_eq_getD_getElem?]
  cases hk : listed[k]? with
  | none => rfl
  | some b =>
    rw [List.all_eq_true] at hl
    have := hl b (by
      obtain ⟨hk', rfl⟩ := Array.getElem?_eq_some_iff.1 hk
      simp)
    simpa using this
theorem wp_regionH {id : Nat} (G : World → Prop) {a : Act} {w : World} {l : List Oper} (hm : P.follows .mixedOrders = true) {n : Nat} (hn : l.length = n)
    (h : wpH P .any l.toArray Q G n (Array.replicate n false) a w.drew) : (Code.region id l.toArray true).wp P Q a w := by
  refine wp_region_any hm ?_
  have : l.toArray.size = n := by simpa using hn
  rw [this]
  exact h.any
end
end Sc
