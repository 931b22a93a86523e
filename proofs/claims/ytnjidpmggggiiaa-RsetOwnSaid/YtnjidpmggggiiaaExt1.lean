/- Package extmap: New, gone, Blocks, block, Last, rise, at, Get. -/
import Derived.Test.YtnjidpmggggiiaaExt
import Derived.Deep.RegionHeld3
import Derived.Deep.LoopGhost
namespace Go.Proofs
open Go.RowKit Sc

/-- What the walks read of a Map. -/
theorem ExtIs.cells {F : Nat → Prop} {w : World} {v : Value} {blocks last : Int} {vs : Vers} (h : ExtIs F w v blocks last vs) :
    ∃ b r ml, v = .pointer (some ⟨b, 0, none⟩) ∧ b < w.heap.size ∧ w.cell? ⟨b, 0, none⟩ = some (.int .i64 blocks) ∧ w.cell? ⟨b, 1, none⟩ = some (.map (some r)) ∧ w.cell? ⟨b, 2, none⟩ = some (.int .i64 last) ∧ MapIs w r ml ∧
      AL (fun u l => PutsAt (Old w) w u l) ml vs := by
  obtain ⟨⟨b, r, ml, D, h1, h2, h3, h4, h5, h6, h7, h8⟩, hd⟩ := h
  exact ⟨b, r, ml, h1, hd b h2, by rw [cell_row h4]; rfl, by rw [cell_row h4]; rfl, by rw [cell_row h4]; rfl, h5, h6.imp fun _ _ ⟨a, _⟩ => a.puts fun _ _ h => h⟩

def ExtNew (n : Int) (w : World) (e : Ending) (w' : World) : Prop := ∃ v, e = .returned (.tuple #[v, .int .i64 0]) ∧ ExtIs (New w w') w' v n 0 [] ∧ Below w.heap.size w w'
set_option maxHeartbeats 400000 in
theorem extNew_any (n : Int) (w : World) (h1 : 1 ≤ n) (h2 : n ≤ 1048576) : Calls Try.prog 33 #[.int .i64 n] w (ExtNew n w) := by
  have hmm := @run_makeMap Try.prog
  go_enter Try.func33, Try.ntmps33
  go_wp2
  go_ret2
  have hm := MapIs.made w
  refine ⟨_, rfl, ⟨⟨w.heap.size + 1, w.heap.size, [], fun _ => False, by simp, by simp [New], by simp [New]; omega, heap_new (by simp), hm.same (G := (· < w.heap.size + 1)) (fun k hk => heap_old (by simpa using hk)) (by simp), trivial, by simp, fun _ h => h.elim⟩, fun k hk => hk.2⟩, ?_⟩
  exact ((Below.refl _ _).alloc (Nat.le_refl _) _).alloc (by simp) _

theorem extGone_any (F : Nat → Prop) (v : Value) (blocks last : Int) (vs : Vers) (w : World) (h : ExtIs F w v blocks last vs) (h1 : 1 ≤ blocks) : Calls Try.prog 49 #[v] w fun e w' => e = .returned (.bool false) ∧ w = w' := by
  obtain ⟨b, r, ml, rfl, hb, hc0, _, _, _, _⟩ := h.cells
  have h0 : (blocks == 0) = false := by rw [beq_eq_false_iff_ne]; omega
  go_enter Try.func49, Try.ntmps49
  go_wp2
  go_ret
  exact ⟨rfl, rfl⟩
theorem extBlocks_any (F : Nat → Prop) (v : Value) (blocks last : Int) (vs : Vers) (w : World) (h : ExtIs F w v blocks last vs) : Calls Try.prog 72 #[v] w fun e w' => e = .returned (.int .i64 blocks) ∧ w = w' := by
  obtain ⟨b, r, ml, rfl, hb, hc0, _, _, _, _⟩ := h.cells
  go_enter Try.func72, Try.ntmps72
  go_wp2
  go_ret
  exact ⟨rfl, rfl⟩
theorem extLast_any (F : Nat → Prop) (v : Value) (blocks last : Int) (vs : Vers) (w : World) (h : ExtIs F w v blocks last vs) : Calls Try.prog 36 #[v] w fun e w' => e = .returned (.int .i64 last) ∧ w = w' := by
  obtain ⟨b, r, ml, rfl, hb, _, _, hc2, _, _⟩ := h.cells
  go_enter Try.func36, Try.ntmps36
  go_wp2
  go_ret
  exact ⟨rfl, rfl⟩
theorem extBlock_any (F : Nat → Prop) (v : Value) (blocks last : Int) (vs : Vers) (lba : Int) (w : World) (h : ExtIs F w v blocks last vs) : Calls Try.prog 51 #[v, .int .i64 lba] w fun e w' => e = .returned (.bool (blk blocks lba)) ∧ w = w' := by
  have H := Lib.hid h
  obtain ⟨b, r, ml, rfl, _⟩ := h.cells
  clear h
  by_cases h1 : 0 ≤ lba
  · by_cases h2 : lba < blocks
    · have hb : blk blocks lba = true := by unfold blk; rw [decide_eq_true h1, decide_eq_true h2]; rfl
      have HB := Lib.hid hb
      clear hb
      go_enter Try.func51, Try.ntmps51
      go_wp2_with fail
      refine (extBlocks_any F _ _ _ _ _ H.out).mono ?_
      rintro e w1 ⟨rfl, rfl⟩
      go_wp2
      go_ret
      exact ⟨congrArg boolRet HB.out.symm, rfl⟩
    · have hb : blk blocks lba = false := by unfold blk; rw [decide_eq_false h2, Bool.and_false]
      have HB := Lib.hid hb
      clear hb
      go_enter Try.func51, Try.ntmps51
      go_wp2_with fail
      refine (extBlocks_any F _ _ _ _ _ H.out).mono ?_
      rintro e w1 ⟨rfl, rfl⟩
      go_wp2
      go_ret
      exact ⟨congrArg boolRet (by rw [HB.out]; simp; omega), rfl⟩
  · have hb : blk blocks lba = false := by unfold blk; rw [decide_eq_false h1, Bool.false_and]
    have h1' : lba < 0 := by omega
    have HB := Lib.hid hb
    clear hb
    clear h1
    go_enter Try.func51, Try.ntmps51
    go_wp2
    go_ret
    exact ⟨congrArg boolRet HB.out.symm, rfl⟩

/-- Do the LBAs rise? -/
def riseB (l : List Put) : Bool := decide (0 < l.length) && (List.range (l.length - 1)).all fun i => decide ((l.map (·.lba)).getD i 0 < (l.map (·.lba)).getD (i + 1) 0)
set_option maxHeartbeats 400000 in
theorem rise_any (G : Nat → Prop) (v : Value) (l : List Put) (w : World) (hG : Dom G w) (hv : PutsAt G w v l) : Calls Try.prog 50 #[v] w fun e w' => e = .returned (.bool (riseB l)) ∧ Below w.heap.size w w' := by
  obtain ⟨p, c, rfl, h1, h2, h3, h4⟩ := hv
  have hgd : ∀ i (h : i < l.length), (l.map (·.lba)).getD i 0 = l[i].lba := fun i h => by simp [List.getD, h]
  have hno : ∀ i, i + 1 < l.length → (l.map (·.lba)).getD (i + 1) 0 ≤ (l.map (·.lba)).getD i 0 → riseB l = false := by
    intro i hi hle
    unfold riseB
    rw [Bool.and_eq_false_iff]; right
    rw [List.all_eq_false]
    exact ⟨i, List.mem_range.2 (by omega), by simp; simpa using hle⟩
  have hyes : (∀ i, i + 1 < l.length → (l.map (·.lba)).getD i 0 < (l.map (·.lba)).getD (i + 1) 0) → riseB l = decide (0 < l.length) := by
    intro h
    unfold riseB
    have : ((List.range (l.length - 1)).all fun i => decide ((l.map (·.lba)).getD i 0 < (l.map (·.lba)).getD (i + 1) 0)) = true := by
      rw [List.all_eq_true]
      intro i hi
      exact decide_eq_true (h i (by have := List.mem_range.1 hi; omega))
    rw [this, Bool.and_true]
  have H4 := Lib.hid h4
  have HGD := Lib.hid hgd
  have HNO := Lib.hid hno
  have HYES := Lib.hid hyes
  clear h4 hgd hno hyes
  clear h3
  go_enter Try.func50, Try.ntmps50
  go_wp2
  go_loopw [3] (fun i wr => ∃ k : Nat, 1 ≤ k ∧ (k ≤ l.length ∨ k = 1) ∧ i = .int .i64 k ∧ Below w.heap.size w wr ∧ Hid (∀ i, i + 1 < k → i + 1 < l.length → (l.map (·.lba)).getD i 0 < (l.map (·.lba)).getD (i + 1) 0)) (fun i _ => l.length - (intOf i).toNat)
  case atStart => exact ⟨1, by omega, .inr rfl, rfl, Below.refl _ _, fun i hi => by omega⟩
  case round =>
    obtain ⟨k, hk1, hk2, rfl, hbw, HA⟩ := hrel
    by_cases hlt : k < l.length
    · obtain ⟨j, rfl⟩ : ∃ j, k = j + 1 := ⟨k - 1, by omega⟩
      obtain ⟨b, o, rfl, hb, hc1, _⟩ := H4.out (j + 1) hlt
      obtain ⟨_, _, hp, hb', hc0, _⟩ := H4.out j (by omega)
      cases hp
      have hc1' := (hbw.cell (p := ⟨b, o + (j + 1) * 2, none⟩) (hG b hb)).trans hc1
      have hc0' := (hbw.cell (p := ⟨b, o + j * 2, none⟩) (hG b hb)).trans hc0
      rw [← HGD.out (j + 1) hlt] at hc1'
      rw [← HGD.out j (by omega)] at hc0'
      have hno := HNO.out j hlt
      have ha := HA.out
      have hst : (l.map (·.lba)).getD j 0 < (l.map (·.lba)).getD (j + 1) 0 → ∀ i, i + 1 < j + 1 + 1 → i + 1 < l.length → (l.map (·.lba)).getD i 0 < (l.map (·.lba)).getD (i + 1) 0 := by
        intro h i hi hi'
        by_cases e : i = j
        · subst e; exact h
        · exact ha i (by omega) hi'
      generalize (l.map (·.lba)).getD j 0 = x at hc0' hno hst
      generalize (l.map (·.lba)).getD (j + 1) 0 = y at hc1' hno hst
      have hej : (((j + 1 : Nat) : Int) - 1) = (j : Int) := by omega
      have hw1 : IntKind.i64.wrap (((j + 1 : Nat) : Int) - 1) = (j : Int) := by rw [hej]; exact IntWalk.i64_in _ (by omega)
      have HNO := Lib.hid hno
      have HST := Lib.hid hst
      clear hno hst
      clear hc1 hc0 ha
      by_cases hle : y ≤ x
      · go_wp2
        go_quiet (fail)
        go_wp2
        go_ret
        exact ⟨congrArg boolRet (HNO.out hle).symm, below_drewN hbw _⟩
      · have hle2 : x < y := by omega
        clear hle
        go_wp2
        go_quiet (fail)
        go_wp2
        go_roundw
        case rel => exact ⟨j + 1 + 1, by omega, by omega, by go_num, below_drewN hbw _, HST.out hle2⟩
        case measure => simp [intOf]; omega
    · have hy := HYES.out (fun i hi => HA.out i (by omega) hi)
      have HY := Lib.hid hy
      clear hy
      go_wp2
      go_ret
      exact ⟨congrArg boolRet (by rw [HY.out]), hbw⟩

set_option maxRecDepth 100000 in
set_option maxHeartbeats 400000 in
theorem extAt_any (F : Nat → Prop) (v : Value) (blocks last : Int) (vs : Vers) (lba t : Int) (w : World) (h : ExtIs F w v blocks last vs) :
    Calls Try.prog 78 #[v, .int .i64 lba, .int .i64 t] w fun e w' => e = .returned (.int .i64 ((atN ((alook vs lba).getD []) t : Int) - 1)) ∧ w = w' := by
  obtain ⟨b, r, ml, rfl, hb, hc0, hc1, hc2, hm, ha⟩ := h.cells
  have hl := hm.lookup (P := Try.prog) Try.underlying106 Try.underlying3 (Try.zeroValue113 _) lba false
  have hval : ∃ u l, (alook ml lba).getD (.slice none 0 0) = u ∧ (alook vs lba).getD [] = l ∧ PutsAt (Old w) w u l := by
    rcases ha.look lba with ⟨h1, h2⟩ | ⟨u, l, h1, h2, h3⟩
    · exact ⟨_, _, by rw [h1]; rfl, by rw [h2]; rfl, SlAt.nil⟩
    · exact ⟨u, l, by rw [h1]; rfl, by rw [h2]; rfl, h3⟩
  obtain ⟨u, l, hu, hvl, hp⟩ := hval
  simp only [hu, Bool.false_eq_true, if_false] at hl
  rw [hvl]
  obtain ⟨p, c, rfl, h1, h2, h3, h4⟩ := hp
  have H4 := Lib.hid h4
  clear h4
  clear hm ha h3 hu hvl h
  go_enter Try.func78, Try.ntmps78
  go_wp2
  go_step3
  go_wp2
  go_step3
  go_wp2
  go_loopg [8] l.length (fun gg i wr => wr = w ∧ ∃ m : Nat, m ≤ l.length ∧ m ≤ gg ∧ i = .int .i64 ((m : Int) - 1) ∧ Hid (∀ j (h : j < l.length), m ≤ j → t < l[j].lba))
  case atStart => exact ⟨rfl, l.length, Nat.le_refl _, Nat.le_refl _, rfl, fun j hj hj' => by omega⟩
  case round =>
    obtain ⟨rfl, m, hm, hg, rfl, HA⟩ := hrel
    cases m with
    | zero =>
      have hat := atN_is (l := l) (t := t) (m := 0) (by omega) HA.out (.inl rfl)
      have HAT := Lib.hid hat
      clear hat
      go_wp2
      rw [Exit.noGoto_ret]
      go_ret
      rw [HAT.out]
      exact ⟨rfl, rfl⟩
    | succ j =>
      have hj : j < l.length := by omega
      obtain ⟨g, o, rfl, hg, hcg, _⟩ := H4.out j hj
      have hej : (((j + 1 : Nat) : Int) - 1) = (j : Int) := by omega
      have hat : l[j].lba ≤ t → atN l t = j + 1 := fun h => atN_is (l := l) (t := t) (m := j + 1) (by omega) HA.out (.inr ⟨by omega, h⟩)
      have ha := HA.out
      have hst : t < l[j].lba → ∀ i (h : i < l.length), j ≤ i → t < l[i].lba := by
        intro h i hi hji
        by_cases e : i = j
        · subst e; exact h
        · exact ha i hi (by omega)
      generalize l[j].lba = x at hcg hat hst
      have HAT := Lib.hid hat
      have HST := Lib.hid hst
      clear hat hst
      rw [hej]
      clear ha hej
      by_cases hle : x ≤ t
      · go_wp2
        rw [Exit.noGoto_ret]
        go_ret
        rw [HAT.out hle]
        exact ⟨by simp, rfl⟩
      · have hle2 : t < x := by omega
        clear hle
        go_wp2
        go_roundg j
        case measure => omega
        case rel => exact ⟨rfl, j, by omega, Nat.le_refl _, rfl, HST.out hle2⟩
end Go.Proofs
