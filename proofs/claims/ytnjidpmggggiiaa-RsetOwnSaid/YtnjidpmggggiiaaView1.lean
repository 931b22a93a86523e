/- Package rset: what a View is; one read more; New, At, and what nothing answers. -/
import Derived.Test.YtnjidpmggggiiaaOut
import Derived.Test.YtnjidpmggggiiaaIval4
import Derived.Test.YtnjidpmggggiiaaSetSep
import Derived.Laws.IdiomCopy
namespace Go.Proofs
open Go.RowKit Sc

/-- What a Read's cells hold. -/
def readR (D : Nat → Prop) (w : World) (cs : List Value) (x : Sc.Read) : Prop := ∃ dv, cs = [.int .i64 x.lba, dv, .bool x.own] ∧ I64 x.lba ∧ BytesAt D w dv x.data
theorem readR_stable : RStable readR := fun D D' w w' cs x hd hs ⟨dv, h1, h2, h3⟩ => ⟨dv, h1, h2, (h3.same hs).mono hd⟩
def ViewP (v mp bp : Value) (at_ : Int) (sp : Value) (R : List Sc.Read) (F : Nat → Prop) (w : World) : Prop :=
  ∃ b rv D, v = .pointer (some ⟨b, 0, none⟩) ∧ F b ∧ w.heap[b]? = some (.cells #[mp, bp, .int .i64 at_, sp, rv] 98 (0, 0)) ∧ OutS 64 3 readR 0 w rv R D ∧ (∀ g, rv.ownBlock = some g → F g ∧ g ≠ b) ∧ (∀ q, D q → F q ∧ q ≠ b)
def ViewA (v mp bp : Value) (at_ : Int) (sp : Value) (R : List Sc.Read) : Asn := ⟨fun F w => ViewP v mp bp at_ sp R F w, fun F w w' hs hz ⟨b, rv, D, h1, h2, h3, h4, h5, h6⟩ =>
  ⟨b, rv, D, h1, h2, (hs b h2).trans h3, h4.same readR_stable hs hz (fun g hg => (h5 g hg).1) (fun q hq => (h6 q hq).1), h5, h6⟩⟩
/-- Bytes that are read. -/
def DatumA (v : Value) (d : Bytes) : Asn := ⟨fun F w => BytesAt F w v d, fun _ _ _ hs _ h => h.same hs⟩
theorem Sep.view_cells {W w : World} {L : List Asn} (h : Sep W L w) (i : Nat) {v mp bp sp : Value} {at_ : Int} {R : List Sc.Read} (hi : L[i]? = some (ViewA v mp bp at_ sp R)) :
    ∃ b rv, v = .pointer (some ⟨b, 0, none⟩) ∧ b < w.heap.size ∧ w.heap[b]? = some (.cells #[mp, bp, .int .i64 at_, sp, rv] 98 (0, 0)) ∧ (∃ p c, rv = .slice p R.length c) := by
  obtain ⟨F, ⟨b, rv, D, h1, h2, h3, h4, _⟩, hd⟩ := h.get i hi
  obtain ⟨css, _, _, h5, _⟩ := h4
  refine ⟨b, rv, h1, hd b h2, h3, ?_⟩
  obtain ⟨_, ⟨rfl, hl⟩ | ⟨g, cap, _, rfl, _⟩⟩ := h5
  · exact ⟨none, 0, by rw [hl]⟩
  · exact ⟨_, _, rfl⟩
/-- One read more: its data comes along. -/
theorem Sep.view_push {W w : World} {L : List Asn} (h : Sep W L w) (i j : Nat) (hij : i ≠ j) {b : Nat} {mp bp sp dv : Value} {at_ : Int} {R : List Sc.Read} {d : Bytes} (hi : L[i]? = some (ViewA (.pointer (some ⟨b, 0, none⟩)) mp bp at_ sp R)) (hj : L[j]? = some (DatumA dv d)) :
    ∃ (rv : Value) (css : List (List Value)), w.heap[b]? = some (.cells #[mp, bp, .int .i64 at_, sp, rv] 98 (0, 0)) ∧ b < w.heap.size ∧ w.ownsRow 0 64 3 rv R.length css.flatten ∧ rv.ownBlock ≠ some b ∧
      ∀ (w3 : World) (g c : Nat) (n : Int) (own : Bool), I64 n →
        w3.ownsRow 0 64 3 (.slice (some ⟨g, 0, none⟩) (R.length + 1) c) (R.length + 1) (css.flatten ++ [.int .i64 n, dv, .bool own]) → (w.alloc (.cells #[.int .i64 n, dv, .bool own] 64)).grownBy w3 rv.ownBlock → (rv.ownBlock = some g ∨ g = w.heap.size + 1) → g < w3.heap.size →
        Sep W ((L.set j TrueA).set i (ViewA (.pointer (some ⟨b, 0, none⟩)) mp bp at_ sp (R ++ [⟨n, d, own⟩]))) (w3.setCell ⟨b, 4, none⟩ (.slice (some ⟨g, 0, none⟩) (R.length + 1) c)) := by
  obtain ⟨F, F2, G, hA, hB, hF12, _, _, hdF, hdF2, _, K⟩ := h.both i j hij hi hj
  obtain ⟨b', rv, D, hv, hFb, hh, ⟨css, q1, q2, q3, q4, q5⟩, ho, hD⟩ := hA
  cases hv
  refine ⟨rv, css, hh, hdF b hFb, q3, fun e => (ho b e).2 rfl, fun w3 g c n own hn hown hg hat hlt => ?_⟩
  have hbl := hdF b hFb
  have hb1 := below_alloc w (.cells #[.int .i64 n, dv, .bool own] 64)
  have hsz : (w.alloc (.cells #[.int .i64 n, dv, .bool own] 64)).heap.size = w.heap.size + 1 := by simp
  have hsn : OutS 64 3 readR 0 w3 (.slice (some ⟨g, 0, none⟩) (R.length + 1) c) (R ++ [⟨n, d, own⟩]) (fun q => D q ∨ F2 q) := by
    refine OutS.snoc (v := rv) (w := w.alloc (.cells #[.int .i64 n, dv, .bool own] 64)) (D3 := F2) readR_stable q1 q2 ?_ ?_ (cs := [.int .i64 n, dv, .bool own]) (x := ⟨n, d, own⟩) rfl ⟨_, rfl, hn, BytesAt.up hB hb1⟩ ?_ hown hg (by rw [hsz]; exact hat)
    · exact fun a b c => readR_stable _ _ _ _ _ _ (fun _ h => h) (fun q hq => hb1.block q (q5 q hq).2.1) (q4 a b c)
    · exact fun q hq => ⟨Nat.zero_le _, by have := (q5 q hq).2.1; omega, (q5 q hq).2.2⟩
    · exact fun q hq => ⟨Nat.zero_le _, by have := hdF2 q hq; omega, fun e => hF12 q (ho q e).1 hq⟩
  have hgb : g ≠ b := by
    rcases hat with h | h
    · exact (ho g h).2
    · omega
  have hbo : rv.ownBlock ≠ some b := fun e => (ho b e).2 rfl
  have hh3 : w3.heap[b]? = some (.cells #[mp, bp, .int .i64 at_, sp, rv] 98 (0, 0)) := by
    rw [hg.block b (by rw [hsz]; omega) (fun e => hbo e.symm), hb1.block b hbl]; exact hh
  have hsame : Same (fun q => q ≠ b) w3 (w3.setCell ⟨b, 4, none⟩ (.slice (some ⟨g, 0, none⟩) (R.length + 1) c)) := fun q hq => Below.heap_setCell _ _ _ q hq
  have hz4 : (w3.setCell ⟨b, 4, none⟩ (.slice (some ⟨g, 0, none⟩) (R.length + 1) c)).heap.size = w3.heap.size := by simp [World.setCell]
  have hgz := hg.size
  refine K _ (fun q => (F q ∨ F2 q) ∨ New w (w3.setCell ⟨b, 4, none⟩ (.slice (some ⟨g, 0, none⟩) (R.length + 1) c)) q) (ViewA (.pointer (some ⟨b, 0, none⟩)) mp bp at_ sp (R ++ [⟨n, d, own⟩])) ?_ (fun q hq => hq) ?_
  · exact (Chg.after_up hb1 (chg_grown hg fun q hq => .inl (ho q hq).1)).trans (chg_set w3 b 4 _ (.inl hFb))
  · refine ⟨b, .slice (some ⟨g, 0, none⟩) (R.length + 1) c, fun q => D q ∨ F2 q, rfl, .inl (.inl hFb), by rw [heap_set_same hh3]; rfl, ?_, ?_, ?_⟩
    · have := hsn.same (F := fun q => q ≠ b) readR_stable hsame (by rw [hz4]; exact Nat.le_refl _) (fun q hq => by
        obtain rfl : g = q := by simpa [Value.ownBlock] using hq
        exact hgb) (fun q hq => by
        rcases hq with hq | hq
        · exact (hD q hq).2
        · exact fun e => hF12 b hFb (e ▸ hq))
      have hl : (R ++ [(⟨n, d, own⟩ : Sc.Read)]).length = R.length + 1 := by simp
      rw [← hl] at this ⊢
      exact this
    · intro q hq
      obtain rfl : g = q := by simpa [Value.ownBlock] using hq
      refine ⟨?_, hgb⟩
      rcases hat with h | h
      · exact .inl (.inl (ho g h).1)
      · exact .inr ⟨by omega, by rw [hz4]; exact hlt⟩
    · rintro q (hq | hq)
      · exact ⟨.inl (.inl (hD q hq).1), (hD q hq).2⟩
      · exact ⟨.inl (.inr hq), fun e => hF12 b hFb (e ▸ hq)⟩

theorem viewNew_sep {W w : World} {L : List Asn} (h : Sep W L w) (m b : Nat) (t : Int) :
    Calls Try.prog 20 #[.pointer (some ⟨m, 0, none⟩), .pointer (some ⟨b, 0, none⟩), .int .i64 t] w fun e w' => ∃ s v : Nat, e = .returned (.pointer (some ⟨v, 0, none⟩)) ∧ Hid (Below w.heap.size w w') ∧
      Hid (Sep W (L ++ [SetA (.pointer (some ⟨s, 0, none⟩)) 64 [], ViewA (.pointer (some ⟨v, 0, none⟩)) (.pointer (some ⟨m, 0, none⟩)) (.pointer (some ⟨b, 0, none⟩)) t (.pointer (some ⟨s, 0, none⟩)) []]) w') := by
  have H := Lib.hid h
  clear h
  go_enter Try.func20, Try.ntmps20
  go_wp2_with fail
  refine (setNew_any 64 w).mono ?_
  rintro e w1 ⟨s, rfl, hm, hb1⟩
  have hS1 := H.out.new hb1 (SetA _ 64 []) (fun _ h => h) hm
  have hS2 := hS1.new (below_alloc w1 (.cells #[.pointer (some ⟨m, 0, none⟩), .pointer (some ⟨b, 0, none⟩), .int .i64 t, .pointer (some ⟨s, 0, none⟩), .slice none 0 0] 98)) (ViewA (.pointer (some ⟨w1.heap.size, 0, none⟩)) (.pointer (some ⟨m, 0, none⟩)) (.pointer (some ⟨b, 0, none⟩)) t (.pointer (some ⟨s, 0, none⟩)) []) (F := New w1 (w1.alloc (.cells #[.pointer (some ⟨m, 0, none⟩), .pointer (some ⟨b, 0, none⟩), .int .i64 t, .pointer (some ⟨s, 0, none⟩), .slice none 0 0] 98))) (fun _ h => h)
    ⟨w1.heap.size, .slice none 0 0, fun _ => False, rfl, ⟨Nat.le_refl _, by simp⟩, heap_alloc_new w1 _, OutS.nil, by simp [Value.ownBlock], fun _ h => h.elim⟩
  have hbb := Below.up hb1 (below_alloc w1 (.cells #[.pointer (some ⟨m, 0, none⟩), .pointer (some ⟨b, 0, none⟩), .int .i64 t, .pointer (some ⟨s, 0, none⟩), .slice none 0 0] 98))
  have HS2 := Lib.hid hS2
  have HBB := Lib.hid hbb
  clear hS2 hbb
  clear hS1 hm hb1
  go_wp2
  go_ret
  refine ⟨s, w1.heap.size, rfl, HBB.out, ?_⟩
  have := HS2.out
  rw [List.append_assoc] at this
  exact this
theorem viewNew_nil (t : Int) (w : World) : Calls Try.prog 20 #[.pointer none, .pointer none, .int .i64 t] w fun e w' => e = .returned (.pointer none) ∧ w' = w := by
  go_enter Try.func20, Try.ntmps20
  go_wp2
  go_ret
  exact ⟨rfl, rfl⟩
theorem viewAt_nil (w : World) : Calls Try.prog 22 #[.pointer none] w fun e w' => e = .returned (.int .i64 0) ∧ w' = w := by
  go_enter Try.func22, Try.ntmps22
  go_wp2
  go_ret
  exact ⟨rfl, rfl⟩
theorem viewReads_nil (w : World) : Calls Try.prog 21 #[.pointer none] w fun e w' => e = .returned (.slice none 0 0) ∧ w' = w := by
  go_enter Try.func21, Try.ntmps21
  go_wp2
  go_ret
  exact ⟨rfl, rfl⟩
theorem viewSet_nil {W w : World} {L : List Asn} (h : Sep W L w) : Calls Try.prog 19 #[.pointer none] w fun e w' => ∃ s : Nat, e = .returned (.pointer (some ⟨s, 0, none⟩)) ∧ Hid (Below w.heap.size w w') ∧ Hid (Sep W (L ++ [SetA (.pointer (some ⟨s, 0, none⟩)) 64 []]) w') := by
  have H := Lib.hid h
  clear h
  go_enter Try.func19, Try.ntmps19
  go_wp2_with fail
  refine (setNew_any 64 w).mono ?_
  rintro e w1 ⟨s, rfl, hm, hb1⟩
  have hS1 := H.out.new hb1 (SetA _ 64 []) (fun _ h => h) hm
  have HS1 := Lib.hid hS1
  have HB1 := Lib.hid hb1
  clear hS1 hb1
  go_wp2
  go_ret
  exact ⟨s, rfl, HB1.out, HS1.out⟩
theorem viewRead_nil (e : Ext) (w : World) : Calls Try.prog 14 #[.pointer none, extV e] w fun r w' => r = .returned (.tuple #[.slice none 0 0, .int .i64 (if e.len < 1 ∨ 16 < e.len then 3 else 2)]) ∧ Below w.heap.size w w' := by
  have hb0 := below_alloc w (.cells #[.int .i64 e.first, .int .i64 e.len] 39)
  have HB0 := Lib.hid hb0
  clear hb0
  rcases (show e.len < 1 ∨ (1 ≤ e.len ∧ 16 < e.len) ∨ (1 ≤ e.len ∧ e.len ≤ 16) by omega) with h | ⟨h0, h⟩ | ⟨h0, h⟩
  · rw [if_pos (.inl h)]
    go_enter Try.func14, Try.ntmps14
    go_wp2_with fail
    go_step3
    go_wp2_with fail
    rw [Exit.noGoto_ret]
    go_ret2
    exact ⟨rfl, HB0.out⟩
  · rw [if_pos (.inr h)]
    go_enter Try.func14, Try.ntmps14
    go_wp2_with fail
    go_step3
    go_wp2_with fail
    rw [Exit.noGoto_ret]
    go_ret2
    exact ⟨rfl, HB0.out⟩
  · rw [if_neg (by omega)]
    go_enter Try.func14, Try.ntmps14
    go_wp2_with fail
    go_step3
    go_wp2_with fail
    rw [Exit.noGoto_ret]
    go_ret2
    exact ⟨rfl, HB0.out⟩
end Go.Proofs
