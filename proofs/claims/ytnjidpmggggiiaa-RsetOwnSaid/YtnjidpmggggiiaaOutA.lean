/- A list of Puts that is being built, side by side with other things. Of no program. -/
import Derived.Test.YtnjidpmggggiiaaOut
import Derived.Test.YtnjidpmggggiiaaDat
namespace Sc
open Go Go.RowKit

def OutPA (T : TypeId) (v : Value) (l : List Put) : Asn := ⟨fun F w => ∃ D, OutS T 2 putR 0 w v l D ∧ (∀ g, v.ownBlock = some g → F g) ∧ (∀ b, D b → F b), fun _ _ _ hs hz ⟨D, h1, h2, h3⟩ => ⟨D, h1.same putR_stable hs hz h2 h3, h2, h3⟩⟩
theorem ownsRow_up {w w' : World} {B T k n : Nat} {v : Value} {xs : List Value} (h : w.ownsRow B T k v n xs) (hb : Below w.heap.size w w') : w'.ownsRow B T k v n xs :=
  row_same (F := fun q => q < w.heap.size) (fun q hq => hb.block q hq) h (fun g hg => (h.lt g hg).2)
theorem Sep.outP_new {W w : World} {L : List Asn} (h : Sep W L w) (T : TypeId) : Sep W (L ++ [OutPA T (.slice none 0 0) []]) w :=
  h.new (Below.refl _ _) (OutPA T (.slice none 0 0) []) (F := fun _ => False) (fun _ h => h.elim) ⟨fun _ => False, OutS.nil, by simp [Value.ownBlock], fun _ h => h⟩
theorem Sep.outP_step {W w : World} {L : List Asn} (h : Sep W L w) (i : Nat) {T : TypeId} {v : Value} {l : List Put} (hi : L[i]? = some (OutPA T v l)) :
    ∃ (css : List (List Value)) (D : Nat → Prop), w.ownsRow 0 T 2 v l.length css.flatten ∧
      (∀ j (hj : j < l.length), ∃ dv, css.flatten[j * 2]? = some (.int .i64 l[j].lba) ∧ css.flatten[j * 2 + 1]? = some dv ∧ I64 l[j].lba ∧ BytesAt D w dv l[j].data) ∧
      ∀ (w2 w' : World) (g c : Nat) (n : Int) (dv : Value) (d : Bytes), Below w.heap.size w w2 → I64 n → BytesAt (fun q => D q ∨ New w w2 q) w2 dv d →
        w'.ownsRow 0 T 2 (.slice (some ⟨g, 0, none⟩) (l.length + 1) c) (l.length + 1) (css.flatten ++ [.int .i64 n, dv]) → (w2.alloc (.cells #[.int .i64 n, dv] T)).grownBy w' v.ownBlock → (v.ownBlock = some g ∨ g = w2.heap.size + 1) → g < w'.heap.size →
        Sep W (L.set i (OutPA T (.slice (some ⟨g, 0, none⟩) (l.length + 1) c) (l ++ [⟨n, d⟩]))) w' := by
  obtain ⟨F, G, ⟨D, ⟨css, q1, q2, q3, q4, q5⟩, hv, hD⟩, hR, hFG, hdF, hdG, K⟩ := h.at i hi
  refine ⟨css, D, q3, fun j hj => ?_, fun w2 w' g c n dv d hb hn hd hown hg hat hlt => ?_⟩
  · have hjc : j < css.length := by omega
    obtain ⟨dv, e1, e2, e3⟩ := q4 j hjc hj
    refine ⟨dv, ?_, ?_, e2, e3⟩
    · have := flat_get q2 j hjc 0 (by omega)
      rw [Nat.add_zero] at this
      rw [this, e1]; rfl
    · rw [flat_get q2 j hjc 1 (by omega), e1]; rfl
  · have hz := hb.size
    have hb2 : Below w.heap.size w (w2.alloc (.cells #[.int .i64 n, dv] T)) := Below.up hb (below_alloc w2 _)
    have hsz : (w2.alloc (.cells #[.int .i64 n, dv] T)).heap.size = w2.heap.size + 1 := by simp
    have hvl : ∀ q, v.ownBlock = some q → q < w.heap.size := fun q hq => hdF q (hv q hq)
    have hsn : OutS T 2 putR 0 w' (.slice (some ⟨g, 0, none⟩) (l.length + 1) c) (l ++ [⟨n, d⟩]) (fun q => D q ∨ (D q ∨ New w w2 q)) := by
      refine OutS.snoc (v := v) (w := w2.alloc (.cells #[.int .i64 n, dv] T)) (D3 := fun q => D q ∨ New w w2 q) putR_stable q1 q2 ?_ ?_ (cs := [.int .i64 n, dv]) (x := ⟨n, d⟩) rfl ⟨_, rfl, hn, BytesAt.up hd (below_alloc _ _)⟩ ?_ hown hg (by rw [hsz]; exact hat)
      · exact fun a b c => putR_stable _ _ _ _ _ _ (fun _ h => h) (fun q hq => hb2.block q (q5 q hq).2.1) (q4 a b c)
      · exact fun q hq => ⟨Nat.zero_le _, by have := (q5 q hq).2.1; omega, (q5 q hq).2.2⟩
      · rintro q (hq | hq)
        · exact ⟨Nat.zero_le _, by have := (q5 q hq).2.1; omega, (q5 q hq).2.2⟩
        · exact ⟨Nat.zero_le _, by have := hq.2; omega, fun e => by have := hvl q e; have := hq.1; omega⟩
    have hgz := hg.size
    refine K w' (fun q => F q ∨ New w w' q) (OutPA T (.slice (some ⟨g, 0, none⟩) (l.length + 1) c) (l ++ [⟨n, d⟩])) (Chg.after_up hb2 (chg_grown hg fun q hq => hv q hq)) (fun q hq => hq) ⟨_, hsn, ?_, ?_⟩
    · intro q hq
      have : g = q := by simpa [Value.ownBlock] using hq
      subst this
      rcases hat with h | h
      · exact .inl (hv g h)
      · exact .inr ⟨by omega, hlt⟩
    · rintro q (hq | hq | hq)
      · exact .inl (hD q hq)
      · exact .inl (hD q hq)
      · exact .inr ⟨hq.1, by have := hq.2; omega⟩
theorem outPA_puts {T : TypeId} {v : Value} {l : List Put} {F : Nat → Prop} {w : World} (h : (OutPA T v l).P F w) : PutsAt F w v l := by
  obtain ⟨D, ⟨css, a1, a2, a3, a4, _⟩, h2, h3⟩ := h
  have hrow := a3
  obtain ⟨hx, hc | ⟨g, cap, cur, rfl, hb, hg, hnc, hcm, hcs, htake⟩⟩ := a3
  · obtain ⟨rfl, hl0⟩ := hc
    obtain rfl : l = [] := List.length_eq_zero_iff.1 hl0
    exact SlAt.nil
  · refine ⟨_, cap, rfl, hnc, by unfold maxLen at hcm; omega, (by intro hh; cases hh), fun i hi => ⟨g, 0, rfl, h2 g rfl, ?_⟩⟩
    have hi' : i < css.length := by omega
    obtain ⟨dv, e1, e2, e3⟩ := a4 i hi' hi
    have f0 := flat_get a2 i hi' 0 (by omega)
    have f1 := flat_get a2 i hi' 1 (by omega)
    rw [e1] at f0 f1
    rw [Nat.add_zero] at f0
    refine ⟨?_, e2, dv, ?_, BytesAt.mono e3 h3⟩
    · rw [Nat.zero_add, hrow.cellAt (i * 2) (by omega), f0]; rfl
    · rw [Nat.zero_add, hrow.cellAt (i * 2 + 1) (by omega), f1]; rfl
end Sc
