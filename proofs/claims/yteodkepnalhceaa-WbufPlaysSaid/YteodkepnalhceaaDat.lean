/- Rows of bytes, told by their values. Of no program. -/
import Derived.Test.YteodkepnalhceaaSep
import Derived.Test.YteodkepnalhceaaMaps
namespace Sc
open Go Go.RowKit
/-- Rows of bytes, each told by its value. -/
def DatA (vals : List Value) (ls : List Bytes) : Asn := ⟨fun F w => All2 (BytesAt F w) vals ls, fun _ _ _ hs _ h => h.imp fun _ _ hb => hb.same hs⟩
theorem all2_snoc {α β : Type} {R : α → β → Prop} {a : α} {b : β} (h : R a b) : ∀ {l : List α} {m : List β}, All2 R l m → All2 R (l ++ [a]) (m ++ [b])
  | [], [], _ => ⟨h, trivial⟩
  | _ :: _, _ :: _, ⟨h1, h2⟩ => ⟨h1, all2_snoc h h2⟩
  | [], _ :: _, h' => h'.elim
  | _ :: _, [], h' => h'.elim
theorem Sep.dat_new {W w w' : World} {L : List Asn} (h : Sep W L w) (i : Nat) {vals : List Value} {ls : List Bytes} (hi : L[i]? = some (DatA vals ls)) (hb : Below w.heap.size w w') {v : Value} {b : Bytes} (hv : BytesAt (New w w') w' v b) :
    Sep W (L.set i (DatA (vals ++ [v]) (ls ++ [b]))) w' := by
  obtain ⟨F, G, hF, hR, hFG, hdF, hdG, K⟩ := h.at i hi
  refine K w' (fun k => F k ∨ New w w' k) _ (Chg.of_below hb fun k h1 h2 => by omega) (fun k hk => hk) ?_
  exact all2_snoc (hv.mono fun _ h => .inr h) (All2.imp (fun _ _ (h : BytesAt F w _ _) => (h.up hb).mono fun _ h => .inl h) hF)
/-- A row of one's own lies behind what was there. -/
theorem Sep.row_mine {W w : World} {L : List Asn} (h : Sep W (OldA W :: L) w) (i : Nat) (hi : i ≠ 0) {T k n : Nat} {v : Value} {xs : List Value} (hL : (OldA W :: L)[i]? = some (RowA T k v n xs)) : w.ownsRow W.heap.size T k v n xs := by
  obtain ⟨hg, Fs, h1, h2, h3⟩ := h
  have a := h3 i _ hL
  have o := h3 0 (OldA W) rfl
  obtain ⟨hx, hc | ⟨g, cap, cur, rfl, hb, hq⟩⟩ := a.1
  · exact ⟨hx, .inl hc⟩
  · refine ⟨hx, .inr ⟨g, cap, cur, rfl, ?_, hq⟩⟩
    have hFg := a.2 g rfl
    by_cases hlt : g < W.heap.size
    · exact absurd (o.1 g hlt) (h2 i 0 g hi hFg)
    · omega
/-- A thing that came later lies in new memory. -/
theorem Sep.get_new {W w : World} {L : List Asn} (h : Sep W (OldA W :: L) w) (i : Nat) (hi : i ≠ 0) {A : Asn} (hL : (OldA W :: L)[i]? = some A) : ∃ F, A.P F w ∧ ∀ k, F k → New W w k := by
  obtain ⟨hg, Fs, h1, h2, h3⟩ := h
  have o := h3 0 (OldA W) rfl
  refine ⟨Fs i, h3 i A hL, fun k hk => ⟨?_, h1 i k hk⟩⟩
  by_cases hlt : k < W.heap.size
  · exact absurd (o.1 k hlt) (h2 i 0 k hi hk)
  · omega
end Sc
