/- Cuts of slices that read as lists. Of no program. -/
import Derived.Test.YtnjidpmggggiiaaCuts
namespace Sc
open Go Go.RowKit
section
variable {P : Program} {t e : TypeId} {k : Nat} {i0 : TypeInfo} {α : Type} {E : Elem α} {G : Nat → Prop}
theorem sl_from (hu : P.underlying t = some (.slice (P.elem t))) (he : P.elem t = e) (hk : P.cellsOf e = k) (hi : P.info? e = some i0) {w : World} {p : Option Addr} {c : Nat} {l : List α} (h : SlAt G k E w (.slice p l.length c) l) (j : Nat) (hj : j ≤ l.length) :
    ∃ p', (∀ W, (Instr.slice t (.slice p l.length c) (some (.int .i64 (j : Int))) none none).run P W = .ok (.slice p' (l.length - j) (c - j)) W) ∧ ∀ w', SlAt G k E w' (.slice p l.length c) l → SlAt G k E w' (.slice p' (l.length - j) (c - j)) (l.drop j) := by
  obtain ⟨p0, c0, he0, h1, h2, h3, h4⟩ := h
  cases he0
  refine ⟨if c = j then p else p.map fun a => a.add (j * k), fun W => ?_, fun w' hw' => ?_⟩
  · rw [run_slice_l (P := P) (w := W) t _ l.length c hu .i64 (j : Int) (by omega) (by omega), he, run_sizeOf (P := P) W hi]
    simp only [Result.andThen, sliced, Int.toNat_natCast, hk]
  · obtain ⟨p0, c0, he0, g1, g2, g3, g4⟩ := hw'
    cases he0
    have hln : l.length - j = (l.drop j).length := by rw [List.length_drop]
    refine ⟨_, c - j, by rw [hln], by rw [List.length_drop]; omega, by omega, fun hn => ?_, fun i hi => ?_⟩
    · split at hn
      · omega
      · cases p with
        | none => have := g3 rfl; omega
        | some a => cases hn
    · rw [List.length_drop] at hi
      obtain ⟨b, o, rfl, hb, hx⟩ := g4 (j + i) (by omega)
      rw [if_neg (by omega)]
      refine ⟨b, o + j * k, by simp [addr_plus], hb, ?_⟩
      rw [List.getElem_drop, show o + j * k + i * k = o + (j + i) * k by rw [Nat.add_mul]; omega]
      exact hx
theorem sl_to (hu : P.underlying t = some (.slice (P.elem t))) (he : P.elem t = e) (hi : P.info? e = some i0) {w : World} {p : Option Addr} {c : Nat} {l : List α} (h : SlAt G k E w (.slice p l.length c) l) (j : Nat) (hj : j ≤ l.length) :
    (∀ W, (Instr.slice t (.slice p l.length c) none (some (.int .i64 (j : Int))) none).run P W = .ok (.slice p j c) W) ∧ ∀ w', SlAt G k E w' (.slice p l.length c) l → SlAt G k E w' (.slice p j c) (l.take j) := by
  obtain ⟨p0, c0, he0, h1, h2, h3, h4⟩ := h
  cases he0
  refine ⟨fun W => ?_, fun w' hw' => ?_⟩
  · rw [run_slice_h (P := P) (w := W) t _ l.length c hu .i64 (j : Int) (by omega) (by omega), he, run_sizeOf (P := P) W hi]
    cases p with
    | none => simp only [Result.andThen, sliced, Option.map_none, Nat.sub_zero, Int.toNat_natCast, ite_self]
    | some a =>
      obtain ⟨b, o, q⟩ := a
      have : ((⟨b, o, q⟩ : Addr).add 0) = ⟨b, o, q⟩ := by unfold Addr.add; split <;> simp_all
      simp only [Result.andThen, sliced, Option.map_some, Nat.zero_mul, this, Nat.sub_zero, Int.toNat_natCast, ite_self]
  · obtain ⟨p0, c0, he0, g1, g2, g3, g4⟩ := hw'
    cases he0
    have hln : j = (l.take j).length := by rw [List.length_take]; omega
    refine ⟨p, c, by rw [← hln], by omega, g2, g3, fun i hi => ?_⟩
    rw [List.length_take] at hi
    obtain ⟨b, o, rfl, hb, hx⟩ := g4 i (by omega)
    exact ⟨b, o, rfl, hb, by rw [List.getElem_take]; exact hx⟩
end
end Sc
