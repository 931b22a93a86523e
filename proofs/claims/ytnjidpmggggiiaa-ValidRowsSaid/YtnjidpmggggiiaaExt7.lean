/- Package extmap: Versions, Used. -/
import Derived.Test.YtnjidpmggggiiaaExt1
namespace Go.Proofs
open Go.RowKit Sc

def vlen : Value → Nat
  | .slice _ n _ => n
  | _ => 0
def nVers (vs : Vers) : Nat := (vs.map fun x => x.2.length).sum
def vsum (m : List (Int × Value)) : Nat := (m.map fun x => vlen x.2).sum
theorem al_sum {R : Value → List Put → Prop} (hR : ∀ u l, R u l → vlen u = l.length) : ∀ {m : List (Int × Value)} {vs : Vers}, AL R m vs → vsum m = nVers vs
  | [], [], _ => rfl
  | (_, u) :: m, (_, l) :: vs, h => by
    obtain ⟨⟨_, h2⟩, h3⟩ := h
    have := al_sum hR h3
    unfold vsum nVers at *
    simp only [List.map_cons, List.sum_cons]
    rw [this, hR u l h2]
  | [], _ :: _, h => h.elim
  | _ :: _, [], h => h.elim
theorem al_len {R : Value → List Put → Prop} : ∀ {m : List (Int × Value)} {vs : Vers}, AL R m vs → m.length = vs.length
  | [], [], _ => rfl
  | _ :: m, _ :: vs, h => by
    obtain ⟨_, h3⟩ := h
    have := al_len (R := R) h3
    simp [this]
  | [], _ :: _, h => h.elim
  | _ :: _, [], h => h.elim

theorem vsum_perm {a b : List (Int × Value)} (h : a.Perm b) : vsum a = vsum b := by
  unfold vsum
  exact (h.map fun x => vlen x.2).sum_nat
end Go.Proofs
