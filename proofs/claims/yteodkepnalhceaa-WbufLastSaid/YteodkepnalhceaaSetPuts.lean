/- Rows of bytes that are written block by block. Of no program. -/
import Derived.Test.YteodkepnalhceaaSep
import Derived.Test.YteodkepnalhceaaMaps
namespace Go.Proofs
open Go.RowKit Sc

theorem cell_set_drew {w : World} {g r b o : Nat} {v u : Value} (h : b ≠ g) (hc : w.cell? ⟨b, o, none⟩ = some u) : (w.setCell ⟨g, r, none⟩ v).drew.cell? ⟨b, o, none⟩ = some u := (cell_set_other (w := w) h).trans hc
def setPuts (ls : List Bytes) (l : List Put) : List Bytes := l.foldl (fun ls p => ls.set p.lba.toNat p.data) ls
theorem setPuts_length (l : List Put) : ∀ ls : List Bytes, (setPuts ls l).length = ls.length := by
  induction l with
  | nil => intro ls; rfl
  | cons p t ih => intro ls; show (setPuts (ls.set p.lba.toNat p.data) t).length = _; rw [ih, List.length_set]
theorem setPuts_other : ∀ (l : List Put) (ls : List Bytes) (j : Nat), (∀ p ∈ l, p.lba.toNat ≠ j) → (setPuts ls l).getD j [] = ls.getD j []
  | [], _, _, _ => rfl
  | p :: l, ls, j, h => by
    show (setPuts (ls.set p.lba.toNat p.data) l).getD j [] = _
    rw [setPuts_other l _ j (fun q hq => h q (by simp [hq]))]
    have : p.lba.toNat ≠ j := h p (by simp)
    simp [List.getD, List.getElem?_set_ne this]
theorem setPuts_mine : ∀ (l : List Put) (ls : List Bytes) (p : Put), (l.map (·.lba)).Nodup → (∀ q ∈ l, 0 ≤ q.lba ∧ q.lba < ls.length) → p ∈ l → (setPuts ls l).getD p.lba.toNat [] = p.data
  | q :: l, ls, p, hn, hr, hp => by
    simp only [List.map_cons, List.nodup_cons] at hn
    show (setPuts (ls.set q.lba.toNat q.data) l).getD p.lba.toNat [] = _
    rcases List.mem_cons.1 hp with rfl | hp
    · rw [setPuts_other l _ _ (fun x hx e => hn.1 (List.mem_map.2 ⟨x, hx, by have := hr p (by simp); have := hr x (by simp [hx]); omega⟩))]
      have := hr p (by simp)
      simp [List.getD, show p.lba.toNat < ls.length by omega]
    · exact setPuts_mine l _ p hn.2 (fun x hx => by rw [List.length_set]; exact hr x (by simp [hx])) hp
  | [], _, _, _, _, h => by cases h
theorem all2b_at {F : Nat → Prop} {w : World} {vs : List Value} {ls : List Bytes} (h : All2 (BytesAt F w) vs ls) (i : Nat) (hi : i < vs.length) : ∃ v, vs[i]? = some v ∧ BytesAt F w v (ls.getD i []) := by
  have hl := All2.length h
  refine ⟨vs[i], List.getElem?_eq_getElem hi, ?_⟩
  have := All2.get h i hi (by omega)
  simpa [List.getD, show i < ls.length by omega] using this
theorem all2b_set {F : Nat → Prop} {w : World} {a : Value} {b : Bytes} (h : BytesAt F w a b) : ∀ {l : List Value} {m : List Bytes} (i : Nat), All2 (BytesAt F w) l m → All2 (BytesAt F w) (l.set i a) (m.set i b)
  | [], [], _, _ => trivial
  | _ :: _, _ :: _, 0, ⟨_, h2⟩ => ⟨h, h2⟩
  | _ :: _, _ :: _, i + 1, ⟨h1, h2⟩ => ⟨h1, all2b_set h i h2⟩
  | [], _ :: _, _, h' => h'.elim
  | _ :: _, [], _, h' => h'.elim
theorem all2b_nils (F : Nat → Prop) (w : World) : ∀ n, All2 (BytesAt F w) (List.replicate n (.slice none 0 0)) (List.replicate n [])
  | 0 => trivial
  | n + 1 => ⟨SlAt.nil, all2b_nils F w n⟩
end Go.Proofs
