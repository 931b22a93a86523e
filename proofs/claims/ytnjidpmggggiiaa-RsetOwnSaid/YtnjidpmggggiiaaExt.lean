/- Package extmap: what a Map holds in memory. -/
import Derived.Test.YtnjidpmggggiiaaClone
import Derived.Test.YtnjidpmggggiiaaFind
import Derived.Test.YtnjidpmggggiiaaMaps
import Derived.Test.YtnjidpmggggiiaaRange
import Derived.Test.YtnjidpmggggiiaaOut
import Derived.Test.YtnjidpmggggiiaaSep
namespace Go.Proofs
open Go.RowKit Sc

/-- Versions of a block are kept as Puts, whose LBA is the time. -/
abbrev Vers := List (Int × List Put)

/-- A Map, in the blocks F. -/
structure ExtIs (F : Nat → Prop) (w : World) (v : Value) (blocks last : Int) (vs : Vers) : Prop where
  out : ∃ b r ml D, v = .pointer (some ⟨b, 0, none⟩) ∧ F b ∧ F r ∧ w.heap[b]? = some (.cells #[.int .i64 blocks, .map (some r), .int .i64 last] 108 (0, 0)) ∧ MapIs w r ml ∧
    AL (fun u l => OutS 115 2 putR 0 w u l D ∧ ∀ g, u.ownBlock = some g → F g ∧ g ≠ b ∧ g ≠ r) ml vs ∧
    (∀ x ∈ ml, ∀ y ∈ ml, x.1 ≠ y.1 → ∀ g, x.2.ownBlock = some g → y.2.ownBlock ≠ some g) ∧ (∀ k, D k → F k ∧ k ≠ b ∧ k ≠ r)
  dom : Dom F w
theorem ExtIs.same {F : Nat → Prop} {w w' : World} {v : Value} {blocks last : Int} {vs : Vers} (h : ExtIs F w v blocks last vs) (hs : Same F w w') (hz : w.heap.size ≤ w'.heap.size) : ExtIs F w' v blocks last vs := by
  obtain ⟨⟨b, r, ml, D, h1, h2, h3, h4, h5, h6, h7, h8⟩, hd⟩ := h
  exact ⟨⟨b, r, ml, D, h1, h2, h3, by rw [hs b h2]; exact h4, h5.same hs h3, h6.imp fun _ _ ⟨a, c⟩ => ⟨a.same putR_stable hs hz (fun g hg => (c g hg).1) (fun k hk => (h8 k hk).1), c⟩, h7, h8⟩, hd.of_size hz⟩
theorem ExtIs.up {F : Nat → Prop} {w w' : World} {v : Value} {blocks last : Int} {vs : Vers} (h : ExtIs F w v blocks last vs) (hb : Below w.heap.size w w') : ExtIs F w' v blocks last vs := h.same (h.dom.same hb) hb.size
def ExtA (v : Value) (blocks last : Int) (vs : Vers) : Asn := ⟨fun F w => ExtIs F w v blocks last vs, fun _ _ _ hs hz h => h.same hs hz⟩
theorem ExtIs.nodup {F : Nat → Prop} {w : World} {v : Value} {blocks last : Int} {vs : Vers} (h : ExtIs F w v blocks last vs) : (vs.map (·.1)).Nodup := by
  obtain ⟨⟨b, r, ml, D, h1, h2, h3, h4, h5, h6, h7, h8⟩, hd⟩ := h
  obtain ⟨_, _, _, _, hn, _⟩ := h5
  rw [← AL.keys h6]; exact hn

/-- How many of the versions, the eldest, there are up to the last one that is not above a time. -/
def atN : List Put → Int → Nat
  | [], _ => 0
  | p :: l, t => if 0 < atN l t then atN l t + 1 else if p.lba ≤ t then 1 else 0
theorem atN_le : ∀ (l : List Put) (t : Int), atN l t ≤ l.length
  | [], _ => Nat.le_refl _
  | p :: l, t => by
    have := atN_le l t
    simp only [atN, List.length_cons]
    split
    · omega
    · split <;> omega
theorem atN_above : ∀ (l : List Put) (t : Int) (j : Nat) (h : j < l.length), atN l t ≤ j → t < l[j].lba
  | [], _, _, h, _ => absurd h (by simp)
  | p :: l, t, 0, h, hj => by
    simp only [atN] at hj
    split at hj
    · omega
    · split at hj
      · omega
      · simp only [List.getElem_cons_zero]; omega
  | p :: l, t, j + 1, h, hj => by
    simp only [List.getElem_cons_succ]
    refine atN_above l t j (by simpa using h) ?_
    simp only [atN] at hj
    split at hj
    · omega
    · omega
theorem atN_at : ∀ (l : List Put) (t : Int), 0 < atN l t → ∃ h : atN l t - 1 < l.length, l[atN l t - 1].lba ≤ t
  | [], _, h => absurd h (by simp [atN])
  | p :: l, t, h => by
    simp only [atN] at h ⊢
    by_cases h0 : 0 < atN l t
    · obtain ⟨h1, h2⟩ := atN_at l t h0
      simp only [if_pos h0]
      refine ⟨by simp only [List.length_cons]; omega, ?_⟩
      have e : atN l t + 1 - 1 = (atN l t - 1) + 1 := by omega
      simp only [e, List.getElem_cons_succ]
      exact h2
    · simp only [if_neg h0] at h ⊢
      by_cases h1 : p.lba ≤ t
      · simp only [if_pos h1]
        exact ⟨by simp, by simpa using h1⟩
      · simp only [if_neg h1] at h; omega
theorem atN_is {l : List Put} {t : Int} {m : Nat} (hm : m ≤ l.length) (ha : ∀ j (h : j < l.length), m ≤ j → t < l[j].lba) (hb : m = 0 ∨ ∃ h : m - 1 < l.length, l[m - 1].lba ≤ t) : atN l t = m := by
  have h1 := atN_le l t
  rcases Nat.lt_trichotomy (atN l t) m with h | h | h
  · rcases hb with rfl | ⟨h2, hb⟩
    · omega
    · have := atN_above l t (m - 1) h2 (by omega); omega
  · exact h
  · obtain ⟨h2, h3⟩ := atN_at l t (by omega)
    have := ha _ h2 (by omega); omega
end Go.Proofs
