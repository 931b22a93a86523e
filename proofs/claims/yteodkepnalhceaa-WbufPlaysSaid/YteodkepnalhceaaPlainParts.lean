/- Writes in parts and in whatever order, plain. -/
import Derived.Test.YteodkepnalhceaaLaw14
namespace Go.Proofs
open Go.RowKit Sc

theorem putsTo_other' : ∀ (l : List Put) (s : List (Int × Bytes)) (k : Int), (∀ p ∈ l, p.lba ≠ k) → alook (putsTo s l) k = alook s k
  | [], s, k, _ => rfl
  | p :: l, s, k, h => by
    show alook (putsTo (aset s p.lba p.data) l) k = _
    rw [putsTo_other' l _ k (fun q hq => h q (by simp [hq])), alook_aset, if_neg (fun e => h p (by simp) e.symm)]
theorem putsTo_mine' : ∀ (l : List Put) (s : List (Int × Bytes)) (p : Put), (l.map (·.lba)).Nodup → p ∈ l → alook (putsTo s l) p.lba = some p.data
  | q :: l, s, p, hn, hp => by
    simp only [List.map_cons, List.nodup_cons] at hn
    show alook (putsTo (aset s q.lba q.data) l) p.lba = _
    rcases List.mem_cons.1 hp with rfl | hp
    · rw [putsTo_other' l _ _ (fun x hx e => hn.1 (List.mem_map.2 ⟨x, hx, e⟩)), alook_aset, if_pos rfl]
    · exact putsTo_mine' l _ p hn.2 hp
  | [], _, _, _, h => by cases h
theorem keys_mem {s : List (Int × Bytes)} {k : Int} : k ∈ s.map (·.1) ↔ (alook s k).isSome = true := by
  constructor
  · intro h
    cases hq : alook s k with
    | some d => rfl
    | none =>
      obtain ⟨x, hx, he⟩ := List.mem_map.1 h
      exact absurd he (alook_none.1 hq x hx)
  · intro h
    obtain ⟨d, hd⟩ := Option.isSome_iff_exists.1 h
    exact List.mem_map.2 ⟨_, alook_in hd, rfl⟩
theorem bufPuts_same {s t : List (Int × Bytes)} (hs : (s.map (·.1)).Nodup) (ht : (t.map (·.1)).Nodup) (h : ∀ k, alook s k = alook t k) : bufPuts s = bufPuts t := by
  have hp : (s.map (·.1)).Perm (t.map (·.1)) := (List.perm_ext_iff_of_nodup hs ht).2 fun k => by rw [keys_mem, keys_mem, h]
  unfold bufPuts
  rw [keysUp_perm hp]
  exact List.map_congr_left fun k _ => by rw [h]
theorem putsTo_perm {l m : List Put} (hp : l.Perm m) (hn : (l.map (·.lba)).Nodup) (k : Int) : alook (putsTo [] l) k = alook (putsTo [] m) k := by
  have hn' : (m.map (·.lba)).Nodup := (hp.map _).nodup_iff.1 hn
  by_cases hk : ∃ p ∈ l, p.lba = k
  · obtain ⟨p, hpl, rfl⟩ := hk
    rw [putsTo_mine' l [] p hn hpl, putsTo_mine' m [] p hn' (hp.mem_iff.1 hpl)]
  · rw [putsTo_other' l [] k (fun p hpl e => hk ⟨p, hpl, e⟩), putsTo_other' m [] k (fun p hpl e => hk ⟨p, hp.mem_iff.2 hpl, e⟩)]
theorem putsTo_append (s : List (Int × Bytes)) (a b : List Put) : putsTo (putsTo s a) b = putsTo s (a ++ b) := by simp [putsTo]
theorem putsTo_le (s : List (Int × Bytes)) (l : List Put) : (putsTo s l).length ≤ s.length + l.length := by
  induction l generalizing s with
  | nil => simp [putsTo]
  | cons p l ih =>
    have := ih (aset s p.lba p.data)
    have h2 := aset_length s p.lba p.data
    show (putsTo (aset s p.lba p.data) l).length ≤ _
    simp only [List.length_cons]; omega
/-- A part of a vector that may be written may be written. -/
theorem bufCode_ok {blocks most : Int} {s : List (Int × Bytes)} {l : List Put} (h0 : l ≠ []) (h1 : ∀ p ∈ l, 0 ≤ p.lba ∧ p.lba < blocks) (h2 : ∀ p ∈ l, p.data.length = 40) (h3 : (l.map (·.lba)).Nodup) (h4 : ((s.length + l.length : Nat) : Int) ≤ most) : bufCode blocks most s l = 0 := by
  have hf : freshN s l ≤ l.length := by unfold freshN; exact List.length_filter_le _ _
  have a1 : l.any (outB blocks) = false := by
    rw [List.any_eq_false]
    intro p hp
    have := h1 p hp
    unfold outB
    simp only [Bool.or_eq_true, decide_eq_true_eq]; omega
  have a2 : l.any len40 = false := by
    rw [List.any_eq_false]
    intro p hp
    unfold len40
    simp [h2 p hp]
  unfold bufCode
  rw [if_neg h0, a1, if_neg (by decide), a2, if_neg (by decide), twiceB_no.2 h3, if_neg (by decide), if_neg (by omega)]
theorem keysUp_lt {m : List Int} (hn : m.Nodup) : (keysUp m).Pairwise (· < ·) := by
  have h1 : (keysUp m).Pairwise (fun a b => decide (a ≤ b) = true) := List.pairwise_mergeSort (fun a b c h1 h2 => by simp at *; omega) (fun a b => by simp; omega) m
  have h2 : (keysUp m).Nodup := (List.mergeSort_perm m _).nodup_iff.2 hn
  have h3 := h1.and h2
  exact h3.imp fun {a b} h => by
    have := of_decide_eq_true h.1
    have := h.2
    omega
theorem bufPuts_lt {s : List (Int × Bytes)} (hn : (s.map (·.1)).Nodup) {i : Nat} (h : i + 1 < (bufPuts s).length) : ((bufPuts s)[i]'(by omega)).lba < (bufPuts s)[i + 1].lba := by
  have h1 := keysUp_lt hn
  rw [List.pairwise_iff_getElem] at h1
  unfold bufPuts at h ⊢
  rw [List.length_map] at h
  rw [List.getElem_map, List.getElem_map]
  exact h1 i (i + 1) (by omega) (by omega) (by omega)
/-- All that a law of parts asks of a vector that was written at once. -/
theorem parts_codes {l : List Put} (hc : bufCode 50 16 [] l = 0) : (∀ k, 0 < k → k ≤ l.length → bufCode 50 16 [] (l.take k) = 0) ∧ (∀ k, k < l.length → bufCode 50 16 (putsTo [] (l.take k)) (l.drop k) = 0) ∧
    (∀ j (hj : j < l.length), bufCode 50 16 (putsTo [] (l.drop (j + 1)).reverse) [l[j]] = 0 ∧ putsTo (putsTo [] (l.drop (j + 1)).reverse) [l[j]] = putsTo [] (l.drop j).reverse) ∧ l.length ≤ 16 ∧ (putsTo [] l).length = l.length := by
  obtain ⟨h0, h1, h2, h3, h4⟩ := bufCode_zero hc
  have hf : freshN [] l = l.length := by unfold freshN; congr 1; exact List.filter_eq_self.2 fun _ _ => rfl
  rw [hf] at h4
  have h16 : l.length ≤ 16 := by simp at h4; omega
  refine ⟨fun k hk hkl => ?_, fun k hk => ?_, fun j hj => ⟨?_, ?_⟩, h16, by rw [putsTo_len l [] h3, hf]; simp⟩
  · refine bufCode_ok (fun e => ?_) (fun p hp => h1 p (List.mem_of_mem_take hp)) (fun p hp => h2 p (List.mem_of_mem_take hp)) (h3.sublist ((List.take_sublist _ _).map _)) (by rw [List.length_take]; simp; omega)
    have := congrArg List.length e
    rw [List.length_take, List.length_nil] at this; omega
  · have hle := putsTo_le [] (l.take k)
    rw [List.length_take] at hle
    refine bufCode_ok (fun e => ?_) (fun p hp => h1 p (List.mem_of_mem_drop hp)) (fun p hp => h2 p (List.mem_of_mem_drop hp)) (h3.sublist ((List.drop_sublist _ _).map _)) (by rw [List.length_drop]; simp at hle; omega)
    have := congrArg List.length e
    rw [List.length_drop, List.length_nil] at this; omega
  · have hle := putsTo_le [] (l.drop (j + 1)).reverse
    rw [List.length_reverse, List.length_drop] at hle
    refine bufCode_ok (by simp) (fun p hp => h1 p ?_) (fun p hp => h2 p ?_) (by simp) (by simp at hle ⊢; omega)
    · rw [List.mem_singleton] at hp; rw [hp]; exact List.getElem_mem hj
    · rw [List.mem_singleton] at hp; rw [hp]; exact List.getElem_mem hj
  · rw [putsTo_append, List.drop_eq_getElem_cons hj, List.reverse_cons]
end Go.Proofs
