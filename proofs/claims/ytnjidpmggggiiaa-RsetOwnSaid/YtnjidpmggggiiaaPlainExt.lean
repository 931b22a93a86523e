/- What a Map holds, plain: what an Apply does to it, and to what is read. -/
import Derived.Test.YtnjidpmggggiiaaExt4
namespace Go.Proofs
open Go.RowKit Sc

theorem atN_snoc (l : List Put) (p : Put) (t : Int) : atN (l ++ [p]) t = if p.lba ≤ t then l.length + 1 else atN l t := by
  split
  · rename_i h
    refine atN_is (by simp) (fun j hj hj' => ?_) (.inr ⟨by simp, ?_⟩)
    · simp at hj; omega
    · simpa using h
  · rename_i h
    refine atN_is (by have := atN_le l t; simp; omega) (fun j hj hj' => ?_) ?_
    · by_cases e : j < l.length
      · rw [List.getElem_append_left e]; exact atN_above l t j e hj'
      · have : j = l.length := by simp at hj; omega
        subst this
        simp; omega
    · by_cases h0 : atN l t = 0
      · exact .inl h0
      · obtain ⟨h1, h2⟩ := atN_at l t (by omega)
        refine .inr ⟨by simp; omega, ?_⟩
        rw [List.getElem_append_left h1]; exact h2
theorem getV_eq (vs : Vers) (k t : Int) : getV vs k t = match ((alook vs k).getD [])[atN ((alook vs k).getD []) t - 1]? with
  | some p => if atN ((alook vs k).getD []) t = 0 then (zeroB, 0) else (p.data, p.lba)
  | none => (zeroB, 0) := rfl
theorem getV_of {vs : Vers} {k t : Int} {l : List Put} (h : (alook vs k).getD [] = l) : getV vs k t = match l[atN l t - 1]? with
  | some p => if atN l t = 0 then (zeroB, 0) else (p.data, p.lba)
  | none => (zeroB, 0) := by rw [getV_eq, h]
theorem getV_snoc_le {vs vs' : Vers} {k t : Int} {l : List Put} {p : Put} (h' : (alook vs' k).getD [] = l ++ [p]) (ht : p.lba ≤ t) : getV vs' k t = (p.data, p.lba) := by
  rw [getV_of h', atN_snoc, if_pos ht]
  simp
theorem getV_snoc_gt {vs vs' : Vers} {k t : Int} {l : List Put} {p : Put} (h : (alook vs k).getD [] = l) (h' : (alook vs' k).getD [] = l ++ [p]) (ht : t < p.lba) : getV vs' k t = getV vs k t := by
  rw [getV_of h', getV_of h, atN_snoc, if_neg (by omega)]
  have hle := atN_le l t
  by_cases h0 : atN l t = 0
  · rw [h0]
    simp only [if_true]
    split <;> split <;> rfl
  · rw [List.getElem?_append_left (by omega)]
theorem getV_same {vs vs' : Vers} {k t : Int} (h : alook vs' k = alook vs k) : getV vs' k t = getV vs k t := by rw [getV_eq, getV_eq, h]

theorem riseB_pairwise {l : List Put} (h : riseB l = true) : l.Pairwise (fun p q => p.lba < q.lba) := by
  unfold riseB at h
  rw [Bool.and_eq_true, decide_eq_true_eq, List.all_eq_true] at h
  have hadj : ∀ i (h1 : i + 1 < l.length), (l[i]'(by omega)).lba < l[i + 1].lba := by
    intro i hi
    have := h.2 i (List.mem_range.2 (by omega))
    rw [decide_eq_true_eq] at this
    rw [lbaAt_get (show i < l.length by omega), lbaAt_get hi]
    exact this
  rw [List.pairwise_iff_getElem]
  intro i j hi hj hij
  induction j with
  | zero => omega
  | succ j ih =>
    by_cases e : i = j
    · subst e; exact hadj i hj
    · have := ih (by omega) (by omega)
      have := hadj j hj
      omega
theorem pairwise_nodup {l : List Put} (h : l.Pairwise (fun p q => p.lba < q.lba)) : (l.map (·.lba)).Nodup := by
  unfold List.Nodup
  rw [List.pairwise_map]
  exact h.imp fun h => by omega

/-- What an Apply does to one block's versions. -/
theorem applyVs_other (time : Int) : ∀ (l : List Put) (vs : Vers) (k : Int), (∀ p ∈ l, p.lba ≠ k) → alook (applyVs time vs l) k = alook vs k
  | [], vs, k, _ => rfl
  | p :: l, vs, k, h => by
    show alook (applyVs time (applyOne time vs p) l) k = _
    rw [applyVs_other time l _ k (fun q hq => h q (by simp [hq]))]
    unfold applyOne
    rw [alook_aset, if_neg (fun e => h p (by simp) e.symm)]
theorem applyVs_mine (time : Int) : ∀ (l : List Put) (vs : Vers) (p : Put), (l.map (·.lba)).Nodup → p ∈ l → alook (applyVs time vs l) p.lba = some ((alook vs p.lba).getD [] ++ [⟨time, p.data⟩])
  | q :: l, vs, p, hn, hp => by
    simp only [List.map_cons, List.nodup_cons] at hn
    show alook (applyVs time (applyOne time vs q) l) p.lba = _
    rcases List.mem_cons.1 hp with rfl | hp
    · rw [applyVs_other time l _ _ (fun x hx e => hn.1 (List.mem_map.2 ⟨x, hx, e⟩))]
      unfold applyOne
      rw [alook_aset, if_pos rfl]
    · rw [applyVs_mine time l _ p hn.2 hp]
      have : p.lba ≠ q.lba := fun e => hn.1 (List.mem_map.2 ⟨p, hp, e⟩)
      unfold applyOne
      rw [alook_aset, if_neg this]
  | [], _, _, _, h => by cases h

/-- A Map that came of Applies. -/
structure GoodE (blocks last : Int) (vs : Vers) : Prop where
  nd : (vs.map (·.1)).Nodup
  ks : ∀ x ∈ vs, 0 ≤ x.1 ∧ x.1 < blocks
  ts : ∀ k l, alook vs k = some l → l ≠ [] ∧ l.Pairwise (fun p q => p.lba < q.lba) ∧ ∀ p ∈ l, p.data.length = 40 ∧ 1 ≤ p.lba ∧ p.lba ≤ last
  l0 : 0 ≤ last
theorem GoodE.start (blocks : Int) : GoodE blocks 0 [] := ⟨List.nodup_nil, by simp, fun k l h => by simp [alook] at h, Int.le_refl _⟩
theorem code_zero {blocks last : Int} {t : Tx} (h : applyCode blocks last t = 0) : last < t.time ∧ t.time ≤ 1099511627776 ∧ riseB t.puts = true ∧ (∀ p ∈ t.puts, 0 ≤ p.lba ∧ p.lba < blocks) ∧ (∀ p ∈ t.puts, p.data.length = 40) ∧ 0 < t.puts.length := by
  unfold applyCode at h
  split at h
  · omega
  · rename_i h1
    split at h
    · omega
    · rename_i h2
      split at h
      · omega
      · rename_i h3
        split at h
        · omega
        · rename_i h4
          have hr : riseB t.puts = true := by cases hq : riseB t.puts <;> simp_all
          have hlen : 0 < t.puts.length := by
            have := hr
            unfold riseB at this
            rw [Bool.and_eq_true, decide_eq_true_eq] at this
            exact this.1
          have hp := riseB_pairwise hr
          have h3' : blk blocks (lbaAt t.puts 0) = true ∧ blk blocks (lbaAt t.puts (t.puts.length - 1)) = true := by
            cases ha : blk blocks (lbaAt t.puts 0) <;> cases hb : blk blocks (lbaAt t.puts (t.puts.length - 1)) <;> simp_all
          simp only [blk, Bool.and_eq_true, decide_eq_true_eq] at h3'
          refine ⟨by omega, by omega, hr, fun p hp' => ?_, fun p hp' => ?_, hlen⟩
          · obtain ⟨i, hi, rfl⟩ := List.getElem_of_mem hp'
            rw [List.pairwise_iff_getElem] at hp
            have e0 := lbaAt_get hlen
            have e1 := lbaAt_get (show t.puts.length - 1 < t.puts.length by omega)
            constructor
            · by_cases e : i = 0
              · subst e; omega
              · have := hp 0 i hlen hi (by omega); omega
            · by_cases e : i = t.puts.length - 1
              · subst e; omega
              · have := hp i (t.puts.length - 1) hi (by omega) (by omega); omega
          · simp at h4
            exact h4 p hp'
theorem applyVs_nodup (time : Int) : ∀ (l : List Put) (vs : Vers), (vs.map (·.1)).Nodup → ((applyVs time vs l).map (·.1)).Nodup
  | [], vs, h => h
  | p :: l, vs, h => applyVs_nodup time l _ (nodup_aset h _ _)
theorem applyVs_keys (time : Int) : ∀ (l : List Put) (vs : Vers), ∀ x ∈ applyVs time vs l, x.1 ∈ vs.map (·.1) ∨ ∃ p ∈ l, p.lba = x.1
  | [], vs, x, hx => .inl (List.mem_map.2 ⟨x, hx, rfl⟩)
  | p :: l, vs, x, hx => by
    rcases applyVs_keys time l (applyOne time vs p) x hx with h | ⟨q, hq, e⟩
    · obtain ⟨y, hy, hye⟩ := List.mem_map.1 h
      rcases aset_mem hy with rfl | hy
      · exact .inr ⟨p, by simp, hye⟩
      · exact .inl (List.mem_map.2 ⟨y, hy, hye⟩)
    · exact .inr ⟨q, by simp [hq], e⟩
theorem GoodE.apply {blocks last : Int} {vs : Vers} (h : GoodE blocks last vs) {t : Tx} (hc : applyCode blocks last t = 0) : GoodE blocks t.time (applyVs t.time vs t.puts) := by
  obtain ⟨h1, h2, h3, h4, h5, _⟩ := code_zero hc
  have hl0 := h.l0
  have hn := pairwise_nodup (riseB_pairwise h3)
  refine ⟨applyVs_nodup _ _ _ h.nd, fun x hx => ?_, fun k l hl => ?_, by omega⟩
  · rcases applyVs_keys _ _ _ x hx with h' | ⟨p, hp, e⟩
    · obtain ⟨y, hy, hye⟩ := List.mem_map.1 h'
      have := h.ks y hy; omega
    · have := h4 p hp; omega
  · by_cases hk : ∃ p ∈ t.puts, p.lba = k
    · obtain ⟨p, hp, rfl⟩ := hk
      rw [applyVs_mine _ _ _ p hn hp] at hl
      cases hl
      have hold : ∀ q ∈ (alook vs p.lba).getD [], q.data.length = 40 ∧ 1 ≤ q.lba ∧ q.lba ≤ last := by
        cases hx : alook vs p.lba with
        | none => simp
        | some l' => exact (h.ts _ _ hx).2.2
      have hpw : ((alook vs p.lba).getD []).Pairwise (fun p q => p.lba < q.lba) := by
        cases hx : alook vs p.lba with
        | none => simp
        | some l' => exact (h.ts _ _ hx).2.1
      refine ⟨by simp, ?_, fun q hq => ?_⟩
      · rw [List.pairwise_append]
        exact ⟨hpw, by simp, fun a ha b hb => by rw [List.mem_singleton] at hb; subst hb; have := hold a ha; simp only; omega⟩
      · rcases List.mem_append.1 hq with hq | hq
        · have := hold q hq; omega
        · rw [List.mem_singleton] at hq; subst hq
          exact ⟨h5 p hp, by simp only; omega, by simp only; omega⟩
    · rw [applyVs_other _ _ _ k (fun p hp e => hk ⟨p, hp, e⟩)] at hl
      obtain ⟨a, b, c⟩ := h.ts k l hl
      exact ⟨a, b, fun p hp => by have := c p hp; omega⟩
theorem GoodE.next {blocks last : Int} {vs : Vers} (h : GoodE blocks last vs) (t : Tx) : GoodE blocks (applyLast blocks last t) (applyNext blocks last vs t) := by
  unfold applyLast applyNext
  split
  · rename_i hc; exact h.apply hc
  · exact h
theorem GoodE.d40 {blocks last : Int} {vs : Vers} (h : GoodE blocks last vs) : ∀ k l, alook vs k = some l → ∀ p ∈ l, p.data.length ≤ 1000000 := fun k l hl p hp => by
  have := ((h.ts k l hl).2.2 p hp).1; omega
/-- What a read gives behind an Apply. -/
theorem getV_apply {blocks last : Int} {vs : Vers} (h : GoodE blocks last vs) {t : Tx} (hc : applyCode blocks last t = 0) (k x : Int) :
    (x < t.time ∨ (∀ p ∈ t.puts, p.lba ≠ k) → getV (applyVs t.time vs t.puts) k x = getV vs k x) ∧ (t.time ≤ x → ∀ p ∈ t.puts, p.lba = k → getV (applyVs t.time vs t.puts) k x = (p.data, t.time)) := by
  obtain ⟨h1, h2, h3, h4, h5, _⟩ := code_zero hc
  have hn := pairwise_nodup (riseB_pairwise h3)
  refine ⟨fun hx => ?_, fun hx p hp e => ?_⟩
  · by_cases hk : ∃ p ∈ t.puts, p.lba = k
    · obtain ⟨p, hp, rfl⟩ := hk
      rcases hx with hx | hx
      · exact getV_snoc_gt rfl (by rw [applyVs_mine _ _ _ p hn hp]; rfl) (by simpa using hx)
      · exact absurd rfl (hx p hp)
    · exact getV_same (applyVs_other _ _ _ k fun p hp e => hk ⟨p, hp, e⟩)
  · subst e
    exact getV_snoc_le (vs := vs) (l := (alook vs p.lba).getD []) (p := ⟨t.time, p.data⟩) (by rw [applyVs_mine _ _ _ p hn hp]; rfl) hx
end Go.Proofs
