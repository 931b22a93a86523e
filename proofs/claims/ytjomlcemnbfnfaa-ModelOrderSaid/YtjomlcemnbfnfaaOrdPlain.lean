/- Histories in the order of their times: what a stable sort leaves, in plain Lean. -/
import Derived.Test.YtjomlcemnbfnfaaStablePlain
import Derived.Test.YtjomlcemnbfnfaaBase
namespace Go.Proofs
open Sc Go.Sort

theorem sorted_list {α : Type} [Inhabited α] {lt : α → α → Bool} {d d' : Array α} (hp : PermIn 0 d.size d d') (hs : SortedIn lt 0 d.size d') :
    d'.toList.Perm d.toList ∧ d'.toList.Pairwise (fun x y => lt y x = false) := by
  obtain ⟨h1, _, h3⟩ := hp
  have e1 : d.extract 0 d.size = d := by simp
  have e2 : d'.extract 0 d.size = d' := by rw [← h1]; simp
  rw [e1, e2] at h3
  refine ⟨h3, ?_⟩
  rw [List.pairwise_iff_getElem]
  intro i j hi hj hij
  have hi' : i < d'.size := by simpa using hi
  have hj' : j < d'.size := by simpa using hj
  have := hs i j (Nat.zero_le _) hij (by omega)
  rw [getElem!_pos d' i hi', getElem!_pos d' j hj'] at this
  simpa using this

def wroteH (h : Hist) : Bool := decide (h.state = 3) && decide (0 < h.puts.length)
def wroteAt (l : List Hist) (i : Nat) : Bool := (l[i]?).any wroteH
def timeAt (l : List Hist) (i : Nat) : Int := ((l[i]?).map (·.time)).getD 0
/-- The places of those that wrote. -/
def ordIdx (l : List Hist) : List Nat := (List.range l.length).filter (wroteAt l)
def ordLe (l : List Hist) (i j : Nat) : Bool := decide (timeAt l i < timeAt l j ∨ (timeAt l i = timeAt l j ∧ i ≤ j))
/-- .. by rising Time, and by their places where these are alike. -/
def ordI (l : List Hist) : List Nat := (ordIdx l).mergeSort (ordLe l)
theorem ordLe_trans (l : List Hist) (a b c : Nat) (h1 : ordLe l a b = true) (h2 : ordLe l b c = true) : ordLe l a c = true := by
  unfold ordLe at *; simp only [decide_eq_true_eq] at *; omega
theorem ordLe_total (l : List Hist) (a b : Nat) : (ordLe l a b || ordLe l b a) = true := by
  unfold ordLe; simp only [Bool.or_eq_true, decide_eq_true_eq]; omega
theorem ordI_perm (l : List Hist) : (ordI l).Perm (ordIdx l) := List.mergeSort_perm _ _
theorem ordI_pairwise (l : List Hist) : (ordI l).Pairwise (fun i j => ordLe l i j = true) := List.pairwise_mergeSort (ordLe_trans l) (ordLe_total l) _
theorem ordI_unique {l : List Hist} {o : List Nat} (hp : o.Perm (ordIdx l)) (hs : o.Pairwise (fun i j => ordLe l i j = true)) : o = ordI l := by
  refine List.Perm.eq_of_pairwise (le := fun i j : Nat => ordLe l i j = true) (fun x y _ _ h1 h2 => ?_) hs (ordI_pairwise l) (hp.trans (ordI_perm l).symm)
  unfold ordLe at h1 h2; simp only [decide_eq_true_eq] at h1 h2; omega
theorem ordIdx_sorted (l : List Hist) : (ordIdx l).Pairwise (· < ·) := List.pairwise_lt_range.filter _
theorem ordIdx_nodup (l : List Hist) : (ordIdx l).Nodup := (ordIdx_sorted l).imp (fun h => by omega)
theorem mem_ordIdx {l : List Hist} {i : Nat} : i ∈ ordIdx l ↔ ∃ h : i < l.length, wroteH l[i] = true := by
  unfold ordIdx
  rw [List.mem_filter, List.mem_range]
  unfold wroteAt
  constructor
  · rintro ⟨h, h2⟩
    rw [List.getElem?_eq_getElem h] at h2
    exact ⟨h, h2⟩
  · rintro ⟨h, h2⟩
    refine ⟨h, ?_⟩
    rw [List.getElem?_eq_getElem h]
    exact h2
theorem mem_ordI {l : List Hist} {i : Nat} : i ∈ ordI l ↔ ∃ h : i < l.length, wroteH l[i] = true := (ordI_perm l).mem_iff.trans mem_ordIdx
theorem ordI_nodup (l : List Hist) : (ordI l).Nodup := (ordI_perm l).nodup_iff.2 (ordIdx_nodup l)
theorem timeAt_lt {l : List Hist} {i : Nat} (h : i < l.length) : timeAt l i = l[i].time := by unfold timeAt; rw [List.getElem?_eq_getElem h]; rfl

/-- Positions p in a list that rises. -/
theorem rising_le {l : List Nat} (h : l.Pairwise (· < ·)) {p q : Nat} (hp : p < l.length) (hq : q < l.length) (hpq : p ≤ q) : l[p] ≤ l[q] := by
  rcases Nat.lt_or_ge p q with hh | hh
  · exact Nat.le_of_lt (List.pairwise_iff_getElem.1 h p q hp hq hh)
  · obtain rfl : p = q := by omega
    exact Nat.le_refl _
/-- The same, of the positions among those that wrote: a list of these positions, all of them, by times and then by positions. -/
theorem ordI_of_pos {l : List Hist} {ps : List Nat} (hp : ps.Perm (List.range (ordIdx l).length))
    (hs : ps.Pairwise (fun p q => timeAt l ((ordIdx l).getD p 0) < timeAt l ((ordIdx l).getD q 0) ∨ (timeAt l ((ordIdx l).getD p 0) = timeAt l ((ordIdx l).getD q 0) ∧ p ≤ q))) : ps.map (fun p => (ordIdx l).getD p 0) = ordI l := by
  refine ordI_unique ?_ ?_
  · refine (hp.map _).trans ?_
    rw [show (List.range (ordIdx l).length).map (fun p => (ordIdx l).getD p 0) = ordIdx l from ?_]
    refine List.ext_getElem (by simp) fun i h1 h2 => ?_
    simp [h2]
  · rw [List.pairwise_map]
    have hmem : ∀ p ∈ ps, p < (ordIdx l).length := fun p h => by simpa using hp.mem_iff.1 h
    refine (List.Pairwise.and_mem.1 hs).imp ?_
    rintro p q ⟨h1, h2, h3⟩
    have hp1 := hmem p h1
    have hq1 := hmem q h2
    unfold ordLe
    rw [decide_eq_true_eq]
    refine h3.imp id fun ⟨h4, h5⟩ => ⟨h4, ?_⟩
    simp only [List.getD, List.getElem?_eq_getElem hp1, List.getElem?_eq_getElem hq1, Option.getD_some]
    exact rising_le (ordIdx_sorted l) hp1 hq1 h5

/-- Those that wrote, one behind the other. -/
def wroteL (l : List Hist) : List Hist := l.filter wroteH
theorem wroteL_idx (l : List Hist) : (ordIdx l).map (fun i => l[i]?) = (wroteL l).map some := by
  have : ∀ k, k ≤ l.length → ((List.range k).filter (wroteAt l)).map (fun i => l[i]?) = ((l.take k).filter wroteH).map some := by
    intro k hk
    induction k with
    | zero => simp
    | succ k ih =>
      have hk' : k < l.length := by omega
      rw [List.range_succ, List.filter_append, List.map_append, ih (by omega), take_snoc l k hk', List.filter_append, List.map_append]
      congr 1
      unfold wroteAt
      simp only [List.filter_cons, List.filter_nil, List.getElem?_eq_getElem hk', Option.any_some]
      split <;> simp [hk']
  have h := this l.length (Nat.le_refl _)
  rw [List.take_length] at h
  exact h
theorem wroteL_len (l : List Hist) : (wroteL l).length = (ordIdx l).length := by
  have := congrArg List.length (wroteL_idx l)
  simpa using this.symm
theorem wroteL_get {l : List Hist} {p : Nat} (hp : p < (wroteL l).length) : l[(ordIdx l).getD p 0]? = some (wroteL l)[p] := by
  have hp' : p < (ordIdx l).length := by rw [← wroteL_len]; exact hp
  have := congrArg (fun x => x[p]?) (wroteL_idx l)
  simp only [List.getElem?_map, List.getElem?_eq_getElem hp, List.getElem?_eq_getElem hp', Option.map_some] at this
  rw [List.getD_eq_getElem?_getD, List.getElem?_eq_getElem hp', Option.getD_some]
  exact Option.some.inj this
theorem wroteL_time {l : List Hist} {p : Nat} (hp : p < (wroteL l).length) : timeAt l ((ordIdx l).getD p 0) = (wroteL l)[p].time := by
  unfold timeAt
  rw [wroteL_get hp]; rfl
def hist0 : Hist := ⟨0, 0, 0, 0, 0, [], []⟩
/-- The histories in their order. -/
def ordH (l : List Hist) : List Hist := (ordI l).map (fun i => l.getD i hist0)
theorem ordH_of_pos {l : List Hist} {ps : List Nat} (h : ps.map (fun p => (ordIdx l).getD p 0) = ordI l) (hm : ∀ p ∈ ps, p < (wroteL l).length) : ordH l = ps.map (fun p => (wroteL l).getD p hist0) := by
  unfold ordH
  rw [← h, List.map_map]
  refine List.map_congr_left fun p hp => ?_
  have hq := hm p hp
  show l.getD ((ordIdx l).getD p 0) hist0 = _
  rw [List.getD_eq_getElem?_getD, wroteL_get hq, List.getD_eq_getElem?_getD, List.getElem?_eq_getElem hq]
theorem ordH_len (l : List Hist) : (ordH l).length = (ordI l).length := List.length_map ..
theorem ordI_len (l : List Hist) : (ordI l).length ≤ l.length := by
  rw [(ordI_perm l).length_eq]
  unfold ordIdx
  exact Nat.le_trans (List.length_filter_le _ _) (by simp)
theorem mem_ordH {l : List Hist} {h : Hist} : h ∈ ordH l ↔ h ∈ l ∧ wroteH h = true := by
  unfold ordH
  rw [List.mem_map]
  constructor
  · rintro ⟨i, hi, rfl⟩
    obtain ⟨h1, h2⟩ := mem_ordI.1 hi
    have e : l.getD i hist0 = l[i] := by simp [h1]
    rw [e]
    exact ⟨List.getElem_mem h1, h2⟩
  · rintro ⟨h1, h2⟩
    obtain ⟨i, hi, rfl⟩ := List.getElem_of_mem h1
    exact ⟨i, mem_ordI.2 ⟨hi, h2⟩, by simp [hi]⟩
end Go.Proofs
