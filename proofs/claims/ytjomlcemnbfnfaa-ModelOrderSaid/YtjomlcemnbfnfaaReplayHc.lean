/- Histories' cells in a row, and in their order: plain. -/
import Derived.Test.YtjomlcemnbfnfaaSortHist
import Derived.Test.YtjomlcemnbfnfaaReplayPlain
namespace Go.Proofs
open Go.RowKit Sc Go.Sort

/-- These cells are this history, read in w. -/
structure HcOk (G : Nat → Prop) (w : World) (x : HC) (h : Hist) : Prop where
  st : x.st = h.state
  bg : x.bg = h.begun
  tm : x.tm = h.time
  fr : x.fr = h.since
  up : x.up = h.upto
  i : I64 h.state ∧ I64 h.begun ∧ I64 h.time ∧ I64 h.since ∧ I64 h.upto
  rd : ReadsAt G w (.slice x.rp x.rn x.rc) h.reads
  pt : PutsAt G w (.slice x.pp x.pn x.pc) h.puts
def DsOk (G : Nat → Prop) (w : World) (ds : List HC) (hs : List Hist) : Prop :=
  ds.length = hs.length ∧ ∀ i (h1 : i < ds.length) (h2 : i < hs.length), HcOk G w ds[i] hs[i] ∧ ds[i].tag = i
theorem DsOk.nil (G : Nat → Prop) (w : World) : DsOk G w [] [] := ⟨rfl, fun i h => absurd h (Nat.not_lt_zero _)⟩
theorem DsOk.snoc {G : Nat → Prop} {w : World} {ds : List HC} {hs : List Hist} (h : DsOk G w ds hs) {x : HC} {y : Hist} (hx : HcOk G w x y) (ht : x.tag = ds.length) : DsOk G w (ds ++ [x]) (hs ++ [y]) := by
  refine ⟨by rw [List.length_append, List.length_append, h.1]; rfl, fun i h1 h2 => ?_⟩
  by_cases hi : i < ds.length
  · rw [List.getElem_append_left hi, List.getElem_append_left (by rw [← h.1]; exact hi)]
    exact h.2 i hi _
  · have e : i = ds.length := by simp at h1; omega
    subst e
    have e2 : hs.length = ds.length := h.1.symm
    rw [List.getElem_append_right (Nat.le_refl _), List.getElem_append_right (by omega)]
    simp only [Nat.sub_self, e2, List.getElem_singleton]
    exact ⟨hx, ht⟩
def flatH (ds : List HC) : List Value := (ds.map encH).flatten
theorem flatH_snoc (ds : List HC) (x : HC) : flatH (ds ++ [x]) = flatH ds ++ encH x := by unfold flatH; rw [List.map_append, List.flatten_append]; simp
theorem flatH_len (ds : List HC) : (flatH ds).length = ds.length * 7 := by
  induction ds with
  | nil => rfl
  | cons x t ih =>
    have e : flatH (x :: t) = encH x ++ flatH t := rfl
    rw [e, List.length_append, ih, List.length_cons]
    show 7 + t.length * 7 = _
    omega
theorem flatH_get (ds : List HC) : ∀ t, t < ds.length * 7 → (flatH ds)[t]? = some ((encH ds.toArray[t / 7]!)[t % 7]!) := by
  induction ds with
  | nil => intro t h; simp at h
  | cons x r ih =>
    intro t h
    have e : flatH (x :: r) = encH x ++ flatH r := rfl
    rw [e]
    by_cases h7 : t < 7
    · rw [List.getElem?_append_left (show t < (encH x).length from h7)]
      have e1 : t / 7 = 0 := by omega
      have e2 : t % 7 = t := by omega
      rw [e1, e2]
      have e3 : (x :: r).toArray[0]! = x := by simp
      rw [e3, List.getElem?_eq_getElem (show t < (encH x).length from h7), getElem!_pos (encH x) t (show t < (encH x).length from h7)]
    · rw [List.getElem?_append_right (show (encH x).length ≤ t from by show 7 ≤ t; omega)]
      show (flatH r)[t - 7]? = _
      have hr : t - 7 < r.length * 7 := by rw [List.length_cons] at h; omega
      rw [ih (t - 7) hr]
      have e1 : t / 7 = (t - 7) / 7 + 1 := by omega
      have e2 : t % 7 = (t - 7) % 7 := by omega
      rw [e1, e2]
      have e3 : (x :: r).toArray[(t - 7) / 7 + 1]! = r.toArray[(t - 7) / 7]! := by simp
      rw [e3]
theorem row_holds {w : World} {g : Nat} {ds : List HC} (h : ∀ j, j < ds.length * 7 → w.cell? ⟨g, j, none⟩ = (flatH ds)[j]? ∧ w.frozen? ⟨g, j, none⟩ = false) : HoldsK encH 7 w g 0 ds.toArray := by
  intro t ht
  rw [size_flatK] at ht
  have ht' : t < ds.length * 7 := by simpa using ht
  obtain ⟨h1, h2⟩ := h t ht'
  rw [Nat.zero_add, get_flatK _ _ _ _ ht]
  exact ⟨h1.trans (flatH_get ds t ht'), h2⟩
def CellsA (g : Nat) (d : Array HC) : Asn := ⟨fun F w => F g ∧ HoldsK encH 7 w g 0 d, fun F w w' hs _ h => ⟨h.1, fun t ht => by
  obtain ⟨h1, h2⟩ := h.2 t ht
  exact ⟨(World.cell?_of_block (hs g h.1)).trans h1, (World.frozen?_of_block (hs g h.1)).trans h2⟩⟩⟩
/-- What the sort leaves: the histories in their order. -/
theorem sorted_order {G : Nat → Prop} {w : World} {l : List Hist} {ds : List HC} {d' : Array HC} (h : DsOk G w ds (wroteL l)) (hp : d'.toList.Perm ds) (hs : d'.toList.Pairwise (fun x y => x.tm < y.tm ∨ (x.tm = y.tm ∧ x.tag ≤ y.tag))) :
    d'.size = (ordH l).length ∧ ∀ i (h1 : i < d'.size) (h2 : i < (ordH l).length), HcOk G w d'[i] (ordH l)[i] := by
  have htags : ds.map (·.tag) = List.range ds.length := by
    refine List.ext_getElem (by simp) fun i h1 h2 => ?_
    have hi : i < ds.length := by simpa using h1
    rw [List.getElem_map, List.getElem_range]
    exact (h.2 i hi (by rw [← h.1]; exact hi)).2
  have hmem : ∀ x ∈ d'.toList, x.tag < (wroteL l).length ∧ ∃ h2 : x.tag < (wroteL l).length, HcOk G w x (wroteL l)[x.tag] := by
    intro x hx
    obtain ⟨i, hi, rfl⟩ := List.getElem_of_mem (hp.mem_iff.1 hx)
    obtain ⟨h1, h2⟩ := h.2 i hi (by rw [← h.1]; exact hi)
    have hi2 : ds[i].tag < (wroteL l).length := by rw [h2, ← h.1]; exact hi
    refine ⟨hi2, hi2, ?_⟩
    have : (wroteL l)[ds[i].tag] = (wroteL l)[i]'(by rw [← h.1]; exact hi) := by congr 1
    rw [this]; exact h1
  have hps : (d'.toList.map (·.tag)).Perm (List.range (ordIdx l).length) := by
    have := hp.map (·.tag)
    rw [htags, h.1, wroteL_len] at this
    exact this
  have hord := ordI_of_pos (l := l) hps (by
    rw [List.pairwise_map]
    refine (List.Pairwise.and_mem.1 hs).imp ?_
    rintro x y ⟨hx, hy, hxy⟩
    obtain ⟨hx1, _, hx2⟩ := hmem x hx
    obtain ⟨hy1, _, hy2⟩ := hmem y hy
    rw [wroteL_time hx1, wroteL_time hy1, ← hx2.tm, ← hy2.tm]
    exact hxy)
  have hoh := ordH_of_pos hord (fun p hp => by
    obtain ⟨x, hx, rfl⟩ := List.mem_map.1 hp
    exact (hmem x hx).1)
  have hlen : d'.size = (ordH l).length := by rw [hoh]; simp
  refine ⟨hlen, fun i h1 h2 => ?_⟩
  have hx : d'[i] ∈ d'.toList := by simp
  obtain ⟨hx1, _, hx2⟩ := hmem _ hx
  have e : (ordH l)[i] = (wroteL l)[d'[i].tag] := by
    simp only [hoh, List.getElem_map, Array.getElem_toList]
    rw [List.getD_eq_getElem?_getD, List.getElem?_eq_getElem hx1]; rfl
  rw [e]; exact hx2
theorem wroteL_snoc (l : List Hist) (k : Nat) (h : k < l.length) : wroteL (l.take (k + 1)) = if wroteH l[k] then wroteL (l.take k) ++ [l[k]] else wroteL (l.take k) := by
  unfold wroteL
  rw [take_snoc l k h, List.filter_append]
  split <;> simp_all
end Go.Proofs
