/- Histories in whatever order, if no two have one time: plain. -/
import Derived.Test.YtjomlcemnbfnfaaReplayPlain
namespace Go.Proofs
open Sc Go.Sort

theorem getD_map (l : List Hist) : (ordIdx l).map (fun i => l.getD i hist0) = wroteL l := by
  have h := congrArg (List.map (fun x : Option Hist => x.getD hist0)) (wroteL_idx l)
  rw [List.map_map, List.map_map] at h
  have e1 : ((fun x : Option Hist => x.getD hist0) ∘ fun i => l[i]?) = fun i => l.getD i hist0 := by
    funext i
    simp [List.getD_eq_getElem?_getD]
  have e2 : ((fun x : Option Hist => x.getD hist0) ∘ some) = id := rfl
  rw [e1, e2, List.map_id] at h
  exact h
theorem ordH_perm (l : List Hist) : (ordH l).Perm (wroteL l) := by
  have := (ordI_perm l).map (fun i => l.getD i hist0)
  rw [getD_map] at this
  exact this
theorem ordH_sorted (l : List Hist) : (ordH l).Pairwise (fun x y => x.time ≤ y.time) := by
  unfold ordH
  rw [List.pairwise_map]
  refine (List.Pairwise.and_mem.1 (ordI_pairwise l)).imp ?_
  rintro i j ⟨hi, hj, h⟩
  obtain ⟨h1, _⟩ := mem_ordI.1 hi
  obtain ⟨h2, _⟩ := mem_ordI.1 hj
  unfold ordLe at h
  rw [decide_eq_true_eq, timeAt_lt h1, timeAt_lt h2] at h
  rw [List.getD_eq_getElem?_getD, List.getElem?_eq_getElem h1, List.getD_eq_getElem?_getD, List.getElem?_eq_getElem h2]
  simp only [Option.getD_some]
  omega
theorem nodup_time {l : List Hist} (h : (l.map (·.time)).Nodup) {x y : Hist} (hx : x ∈ l) (hy : y ∈ l) (ht : x.time = y.time) : x = y := by
  obtain ⟨i, hi, rfl⟩ := List.getElem_of_mem hx
  obtain ⟨j, hj, rfl⟩ := List.getElem_of_mem hy
  have : i = j := by
    refine (List.getElem_inj h (i := i) (j := j) (h₀ := by simpa using hi) (h₁ := by simpa using hj)).1 ?_
    simpa using ht
  subst this; rfl
theorem ordH_of_perm {l m : List Hist} (hp : m.Perm l) (h : (l.map (·.time)).Nodup) : ordH m = ordH l := by
  refine List.Perm.eq_of_pairwise (le := fun x y : Hist => x.time ≤ y.time) (fun x y hx hy h1 h2 => ?_) (ordH_sorted m) (ordH_sorted l) ?_
  · have hx' := (List.mem_filter.1 ((ordH_perm m).mem_iff.1 hx)).1
    have hy' := (List.mem_filter.1 ((ordH_perm l).mem_iff.1 hy)).1
    exact nodup_time h (hp.mem_iff.1 hx') hy' (by omega)
  · exact ((ordH_perm m).trans (hp.filter _)).trans (ordH_perm l).symm
theorem ordP_turned {l : List Hist} (h : (l.map (·.time)).Nodup) (k : Nat) : ordP (l.drop k ++ l.take k) = ordP l := by
  unfold ordP
  rw [ordH_of_perm (List.perm_append_comm.trans (by rw [List.take_append_drop])) h]
theorem nodup_snoc {l : List Hist} {i : Nat} (hi : i < l.length) (h : ((l.take i).map (·.time)).Nodup) (hn : ∀ j (hj : j < i), l[i].time ≠ l[j].time) : ((l.take (i + 1)).map (·.time)).Nodup := by
  rw [take_snoc l i hi, List.map_append, List.nodup_append]
  refine ⟨h, by simp, fun x hx y hy => ?_⟩
  obtain ⟨z, hz, rfl⟩ := List.mem_map.1 hx
  obtain ⟨j, hj, rfl⟩ := List.getElem_of_mem hz
  rw [List.length_take] at hj
  simp only [List.map_cons, List.map_nil, List.mem_singleton] at hy
  subst hy
  rw [List.getElem_take]
  exact fun e => hn j (by omega) e.symm
end Go.Proofs
