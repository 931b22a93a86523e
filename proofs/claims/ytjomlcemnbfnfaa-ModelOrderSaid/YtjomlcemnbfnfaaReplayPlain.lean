/- Replaying rows of Puts: plain. -/
import Derived.Test.YtjomlcemnbfnfaaOrdPlain
import Derived.Test.YtjomlcemnbfnfaaPlainRuns
namespace Go.Proofs
open Sc

/-- What running these rows says: the first that is refused. -/
def replayCode (n : Int) : List (List Put) → Int
  | [] => 0
  | p :: t => if runCode n p = 0 then replayCode n t else runCode n p
def runAll (s : List (Int × Bytes)) (l : List (List Put)) : List (Int × Bytes) := l.foldl runPuts s
def refAll (ls : List Bytes) (l : List (List Put)) : List Bytes := l.foldl refPuts ls
theorem replay_ok {n : Int} : ∀ {l : List (List Put)}, replayCode n l = 0 ↔ ∀ p ∈ l, runCode n p = 0
  | [] => by simp [replayCode]
  | p :: t => by
    unfold replayCode
    split
    · rename_i h; rw [replay_ok]; simp [h]
    · rename_i h; simp [h]
theorem replay_drop {n : Int} {l : List (List Put)} {k : Nat} (h : ∀ p ∈ l.take k, runCode n p = 0) : replayCode n l = replayCode n (l.drop k) := by
  induction k generalizing l with
  | zero => rfl
  | succ k ih =>
    cases l with
    | nil => rfl
    | cons p t =>
      rw [List.take_succ_cons] at h
      have e : replayCode n (p :: t) = replayCode n t := by
        show (if runCode n p = 0 then replayCode n t else runCode n p) = _
        rw [if_pos (h p (by simp))]
      rw [e, List.drop_succ_cons]
      exact ih fun q hq => h q (List.mem_cons_of_mem _ hq)
theorem runAll_snoc (s : List (Int × Bytes)) (l : List (List Put)) (p : List Put) : runAll s (l ++ [p]) = runPuts (runAll s l) p := by unfold runAll; rw [List.foldl_append]; rfl
theorem refAll_snoc (s : List Bytes) (l : List (List Put)) (p : List Put) : refAll s (l ++ [p]) = refPuts (refAll s l) p := by unfold refAll; rw [List.foldl_append]; rfl
theorem refAll_len (l : List (List Put)) : ∀ ls : List Bytes, (refAll ls l).length = ls.length := by
  induction l with
  | nil => intro ls; rfl
  | cons p t ih => intro ls; show (refAll (refPuts ls p) t).length = _; rw [ih, refPuts_length]
theorem RelM.all_runs {n : Nat} {l : List (List Put)} : ∀ {s : List (Int × Bytes)} {ls : List Bytes}, RelM n s ls → (∀ p ∈ l, runCode n p = 0) → RelM n (runAll s l) (refAll ls l) := by
  induction l with
  | nil => intro s ls h _; exact h
  | cons p t ih =>
    intro s ls h hp
    have h1 := h.run p
    unfold runNext refNext at h1
    rw [h.len, if_pos (hp p (by simp)), if_pos (hp p (by simp))] at h1
    exact ih h1 fun q hq => hp q (List.mem_cons_of_mem _ hq)
/-- The rows of Puts of histories in their order. -/
def ordP (l : List Hist) : List (List Put) := (ordH l).map (·.puts)
theorem ordP_len (l : List Hist) : (ordP l).length = (ordI l).length := by unfold ordP; rw [List.length_map, ordH_len]
theorem ordP_get {l : List Hist} {i : Nat} (h : i < (ordI l).length) : ∃ h' : (ordI l)[i] < l.length, ∃ h2 : i < (ordP l).length, (ordP l)[i] = l[(ordI l)[i]].puts := by
  obtain ⟨h1, _⟩ := mem_ordI.1 (List.getElem_mem h)
  refine ⟨h1, by rw [ordP_len]; exact h, ?_⟩
  unfold ordP ordH
  rw [List.getElem_map, List.getElem_map]
  congr 1
  simp [h1]
end Go.Proofs
