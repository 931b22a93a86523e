/- AuditPrefix: a state that is told to be made by so many is made by just these, one behind the other: for every input the law returns true. -/
import Derived.Test.YtjomlcemnbfnfaaAu6
namespace Go.Proofs
open Go.RowKit Sc Go.Sort

theorem prefBest_up {st : List Put} {ps : List (List Put)} {j : Nat} (hs : samePuts (allPuts (runAll [] (ps.take j))) st = true) : ∀ K, j ≤ K → (j : Int) ≤ prefBest st ps K
  | 0, h => by
    obtain rfl : j = 0 := by omega
    unfold prefBest
    rw [if_pos (by rw [List.take_zero] at hs; exact hs)]; omega
  | K + 1, h => by
    unfold prefBest
    by_cases hj : j = K + 1
    · subst hj; rw [if_pos hs]; omega
    · have := prefBest_up hs K (by omega)
      split <;> omega
theorem prefBest_is {st : List Put} {ps : List (List Put)} : ∀ K, 0 ≤ prefBest st ps K → ∃ k : Nat, prefBest st ps K = k ∧ k ≤ K ∧ samePuts (allPuts (runAll [] (ps.take k))) st = true
  | 0, h => by
    unfold prefBest at h ⊢
    split at h
    · rename_i hs
      rw [if_pos hs]
      exact ⟨0, rfl, Nat.le_refl _, by rw [List.take_zero]; exact hs⟩
    · omega
  | K + 1, h => by
    unfold prefBest at h ⊢
    split at h
    · rename_i hs
      rw [if_pos hs]
      exact ⟨K + 1, rfl, Nat.le_refl _, hs⟩
    · rename_i hs
      rw [if_neg hs]
      obtain ⟨k, h1, h2, h3⟩ := prefBest_is K h
      exact ⟨k, h1, by omega, h3⟩
theorem okLen_ge {n : Int} {ps : List (List Put)} {j : Nat} (hj : j ≤ ps.length) (h : ∀ p ∈ ps.take j, runCode n p = 0) : j ≤ okLen n ps := by
  induction j generalizing ps with
  | zero => omega
  | succ j ih =>
    cases ps with
    | nil => simp at hj
    | cons p t =>
      have := ih (ps := t) (by simpa using hj) fun q hq => h q (by rw [List.take_succ_cons]; exact List.mem_cons_of_mem _ hq)
      unfold okLen at this ⊢
      rw [List.takeWhile_cons_of_pos (by simpa using h p (by simp)), List.length_cons]
      omega
theorem okLen_ok {n : Int} {ps : List (List Put)} : ∀ p ∈ ps.take (okLen n ps), runCode n p = 0 := by
  induction ps with
  | nil => simp
  | cons p t ih =>
    intro q hq
    unfold okLen at hq
    by_cases hp : runCode n p = 0
    · rw [List.takeWhile_cons_of_pos (by simpa using hp), List.length_cons, List.take_succ_cons] at hq
      rcases List.mem_cons.1 hq with rfl | hq
      · exact hp
      · exact ih q hq
    · rw [List.takeWhile_cons_of_neg (by simpa using hp)] at hq
      simp at hq
theorem okLen_le (n : Int) (ps : List (List Put)) : okLen n ps ≤ ps.length := by
  unfold okLen
  exact (List.takeWhile_sublist _).length_le
/-- What Prefix says of a state that some of the first make. -/
theorem prefix_of {n : Nat} {l : List Hist} {j : Nat} (n1 : 1 ≤ n) (n2 : n ≤ 200) (hj : j ≤ (ordP l).length) (hok : ∀ p ∈ (ordP l).take j, runCode n p = 0) :
    ∃ k : Nat, prefixRes n l (allPuts (runAll [] ((ordP l).take j))) = ((k : Int), true) ∧ j ≤ k ∧ k ≤ (ordP l).length ∧ (∀ p ∈ (ordP l).take k, runCode n p = 0) ∧ allPuts (runAll [] ((ordP l).take k)) = allPuts (runAll [] ((ordP l).take j)) := by
  have h1 := prefBest_up (samePuts_iff.2 (rfl : allPuts (runAll [] ((ordP l).take j)) = _)) _ (okLen_ge hj hok)
  obtain ⟨k, h2, h3, h4⟩ := prefBest_is _ (show 0 ≤ prefBest (allPuts (runAll [] ((ordP l).take j))) (ordP l) (okLen n (ordP l)) by omega)
  refine ⟨k, ?_, by omega, Nat.le_trans h3 (okLen_le _ _), fun p hp => okLen_ok (ps := ordP l) p ?_, samePuts_iff.1 h4⟩
  · unfold prefixRes
    rw [if_neg (by omega), if_neg (by omega), h2]
  · exact (List.take_sublist_take_left (l := ordP l) h3).subset hp
def Small28 (l : List Hist) (w : World) (e : Ending) (w' : World) : Prop := ∃ q : Bool, e = .returned (.bool q) ∧ (q = true → l.length ≤ 40) ∧ Below w.heap.size w w'
set_option maxHeartbeats 400000 in
theorem small28_any (G : Nat → Prop) (v : Value) (l : List Hist) (w : World) (hG : Dom G w) (hv : HistsAt G w v l) :
    Calls Try.prog 33 #[v] w (Small28 l w) := by
  have hlen : ∃ p c, v = .slice p l.length c ∧ l.length ≤ 9223372036854775807 := by obtain ⟨p, c, rfl, h1, h2, _⟩ := hv; exact ⟨p, c, rfl, by omega⟩
  obtain ⟨p, c, rfl, hl⟩ := hlen
  have HV := Lib.hid hv
  have HG := Lib.hid hG
  clear hv hG
  go_enter Try.func33, Try.ntmps33
  go_wp2_with fail
  refine (hists_any G _ l 10000 _ HG.out HV.out (by omega) (by omega)).mono ?_
  rintro e w2 ⟨m, rfl, hm0, hm1, hm2, hb2⟩
  have HB2 := Lib.hid hb2
  clear hm2 hb2
  by_cases h2 : m ≤ 10000
  case neg =>
    go_wp2
    go_ret
    exact ⟨false, rfl, fun h => absurd h (by decide), HB2.out⟩
  case pos =>
    by_cases h3 : l.length ≤ 40
    · have h3' : ((l.length : Nat) : Int) ≤ 40 := by omega
      go_wp2
      go_ret
      exact ⟨true, rfl, fun _ => h3, HB2.out⟩
    · have h3' : ¬ ((l.length : Nat) : Int) ≤ 40 := by omega
      go_wp2
      go_ret
      exact ⟨_, rfl, fun h => absurd (of_decide_eq_true h) (by omega), HB2.out⟩
end Go.Proofs
