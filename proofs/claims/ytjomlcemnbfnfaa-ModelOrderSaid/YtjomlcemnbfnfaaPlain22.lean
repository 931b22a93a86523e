/- Plain laws on what an M holds. -/
import Derived.Test.YtjomlcemnbfnfaaRun
import Derived.Test.YtjomlcemnbfnfaaSame
namespace Go.Proofs
open Go.RowKit Sc

theorem ModelIs.nodup {F : Nat → Prop} {w : World} {v : Value} {n : Int} {s : List (Int × Bytes)} (h : ModelIs F w v n s) : (s.map (·.1)).Nodup := by
  obtain ⟨⟨b, r, ml, _, _, _, _, h5, h6⟩, _⟩ := h
  obtain ⟨_, _, _, _, hn, _⟩ := h5
  rw [← AL.keys h6]; exact hn

theorem eqM_refl {s : List (Int × Bytes)} (hn : (s.map (·.1)).Nodup) : eqM s s = true := by
  unfold eqM
  rw [decide_eq_true rfl, Bool.true_and, List.all_eq_true]
  intro kd hkd
  rw [alook_mem hn (n := kd.1) (v := kd.2) hkd]
  simp

def Len40 (s : List (Int × Bytes)) : Prop := ∀ k d, alook s k = some d → d.length = 40
theorem len40_nil : Len40 [] := fun k d h => by simp [alook] at h

theorem zero40_eq {d : Bytes} (hl : d.length = 40) (hz : zero40 d = true) : d = zeroB := by
  unfold zero40 at hz
  rw [List.all_eq_true] at hz
  apply List.ext_getElem
  · rw [hl]; rfl
  · intro i h1 h2
    have := hz d[i] (List.getElem_mem h1)
    simp only [beq_iff_eq] at this
    rw [this]; exact (List.getElem_replicate (n := 40) h2).symm

theorem runStep_look {s : List (Int × Bytes)} (hn : (s.map (·.1)).Nodup) (p : Put) (k : Int) : alook (runStep s p) k = if k = p.lba then (if zero40 p.data then none else some p.data) else alook s k := by
  unfold runStep
  cases hz : zero40 p.data
  · simp only [Bool.false_eq_true, if_false]; exact alook_aset s p.lba k p.data
  · simp only [if_true]; exact alook_adel hn p.lba k
theorem runStep_nodup {s : List (Int × Bytes)} (hn : (s.map (·.1)).Nodup) (p : Put) : ((runStep s p).map (·.1)).Nodup := by
  unfold runStep; split
  · exact nodup_adel hn _
  · exact nodup_aset hn _ _
theorem runPuts_nodup {s : List (Int × Bytes)} (hn : (s.map (·.1)).Nodup) (l : List Put) : ((runPuts s l).map (·.1)).Nodup := by
  unfold runPuts
  induction l generalizing s with
  | nil => exact hn
  | cons p t ih => exact ih (runStep_nodup hn p)
theorem runPuts_other {s : List (Int × Bytes)} (hn : (s.map (·.1)).Nodup) (l : List Put) (k : Int) (hk : ∀ p ∈ l, p.lba ≠ k) : alook (runPuts s l) k = alook s k := by
  unfold runPuts
  induction l generalizing s with
  | nil => rfl
  | cons p t ih =>
    have h1 := ih (runStep_nodup hn p) (fun q hq => hk q (by simp [hq]))
    rw [List.foldl_cons, h1, runStep_look hn, if_neg (fun e => hk p (by simp) e.symm)]
theorem runPuts_look {s : List (Int × Bytes)} (hn : (s.map (·.1)).Nodup) (l : List Put) (hd : (l.map (·.lba)).Nodup) (h40 : ∀ p ∈ l, p.data.length = 40) {p : Put} (hp : p ∈ l) :
    (alook (runPuts s l) p.lba).getD zeroB = p.data := by
  induction l generalizing s with
  | nil => cases hp
  | cons q t ih =>
    simp only [List.map_cons, List.nodup_cons] at hd
    have hstep : runPuts s (q :: t) = runPuts (runStep s q) t := rfl
    rcases List.mem_cons.1 hp with rfl | hp
    · rw [hstep, runPuts_other (runStep_nodup hn _) t _ (fun x hx e => hd.1 (List.mem_map.2 ⟨x, hx, e⟩)), runStep_look hn, if_pos rfl]
      cases hz : zero40 p.data
      · rfl
      · simp only [if_true, Option.getD_none]; exact (zero40_eq (h40 p (by simp)) hz).symm
    · rw [hstep]; exact ih (runStep_nodup hn _) hd.2 (fun x hx => h40 x (by simp [hx])) hp
theorem runPuts_len {s : List (Int × Bytes)} (hn : (s.map (·.1)).Nodup) (hs : Len40 s) (l : List Put) (h40 : ∀ p ∈ l, p.data.length = 40) : Len40 (runPuts s l) := by
  unfold runPuts
  induction l generalizing s with
  | nil => exact hs
  | cons p t ih =>
    refine ih (runStep_nodup hn p) (fun k d h => ?_) (fun x hx => h40 x (by simp [hx]))
    rw [runStep_look hn] at h
    split at h
    · split at h
      · cases h
      · cases h; exact h40 p (by simp)
    · exact hs k d h

theorem code_ok {n : Int} {l : List Put} (h : runCode n l = 0) : (∀ p ∈ l, blk n p.lba = true) ∧ (l.map (·.lba)).Nodup ∧ ∀ p ∈ l, p.data.length = 40 := by
  unfold runCode at h
  split at h
  · omega
  · rename_i ha
    split at h
    · rename_i hb
      simp only [Bool.and_eq_true, decide_eq_true_eq, List.all_eq_true] at hb
      refine ⟨fun p hp => ?_, hb.1, hb.2⟩
      cases hq : blk n p.lba
      · exact absurd (List.any_eq_true.2 ⟨p, hp, by simp [hq]⟩) ha
      · rfl
    · omega
/-- What a Run leaves. -/
def runNext (n : Int) (s : List (Int × Bytes)) (l : List Put) : List (Int × Bytes) := if runCode n l = 0 then runPuts s l else s
theorem runNext_nodup {n : Int} {s : List (Int × Bytes)} (hn : (s.map (·.1)).Nodup) (l : List Put) : ((runNext n s l).map (·.1)).Nodup := by
  unfold runNext; split
  · exact runPuts_nodup hn l
  · exact hn
theorem runNext_len {n : Int} {s : List (Int × Bytes)} (hn : (s.map (·.1)).Nodup) (hs : Len40 s) (l : List Put) : Len40 (runNext n s l) := by
  unfold runNext; split
  · rename_i h; exact runPuts_len hn hs l (code_ok h).2.2
  · exact hs
end Go.Proofs
