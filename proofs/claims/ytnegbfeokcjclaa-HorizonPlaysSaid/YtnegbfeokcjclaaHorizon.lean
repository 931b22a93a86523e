/- Package horizon: what a Book holds in memory, and what each of its calls gives. -/
import Derived.Test.YtnegbfeokcjclaaKeys
import Derived.Test.YtnegbfeokcjclaaRange
import Derived.Deep.RegionHeld3
import Derived.Deep.LoopGhost
namespace Go.Proofs
open Go.RowKit Sc

def ivs (tm : List (Int × Int)) : List (Int × Value) := tm.map fun x => (x.1, .int .i64 x.2)
theorem ivs_keys (tm : List (Int × Int)) : (ivs tm).map (·.1) = tm.map (·.1) := by simp [ivs]
theorem ivs_look (tm : List (Int × Int)) (k : Int) : alook (ivs tm) k = (alook tm k).map (Value.int .i64) := by
  induction tm with
  | nil => rfl
  | cons a t ih =>
    obtain ⟨a, x⟩ := a
    by_cases h : a = k
    · simp [ivs, alook, h]
    · simpa [ivs, alook, h] using ih
theorem ivs_set (tm : List (Int × Int)) (k t : Int) : aset (ivs tm) k (.int .i64 t) = ivs (aset tm k t) := by
  induction tm with
  | nil => rfl
  | cons a l ih =>
    obtain ⟨a, x⟩ := a
    by_cases h : a = k
    · simp [ivs, aset, h]
    · simpa [ivs, aset, h] using ih
theorem ivs_del (tm : List (Int × Int)) (k : Int) : adel (ivs tm) k = ivs (adel tm k) := by
  induction tm with
  | nil => rfl
  | cons a l ih =>
    obtain ⟨a, x⟩ := a
    by_cases h : a = k
    · simp [ivs, adel, h]
    · simpa [ivs, adel, h] using ih

/-- A Book, in the blocks b, r: how many may be there, the last handle, handles and times. -/
structure BookIs (F : Nat → Prop) (w : World) (v : Value) (most last : Int) (tm : List (Int × Int)) : Prop where
  out : ∃ b r, v = .pointer (some ⟨b, 0, none⟩) ∧ F b ∧ F r ∧ w.heap[b]? = some (.cells #[.int .i64 most, .int .i64 last, .map (some r)] 100 (0, 0)) ∧ MapIs w r (ivs tm)
  dom : Dom F w
  rng : ∀ x ∈ tm, I64 x.1 ∧ I64 x.2
theorem BookIs.same {F : Nat → Prop} {w w' : World} {v : Value} {most last : Int} {tm : List (Int × Int)} (h : BookIs F w v most last tm) (hs : Same F w w') (hz : w.heap.size ≤ w'.heap.size) : BookIs F w' v most last tm :=
  let ⟨⟨b, r, h1, h2, h3, h4, h5⟩, hd, hr⟩ := h; ⟨⟨b, r, h1, h2, h3, by rw [hs b h2]; exact h4, h5.same hs h3⟩, hd.of_size hz, hr⟩
theorem BookIs.up {F : Nat → Prop} {w w' : World} {v : Value} {most last : Int} {tm : List (Int × Int)} (h : BookIs F w v most last tm) (hb : Below w.heap.size w w') : BookIs F w' v most last tm := h.same (h.dom.same hb) hb.size
theorem BookIs.nodup {F : Nat → Prop} {w : World} {v : Value} {most last : Int} {tm : List (Int × Int)} (h : BookIs F w v most last tm) : (tm.map (·.1)).Nodup := by
  obtain ⟨⟨b, r, _, _, _, _, h5⟩, _⟩ := h
  obtain ⟨_, _, _, _, hn, _⟩ := h5
  rwa [ivs_keys] at hn

def BookNew (most : Int) (w : World) (e : Ending) (w' : World) : Prop := ∃ v, e = .returned v ∧ BookIs (New w w') w' v most 0 [] ∧ Below w.heap.size w w'
set_option maxHeartbeats 400000 in
theorem bookNew_any (most : Int) (w : World) : Calls Try.prog 30 #[.int .i64 most] w (BookNew most w) := by
  have hmm := @run_makeMap Try.prog
  go_enter Try.func30, Try.ntmps30
  go_wp2
  go_ret
  have hm := MapIs.made w
  refine ⟨_, rfl, ⟨⟨w.heap.size + 1, w.heap.size, rfl, by simp [New], by simp [New]; omega, heap_new (by simp), hm.same (G := (· < w.heap.size + 1)) (fun k hk => heap_old (by simpa using hk)) (by simp)⟩, fun k hk => hk.2, by simp⟩, ?_⟩
  exact ((Below.refl _ _).alloc (Nat.le_refl _) _).alloc (by simp) _

def atSaid (tm : List (Int × Int)) (h : Int) : Ending := match alook tm h with
  | some t => .returned (.tuple #[.int .i64 t, .int .i64 0])
  | none => .returned (.tuple #[.int .i64 0, .int .i64 14])
set_option maxHeartbeats 400000 in
theorem bookAt_any (F : Nat → Prop) (v : Value) (most last : Int) (tm : List (Int × Int)) (h : Int) (w : World) (hb : BookIs F w v most last tm) :
    Calls Try.prog 35 #[v, .int .i64 h] w fun e w' => e = atSaid tm h ∧ w = w' := by
  obtain ⟨⟨b, r, rfl, h2, h3, h4, h5⟩, hd, _⟩ := hb
  have hc2 : w.cell? ⟨b, 2, none⟩ = some (.map (some r)) := by rw [cell_row h4]; rfl
  have hl := h5.lookup (P := Try.prog) Try.underlying98 Try.underlying3 (Try.zeroValue3 _) h true
  rw [ivs_look] at hl
  unfold atSaid
  clear h4 h5
  cases hq : alook tm h with
  | none =>
    rw [hq] at hl
    simp only [Option.map_none, Option.getD_none, Option.isSome_none, if_true] at hl
    clear hq
    go_enter Try.func35, Try.ntmps35
    go_wp2
    go_ret2
    exact ⟨rfl, rfl⟩
  | some t =>
    rw [hq] at hl
    simp only [Option.map_some, Option.getD_some, Option.isSome_some, if_true] at hl
    clear hq
    go_enter Try.func35, Try.ntmps35
    go_wp2
    go_ret2
    exact ⟨rfl, rfl⟩

def CloseSaid (F : Nat → Prop) (v : Value) (most last : Int) (tm : List (Int × Int)) (h : Int) (w : World) (e : Ending) (w' : World) : Prop :=
  e = .returned (.int .i64 (if (alook tm h).isSome then 0 else 14)) ∧ BookIs F w' v most last (adel tm h) ∧ Chg F w w' ∧ w'.heap.size = w.heap.size
theorem adel_same {α : Type} {m : List (Int × α)} {n : Int} (h : alook m n = none) : adel m n = m := adel_none (alook_none.1 h)
set_option maxHeartbeats 400000 in
theorem bookClose_any (F : Nat → Prop) (v : Value) (most last : Int) (tm : List (Int × Int)) (h : Int) (w : World) (hb : BookIs F w v most last tm) :
    Calls Try.prog 33 #[v, .int .i64 h] w (CloseSaid F v most last tm h w) := by
  have HB := Lib.hid hb
  obtain ⟨⟨b, r, rfl, h2, h3, h4, h5⟩, hd, hr⟩ := hb
  have hc2 : w.cell? ⟨b, 2, none⟩ = some (.map (some r)) := by rw [cell_row h4]; rfl
  have hbr : b ≠ r := by intro e; obtain ⟨es, c, hh, _⟩ := h5; rw [← e, h4] at hh; cases hh
  have HA := Lib.hid (bookAt_any F _ most last tm h w HB.out)
  obtain ⟨w1, hdel, hm1, hT⟩ := h5.delete (P := Try.prog) (ty := 0) Try.underlying98 Try.underlying3 h
  rw [ivs_del] at hm1
  have H4 := Lib.hid h4
  have HM1 := Lib.hid hm1
  have HT := Lib.hid hT
  clear h4 h5 hm1 hT
  unfold atSaid at HA
  cases hq : alook tm h with
  | none =>
    have HQ := Lib.hid hq
    rw [hq] at HA
    clear hq hdel
    go_enter Try.func33, Try.ntmps33
    go_wp2_with (go_at_call 35; refine (HA.out).mono ?_; rintro e w' ⟨rfl, rfl⟩)
    go_ret
    refine ⟨by rw [HQ.out]; rfl, ?_, Chg.refl _ _, rfl⟩
    rw [adel_same HQ.out]; exact HB.out
  | some t =>
    have HQ := Lib.hid hq
    rw [hq] at HA
    clear hq
    go_enter Try.func33, Try.ntmps33
    go_wp2_with (go_at_call 35; refine (HA.out).mono ?_; rintro e w' ⟨rfl, rfl⟩)
    go_ret
    refine ⟨by rw [HQ.out]; rfl, ⟨⟨b, r, rfl, h2, h3, ?_, HM1.out⟩, hd.of_size (by rw [HT.out.size]; exact Nat.le_refl _), fun x hx => hr x ((adel_sublist tm h).subset hx)⟩, HT.out.chg h3, HT.out.size⟩
    rw [HT.out.block b hbr]; exact H4.out
end Go.Proofs
