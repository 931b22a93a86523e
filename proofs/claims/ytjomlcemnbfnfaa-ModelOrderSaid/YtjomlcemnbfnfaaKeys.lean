/- slices.Sorted of a map's keys: the keys, rising, in new memory. -/
import Derived.Test.YtjomlcemnbfnfaaLays
import Derived.Test.YtjomlcemnbfnfaaMaps
import Derived.Lib.Hide
namespace Go.Proofs
open Go.RowKit Sc Go.Maps Go.WideShapes Go.Sort Go.Shelf

def rUnit : Value → Option (DataW Unit × List MemPlace) := fun _ => some (.nil, [])
theorem owns_of {P : Program} {w : World} {k : TypeId} {r : Nat} {m : List (Int × Value)} (hk : P.underlying k = some (.int .i64)) (h : MapIs w r m) (hi : ∀ x ∈ m, I64 x.1) (hm : m.length ≤ maxLen) :
    ∃ D : DataW Unit, w.ownsMap P k rUnit r m.length D ∧ (intKeys D).Perm (m.map (·.1)) ∧ Maps.size D = m.length := by
  obtain ⟨es, clock, hb, he, hn, hbo, hbn⟩ := h
  have hlen : es.size = m.length := by have := congrArg List.length he; simpa using this
  have hkey : ∀ x ∈ es.toList, ∃ n, x.key = .int .i64 n ∧ keyOf P k x.key = some (.int .i64 n) := by
    intro x hx
    obtain ⟨n, v, hmem, hxk, _⟩ := keys_of he x hx
    refine ⟨n, hxk, ?_⟩
    rw [hxk]
    exact keyOf_int_mk hk (WalkArith.wf_i64 (hi (n, v) hmem))
  have hrd : ∀ x ∈ es.toList, ∃ n, x.key = .int .i64 n ∧ Go.WideElems.rd P k rUnit x = some (.int .i64 n, .nil) := by
    intro x hx
    obtain ⟨n, h1, h2⟩ := hkey x hx
    exact ⟨n, h1, by simp [Go.WideElems.rd, h2, rUnit]⟩
  have hmap : (es.toList.map (Go.WideElems.rg P k rUnit)).map (fun p => Go.intOf p.1) = m.map (·.1) := by
    have : ∀ x ∈ es.toList, Go.intOf (Go.WideElems.rg P k rUnit x).1 = intOf x.key := by
      intro x hx
      obtain ⟨n, h1, h2⟩ := hrd x hx
      rw [Go.WideElems.rg_of h2, h1]; rfl
    rw [List.map_map, show es.toList.map ((fun p : Lit × DataW Unit => Go.intOf p.1) ∘ Go.WideElems.rg P k rUnit) = es.toList.map (fun x => intOf x.key) from List.map_congr_left this]
    have h2 := congrArg (List.map (fun y : Value × Value => intOf y.1)) he
    simp only [List.map_map] at h2
    have e1 : es.toList.map (fun x => intOf x.key) = es.toList.map ((fun y : Value × Value => intOf y.1) ∘ ent) := rfl
    have e2 : m.map (·.1) = m.map ((fun y : Value × Value => intOf y.1) ∘ pr) := rfl
    rw [e1, e2]; exact h2
  refine ⟨_, ⟨es, clock, hb, ⟨by omega, ⟨hbo, hbn, ?_⟩, fun x hx => ?_⟩, by omega, rfl⟩, ?_, ?_⟩
  · have h2 := congrArg (List.map Prod.fst) he
    simp only [List.map_map] at h2
    have e1 : es.toList.map (·.key) = es.toList.map (Prod.fst ∘ ent) := rfl
    rw [e1, h2]
    have e2 : m.map (Prod.fst ∘ pr) = (m.map (·.1)).map (Value.int .i64) := by rw [List.map_map]; rfl
    rw [e2]
    exact List.Pairwise.map _ (fun a b hab e => hab (by cases e; rfl)) hn
  · obtain ⟨n, _, h2⟩ := hrd x hx
    exact ⟨_, h2⟩
  · show (((es.toList.map (Go.WideElems.rg P k rUnit)).foldr DataW.insert []).map fun p => Go.intOf p.1).Perm _
    have := (sorted_perm (es.toList.map (Go.WideElems.rg P k rUnit))).map (fun p => Go.intOf p.1)
    rw [hmap] at this
    exact this
  · show ((es.toList.map (Go.WideElems.rg P k rUnit)).foldr DataW.insert []).length = _
    rw [(sorted_perm _).length_eq]; simpa using hlen

/-- slices.Sort's contracts, at the fence that asks nothing. -/
theorem sortsIn (n : Nat) : AnyZI.SortsIn Try.prog Try.sortedA_ren Fence.wide n :=
  ⟨fun blk off cap ss W hH hblk hsz => callsIn_wide.2 (AnyM.slices_Sort_int Try.sortA blk off cap ss W hH hblk hsz),
   fun p cap W => callsIn_wide.2 (AnyM.slices_Sort_int_none Try.sortA p cap W)⟩

/-- The keys, rising. -/
def keysUp (m : List Int) : List Int := m.mergeSort (fun x y => decide (x ≤ y))
def SortedKeys (ks : List Int) (w : World) (e : Ending) (w' : World) : Prop :=
  ∃ v, e = .returned v ∧ w'.ownsRow w.heap.size 3 1 v ks.length ((keysUp ks).map (Value.int .i64)) ∧ Below w.heap.size w w'

theorem keysUp_perm {a b : List Int} (h : a.Perm b) : keysUp a = keysUp b := by
  unfold keysUp
  have ht : ∀ (a b c : Int), decide (a ≤ b) = true → decide (b ≤ c) = true → decide (a ≤ c) = true := fun a b c h1 h2 => by simp only [decide_eq_true_eq] at *; omega
  have hto : ∀ (a b : Int), (decide (a ≤ b) || decide (b ≤ a)) = true := fun a b => by simp only [Bool.or_eq_true, decide_eq_true_eq]; omega
  refine List.Perm.eq_of_pairwise (le := fun x y : Int => x ≤ y) (fun x y _ _ h1 h2 => by omega) ?_ ?_ ?_
  · exact (List.pairwise_mergeSort ht hto a).imp (fun h => by simpa using h)
  · exact (List.pairwise_mergeSort ht hto b).imp (fun h => by simpa using h)
  · exact ((List.mergeSort_perm _ _).trans h).trans (List.mergeSort_perm _ _).symm

theorem keysDat_any (r : Nat) (W : World) :
    Calls Try.prog 53 #[.map (some r)] W fun e w' => e = .returned (.func (.func 71) #[] #[.pointer (some ⟨W.heap.size, 0, none⟩)]) ∧ W.alloc (.cells #[.map (some r)] 80) = w' := by
  go_enter Try.func53, Try.ntmps53
  go_wp2
  go_ret
  exact ⟨rfl, rfl⟩

set_option maxHeartbeats 1000000 in
theorem sortedDat_any (r bx : Nat) (m : List (Int × Value)) (w : World) (h : MapIs w r m) (hi : ∀ x ∈ m, I64 x.1) (hm : m.length ≤ 1000000) (hbl : bx < w.heap.size) (hbx : w.cell? ⟨bx, 0, none⟩ = some (.map (some r))) :
    Calls Try.prog 52 #[.func (.func 71) #[] #[.pointer (some ⟨bx, 0, none⟩)]] w (SortedKeys (m.map (·.1)) w) := by
  refine (callsIn_wide (n := 5)).1 ?_
  obtain ⟨D, hown, hperm, hsize⟩ := owns_of (P := Try.prog) Try.underlying3 h hi (by unfold maxLen; omega)
  have hseq : SeqGives Fence.wide 2 Try.prog 71 #[.pointer (some ⟨bx, 0, none⟩)] encZ (fun ss => ss.Perm (intKeys D)) (Maps.size D) w :=
    AnyZI.keys_gives (ρ := Try.keys53_ren) { Try.keys53 with } Fence.wide _ trivial rfl (by omega) bx r m.length D w hbl hbx hown
  have cS := AnyZI.sorted_in Try.sortedA Fence.wide 5 trivial trivial trivial trivial rfl (by omega) (sortsIn _) (enters_of Try.func70 (by kernel_rfl) rfl) 71 #[.pointer (some ⟨bx, 0, none⟩)] trivial (enters_of Try.func71 (by kernel_rfl) rfl) _ _ (by rw [hsize]; unfold maxLen; omega) (by rw [hsize]; omega) _ hseq
  change CallsIn _ _ Try.prog 52 _ _ _ at cS
  refine cS.mono ?_
  rintro e w' ⟨v, ss, rfl, hS, hrow, hnil, hb⟩
  have hp := hS.trans hperm
  have hu := keysUp_perm hp
  refine ⟨v, rfl, ?_, hb⟩
  rw [← hu, ← hp.length_eq]
  exact hrow







end Go.Proofs
