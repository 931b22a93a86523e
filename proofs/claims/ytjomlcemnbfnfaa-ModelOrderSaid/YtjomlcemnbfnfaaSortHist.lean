/- slices.SortStableFunc over histories, by their times: what it leaves. -/
import Derived.Test.YtjomlcemnbfnfaaLayIns
import Derived.Test.YtjomlcemnbfnfaaStableK
import Derived.Test.YtjomlcemnbfnfaaOrdPlain
import Derived.Test.YtjomlcemnbfnfaaSep
namespace Go.Proofs
open Go.RowKit Sc Go.Shelf Go.Sort

/-- A history's cells; tag: its place. -/
structure HC where
  st : Int
  bg : Int
  tm : Int
  fr : Int
  up : Int
  rp : Option Addr
  rn : Nat
  rc : Nat
  pp : Option Addr
  pn : Nat
  pc : Nat
  tag : Nat
instance instHCInh : Inhabited HC := ⟨⟨0, 0, 0, 0, 0, none, 0, 0, none, 0, 0, 0⟩⟩
def encH (x : HC) : List Value := [.int .i64 x.st, .int .i64 x.bg, .int .i64 x.tm, .int .i64 x.fr, .int .i64 x.up, .slice x.rp x.rn x.rc, .slice x.pp x.pn x.pc]
def cmpH (x y : HC) : Int := Lib.compareInt x.tm y.tm
theorem ltH (x y : HC) : ltOf cmpH x y = decide (x.tm < y.tm) := by
  unfold ltOf cmpH Lib.compareInt
  by_cases h1 : x.tm < y.tm
  · simp [h1]
  · by_cases h2 : y.tm < x.tm <;> simp [h1, h2]
theorem swoH : Sort.SWO (ltOf cmpH) where
  irrefl x := by rw [ltH]; simp
  trans x y z h1 h2 := by rw [ltH] at *; simp at *; omega
  ntrans x y z h1 h2 := by rw [ltH] at *; simp at *; omega
set_option maxHeartbeats 1000000 in
theorem replayC_any (x y : HC) (W : World) : Calls Try.prog 49 #[.agg (encH x).toArray, .agg (encH y).toArray] W fun e w' => e = .returned (.int .i64 (cmpH x y)) ∧ ∃ q os', w' = Sort.grow (W.drewN q) os' := by
  have hcon := fun W' => AnyG.cmp_Compare_int Try.cmpInt x.tm y.tm W'
  change ∀ W', Calls Try.prog 50 _ _ _ at hcon
  change ∀ W', Calls Try.prog 50 _ W' (fun e w' => e = .returned (.int .i64 (cmpH x y)) ∧ w' = W') at hcon
  generalize cmpH x y = r at hcon ⊢
  unfold encH
  go_enter Try.func49, Try.ntmps49
  go_wp2_with (go_at_call 50; refine (hcon _).mono ?_; rintro e w' ⟨rfl, rfl⟩)
  go_ret
  exact ⟨rfl, 0, _, by rw [Sort.alloc_eq_grow, Sort.alloc_eq_grow, Sort.grow_grow]; rfl⟩
theorem chg_swk {α : Type} [Inhabited α] {enc : α → List Value} {k : Nat} {w w' : World} {blk : Nat} {d : Array α} (h : SWK enc k w blk 0 d w') : Chg (fun b => b = blk) w w' := by
  obtain ⟨n, os, rfl⟩ := h
  refine ⟨rfl, rfl, rfl, ?_, fun k hk hne => ?_⟩
  · simp [sortWorldK, Sort.putRowK, Sort.putRow, Sort.mapBlock, Sort.grow, Sort.ahead]
  · unfold sortWorldK
    rw [Sort.heap_grow_old _ _ (by simpa [Sort.putRowK, Sort.putRow, Sort.mapBlock, Sort.ahead] using hk)]
    have : blk ≠ k := fun e => hne e.symm
    simp [Sort.putRowK, Sort.putRow, Sort.mapBlock, Sort.ahead, Array.getElem?_modify, this]
theorem insHist_w (enc : HC → List Value) (cf : HC → HC → Int) (g : Nat) (cb : Array Value) (blk off cap a b : Nat) (d0 d : Array HC) (w0 w : World)
    (eg : ∀ args w, (callFunc g args).run Try.prog w = .ok (.enter g args) w) (hcmp : CmpLays Try.prog g cb enc 7 cf blk off d0.size w0) (R : RowK enc 7 w0 blk off d0) (hs : d0.size = d.size) (S : SWK enc 7 w0 blk off d w) (hO : SWO (ltOf cf)) (hab : a ≤ b) (hb : b ≤ d.size) (hsz : d.size < 4611686018427387904) :
    Calls Try.prog 83 #[.slice (some ⟨blk, off, none⟩) d.size cap, .int .i64 a, .int .i64 b, .func (.func g) #[] cb] w fun e w' => e = .returned (.tuple #[]) ∧ SWK enc 7 w0 blk off (Sort.insertionSort (ltOf cf) d a b) w' := by
  have hs' : (Sort.insertionSort (ltOf cf) d a b).size = d.size := (insertionSort_holds hO d a b hab hb).1.1
  have hC : CmpLays Try.prog g cb enc 7 cf blk off d.size w := fun m os dk hdk x y => by
    obtain ⟨n0, os0, rfl⟩ := S
    rw [sortWorldK_on enc 7 w0 blk off n0 m d dk os0 os R.hblk hdk]
    exact hcmp _ _ dk (by omega) x y
  have hcon := AnyQ.insertionSortCmpFunc Try.insHist 7 Try.isAgg45 Try.sizeOf45 enc R.hk R.h1 cf g cb blk off cap a b d w eg hC (S.holds R.hblk R.hH hs.symm) (S.lt R.hblk) hab hb hsz
  change Calls Try.prog 83 _ _ _ at hcon
  refine hcon.mono ?_
  rintro e w' ⟨rfl, n, os, rfl⟩
  exact ⟨rfl, S.on R.hblk n _ os hs'⟩
def SortedH (d : Array HC) (blk : Nat) (w : World) (e : Ending) (w' : World) : Prop :=
  e = .returned (.tuple #[]) ∧ ∃ d' : Array HC, d'.size = d.size ∧ d'.toList.Perm d.toList ∧ d'.toList.Pairwise (fun x y => x.tm < y.tm ∨ (x.tm = y.tm ∧ x.tag ≤ y.tag)) ∧ HoldsK encH 7 w' blk 0 d' ∧ Chg (fun b => b = blk) w w'
theorem lxH {x y : HC} (h : lx (ltOf cmpH) (·.tag) y x = false) : x.tm < y.tm ∨ (x.tm = y.tm ∧ x.tag ≤ y.tag) := by
  obtain ⟨h1, h2⟩ := lx_f.1 h
  rw [ltH] at h1 h2
  simp only [decide_eq_false_iff_not, decide_eq_true_eq] at h1 h2
  omega
set_option maxRecDepth 100000 in
theorem sortHist_any (blk cap : Nat) (d : Array HC) (w : World) (hH : HoldsK encH 7 w blk 0 d) (hblk : blk < w.heap.size) (hl : d.size < 1073741824) (htg : ∀ i, i < d.size → d[i]!.tag = i) :
    Calls Try.prog 48 #[.slice (some ⟨blk, 0, none⟩) d.size cap, .func (.func 49) #[] #[]] w (SortedH d blk w) := by
  have eg : ∀ args w, (callFunc 49 args).run Try.prog w = .ok (.enter 49 args) w := enters_of Try.func49 (by kernel_rfl) rfl
  have R : RowK encH 7 w blk 0 d := ⟨fun _ => rfl, fun x v hv => by simp [encH] at hv; rcases hv with rfl | rfl | rfl | rfl | rfl | rfl | rfl <;> rfl, hH, hblk⟩
  have hc : CmpLays Try.prog 49 #[] encH 7 cmpH blk 0 d.size w := fun m os dk _ x y => replayC_any x y _
  have hcon := stableK_at stabK encH cmpH (·.tag) swoH 49 #[] blk 0 cap d w w eg hc R hl
    (fun a b dk wX SX hs hab hb => by
      have := insHist_w encH cmpH 49 #[] blk 0 cap a b d dk w wX eg hc R hs SX.out swoH hab (by omega) (by omega)
      rwa [← hs] at this) (SWK.start hH) htg
  have HC0 := Lib.hid hcon
  clear hcon
  go_enter Try.func48, Try.ntmps48
  go_wp2_with fail
  refine HC0.out.mono ?_
  rintro e w' ⟨rfl, d', hp, hs, hw⟩
  have HP : Aside _ := hp
  have HS : Aside _ := hs
  have HW : Aside _ := hw
  clear hp hs hw HC0
  go_wp2
  go_end0
  obtain ⟨l1, l2⟩ := sorted_list HP.out HS.out
  exact ⟨rfl, d', HP.out.1, l1, l2.imp fun h => lxH h, SWK.holds HW.out hblk hH HP.out.1, chg_swk HW.out⟩
end Go.Proofs
