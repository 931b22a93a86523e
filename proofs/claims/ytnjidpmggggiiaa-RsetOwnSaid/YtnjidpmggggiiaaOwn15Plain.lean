/- RsetOwn, in plain Lean: the Map with two blocks, the Buf with one, the reads of one's own. -/
import Derived.Test.YtnjidpmggggiiaaFed15
import Derived.Test.YtnjidpmggggiiaaViewReads
namespace Go.Proofs
open Go.RowKit Sc

def ownT (a : Int) : Tx := ⟨3, [⟨a, dataB 50⟩, ⟨a + 1, dataB 51⟩]⟩
theorem own_code {a : Int} (h : 0 ≤ a ∧ a < 19) : applyCode 20 0 (ownT a) = 0 := by
  have hr : riseB (ownT a).puts = true := by
    unfold riseB ownT
    rw [Bool.and_eq_true, decide_eq_true_eq, List.all_eq_true]
    refine ⟨by simp, fun i hi => ?_⟩
    have : i = 0 := by simp at hi; omega
    subst this
    rw [decide_eq_true_eq]
    show lbaAt [⟨a, dataB 50⟩, ⟨a + 1, dataB 51⟩] 0 < lbaAt [⟨a, dataB 50⟩, ⟨a + 1, dataB 51⟩] 1
    simp [lbaAt]; omega
  have h0 : blk 20 (lbaAt (ownT a).puts 0) = true := by
    show blk 20 a = true
    unfold blk; simp; omega
  have h1 : blk 20 (lbaAt (ownT a).puts ((ownT a).puts.length - 1)) = true := by
    show blk 20 (a + 1) = true
    unfold blk; simp; omega
  have h2 : ((ownT a).puts.any fun p => !decide (p.data.length = 40)) = false := by
    unfold ownT
    simp [dataB_length]
  unfold applyCode
  rw [if_neg (by unfold ownT; simp), hr]
  simp only [h0, h1]
  simp [ownT, dataB_length]
/-- What the Map holds. -/
structure OwnM (a : Int) (vs : Vers) : Prop where
  good : GoodE 20 3 vs
  one : (getV vs a 5).1 = dataB 50
  two : (getV vs (a + 1) 5).1 = dataB 51
theorem own_map {a : Int} (h : 0 ≤ a ∧ a < 19) : applyLast 20 0 (ownT a) = 3 ∧ OwnM a (applyNext 20 0 [] (ownT a)) := by
  have hc := own_code h
  have hl : applyLast 20 0 (ownT a) = 3 := by unfold applyLast; rw [if_pos hc]; rfl
  have hg := (good_zero 20).next (ownT a)
  rw [hl] at hg
  have hk := fun k => (getV_apply (good_zero 20) hc k 5).2 (by show (3 : Int) ≤ 5; omega)
  have hn : applyNext 20 0 [] (ownT a) = applyVs (ownT a).time [] (ownT a).puts := by unfold applyNext; rw [if_pos hc]
  refine ⟨hl, hg, ?_, ?_⟩
  · rw [hn, hk a ⟨a, dataB 50⟩ (by simp [ownT]) rfl]
  · rw [hn, hk (a + 1) ⟨a + 1, dataB 51⟩ (by simp [ownT]) rfl]
/-- What the Buf holds behind some writes of the one block. -/
def OwnB (a : Int) (j : Nat) (s : List (Int × Bytes)) : Prop := (j = 0 ∧ s = []) ∨ (0 < j ∧ s = [(a, dataB ((j : Int) - 1))])
theorem OwnB.good {a : Int} {j : Nat} {s : List (Int × Bytes)} (h : OwnB a j s) (ha : 0 ≤ a ∧ a < 19) : BufG 20 s ∧ s.length ≤ 1 := by
  rcases h with ⟨_, rfl⟩ | ⟨_, rfl⟩
  · exact ⟨BufG.start 20, by simp⟩
  · exact ⟨⟨by simp, fun x hx => by rw [List.mem_singleton] at hx; subst hx; exact ⟨by simp only; omega, by simp only; omega, dataB_length _⟩⟩, by simp⟩
theorem OwnB.next {a : Int} {j : Nat} {s : List (Int × Bytes)} (h : OwnB a j s) (ha : 0 ≤ a ∧ a < 19) : bufCode 20 16 s [⟨a, dataB j⟩] = 0 ∧ OwnB a (j + 1) (bufNext 20 16 s [⟨a, dataB j⟩]) := by
  have hout : outB 20 ⟨a, dataB j⟩ = false := by
    unfold outB
    simp only [Bool.or_eq_false_iff, decide_eq_false_iff_not]
    omega
  have hlen : len40 ⟨a, dataB j⟩ = false := by unfold len40; simp [dataB_length]
  have htw : twiceB [⟨a, dataB j⟩] = false := by simp [twiceB]
  have hfr : freshN s [⟨a, dataB j⟩] ≤ 1 := by
    unfold freshN
    exact List.length_filter_le _ _
  have hc : bufCode 20 16 s [⟨a, dataB j⟩] = 0 := by
    have hs := (h.good ha).2
    unfold bufCode
    rw [if_neg (by simp), if_neg (by simp [hout]), if_neg (by simp [hlen]), if_neg (by rw [htw]; decide), if_neg (by omega)]
  refine ⟨hc, .inr ⟨by omega, ?_⟩⟩
  unfold bufNext
  rw [if_pos hc]
  have hj : ((j + 1 : Nat) : Int) - 1 = j := by omega
  rw [hj]
  rcases h with ⟨_, rfl⟩ | ⟨_, rfl⟩
  · rfl
  · show aset [(a, dataB ((j : Int) - 1))] a (dataB j) = _
    simp [aset]
theorem OwnB.read {a : Int} {j : Nat} {s : List (Int × Bytes)} (h : OwnB a j s) {vs : Vers} (hm : OwnM a vs) :
    blkV vs s 5 a = (if j = 0 then dataB 50 else dataB ((j : Int) - 1)) ∧ blkV vs s 5 (a + 1) = dataB 51 ∧ (alook s a).isSome = decide (0 < j) ∧ (alook s (a + 1)).isSome = false := by
  unfold blkV
  have hne : ¬ a + 1 = a := by omega
  have hne2 : ¬ a = a + 1 := by omega
  rcases h with ⟨rfl, rfl⟩ | ⟨h0, rfl⟩
  · simp [alook, hm.one, hm.two]
  · rw [if_neg (by omega)]
    simp [alook, hm.two, h0, hne2]
/-- How many of the reads are one's own. -/
def ownC (R : List Sc.Read) : Nat := (R.filter (·.own)).length
theorem ownC_append (R Q : List Sc.Read) : ownC (R ++ Q) = ownC R + ownC Q := by unfold ownC; rw [List.filter_append, List.length_append]
theorem ownC_le (R : List Sc.Read) : ownC R ≤ R.length := List.length_filter_le _ _
theorem ownC_take (R : List Sc.Read) (k : Nat) (h : k < R.length) : ownC (R.take (k + 1)) = ownC (R.take k) + if R[k].own then 1 else 0 := by
  rw [take_snoc R k h, ownC_append]
  congr 1
  unfold ownC
  generalize R[k] = x
  obtain ⟨p, d, o⟩ := x
  cases o <;> rfl
/-- What is known of the reads. -/
structure OwnR (j : Nat) (R : List Sc.Read) : Prop where
  cnt : ownC R = j
  len : R.length ≤ 2 * j + 2
  d40 : ∀ x ∈ R, x.data.length = 40
theorem own_rows (vs : Vers) (s : List (Int × Bytes)) (a : Int) : rowsF (fun i : Nat => blkV vs s 5 ((⟨a, 2⟩ : Ext).first + i)) (⟨a, 2⟩ : Ext).len.toNat = blkV vs s 5 a ++ blkV vs s 5 (a + 1) := by
  show rowsF _ 2 = _
  rw [rowsF_succ, rowsF_succ]
  show ([] ++ blkV vs s 5 (a + 0)) ++ blkV vs s 5 (a + 1) = _
  rw [Int.add_zero, List.nil_append]
theorem own_reads (vs : Vers) (s : List (Int × Bytes)) (a : Int) : readsV vs s 5 (⟨a, 2⟩ : Ext).first (⟨a, 2⟩ : Ext).len.toNat = [⟨a, blkV vs s 5 a, (alook s a).isSome⟩, ⟨a + 1, blkV vs s 5 (a + 1), (alook s (a + 1)).isSome⟩] := by
  show readsV vs s 5 a 2 = _
  rw [readsV_succ, readsV_succ]
  show ([] ++ [(⟨a + 0, blkV vs s 5 (a + 0), (alook s (a + 0)).isSome⟩ : Sc.Read)]) ++ [(⟨a + 1, blkV vs s 5 (a + 1), (alook s (a + 1)).isSome⟩ : Sc.Read)] = _
  rw [Int.add_zero, List.nil_append]
  rfl
theorem OwnR.more {a : Int} {j : Nat} {s : List (Int × Bytes)} {R : List Sc.Read} {i : Nat} (h : OwnR i R) (hb : OwnB a j s) {vs : Vers} (hm : OwnM a vs) (hij : i + 1 = j ∨ (j = 0 ∧ i = 0 ∧ R = [])) : OwnR j (R ++ readsV vs s 5 (⟨a, 2⟩ : Ext).first (⟨a, 2⟩ : Ext).len.toNat) := by
  obtain ⟨h1, h2, h3, h4⟩ := hb.read hm
  rw [own_reads, h1, h2, h3, h4]
  refine ⟨?_, ?_, fun x hx => ?_⟩
  · rw [ownC_append, h.cnt]
    rcases hij with hij | ⟨rfl, rfl, rfl⟩
    · have : decide (0 < j) = true := by rw [decide_eq_true_eq]; omega
      rw [this]
      show i + 1 = j
      exact hij
    · rfl
  · have := h.len
    simp only [List.length_append, List.length_cons, List.length_nil]
    rcases hij with hij | ⟨rfl, rfl, rfl⟩
    · omega
    · simp
  · rcases List.mem_append.1 hx with hx | hx
    · exact h.d40 x hx
    · simp only [List.mem_cons, List.not_mem_nil, or_false] at hx
      rcases hx with rfl | rfl
      · show (if j = 0 then dataB 50 else dataB ((j : Int) - 1)).length = 40
        split <;> exact dataB_length _
      · exact dataB_length _
theorem two_code20 {a : Int} (h : 0 ≤ a ∧ a < 19) {S : List Ext} (hS : S = [] ∨ S = [⟨a, 2⟩]) : readCode 20 S ⟨a, 2⟩ = 0 ∧ addNext 64 S [⟨a, 2⟩] = [⟨a, 2⟩] ∧ SetG S ∧ S.length ≤ 1 := by
  have hg : SetG S := by
    rcases hS with rfl | rfl
    · exact SetG.nil
    · have h1 := addNext_good (most := 64) (l := [⟨a, 2⟩]) SetG.nil
      have h2 := (addCode_is (most := 64) SetG.nil (l := [⟨a, 2⟩]) (may_one (by omega)) (by simp) (normE_ext (l := [] ++ [⟨a, 2⟩]) (m := [⟨a, 2⟩]) (by simp) (Canon.mk1 (by simp)) fun _ => Iff.rfl)).2
      rw [if_neg (by simp)] at h2
      rw [h2] at h1
      exact h1
  have hn : normE (S ++ [⟨a, 2⟩]) = [⟨a, 2⟩] := by
    refine normE_ext (m := [⟨a, 2⟩]) ?_ (Canon.mk1 (by simp)) fun b => ?_
    · rcases hS with rfl | rfl <;> simp
    · rcases hS with rfl | rfl <;> simp [cov]
  obtain ⟨h1, h2⟩ := addCode_is (most := 64) hg (l := [⟨a, 2⟩]) (may_one (by omega)) (by simp) hn
  rw [if_neg (by simp)] at h1 h2
  refine ⟨?_, h2, hg, by rcases hS with rfl | rfl <;> simp⟩
  unfold readCode
  rw [if_neg (by simp only; omega), if_neg (by rw [withinB_yes (by simp only; omega)]; decide), if_neg (by rw [h1]; decide)]
end Go.Proofs
