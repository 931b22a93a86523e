/- The laws of chapter 15: steps; what small gives; a step's cells. -/
import Derived.Test.YtnjidpmggggiiaaLaw15
import Derived.Test.YtnjidpmggggiiaaEvens
namespace Go.Proofs
open Go.RowKit Sc

structure Step15 where
  kind : Int
  e : Ext
  puts : List Put
  n : Int
def Step15.t (s : Step15) : Tx := ⟨s.n, s.puts⟩
def stepE15 (G : Nat → Prop) : Elem Step15 := fun w b o x => w.cell? ⟨b, o, none⟩ = some (.int .i64 x.kind) ∧ I64 x.kind ∧ w.cell? ⟨b, o + 1, none⟩ = some (.int .i64 x.e.first) ∧ w.cell? ⟨b, o + 2, none⟩ = some (.int .i64 x.e.len) ∧ I64 x.e.first ∧ I64 x.e.len ∧ (∃ pv, w.cell? ⟨b, o + 3, none⟩ = some pv ∧ PutsAt G w pv x.puts) ∧ w.cell? ⟨b, o + 4, none⟩ = some (.int .i64 x.n) ∧ I64 x.n
def Steps15 (G : Nat → Prop) : World → Value → List Step15 → Prop := SlAt G 5 (stepE15 G)
theorem Steps15.up {G : Nat → Prop} {w w' : World} {v : Value} {l : List Step15} (h : Steps15 G w v l) (hb : Below w.heap.size w w') : Steps15 G w' v l :=
  SlAt.up h (fun _ _ _ ⟨h1, h2, h3, h4, h5, h6, ⟨u, h7, h8⟩, h9, h10⟩ => ⟨cell_up hb h1, h2, cell_up hb h3, cell_up hb h4, h5, h6, ⟨u, cell_up hb h7, h8.up hb⟩, cell_up hb h9, h10⟩)

def ssz15 (l : List Step15) : Nat := (l.map fun s => psz s.puts + 3).sum
def Small15 (l : List Step15) (w : World) (e : Ending) (w' : World) : Prop := ∃ q : Bool, e = .returned (.bool q) ∧ (q = true → ssz15 l ≤ 20000 ∧ l.length ≤ 120) ∧ Below w.heap.size w w'
set_option maxHeartbeats 1000000 in
theorem small15_any (G : Nat → Prop) (v : Value) (l : List Step15) (w : World) (hG : Dom G w) (hv : Steps15 G w v l) : Calls Try.prog 15 #[v] w (Small15 l w) := by
  obtain ⟨p, c, rfl, h1, h2, h3, h4⟩ := hv
  have H4 := Lib.hid h4
  clear h4
  clear h3
  go_enter Try.func15, Try.ntmps15
  go_wp2
  go_loopw [3, 4] (fun s i wr => ∃ k : Nat, k ≤ l.length ∧ i = .int .i64 k ∧ s = .int .i64 (((l.take k).map fun s => psz s.puts + 3).sum : Nat) ∧ Below w.heap.size w wr ∧ Hid (((l.take k).map fun s => psz s.puts + 3).sum ≤ 20000)) (fun _ i _ => l.length - (intOf i).toNat)
  case atStart => exact ⟨0, by omega, rfl, by simp, Below.refl _ _, by unfold Hid; simp⟩
  case round =>
    obtain ⟨k, hk, rfl, rfl, hbw, HS⟩ := hrel
    by_cases hlt : k < l.length
    · obtain ⟨b, o, rfl, hb, _, _, _, _, _, _, ⟨pv, hcp, hp⟩, _, _⟩ := H4.out k hlt
      have hcp' := cell_up hbw hcp
      have hs := sum_take_succ (fun s : Step15 => psz s.puts + 3) l k hlt
      have hS := HS.out
      generalize l[k] = x at hp hs
      generalize ((l.take k).map fun s => psz s.puts + 3).sum = n at *
      have hp' := hp.up hbw
      have HP' := Lib.hid hp'
      have HS := Lib.hid hs
      clear hp' hs
      clear hcp hp
      go_wp2_with fail
      refine (puts_any G _ x.puts 20000 _ (by have := HP'.out; simpa using this) (by omega) (by omega)).mono ?_
      rintro e w1 ⟨n1, rfl, hn1, hn2, hn3, hb1⟩
      have hbw1 := Below.up hbw hb1
      have HN3 := Lib.hid hn3
      have HB1 := Lib.hid hb1
      clear hn3 hb1
      go_wp2_with fail
      refine (sum_any n [n1, 3] _ 0 _ _ (by omega) (by omega) (fun i hi => ?_) (by simp) (fun i hi => ?_)).mono ?_
      · simp only [List.length_cons, List.length_nil] at hi
        rcases (show i = 0 ∨ i = 1 by omega) with rfl | rfl
        · exact ⟨hn1, by simp; omega⟩
        · exact ⟨by simp, by simp⟩
      · simp only [List.length_cons, List.length_nil] at hi
        rcases (show i = 0 ∨ i = 1 by omega) with rfl | rfl
        · rw [cell_row (heap_alloc_new w1 _)]; rfl
        · rw [cell_row (heap_alloc_new w1 _)]; rfl
      rintro e w2 ⟨rfl, rfl⟩
      have hn3 := HN3.out
      by_cases hbig : n1 ≤ 20000
      · have hx := hn3 hbig
        have hv2 : sumTo n [n1, 3] = ((n + (psz x.puts + 3) : Nat) : Int) := by
          rw [sumTo_go _ _ _ (by omega) (by omega), sumTo_go _ _ _ (by omega) (by omega)]
          show (n : Int) + n1 + 3 = _
          omega
        rw [hv2]
        generalize hm : n + (psz x.puts + 3) = m at *
        have HM := Lib.hid hm
        clear hv2 hx hm hn3
        by_cases hm2 : m ≤ 20000
        · have hm2' : ((m : Nat) : Int) ≤ 20000 := by omega
          go_wp2_with fail
          go_roundw
          case rel => exact ⟨k + 1, by omega, by go_num, by rw [HS.out], hbw1.alloc (by have := hbw1.size; omega) _, by unfold Hid; rw [HS.out]; exact hm2⟩
          case measure => simp [intOf]; omega
        · have hm2' : 20000 < ((m : Nat) : Int) := by omega
          go_wp2_with fail
          go_ret
          exact ⟨false, rfl, fun h => (by cases h), hbw1.alloc (by have := hbw1.size; omega) _⟩
      · have hv2 : 20000 < sumTo n [n1, 3] := by
          simp only [sumTo]
          split
          · omega
          · split <;> omega
        generalize sumTo n [n1, 3] = q at *
        clear hn3
        go_wp2_with fail
        go_ret
        exact ⟨false, rfl, fun h => (by cases h), hbw1.alloc (by have := hbw1.size; omega) _⟩
    · have hkl : k = l.length := by omega
      have hS := HS.out
      have hsz : ((l.take k).map fun s => psz s.puts + 3).sum = ssz15 l := by rw [hkl, List.take_length]; rfl
      have HSZ := Lib.hid hsz
      have HKL := Lib.hid hkl
      clear hsz hkl
      by_cases h100 : l.length ≤ 120
      · have h100' : ((l.length : Nat) : Int) ≤ 120 := by omega
        go_wp2_with fail
        go_ret
        exact ⟨true, rfl, fun _ => ⟨by rw [← HSZ.out]; exact hS, h100⟩, hbw⟩
      · have h100' : ¬ ((l.length : Nat) : Int) ≤ 120 := by omega
        go_wp2_with fail
        go_ret
        exact ⟨false, rfl, fun h => (by cases h), hbw⟩

theorem ssz15_mem {l : List Step15} {s : Step15} (h : s ∈ l) : s.puts.length ≤ ssz15 l := by
  unfold ssz15
  induction l with
  | nil => cases h
  | cons a t ih =>
    simp only [List.map_cons, List.sum_cons]
    rcases List.mem_cons.1 h with rfl | h
    · unfold psz; omega
    · have := ih h; omega
/-- A step's cells, where things stand. -/
theorem step15_cells {W wr : World} {L : List Asn} {lp : Option Addr} {lc : Nat} {l : List Step15} (HL : Hid (Steps15 (Old W) W (.slice lp l.length lc) l)) (HS : Hid (Sep W (OldA W :: L) wr)) {k : Nat} (hk : k < l.length) (hz : ssz15 l ≤ 20000) :
    ∃ s bb o pp pc, l[k] = s ∧ lp = some ⟨bb, o, none⟩ ∧ bb < W.heap.size ∧ W.cell? ⟨bb, o + k * 5, none⟩ = some (.int .i64 s.kind) ∧ W.cell? ⟨bb, o + k * 5 + 4, none⟩ = some (.int .i64 s.n) ∧
      W.cell? ⟨bb, o + k * 5 + 3, none⟩ = some (.slice pp s.puts.length pc) ∧ Hid (∀ L', OldA W :: L = L' → ∀ i, i ≠ 0 → ∀ G, Sc.Rest L' i G wr → TxAt G wr (.agg #[.int .i64 s.n, .slice pp s.puts.length pc]) s.t) ∧ Hid (s.puts.length ≤ 20000) ∧ I64 s.kind ∧ I64 s.n := by
  obtain ⟨p', c', hv', _, _, _, g5⟩ := HL.out
  cases hv'
  obtain ⟨bb, o, rfl, hgb, hck, hki, hcf, hcl, hif, hil, ⟨pv, hcp, hp⟩, hcn, hin⟩ := g5 k hk
  have hpl := ssz15_mem (List.getElem_mem hk)
  have hbo := HS.out.old
  have hp' := hp
  obtain ⟨pp, pc, rfl, _⟩ := hp'
  refine ⟨l[k], bb, o, pp, pc, rfl, rfl, hgb, hck, hcn, hcp, ?_, by unfold Hid; omega, hki, hin⟩
  rintro L' rfl i hi G hG
  exact ⟨_, rfl, hin, (PutsAt.same hp (hbo.block · ·)).mono (rest_old hi hG)⟩
theorem one_code20 {a : Int} (h : 0 ≤ a ∧ a < 20) {S : List Ext} (hS : S = [] ∨ S = [⟨a, 1⟩]) : readCode 20 S ⟨a, 1⟩ = 0 ∧ addNext 64 S [⟨a, 1⟩] = [⟨a, 1⟩] := by
  have hg : SetG S := by
    rcases hS with rfl | rfl
    · exact SetG.nil
    · have h1 := addNext_good (most := 64) (l := [⟨a, 1⟩]) SetG.nil
      have h2 := (addCode_is (most := 64) SetG.nil (l := [⟨a, 1⟩]) (may_one (by omega)) (by simp) (normE_ext (l := [] ++ [⟨a, 1⟩]) (m := [⟨a, 1⟩]) (by simp) (Canon.mk1 (by simp)) fun _ => Iff.rfl)).2
      rw [if_neg (by simp)] at h2
      rw [h2] at h1
      exact h1
  have hn : normE (S ++ [⟨a, 1⟩]) = [⟨a, 1⟩] := by
    refine normE_ext (m := [⟨a, 1⟩]) ?_ (Canon.mk1 (by simp)) fun b => ?_
    · rcases hS with rfl | rfl <;> simp
    · rcases hS with rfl | rfl <;> simp [cov]
  obtain ⟨h1, h2⟩ := addCode_is (most := 64) hg (l := [⟨a, 1⟩]) (may_one (by omega)) (by simp) hn
  rw [if_neg (by simp)] at h1 h2
  refine ⟨?_, h2⟩
  unfold readCode
  rw [if_neg (by simp only; omega), if_neg (by rw [withinB_yes (by simp only; omega)]; decide), if_neg (by rw [h1]; decide)]
theorem getV_above {blocks last : Int} {vs : Vers} (h : GoodE blocks last vs) {t : Tx} (ht : 5 < t.time) (a : Int) : getV (applyNext blocks last vs t) a 5 = getV vs a 5 := by
  unfold applyNext
  split
  · rename_i hc; exact (getV_apply h hc a 5).1 (.inl ht)
  · rfl
end Go.Proofs
