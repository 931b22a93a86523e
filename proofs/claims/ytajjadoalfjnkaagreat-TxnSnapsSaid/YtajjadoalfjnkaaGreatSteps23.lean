/- The laws of chapter 23: steps; what small gives. -/
import Derived.Test.YtajjadoalfjnkaaGreatTx7
namespace Go.Proofs
open Go.RowKit Sc

structure Step23 where
  kind : Int
  h : Int
  e : Ext
  puts : List Put
  n : Int
def stepE23 (G : Nat → Prop) : Elem Step23 := fun w b o x => w.cell? ⟨b, o, none⟩ = some (.int .i64 x.kind) ∧ I64 x.kind ∧ w.cell? ⟨b, o + 1, none⟩ = some (.int .i64 x.h) ∧ I64 x.h ∧ w.cell? ⟨b, o + 2, none⟩ = some (.int .i64 x.e.first) ∧ w.cell? ⟨b, o + 3, none⟩ = some (.int .i64 x.e.len) ∧ I64 x.e.first ∧ I64 x.e.len ∧ (∃ pv, w.cell? ⟨b, o + 4, none⟩ = some pv ∧ PutsAt G w pv x.puts) ∧ w.cell? ⟨b, o + 5, none⟩ = some (.int .i64 x.n) ∧ I64 x.n
def Steps23 (G : Nat → Prop) : World → Value → List Step23 → Prop := SlAt G 6 (stepE23 G)
theorem Steps23.up {G : Nat → Prop} {w w' : World} {v : Value} {l : List Step23} (h : Steps23 G w v l) (hb : Below w.heap.size w w') : Steps23 G w' v l :=
  SlAt.up h (fun _ _ _ ⟨h1, h2, h3, h3', h4, h5, h6, h6', ⟨u, h7, h8⟩, h9, h10⟩ => ⟨cell_up hb h1, h2, cell_up hb h3, h3', cell_up hb h4, cell_up hb h5, h6, h6', ⟨u, cell_up hb h7, h8.up hb⟩, cell_up hb h9, h10⟩)

def ssz23 (l : List Step23) : Nat := (l.map fun s => psz s.puts + 3).sum
def Small23 (l : List Step23) (w : World) (e : Ending) (w' : World) : Prop := ∃ q : Bool, e = .returned (.bool q) ∧ (q = true → ssz23 l ≤ 30000 ∧ l.length ≤ 150) ∧ Below w.heap.size w w'
set_option maxHeartbeats 1000000 in
theorem small23_any (G : Nat → Prop) (v : Value) (l : List Step23) (w : World) (hG : Dom G w) (hv : Steps23 G w v l) : Calls Tryz.prog 38 #[v] w (Small23 l w) := by
  obtain ⟨p, c, rfl, h1, h2, h3, h4⟩ := hv
  have H4 := Lib.hid h4
  clear h4
  clear h3
  go_enter Tryz.func38, Tryz.ntmps38
  go_wp2
  go_loopw [3, 4] (fun s i wr => ∃ k : Nat, k ≤ l.length ∧ i = .int .i64 k ∧ s = .int .i64 (((l.take k).map fun s => psz s.puts + 3).sum : Nat) ∧ Below w.heap.size w wr ∧ Hid (((l.take k).map fun s => psz s.puts + 3).sum ≤ 30000)) (fun _ i _ => l.length - (intOf i).toNat)
  case atStart => exact ⟨0, by omega, rfl, by simp, Below.refl _ _, by unfold Hid; simp⟩
  case round =>
    obtain ⟨k, hk, rfl, rfl, hbw, HS⟩ := hrel
    by_cases hlt : k < l.length
    · obtain ⟨b, o, rfl, hb, _, _, _, _, _, _, _, _, ⟨pv, hcp, hp⟩, _, _⟩ := H4.out k hlt
      have hcp' := cell_up hbw hcp
      have hs := sum_take_succ (fun s : Step23 => psz s.puts + 3) l k hlt
      have hS := HS.out
      generalize l[k] = x at hp hs
      generalize ((l.take k).map fun s => psz s.puts + 3).sum = n at *
      have hp' := hp.up hbw
      have HP' := Lib.hid hp'
      have HS := Lib.hid hs
      clear hp' hs
      clear hcp hp
      go_wp2_with fail
      refine (puts_any G _ x.puts 30000 _ (by have := HP'.out; simpa using this) (by omega) (by omega)).mono ?_
      rintro e w1 ⟨n1, rfl, hn1, hn2, hn3, hb1⟩
      have hbw1 := Below.up hbw hb1
      have HN3 := Lib.hid hn3
      have HB1 := Lib.hid hb1
      clear hn3 hb1
      go_wp2_with fail
      refine (sum_any n [n1, 3] _ 0 _ _ (by omega) (by omega) (fun i hi => ?_) (by simp) (fun i hi => ?_)).mono ?_
      · simp only [List.length_cons, List.length_nil] at hi
        rcases (show i = 0 ∨ i = 1 by omega) with rfl | rfl
        · exact ⟨hn1, by simp; omega⟩
        · exact ⟨by simp, by simp⟩
      · simp only [List.length_cons, List.length_nil] at hi
        rcases (show i = 0 ∨ i = 1 by omega) with rfl | rfl
        · rw [cell_row (heap_alloc_new w1 _)]; rfl
        · rw [cell_row (heap_alloc_new w1 _)]; rfl
      rintro e w2 ⟨rfl, rfl⟩
      have hn3 := HN3.out
      by_cases hbig : n1 ≤ 30000
      · have hx := hn3 hbig
        have hv2 : sumTo n [n1, 3] = ((n + (psz x.puts + 3) : Nat) : Int) := by
          rw [sumTo_go _ _ _ (by omega) (by omega), sumTo_go _ _ _ (by omega) (by omega)]
          show (n : Int) + n1 + 3 = _
          omega
        rw [hv2]
        generalize hm : n + (psz x.puts + 3) = m at *
        have HM := Lib.hid hm
        clear hv2 hx hm hn3
        by_cases hm2 : m ≤ 30000
        · have hm2' : ((m : Nat) : Int) ≤ 30000 := by omega
          go_wp2_with fail
          go_roundw
          case rel => exact ⟨k + 1, by omega, by go_num, by rw [HS.out], hbw1.alloc (by have := hbw1.size; omega) _, by unfold Hid; rw [HS.out]; exact hm2⟩
          case measure => simp [intOf]; omega
        · have hm2' : 30000 < ((m : Nat) : Int) := by omega
          go_wp2_with fail
          go_ret
          exact ⟨false, rfl, fun h => (by cases h), hbw1.alloc (by have := hbw1.size; omega) _⟩
      · have hv2 : 30000 < sumTo n [n1, 3] := by
          simp only [sumTo]
          split
          · omega
          · split <;> omega
        generalize sumTo n [n1, 3] = q at *
        clear hn3
        go_wp2_with fail
        go_ret
        exact ⟨false, rfl, fun h => (by cases h), hbw1.alloc (by have := hbw1.size; omega) _⟩
    · have hkl : k = l.length := by omega
      have hS := HS.out
      have hsz : ((l.take k).map fun s => psz s.puts + 3).sum = ssz23 l := by rw [hkl, List.take_length]; rfl
      have HSZ := Lib.hid hsz
      have HKL := Lib.hid hkl
      clear hsz hkl
      by_cases h100 : l.length ≤ 150
      · have h100' : ((l.length : Nat) : Int) ≤ 150 := by omega
        go_wp2_with fail
        go_ret
        exact ⟨true, rfl, fun _ => ⟨by rw [← HSZ.out]; exact hS, h100⟩, hbw⟩
      · have h100' : ¬ ((l.length : Nat) : Int) ≤ 150 := by omega
        go_wp2_with fail
        go_ret
        exact ⟨false, rfl, fun h => (by cases h), hbw⟩
end Go.Proofs
