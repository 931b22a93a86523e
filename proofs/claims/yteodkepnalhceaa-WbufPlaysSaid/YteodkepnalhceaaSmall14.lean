/- Laws of wbuf: are writes looked at? -/
import Derived.Test.YteodkepnalhceaaLaw14
namespace Go.Proofs
open Go.RowKit Sc

theorem rest_old' {W w : World} {L : List Asn} {i : Nat} {G : Foot} (hi : i ≠ 0) (hr : Sc.Rest (OldA W :: L) i G w) : ∀ k, k < W.heap.size → G k := by
  obtain ⟨F, h1, h2⟩ := hr 0 (OldA W) (fun e => hi e.symm) rfl
  exact fun k hk => h1 k (h2.1 k hk)
abbrev RowsAt (G : Nat → Prop) : World → Value → List (List Put) → Prop := SlAt G 1 (rowE (PutsAt G))
def rsz (l : List (List Put)) : Nat := (l.map fun x => psz x + 1).sum
def Small14 (l : List (List Put)) (w : World) (e : Ending) (w' : World) : Prop := ∃ q : Bool, e = .returned (.bool q) ∧ (q = true → rsz l ≤ 20000 ∧ l.length ≤ 100) ∧ Below w.heap.size w w'
theorem rsz_mem {l : List (List Put)} {x : List Put} (h : x ∈ l) : x.length ≤ rsz l := by
  unfold rsz
  induction l with
  | nil => cases h
  | cons a t ih =>
    simp only [List.map_cons, List.sum_cons]
    rcases List.mem_cons.1 h with rfl | h
    · unfold psz; omega
    · have := ih h; omega
set_option maxHeartbeats 2000000 in
theorem small14_any (G : Nat → Prop) (v : Value) (l : List (List Put)) (w : World) (hG : Dom G w) (hv : RowsAt G w v l) : Calls Try.prog 35 #[v] w (Small14 l w) := by
  obtain ⟨p, c, rfl, h1, h2, h3, h4⟩ := hv
  have H4 := Lib.hid h4
  clear h4
  clear h3
  go_enter Try.func35, Try.ntmps35
  go_wp2
  go_loopw [3, 4] (fun s i wr => ∃ k : Nat, k ≤ l.length ∧ i = .int .i64 k ∧ s = .int .i64 (((l.take k).map fun x => psz x + 1).sum : Nat) ∧ Below w.heap.size w wr ∧ Hid (((l.take k).map fun x => psz x + 1).sum ≤ 20000)) (fun _ i _ => l.length - (intOf i).toNat)
  case atStart => exact ⟨0, by omega, rfl, by simp, Below.refl _ _, by unfold Hid; simp⟩
  case round =>
    obtain ⟨k, hk, rfl, rfl, hbw, HS⟩ := hrel
    by_cases hlt : k < l.length
    · obtain ⟨b, o, rfl, hb, pv, hcp, hp⟩ := H4.out k hlt
      rw [Nat.mul_one] at hcp
      have hcp' := cell_up hbw hcp
      have hs := sum_take_succ (fun x : List Put => psz x + 1) l k hlt
      have hS := HS.out
      generalize l[k] = x at hp hs
      generalize ((l.take k).map fun x => psz x + 1).sum = n at *
      have hp' := hp.up hbw
      obtain ⟨pp, pc, rfl, _⟩ := hp
      have HP' := Lib.hid hp'
      have HS := Lib.hid hs
      clear hp' hs
      clear hcp
      go_wp2_with fail
      refine (puts_any G _ x 20000 _ (by have := HP'.out; simpa using this) (by omega) (by omega)).mono ?_
      rintro e w1 ⟨n1, rfl, hn1, hn2, hn3, hb1⟩
      have hbw1 := Below.up hbw hb1
      have HN3 := Lib.hid hn3
      have HB1 := Lib.hid hb1
      clear hn3 hb1
      go_wp2_with fail
      refine (sum_any n [n1, 1] _ 0 _ _ (by omega) (by omega) (fun i hi => ?_) (by simp) (fun i hi => ?_)).mono ?_
      · simp only [List.length_cons, List.length_nil] at hi
        rcases (show i = 0 ∨ i = 1 by omega) with rfl | rfl
        · exact ⟨hn1, by simp; omega⟩
        · exact ⟨by simp, by simp⟩
      · simp only [List.length_cons, List.length_nil] at hi
        rcases (show i = 0 ∨ i = 1 by omega) with rfl | rfl
        · rw [cell_row (heap_alloc_new w1 _)]; rfl
        · rw [cell_row (heap_alloc_new w1 _)]; rfl
      rintro e w2 ⟨rfl, rfl⟩
      have hn3 := HN3.out
      by_cases hbig : n1 ≤ 20000
      · have hx := hn3 hbig
        have hv2 : sumTo n [n1, 1] = ((n + (psz x + 1) : Nat) : Int) := by
          rw [sumTo_go _ _ _ (by omega) (by omega), sumTo_go _ _ _ (by omega) (by omega)]
          show (n : Int) + n1 + 1 = _
          omega
        rw [hv2]
        generalize hm : n + (psz x + 1) = m at *
        have HM := Lib.hid hm
        clear hv2 hx hm hn3
        by_cases hm2 : m ≤ 20000
        · have hm2' : ((m : Nat) : Int) ≤ 20000 := by omega
          go_wp2_with fail
          go_roundw
          case rel => exact ⟨k + 1, by omega, by go_num, by rw [HS.out], hbw1.alloc (by have := hbw1.size; omega) _, by unfold Hid; rw [HS.out]; exact hm2⟩
          case measure => simp [intOf]; omega
        · have hm2' : 20000 < ((m : Nat) : Int) := by omega
          go_wp2_with fail
          go_ret
          exact ⟨false, rfl, fun h => (by cases h), hbw1.alloc (by have := hbw1.size; omega) _⟩
      · have hv2 : 20000 < sumTo n [n1, 1] := by
          simp only [sumTo]
          split
          · omega
          · split <;> omega
        generalize sumTo n [n1, 1] = q at *
        go_wp2_with fail
        go_ret
        exact ⟨false, rfl, fun h => (by cases h), hbw1.alloc (by have := hbw1.size; omega) _⟩
    · obtain rfl : k = l.length := by omega
      have hs : rsz l ≤ 20000 := by
        have := HS.out
        rw [List.take_length] at this; exact this
      have HS := Lib.hid hs
      clear hs
      by_cases h100 : l.length ≤ 100
      · have h100' : (l.length : Int) ≤ 100 := by omega
        go_wp2_with fail
        go_ret
        exact ⟨_, rfl, fun _ => ⟨HS.out, h100⟩, hbw⟩
      · have h100' : 100 < (l.length : Int) := by omega
        clear h100
        go_wp2_with fail
        go_ret
        refine ⟨_, rfl, fun h => ?_, hbw⟩
        simp at h; omega
end Go.Proofs
