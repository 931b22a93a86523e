/- The laws of chapter 12: what small and awake give; a Map among other things. -/
import Derived.Test.YtnegbfeokcjclaaPlainExt
import Derived.Test.YtnegbfeokcjclaaBlock
import Derived.Test.YtnegbfeokcjclaaAlike
namespace Go.Proofs
open Go.RowKit Sc

structure Step12 where
  kind : Int
  t : Tx
  n : Int
def stepE12 (G : Nat → Prop) : Elem Step12 := fun w b o x => w.cell? ⟨b, o, none⟩ = some (.int .i64 x.kind) ∧ I64 x.kind ∧ txE G w b (o + 1) x.t ∧ w.cell? ⟨b, o + 3, none⟩ = some (.int .i64 x.n)
def Steps12 (G : Nat → Prop) : World → Value → List Step12 → Prop := SlAt G 4 (stepE12 G)
theorem Steps12.up {G : Nat → Prop} {w w' : World} {v : Value} {l : List Step12} (h : Steps12 G w v l) (hb : Below w.heap.size w w') : Steps12 G w' v l :=
  SlAt.up h (fun _ _ _ ⟨h1, h2, ⟨h3, h4, u, h5, h6⟩, h7⟩ => ⟨cell_up hb h1, h2, ⟨cell_up hb h3, h4, u, cell_up hb h5, h6.up hb⟩, cell_up hb h7⟩)

def ssz (l : List Step12) : Nat := (l.map fun s => psz s.t.puts + 3).sum
def Small12 (l : List Step12) (w : World) (e : Ending) (w' : World) : Prop := ∃ q : Bool, e = .returned (.bool q) ∧ (q = true → ssz l ≤ 20000 ∧ l.length ≤ 100) ∧ Below w.heap.size w w'
set_option maxHeartbeats 1000000 in
theorem small12_any (G : Nat → Prop) (v : Value) (l : List Step12) (w : World) (hG : Dom G w) (hv : Steps12 G w v l) : Calls Try.prog 13 #[v] w (Small12 l w) := by
  obtain ⟨p, c, rfl, h1, h2, h3, h4⟩ := hv
  have H4 := Lib.hid h4
  clear h4
  clear h3
  go_enter Try.func13, Try.ntmps13
  go_wp2
  go_loopw [3, 4] (fun s i wr => ∃ k : Nat, k ≤ l.length ∧ i = .int .i64 k ∧ s = .int .i64 (((l.take k).map fun s => psz s.t.puts + 3).sum : Nat) ∧ Below w.heap.size w wr ∧ Hid (((l.take k).map fun s => psz s.t.puts + 3).sum ≤ 20000)) (fun _ i _ => l.length - (intOf i).toNat)
  case atStart => exact ⟨0, by omega, rfl, by simp, Below.refl _ _, by unfold Hid; simp⟩
  case round =>
    obtain ⟨k, hk, rfl, rfl, hbw, HS⟩ := hrel
    by_cases hlt : k < l.length
    · obtain ⟨b, o, rfl, hb, hc1, _, ⟨hct, hti, pv, hcp, hp⟩, hcn⟩ := H4.out k hlt
      have hcp' := cell_up hbw hcp
      have hs := sum_take_succ (fun s : Step12 => psz s.t.puts + 3) l k hlt
      have hS := HS.out
      generalize l[k] = x at hp hs
      generalize ((l.take k).map fun s => psz s.t.puts + 3).sum = n at *
      have hp' := hp.up hbw
      have HP' := Lib.hid hp'
      have HS := Lib.hid hs
      clear hp' hs
      clear hc1 hct hcp hcn hti hp
      go_wp2_with fail
      refine (puts_any G _ x.t.puts 20000 _ (by have := HP'.out; simpa using this) (by omega) (by omega)).mono ?_
      rintro e w1 ⟨n1, rfl, hn1, hn2, hn3, hb1⟩
      have hbw1 := Below.up hbw hb1
      have HN3 := Lib.hid hn3
      have HB1 := Lib.hid hb1
      clear hn3 hb1
      go_wp2_with fail
      refine (sum_any n [n1, 3] _ 0 _ _ (by omega) (by omega) (fun i hi => ?_) (by simp) (fun i hi => ?_)).mono ?_
      · simp only [List.length_cons, List.length_nil] at hi
        rcases (show i = 0 ∨ i = 1 by omega) with rfl | rfl
        · exact ⟨hn1, by simp; omega⟩
        · exact ⟨by simp, by simp⟩
      · simp only [List.length_cons, List.length_nil] at hi
        rcases (show i = 0 ∨ i = 1 by omega) with rfl | rfl
        · rw [cell_row (heap_alloc_new w1 _)]; rfl
        · rw [cell_row (heap_alloc_new w1 _)]; rfl
      rintro e w2 ⟨rfl, rfl⟩
      have hn3 := HN3.out
      by_cases hbig : n1 ≤ 20000
      · have hx := hn3 hbig
        have hv2 : sumTo n [n1, 3] = ((n + (psz x.t.puts + 3) : Nat) : Int) := by
          rw [sumTo_go _ _ _ (by omega) (by omega), sumTo_go _ _ _ (by omega) (by omega)]
          show (n : Int) + n1 + 3 = _
          omega
        rw [hv2]
        generalize hm : n + (psz x.t.puts + 3) = m at *
        have HM := Lib.hid hm
        clear hv2 hx hm hn3
        by_cases hm2 : m ≤ 20000
        · have hm2' : ((m : Nat) : Int) ≤ 20000 := by omega
          go_wp2_with fail
          go_roundw
          case rel => exact ⟨k + 1, by omega, by go_num, by rw [HS.out], hbw1.alloc (by have := hbw1.size; omega) _, by unfold Hid; rw [HS.out]; exact hm2⟩
          case measure => simp [intOf]; omega
        · have hm2' : 20000 < ((m : Nat) : Int) := by omega
          go_wp2_with fail
          go_ret
          exact ⟨false, rfl, fun h => (by cases h), hbw1.alloc (by have := hbw1.size; omega) _⟩
      · have hv2 : 20000 < sumTo n [n1, 3] := by
          simp only [sumTo]
          split
          · omega
          · split <;> omega
        generalize sumTo n [n1, 3] = q at *
        clear hn3
        go_wp2_with fail
        go_ret
        exact ⟨false, rfl, fun h => (by cases h), hbw1.alloc (by have := hbw1.size; omega) _⟩
    · have hkl : k = l.length := by omega
      have hS := HS.out
      have hsz : ((l.take k).map fun s => psz s.t.puts + 3).sum = ssz l := by rw [hkl, List.take_length]; rfl
      have HSZ := Lib.hid hsz
      have HKL := Lib.hid hkl
      clear hsz hkl
      by_cases h100 : l.length ≤ 100
      · have h100' : ((l.length : Nat) : Int) ≤ 100 := by omega
        go_wp2_with fail
        go_ret
        exact ⟨true, rfl, fun _ => ⟨by rw [← HSZ.out]; exact hS, h100⟩, hbw⟩
      · have h100' : ¬ ((l.length : Nat) : Int) ≤ 100 := by omega
        go_wp2_with fail
        go_ret
        exact ⟨false, rfl, fun h => (by cases h), hbw⟩

theorem extNew_sep {W w : World} {L : List Asn} (h : Sep W L w) (n : Int) (h1 : 1 ≤ n) (h2 : n ≤ 1048576) :
    Calls Try.prog 15 #[.int .i64 n] w fun e w' => ∃ b : Nat, e = .returned (.tuple #[.pointer (some ⟨b, 0, none⟩), .int .i64 0]) ∧ Sep W (L ++ [ExtA (.pointer (some ⟨b, 0, none⟩)) n 0 []]) w' := by
  refine (extNew_any n w h1 h2).mono ?_
  rintro e w' ⟨v, rfl, hm, hb⟩
  have := h.new hb (ExtA v n 0 []) (fun _ h => h) hm
  obtain ⟨b, r, ml, D, rfl, _⟩ := hm.parts
  exact ⟨b, rfl, this⟩
theorem extApply_sep {W w : World} {L : List Asn} (h : Sep W L w) (i : Nat) {v tv : Value} {blocks last : Int} {vs : Vers} (hi : L[i]? = some (ExtA v blocks last vs)) (h1 : 1 ≤ blocks) (t : Tx) (ht : ∀ G, Sc.Rest L i G w → TxAt G w tv t)
    (hln : ∀ k l, alook vs k = some l → l.length ≤ 1000000) (hpl : t.puts.length ≤ 1000000) :
    Calls Try.prog 16 #[v, tv] w fun e w' => e = .returned (.int .i64 (applyCode blocks last t)) ∧ Sep W (L.set i (ExtA v blocks (applyLast blocks last t) (applyNext blocks last vs t))) w' := by
  obtain ⟨F, G, hF, hR, hFG, hdF, hdG, K⟩ := h.at i hi
  refine (extApply_any F G v tv blocks last vs t w hF h1 (ht G hR) hdG hFG hln hpl).mono ?_
  rintro e w' ⟨rfl, hc, hm⟩
  exact ⟨rfl, K w' _ (ExtA v blocks (applyLast blocks last t) (applyNext blocks last vs t)) hc (fun k hk => hk) hm⟩
/-- An argument is as it was: for what is handed on. -/
theorem rest_old {W w : World} {L : List Asn} {i : Nat} {G : Foot} (hi : i ≠ 0) (hr : Sc.Rest (OldA W :: L) i G w) : ∀ k, k < W.heap.size → G k := by
  obtain ⟨F, h1, h2⟩ := hr 0 (OldA W) (fun e => hi e.symm) rfl
  exact fun k hk => h1 k (h2.1 k hk)
theorem data_sz (k : Int) : (dataB k).length = 40 := dataB_length k

set_option maxRecDepth 100000 in
set_option maxHeartbeats 2000000 in
theorem awake12 (w : World) : Calls Try.prog 14 #[] w fun e w' => e = .returned (.bool true) ∧ Below w.heap.size w w' := by
  go_enter Try.func14, Try.ntmps14
  go_wp2_with fail
  refine (extNew_sep (Sep.start w) 3 (by omega) (by omega)).mono ?_
  rintro e w1 ⟨b, rfl, hS1⟩
  have HS1 := Lib.hid hS1
  clear hS1
  go_wp2_with fail
  refine (data_any 1 _).mono ?_
  rintro e w2 ⟨dv, rfl, hd, hb2⟩
  obtain ⟨dp, dc, rfl⟩ := shape_of hd (data_sz 1)
  have HD := Lib.hid hd
  have HB2 := Lib.hid hb2
  clear hd hb2
  go_wp2_with fail
  have hp := putsAt_one (n := 0) (by unfold I64; omega) HD.out HB2.out.size 38
  have hb13 : Below w1.heap.size w1 (w2.alloc (.cells #[.int .i64 0, .slice dp 40 dc] 38)) := Below.up HB2.out (below_alloc _ _)
  have hS3 := HS1.out.new hb13 ⟨fun F w => PutsAt F w (.slice (some ⟨w2.heap.size, 0, none⟩) 1 1) [⟨0, dataB 1⟩], fun _ _ _ hs _ h => h.same hs⟩ (F := New w1 (w2.alloc (.cells #[.int .i64 0, .slice dp 40 dc] 38))) (fun _ h => h) hp
  refine (extApply_sep hS3 1 rfl (by omega) ⟨1, [⟨0, dataB 1⟩]⟩ (fun G hG => ?_) (fun k l h => by simp [alook] at h) (by simp)).mono ?_
  · obtain ⟨F, hF, hpp⟩ := hG 2 _ (by decide) rfl
    exact ⟨_, rfl, by unfold I64; simp only; omega, PutsAt.mono hpp hF⟩
  rintro e w4 ⟨rfl, hS4⟩
  have hcd : applyCode 3 0 ⟨1, [⟨0, dataB 1⟩]⟩ = 0 := by decide +kernel
  have hvs : applyNext 3 0 [] ⟨1, [⟨0, dataB 1⟩]⟩ = [(0, [⟨1, dataB 1⟩])] := by unfold applyNext; rw [if_pos hcd]; rfl
  have hls : applyLast 3 0 ⟨1, [⟨0, dataB 1⟩]⟩ = 1 := by unfold applyLast; rw [if_pos hcd]
  rw [hcd]
  rw [hvs, hls] at hS4
  have hg0 : getV [(0, [⟨1, dataB 1⟩])] 0 0 = (zeroB, 0) := rfl
  have hg9 : getV [(0, [⟨1, dataB 1⟩])] 0 9 = (dataB 1, 1) := rfl
  have hd40 : ∀ k l, alook [((0 : Int), [(⟨1, dataB 1⟩ : Put)])] k = some l → ∀ p ∈ l, p.data.length ≤ 1000000 := by
    intro k l h p hp
    simp only [alook] at h
    split at h
    · cases h
      rw [List.mem_singleton] at hp; subst hp
      simp only [dataB_length]; omega
    · cases h
  have hbk : blk 3 0 = true := by decide
  have HS4 := Lib.hid hS4
  have HG0 := Lib.hid hg0
  have HG9 := Lib.hid hg9
  have HD40 := Lib.hid hd40
  have HBK := Lib.hid hbk
  clear hS4 hg0 hg9 hd40 hbk
  clear hS3 hcd hvs hls hp hb13
  obtain ⟨F, hF, _⟩ := HS4.out.get 1 rfl
  go_wp2_with fail
  refine (extGet_any F _ _ _ _ 0 0 _ hF HD40.out).mono ?_
  rintro e w5 (⟨hno, _⟩ | ⟨_, v5, rfl, hv5, hb5⟩)
  · exact absurd (hno.symm.trans HBK.out) (by decide)
  rw [HG0.out] at hv5 ⊢
  have hS5 := HS4.out.up hb5
  obtain ⟨g5, o5, c5, rfl, hc51, hc52⟩ := hv5.base (by decide)
  have HV5 := Lib.hid hv5
  have HB5 := Lib.hid hb5
  have HS5 := Lib.hid hS5
  clear hv5 hb5 hS5
  clear hF
  obtain ⟨F, hF, _⟩ := HS5.out.get 1 rfl
  go_wp2_with fail
  refine (extGet_any F _ _ _ _ 0 9 _ hF HD40.out).mono ?_
  rintro e w6 (⟨hno, _⟩ | ⟨_, v6, rfl, hv6, hb6⟩)
  · exact absurd (hno.symm.trans HBK.out) (by decide)
  rw [HG9.out] at hv6 ⊢
  have hS6 := HS5.out.up hb6
  have hv56 : BytesW (New w4 w5) w6 (.slice (some ⟨g5, o5, none⟩) zeroB.length c5) zeroB := HV5.out.up hb6
  obtain ⟨p, c', hve, _, _, _, h4⟩ := hv56
  obtain ⟨b', o', hpe, _, hc0, _⟩ := h4 0 (by decide)
  cases hve
  cases hpe
  have hz0 : zeroB[0] = 0 := rfl
  rw [hz0] at hc0
  have hc0' : w6.cell? ⟨g5, o5, none⟩ = some (.int .u8 0) := by simpa using hc0
  have hzl : zeroB.length = 40 := rfl
  rw [hzl]
  have HV6 := Lib.hid hv6
  have HB6 := Lib.hid hb6
  have HS6 := Lib.hid hS6
  clear hv6 hb6 hS6
  clear hF h4 hc0 hz0 hzl hc51
  go_wp2_with fail
  refine (data_any 1 _).mono ?_
  rintro e w7 ⟨dv7, rfl, hd7, hb7⟩
  have hS7 := HS6.out.up hb7
  have HD7 := Lib.hid hd7
  have HB7 := Lib.hid hb7
  have HS7 := Lib.hid hS7
  clear hd7 hb7 hS7
  go_wp2_with fail
  refine (bytes_any (fun _ => True) _ _ (dataB 1) (dataB 1) _ (BytesAt.mono ((BytesW.bytes HV6.out).up HB7.out) fun _ _ => trivial) (BytesAt.mono HD7.out fun _ _ => trivial)).mono ?_
  rintro e w8 ⟨rfl, hb8⟩
  have hS8 := HS7.out.up hb8
  have HB8 := Lib.hid hb8
  have HS8 := Lib.hid hS8
  clear hb8 hS8
  rw [show (dataB 1 == dataB 1) = true by simp]
  go_wp2_with fail
  go_ret
  exact ⟨rfl, HS8.out.old⟩
end Go.Proofs
