/- Laws of wbuf: Bufs side by side with other things; what the document fixes. -/
import Derived.Test.YteodkepnalhceaaWbuf4
import Derived.Test.YteodkepnalhceaaAlike
import Derived.Test.YteodkepnalhceaaBlock
namespace Go.Proofs
open Go.RowKit Sc

theorem putsTo_keys (l : List Put) : ∀ s : List (Int × Bytes), ∀ x ∈ putsTo s l, (x ∈ s) ∨ ∃ p ∈ l, x = (p.lba, p.data) := by
  induction l with
  | nil => intro s x hx; exact .inl hx
  | cons p l ih =>
    intro s x hx
    rcases ih (aset s p.lba p.data) x hx with h | ⟨q, hq, rfl⟩
    · rcases aset_mem h with rfl | h
      · exact .inr ⟨p, by simp, rfl⟩
      · exact .inl h
    · exact .inr ⟨q, by simp [hq], rfl⟩
theorem putsTo_nodup (l : List Put) : ∀ s : List (Int × Bytes), (s.map (·.1)).Nodup → ((putsTo s l).map (·.1)).Nodup := by
  induction l with
  | nil => intro s h; exact h
  | cons p l ih => intro s h; exact ih _ (nodup_aset h _ _)
theorem aset_len (s : List (Int × Bytes)) (k : Int) (d : Bytes) : (aset s k d).length = s.length + if (alook s k).isNone then 1 else 0 := by
  induction s with
  | nil => rfl
  | cons x t ih =>
    obtain ⟨n, y⟩ := x
    by_cases h : n = k
    · subst h; simp [aset, alook]
    · simp [aset, alook, h, ih]; omega
theorem putsTo_len (l : List Put) : ∀ s : List (Int × Bytes), (l.map (·.lba)).Nodup → (putsTo s l).length = s.length + freshN s l := by
  induction l with
  | nil => intro s _; rfl
  | cons p l ih =>
    intro s hn
    simp only [List.map_cons, List.nodup_cons] at hn
    show (putsTo (aset s p.lba p.data) l).length = _
    rw [ih _ hn.2, aset_len]
    have : freshN (aset s p.lba p.data) l = freshN s l := by
      unfold freshN
      congr 1
      refine List.filter_congr fun q hq => ?_
      rw [alook_aset, if_neg (fun e => hn.1 (List.mem_map.2 ⟨q, hq, e⟩))]
    rw [this]
    unfold freshN
    rw [List.filter_cons]
    split <;> simp_all <;> omega
/-- A Buf that came of Writes. -/
structure BufG (blocks : Int) (s : List (Int × Bytes)) : Prop where
  nd : (s.map (·.1)).Nodup
  ks : ∀ x ∈ s, 0 ≤ x.1 ∧ x.1 < blocks ∧ x.2.length = 40
theorem BufG.start (blocks : Int) : BufG blocks [] := ⟨List.nodup_nil, by simp⟩
theorem bufCode_zero {blocks most : Int} {s : List (Int × Bytes)} {l : List Put} (h : bufCode blocks most s l = 0) : l ≠ [] ∧ (∀ p ∈ l, 0 ≤ p.lba ∧ p.lba < blocks) ∧ (∀ p ∈ l, p.data.length = 40) ∧ (l.map (·.lba)).Nodup ∧ ((s.length + freshN s l : Nat) : Int) ≤ most := by
  unfold bufCode at h
  split at h
  · cases h
  rename_i h1
  split at h
  · cases h
  rename_i h2
  split at h
  · cases h
  rename_i h3
  split at h
  · cases h
  rename_i h4
  split at h
  · cases h
  rename_i h5
  refine ⟨h1, fun p hp => ?_, fun p hp => ?_, twiceB_no.1 (by simpa using h4), by omega⟩
  · simp only [List.any_eq_true, not_exists, not_and, outB, Bool.or_eq_true, decide_eq_true_eq] at h2
    have := h2 p hp; omega
  · simp only [List.any_eq_true, not_exists, not_and, len40] at h3
    have := h3 p hp
    simpa using this
theorem BufG.next {blocks most : Int} {s : List (Int × Bytes)} (h : BufG blocks s) (l : List Put) : BufG blocks (bufNext blocks most s l) := by
  unfold bufNext
  split
  · rename_i hc
    obtain ⟨_, h2, h3, _, _⟩ := bufCode_zero hc
    refine ⟨putsTo_nodup l s h.nd, fun x hx => ?_⟩
    rcases putsTo_keys l s x hx with hx | ⟨p, hp, rfl⟩
    · exact h.ks x hx
    · exact ⟨(h2 p hp).1, (h2 p hp).2, h3 p hp⟩
  · exact h
theorem bufNext_len {blocks most : Int} {s : List (Int × Bytes)} (l : List Put) : (bufNext blocks most s l).length ≤ s.length + l.length ∧ ((s.length : Int) ≤ most → ((bufNext blocks most s l).length : Int) ≤ most) := by
  unfold bufNext
  split
  · rename_i hc
    obtain ⟨_, _, _, h4, h5⟩ := bufCode_zero hc
    rw [putsTo_len l s h4]
    have : freshN s l ≤ l.length := by unfold freshN; exact List.length_filter_le _ _
    exact ⟨by omega, fun _ => h5⟩
  · exact ⟨by omega, fun h => h⟩
theorem BufG.i64 {blocks : Int} {s : List (Int × Bytes)} (h : BufG blocks s) (hb : blocks ≤ 1048576) : ∀ x ∈ s, I64 x.1 := fun x hx => by have := h.ks x hx; unfold I64; omega
theorem BufG.d40 {blocks : Int} {s : List (Int × Bytes)} (h : BufG blocks s) : ∀ x ∈ s, x.2.length ≤ 1000000 := fun x hx => by have := h.ks x hx; omega

theorem bufNew_sep {W w : World} {L : List Asn} (h : Sep W L w) (n m : Int) (h1 : 1 ≤ n) (h2 : n ≤ 1048576) (h3 : 0 ≤ m) :
    Calls Try.prog 27 #[.int .i64 n, .int .i64 m] w fun e w' => ∃ b : Nat, e = .returned (.tuple #[.pointer (some ⟨b, 0, none⟩), .int .i64 0]) ∧ Hid (Sep W (L ++ [BufA (.pointer (some ⟨b, 0, none⟩)) n m []]) w') := by
  refine (bufNew_any n m w h1 h2 h3).mono ?_
  rintro e w' ⟨b, rfl, hm, hb⟩
  exact ⟨b, rfl, h.new hb (BufA _ n m []) (fun _ h => h) hm⟩
theorem bufWrite_sep {W w : World} {L : List Asn} (h : Sep W L w) (i : Nat) {v lv : Value} {blocks most : Int} {s : List (Int × Bytes)} (hi : L[i]? = some (BufA v blocks most s)) (l : List Put) (hl : ∀ G, Sc.Rest L i G w → PutsAt G w lv l) (n0 : s.length ≤ 1000000) (n1 : l.length ≤ 1000000) :
    Calls Try.prog 30 #[v, lv] w fun e w' => e = .returned (.int .i64 (bufCode blocks most s l)) ∧ Hid (Sep W (L.set i (BufA v blocks most (bufNext blocks most s l))) w') := by
  obtain ⟨F, G, hF, hR, hFG, hdF, hdG, K⟩ := h.at i hi
  refine (bufWrite_any F G v lv blocks most s l w hF (hl G hR) hdG hFG n0 n1).mono ?_
  rintro e w' ⟨rfl, hc, hm⟩
  exact ⟨rfl, K w' _ (BufA v blocks most (bufNext blocks most s l)) hc (fun k hk => hk) hm⟩
theorem bufLen_sep {W w : World} {L : List Asn} (h : Hid (Sep W L w)) (i : Nat) {v : Value} {blocks most : Int} {s : List (Int × Bytes)} (hi : L[i]? = some (BufA v blocks most s)) (hg : BufG blocks s) (hb : blocks ≤ 1048576) (hl : s.length ≤ 1000000) :
    Calls Try.prog 31 #[v] w fun e w' => e = .returned (.int .i64 s.length) ∧ Hid (Below w.heap.size w w') ∧ Hid (Sep W L w') := by
  obtain ⟨F, hF, _⟩ := h.out.get i hi
  refine (bufLen_any F v blocks most s w hF (hg.i64 hb) hl hg.d40).mono ?_
  rintro e w' ⟨rfl, hb⟩
  exact ⟨rfl, hb, h.out.up hb⟩
/-- Bytes that are read. -/
def ByA (v : Value) (d : Bytes) : Asn := ⟨fun F w => BytesAt F w v d, fun _ _ _ hs _ h => h.same hs⟩
theorem puts_box1 {G : Nat → Prop} {w : World} {g : Nat} {n : Int} {dv : Value} {d : Bytes} {T : TypeId} (hh : w.heap[g]? = some (.cells #[.int .i64 n, dv] T (0, 0))) (hg : G g) (hn : I64 n) (hd : BytesAt G w dv d) : PutsAt G w (.slice (some ⟨g, 0, none⟩) 1 1) [⟨n, d⟩] := by
  refine ⟨_, 1, rfl, Nat.le_refl _, by omega, (by intro h; cases h), fun i hi => ?_⟩
  simp only [List.length_cons, List.length_nil] at hi
  obtain rfl : i = 0 := by omega
  exact ⟨g, 0, rfl, hg, by rw [cell_row hh]; rfl, hn, dv, by rw [cell_row hh]; rfl, hd⟩
theorem puts_box2 {G : Nat → Prop} {w : World} {g : Nat} {n m : Int} {dv ev : Value} {d e : Bytes} {T : TypeId} (hh : w.heap[g]? = some (.cells #[.int .i64 n, dv, .int .i64 m, ev] T (0, 0))) (hg : G g) (hn : I64 n) (hm : I64 m) (hd : BytesAt G w dv d) (he : BytesAt G w ev e) : PutsAt G w (.slice (some ⟨g, 0, none⟩) 2 2) [⟨n, d⟩, ⟨m, e⟩] := by
  refine ⟨_, 2, rfl, Nat.le_refl _, by omega, (by intro h; cases h), fun i hi => ?_⟩
  simp only [List.length_cons, List.length_nil] at hi
  rcases (show i = 0 ∨ i = 1 by omega) with rfl | rfl
  · exact ⟨g, 0, rfl, hg, by rw [cell_row hh]; rfl, hn, dv, by rw [cell_row hh]; rfl, hd⟩
  · exact ⟨g, 0, rfl, hg, by rw [cell_row hh]; rfl, hm, ev, by rw [cell_row hh]; rfl, he⟩
theorem bufWrite_one {W w : World} {L : List Asn} (h : Hid (Sep W L w)) (i j : Nat) (hij : j ≠ i) {v dv : Value} {d : Bytes} {blocks most : Int} {s : List (Int × Bytes)} (hi : L[i]? = some (BufA v blocks most s)) (hj : L[j]? = some (ByA dv d)) (n : Int) (hn : I64 n) (g : Nat) (hg : w.heap.size = g) (n0 : s.length ≤ 1000000) :
    Calls Try.prog 30 #[v, .slice (some ⟨g, 0, none⟩) 1 1] (w.alloc (.cells #[.int .i64 n, dv] 54)) fun e w' => e = .returned (.int .i64 (bufCode blocks most s [⟨n, d⟩])) ∧ Hid (Sep W (L.set i (BufA v blocks most (bufNext blocks most s [⟨n, d⟩]))) w') := by
  subst hg
  have hil : i < L.length := (List.getElem?_eq_some_iff.1 hi).1
  have hjl : j < L.length := (List.getElem?_eq_some_iff.1 hj).1
  have h1 := h.out.new (below_alloc w _) (BoxA w.heap.size #[.int .i64 n, dv] 54) (F := New w (w.alloc (.cells #[.int .i64 n, dv] 54))) (fun _ h => h) ⟨⟨Nat.le_refl _, by simp⟩, heap_alloc_new w _⟩
  refine (bufWrite_sep h1 i (by rw [List.getElem?_append_left hil]; exact hi) [⟨n, d⟩] (fun G hR => ?_) n0 (by simp)).mono ?_
  · obtain ⟨F1, a1, a2⟩ := hR j (ByA dv d) hij (by rw [List.getElem?_append_left hjl]; exact hj)
    obtain ⟨F2, b1, b2⟩ := hR L.length (BoxA w.heap.size #[.int .i64 n, dv] 54) (by omega) (by rw [List.getElem?_append_right (Nat.le_refl _)]; simp)
    exact puts_box1 b2.2 (b1 _ b2.1) hn (BytesAt.mono a2 a1)
  · rintro e w' ⟨rfl, hS⟩
    refine ⟨rfl, ?_⟩
    have := hS.out.take L.length
    rw [List.set_append_left _ _ hil, List.take_left' (by simp)] at this
    exact this
set_option maxRecDepth 100000 in
set_option maxHeartbeats 2000000 in
theorem awake14 (w : World) : Calls Try.prog 26 #[] w fun e w' => e = .returned (.bool true) ∧ Below w.heap.size w w' := by
  have hc1 : bufCode 10 16 [] [⟨3, dataB 1⟩, ⟨3, dataB 1⟩] = 4 := by decide +kernel
  have hn1 : bufNext 10 16 [] [⟨3, dataB 1⟩, ⟨3, dataB 1⟩] = [] := by unfold bufNext; rw [if_neg (by rw [hc1]; decide)]
  have hc2 : bufCode 10 16 [] [⟨3, dataB 1⟩] = 0 := by decide +kernel
  have hn2 : bufNext 10 16 [] [⟨3, dataB 1⟩] = [(3, dataB 1)] := by unfold bufNext; rw [if_pos hc2]; rfl
  have hg2 : BufG 10 [(3, dataB 1)] := by rw [← hn2]; exact (BufG.start 10).next _
  have HC1 := Lib.hid hc1
  have HN1 := Lib.hid hn1
  have HC2 := Lib.hid hc2
  have HN2 := Lib.hid hn2
  have HG2 := Lib.hid hg2
  clear hc1 hn1 hc2 hn2 hg2
  go_enter Try.func26, Try.ntmps26
  go_wp2_with fail
  refine (bufNew_sep (Sep.start w) 10 16 (by omega) (by omega) (by omega)).mono ?_
  rintro e w1 ⟨b, rfl, HS1⟩
  go_wp2_with fail
  refine (data_any 1 _).mono ?_
  rintro e w2 ⟨dv, rfl, hd, hb2⟩
  have hS2 := HS1.out.new hb2 (ByA dv (dataB 1)) (fun _ h => h) hd
  obtain ⟨dp, dc, rfl⟩ := shape_of hd (dataB_length 1)
  have hS3 := hS2.new (below_alloc w2 _) (BoxA w2.heap.size #[.int .i64 3, .slice dp 40 dc, .int .i64 3, .slice dp 40 dc] 54) (F := New w2 (w2.alloc (.cells #[.int .i64 3, .slice dp 40 dc, .int .i64 3, .slice dp 40 dc] 54))) (fun _ h => h) ⟨⟨Nat.le_refl _, by simp⟩, heap_alloc_new w2 _⟩
  have HS2 := Lib.hid hS2
  have HS3 := Lib.hid hS3
  have HD := Lib.hid hd
  have HB2 := Lib.hid hb2
  clear hS2 hS3 hd hb2
  go_wp2_with fail
  refine (bufWrite_sep HS3.out 1 rfl [⟨3, dataB 1⟩, ⟨3, dataB 1⟩] (fun G hR => ?_) (by simp) (by simp)).mono ?_
  · obtain ⟨F1, a1, a2⟩ := hR 2 (ByA (.slice dp 40 dc) (dataB 1)) (by decide) rfl
    obtain ⟨F2, b1, b2⟩ := hR 3 _ (by decide) rfl
    exact puts_box2 b2.2 (b1 _ b2.1) (i64_small (by omega)) (i64_small (by omega)) (BytesAt.mono a2 a1) (BytesAt.mono a2 a1)
  rintro e w3 ⟨rfl, HS4⟩
  rw [HC1.out]
  rw [HN1.out] at HS4
  go_wp2_with fail
  refine (bufWrite_one HS4 1 2 (by decide) rfl rfl 3 (i64_small (by omega)) _ rfl (by simp)).mono ?_
  rintro e w4 ⟨rfl, HS5⟩
  rw [HC2.out]
  rw [HN2.out] at HS5
  go_wp2_with fail
  refine (bufLen_sep HS5 1 rfl HG2.out (by omega) (by simp)).mono ?_
  rintro e w5 ⟨rfl, HB5, HS6⟩
  go_wp2
  go_ret
  exact ⟨rfl, HS6.out.old⟩
end Go.Proofs
