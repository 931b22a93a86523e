/- WbufPlays: whatever is written, vector by vector, each call answers, and what is there is, as the document says: for every input the law returns true. -/
import Derived.Test.YteodkepnalhceaaRefBuf2
import Derived.Test.YteodkepnalhceaaPlainParts
import Derived.Test.YteodkepnalhceaaSmall14
import Derived.Test.YteodkepnalhceaaSamePuts
import Derived.Test.YteodkepnalhceaaRefSet
import Derived.Test.YteodkepnalhceaaExtsEq
import Derived.Test.YteodkepnalhceaaWbuf4
import Derived.Deep.RegionLaw
import Derived.Test.YteodkepnalhceaaRegG
namespace Go.Proofs
open Go.RowKit Sc

theorem bufPuts_asc {s : List (Int × Bytes)} (hn : (s.map (·.1)).Nodup) : Asc (bufPuts s) := by
  unfold Asc bufPuts
  rw [List.pairwise_map]
  exact keysUp_lt hn
theorem lookP_map (f : Int → Bytes) (k : Int) : ∀ l : List Int, lookP (l.map fun x => ⟨x, f x⟩) k = if k ∈ l then some (f k) else none
  | [] => by simp [lookP_nil]
  | a :: l => by
    rw [List.map_cons, lookP_cons, lookP_map f k l]
    by_cases h : a = k
    · subst h; simp
    · rw [if_neg h]
      by_cases hk : k ∈ l
      · rw [if_pos hk, if_pos (List.mem_cons_of_mem _ hk)]
      · rw [if_neg hk, if_neg (fun hh => (List.mem_cons.1 hh).elim (fun e => h e.symm) hk)]
theorem lookP_puts {s : List (Int × Bytes)} (k : Int) : lookP (bufPuts s) k = alook s k := by
  unfold bufPuts
  rw [lookP_map]
  have hm : k ∈ keysUp (s.map (·.1)) ↔ alook s k ≠ none := by
    have e0 : k ∈ keysUp (s.map (·.1)) ↔ k ∈ s.map (·.1) := (List.mergeSort_perm _ _).mem_iff
    rw [e0, ne_eq, alook_none]
    constructor
    · intro hm hall
      obtain ⟨p, hp, rfl⟩ := List.mem_map.1 hm
      exact hall p hp rfl
    · intro hne
      simp only [Classical.not_forall, Decidable.not_not] at hne
      obtain ⟨p, hp, he⟩ := hne
      exact List.mem_map.2 ⟨p, hp, he⟩
  by_cases h : alook s k = none
  · rw [if_neg (fun hh => hm.1 hh h), h]
  · rw [if_pos (hm.2 h)]
    obtain ⟨d, hd⟩ := Option.ne_none_iff_exists'.1 h
    rw [hd]; rfl
theorem BufR.puts {s : List (Int × Bytes)} {L : List Put} (h : BufR s L) : bufPuts s = L := asc_ext (bufPuts_asc h.nd) h.asc fun k => by rw [lookP_puts, h.look]
theorem rsz_take (l : List (List Put)) (k : Nat) (h : k < l.length) : rsz (l.take (k + 1)) = rsz (l.take k) + (psz l[k] + 1) := by
  unfold rsz
  rw [take_snoc l k h, List.map_append, List.sum_append]; simp
theorem rsz_le (l : List (List Put)) (k : Nat) : rsz (l.take k) ≤ rsz l := by
  have h : rsz l = rsz (l.take k ++ l.drop k) := by rw [List.take_append_drop]
  rw [h]
  unfold rsz
  rw [List.map_append, List.sum_append]
  omega

theorem bufNew_bad (n m : Int) (w : World) (h : n < 1 ∨ 1048576 < n ∨ m < 0) : Calls Try.prog 27 #[.int .i64 n, .int .i64 m] w fun e w' => e = .returned (.tuple #[.pointer none, .int .i64 1]) ∧ Below w.heap.size w w' := by
  rcases (show n < 1 ∨ (¬ n < 1 ∧ 1048576 < n) ∨ (¬ n < 1 ∧ ¬ 1048576 < n ∧ m < 0) by omega) with h | ⟨h, h2⟩ | ⟨h, h2, h3⟩
  all_goals
    go_enter Try.func27, Try.ntmps27
    go_wp2
    go_ret2
    exact ⟨rfl, Below.refl _ _⟩
theorem refBufNew_bad (n m : Int) (w : World) (h : n < 1 ∨ 1048576 < n ∨ m < 0) : Calls Try.prog 38 #[.int .i64 n, .int .i64 m] w fun e w' => e = .returned (.tuple #[.pointer none, .int .i64 1]) ∧ Below w.heap.size w w' := by
  rcases (show n < 1 ∨ (¬ n < 1 ∧ 1048576 < n) ∨ (¬ n < 1 ∧ ¬ 1048576 < n ∧ m < 0) by omega) with h | ⟨h, h2⟩ | ⟨h, h2, h3⟩
  all_goals
    go_enter Try.func38, Try.ntmps38
    go_wp2
    go_ret2
    exact ⟨rfl, Below.refl _ _⟩
section
variable {W w : World} {L : List Asn}
theorem refBufNew_sep (h : Hid (Sep W L w)) (n m : Int) (h1 : 1 ≤ n) (h2 : n ≤ 1048576) (h3 : 0 ≤ m) : Calls Try.prog 38 #[.int .i64 n, .int .i64 m] w fun e w' => ∃ x : Nat, e = .returned (.tuple #[.pointer (some ⟨x, 0, none⟩), .int .i64 0]) ∧ Hid (Sep W (L ++ [RBufA (.pointer (some ⟨x, 0, none⟩)) n m []]) w') := by
  have hS := h.out.new (below_alloc w (.cells #[.int .i64 n, .int .i64 m, .slice none 0 0] 73)) (RBufA (.pointer (some ⟨w.heap.size, 0, none⟩)) n m []) (F := New w (w.alloc (.cells #[.int .i64 n, .int .i64 m, .slice none 0 0] 73))) (fun _ h => h) ⟨w.heap.size, _, rfl, ⟨Nat.le_refl _, by simp⟩, heap_alloc_new w _, SlAt.nil⟩
  have HS := Lib.hid hS
  clear hS
  go_enter Try.func38, Try.ntmps38
  go_wp2
  go_ret2
  exact ⟨w.heap.size, rfl, HS.out⟩
theorem refBufWrite_sep (h : Sep W L w) (i : Nat) {v lv : Value} {blocks most : Int} {s : List Put} (hi : L[i]? = some (RBufA v blocks most s)) (l : List Put) (hl : ∀ G, Sc.Rest L i G w → PutsAt G w lv l) (n0 : s.length ≤ 500000) (n1 : l.length ≤ 500000) :
    Calls Try.prog 39 #[v, lv] w fun e w' => e = .returned (.int .i64 (rbCode blocks most s l)) ∧ Hid (Sep W (L.set i (RBufA v blocks most (rbNext blocks most s l))) w') := by
  obtain ⟨F, G, hF, hR, hFG, hdF, hdG, K⟩ := h.at i hi
  refine (refBufWrite_any F G v lv blocks most s l w hF hdF (hl G hR) hdG hFG n0 n1).mono ?_
  rintro e w' ⟨rfl, hc, hm⟩
  exact ⟨rfl, K w' _ (RBufA v blocks most (rbNext blocks most s l)) hc (fun k hk => hk) hm⟩
theorem bufGet_sepP (h : Hid (Sep W L w)) (i : Nat) {v : Value} {blocks most : Int} {s : List (Int × Bytes)} (hi : L[i]? = some (BufA v blocks most s)) (hg : BufG blocks s) (lba : Int) :
    Calls Try.prog 36 #[v, .int .i64 lba] w fun e w' => ∃ x, e = .returned (.tuple #[x, .bool (alook s lba).isSome]) ∧ Hid (BytesAt (fun _ => True) w' x ((alook s lba).getD [])) ∧ Hid (Below w.heap.size w w') := by
  obtain ⟨F, hF, _⟩ := h.out.get i hi
  refine (bufGet_any F v blocks most s lba w hF hg.d40).mono ?_
  rintro e w' (⟨h1, p, c, rfl, h2, h3⟩ | ⟨d, x, h1, rfl, h2, h3⟩)
  · rw [h1]; exact ⟨_, rfl, BytesAt.mono h2.bytes fun _ _ => trivial, h3⟩
  · rw [h1]; exact ⟨_, rfl, BytesAt.mono h2.bytes fun _ _ => trivial, h3⟩
theorem bufPuts_sepP (h : Hid (Sep W L w)) (i : Nat) {v : Value} {blocks most : Int} {s : List (Int × Bytes)} (hi : L[i]? = some (BufA v blocks most s)) (hg : BufG blocks s) (hb : blocks ≤ 1048576) (hl : s.length ≤ 1000000) :
    Calls Try.prog 33 #[v] w fun e w' => ∃ p c, e = .returned (.slice p s.length c) ∧ Hid (PutsAt (New w w') w' (.slice p s.length c) (bufPuts s)) ∧ Hid (Below w.heap.size w w') := by
  obtain ⟨F, hF, _⟩ := h.out.get i hi
  refine (bufPuts_any F v blocks most s w hF (hg.i64 hb) hl hg.d40).mono ?_
  rintro e w' ⟨pv, rfl, hp, hb⟩
  obtain ⟨p, c, rfl⟩ := putsW_shape hp
  rw [bufPuts_len] at hp ⊢
  exact ⟨p, c, rfl, hp.puts, hb⟩
theorem puts_bd {blocks : Int} {s : List (Int × Bytes)} (hg : BufG blocks s) (hb : blocks ≤ 1048576) : ∀ p ∈ bufPuts s, 0 ≤ p.lba ∧ p.lba ≤ 1048575 := fun p hp => by
  obtain ⟨k, hk, rfl⟩ := List.mem_map.1 hp
  have hk' : k ∈ s.map (·.1) := (List.mergeSort_perm _ _).subset hk
  obtain ⟨y, hy, rfl⟩ := List.mem_map.1 hk'
  have := hg.ks y hy
  simp only; omega
theorem bufSet_sepP (h : Hid (Sep W L w)) (i : Nat) {v : Value} {blocks most : Int} {s : List (Int × Bytes)} (hi : L[i]? = some (BufA v blocks most s)) (hg : BufG blocks s) (hb : blocks ≤ 1048576) (hl : s.length ≤ 40000) :
    Calls Try.prog 41 #[v] w fun e w' => ∃ b : Nat, e = .returned (.pointer (some ⟨b, 0, none⟩)) ∧ Hid (Below w.heap.size w w') ∧ Hid (Sep W (L ++ [SetA (.pointer (some ⟨b, 0, none⟩)) (bufPuts s).length (normE (singles (bufPuts s)))]) w') := by
  refine (bufSet_gen v (bufPuts s) w ((bufPuts_sepP h i hi hg hb (by omega)).mono fun e w' ⟨p, c, h1, h2, h3⟩ => ⟨_, h1, h2, h3⟩) (puts_bd hg hb) (by rw [bufPuts_len]; exact hl)).mono ?_
  rintro e w' ⟨b, rfl, hm, hb⟩
  exact ⟨b, rfl, hb, h.out.new hb (SetA _ _ _) (fun _ h => h) hm⟩
end
theorem radd_single {l : List Put} {k : Nat} (h : ∀ p ∈ l, 0 ≤ p.lba ∧ p.lba ≤ 1048575) (hk : k < l.length) (hm : l.length ≤ 40000) :
    raddNext 1048576 (normE (singles (l.take k))) [⟨l[k].lba, 1⟩] = normE (singles (l.take (k + 1))) ∧ SetG (normE (singles (l.take k))) ∧ (normE (singles (l.take k))).length ≤ k := by
  obtain ⟨h1, h2, h3, h4⟩ := singles_step (most := 1048576) h hk (by omega)
  refine ⟨?_, h3, h4⟩
  have ha : allB [(⟨l[k].lba, 1⟩ : Ext)] = true := by
    have hpk := h _ (List.getElem_mem hk)
    unfold allB
    simp only [List.all_cons, List.all_nil, Bool.and_true]
    exact mayB_iff.2 (by simp only; omega)
  have hc := (addCode_is (most := 1048576) h3 ha (by simp) rfl)
  rw [h2] at hc
  have hlt : ¬ (1048576 : Int) < ((normE (normE (singles (l.take k)) ++ [⟨l[k].lba, 1⟩])).length : Int) := fun hh => by
    rw [h1] at hc
    rw [if_pos hh] at hc
    exact absurd hc.1 (by decide)
  simp only [if_neg hlt] at hc
  have hr : radd 1048576 (normE (singles (l.take k))) [⟨l[k].lba, 1⟩] = 0 := by
    unfold radd
    rw [if_neg (by rw [ha]; decide), if_neg (by show ¬ max (1048576 : Int) 0 < _; rw [show max (1048576 : Int) 0 = 1048576 from rfl]; exact hlt)]
  unfold raddNext
  rw [if_pos hr]
  exact hc.2.symm

set_option maxRecDepth 100000 in
set_option maxHeartbeats 1000000 in
theorem refBufSet_any (F : Nat → Prop) (v : Value) (blocks most : Int) (l : List Put) (w : World) (hp : RBufP v blocks most l F w) (hb : ∀ p ∈ l, 0 ≤ p.lba ∧ p.lba ≤ 1048575) (hl : l.length ≤ 40000) :
    Calls Try.prog 42 #[v] w fun e w' => ∃ s : Nat, e = .returned (.pointer (some ⟨s, 0, none⟩)) ∧ Hid (Below w.heap.size w w') ∧ ∃ p c, w'.cell? ⟨s, 1, none⟩ = some (.slice p (normE (singles l)).length c) ∧ Hid (ExtsAt (fun _ => True) w' (.slice p (normE (singles l)).length c) (normE (singles l))) := by
  obtain ⟨b, lv, rfl, hFb, hh, h4⟩ := hp
  obtain ⟨p, c, rfl⟩ := putsAt_shape h4
  have hc2 : w.cell? ⟨b, 2, none⟩ = some (.slice p l.length c) := by rw [cell_row hh]; rfl
  have hS0 := (Sep.start w).new (below_alloc w (.cells #[.int .i64 1048576, .slice none 0 0] 76)) (RSetA (.pointer (some ⟨w.heap.size, 0, none⟩)) 1048576 []) (F := New w (w.alloc (.cells #[.int .i64 1048576, .slice none 0 0] 76))) (fun _ h => h) ⟨⟨w.heap.size, _, rfl, ⟨Nat.le_refl _, by simp⟩, heap_alloc_new w _, SlAt.nil⟩⟩
  obtain ⟨s, hs⟩ : ∃ s, w.heap.size = s := ⟨_, rfl⟩
  rw [hs] at hS0
  have H4 := Lib.hid h4
  have HH := Lib.hid hh
  have HB := Lib.hid hb
  have HS0 := Lib.hid hS0
  clear h4 hh hb hS0
  go_enter Try.func42, Try.ntmps42
  go_wp2_with fail
  go_loopw [4] (fun i wr => ∃ k : Nat, k ≤ l.length ∧ i = .int .i64 k ∧ Hid (Sep w [OldA w, RSetA (.pointer (some ⟨s, 0, none⟩)) 1048576 (normE (singles (l.take k)))] wr)) (fun i _ => l.length - (intOf i).toNat)
  case atStart => exact ⟨0, by omega, rfl, Lib.hid (by rw [List.take_zero, show singles [] = [] from rfl, normE_nil]; exact HS0.out)⟩
  case round =>
    obtain ⟨k, hk, rfl, HS⟩ := hrel
    have hold := HS.out.old
    have hc2' := cell_up hold hc2
    by_cases hlt : k < l.length
    case pos =>
      obtain ⟨g, o, dp, dc, rfl, _, hk1, _, hki, _⟩ := putsAt_get (PutsAt.up H4.out hold) k hlt
      obtain ⟨hn1, hg1, hl1⟩ := radd_single HB.out hlt hl
      have hkI : (k : Int) < (l.length : Int) := by omega
      obtain ⟨x, hx⟩ : ∃ x, l[k].lba = x := ⟨_, rfl⟩
      rw [hx] at hk1 hki hn1
      have hba := below_alloc wr (.cells #[.int .i64 x, .int .i64 1] 28)
      have hHH := heap_alloc_new wr (.cells #[.int .i64 x, .int .i64 1] 28)
      have hxs : ExtsAt (fun _ => True) (wr.alloc (.cells #[.int .i64 x, .int .i64 1] 28)) (.slice (some ⟨wr.heap.size, 0, none⟩) 1 1) [⟨x, 1⟩] := by
        refine ⟨_, 1, rfl, Nat.le_refl _, by omega, (by intro h; cases h), fun i hi => ?_⟩
        simp only [List.length_cons, List.length_nil] at hi
        obtain rfl : i = 0 := by omega
        exact ⟨wr.heap.size, 0, rfl, trivial, by rw [cell_row hHH]; rfl, by rw [cell_row hHH]; rfl, hki, show I64 1 from by unfold I64; omega⟩
      have hadd := refAdd_sep (HS.out.up hba) 1 rfl [⟨x, 1⟩] hxs (fun e he => by rw [List.mem_singleton] at he; subst he; exact ⟨hki, show I64 1 from by unfold I64; omega⟩) hg1 (i64_small (by omega)) (by omega) (by simp)
      have HADD := Lib.hid hadd
      have HN1 := Lib.hid hn1
      have HG1 := Lib.hid hg1
      have HL1 := Lib.hid hl1
      have HOLD := Lib.hid hold
      have HBA := Lib.hid hba
      have HHH := Lib.hid hHH
      have HXS := Lib.hid hxs
      have HX := Lib.hid hx
      have HKI := Lib.hid hki
      clear hadd hn1 hg1 hl1 hold hba hHH hxs hx hki
      go_wp2_with fail
      refine (HADD.out).mono ?_
      rintro e w3 ⟨rfl, HS3⟩
      rw [HN1.out] at HS3
      go_wp2_with fail
      go_roundw
      case rel => exact ⟨k + 1, by omega, by go_num, HS3⟩
      case measure => simp [intOf]; omega
    case neg =>
      obtain ⟨F1, hF1, _⟩ := HS.out.get 1 rfl
      obtain ⟨⟨b', sv, hv, _, h3, h5⟩⟩ := hF1
      cases hv
      rw [List.take_of_length_le (by omega)] at h5
      obtain ⟨sp, sc, rfl⟩ := extsAt_shape h5
      have hcell : wr.cell? ⟨s, 1, none⟩ = some (.slice sp (normE (singles l)).length sc) := by rw [cell_row h3]; rfl
      have hxx : ExtsAt (fun _ => True) wr (.slice sp (normE (singles l)).length sc) (normE (singles l)) := SlAt.mono h5 (fun _ _ => trivial) fun _ _ _ h => h
      have HOLD := Lib.hid hold
      have HXX := Lib.hid hxx
      have H5 := Lib.hid h5
      have HCELL := Lib.hid hcell
      clear hold hxx h5 hcell
      go_wp2_with fail
      go_ret
      exact ⟨s, rfl, HOLD, sp, sc, HCELL.out, HXX⟩
theorem refBufSet_sep {W w : World} {L : List Asn} (h : Hid (Sep W L w)) (i : Nat) {v : Value} {blocks most : Int} {l : List Put} (hi : L[i]? = some (RBufA v blocks most l)) (hb : ∀ p ∈ l, 0 ≤ p.lba ∧ p.lba ≤ 1048575) (hl : l.length ≤ 40000) :
    Calls Try.prog 42 #[v] w fun e w' => ∃ s : Nat, e = .returned (.pointer (some ⟨s, 0, none⟩)) ∧ Hid (Below w.heap.size w w') ∧ ∃ p c, w'.cell? ⟨s, 1, none⟩ = some (.slice p (normE (singles l)).length c) ∧ Hid (ExtsAt (fun _ => True) w' (.slice p (normE (singles l)).length c) (normE (singles l))) := by
  obtain ⟨F, hF, _⟩ := h.out.get i hi
  exact refBufSet_any F v blocks most l w hF hb hl
/-- The row of a reference's Buf. -/
theorem rbuf_cells {W w : World} {L : List Asn} (h : Sep W L w) (i : Nat) {b : Nat} {blocks most : Int} {l : List Put} (hi : L[i]? = some (RBufA (.pointer (some ⟨b, 0, none⟩)) blocks most l)) :
    ∃ p c, w.cell? ⟨b, 2, none⟩ = some (.slice p l.length c) ∧ Hid (PutsAt (Old w) w (.slice p l.length c) l) := by
  obtain ⟨F, hF, hd⟩ := h.get i hi
  obtain ⟨b', lv, hbv, hFb, hh, h4⟩ := hF
  cases hbv
  obtain ⟨p, c, rfl⟩ := putsAt_shape h4
  exact ⟨p, c, by rw [cell_row hh]; rfl, h4.mono fun q hq => hd q hq.1⟩
def playsW (W : World) (b m : Nat) (blocks most : Int) (s : List (Int × Bytes)) (L : List Put) : List Asn := [OldA W, BufA (.pointer (some ⟨b, 0, none⟩)) blocks most s, RBufA (.pointer (some ⟨m, 0, none⟩)) blocks most L]

set_option maxRecDepth 100000 in
set_option maxHeartbeats 8000000 in
theorem plays14_any (blocks most lba : Int) (vl : Value) (l : List (List Put)) (w : World) (hl : RowsAt (Old w) w vl l) : Calls Try.prog 11 #[.int .i64 blocks, .int .i64 most, vl, .int .i64 lba] w (Tru w) := by
  have HL := Lib.hid hl
  obtain ⟨lp, lc, rfl, hll, hlc, _, _⟩ := hl
  go_enter Try.func11, Try.ntmps11
  go_wp2_with fail
  refine (small14_any (Old w) _ l _ (fun k hk => hk) HL.out).mono ?_
  rintro e w1 ⟨q, rfl, hq, hb1⟩
  have hS1 := (Sep.start w).up hb1
  have HS1 := Lib.hid hS1
  have HQ := Lib.hid hq
  clear hS1 hq
  cases q with
  | false =>
    go_wp2_with fail
    refine (awake14 _).mono ?_
    rintro e w2 ⟨rfl, hb2⟩
    have hS2 := HS1.out.up hb2
    have HS2 := Lib.hid hS2
    have HB2 := Lib.hid hb2
    clear hS2 hb2
    go_wp2
    go_ret
    exact ⟨rfl, HS2.out.old⟩
  | true =>
    obtain ⟨hsz, h100⟩ := HQ.out rfl
    by_cases hbad : blocks < 1 ∨ 1048576 < blocks ∨ most < 0
    case pos =>
      have HBAD := Lib.hid hbad
      clear hbad
      go_wp2_with fail
      refine (bufNew_bad blocks most _ HBAD.out).mono ?_
      rintro e w2 ⟨rfl, hb2⟩
      have hS2 := HS1.out.up hb2
      have HS2 := Lib.hid hS2
      have HB2 := Lib.hid hb2
      clear hS2 hb2
      go_wp2_with fail
      refine (refBufNew_bad blocks most _ HBAD.out).mono ?_
      rintro e w3 ⟨rfl, hb3⟩
      have hS3 := HS2.out.up hb3
      have HS3 := Lib.hid hS3
      have HB3 := Lib.hid hb3
      clear hS3 hb3
      go_wp2_with fail
      refine (awake14 _).mono ?_
      rintro e w4 ⟨rfl, hb4⟩
      have hS4 := HS3.out.up hb4
      have HS4 := Lib.hid hS4
      have HB4 := Lib.hid hb4
      clear hS4 hb4
      go_wp2
      go_ret
      exact ⟨rfl, HS4.out.old⟩
    case neg =>
      have g1 : 1 ≤ blocks := by omega
      have g2 : blocks ≤ 1048576 := by omega
      have g3 : 0 ≤ most := by omega
      have HBAD := Lib.hid hbad
      clear hbad
      go_wp2_with fail
      refine (bufNew_sep HS1.out blocks most g1 g2 g3).mono ?_
      rintro e w2 ⟨b, rfl, HS2⟩
      go_wp2_with fail
      refine (refBufNew_sep HS2 blocks most g1 g2 g3).mono ?_
      rintro e w3 ⟨m, rfl, HS3⟩
      have HS4 : Hid (Sep w (playsW w b m blocks most [] []) w3) := HS3
      go_wp2_with fail
      go_loopw [13] (fun i wr => ∃ k : Nat, ∃ s L, k ≤ l.length ∧ i = .int .i64 k ∧ Hid (Sep w (playsW w b m blocks most s L) wr) ∧ Hid (BufR s L ∧ BufG blocks s ∧ s.length ≤ rsz (l.take k))) (fun i _ => l.length - (intOf i).toNat)
      case atStart => exact ⟨0, [], [], by omega, rfl, HS4, Lib.hid ⟨BufR.start, BufG.start blocks, by simp⟩⟩
      case round =>
        obtain ⟨k, s, L, hk, rfl, HS, HI⟩ := hrel
        have hs20 : s.length ≤ 20000 := by have := HI.out.2.2; have := rsz_le l k; omega
        have hlen := HI.out.1.len
        by_cases hlt : k < l.length
        case pos =>
          obtain ⟨p', c', hv', _, _, _, g5⟩ := HL.out
          cases hv'
          obtain ⟨bb, o, rfl, hgb, pv, hcp, hp⟩ := g5 k hlt
          rw [Nat.mul_one] at hcp
          have hpl := rsz_mem (List.getElem_mem hlt)
          have hrz := rsz_take l k hlt
          have hkI : (k : Int) < (l.length : Int) := by omega
          generalize l[k] = x at hcp hp hpl hrz
          have hpz : x.length ≤ psz x := by unfold psz; omega
          have hbo := HS.out.old
          have hcp' := (hbo.cell (p := ⟨bb, o + k, none⟩) hgb).trans hcp
          obtain ⟨pp, pc, rfl⟩ := putsAt_shape hp
          have HP := Lib.hid hp
          have HSD : Hid (Sep w (playsW w b m blocks most s L) wr.drew) := Lib.hid (HS.out.up (below_drewN (Below.refl _ _) 1))
          have hbn := bufNext_len (blocks := blocks) (most := most) (s := s) x
          have hR2 := HI.out.1.next (blocks := blocks) (most := most) x
          have hG2 := HI.out.2.1.next (most := most) x
          have hcode := HI.out.1.code (blocks := blocks) (most := most) x
          have hwr : Calls Try.prog 30 #[.pointer (some ⟨b, 0, none⟩), .slice pp x.length pc] wr.drew fun e w' => e = .returned (.int .i64 (bufCode blocks most s x)) ∧ Hid (Sep w (playsW w b m blocks most (bufNext blocks most s x) L) w') :=
            bufWrite_sep HSD.out 1 (lv := .slice pp x.length pc) rfl x (fun G hG => (HP.out.same (HSD.out.old.block · ·)).mono (rest_old' (by decide) hG)) (by omega) (by omega)
          have hrw : ∀ w4, Hid (Sep w (playsW w b m blocks most (bufNext blocks most s x) L) w4) → Calls Try.prog 39 #[.pointer (some ⟨m, 0, none⟩), .slice pp x.length pc] w4 fun e w' => e = .returned (.int .i64 (bufCode blocks most s x)) ∧ Hid (Sep w (playsW w b m blocks most (bufNext blocks most s x) (rbNext blocks most L x)) w') := fun w4 h4 => by
            have := refBufWrite_sep h4.out 2 (lv := .slice pp x.length pc) rfl x (fun G hG => (HP.out.same (h4.out.old.block · ·)).mono (rest_old' (by decide) hG)) (by omega) (by omega)
            rw [hcode] at this
            exact this
          have hI2 : BufR (bufNext blocks most s x) (rbNext blocks most L x) ∧ BufG blocks (bufNext blocks most s x) ∧ (bufNext blocks most s x).length ≤ rsz (l.take (k + 1)) := ⟨hR2, hG2, by have := HI.out.2.2; have := hbn.1; omega⟩
          have hl2 : (rbNext blocks most L x).length = (bufNext blocks most s x).length := hR2.len
          have hb40 : (bufNext blocks most s x).length ≤ 40000 := by have := hbn.1; omega
          generalize bufNext blocks most s x = s2 at *
          generalize rbNext blocks most L x = L2 at *
          generalize bufCode blocks most s x = code at *
          have hcc : (code != code) = false := by simp
          obtain ⟨n2, hn2⟩ : ∃ n2, s2.length = n2 := ⟨_, rfl⟩
          have hll : ((n2 : Int) != (n2 : Int)) = false := by simp
          have hln : L2.length = n2 := by omega
          have HBO := Lib.hid hbo
          have HWR := Lib.hid hwr
          have HRW := Lib.hid hrw
          have HI2 := Lib.hid hI2
          have HL2 := Lib.hid hl2
          have HR2 := Lib.hid hR2
          have HG2 := Lib.hid hG2
          have HCODE := Lib.hid hcode
          have HBN := Lib.hid hbn
          have HRZ := Lib.hid hrz
          have HPL := Lib.hid hpl
          have HCP := Lib.hid hcp
          have HB40 := Lib.hid hb40
          have HN2 := Lib.hid hn2
          have HLN := Lib.hid hln
          have HP := Lib.hid hp
          have HLEN := Lib.hid hlen
          have HPZ := Lib.hid hpz
          clear hbo hwr hrw hI2 hl2 hR2 hG2 hcode hbn hrz hpl hcp hb40 hn2 hln hp hlen hpz
          clear g5
          go_wp2_with fail
          go_region_law ((first
              | (go_simp
                 go_at_call 30
                 refine (HWR.out).mono ?_
                 rintro e w4 ⟨rfl, HS4⟩
                 have hcp4 := (HS4.out.old.cell (p := ⟨bb, o + k, none⟩) hgb).trans HCP.out)
              | (go_simp
                 go_at_call 39
                 refine (HRW.out _ HS4).mono ?_
                 rintro e w5 ⟨rfl, HS5⟩
                 have hcp5 := (HS5.out.old.cell (p := ⟨bb, o + k, none⟩) hgb).trans HCP.out
                 obtain ⟨mp, mc, hmc, _⟩ := rbuf_cells HS5.out 2 rfl
                 rw [HLN.out] at hmc)
              | (go_simp
                 go_at_call 31
                 refine (bufLen_sep HS5 1 rfl HI2.out.2.1 g2 (by have := HB40.out; omega)).mono ?_
                 rintro e w6 ⟨rfl, HB6, HS6⟩
                 rw [HN2.out]
                 have hcp6 := (HS6.out.old.cell (p := ⟨bb, o + k, none⟩) hgb).trans HCP.out
                 have hmc6 := cell_up HB6.out hmc)))
          all_goals
            go_wp2_with fail
            go_roundw
            case rel => exact ⟨k + 1, s2, L2, by omega, by go_num, HS6, HI2⟩
            case measure => simp [intOf]; omega
        case neg =>
          have hpu := HI.out.1.puts
          have hbd := puts_bd HI.out.2.1 g2
          rw [hpu] at hbd
          have hlk := HI.out.1.look lba
          obtain ⟨ok, hok⟩ : ∃ ok, (alook s lba).isSome = ok := ⟨_, rfl⟩
          obtain ⟨d, hd⟩ : ∃ d, (alook s lba).getD [] = d := ⟨_, rfl⟩
          have hkk : (ok == ok) = true := by simp
          have HPU := Lib.hid hpu
          have HBD := Lib.hid hbd
          have HLK := Lib.hid hlk
          have HOK := Lib.hid hok
          have HD := Lib.hid hd
          clear hpu hbd hlk hok hd
          go_wp2_with fail
          refine (bufGet_sepP HS 1 rfl HI.out.2.1 lba).mono ?_
          rintro e w4 ⟨xv, rfl, HX4, HB4⟩
          rw [HOK.out]
          rw [HD.out] at HX4
          have HS5 := Lib.hid (HS.out.up HB4.out)
          go_wp2_with fail
          refine (refBufGet_sep HS5 2 rfl lba (by omega)).mono ?_
          rintro e w5 ⟨yv, rfl, HY5, HB5⟩
          rw [HLK.out, HOK.out]
          rw [HLK.out, HD.out] at HY5
          have HS6 := Lib.hid (HS5.out.up HB5.out)
          have HX5 := Lib.hid (BytesAt.up HX4.out HB5.out)
          go_wp2_with fail
          refine (bufSet_sepP HS6 1 rfl HI.out.2.1 g2 (by omega)).mono ?_
          rintro e w6 ⟨sb, rfl, HB6, HS7⟩
          rw [HPU.out] at HS7
          have HX6 := Lib.hid (BytesAt.up HX5.out HB6.out)
          have HY6 := Lib.hid (BytesAt.up HY5.out HB6.out)
          obtain ⟨mp, mc, hmc6, _⟩ := rbuf_cells HS7.out 2 rfl
          have HS8 := Lib.hid (HS7.out.up (w' := w6.drew) (below_drewN (Below.refl _ _) 1))
          have hmc7 : w6.drew.cell? ⟨m, 2, none⟩ = some (.slice mp L.length mc) := hmc6
          have HX7 : Hid (BytesAt (fun _ => True) w6.drew xv d) := Lib.hid (BytesAt.up HX6.out (below_drewN (Below.refl w6.heap.size w6) 1))
          have HY7 : Hid (BytesAt (fun _ => True) w6.drew yv d) := Lib.hid (BytesAt.up HY6.out (below_drewN (Below.refl w6.heap.size w6) 1))
          have hnl : (normE (singles L)).length ≤ 20000 := by
            have := (normE_good' (singles_oke HBD.out)).2.2
            have hsl : (singles L).length = L.length := by simp [singles]
            omega
          obtain ⟨xp, xc, rfl⟩ : ∃ p c, xv = .slice p d.length c := by obtain ⟨p, c, h, _⟩ := HX7.out; exact ⟨p, c, h⟩
          obtain ⟨yp, yc, rfl⟩ : ∃ p c, yv = .slice p d.length c := by obtain ⟨p, c, h, _⟩ := HY7.out; exact ⟨p, c, h⟩
          clear HX4 HX5 HX6 HY5 HY6
          have HNL := Lib.hid hnl
          clear hnl
          go_upto_region 17 with fail
          refine wp_regionG (fun W => Below w6.heap.size w6 W) (n := 35) (by kernel_rfl) (by kernel_rfl) ?_
          refine wpG.take 0 (v := ?_) (a' := ?_) rfl (by kernel_rfl) (by kernel_rfl) (by kernel_rfl) (by kernel_rfl) (fun _ _ _ h => h) ?_ ?_ ?_
          rotate_left 2
          · intro W hW
            go_simp
            try with_reducible rfl
          · go_simp
            try with_reducible rfl
          refine wpG.take 1 (v := ?_) (a' := ?_) rfl (by kernel_rfl) (by kernel_rfl) (by kernel_rfl) (by kernel_rfl) (fun _ _ _ h => h) ?_ ?_ ?_
          rotate_left 2
          · intro W hW
            go_simp
            try with_reducible rfl
          · go_simp
            try with_reducible rfl
          refine wpG.alone 2 rfl (by kernel_rfl) (by kernel_rfl) ((below_drewN (Below.refl _ _) 1)) (fun K hK => ?_)
          go_simp
          go_at_call 37
          refine (bytes_any (fun _ => True) _ _ d d _ HX7.out HY7.out).mono ?_
          rintro e w8 ⟨rfl, hb8⟩
          rw [show (d == d) = true by simp]
          have HS9 := Lib.hid (HS8.out.up hb8)
          have HB8 := Lib.hid (Below.up (below_drewN (Below.refl w6.heap.size w6) 1 : Below w6.heap.size w6 w6.drew) hb8)
          clear hb8
          try go_simp
          refine hK _ _ ?_
          clear hK K
          refine wpG.take 3 (v := ?_) (a' := ?_) rfl (by kernel_rfl) (by kernel_rfl) (by kernel_rfl) (by kernel_rfl) (fun _ _ _ h => h) ?_ ?_ ?_
          rotate_left 2
          · intro W hW
            go_simp
            try with_reducible rfl
          · go_simp
            try with_reducible rfl
          refine wpG.take 4 (v := ?_) (a' := ?_) rfl (by kernel_rfl) (by kernel_rfl) (by kernel_rfl) (by kernel_rfl) (fun _ _ _ h => h) ?_ ?_ ?_
          rotate_left 2
          · intro W hW
            go_simp
            try with_reducible rfl
          · go_simp
            try with_reducible rfl
          refine wpG.take 5 (v := ?_) (a' := ?_) rfl (by kernel_rfl) (by kernel_rfl) (by kernel_rfl) (by kernel_rfl) (fun _ _ _ h => h) ?_ ?_ ?_
          rotate_left 2
          · intro W hW
            go_simp
            try with_reducible rfl
          · go_simp
            try with_reducible rfl
          refine wpG.take 6 (v := ?_) (a' := ?_) rfl (by kernel_rfl) (by kernel_rfl) (by kernel_rfl) (by kernel_rfl) (fun _ _ _ h => h) ?_ ?_ ?_
          rotate_left 2
          · intro W hW
            go_simp
            try with_reducible rfl
          · go_simp
            try with_reducible rfl
          refine wpG.take 7 (v := ?_) (a' := ?_) rfl (by kernel_rfl) (by kernel_rfl) (by kernel_rfl) (by kernel_rfl) (fun _ _ _ h => h) ?_ ?_ ?_
          rotate_left 2
          · intro W hW
            go_simp
            try with_reducible rfl
          · go_simp
            try with_reducible rfl
          refine wpG.take 8 (v := ?_) (a' := ?_) rfl (by kernel_rfl) (by kernel_rfl) (by kernel_rfl) (by kernel_rfl) (fun _ _ _ h => h) ?_ ?_ ?_
          rotate_left 2
          · intro W hW
            go_simp
            try with_reducible rfl
          · go_simp
            try with_reducible rfl
          refine wpG.take 9 (v := ?_) (a' := ?_) rfl (by kernel_rfl) (by kernel_rfl) (by kernel_rfl) (by kernel_rfl) (fun _ _ _ h => h) ?_ ?_ ?_
          rotate_left 2
          · intro W hW
            go_simp
            try with_reducible rfl
          · go_simp
            try with_reducible rfl
          refine wpG.take 11 (v := ?_) (a' := ?_) rfl (by kernel_rfl) (by kernel_rfl) (by kernel_rfl) (by kernel_rfl) (fun _ _ _ h => h) ?_ ?_ ?_
          rotate_left 2
          · intro W hW
            go_simp
            try with_reducible rfl
          · go_simp
            try with_reducible rfl
          refine wpG.take 12 (v := ?_) (a' := ?_) rfl (by kernel_rfl) (by kernel_rfl) (by kernel_rfl) (by kernel_rfl) (fun _ _ _ h => h) ?_ ?_ ?_
          rotate_left 2
          · intro W hW
            go_simp
            try with_reducible rfl
          · go_simp
            try with_reducible rfl
          refine wpG.take 13 (v := ?_) (a' := ?_) rfl (by kernel_rfl) (by kernel_rfl) (by kernel_rfl) (by kernel_rfl) (fun _ _ _ h => h) ?_ ?_ ?_
          rotate_left 2
          · intro W hW
            go_simp
            try with_reducible rfl
          · go_simp
            try with_reducible rfl
          refine wpG.take 14 (v := ?_) (a' := ?_) rfl (by kernel_rfl) (by kernel_rfl) (by kernel_rfl) (by kernel_rfl) (fun _ _ _ h => h) ?_ ?_ ?_
          rotate_left 2
          · intro W hW
            have hld0 := cell_up hW hmc6
            go_simp
            try with_reducible rfl
          · go_simp
            try with_reducible rfl
          refine wpG.alone 10 rfl (by kernel_rfl) (by kernel_rfl) (HB8.out) (fun K hK => ?_)
          go_simp
          go_at_call 33
          refine (bufPuts_sepP HS9 1 rfl HI.out.2.1 g2 (by omega)).mono ?_
          rintro e w9 ⟨pp9, pc9, rfl, HP9, HB9⟩
          rw [HPU.out] at HP9
          have HS10 := Lib.hid (HS9.out.up HB9.out)
          have HB69 := Lib.hid (Below.up HB8.out HB9.out)
          have hmc9 := cell_up HB69.out hmc6
          try go_simp
          refine hK _ _ ?_
          clear hK K
          refine wpG.alone 15 rfl (by kernel_rfl) (by kernel_rfl) (HB69.out) (fun K hK => ?_)
          go_simp
          go_at_call 34
          refine (samePuts_any (Old w9) _ _ L L _ (fun _ h => h) (PutsAt.mono HP9.out fun _ h => h.2) (by obtain ⟨mp', mc', hh, hq⟩ := rbuf_cells HS10.out 2 rfl; rw [hh] at hmc9; cases hmc9; have hq' := hq.out; rw [hlen] at hq'; exact hq')).mono ?_
          rintro e w10 ⟨rfl, hb10⟩
          rw [samePuts_iff.2 rfl]
          have HS11 := Lib.hid (HS10.out.up hb10)
          have HB10 := Lib.hid (Below.up HB69.out hb10)
          clear hb10
          try go_simp
          refine hK _ _ ?_
          clear hK K
          refine wpG.take 16 (v := ?_) (a' := ?_) rfl (by kernel_rfl) (by kernel_rfl) (by kernel_rfl) (by kernel_rfl) (fun _ _ _ h => h) ?_ ?_ ?_
          rotate_left 2
          · intro W hW
            go_simp
            try with_reducible rfl
          · go_simp
            try with_reducible rfl
          refine wpG.take 17 (v := ?_) (a' := ?_) rfl (by kernel_rfl) (by kernel_rfl) (by kernel_rfl) (by kernel_rfl) (fun _ _ _ h => h) ?_ ?_ ?_
          rotate_left 2
          · intro W hW
            go_simp
            try with_reducible rfl
          · go_simp
            try with_reducible rfl
          refine wpG.take 18 (v := ?_) (a' := ?_) rfl (by kernel_rfl) (by kernel_rfl) (by kernel_rfl) (by kernel_rfl) (fun _ _ _ h => h) ?_ ?_ ?_
          rotate_left 2
          · intro W hW
            go_simp
            try with_reducible rfl
          · go_simp
            try with_reducible rfl
          refine wpG.take 19 (v := ?_) (a' := ?_) rfl (by kernel_rfl) (by kernel_rfl) (by kernel_rfl) (by kernel_rfl) (fun _ _ _ h => h) ?_ ?_ ?_
          rotate_left 2
          · intro W hW
            go_simp
            try with_reducible rfl
          · go_simp
            try with_reducible rfl
          refine wpG.take 20 (v := ?_) (a' := ?_) rfl (by kernel_rfl) (by kernel_rfl) (by kernel_rfl) (by kernel_rfl) (fun _ _ _ h => h) ?_ ?_ ?_
          rotate_left 2
          · intro W hW
            go_simp
            try with_reducible rfl
          · go_simp
            try with_reducible rfl
          refine wpG.take 21 (v := ?_) (a' := ?_) rfl (by kernel_rfl) (by kernel_rfl) (by kernel_rfl) (by kernel_rfl) (fun _ _ _ h => h) ?_ ?_ ?_
          rotate_left 2
          · intro W hW
            go_simp
            try with_reducible rfl
          · go_simp
            try with_reducible rfl
          refine wpG.take 22 (v := ?_) (a' := ?_) rfl (by kernel_rfl) (by kernel_rfl) (by kernel_rfl) (by kernel_rfl) (fun _ _ _ h => h) ?_ ?_ ?_
          rotate_left 2
          · intro W hW
            go_simp
            try with_reducible rfl
          · go_simp
            try with_reducible rfl
          refine wpG.take 24 (v := ?_) (a' := ?_) rfl (by kernel_rfl) (by kernel_rfl) (by kernel_rfl) (by kernel_rfl) (fun _ _ _ h => h) ?_ ?_ ?_
          rotate_left 2
          · intro W hW
            go_simp
            try with_reducible rfl
          · go_simp
            try with_reducible rfl
          refine wpG.alone 23 rfl (by kernel_rfl) (by kernel_rfl) (HB10.out) (fun K hK => ?_)
          go_simp
          go_at_call 16
          refine (setExtents_sep HS11 3 rfl (by have := HNL.out; omega)).mono ?_
          rintro e w11 ⟨ep, ec, rfl, HE11, HB11, HS12⟩
          have HB611 := Lib.hid (Below.up HB10.out HB11.out)
          try go_simp
          refine hK _ _ ?_
          clear hK K
          refine wpG.alone 25 rfl (by kernel_rfl) (by kernel_rfl) (HB611.out) (fun K hK => ?_)
          go_simp
          go_at_call 42
          refine (refBufSet_sep HS12 2 rfl HBD.out (by omega)).mono ?_
          rintro e w12 ⟨s12, rfl, HB12, fp, fc, hf12, HF12⟩
          have HS13 := Lib.hid (HS12.out.up HB12.out)
          have HE12 := Lib.hid (ExtsAt.up HE11.out HB12.out)
          have HB612 := Lib.hid (Below.up HB611.out HB12.out)
          try go_simp
          refine hK _ _ ?_
          clear hK K
          refine wpG.wide (G := fun W => Below w12.heap.size w12 W) (fun W h => Below.up HB612.out h) ?_
          refine wpG.take 26 (v := ?_) (a' := ?_) rfl (by kernel_rfl) (by kernel_rfl) (by kernel_rfl) (by kernel_rfl) (fun _ _ _ h => h) ?_ ?_ ?_
          rotate_left 2
          · intro W hW
            go_simp
            try with_reducible rfl
          · go_simp
            try with_reducible rfl
          refine wpG.take 27 (v := ?_) (a' := ?_) rfl (by kernel_rfl) (by kernel_rfl) (by kernel_rfl) (by kernel_rfl) (fun _ _ _ h => h) ?_ ?_ ?_
          rotate_left 2
          · intro W hW
            go_simp
            try with_reducible rfl
          · go_simp
            try with_reducible rfl
          refine wpG.take 28 (v := ?_) (a' := ?_) rfl (by kernel_rfl) (by kernel_rfl) (by kernel_rfl) (by kernel_rfl) (fun _ _ _ h => h) ?_ ?_ ?_
          rotate_left 2
          · intro W hW
            have hld0 := cell_up hW hf12
            go_simp
            try with_reducible rfl
          · go_simp
            try with_reducible rfl
          refine wpG.alone 29 rfl (by kernel_rfl) (by kernel_rfl) (Below.refl _ _) (fun K hK => ?_)
          go_simp
          go_at_call 19
          refine (exts_any _ _ _ _ _ _ _ HE12.out HF12.out).mono ?_
          rintro e w13 ⟨rfl, hb13⟩
          rw [sameE_iff.2 rfl]
          have HS14 := Lib.hid (HS13.out.up hb13)
          have HB13 := Lib.hid hb13
          clear hb13
          try go_simp
          refine hK _ _ ?_
          clear hK K
          refine wpG.take 30 (v := ?_) (a' := ?_) rfl (by kernel_rfl) (by kernel_rfl) (by kernel_rfl) (by kernel_rfl) (fun _ _ _ h => h) ?_ ?_ ?_
          rotate_left 2
          · intro W hW
            go_simp
            try with_reducible rfl
          · go_simp
            try with_reducible rfl
          refine wpG.take 31 (v := ?_) (a' := ?_) rfl (by kernel_rfl) (by kernel_rfl) (by kernel_rfl) (by kernel_rfl) (fun _ _ _ h => h) ?_ ?_ ?_
          rotate_left 2
          · intro W hW
            go_simp
            try with_reducible rfl
          · go_simp
            try with_reducible rfl
          refine wpG.alone 32 rfl (by kernel_rfl) (by kernel_rfl) (HB13.out) (fun K hK => ?_)
          go_simp
          go_at_call 26
          refine (awake14 _).mono ?_
          rintro e w14 ⟨rfl, hb14⟩
          have HS15 := Lib.hid (HS14.out.up hb14)
          have HB14 := Lib.hid (Below.up HB13.out hb14)
          clear hb14
          try go_simp
          refine hK _ _ ?_
          clear hK K
          refine wpG.take 33 (v := ?_) (a' := ?_) rfl (by kernel_rfl) (by kernel_rfl) (by kernel_rfl) (by kernel_rfl) (fun _ _ _ h => h) ?_ ?_ ?_
          rotate_left 2
          · intro W hW
            go_simp
            try with_reducible rfl
          · go_simp
            try with_reducible rfl
          refine wpG.take 34 (v := ?_) (a' := ?_) rfl (by kernel_rfl) (by kernel_rfl) (by kernel_rfl) (by kernel_rfl) (fun _ _ _ h => h) ?_ ?_ ?_
          rotate_left 2
          · intro W hW
            go_simp
            try with_reducible rfl
          · go_simp
            try with_reducible rfl
          refine wpG.done (by kernel_rfl) HB14.out ?_
          go_wp2_with fail
          go_ret
          exact ⟨rfl, HS15.out.old⟩
end Go.Proofs
