/- What the functions of package scarpalike give: sums that are held at a limit, bytes that are alike, a number's remainder, bytes that hang on a number. -/
import Derived.Test.YtjomlcemnbfnfaaChecked
import Derived.Test.YtjomlcemnbfnfaaBase
import Derived.Deep.QuietTactic
import Derived.BigQuiet
namespace Go.Proofs
open Go.RowKit Sc

/-- A sum that is held at 2^40. -/
def sat (n x : Int) : Int := if 1099511627776 - n < x then 1099511627776 else n + x
def sumTo (n : Int) : List Int → Int
  | [] => n
  | x :: r => if 1099511627776 < n ∨ 1099511627776 - n < x then 1099511627776 else sumTo (n + x) r
theorem sumTo_stop (n x : Int) (r : List Int) (h : 1099511627776 < n ∨ 1099511627776 - n < x) : sumTo n (x :: r) = 1099511627776 := by rw [sumTo, if_pos h]
theorem sumTo_go (n x : Int) (r : List Int) (h1 : n ≤ 1099511627776) (h2 : x ≤ 1099511627776 - n) : sumTo n (x :: r) = sumTo (n + x) r := by
  rw [sumTo, if_neg]; omega

set_option maxHeartbeats 400000 in
theorem sum_any (n : Int) (l : List Int) (b o c : Nat) (w : World) (hn : 0 ≤ n) (hn2 : n ≤ 1099511627776) (hl : ∀ i, i < l.length → 0 ≤ l.getD i 0 ∧ l.getD i 0 ≤ 9223372036854775807) (hm : l.length ≤ 9223372036854775807)
   (hc : ∀ i, i < l.length → w.cell? ⟨b, o + i, none⟩ = some (.int .i64 (l.getD i 0))) :
    Calls Try.prog 40 #[.int .i64 n, .slice (some ⟨b, o, none⟩) l.length c] w fun e w' => e = .returned (.int .i64 (sumTo n l)) ∧ w = w' := by
  go_enter Try.func40, Try.ntmps40
  go_wp2
  go_loop [0, 5] (fun s i => ∃ k : Nat, ∃ q : Int, k ≤ l.length ∧ 0 ≤ q ∧ q ≤ 1099511627776 ∧ i = .int .i64 k ∧ s = .int .i64 q ∧ sumTo q (l.drop k) = sumTo n l) (fun _ i => l.length - (intOf i).toNat)
  case atStart => exact ⟨0, n, by omega, hn, hn2, rfl, rfl, rfl⟩
  case round =>
    obtain ⟨k, q, hk, hq, hq2, rfl, rfl, hs⟩ := hrel
    by_cases hlt : k < l.length
    · have hd : l.drop k = l.getD k 0 :: l.drop (k + 1) := by
        rw [List.drop_eq_getElem_cons hlt]; simp [List.getD, hlt]
      have hck := hc k hlt
      obtain ⟨hx0, hx1⟩ := hl k hlt
      rw [hd] at hs
      generalize l.getD k 0 = x at hs hck hx0 hx1
      have HS := Lib.hid hs
      clear hs hd hc hl
      go_wp2
      · have hst : 1099511627776 < q ∨ 1099511627776 - q < x := by assumption
        go_ret
        rw [← HS.out, sumTo_stop _ _ _ hst]
        exact ⟨rfl, rfl⟩
      · have hgo : q ≤ 1099511627776 ∧ x ≤ 1099511627776 - q := by assumption
        refine ⟨⟨k + 1, q + x, by omega, by omega, by omega, by go_num, rfl, ?_⟩, by simp [intOf]; omega⟩
        rw [← HS.out, sumTo_go _ _ _ (by omega) (by omega)]
    · have HS := Lib.hid hs
      have hk2 : k = l.length := by omega
      clear hs hc hl
      go_wp2
      go_ret
      rw [← HS.out, hk2]
      simp [sumTo]

/-- Of one more number. -/
theorem sum_one (n x : Int) (b c : Nat) (w : World) (hn : 0 ≤ n) (hn2 : n ≤ 1099511627776) (hx : 0 ≤ x) (hx2 : x ≤ 9223372036854775807) (hc : w.cell? ⟨b, 0, none⟩ = some (.int .i64 x)) :
    Calls Try.prog 40 #[.int .i64 n, .slice (some ⟨b, 0, none⟩) 1 c] w fun e w' => e = .returned (.int .i64 (sat n x)) ∧ w = w' := by
  refine (sum_any n [x] b 0 c w hn hn2 (fun i hi => ?_) (by simp) (fun i hi => ?_)).mono ?_
  · simp only [List.length_cons, List.length_nil] at hi; obtain rfl : i = 0 := by omega
    exact ⟨hx, hx2⟩
  · simp only [List.length_cons, List.length_nil] at hi; obtain rfl : i = 0 := by omega
    exact hc
  · rintro e w' ⟨rfl, rfl⟩
    refine ⟨?_, rfl⟩
    simp only [sumTo, sat]
    by_cases h : 1099511627776 - n < x
    · rw [if_pos (.inr h), if_pos h]
    · rw [if_neg (by omega), if_neg h]

theorem sat_bd {n x : Int} (hn : 0 ≤ n) (hn2 : n ≤ 1099511627776) (hx : 0 ≤ x) : 0 ≤ sat n x ∧ sat n x ≤ 1099511627776 ∧ n ≤ sat n x := by
  unfold sat; split <;> omega
theorem sat_min {m : Nat} {n x : Int} (hx : 0 ≤ x) (hn : n = min 1099511627776 (m : Int)) : sat n x = min 1099511627776 (((m + x.toNat : Nat)) : Int) := by
  unfold sat; split <;> omega

def roundN (k n : Int) : Int := if k.tmod n < 0 then k.tmod n + n else k.tmod n
theorem tmod_bd (k : Int) {n : Int} (hn : 0 < n) : -n < k.tmod n ∧ k.tmod n < n := by
  have h1 := Int.tmod_lt_of_pos k hn
  have h2 := Int.lt_tmod_of_pos k hn
  exact ⟨h2, h1⟩
theorem roundN_bd (k : Int) {n : Int} (hn : 0 < n) : 0 ≤ roundN k n ∧ roundN k n < n := by
  have := tmod_bd k hn
  unfold roundN; split <;> omega

set_option maxHeartbeats 400000 in
theorem round_any (k n : Int) (w : World) (hn : 0 < n) (hn2 : n ≤ 1099511627776) :
    Calls Try.prog 23 #[.int .i64 k, .int .i64 n] w fun e w' => e = .returned (.int .i64 (roundN k n)) ∧ w = w' := by
  have hb := tmod_bd k hn
  have hz : (n == 0) = false := by rw [beq_eq_false_iff_ne]; omega
  have hdef : roundN k n = if k.tmod n < 0 then k.tmod n + n else k.tmod n := rfl
  have HD := Lib.hid hdef
  clear hdef
  go_enter Try.func23, Try.ntmps23
  go_wp2
  · have hlt : k.tmod n < 0 := by assumption
    go_ret
    rw [HD.out, if_pos hlt]; exact ⟨rfl, rfl⟩
  · have hge : 0 ≤ k.tmod n := by assumption
    go_ret
    rw [HD.out, if_neg (by omega)]; exact ⟨rfl, rfl⟩

theorem u8_ne {x y : UInt8} : ((x.toNat : Int) != (y.toNat : Int)) = (x != y) := by
  rw [Bool.eq_iff_iff]; simp only [bne_iff_ne, ne_eq]; rw [Int.ofNat_inj, UInt8.toNat_inj]

def boolRet (b : Bool) : Ending := .returned (.bool b)
set_option maxHeartbeats 400000 in
theorem bytes_any (G : Nat → Prop) (va vb : Value) (a b : Bytes) (w : World) (ha : BytesAt G w va a) (hb : BytesAt G w vb b) :
    Calls Try.prog 22 #[va, vb] w fun e w' => e = .returned (.bool (a == b)) ∧ Below w.heap.size w w' := by
  by_cases hlen : a.length = b.length
  case neg =>
    obtain ⟨pa, ca, rfl, ha1, ha2, _⟩ := ha
    obtain ⟨pb, cb, rfl, hb1, hb2, _⟩ := hb
    have hne : (((a.length : Nat) : Int) != ((b.length : Nat) : Int)) = true := by rw [bne_iff_ne]; omega
    have hne2 : (a == b) = false := by rw [beq_eq_false_iff_ne]; intro h; exact hlen (by rw [h])
    have H2 := Lib.hid hne2
    clear hne2
    go_enter Try.func22, Try.ntmps22
    go_wp2
    go_ret
    rw [H2.out]
    exact ⟨rfl, Below.refl _ _⟩
  case pos =>
    rcases ha.base with ⟨rfl, pa, ca, rfl, ha2, _⟩ | ⟨ba, oa, ca, rfl, ha0, ha1, ha2, _, ha4⟩
    · have hb0 : b = [] := List.length_eq_zero_iff.1 (by simpa using hlen.symm)
      subst hb0
      obtain ⟨pb, cb, rfl, _⟩ := hb
      go_enter Try.func22, Try.ntmps22
      go_wp2
      go_loop [5] (fun i => i = .int .i64 0) (fun _ => 0)
      case atStart => rfl
      case round =>
        subst hrel
        go_wp2
        go_ret
        exact ⟨rfl, Below.refl _ _⟩
    rcases hb.base with ⟨rfl, pb, cb, rfl, hb2, _⟩ | ⟨bb, ob, cb, rfl, hb0, hb1, hb2, _, hb4⟩
    · simp at hlen; subst hlen; simp at ha0
    have hcells : ∀ i, i < a.length → w.cell? ⟨ba, oa + i, none⟩ = some (.int .u8 ((a.getD i 0).toNat : Int)) ∧ w.cell? ⟨bb, ob + i, none⟩ = some (.int .u8 ((b.getD i 0).toNat : Int)) := by
      intro i hi
      have h1 := ha4 i hi
      have h2 := hb4 i (by omega)
      unfold byteE at h1 h2
      rw [Nat.mul_one] at h1 h2
      simp only [List.getD, List.getElem?_eq_getElem hi, List.getElem?_eq_getElem (show i < b.length by omega), Option.getD_some]
      exact ⟨h1, h2⟩
    clear ha4 hb4 ha hb
    have HL := Lib.hid hlen
    have heq : (((a.length : Nat) : Int) != ((b.length : Nat) : Int)) = false := by rw [bne_eq_false_iff_eq]; omega
    clear hlen
    go_enter Try.func22, Try.ntmps22
    go_wp2
    go_loopw [5] (fun i wr => ∃ k : Nat, k ≤ a.length ∧ i = .int .i64 k ∧ a.take k = b.take k ∧ Below w.heap.size w wr) (fun i _ => a.length - (intOf i).toNat)
    case atStart => exact ⟨0, by omega, rfl, rfl, Below.refl _ _⟩
    case round =>
      obtain ⟨k, hk, rfl, ht, hbw⟩ := hrel
      have HT := Lib.hid ht
      clear ht
      by_cases hlt : k < a.length
      · obtain ⟨h1, h2⟩ := hcells k hlt
        have h1' := (hbw.cell (p := ⟨ba, oa + k, none⟩) (World.block_lt_of_cell? w _ h1)).trans h1
        have h2' := (hbw.cell (p := ⟨bb, ob + k, none⟩) (World.block_lt_of_cell? w _ h2)).trans h2
        have hltb : k < b.length := by rw [← HL.out]; exact hlt
        have hta := take_snoc a k hlt
        have htb := take_snoc b k hltb
        have ga : a.getD k 0 = a[k] := by simp [List.getD, hlt]
        have gb : b.getD k 0 = b[k] := by simp [List.getD, hltb]
        rw [ga] at h1'
        rw [gb] at h2'
        have HA := Lib.hid hta
        have HB := Lib.hid htb
        generalize a[k] = x at h1' HA
        generalize b[k] = y at h2' HB
        have HC := Lib.hid hcells
        clear hta htb ga gb h1 h2 hcells
        by_cases hxy : x = y
        · subst hxy
          have hd : ((x.toNat : Int) != (x.toNat : Int)) = false := by simp
          go_wp2
          go_quiet (fail)
          go_wp2
          go_roundw
          case rel => exact ⟨k + 1, by omega, by go_num, by rw [HA.out, HB.out, HT.out], by exact below_drewN hbw _⟩
          case measure => simp [intOf]; omega
        · have hd : ((x.toNat : Int) != (y.toNat : Int)) = true := by rw [u8_ne, bne_iff_ne]; exact hxy
          have HX := Lib.hid hxy
          clear hxy
          go_wp2
          go_quiet (fail)
          go_wp2
          go_ret
          refine ⟨?_, ?_⟩
          · have : (a == b) = false := by
              rw [beq_eq_false_iff_ne]; intro h
              have h1 := HA.out; rw [h, HB.out] at h1
              have h2 := (List.append_inj' h1 rfl).2
              exact HX.out (by simpa using h2.symm)
            exact congrArg boolRet this.symm
          · exact below_drewN hbw _
      · have HK := Lib.hid (show k = a.length by omega)
        clear hcells
        go_wp2
        go_ret
        refine ⟨?_, hbw⟩
        have : (a == b) = true := by
          have h := HT.out
          rw [HK.out, List.take_length, HL.out, List.take_length] at h
          rw [h]; simp
        exact congrArg boolRet this.symm

/-- How many things there are: the elements, and the bytes in them. -/
def psz (l : List Put) : Nat := l.length + (l.map fun p => p.data.length).sum
def tsz (l : List Tx) : Nat := l.length + (l.map fun t => psz t.puts).sum
theorem sum_take_succ {α : Type} (f : α → Nat) (l : List α) (k : Nat) (h : k < l.length) : ((l.take (k + 1)).map f).sum = ((l.take k).map f).sum + f l[k] := by
  rw [take_snoc l k h, List.map_append, List.sum_append]; simp

def SizeSaid (top : Int) (s : Nat) (w : World) (e : Ending) (w' : World) : Prop := ∃ n : Int, e = .returned (.int .i64 n) ∧ 0 ≤ n ∧ n ≤ 1099511627776 ∧ (n ≤ top → n = s) ∧ Below w.heap.size w w'

theorem cell_alloc_old {w : World} {o : Obj} {a : Addr} {v : Value} (h : w.cell? a = some v) : (w.alloc o).cell? a = some v := by
  rw [World.cell?_of_block (w := w) (Below.heap_alloc w o a.block (World.block_lt_of_cell? w _ h))]; exact h

set_option maxHeartbeats 400000 in
theorem puts_any (G : Nat → Prop) (v : Value) (l : List Put) (top : Int) (w : World) (hv : PutsAt G w v l) (ht : 0 ≤ top) (ht2 : top < 1099511627776) :
    Calls Try.prog 16 #[v, .int .i64 top] w (SizeSaid top (psz l) w) := by
  have hsat : sat 0 (l.length : Int) = min 1099511627776 (l.length : Int) := by unfold sat; split <;> omega
  obtain ⟨p, c, rfl, h1, h2, h3, h4⟩ := hv
  have H4 := Lib.hid h4
  clear h4
  have HS := Lib.hid hsat
  clear hsat h3
  go_enter Try.func16, Try.ntmps16
  go_wp2_with (go_at_call 40; refine (sum_one 0 (l.length : Int) _ _ _ (by omega) (by omega) (by omega) (by omega) (by go_simp)).mono ?_; rintro e w' ⟨rfl, rfl⟩)
  rw [HS.out]
  go_loopw [5, 6] (fun s i wr => ∃ k : Nat, k ≤ l.length ∧ i = .int .i64 k ∧ s = .int .i64 (min 1099511627776 ((l.length + ((l.take k).map fun p => p.data.length).sum : Nat) : Int)) ∧ Below w.heap.size w wr) (fun _ i _ => l.length - (intOf i).toNat)
  case atStart => exact ⟨0, by omega, rfl, by simp, (Below.refl _ _).alloc (Nat.le_refl _) _⟩
  case round =>
    obtain ⟨k, hk, rfl, rfl, hbw⟩ := hrel
    generalize hm : l.length + ((l.take k).map fun p => p.data.length).sum = m
    have HM := Lib.hid hm
    clear hm HS
    by_cases hlt : k < l.length
    · obtain ⟨b, o, rfl, _, hc1, hi, pv, hc2, hd⟩ := H4.out k hlt
      obtain ⟨pp, pc, hpv, hd1, hd2, hd3, hd4⟩ := hd
      have hs := sum_take_succ (fun p : Put => p.data.length) l k hlt
      have hc2' := (hbw.cell (p := ⟨b, o + k * 2 + 1, none⟩) (World.block_lt_of_cell? w _ hc2)).trans hc2
      subst hpv
      generalize l[k].data.length = dl at hd1 hc2' hs
      have hdl : dl ≤ 9223372036854775807 := by omega
      have HSS := Lib.hid hs
      have hsat : sat (min 1099511627776 (m : Int)) dl = min 1099511627776 ((m + dl : Nat) : Int) := by unfold sat; split <;> omega
      have HSAT := Lib.hid hsat
      clear hs hc1 hi hc2 hd2 hd3 hd4 hsat
      by_cases hle : min 1099511627776 (m : Int) ≤ top
      · generalize hq : min 1099511627776 (m : Int) = q at *
        have HQ := Lib.hid hq
        have hq1 : 0 ≤ q := by omega
        have hq2 : q ≤ 1099511627776 := by omega
        clear hq
        go_wp2_with (go_at_call 40; refine (sum_one q (dl : Int) _ _ _ (by omega) (by omega) (by omega) (by omega) (by go_simp)).mono ?_; rintro e w' ⟨rfl, rfl⟩)
        go_roundw
        case rel => exact ⟨k + 1, by omega, by go_num, by rw [HSAT.out, HSS.out, ← HM.out]; simp [Nat.add_assoc], hbw.alloc hbw.size _⟩
        case measure => simp [intOf]; omega
      · generalize hq : min 1099511627776 (m : Int) = q at *
        have HQ := Lib.hid hq
        have hq1 : 0 ≤ q := by omega
        have hq2 : q ≤ 1099511627776 := by omega
        clear hq
        go_wp2
        go_ret
        exact ⟨q, rfl, hq1, hq2, fun h => by omega, hbw⟩
    · have hkl : k = l.length := by omega
      have HK := Lib.hid hkl
      clear hkl
      go_wp2
      go_ret
      refine ⟨_, rfl, by omega, by omega, fun h => ?_, hbw⟩
      have := HM.out
      rw [HK.out, List.take_length] at this
      unfold psz; rw [this]; omega

set_option maxHeartbeats 400000 in
theorem txs_any (G : Nat → Prop) (v : Value) (l : List Tx) (top : Int) (w : World) (hG : Dom G w) (hv : TxsAt G w v l) (ht : 0 ≤ top) (ht2 : top < 1099511627776) :
    Calls Try.prog 38 #[v, .int .i64 top] w (SizeSaid top (tsz l) w) := by
  have hsat : sat 0 (l.length : Int) = min 1099511627776 (l.length : Int) := by unfold sat; split <;> omega
  obtain ⟨p, c, rfl, h1, h2, h3, h4⟩ := hv
  have H4 := Lib.hid h4
  clear h4
  have HS := Lib.hid hsat
  clear hsat h3
  go_enter Try.func38, Try.ntmps38
  go_wp2_with (go_at_call 40; refine (sum_one 0 (l.length : Int) _ _ _ (by omega) (by omega) (by omega) (by omega) (by go_simp)).mono ?_; rintro e w' ⟨rfl, rfl⟩)
  rw [HS.out]
  go_loopw [5, 6] (fun s i wr => ∃ k : Nat, ∃ q : Int, k ≤ l.length ∧ i = .int .i64 k ∧ s = .int .i64 q ∧ 0 ≤ q ∧ q ≤ 1099511627776 ∧ (q ≤ top → q = ((l.length + ((l.take k).map fun t => psz t.puts).sum : Nat) : Int)) ∧ Below w.heap.size w wr) (fun _ i _ => l.length - (intOf i).toNat)
  case atStart => exact ⟨0, _, by omega, rfl, rfl, by omega, by omega, by simp; omega, (Below.refl _ _).alloc (Nat.le_refl _) _⟩
  case round =>
    obtain ⟨k, q, hk, rfl, rfl, hq1, hq2, hq3, hbw⟩ := hrel
    generalize hm : l.length + ((l.take k).map fun t => psz t.puts).sum = m at hq3
    have HM := Lib.hid hm
    have HQ := Lib.hid hq3
    clear hm HS hq3
    by_cases hlt : k < l.length
    · obtain ⟨b, o, rfl, _, hc1, hi, pv, hc2, hd⟩ := H4.out k hlt
      have hs := sum_take_succ (fun t : Tx => psz t.puts) l k hlt
      have hc2' := (hbw.cell (p := ⟨b, o + k * 2 + 1, none⟩) (World.block_lt_of_cell? w _ hc2)).trans hc2
      generalize l[k].puts = pl at hd hs
      have HSS := Lib.hid hs
      clear hs hc1 hi hc2
      by_cases hle : q ≤ top
      · have hd' := hd.same (hG.same hbw)
        go_wp2_with fail
        refine (puts_any G pv pl top _ hd' ht ht2).mono ?_
        rintro e w1 ⟨n1, rfl, hn1, hn2, hn3, hb1⟩
        have HN := Lib.hid hn3
        clear hn3
        have hz := hb1.size
        go_wp2_with (go_at_call 40; refine (sum_one q n1 _ _ _ (by omega) (by omega) (by omega) (by omega) (by go_simp)).mono ?_; rintro e w' ⟨rfl, rfl⟩)
        have hsb := sat_bd hq1 hq2 hn1
        go_roundw
        case rel =>
          refine ⟨k + 1, _, by omega, by go_num, rfl, hsb.1, hsb.2.1, fun h => ?_, (hbw.trans (hb1.mono hbw.size)).alloc (by have := hbw.size; omega) _⟩
          have h1 := HQ.out (by omega)
          have h2 := HN.out (by unfold sat at h; split at h <;> omega)
          rw [HSS.out, ← Nat.add_assoc, HM.out]
          unfold sat at h ⊢; split at h <;> split <;> omega
        case measure => simp [intOf]; omega
      · go_wp2
        go_ret
        exact ⟨q, rfl, hq1, hq2, fun h => by omega, hbw⟩
    · have hkl : k = l.length := by omega
      have HK := Lib.hid hkl
      clear hkl
      by_cases hle : q ≤ top
      all_goals
        go_wp2
        go_ret
        refine ⟨_, rfl, by omega, by omega, fun h => ?_, hbw⟩
        have := HM.out
        rw [HK.out, List.take_length] at this
        have := HQ.out h
        unfold tsz; omega
end Go.Proofs
