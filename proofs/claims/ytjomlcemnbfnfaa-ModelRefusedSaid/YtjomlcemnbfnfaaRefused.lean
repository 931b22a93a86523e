/- ModelRefused: what is refused changes nothing; two that ran the same are the same: for every input the law returns true, and nothing that was there is changed. -/
import Derived.Test.YtjomlcemnbfnfaaL22
import Derived.Test.YtjomlcemnbfnfaaPlain22
namespace Go.Proofs
open Go.RowKit Sc

def Tru (w : World) (e : Ending) (w' : World) : Prop := e = .returned (.bool true) ∧ Below w.heap.size w w'

/-- Two Ms side by side, both behind B. -/
structure Two (B : Nat) (w : World) (va vb : Value) (n : Int) (sa sb : List (Int × Bytes)) (Fa Fb : Nat → Prop) : Prop where
  a : ModelIs Fa w va n sa
  b : ModelIs Fb w vb n sb
  la : ∀ k, Fa k → B ≤ k
  lb : ∀ k, Fb k → B ≤ k
  ab : ∀ k, Fa k → ¬ Fb k
theorem Two.swap {B : Nat} {w : World} {va vb : Value} {n : Int} {sa sb : List (Int × Bytes)} {Fa Fb : Nat → Prop} (h : Two B w va vb n sa sb Fa Fb) : Two B w vb va n sb sa Fb Fa :=
  ⟨h.b, h.a, h.lb, h.la, fun k hb ha => h.ab k ha hb⟩
theorem Two.runA {B : Nat} {w w' : World} {va vb : Value} {n : Int} {sa sb sa' : List (Int × Bytes)} {Fa Fb : Nat → Prop} (h : Two B w va vb n sa sb Fa Fb) (hB : B ≤ w.heap.size) (hc : Chg Fa w w')
    (hm : ModelIs (fun k => Fa k ∨ New w w' k) w' va n sa') : Two B w' va vb n sa' sb (fun k => Fa k ∨ New w w' k) Fb ∧ Below B w w' := by
  refine ⟨⟨hm, h.b.same (hc.same fun k hk => ⟨h.b.dom k hk, fun ha => h.ab k ha hk⟩), fun k hk => ?_, h.lb, fun k hk hb => ?_⟩, hc.below hB fun k hk ha => by have := h.la k ha; omega⟩
  · rcases hk with hk | hk
    · exact h.la k hk
    · have := hk.1; omega
  · rcases hk with hk | hk
    · exact h.ab k hk hb
    · have := hk.1; have := h.b.dom k hb; omega
theorem Two.up {B : Nat} {w w' : World} {va vb : Value} {n : Int} {sa sb : List (Int × Bytes)} {Fa Fb : Nat → Prop} (h : Two B w va vb n sa sb Fa Fb) (hb : Below w.heap.size w w') : Two B w' va vb n sa sb Fa Fb :=
  ⟨h.a.same (h.a.dom.same hb), h.b.same (h.b.dom.same hb), h.la, h.lb, h.ab⟩

/-- An element of a slice of transactions, loaded. -/
theorem txE_txAt {G : Nat → Prop} {w : World} {b o : Nat} {t : Tx} (h : txE G w b o t) : ∃ pv, w.cell? ⟨b, o, none⟩ = some (.int .i64 t.time) ∧ w.cell? ⟨b, o + 1, none⟩ = some pv ∧ TxAt G w (.agg #[.int .i64 t.time, pv]) t ∧ pv.oneCell' = true := by
  obtain ⟨h1, h2, pv, h3, h4⟩ := h
  exact ⟨pv, h1, h3, ⟨pv, rfl, h2, h4⟩, by obtain ⟨_, _, rfl, _⟩ := h4; rfl⟩

set_option maxRecDepth 100000 in
set_option maxHeartbeats 2000000 in
theorem refused_any (G : Nat → Prop) (vl vt : Value) (l : List Tx) (t : Tx) (w : World) (hG : Dom G w) (hl : TxsAt G w vl l) (ht : TxAt G w vt t) :
    Calls Try.prog 3 #[vl, vt] w (Tru w) := by
  obtain ⟨pv, rfl, hti, hp⟩ := ht
  have HP := Lib.hid hp
  obtain ⟨pp, pc, rfl, hp1, hp2, hp3, hp4⟩ := hp
  have hlen : ∃ p c, vl = .slice p l.length c ∧ l.length ≤ 9223372036854775807 := by obtain ⟨p, c, rfl, h1, h2, _⟩ := hl; exact ⟨p, c, rfl, by omega⟩
  have HL := Lib.hid hl
  obtain ⟨lp, lc, rfl, hll⟩ := hlen
  clear hl hp3 hp4
  go_enter Try.func3, Try.ntmps3
  go_wp2_with fail
  refine (small22_any G _ l _ (fun k hk => by have := hG k hk; simp; omega) (HL.out.up (below_alloc _ _))).mono ?_
  rintro e w1 ⟨q, rfl, hq, hb1⟩
  have HQ := Lib.hid hq
  have HB1 := Lib.hid hb1
  have hz1 : w.heap.size + 1 ≤ w1.heap.size := by have := hb1.size; simpa using this
  have b1 : w1.cell? ⟨w.heap.size, 1, none⟩ = some (.slice pp t.puts.length pc) := cell_up hb1 (by go_simp)
  have hbw1 := Below.up (below_alloc w _) hb1
  have HBW1 := Lib.hid hbw1
  clear hq hb1 hbw1
  cases q with
  | false =>
    go_wp2_with fail
    refine (awake22 _).mono ?_
    rintro e w2 ⟨rfl, hb2⟩
    go_wp2
    go_ret
    exact ⟨rfl, Below.up HBW1.out hb2⟩
  | true =>
    go_wp2_with fail
    refine (puts_any G _ t.puts 5000 _ (HP.out.up HBW1.out) (by omega) (by omega)).mono ?_
    rintro e w2 ⟨n2, rfl, hn0, hn1, hn2, hb2⟩
    have hbw2 := Below.up HBW1.out hb2
    have HBW2 := Lib.hid hbw2
    have b2 : w2.cell? ⟨w.heap.size, 1, none⟩ = some (.slice pp t.puts.length pc) := cell_up hb2 b1
    have hz2 := hb2.size
    have HB2 := Lib.hid hb2
    clear hb2 hbw2 hn2 hn0 hn1
    by_cases h5 : n2 ≤ 5000
    case neg =>
      go_wp2_with fail
      refine (awake22 _).mono ?_
      rintro e w3 ⟨rfl, hb3⟩
      go_wp2
      go_ret
      exact ⟨rfl, Below.up HBW2.out hb3⟩
    case pos =>
      go_wp2_with fail
      refine (modelNew_any 8 _ (by omega) (by omega)).mono ?_
      rintro e w3 ⟨va, rfl, hma, hb3⟩
      have HMA := Lib.hid hma
      have HB3 := Lib.hid hb3
      obtain ⟨⟨ba, ra, mla, rfl, _⟩, _⟩ := hma
      clear hb3
      go_wp2_with fail
      refine (modelNew_any 8 _ (by omega) (by omega)).mono ?_
      rintro e w4 ⟨vb, rfl, hmb, hb4⟩
      have HMB := Lib.hid hmb
      have HB4 := Lib.hid hb4
      obtain ⟨⟨bb, rb, mlb, rfl, _⟩, _⟩ := hmb
      clear hb4
      have htwo : Two (w.heap.size + 1) w4 (.pointer (some ⟨ba, 0, none⟩)) (.pointer (some ⟨bb, 0, none⟩)) 8 [] [] (New w2 w3) (New w3 w4) :=
        ⟨HMA.out.same (HMA.out.dom.same HB4.out), HMB.out, fun k hk => by have := hk.1; omega, fun k hk => by have := hk.1; have := HB3.out.size; omega, fun k h1 h2 => by have := h1.2; have := h2.1; omega⟩
      have b4 : w4.cell? ⟨w.heap.size, 1, none⟩ = some (.slice pp t.puts.length pc) := cell_up HB4.out (cell_up HB3.out b2)
      have b40 : w4.cell? ⟨w.heap.size, 0, none⟩ = some (.int .i64 t.time) := cell_up HB4.out (cell_up HB3.out (cell_up HB2.out (cell_up HB1.out (by go_simp))))
      have hbw4 := Below.up HBW2.out (Below.up HB3.out HB4.out)
      have hz4 : w.heap.size + 1 ≤ w4.heap.size := by have := HB3.out.size; have := HB4.out.size; omega
      have HTWO := Lib.hid htwo
      have HBW4 := Lib.hid hbw4
      clear htwo hbw4 b1 b2 hz1 hz2
      go_wp2_with fail
      go_loopw [9] (fun i wr => ∃ k : Nat, ∃ s Fa Fb, k ≤ l.length ∧ i = .int .i64 k ∧ Two (w.heap.size + 1) wr (.pointer (some ⟨ba, 0, none⟩)) (.pointer (some ⟨bb, 0, none⟩)) 8 s s Fa Fb ∧ Below (w.heap.size + 1) w4 wr ∧ Hid (Len40 s)) (fun i _ => l.length - (intOf i).toNat)
      case atStart => exact ⟨0, [], _, _, by omega, rfl, HTWO.out, Below.refl _ _, len40_nil⟩
      case round =>
        obtain ⟨k, s, Fa, Fb, hk, rfl, htw, hbk, hs40⟩ := hrel
        have hwr : w.heap.size + 1 ≤ wr.heap.size := by have := hbk.size; omega
        have hbkw : Below w.heap.size w wr := HBW4.out.trans (hbk.mono (by omega))
        by_cases hlt : k < l.length
        · obtain ⟨p, c, hv, g1, g2, g3, g4⟩ := HL.out.up hbkw
          cases hv
          obtain ⟨b, o, rfl, hgb, he⟩ := g4 k hlt
          obtain ⟨qv, he0, he1, het, hone⟩ := txE_txAt he
          generalize l[k] = x at he0 he1 het
          have HET := Lib.hid het
          have HTW := Lib.hid htw
          have HBK := Lib.hid hbk
          have HBKW := Lib.hid hbkw
          clear het htw hbk hbkw he g3 g4
          go_wp2_with fail
          refine (modelRun_any Fa G _ _ 8 s x _ (by omega) HTW.out.a HET.out (fun k hk => by have := hG k hk; omega) (fun k h1 h2 => by have := HTW.out.la k h1; have := hG k h2; omega)).mono ?_
          rintro e w5 ⟨rfl, hc5, hm5⟩
          obtain ⟨htw5, hb5⟩ := HTW.out.runA hwr hc5 hm5
          have HTW5 := Lib.hid htw5
          have HB5 := Lib.hid hb5
          have hz5 := hb5.size
          have he0' := (hb5.cell (p := ⟨b, o + k * 2, none⟩) (by have := hG b hgb; show b < _; omega)).trans he0
          have he1' := (hb5.cell (p := ⟨b, o + k * 2 + 1, none⟩) (by have := hG b hgb; show b < _; omega)).trans he1
          have het5 : TxAt G w5 (.agg #[.int .i64 x.time, qv]) x := HET.out.same (same_of_below hb5 (fun q hq => by have := hG q hq; omega))
          have HET5 := Lib.hid het5
          clear htw5 hb5 hm5 hc5 het5
          go_wp2_with fail
          refine (modelRun_any Fb G _ _ 8 s x _ (by omega) HTW5.out.b HET5.out (fun k hk => by have := hG k hk; omega) (fun k h1 h2 => by have := HTW5.out.lb k h1; have := hG k h2; omega)).mono ?_
          rintro e w6 ⟨rfl, hc6, hm6⟩
          obtain ⟨htw6, hb6⟩ := HTW5.out.swap.runA (by omega) hc6 hm6
          have HTW6 := Lib.hid htw6.swap
          have HB6 := Lib.hid hb6
          have hcc : ((runCode 8 x.puts) != (runCode 8 x.puts)) = false := by simp
          clear htw6 hb6 hm6 hc6
          go_wp2_with fail
          go_roundw
          case rel =>
            exact ⟨k + 1, runNext 8 s x.puts, _, _, by omega, by go_num, HTW6.out, HBK.out.trans (HB5.out.trans HB6.out), runNext_len HTW.out.a.nodup hs40 _⟩
          case measure => simp [intOf]; omega
        · have b5 := (hbk.cell (p := ⟨w.heap.size, 1, none⟩) (by show w.heap.size < _; omega)).trans b4
          have b50 := (hbk.cell (p := ⟨w.heap.size, 0, none⟩) (by show w.heap.size < _; omega)).trans b40
          have HTW := Lib.hid htw
          have HBKW := Lib.hid hbkw
          have HEQ := Lib.hid (eqM_refl htw.a.nodup)
          clear htw hbk hbkw
          go_wp2_with fail
          refine (modelSame_any Fa Fb _ _ 8 s s _ HTW.out.a HTW.out.b).mono ?_
          rintro e w5 ⟨rfl, hb5⟩
          rw [HEQ.out]
          have HB5 := Lib.hid hb5
          clear hb5
          go_wp2_with fail
          refine (modelSame_any Fb Fa _ _ 8 s s _ (HTW.out.up HB5.out).b (HTW.out.up HB5.out).a).mono ?_
          rintro e w6 ⟨rfl, hb6⟩
          rw [HEQ.out]
          have HB6 := Lib.hid hb6
          have hb56 := Below.up HB5.out hb6
          have HB56 := Lib.hid hb56
          have b6 := cell_up hb56 b5
          have b60 := cell_up hb56 b50
          have hz6 := hb56.size
          have HTW6 := Lib.hid (HTW.out.up hb56)
          have hbw6 := Below.up HBKW.out hb56
          have HBW6 := Lib.hid hbw6
          have HT6 := Lib.hid (show TxAt G w6 (.agg #[.int .i64 t.time, .slice pp t.puts.length pc]) t from ⟨_, rfl, hti, HP.out.up hbw6⟩)
          clear hb6 hb56 hbw6
          go_wp2_with fail
          refine (modelRun_any Fa G _ _ 8 s t _ (by omega) HTW6.out.a HT6.out (fun k hk => by have := hG k hk; omega) (fun k h1 h2 => by have := HTW6.out.la k h1; have := hG k h2; omega)).mono ?_
          rintro e w7 ⟨rfl, hc7, hm7⟩
          obtain ⟨htw7, hb7⟩ := HTW6.out.runA (by omega) hc7 hm7
          have HTW7 := Lib.hid htw7
          have HB7 := Lib.hid hb7
          have b7 := (hb7.cell (p := ⟨w.heap.size, 1, none⟩) (by show w.heap.size < _; omega)).trans b6
          have b70 := (hb7.cell (p := ⟨w.heap.size, 0, none⟩) (by show w.heap.size < _; omega)).trans b60
          have hz7 := hb7.size
          have HBW7 := Lib.hid (HBW6.out.trans (hb7.mono (by omega)))
          clear htw7 hb7 hc7 hm7
          by_cases hcode : runCode 8 t.puts = 0
          case neg =>
            have hcne : ((runCode 8 t.puts) != 0) = true := by rw [bne_iff_ne]; exact hcode
            have hs : (if runCode 8 t.puts = 0 then runPuts s t.puts else s) = s := if_neg hcode
            rw [hs] at HTW7
            have HTW7' := HTW7
            clear hs hcode
            go_wp2_with fail
            refine (modelSame_any _ Fb _ _ 8 s s _ HTW7'.out.a HTW7'.out.b).mono ?_
            rintro e w8 ⟨rfl, hb8⟩
            rw [HEQ.out]
            go_wp2_with fail
            refine (awake22 _).mono ?_
            rintro e w9 ⟨rfl, hb9⟩
            go_wp2
            go_ret
            exact ⟨rfl, Below.up HBW7.out (Below.up hb8 hb9)⟩
          case pos =>
            have hcne : ((runCode 8 t.puts) != 0) = false := by rw [bne_eq_false_iff_eq]; exact hcode
            have hs : (if runCode 8 t.puts = 0 then runPuts s t.puts else s) = runPuts s t.puts := if_pos hcode
            rw [hs] at HTW7
            have HCODE := Lib.hid hcode
            have HOK := Lib.hid (code_ok hcode)
            have HTW7' := HTW7
            clear hs hcode
            obtain ⟨W, rfl⟩ : ∃ W : World, W = wr := ⟨_, rfl⟩
            have hn7 := HTW7'.out.a.nodup
            have HN7 := Lib.hid hn7
            have HL7 := Lib.hid (runPuts_len HTW.out.a.nodup hs40.out t.puts HOK.out.2.2)
            have HP7 := Lib.hid (HP.out.up HBW7.out)
            clear hn7
            go_wp2_with fail
            go_loopw [11] (fun i wr => ∃ k : Nat, k ≤ t.puts.length ∧ i = .int .i64 k ∧ Below w7.heap.size w7 wr) (fun i _ => t.puts.length - (intOf i).toNat)
            case atStart => exact ⟨0, by omega, rfl, Below.refl _ _⟩
            case round =>
              obtain ⟨k2, hk2, rfl, hb8⟩ := hrel
              have b8 := cell_up hb8 b7
              have b80 := cell_up hb8 b70
              have HB8 := Lib.hid hb8
              have hz8 := hb8.size
              by_cases hlt2 : k2 < t.puts.length
              · obtain ⟨p', c', hv', _, _, _, g4'⟩ := HP7.out.up HB8.out
                cases hv'
                obtain ⟨b', o', rfl, hgb', hca, hci, dv, hcb, hdd⟩ := g4' k2 hlt2
                have hmem := List.getElem_mem hlt2
                have hblk := HOK.out.1 _ hmem
                have hlook := runPuts_look HTW.out.a.nodup t.puts HOK.out.2.1 HOK.out.2.2 hmem
                have h40 := HOK.out.2.2 _ hmem
                generalize t.puts[k2] = y at hca hci hdd hblk hlook h40
                obtain ⟨dp, dc, rfl⟩ := shape_of hdd h40
                have HDD := Lib.hid hdd
                have HBLK := Lib.hid hblk
                have HLOOK := Lib.hid hlook
                clear hb8 hdd hblk hlook h40 hmem hci g4'
                go_wp2_with fail
                refine (modelGet_any _ _ 8 y.lba _ _ (HTW7'.out.up HB8.out).a HL7.out).mono ?_
                rintro e w9 (⟨h0, _⟩ | ⟨_, v9, rfl, hv9, hb9⟩)
                · exact absurd (h0.symm.trans HBLK.out) (by decide)
                rw [HLOOK.out] at hv9
                have HV9 := Lib.hid hv9
                have HB9 := Lib.hid hb9
                have b9 := cell_up hb9 b8
                have hcb9 := cell_up hb9 hcb
                clear hb9 hv9
                go_wp2_with fail
                refine (bytes_any (fun _ => True) _ _ y.data y.data _ (BytesAt.mono HV9.out fun _ _ => trivial) (BytesAt.mono (HDD.out.up HB9.out) fun _ _ => trivial)).mono ?_
                rintro e w10 ⟨rfl, hb10⟩
                rw [show (y.data == y.data) = true by simp]
                have HB10 := Lib.hid hb10
                clear hb10
                go_wp2_with fail
                go_roundw
                case rel => exact ⟨k2 + 1, by omega, by go_num, Below.up HB8.out (Below.up HB9.out HB10.out)⟩
                case measure => simp [intOf]; omega
              · have HT8 := Lib.hid (show TxAt G wr (.agg #[.int .i64 t.time, .slice pp t.puts.length pc]) t from ⟨_, rfl, hti, HP7.out.up HB8.out⟩)
                have HTW8 := Lib.hid (HTW7'.out.up HB8.out)
                clear hb8
                go_wp2_with fail
                refine (modelRun_any Fb G _ _ 8 s t _ (by omega) HTW8.out.b HT8.out (fun k hk => by have := hG k hk; omega) (fun k h1 h2 => by have := HTW8.out.lb k h1; have := hG k h2; omega)).mono ?_
                rintro e w9 ⟨rfl, hc9, hm9⟩
                obtain ⟨htw9, hb9⟩ := HTW8.out.swap.runA (by omega) hc9 hm9
                rw [HCODE.out] at htw9 ⊢
                simp only [if_true] at htw9
                have HTW9 := Lib.hid htw9.swap
                have HB9 := Lib.hid hb9
                have hz9 := hb9.size
                clear htw9 hb9 hc9 hm9
                go_wp2_with fail
                refine (modelSame_any _ _ _ _ 8 _ _ _ HTW9.out.a HTW9.out.b).mono ?_
                rintro e w10 ⟨rfl, hb10⟩
                rw [eqM_refl HN7.out]
                go_wp2_with fail
                refine (awake22 _).mono ?_
                rintro e w11 ⟨rfl, hb11⟩
                go_wp2
                go_ret
                exact ⟨rfl, ((HBW7.out.trans (HB8.out.mono (by omega))).trans (HB9.out.mono (by omega))).trans ((Below.up hb10 hb11).mono (by omega))⟩
end Go.Proofs
