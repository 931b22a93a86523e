/- Package extmap: Apply. -/
import Derived.Test.YtnjidpmggggiiaaExt3
namespace Go.Proofs
open Go.RowKit Sc

theorem applyLen_is (G : Nat → Prop) (x : Put) (ev : Value) (W : World) (he : putV G W ev x) :
    Calls Try.prog 53 (#[ev] ++ #[]) W fun e w' => e = .returned (.bool (!decide (x.data.length = 40))) ∧ Below W.heap.size W w' := by
  obtain ⟨dv, rfl, hi, hd⟩ := he
  obtain ⟨p, c, rfl, h1, h2, h3, h4⟩ := hd
  have hl : x.data.length ≤ 9223372036854775807 := by omega
  clear h4 h3 hi
  generalize x.data.length = n at *
  show Calls _ _ #[.agg #[.int .i64 x.lba, .slice p n c]] _ _
  by_cases h : n = 40
  · subst h
    go_enter Try.func53, Try.ntmps53
    go_wp2
    go_ret
    exact ⟨rfl, below_alloc _ _⟩
  · have hne : ((n : Int) != 40) = true := by rw [bne_iff_ne]; omega
    have hd : decide (n = 40) = false := decide_eq_false h
    have HD := Lib.hid hd
    have H := Lib.hid h
    clear hd h
    go_enter Try.func53, Try.ntmps53
    go_wp2
    go_ret
    exact ⟨congrArg boolRet (by rw [HD.out]; rfl), below_alloc _ _⟩

def lbaAt (l : List Put) (i : Nat) : Int := (l.map (·.lba)).getD i 0
theorem infoVer : (Try.prog.info? 115).map (fun i => (i.zero, i.size, i.bytes)) = some (some (.agg #[.int .i64 0, .slice none 0 0]), 2, 32) := by kernel_rfl
theorem lbaAt_get {l : List Put} {i : Nat} (h : i < l.length) : l[i].lba = lbaAt l i := by simp [lbaAt, List.getD, h]
/-- What an Apply says. -/
def applyCode (blocks last : Int) (t : Tx) : Int :=
  if t.time ≤ last ∨ 1099511627776 < t.time then 11
  else if riseB t.puts = false then 1
  else if blk blocks (lbaAt t.puts 0) = false ∨ blk blocks (lbaAt t.puts (t.puts.length - 1)) = false then 2
  else if t.puts.any (fun p => !decide (p.data.length = 40)) then 3 else 0
def applyOne (time : Int) (vs : Vers) (p : Put) : Vers := aset vs p.lba ((alook vs p.lba).getD [] ++ [⟨time, p.data⟩])
def applyVs (time : Int) (vs : Vers) (l : List Put) : Vers := l.foldl (applyOne time) vs
theorem applyVs_snoc (time : Int) (vs : Vers) (l : List Put) (p : Put) : applyVs time vs (l ++ [p]) = applyOne time (applyVs time vs l) p := by simp [applyVs]
def applyNext (blocks last : Int) (vs : Vers) (t : Tx) : Vers := if applyCode blocks last t = 0 then applyVs t.time vs t.puts else vs
def applyLast (blocks last : Int) (t : Tx) : Int := if applyCode blocks last t = 0 then t.time else last
def ApplySaid (F : Nat → Prop) (v : Value) (blocks last : Int) (vs : Vers) (t : Tx) (w : World) (e : Ending) (w' : World) : Prop :=
  e = .returned (.int .i64 (applyCode blocks last t)) ∧ Chg F w w' ∧ ExtIs (fun k => F k ∨ New w w' k) w' v blocks (applyLast blocks last t) (applyNext blocks last vs t)
theorem ExtIs.more {F : Nat → Prop} {w w' : World} {v : Value} {blocks last : Int} {vs : Vers} (h : ExtIs F w v blocks last vs) (hb : Below w.heap.size w w') : ExtIs (fun k => F k ∨ New w w' k) w' v blocks last vs := by
  obtain ⟨b, r, ml, D, rfl, q⟩ := (h.up hb).parts
  have hd := (h.up hb).dom
  exact ⟨⟨b, r, ml, D, rfl, .inl q.fb, .inl q.fr, q.hb, q.hm, q.ha.imp fun _ _ ⟨a, c⟩ => ⟨a, fun g hg => ⟨.inl (c g hg).1, (c g hg).2⟩⟩, q.ho, fun k hk => ⟨.inl (q.hD k hk).1, (q.hD k hk).2⟩⟩, fun k hk => hk.elim (hd k) (fun h => h.2)⟩
theorem apply_fail {F : Nat → Prop} {v : Value} {blocks last c : Int} {vs : Vers} {t : Tx} {w w' : World} (h : ExtIs F w v blocks last vs) (hb : Below w.heap.size w w') (hc : applyCode blocks last t = c) (h0 : c ≠ 0) : ApplySaid F v blocks last vs t w (.returned (.int .i64 c)) w' := by
  refine ⟨by rw [hc], Chg.of_below hb (fun k h1 h2 => by omega), ?_⟩
  unfold applyLast applyNext
  rw [hc, if_neg h0, if_neg h0]
  exact h.more hb

set_option maxRecDepth 100000 in
set_option maxHeartbeats 4000000 in
theorem extApply_any (F G : Nat → Prop) (v tv : Value) (blocks last : Int) (vs : Vers) (t : Tx) (w : World) (hm : ExtIs F w v blocks last vs) (h1b : 1 ≤ blocks) (ht : TxAt G w tv t) (hG : Dom G w) (hFG : ∀ k, F k → ¬ G k)
    (hln : ∀ k l, alook vs k = some l → l.length ≤ 1000000) (hpl : t.puts.length ≤ 1000000) :
    Calls Try.prog 17 #[v, tv] w (ApplySaid F v blocks last vs t w) := by
  have HMOD := Lib.hid hm
  obtain ⟨b, r, ml, D, rfl, hB⟩ := hm.parts
  obtain ⟨pv, rfl, hti, hp⟩ := ht
  have HP := Lib.hid hp
  obtain ⟨pp, pc, rfl, hp1, hp2, hp3, hp4⟩ := hp
  have hc0 : w.cell? ⟨b, 0, none⟩ = some (.int .i64 blocks) := by rw [cell_row hB.hb]; rfl
  have hc2 : w.cell? ⟨b, 2, none⟩ = some (.int .i64 last) := by rw [cell_row hB.hb]; rfl
  have hbl := hB.dom b hB.fb
  have hcode : applyCode blocks last t = applyCode blocks last t := rfl
  have hbA := below_alloc w (.cells #[.int .i64 t.time, .slice pp t.puts.length pc] 49)
  have hmA := hm.up hbA
  have hgx : ∀ i, i < t.puts.length → lbaAt t.puts i = (t.puts.map (·.lba)).getD i 0 := fun _ _ => rfl
  have HP4 := Lib.hid hp4
  have HB := Lib.hid hB
  have HMA := Lib.hid hmA
  have HLN := Lib.hid hln
  clear hp4 hB hmA hln
  clear hp3 hm hgx hcode
  by_cases hb1 : t.time ≤ last
  · have hcd : applyCode blocks last t = 11 := by unfold applyCode; rw [if_pos (.inl hb1)]
    have HCD := Lib.hid hcd
    clear hcd
    go_enter Try.func17, Try.ntmps17
    go_wp2_with fail
    refine (extGone_any F _ _ _ _ _ HMA.out h1b).mono ?_
    rintro e w1 ⟨rfl, rfl⟩
    go_wp2_with fail
    go_quiet (fail)
    go_wp2
    go_ret
    exact apply_fail HMOD.out (below_drewN hbA _) HCD.out (by decide)
  by_cases hb2 : 1099511627776 < t.time
  · have hcd : applyCode blocks last t = 11 := by unfold applyCode; rw [if_pos (.inr hb2)]
    have hb1' : decide (t.time ≤ last) = false := by simp; omega
    have hb1'' : last < t.time := by omega
    have HCD := Lib.hid hcd
    clear hcd
    clear hb1
    go_enter Try.func17, Try.ntmps17
    go_wp2_with fail
    refine (extGone_any F _ _ _ _ _ HMA.out h1b).mono ?_
    rintro e w1 ⟨rfl, rfl⟩
    go_wp2_with fail
    go_quiet (fail)
    go_wp2
    go_ret
    exact apply_fail HMOD.out (below_drewN hbA _) HCD.out (by decide)
  have hb1' : decide (t.time ≤ last) = false := by simp; omega
  have hb1'' : last < t.time := by omega
  have hb2' : decide (1099511627776 < t.time) = false := by simp; omega
  have hb2'' : t.time ≤ 1099511627776 := by omega
  have hcd1 : riseB t.puts = false → applyCode blocks last t = 1 := by intro h; unfold applyCode; rw [if_neg (by omega), if_pos h]
  have hcd2 : riseB t.puts = true → (blk blocks (lbaAt t.puts 0) = false ∨ blk blocks (lbaAt t.puts (t.puts.length - 1)) = false) → applyCode blocks last t = 2 := by
    intro h h'; unfold applyCode; rw [if_neg (by omega), if_neg (by rw [h]; decide), if_pos h']
  have hcd3 : riseB t.puts = true → blk blocks (lbaAt t.puts 0) = true → blk blocks (lbaAt t.puts (t.puts.length - 1)) = true → ∀ q, t.puts.any (fun p => !decide (p.data.length = 40)) = q → applyCode blocks last t = if q then 3 else 0 := by
    intro h h1 h2 q hq; unfold applyCode; rw [if_neg (by omega), if_neg (by rw [h]; decide), if_neg (by rw [h1, h2]; decide), hq]
  have HCD1 := Lib.hid hcd1
  have HCD2 := Lib.hid hcd2
  have HCD3 := Lib.hid hcd3
  clear hcd1 hcd2 hcd3
  clear hb1 hb2
  go_enter Try.func17, Try.ntmps17
  go_wp2_with fail
  refine (extGone_any F _ _ _ _ _ HMA.out h1b).mono ?_
  rintro e w1 ⟨rfl, rfl⟩
  go_wp2_with fail
  go_quiet (fail)
  have hb2 : Below w.heap.size w ((w.alloc (.cells #[.int .i64 t.time, .slice pp t.puts.length pc] 49)).drewN nq) := below_drewN hbA _
  have e0 : ((w.alloc (.cells #[.int .i64 t.time, .slice pp t.puts.length pc] 49)).drewN nq).cell? ⟨w.heap.size, 0, none⟩ = some (.int .i64 t.time) := by go_simp
  have e1 : ((w.alloc (.cells #[.int .i64 t.time, .slice pp t.puts.length pc] 49)).drewN nq).cell? ⟨w.heap.size, 1, none⟩ = some (.slice pp t.puts.length pc) := by go_simp
  have hz2 : w.heap.size < ((w.alloc (.cells #[.int .i64 t.time, .slice pp t.puts.length pc] 49)).drewN nq).heap.size := by simp
  generalize (w.alloc (.cells #[.int .i64 t.time, .slice pp t.puts.length pc] 49)).drewN nq = W2 at *
  have HB2 := Lib.hid hb2
  clear hb2
  go_wp2_with fail
  refine (rise_any G _ t.puts _ (fun k hk => by have := hG k hk; omega) (HP.out.up HB2.out)).mono ?_
  rintro e w3 ⟨rfl, hb3⟩
  have e0' := cell_up hb3 e0
  have e1' := cell_up hb3 e1
  have hb03 := Below.up HB2.out hb3
  have hz3 := hb3.size
  clear e0 e1
  cases hrise : riseB t.puts with
  | false =>
    have hcd := HCD1.out hrise
    have HCD := Lib.hid hcd
    have HB03 := Lib.hid hb03
    clear hcd hb03
    clear hrise hb3
    go_wp2
    go_ret
    exact apply_fail HMOD.out HB03.out HCD.out (by decide)
  | true =>
    have hlen : 0 < t.puts.length := by
      unfold riseB at hrise
      rw [Bool.and_eq_true, decide_eq_true_eq] at hrise
      exact hrise.1
    have HB03 := Lib.hid hb03
    have HRISE := Lib.hid hrise
    clear hb03 hrise
    obtain ⟨pb, po, rfl, hGb, hca, _, _, _, _⟩ := HP4.out 0 hlen
    obtain ⟨_, _, hpe, _, hcl, _⟩ := HP4.out (t.puts.length - 1) (by omega)
    cases hpe
    have hl0 : t.puts[0].lba = lbaAt t.puts 0 := lbaAt_get hlen
    have hl1 : (t.puts[t.puts.length - 1]'(by omega)).lba = lbaAt t.puts (t.puts.length - 1) := lbaAt_get (by omega)
    rw [hl0] at hca
    rw [hl1] at hcl
    have hca' := cell_up HB03.out hca
    have hcl' := cell_up HB03.out hcl
    simp only [Nat.zero_mul, Nat.add_zero] at hca'
    have hm3 := HMOD.out.up HB03.out
    generalize hA0 : lbaAt t.puts 0 = a0 at *
    generalize hA1 : lbaAt t.puts (t.puts.length - 1) = a1 at *
    have HM3 := Lib.hid hm3
    have HL0 := Lib.hid hl0
    have HL1 := Lib.hid hl1
    have HA0 := Lib.hid hA0
    have HA1 := Lib.hid hA1
    clear hm3 hl0 hl1 hA0 hA1
    clear hca hcl hb3
    have hidx : ((t.puts.length : Int) - 1) = ((t.puts.length - 1 : Nat) : Int) := by omega
    have hw1 : IntKind.i64.wrap ((t.puts.length : Int) - 1) = ((t.puts.length - 1 : Nat) : Int) := by rw [hidx]; exact IntWalk.i64_in _ (by omega)
    cases hk0 : blk blocks a0 with
    | false =>
      have hcd := HCD2.out HRISE.out (.inl hk0)
      have HCD := Lib.hid hcd
      have HK0 := Lib.hid hk0
      clear hcd hk0
      go_wp2_with fail
      refine (extBlock_any F _ _ _ _ a0 _ HM3.out).mono ?_
      rintro e w4 ⟨rfl, rfl⟩
      rw [HK0.out]
      go_wp2
      go_ret
      exact apply_fail HMOD.out HB03.out HCD.out (by decide)
    | true =>
      cases hk1 : blk blocks a1 with
      | false =>
        have hcd := HCD2.out HRISE.out (.inr hk1)
        have HCD := Lib.hid hcd
        have HK0 := Lib.hid hk0
        have HK1 := Lib.hid hk1
        clear hcd hk0 hk1
        go_wp2_with fail
        refine (extBlock_any F _ _ _ _ a0 _ HM3.out).mono ?_
        rintro e w4 ⟨rfl, rfl⟩
        rw [HK0.out]
        go_wp2_with fail
        refine (extBlock_any F _ _ _ _ a1 _ HM3.out).mono ?_
        rintro e w4 ⟨rfl, rfl⟩
        rw [HK1.out]
        go_wp2
        go_ret
        exact apply_fail HMOD.out HB03.out HCD.out (by decide)
      | true =>
        have hcd := HCD3.out HRISE.out hk0 hk1
        have HCD := Lib.hid hcd
        have HK0 := Lib.hid hk0
        have HK1 := Lib.hid hk1
        clear hcd hk0 hk1
        go_wp2_with fail
        refine (extBlock_any F _ _ _ _ a0 _ HM3.out).mono ?_
        rintro e w4 ⟨rfl, rfl⟩
        rw [HK0.out]
        go_wp2_with fail
        refine (extBlock_any F _ _ _ _ a1 _ HM3.out).mono ?_
        rintro e w4 ⟨rfl, rfl⟩
        rw [HK1.out]
        go_wp2_with fail
        refine (anyPut_any G _ t.puts (fun p => !decide (p.data.length = 40)) 53 #[] (by go_simp) _ (fun k hk => by have := hG k hk; have := HB03.out.size; omega) (HP.out.up HB03.out) (fun i hi W ev hb hev => applyLen_is G _ ev W hev)).mono ?_
        rintro e w4 ⟨rfl, hb4⟩
        have hb04 := Below.up HB03.out hb4
        have e1' := cell_up hb4 e1'
        have e0' := cell_up hb4 e0'
        have hz4 := hb4.size
        cases hany : t.puts.any (fun p => !decide (p.data.length = 40)) with
        | true =>
          have hcd := HCD.out true hany
          have HCD := Lib.hid hcd
          have HB04 := Lib.hid hb04
          clear hcd hb04
          clear hany hb4
          go_wp2
          go_ret
          exact apply_fail HMOD.out HB04.out HCD.out (by decide)
        | false =>
          have hcd := HCD.out false hany
          simp only [Bool.false_eq_true, if_false] at hcd
          have h40 : ∀ p ∈ t.puts, p.data.length = 40 := by
            intro p hp
            have := List.any_eq_false.1 hany p hp
            simpa using this
          have hB4 := HB.out.up hb04
          have HCD := Lib.hid hcd
          have HB04 := Lib.hid hb04
          have H40 := Lib.hid h40
          have HB4 := Lib.hid hB4
          clear hcd hb04 h40 hB4
          clear hany hb4 hca' hcl' hidx hw1
          go_wp2_with fail
          obtain ⟨iv, hi0, hi1, hi2, hi3⟩ := info_parts infoVer
          go_loopw [58] (fun i wr => ∃ k : Nat, k ≤ t.puts.length ∧ i = .int .i64 k ∧ Hid (ExtIs (fun q => F q ∨ (w4.heap.size ≤ q ∧ q < wr.heap.size)) wr (.pointer (some ⟨b, 0, none⟩)) blocks last (applyVs t.time vs (t.puts.take k))) ∧ Hid (Chg F w4 wr) ∧ Hid (∀ key l, alook (applyVs t.time vs (t.puts.take k)) key = some l → l.length ≤ 1000000 + k)) (fun i _ => t.puts.length - (intOf i).toNat)
          case atStart =>
            refine ⟨0, by omega, rfl, ?_, Chg.refl _ _, fun key l h => by have := HLN.out key l h; omega⟩
            have h := HB4.out.is
            obtain ⟨b', r', ml', D', hv', q⟩ := h.parts
            cases hv'
            exact ⟨⟨b, r', ml', D', rfl, .inl q.fb, .inl q.fr, q.hb, q.hm, q.ha.imp fun _ _ ⟨a, c⟩ => ⟨a, fun g hg => ⟨.inl (c g hg).1, (c g hg).2⟩⟩, q.ho, fun k hk => ⟨.inl (q.hD k hk).1, (q.hD k hk).2⟩⟩, fun k hk => hk.elim (h.dom k) (fun h => h.2)⟩
          case round =>
            obtain ⟨k, hk, rfl, HE, HC, HLK⟩ := hrel
            have hzc := HC.out.size
            have hFd : ∀ q, F q → q < w.heap.size := fun q hq => HMOD.out.dom q hq
            have f0 : wr.cell? ⟨w.heap.size, 0, none⟩ = some (.int .i64 t.time) := HC.out.cell (fun h => by have := hFd _ h; omega) e0'
            have f1 : wr.cell? ⟨w.heap.size, 1, none⟩ = some (.slice (some ⟨pb, po, none⟩) t.puts.length pc) := HC.out.cell (fun h => by have := hFd _ h; omega) e1'
            obtain ⟨b', r', ml', D', hv', hq⟩ := HE.out.parts
            cases hv'
            have f2 : wr.cell? ⟨b, 1, none⟩ = some (.map (some r')) := by rw [cell_row hq.hb]; rfl
            have hbw4 := HB04.out.size
            by_cases hlt : k < t.puts.length
            · obtain ⟨_, _, hpe, hGb', hca, hi, dv, hcb, hd0⟩ := HP4.out k hlt
              cases hpe
              have hGs : Same G w wr := fun q hq' => (HC.out.block q (by have := hG q hq'; omega) (fun h => hFG q h hq')).trans (HB04.out.block q (hG q hq'))
              have hca' := (hGs.cell hGb' _).trans hca
              have hcb' := (hGs.cell hGb' _).trans hcb
              have hdx := hd0.same hGs
              have HT := Lib.hid (take_snoc t.puts k hlt)
              have h40' := H40.out _ (List.getElem_mem hlt)
              generalize t.puts[k] = y at hca hca' hcb hdx hd0 HT h40' hi
              obtain ⟨u, l, hu, hl, hout, hown, hud⟩ := hq.look y.lba
              have hll : l.length ≤ 1000000 + k := by
                cases hx : alook (applyVs t.time vs (t.puts.take k)) y.lba with
                | none => rw [hx] at hl; subst hl; simp
                | some l' => rw [hx] at hl; subst hl; exact HLK.out _ _ hx
              have hlk : ∀ W, MapIs W r' ml' → (Instr.lookup 106 (.map (some r')) (.int .i64 y.lba) false).run Try.prog W = .ok u W := by
                intro W hW
                have := hW.lookup (P := Try.prog) Try.underlying106 Try.underlying3 (Try.zeroValue113 W) y.lba false
                rw [hu] at this
                simpa using this
              have huq : ∀ g, u.ownBlock = some g → ¬ D' g := by
                obtain ⟨_, _, _, _, _, h5⟩ := hout
                exact fun g hg hd => (h5 g hd).2.2 hg
              have hul : ∀ g, u.ownBlock = some g → g < wr.heap.size ∧ (F g ∨ w4.heap.size ≤ g) := fun g hg => ⟨hq.dom g (hown g hg).1, (hown g hg).1.imp id fun h => h.1⟩
              have n1 : some b ≠ u.ownBlock := fun e => (hown b e.symm).2.1 rfl
              have n2 : some w.heap.size ≠ u.ownBlock := fun e => by
                rcases (hul _ e.symm).2 with h | h
                · have := hFd _ h; omega
                · omega
              have n3 : some wr.heap.size ≠ u.ownBlock := fun e => by have := (hul _ e.symm).1; omega
              have n4 : some r' ≠ u.ownBlock := fun e => (hown r' e.symm).2.2 rfl
              have hrl := hq.hm.lt
              have hbl2 := hq.dom b hq.fb
              have hHLK := hlk
              obtain ⟨dp, dc, rfl⟩ := shape_of hdx rfl
              have hlk1 := hlk ((wr.alloc (.cells #[.int .i64 y.lba, .slice dp y.data.length dc] 61)).drew) (hq.hm.up (below_drewN (below_alloc wr _) 1))
              have HDX := Lib.hid hdx
              have HQ := Lib.hid hq
              have HOUT := Lib.hid hout
              have HOWN := Lib.hid hown
              have HUD := Lib.hid hud
              have HUQ := Lib.hid huq
              have HUL := Lib.hid hul
              have HU := Lib.hid hu
              have HL := Lib.hid hl
              have HLL := Lib.hid hll
              have HHLK := Lib.hid hHLK
              have H40' := Lib.hid h40'
              clear hdx hq hout hown hud huq hul hu hl hll hHLK h40'
              clear hca hcb hd0 hlk hGs
              have k0 : (0 : Int) ≤ (k : Int) := by omega
              have k1 : (k : Int) < (t.puts.length : Int) := by omega
              go_wp2
              go_region_held3 (fun W => W.cell? ⟨b, 1, none⟩ = some (.map (some r')) ∧ W.cell? ⟨w.heap.size, 0, none⟩ = some (.int .i64 t.time) ∧ W.cell? ⟨wr.heap.size, 0, none⟩ = some (.int .i64 y.lba) ∧ W.cell? ⟨wr.heap.size, 1, none⟩ = some (.slice dp y.data.length dc))
                (first
                  | go_keep
                  | (go_split_ands
                     exact ⟨cell_up hb7 (by assumption), cell_up hb7 (by assumption), cell_up hb7 (by assumption), cell_up hb7 (by assumption)⟩)
                  | (go_split_ands
                     exact ⟨(hgrow9.cell_far _ (by simp; omega) n1).trans (by assumption), (hgrow9.cell_far _ (by simp; omega) n2).trans (by assumption), (hgrow9.cell_far _ (by simp; omega) n3).trans (by assumption), (hgrow9.cell_far _ (by simp; omega) n3).trans (by assumption)⟩)
                  | (go_split_ands
                     exact ⟨(hT10.cell _).trans (by assumption), (hT10.cell _).trans (by assumption), (hT10.cell _).trans (by assumption), (hT10.cell _).trans (by assumption)⟩))
                ((first
                  | (go_at_call 46
                     refine (clone_any G _ y.data _ (by exact BytesAt.up HDX.out (below_drewN (below_alloc wr _) 1)) (by have := H40'.out; omega)).mono ?_
                     rintro e w7 ⟨v7, rfl, hnv, hb7⟩
                     obtain ⟨np, nc, rfl⟩ := shape_of hnv rfl
                     have hbA7 := Below.up (below_drewN (below_alloc wr (.cells #[.int .i64 y.lba, .slice dp y.data.length dc] 61)) 1) hb7
                     have hz7 : wr.heap.size + 1 ≤ w7.heap.size := by have := hb7.size; simpa using this
                     have hbA8 := Below.up hbA7 (below_alloc w7 (.cells #[.int .i64 t.time, .slice np y.data.length nc] 115))
                     have hlk7 := HHLK.out w7 (HQ.out.hm.up hbA7)
                     have hlk8 := HHLK.out (w7.alloc (.cells #[.int .i64 t.time, .slice np y.data.length nc] 115)) (HQ.out.hm.up hbA8)
                     obtain ⟨css, q1, q2, q3, q4, q5⟩ := HOUT.out.up putR_stable hbA8)
                  | (refine step_append_lies _ (by rfl) _ _ _ (by rfl) 0 115 iv (.agg #[.int .i64 0, .slice none 0 0]) 2 32 Try.underlying113 hi0 hi1 hi2 hi3 (by rfl) (by decide) _ l.length css.flatten (by rfl) q3 ⟨w7.heap.size, 0, none⟩ 1 1 [.int .i64 t.time, .slice np y.data.length nc] (by rfl) (by rfl) (World.news_of_block (cs := #[.int .i64 t.time, .slice np y.data.length nc]) (heap_alloc_new w7 _)) (by simp [Value.oneCell']) (by decide) (by have := HLL.out; unfold maxLen; omega) (by have := HLL.out; omega) (Nat.zero_le _) (w7.heap.size + 1) (by simp) ?_
                     intro gg cap w9 hown9 hgrow9 hat9 hlt9
                     have hm9 : MapIs w9 r' ml' := (HQ.out.hm.up hbA8).same (G := (· = r')) (fun q hq => by subst hq; exact hgrow9.block _ (by simp; omega) n4) rfl
                     obtain ⟨w10, hu10, hm10, hT10⟩ := hm9.update (P := Try.prog) Try.underlying106 Try.underlying3 y.lba (.slice (some ⟨gg, 0, none⟩) (l.length + 1) cap))))
              all_goals
                have hz8 := hbA8.size
                have hout9 : OutS 115 2 putR 0 w9 (.slice (some ⟨gg, 0, none⟩) (l.length + 1) cap) (l ++ [⟨t.time, y.data⟩]) (fun q => D' q ∨ New wr w7 q) := by
                  have hg : w7.heap.size + 1 = (w7.alloc (.cells #[.int .i64 t.time, .slice np y.data.length nc] 115)).heap.size := by simp
                  refine OutS.snoc (v := u) (D3 := New wr w7) putR_stable q1 q2 q4 q5 (cs := [.int .i64 t.time, .slice np y.data.length nc]) (x := ⟨t.time, y.data⟩) rfl ⟨_, rfl, hti, (BytesAt.mono (BytesAt.up hnv (below_alloc _ _)) fun q hq => ⟨by have := hq.1; simp at this; omega, hq.2⟩)⟩ (fun q hq => ⟨Nat.zero_le _, by have := hq.2; simp; omega, fun e => by have := (HUL.out q e).1; have := hq.1; omega⟩) hown9 hgrow9 (hg ▸ hat9)
                have hput := HQ.out.put (k := y.lba) (u := u) (v' := .slice (some ⟨gg, 0, none⟩) (l.length + 1) cap) (gg := gg) (l' := l ++ [⟨t.time, y.data⟩]) HOWN.out HUD.out HUQ.out hbA8 hgrow9 rfl (hat9.imp id fun e => by omega) hlt9 hout9 (fun q hq => hq.imp id fun h => ⟨h.1, by have := h.2; have := hgrow9.size; simp at this; omega⟩) (fun q hq => .inl hq) hm10 hT10
                obtain ⟨hp1', hp2'⟩ := hput
                have hvs : applyVs t.time vs (t.puts.take (k + 1)) = aset (applyVs t.time vs (t.puts.take k)) y.lba (l ++ [⟨t.time, y.data⟩]) := by
                  rw [HT.out, applyVs_snoc, applyOne, HL.out]
                have hz10 := hp2'.size
                have hext : ExtIs (fun q => F q ∨ (w4.heap.size ≤ q ∧ q < w10.heap.size)) w10 (.pointer (some ⟨b, 0, none⟩)) blocks last (applyVs t.time vs (t.puts.take (k + 1))) := by
                  rw [hvs]
                  have h := hp1'.is
                  obtain ⟨b', r'', ml'', D'', hv'', q⟩ := h.parts
                  cases hv''
                  have up : ∀ q, ((F q ∨ (w4.heap.size ≤ q ∧ q < wr.heap.size)) ∨ New wr w10 q) → F q ∨ (w4.heap.size ≤ q ∧ q < w10.heap.size) := by
                    rintro q ((h | h) | h)
                    · exact .inl h
                    · exact .inr ⟨h.1, by omega⟩
                    · exact .inr ⟨by have := h.1; omega, h.2⟩
                  exact ⟨⟨b, r'', ml'', D'', rfl, up _ q.fb, up _ q.fr, q.hb, q.hm, q.ha.imp fun _ _ ⟨a, c⟩ => ⟨a, fun g hg => ⟨up _ (c g hg).1, (c g hg).2⟩⟩, q.ho, fun k hk => ⟨up _ (q.hD k hk).1, (q.hD k hk).2⟩⟩, fun k hk => hk.elim (fun hf => by have := hFd k hf; omega) (fun h => h.2)⟩
                have hchg : Chg F w4 w10 := HC.out.trans' hp2' (fun i hi h => h.elim id fun h => by have := h.1; omega)
                have hlen2 : ∀ key l, alook (applyVs t.time vs (t.puts.take (k + 1))) key = some l → l.length ≤ 1000000 + (k + 1) := by
                  intro key l2 h
                  rw [hvs, alook_aset] at h
                  split at h
                  · cases h
                    have := HLL.out
                    simp; omega
                  · have := HLK.out key l2 h; omega
                have HEXT := Lib.hid hext
                have HCHG := Lib.hid hchg
                have HLEN2 := Lib.hid hlen2
                clear hext hchg hlen2
                clear hp1' hp2' hout9 hm10 hT10 hm9 hown9 hgrow9 hu10 hlk7 hlk8
                go_wp2
                go_roundw
                case rel => exact ⟨k + 1, by omega, by go_num, HEXT.out, HCHG.out, HLEN2.out⟩
                case measure => simp [intOf]; omega
            · have hkl : k = t.puts.length := by omega
              subst hkl
              have hE := HE.out
              rw [List.take_length] at hE
              have hfz : wr.frozen? ⟨b, 2, none⟩ = false := fz_row hq.hb 2
              have f3 : wr.cell? ⟨b, 2, none⟩ = some (.int .i64 last) := by rw [cell_row hq.hb]; rfl
              have hset := heap_set_same (i := 2) hq.hb (.int .i64 t.time)
              have hfin : ExtIs (fun q => F q ∨ New w (wr.setCell ⟨b, 2, none⟩ (.int .i64 t.time)) q) (wr.setCell ⟨b, 2, none⟩ (.int .i64 t.time)) (.pointer (some ⟨b, 0, none⟩)) blocks t.time (applyVs t.time vs t.puts) := by
                obtain ⟨b', r'', ml'', D'', hv'', q⟩ := hE.parts
                cases hv''
                have hs : Same (fun q => q ≠ b) wr (wr.setCell ⟨b, 2, none⟩ (.int .i64 t.time)) := fun q hq => Below.heap_setCell _ _ _ q hq
                have hzz : (wr.setCell ⟨b, 2, none⟩ (.int .i64 t.time)).heap.size = wr.heap.size := by simp [World.setCell]
                have up : ∀ q, (F q ∨ (w4.heap.size ≤ q ∧ q < wr.heap.size)) → F q ∨ New w (wr.setCell ⟨b, 2, none⟩ (.int .i64 t.time)) q := by
                  rintro q (h | h)
                  · exact .inl h
                  · exact .inr ⟨by omega, by omega⟩
                have hset' := heap_set_same (i := 2) q.hb (.int .i64 t.time)
                refine ⟨⟨b, r'', ml'', D'', rfl, up _ q.fb, up _ q.fr, hset', q.hm.same (G := fun q => q ≠ b) hs (fun e => q.ne e.symm), q.ha.imp fun _ _ ⟨a, c⟩ => ⟨a.same putR_stable (F := fun q => q ≠ b) hs (by omega) (fun g hg => (c g hg).2.1) (fun k hk => (q.hD k hk).2.1), fun g hg => ⟨up _ (c g hg).1, (c g hg).2⟩⟩, q.ho, fun k hk => ⟨up _ (q.hD k hk).1, (q.hD k hk).2⟩⟩, fun k hk => hk.elim (fun hf => by have := hFd k hf; omega) (fun h => h.2)⟩
              have hbF := HB.out.fb
              have hchg : Chg F w (wr.setCell ⟨b, 2, none⟩ (.int .i64 t.time)) := ((Chg.of_below (S := F) HB04.out (fun k h1 h2 => by omega)).trans HC.out).trans (chg_set wr b 2 (.int .i64 t.time) hbF)
              have HFIN := Lib.hid hfin
              have HCHG := Lib.hid hchg
              have HE := Lib.hid hE
              have HSET := Lib.hid hset
              have HQ := Lib.hid hq
              clear hfin hchg hE hset hq
              clear hFd
              go_wp2
              go_ret
              refine ⟨by rw [HCD.out]; rfl, HCHG.out, ?_⟩
              unfold applyLast applyNext
              rw [HCD.out, if_pos rfl, if_pos rfl]
              exact HFIN.out
end Go.Proofs
