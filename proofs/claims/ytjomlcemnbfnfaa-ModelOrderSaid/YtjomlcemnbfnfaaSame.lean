/- Package model: Same: two Ms hold the same. -/
import Derived.Test.YtjomlcemnbfnfaaModel
import Derived.Test.YtjomlcemnbfnfaaRange
import Derived.Deep.RegionHeld3
namespace Go.Proofs
open Go.RowKit Sc

set_option maxHeartbeats 400000 in
theorem equalB_any (G : Nat → Prop) (va vb : Value) (a b : Bytes) (w : World) (ha : BytesAt G w va a) (hb : BytesAt G w vb b) :
    Calls Try.prog 47 #[va, vb] w fun e w' => e = .returned (.bool (a == b)) ∧ Below w.heap.size w w' := by
  by_cases hlen : a.length = b.length
  case neg =>
    obtain ⟨pa, ca, rfl, ha1, ha2, _⟩ := ha
    obtain ⟨pb, cb, rfl, hb1, hb2, _⟩ := hb
    have hne : (((a.length : Nat) : Int) != ((b.length : Nat) : Int)) = true := by rw [bne_iff_ne]; omega
    have hne2 : (a == b) = false := by rw [beq_eq_false_iff_ne]; intro h; exact hlen (by rw [h])
    have H2 := Lib.hid hne2
    clear hne2
    go_enter Try.func47, Try.ntmps47
    go_wp2
    go_ret
    rw [H2.out]
    exact ⟨rfl, Below.refl _ _⟩
  case pos =>
    rcases ha.base with ⟨rfl, pa, ca, rfl, ha2, _⟩ | ⟨ba, oa, ca, rfl, ha0, ha1, ha2, _, ha4⟩
    · have hb0 : b = [] := List.length_eq_zero_iff.1 (by simpa using hlen.symm)
      subst hb0
      obtain ⟨pb, cb, rfl, _⟩ := hb
      go_enter Try.func47, Try.ntmps47
      go_wp2
      go_loop [13] (fun i => i = .int .i64 0) (fun _ => 0)
      case atStart => rfl
      case round =>
        subst hrel
        go_wp2
        go_ret
        exact ⟨rfl, Below.refl _ _⟩
    rcases hb.base with ⟨rfl, pb, cb, rfl, hb2, _⟩ | ⟨bb, ob, cb, rfl, hb0, hb1, hb2, _, hb4⟩
    · simp at hlen; subst hlen; simp at ha0
    have hcells : ∀ i, i < a.length → w.cell? ⟨ba, oa + i, none⟩ = some (.int .u8 ((a.getD i 0).toNat : Int)) ∧ w.cell? ⟨bb, ob + i, none⟩ = some (.int .u8 ((b.getD i 0).toNat : Int)) := by
      intro i hi
      have h1 := ha4 i hi
      have h2 := hb4 i (by omega)
      unfold byteE at h1 h2
      rw [Nat.mul_one] at h1 h2
      simp only [List.getD, List.getElem?_eq_getElem hi, List.getElem?_eq_getElem (show i < b.length by omega), Option.getD_some]
      exact ⟨h1, h2⟩
    clear ha4 hb4 ha hb
    have HL := Lib.hid hlen
    have heq : (((a.length : Nat) : Int) != ((b.length : Nat) : Int)) = false := by rw [bne_eq_false_iff_eq]; omega
    clear hlen
    go_enter Try.func47, Try.ntmps47
    go_wp2
    go_loopw [13] (fun i wr => ∃ k : Nat, k ≤ a.length ∧ i = .int .i64 k ∧ a.take k = b.take k ∧ Below w.heap.size w wr) (fun i _ => a.length - (intOf i).toNat)
    case atStart => exact ⟨0, by omega, rfl, rfl, Below.refl _ _⟩
    case round =>
      obtain ⟨k, hk, rfl, ht, hbw⟩ := hrel
      have HT := Lib.hid ht
      clear ht
      by_cases hlt : k < a.length
      · obtain ⟨h1, h2⟩ := hcells k hlt
        have h1' := (hbw.cell (p := ⟨ba, oa + k, none⟩) (World.block_lt_of_cell? w _ h1)).trans h1
        have h2' := (hbw.cell (p := ⟨bb, ob + k, none⟩) (World.block_lt_of_cell? w _ h2)).trans h2
        have hltb : k < b.length := by rw [← HL.out]; exact hlt
        have hta := take_snoc a k hlt
        have htb := take_snoc b k hltb
        have ga : a.getD k 0 = a[k] := by simp [List.getD, hlt]
        have gb : b.getD k 0 = b[k] := by simp [List.getD, hltb]
        rw [ga] at h1'
        rw [gb] at h2'
        have HA := Lib.hid hta
        have HB := Lib.hid htb
        generalize a[k] = x at h1' HA
        generalize b[k] = y at h2' HB
        have HC := Lib.hid hcells
        clear hta htb ga gb h1 h2 hcells
        by_cases hxy : x = y
        · subst hxy
          have hd : ((x.toNat : Int) != (x.toNat : Int)) = false := by simp
          go_wp2
          go_quiet (fail)
          go_wp2
          go_roundw
          case rel => exact ⟨k + 1, by omega, by go_num, by rw [HA.out, HB.out, HT.out], by exact below_drewN hbw _⟩
          case measure => simp [intOf]; omega
        · have hd : ((x.toNat : Int) != (y.toNat : Int)) = true := by rw [u8_ne, bne_iff_ne]; exact hxy
          have HX := Lib.hid hxy
          clear hxy
          go_wp2
          go_quiet (fail)
          go_wp2
          go_ret
          refine ⟨?_, ?_⟩
          · have : (a == b) = false := by
              rw [beq_eq_false_iff_ne]; intro h
              have h1 := HA.out; rw [h, HB.out] at h1
              have h2 := (List.append_inj' h1 rfl).2
              exact HX.out (by simpa using h2.symm)
            exact congrArg boolRet this.symm
          · exact below_drewN hbw _
      · have HK := Lib.hid (show k = a.length by omega)
        clear hcells
        go_wp2
        go_ret
        refine ⟨?_, hbw⟩
        have : (a == b) = true := by
          have h := HT.out
          rw [HK.out, List.take_length, HL.out, List.take_length] at h
          rw [h]; simp
        exact congrArg boolRet this.symm


/-- Do two hold the same? -/
def eqM (s1 s2 : List (Int × Bytes)) : Bool := decide (s1.length = s2.length) && s1.all (fun kd => alook s2 kd.1 == some kd.2)

set_option maxHeartbeats 1000000 in
theorem eqFunc_any (F1 F2 : Nat → Prop) (r1 r2 : Nat) (m1 m2 : List (Int × Value)) (s1 s2 : List (Int × Bytes)) (w : World) (h1 : MapIs w r1 m1) (h2 : MapIs w r2 m2) (a1 : AL (BytesAt F1 w) m1 s1) (a2 : AL (BytesAt F2 w) m2 s2) :
    Calls Try.prog 46 #[.map (some r1), .map (some r2), .func (.func 47) #[] #[]] w fun e w' => e = .returned (.bool (eqM s1 s2)) ∧ Below w.heap.size w w' := by
  have hl1 := h1.len (P := Try.prog) Try.underlying80 3
  have hl2 := h2.len (P := Try.prog) Try.underlying80 3
  have hs1 : m1.length = s1.length := All2.length a1
  have hs2 : m2.length = s2.length := All2.length a2
  by_cases hlen : m1.length = m2.length
  case neg =>
    have hne : (((m1.length : Nat) : Int) != ((m2.length : Nat) : Int)) = true := by rw [bne_iff_ne]; omega
    have hq : eqM s1 s2 = false := by unfold eqM; rw [decide_eq_false (by omega)]; rfl
    rw [hq]
    clear hs1 hs2 hq h1 h2 a1 a2
    go_enter Try.func46, Try.ntmps46
    go_wp2
    go_ret
    exact ⟨rfl, Below.refl _ _⟩
  case pos =>
    have hne : (((m1.length : Nat) : Int) != ((m2.length : Nat) : Int)) = false := by rw [bne_eq_false_iff_eq]; omega
    obtain ⟨o, hrg, hR⟩ := h1.range (P := Try.prog) Try.underlying80
    have HL := Lib.hid (show s1.length = s2.length by omega)
    have HM := Lib.hid hs1
    have H1 := Lib.hid h1
    have H2 := Lib.hid h2
    have A1 := Lib.hid a1
    have A2 := Lib.hid a2
    have HR := Lib.hid hR
    have hnd : (m1.map (·.1)).Nodup := by obtain ⟨_, _, _, _, h, _⟩ := h1; exact h
    have HND := Lib.hid hnd
    clear hs1 hs2 hlen h1 h2 a1 a2 hR hnd
    go_enter Try.func46, Try.ntmps46
    go_wp2
    go_loopg [18] m1.length (fun gg _ wr => ∃ left, left.length ≤ gg ∧ Ranges wr w.heap.size r1 m1 left ∧ Hid (Below w.heap.size w wr) ∧ Hid (∀ x ∈ m1, x ∈ left ∨ ∃ d, alook s1 x.1 = some d ∧ alook s2 x.1 = some d))
    case atStart => exact ⟨m1, Nat.le_refl _, HR.out, (below_alloc w o), fun x hx => .inl hx⟩
    case round =>
      obtain ⟨left, hg, hR, hb, hdone⟩ := hrel
      rcases hR.next (P := Try.prog) 0 with ⟨rfl, hn⟩ | ⟨n, v, left', w', hp, hmem, hn, hen, hR', hst⟩
      · have HD := Lib.hid hdone
        have HB := Lib.hid hb
        clear hdone hR hrg hl1 hl2
        go_wp2
        go_ret
        refine ⟨?_, HB.out⟩
        have hq : eqM s1 s2 = true := by
          unfold eqM
          rw [decide_eq_true HL.out, Bool.true_and, List.all_eq_true]
          intro kd hkd
          have hk : kd.1 ∈ m1.map (·.1) := by rw [AL.keys A1.out]; exact List.mem_map.2 ⟨kd, hkd, rfl⟩
          obtain ⟨x, hx, hxe⟩ := List.mem_map.1 hk
          rcases HD.out x hx with h | ⟨d, h1, h2⟩
          · cases h
          · have h3 := alook_mem (m := s1) (by rw [← AL.keys A1.out]; exact HND.out) (n := kd.1) (v := kd.2) hkd
            rw [hxe] at h1 h2
            rw [h1] at h3
            rw [h2, h3]; simp
        rw [hq]; rfl
      · have hm1 := alook_mem HND.out hmem
        have hbw' : Below w.heap.size w w' := hb.out.trans (hst.below (Nat.le_refl _))
        have hlk := (H2.out.up hbw').lookup (P := Try.prog) Try.underlying80 Try.underlying3 (Try.zeroValue35 _) n true
        have hl1 : ∃ d1, alook s1 n = some d1 ∧ BytesAt F1 w v d1 := by
          rcases A1.out.look n with ⟨h, _⟩ | ⟨v1, d1, h, h', h''⟩
          · rw [hm1] at h; cases h
          · rw [hm1] at h; cases h; exact ⟨d1, h', h''⟩
        obtain ⟨d1, hs1, hv1⟩ := hl1
        have hkey : ∃ kd ∈ s1, kd.1 = n ∧ kd.2 = d1 := by
          have hk : n ∈ s1.map (·.1) := by rw [← AL.keys A1.out]; exact List.mem_map.2 ⟨(n, v), hmem, rfl⟩
          obtain ⟨kd, hkd, hke⟩ := List.mem_map.1 hk
          have h3 := alook_mem (m := s1) (by rw [← AL.keys A1.out]; exact HND.out) (n := kd.1) (v := kd.2) hkd
          rw [hke, hs1] at h3
          exact ⟨kd, hkd, hke, (Option.some.inj h3).symm⟩
        have HV1 := Lib.hid (hv1.up hbw')
        have HS1 := Lib.hid hs1
        have HK := Lib.hid hkey
        have HR' := Lib.hid hR'
        have HBW := Lib.hid hbw'
        have HP := Lib.hid hp
        have HD := Lib.hid hdone
        clear hv1 hs1 hkey hR' hR hbw' hp hdone hst hmem hm1 hl1 hl2 hrg
        have hno : ∀ d2, alook s2 n = d2 → d2 ≠ some d1 → eqM s1 s2 = false := by
          intro d2 h2 hne
          obtain ⟨kd, hkd, e1, e2⟩ := HK.out
          unfold eqM
          rw [Bool.and_eq_false_iff]; right
          rw [List.all_eq_false]
          refine ⟨kd, hkd, ?_⟩
          rw [e1, e2, h2]; simpa using hne
        have HNO := Lib.hid hno
        clear hno
        rcases A2.out.look n with ⟨h3, h4⟩ | ⟨v2, d2, h3, h4, h5⟩
        · rw [h3] at hlk
          simp only [Option.getD_none, Option.isSome_none, if_true] at hlk
          have H4 := Lib.hid h4
          clear h3 h4
          go_wp2
          go_ret
          exact ⟨congrArg boolRet (HNO.out _ H4.out (by simp)).symm, HBW.out⟩
        · rw [h3] at hlk
          simp only [Option.getD_some, Option.isSome_some, if_true] at hlk
          have H4 := Lib.hid h4
          have H5 := Lib.hid (h5.up HBW.out)
          have HG := Lib.hid hg
          clear h3 h4 h5 hg
          have HC := Lib.hid (equalB_any (fun k => F1 k ∨ F2 k) v v2 d1 d2 w' (BytesAt.mono HV1.out fun _ h => .inl h) (BytesAt.mono H5.out fun _ h => .inr h))
          by_cases hd : d1 = d2
          · have hb2 : (d1 == d2) = true := by rw [beq_iff_eq]; exact hd
            rw [hb2] at HC
            clear hb2
            have HDD := Lib.hid hd
            clear hd
            go_wp2_with (go_at_call 47; refine (HC.out).mono ?_; rintro e w2 ⟨rfl, hb2⟩)
            go_roundg (left'.length)
            case measure => have h1 := HP.out.length_eq; have h2 := HG.out; simp only [List.length_cons] at h1; omega
            case rel =>
              refine ⟨left', Nat.le_refl _, HR'.out.up hb2, HBW.out.trans (hb2.mono HBW.out.size), fun x hx => ?_⟩
              rcases HD.out x hx with h | h
              · have := HP.out.subset h
                rcases List.mem_cons.1 this with rfl | h
                · exact .inr ⟨d1, HS1.out, by rw [HDD.out]; exact H4.out⟩
                · exact .inl h
              · exact .inr h
          · have hb2 : (d1 == d2) = false := by rw [beq_eq_false_iff_ne]; exact hd
            rw [hb2] at HC
            clear hb2
            have HDD := Lib.hid hd
            clear hd
            go_wp2_with (go_at_call 47; refine (HC.out).mono ?_; rintro e w2 ⟨rfl, hb2⟩)
            go_ret
            exact ⟨congrArg boolRet (HNO.out _ H4.out (by simpa using fun e => HDD.out e.symm)).symm, HBW.out.trans (hb2.mono HBW.out.size)⟩

set_option maxRecDepth 100000 in
set_option maxHeartbeats 1000000 in
theorem modelSame_any (F1 F2 : Nat → Prop) (v1 v2 : Value) (n : Int) (s1 s2 : List (Int × Bytes)) (w : World) (h1 : ModelIs F1 w v1 n s1) (h2 : ModelIs F2 w v2 n s2) :
    Calls Try.prog 20 #[v1, v2] w fun e w' => e = .returned (.bool (eqM s1 s2)) ∧ Below w.heap.size w w' := by
  obtain ⟨⟨b1, r1, m1, rfl, _, _, hb1, hm1, ha1⟩, _⟩ := h1
  obtain ⟨⟨b2, r2, m2, rfl, _, _, hb2, hm2, ha2⟩, _⟩ := h2
  have c10 : w.cell? ⟨b1, 0, none⟩ = some (.int .i64 n) := by rw [cell_row hb1]; rfl
  have c11 : w.cell? ⟨b1, 1, none⟩ = some (.map (some r1)) := by rw [cell_row hb1]; rfl
  have c20 : w.cell? ⟨b2, 0, none⟩ = some (.int .i64 n) := by rw [cell_row hb2]; rfl
  have c21 : w.cell? ⟨b2, 1, none⟩ = some (.map (some r2)) := by rw [cell_row hb2]; rfl
  have hnn : (n == n) = true := by simp
  have HC := Lib.hid (eqFunc_any F1 F2 r1 r2 m1 m2 s1 s2 w.drew (hm1.up (below_drewN (Below.refl _ _) 1)) (hm2.up (below_drewN (Below.refl _ _) 1)) (ha1.imp fun _ _ h => h.up (below_drewN (Below.refl _ _) 1)) (ha2.imp fun _ _ h => h.up (below_drewN (Below.refl _ _) 1)))
  clear hb1 hb2 hm1 hm2 ha1 ha2
  go_enter Try.func20, Try.ntmps20
  go_wp2
  go_region_held3 (fun W => W.cell? ⟨b1, 0, none⟩ = some (.int .i64 n) ∧ W.cell? ⟨b1, 1, none⟩ = some (.map (some r1)) ∧ W.cell? ⟨b2, 0, none⟩ = some (.int .i64 n) ∧ W.cell? ⟨b2, 1, none⟩ = some (.map (some r2)))
    (first
      | go_keep
      | (go_split_ands
         exact ⟨cell_up hb3 (by assumption), cell_up hb3 (by assumption), cell_up hb3 (by assumption), cell_up hb3 (by assumption)⟩))
    ((first
      | (go_at_call 46; refine (HC.out).mono ?_; rintro e w3 ⟨rfl, hb3⟩)))
  go_wp2
  go_ret
  exact ⟨rfl, Below.up (below_drewN (Below.refl _ _) 1) hb3⟩
end Go.Proofs
