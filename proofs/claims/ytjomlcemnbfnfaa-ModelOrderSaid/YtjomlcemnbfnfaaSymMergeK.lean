/- slices.symMergeCmpFunc over scarp/api.History: two sorted ranges merged in place, ties in their order. -/
import Derived.Test.YtjomlcemnbfnfaaRotateK
namespace Go.Proofs
open Go.RowKit Go.Lib Go.Sort Go.Shelf
variable {α : Type} [Inhabited α]

set_option maxHeartbeats 16000000 in
set_option maxRecDepth 1000000 in
theorem symMergeK_at {P : Program} {k : Nat} (L : StabK P k) (enc : α → List Value) (cf : α → α → Int) (tg : α → Nat) (hS : SWO (ltOf cf)) (g : Nat) (cb : Array Value) (blk off cap : Nat) (d0 : Array α) (w0 : World)
    (eg : ∀ args w, (callFunc g args).run P w = .ok (.enter g args) w) (hcmp : CmpLays P g cb enc k cf blk off d0.size w0) (R : RowK enc k w0 blk off d0) (hsz : d0.size < 4611686018427387904) : ∀ (sz a m b : Nat) (d : Array α) (w : World), b - a ≤ sz → d0.size = d.size → SWK enc k w0 blk off (d) (w) → a < m → m < b → b ≤ d.size → SymPre (ltOf cf) tg a m b d →
    Calls P 84 #[.slice (some ⟨blk, off, none⟩) d.size cap, .int .i64 a, .int .i64 m, .int .i64 b, .func (.func g) #[] cb] w fun e w' => e = .returned (.tuple #[]) ∧ ∃ d', PermIn a b d d' ∧ SortedIn (lx (ltOf cf) tg) a b d' ∧ SWK enc k w0 blk off (d') (w') := by
  intro sz
  induction sz with
  | zero => intro a m b d w h _ _ h1 h2; omega
  | succ sz IH =>
  intro a m b d w hn hs S ham hmb hb hpre
  have mixed : P.follows Departure.mixedOrders = true := L.mixed
  have t0 := L.t0
  have a0 := L.a0
  have z0 := L.z0
  have v0 := L.v0
  have t3 := L.t3
  have a3 := L.a3
  have z3 := L.z3
  have v3 := L.v3
  have t4 := L.t4
  have a4 := L.a4
  have z4 := L.z4
  have v4 := L.v4
  have t5 := L.t5
  have a5 := L.a5
  have z5 := L.z5
  have v5 := L.v5
  have t6 := L.t6
  have a6 := L.a6
  have z6 := L.z6
  have v6 := L.v6
  have t7 := L.t7
  have a7 := L.a7
  have z7 := L.z7
  have v7 := L.v7
  have aE := L.aE
  have zE := L.zE
  have u5 := run_underlying L.t5
  have cRot := L.cRot
  have cSym := L.cSym
  have S0 : Aside (SWK enc k w0 blk off (d) (w)) := S
  have HC : Aside _ := hcmp
  have HP : Aside _ := hpre
  have HI : Aside _ := IH
  clear S hcmp hpre IH
  go_enter L.fSym, Try.ntmps84
  by_cases hm1 : m = a + 1
  · have hm1e : ((m : Int) - (a : Int) == 1) = true := by rw [show (m : Int) - (a : Int) = 1 by omega]; rfl
    have HM1 : Aside (m = a + 1) := hm1
    clear hm1
    go_wp2_with fail
    try simp only [hm1e]
    go_loopg [10, 11] (b - a) (fun kx s10 s11 wr => ∃ i j : Nat, s10 = .int .i64 i ∧ s11 = .int .i64 j ∧ a + 1 ≤ i ∧ i ≤ j ∧ j ≤ b ∧ j - i ≤ kx ∧ Aside (SWK enc k w0 blk off (d) (wr)) ∧ Aside ((a + 1 < i → ltOf cf d[i - 1]! d[a]! = true) ∧ (j < b → ltOf cf d[j]! d[a]! = false)))
    case atStart => exact ⟨m, b, rfl, rfl, by omega, by omega, Nat.le_refl _, by omega, S0, ⟨fun h => absurd h (by have := HM1.out; omega), fun h => absurd h (Nat.lt_irrefl _)⟩⟩
    case round =>
      clear S0
      obtain ⟨i, j, rfl, rfl, hai, hij, hjb, hkx, S1, HB⟩ := hrel
      by_cases hlt : i < j
      · have hltz : (i : Int) < (j : Int) := by omega
        obtain ⟨h, hh⟩ : ∃ h, (i + j) / 2 = h := ⟨_, rfl⟩
        have hhz : ((i : Int) + (j : Int)) / 2 = (h : Int) := by omega
        have hih : i ≤ h := by omega
        have hhj : h < j := by omega
        cases hlv : ltOf cf d[h]! d[a]! with
        | true =>
          go_wp2_with fail
          have ea100 : ((h : Int)).toNat = h := by omega
          have ec100 : ((a : Int)).toNat = a := by omega
          have pa100 : (0 : Int) ≤ (h : Int) := by omega
          have ba100 : (h : Int) < (d.size : Int) := by omega
          have ra100 : IntKind.i64.wrap ((h : Int)) = (h : Int) := by rw [IntKind.wrap_i64]; omega
          have pc100 : (0 : Int) ≤ (a : Int) := by omega
          have bc100 : (a : Int) < (d.size : Int) := by omega
          have rc100 : IntKind.i64.wrap ((a : Int)) = (a : Int) := by rw [IntKind.wrap_i64]; omega
          obtain ⟨x100, hx100⟩ : ∃ x, x = d[h]! := ⟨_, rfl⟩
          obtain ⟨y100, hy100⟩ : ∃ x, x = d[a]! := ⟨_, rfl⟩
          have l100a := S1.out.ld R (by omega) P (h) (by omega)
          have l100b := S1.out.ld R (by omega) P (a) (by omega)
          rw [← hx100] at l100a
          rw [← hy100] at l100b
          have hv100 : cf x100 y100 < 0 := by rw [hx100, hy100]; exact of_decide_eq_true hlv
          have hd100 : decide (cf x100 y100 < 0) = true := decide_eq_true hv100
          have hc100 := S1.out.cmp HC.out (by omega) x100 y100
          clear hx100 hy100
          go_wp2_with fail
          go_quiet_grown (first | (go_at_fn g; refine Calls.grown_of (hc100 _ _)))
          have S2 : Aside (SWK enc k w0 blk off (d) (grow ((wr).drewN nq) osq)) := S1.out.grown nq osq
          clear l100a l100b hc100 S1
          generalize grow ((wr).drewN nq) osq = w2 at S2 ⊢
          clear nq osq
          clear ea100 ec100
          go_wp2
          go_roundg (j - (h + 1))
          case measure => omega
          case rel => exact ⟨h + 1, j, by go_num, rfl, by omega, by omega, hjb, Nat.le_refl _, S2, ⟨fun _ => by rw [Nat.add_sub_cancel]; exact hlv, HB.out.2⟩⟩
        | false =>
          go_wp2_with fail
          have ea101 : ((h : Int)).toNat = h := by omega
          have ec101 : ((a : Int)).toNat = a := by omega
          have pa101 : (0 : Int) ≤ (h : Int) := by omega
          have ba101 : (h : Int) < (d.size : Int) := by omega
          have ra101 : IntKind.i64.wrap ((h : Int)) = (h : Int) := by rw [IntKind.wrap_i64]; omega
          have pc101 : (0 : Int) ≤ (a : Int) := by omega
          have bc101 : (a : Int) < (d.size : Int) := by omega
          have rc101 : IntKind.i64.wrap ((a : Int)) = (a : Int) := by rw [IntKind.wrap_i64]; omega
          obtain ⟨x101, hx101⟩ : ∃ x, x = d[h]! := ⟨_, rfl⟩
          obtain ⟨y101, hy101⟩ : ∃ x, x = d[a]! := ⟨_, rfl⟩
          have l101a := S1.out.ld R (by omega) P (h) (by omega)
          have l101b := S1.out.ld R (by omega) P (a) (by omega)
          rw [← hx101] at l101a
          rw [← hy101] at l101b
          have hv101 : ¬ cf x101 y101 < 0 := by rw [hx101, hy101]; exact of_decide_eq_false hlv
          have hd101 : decide (cf x101 y101 < 0) = false := decide_eq_false hv101
          have hc101 := S1.out.cmp HC.out (by omega) x101 y101
          clear hx101 hy101
          go_wp2_with fail
          go_quiet_grown (first | (go_at_fn g; refine Calls.grown_of (hc101 _ _)))
          have S2 : Aside (SWK enc k w0 blk off (d) (grow ((wr).drewN nq) osq)) := S1.out.grown nq osq
          clear l101a l101b hc101 S1
          generalize grow ((wr).drewN nq) osq = w2 at S2 ⊢
          clear nq osq
          clear ea101 ec101
          go_wp2
          go_roundg (h - i)
          case measure => omega
          case rel => exact ⟨i, h, rfl, rfl, hai, by omega, by omega, Nat.le_refl _, S2, ⟨HB.out.1, fun _ => hlv⟩⟩
      · obtain rfl : i = j := by omega
        have hltz : ¬ (i : Int) < (i : Int) := by omega
        go_wp2_with fail
        go_loopg [13] (b - a) (fun kx s13 wr => ∃ (k2 : Nat) (dk : Array α), s13 = .int .i64 k2 ∧ a ≤ k2 ∧ k2 + 1 ≤ i ∧ i - k2 ≤ kx ∧ dk.size = d.size ∧ Aside (SWK enc k w0 blk off (dk) (wr)) ∧ Aside (Rot a (a + 1) (k2 + 1) d dk))
        case atStart => exact ⟨a, d, rfl, Nat.le_refl _, hai, by omega, rfl, S1, Rot.idR a (a + 1) (Nat.le_succ a) d⟩
        case round =>
          clear S1
          obtain ⟨k2, dk, rfl, hak, hki, hkx2, hds, S3, HR⟩ := hrel
          by_cases hlt2 : k2 + 1 < i
          · have hlt2z : (k2 : Int) < (i : Int) - 1 := by omega
            have ea102 : ((k2 : Int)).toNat = k2 := by omega
            have ec102 : ((k2 : Int) + 1).toNat = k2 + 1 := by omega
            have pa102 : (0 : Int) ≤ (k2 : Int) := by omega
            have ba102 : (k2 : Int) < (d.size : Int) := by omega
            have ra102 : IntKind.i64.wrap ((k2 : Int)) = (k2 : Int) := by rw [IntKind.wrap_i64]; omega
            have pc102 : (0 : Int) ≤ (k2 : Int) + 1 := by omega
            have bc102 : (k2 : Int) + 1 < (d.size : Int) := by omega
            have rc102 : IntKind.i64.wrap ((k2 : Int) + 1) = (k2 : Int) + 1 := by rw [IntKind.wrap_i64]; omega
            have S4 : Aside (SWK enc k w0 blk off (swp dk (k2) (k2 + 1)) (((wr).drew.setCells blk (off + (k2) * k) (enc dk[k2 + 1]!)).setCells blk (off + (k2 + 1) * k) (enc dk[k2]!))) := S3.out.swapped R (k2) (k2 + 1) (by omega) (by omega)
            have l102a := S3.out.ld1 R (by omega) P (k2) (by omega)
            have l102b := S3.out.ld1 R (by omega) P (k2 + 1) (by omega)
            have s102a := S3.out.st1 R (by omega) P (k2) (by omega) dk[k2 + 1]!
            have s102b := S3.out.st2 R (by omega) P (k2) (k2 + 1) (by omega) (by omega) dk[k2 + 1]! dk[k2]!
            have n102a : (enc dk[k2]!).length = k := R.hk _
            have n102b : (enc dk[k2 + 1]!).length = k := R.hk _
            generalize enc dk[k2]! = cI102 at S4 l102a s102b n102a
            generalize enc dk[k2 + 1]! = cJ102 at S4 l102b s102a s102b n102b
            clear S3
            go_wp2_with fail
            go_big_region_o
            clear l102a l102b s102a s102b
            generalize ((wr).drew.setCells blk (off + (k2) * k) cJ102).setCells blk (off + (k2 + 1) * k) cI102 = w4 at S4 ⊢
            go_wp2
            go_roundg (i - (k2 + 1))
            case measure => omega
            case rel => exact ⟨k2 + 1, swp dk k2 (k2 + 1), by go_num, by omega, by omega, Nat.le_refl _, by rw [size_swp]; exact hds, S4, rot_shiftL HR.out hak (by omega)⟩
          · obtain rfl : i = k2 + 1 := by omega
            have hlt2z : ¬ (k2 : Int) < ((k2 + 1 : Nat) : Int) - 1 := by omega
            go_wp2
            ((try simp only [Exit.inBlock, Exit.then]); refine bodyPost_ret (results_none rfl _ _ _) rfl ?_)
            exact ⟨rfl, dk, permIn_mono _ _ _ _ a b (Nat.le_refl _) hjb (by omega) HR.out.perm, merge_oneL hS (by omega) (by have := HP.out; rwa [HM1.out] at this) (by omega) hjb HB.out.1 HB.out.2 HR.out, S3.out⟩
  · have hm1e : ((m : Int) - (a : Int) == 1) = false := by simp; omega
    by_cases hb1 : b = m + 1
    · have hb1e : ((b : Int) - (m : Int) == 1) = true := by rw [show (b : Int) - (m : Int) = 1 by omega]; rfl
      have HB1 : Aside (b = m + 1) := hb1
      clear hb1
      go_wp2_with fail
      try simp only [hm1e, hb1e]
      go_loopg [14, 15] (m - a) (fun kx s10 s11 wr => ∃ i j : Nat, s10 = .int .i64 i ∧ s11 = .int .i64 j ∧ a ≤ i ∧ i ≤ j ∧ j ≤ m ∧ j - i ≤ kx ∧ Aside (SWK enc k w0 blk off (d) (wr)) ∧ Aside ((a < i → ltOf cf d[m]! d[i - 1]! = false) ∧ (j < m → ltOf cf d[m]! d[j]! = true)))
      case atStart => exact ⟨a, m, rfl, rfl, Nat.le_refl _, by omega, Nat.le_refl _, by omega, S0, ⟨fun h => absurd h (Nat.lt_irrefl _), fun h => absurd h (Nat.lt_irrefl _)⟩⟩
      case round =>
        clear S0
        obtain ⟨i, j, rfl, rfl, hai, hij, hjb, hkx, S1, HB⟩ := hrel
        by_cases hlt : i < j
        · have hltz : (i : Int) < (j : Int) := by omega
          obtain ⟨h, hh⟩ : ∃ h, (i + j) / 2 = h := ⟨_, rfl⟩
          have hhz : ((i : Int) + (j : Int)) / 2 = (h : Int) := by omega
          have hih : i ≤ h := by omega
          have hhj : h < j := by omega
          cases hlv : ltOf cf d[m]! d[h]! with
          | true =>
            go_wp2_with fail
            have ea103 : ((m : Int)).toNat = m := by omega
            have ec103 : ((h : Int)).toNat = h := by omega
            have pa103 : (0 : Int) ≤ (m : Int) := by omega
            have ba103 : (m : Int) < (d.size : Int) := by omega
            have ra103 : IntKind.i64.wrap ((m : Int)) = (m : Int) := by rw [IntKind.wrap_i64]; omega
            have pc103 : (0 : Int) ≤ (h : Int) := by omega
            have bc103 : (h : Int) < (d.size : Int) := by omega
            have rc103 : IntKind.i64.wrap ((h : Int)) = (h : Int) := by rw [IntKind.wrap_i64]; omega
            obtain ⟨x103, hx103⟩ : ∃ x, x = d[m]! := ⟨_, rfl⟩
            obtain ⟨y103, hy103⟩ : ∃ x, x = d[h]! := ⟨_, rfl⟩
            have l103a := S1.out.ld R (by omega) P (m) (by omega)
            have l103b := S1.out.ld R (by omega) P (h) (by omega)
            rw [← hx103] at l103a
            rw [← hy103] at l103b
            have hv103 : cf x103 y103 < 0 := by rw [hx103, hy103]; exact of_decide_eq_true hlv
            have hd103 : decide (cf x103 y103 < 0) = true := decide_eq_true hv103
            have hc103 := S1.out.cmp HC.out (by omega) x103 y103
            clear hx103 hy103
            go_wp2_with fail
            go_quiet_grown (first | (go_at_fn g; refine Calls.grown_of (hc103 _ _)))
            have S2 : Aside (SWK enc k w0 blk off (d) (grow ((wr).drewN nq) osq)) := S1.out.grown nq osq
            clear l103a l103b hc103 S1
            generalize grow ((wr).drewN nq) osq = w2 at S2 ⊢
            clear nq osq
            clear ea103 ec103
            go_wp2
            go_roundg (h - i)
            case measure => omega
            case rel => exact ⟨i, h, rfl, rfl, hai, by omega, by omega, Nat.le_refl _, S2, ⟨HB.out.1, fun _ => hlv⟩⟩
          | false =>
            go_wp2_with fail
            have ea104 : ((m : Int)).toNat = m := by omega
            have ec104 : ((h : Int)).toNat = h := by omega
            have pa104 : (0 : Int) ≤ (m : Int) := by omega
            have ba104 : (m : Int) < (d.size : Int) := by omega
            have ra104 : IntKind.i64.wrap ((m : Int)) = (m : Int) := by rw [IntKind.wrap_i64]; omega
            have pc104 : (0 : Int) ≤ (h : Int) := by omega
            have bc104 : (h : Int) < (d.size : Int) := by omega
            have rc104 : IntKind.i64.wrap ((h : Int)) = (h : Int) := by rw [IntKind.wrap_i64]; omega
            obtain ⟨x104, hx104⟩ : ∃ x, x = d[m]! := ⟨_, rfl⟩
            obtain ⟨y104, hy104⟩ : ∃ x, x = d[h]! := ⟨_, rfl⟩
            have l104a := S1.out.ld R (by omega) P (m) (by omega)
            have l104b := S1.out.ld R (by omega) P (h) (by omega)
            rw [← hx104] at l104a
            rw [← hy104] at l104b
            have hv104 : ¬ cf x104 y104 < 0 := by rw [hx104, hy104]; exact of_decide_eq_false hlv
            have hd104 : decide (cf x104 y104 < 0) = false := decide_eq_false hv104
            have hc104 := S1.out.cmp HC.out (by omega) x104 y104
            clear hx104 hy104
            go_wp2_with fail
            go_quiet_grown (first | (go_at_fn g; refine Calls.grown_of (hc104 _ _)))
            have S2 : Aside (SWK enc k w0 blk off (d) (grow ((wr).drewN nq) osq)) := S1.out.grown nq osq
            clear l104a l104b hc104 S1
            generalize grow ((wr).drewN nq) osq = w2 at S2 ⊢
            clear nq osq
            clear ea104 ec104
            go_wp2
            go_roundg (j - (h + 1))
            case measure => omega
            case rel => exact ⟨h + 1, j, by go_num, rfl, by omega, by omega, hjb, Nat.le_refl _, S2, ⟨fun _ => by rw [Nat.add_sub_cancel]; exact hlv, HB.out.2⟩⟩
        · obtain rfl : i = j := by omega
          have hltz : ¬ (i : Int) < (i : Int) := by omega
          go_wp2_with fail
          go_loopg [17] (m - a) (fun kx s17 wr => ∃ (k2 : Nat) (dk : Array α), s17 = .int .i64 k2 ∧ i ≤ k2 ∧ k2 ≤ m ∧ k2 - i ≤ kx ∧ dk.size = d.size ∧ Aside (SWK enc k w0 blk off (dk) (wr)) ∧ Aside (Rot k2 m (m + 1) d dk))
          case atStart => exact ⟨m, d, rfl, hjb, Nat.le_refl _, by omega, rfl, S1, Rot.idL m (m + 1) (Nat.le_succ m) d⟩
          case round =>
            clear S1
            obtain ⟨k2, dk, rfl, hak, hki, hkx2, hds, S3, HR⟩ := hrel
            by_cases hlt2 : i < k2
            · obtain ⟨kp, rfl⟩ : ∃ kp, k2 = kp + 1 := ⟨k2 - 1, by omega⟩
              have hlt2z : (i : Int) < (kp : Int) + 1 := by omega
              have kz : ((kp + 1 : Nat) : Int) = (kp : Int) + 1 := by omega
              have kw : IntKind.i64.wrap (kp : Int) = (kp : Int) := by rw [IntKind.wrap_i64]; omega
              rw [kz]
              have ea105 : ((kp : Int) + 1).toNat = kp + 1 := by omega
              have ec105 : ((kp : Int)).toNat = kp := by omega
              have pa105 : (0 : Int) ≤ (kp : Int) + 1 := by omega
              have ba105 : (kp : Int) + 1 < (d.size : Int) := by omega
              have ra105 : IntKind.i64.wrap ((kp : Int) + 1) = (kp : Int) + 1 := by rw [IntKind.wrap_i64]; omega
              have pc105 : (0 : Int) ≤ (kp : Int) := by omega
              have bc105 : (kp : Int) < (d.size : Int) := by omega
              have rc105 : IntKind.i64.wrap ((kp : Int)) = (kp : Int) := by rw [IntKind.wrap_i64]; omega
              have S4 : Aside (SWK enc k w0 blk off (swp dk (kp + 1) (kp)) (((wr).drew.setCells blk (off + (kp + 1) * k) (enc dk[kp]!)).setCells blk (off + (kp) * k) (enc dk[kp + 1]!))) := S3.out.swapped R (kp + 1) (kp) (by omega) (by omega)
              have l105a := S3.out.ld1 R (by omega) P (kp + 1) (by omega)
              have l105b := S3.out.ld1 R (by omega) P (kp) (by omega)
              have s105a := S3.out.st1 R (by omega) P (kp + 1) (by omega) dk[kp]!
              have s105b := S3.out.st2 R (by omega) P (kp + 1) (kp) (by omega) (by omega) dk[kp]! dk[kp + 1]!
              have n105a : (enc dk[kp + 1]!).length = k := R.hk _
              have n105b : (enc dk[kp]!).length = k := R.hk _
              generalize enc dk[kp + 1]! = cI105 at S4 l105a s105b n105a
              generalize enc dk[kp]! = cJ105 at S4 l105b s105a s105b n105b
              clear S3
              go_wp2_with fail
              go_big_region_o
              clear l105a l105b s105a s105b
              generalize ((wr).drew.setCells blk (off + (kp + 1) * k) cJ105).setCells blk (off + (kp) * k) cI105 = w4 at S4 ⊢
              go_wp2
              go_roundg (kp - i)
              case measure => omega
              case rel => exact ⟨kp, swp dk (kp + 1) kp, by first | rfl | go_num | (congr 1; omega), by omega, by omega, Nat.le_refl _, by rw [size_swp]; exact hds, S4, rot_shiftR HR.out (by omega) (by omega)⟩
            · obtain rfl : i = k2 := by omega
              have hlt2z : ¬ (i : Int) < (i : Int) := by omega
              go_wp2
              ((try simp only [Exit.inBlock, Exit.then]); refine bodyPost_ret (results_none rfl _ _ _) rfl ?_)
              have hbm := HB1.out
              have hpp := HP.out
              rw [hbm] at hpp
              exact ⟨rfl, dk, permIn_mono _ _ _ _ a b hai (by omega) hb HR.out.perm, by rw [hbm]; exact merge_oneR hS (by omega) hpp hai hjb HB.out.1 HB.out.2 HR.out, S3.out⟩
    · have hb1e : ((b : Int) - (m : Int) == 1) = false := by simp; omega
      obtain ⟨mid, hmid⟩ : ∃ h, (a + b) / 2 = h := ⟨_, rfl⟩
      have hmidz : ((a : Int) + (b : Int)) / 2 = (mid : Int) := by omega
      obtain ⟨st0, hst0⟩ : ∃ s, s = if mid < m then mid + m - b else a := ⟨_, rfl⟩
      obtain ⟨r0, hr0⟩ : ∃ s, s = if mid < m then mid else m := ⟨_, rfl⟩
      have hsr : a ≤ st0 ∧ st0 ≤ r0 ∧ r0 ≤ m ∧ r0 ≤ mid ∧ (mid < m → st0 = mid + m - b ∧ r0 = mid) ∧ (¬ mid < m → st0 = a ∧ r0 = m) := by
        by_cases h : mid < m
        · rw [if_pos h] at hst0 hr0; omega
        · rw [if_neg h] at hst0 hr0; omega
      clear hst0 hr0
      obtain ⟨q1, q2, q3, q4, q5, q6⟩ := hsr
      obtain ⟨pN, hpN⟩ : ∃ p, p + 1 = mid + m := ⟨mid + m - 1, by omega⟩
      have hpz : (mid : Int) + (m : Int) - 1 = (pN : Int) := by omega
      by_cases hmm : mid < m
      · have hmmq := q5 hmm
        have hmmz : (m : Int) > (mid : Int) := by omega
        have HQ : Aside (st0 = mid + m - b ∧ r0 = mid) := hmmq
        clear hmmq q5 q6
        go_wp2_with fail
        try simp only [hm1e, hb1e]
        go_loopg [20, 21] (b - a) (fun kx s20 s21 wr => ∃ i j : Nat, s20 = .int .i64 i ∧ s21 = .int .i64 j ∧ st0 ≤ i ∧ i ≤ j ∧ j ≤ r0 ∧ j - i ≤ kx ∧ Aside (SWK enc k w0 blk off (d) (wr)) ∧ Aside ((st0 < i → ltOf cf d[pN + 1 - i]! d[i - 1]! = false) ∧ (j < r0 → ltOf cf d[pN - j]! d[j]! = true)))
        case atStart => exact ⟨st0, r0, by have := HQ.out; first | rfl | (congr 1; omega), by have := HQ.out; first | rfl | (congr 1; omega), Nat.le_refl _, q2, Nat.le_refl _, by omega, S0, ⟨fun h => absurd h (Nat.lt_irrefl _), fun h => absurd h (Nat.lt_irrefl _)⟩⟩
        case round =>
          clear S0
          obtain ⟨i, j, rfl, rfl, hai, hij, hjb, hkx, S1, HB⟩ := hrel
          by_cases hlt : i < j
          · have hltz : (i : Int) < (j : Int) := by omega
            obtain ⟨h, hh⟩ : ∃ h, (i + j) / 2 = h := ⟨_, rfl⟩
            have hhz : ((i : Int) + (j : Int)) / 2 = (h : Int) := by omega
            have hih : i ≤ h := by omega
            have hhj : h < j := by omega
            obtain ⟨pc, hpc0⟩ : ∃ pc, pc + h = pN := ⟨pN - h, by have := HQ.out; omega⟩
            have hpcz : (pN : Int) - (h : Int) = (pc : Int) := by omega
            have hpc : pc < b := by have := HQ.out; omega
            cases hlv : ltOf cf d[pc]! d[h]! with
            | true =>
              go_wp2_with fail
              have ea106 : ((pc : Int)).toNat = pc := by omega
              have ec106 : ((h : Int)).toNat = h := by omega
              have pa106 : (0 : Int) ≤ (pc : Int) := by omega
              have ba106 : (pc : Int) < (d.size : Int) := by omega
              have ra106 : IntKind.i64.wrap ((pc : Int)) = (pc : Int) := by rw [IntKind.wrap_i64]; omega
              have pc106 : (0 : Int) ≤ (h : Int) := by omega
              have bc106 : (h : Int) < (d.size : Int) := by omega
              have rc106 : IntKind.i64.wrap ((h : Int)) = (h : Int) := by rw [IntKind.wrap_i64]; omega
              obtain ⟨x106, hx106⟩ : ∃ x, x = d[pc]! := ⟨_, rfl⟩
              obtain ⟨y106, hy106⟩ : ∃ x, x = d[h]! := ⟨_, rfl⟩
              have l106a := S1.out.ld R (by omega) P (pc) (by omega)
              have l106b := S1.out.ld R (by omega) P (h) (by omega)
              rw [← hx106] at l106a
              rw [← hy106] at l106b
              have hv106 : cf x106 y106 < 0 := by rw [hx106, hy106]; exact of_decide_eq_true hlv
              have hd106 : decide (cf x106 y106 < 0) = true := decide_eq_true hv106
              have hc106 := S1.out.cmp HC.out (by omega) x106 y106
              clear hx106 hy106
              go_wp2_with fail
              go_quiet_grown (first | (go_at_fn g; refine Calls.grown_of (hc106 _ _)))
              have S2 : Aside (SWK enc k w0 blk off (d) (grow ((wr).drewN nq) osq)) := S1.out.grown nq osq
              clear l106a l106b hc106 S1
              generalize grow ((wr).drewN nq) osq = w2 at S2 ⊢
              clear nq osq
              clear ea106 ec106
              go_wp2
              go_roundg (h - i)
              case measure => omega
              case rel => exact ⟨i, h, rfl, rfl, hai, by omega, by omega, Nat.le_refl _, S2, ⟨HB.out.1, fun _ => by rw [show pN - h = pc by omega]; exact hlv⟩⟩
            | false =>
              go_wp2_with fail
              have ea107 : ((pc : Int)).toNat = pc := by omega
              have ec107 : ((h : Int)).toNat = h := by omega
              have pa107 : (0 : Int) ≤ (pc : Int) := by omega
              have ba107 : (pc : Int) < (d.size : Int) := by omega
              have ra107 : IntKind.i64.wrap ((pc : Int)) = (pc : Int) := by rw [IntKind.wrap_i64]; omega
              have pc107 : (0 : Int) ≤ (h : Int) := by omega
              have bc107 : (h : Int) < (d.size : Int) := by omega
              have rc107 : IntKind.i64.wrap ((h : Int)) = (h : Int) := by rw [IntKind.wrap_i64]; omega
              obtain ⟨x107, hx107⟩ : ∃ x, x = d[pc]! := ⟨_, rfl⟩
              obtain ⟨y107, hy107⟩ : ∃ x, x = d[h]! := ⟨_, rfl⟩
              have l107a := S1.out.ld R (by omega) P (pc) (by omega)
              have l107b := S1.out.ld R (by omega) P (h) (by omega)
              rw [← hx107] at l107a
              rw [← hy107] at l107b
              have hv107 : ¬ cf x107 y107 < 0 := by rw [hx107, hy107]; exact of_decide_eq_false hlv
              have hd107 : decide (cf x107 y107 < 0) = false := decide_eq_false hv107
              have hc107 := S1.out.cmp HC.out (by omega) x107 y107
              clear hx107 hy107
              go_wp2_with fail
              go_quiet_grown (first | (go_at_fn g; refine Calls.grown_of (hc107 _ _)))
              have S2 : Aside (SWK enc k w0 blk off (d) (grow ((wr).drewN nq) osq)) := S1.out.grown nq osq
              clear l107a l107b hc107 S1
              generalize grow ((wr).drewN nq) osq = w2 at S2 ⊢
              clear nq osq
              clear ea107 ec107
              go_wp2
              go_roundg (j - (h + 1))
              case measure => omega
              case rel => exact ⟨h + 1, j, by go_num, rfl, by omega, by omega, hjb, Nat.le_refl _, S2, ⟨fun _ => by rw [Nat.add_sub_cancel, show pN + 1 - (h + 1) = pc by omega]; exact hlv, HB.out.2⟩⟩
          · obtain rfl : i = j := by omega
            have hltz : ¬ (i : Int) < (i : Int) := by omega
            obtain ⟨en, hen⟩ : ∃ en, mid + m - i = en := ⟨_, rfl⟩
            have hq := HQ.out
            have henz : (mid : Int) + (m : Int) - (i : Int) = (en : Int) := by omega
            have hebr : m ≤ en ∧ en ≤ b ∧ i ≤ m ∧ a ≤ i ∧ i + (en - m) = mid ∧ mid ≤ en ∧ i ≤ mid := by omega
            obtain ⟨e1, e2, e3, e4, e5, e6, e7⟩ := hebr
            have hcut : ∀ d1, Rot i m en d d1 → SymPre (ltOf cf) tg a i mid d1 ∧ SymPre (ltOf cf) tg mid en b d1 ∧ ∀ p q, a ≤ p → p < mid → mid ≤ q → q < b → lx (ltOf cf) tg d1[q]! d1[p]! = false := fun d1 hr => by
              have := merge_cut hS HP.out e4 e3 e1 e2 (fun h1 h2 => by rw [show en = pN + 1 - i by omega]; exact HB.out.1 (by omega)) (fun h1 h2 => by rw [show en - 1 = pN - i by omega]; exact HB.out.2 (by omega)) hr
              rwa [e5] at this
            have HCUT : Aside _ := hcut
            clear hcut hq
            have hr : ∀ wX, Aside (SWK enc k w0 blk off (d) (wX)) → i < m → m < en → Calls P 95 #[.slice (some ⟨blk, off, none⟩) d.size cap, .int .i64 i, .int .i64 m, .int .i64 en, .func (.func g) #[] cb] wX fun e w' => e = .returned (.tuple #[]) ∧ ∃ d', Rot i m en d d' ∧ SWK enc k w0 blk off (d') (w') := fun wX SX h1 h2 => rotateK L enc blk off cap i m en d0 d w0 wX _ R hs SX.out h1 h2 (by omega) (by omega)
            have hsy : ∀ (a2 m2 b2 : Nat) d1 wX, b2 - a2 ≤ sz → d1.size = d.size → Aside (SWK enc k w0 blk off (d1) (wX)) → a2 < m2 → m2 < b2 → b2 ≤ b → SymPre (ltOf cf) tg a2 m2 b2 d1 → Calls P 84 #[.slice (some ⟨blk, off, none⟩) d.size cap, .int .i64 a2, .int .i64 m2, .int .i64 b2, .func (.func g) #[] cb] wX fun e w' => e = .returned (.tuple #[]) ∧ ∃ d', PermIn a2 b2 d1 d' ∧ SortedIn (lx (ltOf cf) tg) a2 b2 d' ∧ SWK enc k w0 blk off (d') (w') := fun a2 m2 b2 d1 wX h1 h2 SX h3 h4 h5 h6 => by
              have := HI.out a2 m2 b2 d1 wX h1 (by omega) SX.out h3 h4 (by omega) h6
              rwa [h2] at this
            have HR : Aside _ := hr
            have HSY : Aside _ := hsy
            clear hr hsy HB
            by_cases c1 : i < m ∧ m < en
            · have c1a : (i : Int) < (m : Int) := by omega
              have c1b : (m : Int) < (en : Int) := by omega
              go_wp2_with fail
              refine (HR.out _ S1 c1.1 c1.2).mono ?_
              rintro e wA ⟨rfl, d1, hr1, SA0⟩
              have SA : Aside _ := SA0
              have R1 : Aside _ := hr1
              have z1 : d1.size = d.size := hr1.perm.1
              clear SA0 hr1 S1
              have X1 : Aside _ := HCUT.out d1 R1.out
              by_cases c2 : a < i ∧ i < mid
              · have c2a : (a : Int) < (i : Int) := by omega
                have c2b : (i : Int) < (mid : Int) := by omega
                go_wp2_with fail
                refine (HSY.out a i mid d1 _ (by omega) z1 SA c2.1 c2.2 (by omega) X1.out.1).mono ?_
                rintro e wB ⟨rfl, d2, p2, s2, SB0⟩
                have SB : Aside _ := SB0
                have P2 : Aside (PermIn a mid d1 d2) := p2
                have T2 : Aside _ := s2
                have z2 : d2.size = d.size := p2.1.trans z1
                clear SB0 p2 s2 SA
                by_cases c3 : mid < en ∧ en < b
                · have c3a : (mid : Int) < (en : Int) := by omega
                  have c3b : (en : Int) < (b : Int) := by omega
                  go_wp2_with fail
                  refine (HSY.out mid en b d2 _ (by omega) z2 SB c3.1 c3.2 (Nat.le_refl _) (X1.out.2.1.upd P2.out (Or.inr (Nat.le_refl _)) e6 e2)).mono ?_
                  rintro e wC ⟨rfl, d3, p3, s3, SC0⟩
                  have SC : Aside _ := SC0
                  have P3 : Aside (PermIn mid b d2 d3) := p3
                  have T3 : Aside _ := s3
                  clear SC0 p3 s3 SB
                  go_wp2
                  go_end0
                  obtain ⟨f1, f2⟩ := merge_end e4 e7 e6 e2 hb R1.out X1.out.2.2 P2.out T2.out P3.out T3.out
                  exact ⟨rfl, d3, f1, f2, SC.out⟩
                · have c3a : ¬ ((mid : Int) < (en : Int) ∧ (en : Int) < (b : Int)) := by omega
                  have c3c : (mid : Int) < (en : Int) → ¬ (en : Int) < (b : Int) := fun h1 h2 => c3a ⟨h1, h2⟩
                  go_wp2
                  all_goals
                    go_end0
                    obtain ⟨f1, f2⟩ := merge_end e4 e7 e6 e2 hb R1.out X1.out.2.2 P2.out T2.out (permIn_refl d2 mid b) ((X1.out.2.1.upd P2.out (Or.inr (Nat.le_refl _)) e6 e2).one (by omega))
                    exact ⟨rfl, d2, f1, f2, SB.out⟩
              · have c2a : ¬ ((a : Int) < (i : Int) ∧ (i : Int) < (mid : Int)) := by omega
                have c2c : (a : Int) < (i : Int) → ¬ (i : Int) < (mid : Int) := fun h1 h2 => c2a ⟨h1, h2⟩
                obtain ⟨d2, hd2⟩ : ∃ d2, d2 = d1 := ⟨_, rfl⟩
                have SB : Aside (SWK enc k w0 blk off (d2) (wA)) := by rw [hd2]; exact SA
                have z2 : d2.size = d.size := by rw [hd2]; exact z1
                have P2 : Aside (PermIn a mid d1 d2) := by rw [hd2]; exact permIn_refl d1 a mid
                have T2 : Aside (SortedIn (lx (ltOf cf) tg) a mid d2) := by rw [hd2]; exact X1.out.1.one (by omega)
                clear hd2 SA
                by_cases c3 : mid < en ∧ en < b
                · exfalso; omega
                · have c3a : ¬ ((mid : Int) < (en : Int) ∧ (en : Int) < (b : Int)) := by omega
                  have c3c : (mid : Int) < (en : Int) → ¬ (en : Int) < (b : Int) := fun h1 h2 => c3a ⟨h1, h2⟩
                  go_wp2
                  all_goals
                    go_end0
                    obtain ⟨f1, f2⟩ := merge_end e4 e7 e6 e2 hb R1.out X1.out.2.2 P2.out T2.out (permIn_refl d2 mid b) ((X1.out.2.1.upd P2.out (Or.inr (Nat.le_refl _)) e6 e2).one (by omega))
                    exact ⟨rfl, d2, f1, f2, SB.out⟩
            · have c1a : ¬ ((i : Int) < (m : Int) ∧ (m : Int) < (en : Int)) := by omega
              have R1 : Aside (Rot i m en d d) := by
                by_cases h : i = m
                · rw [h]; exact Rot.idL m en e1 d
                · rw [show en = m by omega]; exact Rot.idR i m e3 d
              obtain ⟨d1, hd1⟩ : ∃ d1, d1 = d := ⟨_, rfl⟩
              have SA : Aside (SWK enc k w0 blk off (d1) (wr)) := by rw [hd1]; exact S1
              have z1 : d1.size = d.size := by rw [hd1]
              rw [show Rot i m en d d = Rot i m en d d1 by rw [hd1]] at R1
              clear hd1 S1
              have c1c : (i : Int) < (m : Int) → ¬ (m : Int) < (en : Int) := fun h1 h2 => c1a ⟨h1, h2⟩
              have X1 : Aside _ := HCUT.out d1 R1.out
              by_cases c2 : a < i ∧ i < mid
              · exfalso; omega
              · have c2a : ¬ ((a : Int) < (i : Int) ∧ (i : Int) < (mid : Int)) := by omega
                have c2c : (a : Int) < (i : Int) → ¬ (i : Int) < (mid : Int) := fun h1 h2 => c2a ⟨h1, h2⟩
                obtain ⟨d2, hd2⟩ : ∃ d2, d2 = d1 := ⟨_, rfl⟩
                have SB : Aside (SWK enc k w0 blk off (d2) (wr)) := by rw [hd2]; exact SA
                have z2 : d2.size = d.size := by rw [hd2]; exact z1
                have P2 : Aside (PermIn a mid d1 d2) := by rw [hd2]; exact permIn_refl d1 a mid
                have T2 : Aside (SortedIn (lx (ltOf cf) tg) a mid d2) := by rw [hd2]; exact X1.out.1.one (by omega)
                clear hd2 SA
                by_cases c3 : mid < en ∧ en < b
                · have c3a : (mid : Int) < (en : Int) := by omega
                  have c3b : (en : Int) < (b : Int) := by omega
                  go_wp2_with fail
                  refine (HSY.out mid en b d2 _ (by omega) z2 SB c3.1 c3.2 (Nat.le_refl _) (X1.out.2.1.upd P2.out (Or.inr (Nat.le_refl _)) e6 e2)).mono ?_
                  rintro e wC ⟨rfl, d3, p3, s3, SC0⟩
                  have SC : Aside _ := SC0
                  have P3 : Aside (PermIn mid b d2 d3) := p3
                  have T3 : Aside _ := s3
                  clear SC0 p3 s3 SB
                  go_wp2
                  go_end0
                  obtain ⟨f1, f2⟩ := merge_end e4 e7 e6 e2 hb R1.out X1.out.2.2 P2.out T2.out P3.out T3.out
                  exact ⟨rfl, d3, f1, f2, SC.out⟩
                · have c3a : ¬ ((mid : Int) < (en : Int) ∧ (en : Int) < (b : Int)) := by omega
                  have c3c : (mid : Int) < (en : Int) → ¬ (en : Int) < (b : Int) := fun h1 h2 => c3a ⟨h1, h2⟩
                  go_wp2
                  all_goals
                    go_end0
                    obtain ⟨f1, f2⟩ := merge_end e4 e7 e6 e2 hb R1.out X1.out.2.2 P2.out T2.out (permIn_refl d2 mid b) ((X1.out.2.1.upd P2.out (Or.inr (Nat.le_refl _)) e6 e2).one (by omega))
                    exact ⟨rfl, d2, f1, f2, SB.out⟩
      · have hmmq := q6 hmm
        have hmmz : ¬ (m : Int) > (mid : Int) := by omega
        have HQ : Aside (st0 = a ∧ r0 = m) := hmmq
        clear hmmq q5 q6
        go_wp2_with fail
        try simp only [hm1e, hb1e]
        go_loopg [20, 21] (b - a) (fun kx s20 s21 wr => ∃ i j : Nat, s20 = .int .i64 i ∧ s21 = .int .i64 j ∧ st0 ≤ i ∧ i ≤ j ∧ j ≤ r0 ∧ j - i ≤ kx ∧ Aside (SWK enc k w0 blk off (d) (wr)) ∧ Aside ((st0 < i → ltOf cf d[pN + 1 - i]! d[i - 1]! = false) ∧ (j < r0 → ltOf cf d[pN - j]! d[j]! = true)))
        case atStart => exact ⟨st0, r0, by have := HQ.out; first | rfl | (congr 1; omega), by have := HQ.out; first | rfl | (congr 1; omega), Nat.le_refl _, q2, Nat.le_refl _, by omega, S0, ⟨fun h => absurd h (Nat.lt_irrefl _), fun h => absurd h (Nat.lt_irrefl _)⟩⟩
        case round =>
          clear S0
          obtain ⟨i, j, rfl, rfl, hai, hij, hjb, hkx, S1, HB⟩ := hrel
          by_cases hlt : i < j
          · have hltz : (i : Int) < (j : Int) := by omega
            obtain ⟨h, hh⟩ : ∃ h, (i + j) / 2 = h := ⟨_, rfl⟩
            have hhz : ((i : Int) + (j : Int)) / 2 = (h : Int) := by omega
            have hih : i ≤ h := by omega
            have hhj : h < j := by omega
            obtain ⟨pc, hpc0⟩ : ∃ pc, pc + h = pN := ⟨pN - h, by have := HQ.out; omega⟩
            have hpcz : (pN : Int) - (h : Int) = (pc : Int) := by omega
            have hpc : pc < b := by have := HQ.out; omega
            cases hlv : ltOf cf d[pc]! d[h]! with
            | true =>
              go_wp2_with fail
              have ea108 : ((pc : Int)).toNat = pc := by omega
              have ec108 : ((h : Int)).toNat = h := by omega
              have pa108 : (0 : Int) ≤ (pc : Int) := by omega
              have ba108 : (pc : Int) < (d.size : Int) := by omega
              have ra108 : IntKind.i64.wrap ((pc : Int)) = (pc : Int) := by rw [IntKind.wrap_i64]; omega
              have pc108 : (0 : Int) ≤ (h : Int) := by omega
              have bc108 : (h : Int) < (d.size : Int) := by omega
              have rc108 : IntKind.i64.wrap ((h : Int)) = (h : Int) := by rw [IntKind.wrap_i64]; omega
              obtain ⟨x108, hx108⟩ : ∃ x, x = d[pc]! := ⟨_, rfl⟩
              obtain ⟨y108, hy108⟩ : ∃ x, x = d[h]! := ⟨_, rfl⟩
              have l108a := S1.out.ld R (by omega) P (pc) (by omega)
              have l108b := S1.out.ld R (by omega) P (h) (by omega)
              rw [← hx108] at l108a
              rw [← hy108] at l108b
              have hv108 : cf x108 y108 < 0 := by rw [hx108, hy108]; exact of_decide_eq_true hlv
              have hd108 : decide (cf x108 y108 < 0) = true := decide_eq_true hv108
              have hc108 := S1.out.cmp HC.out (by omega) x108 y108
              clear hx108 hy108
              go_wp2_with fail
              go_quiet_grown (first | (go_at_fn g; refine Calls.grown_of (hc108 _ _)))
              have S2 : Aside (SWK enc k w0 blk off (d) (grow ((wr).drewN nq) osq)) := S1.out.grown nq osq
              clear l108a l108b hc108 S1
              generalize grow ((wr).drewN nq) osq = w2 at S2 ⊢
              clear nq osq
              clear ea108 ec108
              go_wp2
              go_roundg (h - i)
              case measure => omega
              case rel => exact ⟨i, h, rfl, rfl, hai, by omega, by omega, Nat.le_refl _, S2, ⟨HB.out.1, fun _ => by rw [show pN - h = pc by omega]; exact hlv⟩⟩
            | false =>
              go_wp2_with fail
              have ea109 : ((pc : Int)).toNat = pc := by omega
              have ec109 : ((h : Int)).toNat = h := by omega
              have pa109 : (0 : Int) ≤ (pc : Int) := by omega
              have ba109 : (pc : Int) < (d.size : Int) := by omega
              have ra109 : IntKind.i64.wrap ((pc : Int)) = (pc : Int) := by rw [IntKind.wrap_i64]; omega
              have pc109 : (0 : Int) ≤ (h : Int) := by omega
              have bc109 : (h : Int) < (d.size : Int) := by omega
              have rc109 : IntKind.i64.wrap ((h : Int)) = (h : Int) := by rw [IntKind.wrap_i64]; omega
              obtain ⟨x109, hx109⟩ : ∃ x, x = d[pc]! := ⟨_, rfl⟩
              obtain ⟨y109, hy109⟩ : ∃ x, x = d[h]! := ⟨_, rfl⟩
              have l109a := S1.out.ld R (by omega) P (pc) (by omega)
              have l109b := S1.out.ld R (by omega) P (h) (by omega)
              rw [← hx109] at l109a
              rw [← hy109] at l109b
              have hv109 : ¬ cf x109 y109 < 0 := by rw [hx109, hy109]; exact of_decide_eq_false hlv
              have hd109 : decide (cf x109 y109 < 0) = false := decide_eq_false hv109
              have hc109 := S1.out.cmp HC.out (by omega) x109 y109
              clear hx109 hy109
              go_wp2_with fail
              go_quiet_grown (first | (go_at_fn g; refine Calls.grown_of (hc109 _ _)))
              have S2 : Aside (SWK enc k w0 blk off (d) (grow ((wr).drewN nq) osq)) := S1.out.grown nq osq
              clear l109a l109b hc109 S1
              generalize grow ((wr).drewN nq) osq = w2 at S2 ⊢
              clear nq osq
              clear ea109 ec109
              go_wp2
              go_roundg (j - (h + 1))
              case measure => omega
              case rel => exact ⟨h + 1, j, by go_num, rfl, by omega, by omega, hjb, Nat.le_refl _, S2, ⟨fun _ => by rw [Nat.add_sub_cancel, show pN + 1 - (h + 1) = pc by omega]; exact hlv, HB.out.2⟩⟩
          · obtain rfl : i = j := by omega
            have hltz : ¬ (i : Int) < (i : Int) := by omega
            obtain ⟨en, hen⟩ : ∃ en, mid + m - i = en := ⟨_, rfl⟩
            have hq := HQ.out
            have henz : (mid : Int) + (m : Int) - (i : Int) = (en : Int) := by omega
            have hebr : m ≤ en ∧ en ≤ b ∧ i ≤ m ∧ a ≤ i ∧ i + (en - m) = mid ∧ mid ≤ en ∧ i ≤ mid := by omega
            obtain ⟨e1, e2, e3, e4, e5, e6, e7⟩ := hebr
            have hcut : ∀ d1, Rot i m en d d1 → SymPre (ltOf cf) tg a i mid d1 ∧ SymPre (ltOf cf) tg mid en b d1 ∧ ∀ p q, a ≤ p → p < mid → mid ≤ q → q < b → lx (ltOf cf) tg d1[q]! d1[p]! = false := fun d1 hr => by
              have := merge_cut hS HP.out e4 e3 e1 e2 (fun h1 h2 => by rw [show en = pN + 1 - i by omega]; exact HB.out.1 (by omega)) (fun h1 h2 => by rw [show en - 1 = pN - i by omega]; exact HB.out.2 (by omega)) hr
              rwa [e5] at this
            have HCUT : Aside _ := hcut
            clear hcut hq
            have hr : ∀ wX, Aside (SWK enc k w0 blk off (d) (wX)) → i < m → m < en → Calls P 95 #[.slice (some ⟨blk, off, none⟩) d.size cap, .int .i64 i, .int .i64 m, .int .i64 en, .func (.func g) #[] cb] wX fun e w' => e = .returned (.tuple #[]) ∧ ∃ d', Rot i m en d d' ∧ SWK enc k w0 blk off (d') (w') := fun wX SX h1 h2 => rotateK L enc blk off cap i m en d0 d w0 wX _ R hs SX.out h1 h2 (by omega) (by omega)
            have hsy : ∀ (a2 m2 b2 : Nat) d1 wX, b2 - a2 ≤ sz → d1.size = d.size → Aside (SWK enc k w0 blk off (d1) (wX)) → a2 < m2 → m2 < b2 → b2 ≤ b → SymPre (ltOf cf) tg a2 m2 b2 d1 → Calls P 84 #[.slice (some ⟨blk, off, none⟩) d.size cap, .int .i64 a2, .int .i64 m2, .int .i64 b2, .func (.func g) #[] cb] wX fun e w' => e = .returned (.tuple #[]) ∧ ∃ d', PermIn a2 b2 d1 d' ∧ SortedIn (lx (ltOf cf) tg) a2 b2 d' ∧ SWK enc k w0 blk off (d') (w') := fun a2 m2 b2 d1 wX h1 h2 SX h3 h4 h5 h6 => by
              have := HI.out a2 m2 b2 d1 wX h1 (by omega) SX.out h3 h4 (by omega) h6
              rwa [h2] at this
            have HR : Aside _ := hr
            have HSY : Aside _ := hsy
            clear hr hsy HB
            by_cases c1 : i < m ∧ m < en
            · have c1a : (i : Int) < (m : Int) := by omega
              have c1b : (m : Int) < (en : Int) := by omega
              go_wp2_with fail
              refine (HR.out _ S1 c1.1 c1.2).mono ?_
              rintro e wA ⟨rfl, d1, hr1, SA0⟩
              have SA : Aside _ := SA0
              have R1 : Aside _ := hr1
              have z1 : d1.size = d.size := hr1.perm.1
              clear SA0 hr1 S1
              have X1 : Aside _ := HCUT.out d1 R1.out
              by_cases c2 : a < i ∧ i < mid
              · have c2a : (a : Int) < (i : Int) := by omega
                have c2b : (i : Int) < (mid : Int) := by omega
                go_wp2_with fail
                refine (HSY.out a i mid d1 _ (by omega) z1 SA c2.1 c2.2 (by omega) X1.out.1).mono ?_
                rintro e wB ⟨rfl, d2, p2, s2, SB0⟩
                have SB : Aside _ := SB0
                have P2 : Aside (PermIn a mid d1 d2) := p2
                have T2 : Aside _ := s2
                have z2 : d2.size = d.size := p2.1.trans z1
                clear SB0 p2 s2 SA
                by_cases c3 : mid < en ∧ en < b
                · have c3a : (mid : Int) < (en : Int) := by omega
                  have c3b : (en : Int) < (b : Int) := by omega
                  go_wp2_with fail
                  refine (HSY.out mid en b d2 _ (by omega) z2 SB c3.1 c3.2 (Nat.le_refl _) (X1.out.2.1.upd P2.out (Or.inr (Nat.le_refl _)) e6 e2)).mono ?_
                  rintro e wC ⟨rfl, d3, p3, s3, SC0⟩
                  have SC : Aside _ := SC0
                  have P3 : Aside (PermIn mid b d2 d3) := p3
                  have T3 : Aside _ := s3
                  clear SC0 p3 s3 SB
                  go_wp2
                  go_end0
                  obtain ⟨f1, f2⟩ := merge_end e4 e7 e6 e2 hb R1.out X1.out.2.2 P2.out T2.out P3.out T3.out
                  exact ⟨rfl, d3, f1, f2, SC.out⟩
                · have c3a : ¬ ((mid : Int) < (en : Int) ∧ (en : Int) < (b : Int)) := by omega
                  have c3c : (mid : Int) < (en : Int) → ¬ (en : Int) < (b : Int) := fun h1 h2 => c3a ⟨h1, h2⟩
                  go_wp2
                  all_goals
                    go_end0
                    obtain ⟨f1, f2⟩ := merge_end e4 e7 e6 e2 hb R1.out X1.out.2.2 P2.out T2.out (permIn_refl d2 mid b) ((X1.out.2.1.upd P2.out (Or.inr (Nat.le_refl _)) e6 e2).one (by omega))
                    exact ⟨rfl, d2, f1, f2, SB.out⟩
              · have c2a : ¬ ((a : Int) < (i : Int) ∧ (i : Int) < (mid : Int)) := by omega
                have c2c : (a : Int) < (i : Int) → ¬ (i : Int) < (mid : Int) := fun h1 h2 => c2a ⟨h1, h2⟩
                obtain ⟨d2, hd2⟩ : ∃ d2, d2 = d1 := ⟨_, rfl⟩
                have SB : Aside (SWK enc k w0 blk off (d2) (wA)) := by rw [hd2]; exact SA
                have z2 : d2.size = d.size := by rw [hd2]; exact z1
                have P2 : Aside (PermIn a mid d1 d2) := by rw [hd2]; exact permIn_refl d1 a mid
                have T2 : Aside (SortedIn (lx (ltOf cf) tg) a mid d2) := by rw [hd2]; exact X1.out.1.one (by omega)
                clear hd2 SA
                by_cases c3 : mid < en ∧ en < b
                · have c3a : (mid : Int) < (en : Int) := by omega
                  have c3b : (en : Int) < (b : Int) := by omega
                  go_wp2_with fail
                  refine (HSY.out mid en b d2 _ (by omega) z2 SB c3.1 c3.2 (Nat.le_refl _) (X1.out.2.1.upd P2.out (Or.inr (Nat.le_refl _)) e6 e2)).mono ?_
                  rintro e wC ⟨rfl, d3, p3, s3, SC0⟩
                  have SC : Aside _ := SC0
                  have P3 : Aside (PermIn mid b d2 d3) := p3
                  have T3 : Aside _ := s3
                  clear SC0 p3 s3 SB
                  go_wp2
                  go_end0
                  obtain ⟨f1, f2⟩ := merge_end e4 e7 e6 e2 hb R1.out X1.out.2.2 P2.out T2.out P3.out T3.out
                  exact ⟨rfl, d3, f1, f2, SC.out⟩
                · have c3a : ¬ ((mid : Int) < (en : Int) ∧ (en : Int) < (b : Int)) := by omega
                  have c3c : (mid : Int) < (en : Int) → ¬ (en : Int) < (b : Int) := fun h1 h2 => c3a ⟨h1, h2⟩
                  go_wp2
                  all_goals
                    go_end0
                    obtain ⟨f1, f2⟩ := merge_end e4 e7 e6 e2 hb R1.out X1.out.2.2 P2.out T2.out (permIn_refl d2 mid b) ((X1.out.2.1.upd P2.out (Or.inr (Nat.le_refl _)) e6 e2).one (by omega))
                    exact ⟨rfl, d2, f1, f2, SB.out⟩
            · have c1a : ¬ ((i : Int) < (m : Int) ∧ (m : Int) < (en : Int)) := by omega
              have R1 : Aside (Rot i m en d d) := by
                by_cases h : i = m
                · rw [h]; exact Rot.idL m en e1 d
                · rw [show en = m by omega]; exact Rot.idR i m e3 d
              obtain ⟨d1, hd1⟩ : ∃ d1, d1 = d := ⟨_, rfl⟩
              have SA : Aside (SWK enc k w0 blk off (d1) (wr)) := by rw [hd1]; exact S1
              have z1 : d1.size = d.size := by rw [hd1]
              rw [show Rot i m en d d = Rot i m en d d1 by rw [hd1]] at R1
              clear hd1 S1
              have c1c : (i : Int) < (m : Int) → ¬ (m : Int) < (en : Int) := fun h1 h2 => c1a ⟨h1, h2⟩
              have X1 : Aside _ := HCUT.out d1 R1.out
              by_cases c2 : a < i ∧ i < mid
              · have c2a : (a : Int) < (i : Int) := by omega
                have c2b : (i : Int) < (mid : Int) := by omega
                go_wp2_with fail
                refine (HSY.out a i mid d1 _ (by omega) z1 SA c2.1 c2.2 (by omega) X1.out.1).mono ?_
                rintro e wB ⟨rfl, d2, p2, s2, SB0⟩
                have SB : Aside _ := SB0
                have P2 : Aside (PermIn a mid d1 d2) := p2
                have T2 : Aside _ := s2
                have z2 : d2.size = d.size := p2.1.trans z1
                clear SB0 p2 s2 SA
                by_cases c3 : mid < en ∧ en < b
                · exfalso; omega
                · have c3a : ¬ ((mid : Int) < (en : Int) ∧ (en : Int) < (b : Int)) := by omega
                  have c3c : (mid : Int) < (en : Int) → ¬ (en : Int) < (b : Int) := fun h1 h2 => c3a ⟨h1, h2⟩
                  go_wp2
                  all_goals
                    go_end0
                    obtain ⟨f1, f2⟩ := merge_end e4 e7 e6 e2 hb R1.out X1.out.2.2 P2.out T2.out (permIn_refl d2 mid b) ((X1.out.2.1.upd P2.out (Or.inr (Nat.le_refl _)) e6 e2).one (by omega))
                    exact ⟨rfl, d2, f1, f2, SB.out⟩
              · have c2a : ¬ ((a : Int) < (i : Int) ∧ (i : Int) < (mid : Int)) := by omega
                have c2c : (a : Int) < (i : Int) → ¬ (i : Int) < (mid : Int) := fun h1 h2 => c2a ⟨h1, h2⟩
                obtain ⟨d2, hd2⟩ : ∃ d2, d2 = d1 := ⟨_, rfl⟩
                have SB : Aside (SWK enc k w0 blk off (d2) (wr)) := by rw [hd2]; exact SA
                have z2 : d2.size = d.size := by rw [hd2]; exact z1
                have P2 : Aside (PermIn a mid d1 d2) := by rw [hd2]; exact permIn_refl d1 a mid
                have T2 : Aside (SortedIn (lx (ltOf cf) tg) a mid d2) := by rw [hd2]; exact X1.out.1.one (by omega)
                clear hd2 SA
                by_cases c3 : mid < en ∧ en < b
                · exfalso; omega
                · have c3a : ¬ ((mid : Int) < (en : Int) ∧ (en : Int) < (b : Int)) := by omega
                  have c3c : (mid : Int) < (en : Int) → ¬ (en : Int) < (b : Int) := fun h1 h2 => c3a ⟨h1, h2⟩
                  go_wp2
                  all_goals
                    go_end0
                    obtain ⟨f1, f2⟩ := merge_end e4 e7 e6 e2 hb R1.out X1.out.2.2 P2.out T2.out (permIn_refl d2 mid b) ((X1.out.2.1.upd P2.out (Or.inr (Nat.le_refl _)) e6 e2).one (by omega))
                    exact ⟨rfl, d2, f1, f2, SB.out⟩
end Go.Proofs
