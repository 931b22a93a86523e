/- slices.stableCmpFunc over scarp/api.History: sorted, ties in the order they came in. -/
import Derived.Test.YtjomlcemnbfnfaaSymMergeK
import Derived.Lib.Hide
namespace Go.Proofs
open Go.RowKit Go.Lib Go.Sort Go.Shelf
variable {α : Type} [Inhabited α]

set_option maxHeartbeats 16000000 in
set_option maxRecDepth 1000000 in
theorem stableK_at {P : Program} {k : Nat} (L : StabK P k) (enc : α → List Value) (cf : α → α → Int) (tg : α → Nat) (hS : SWO (ltOf cf)) (g : Nat) (cb : Array Value) (blk off cap : Nat) (d : Array α) (w0 w : World)
    (eg : ∀ args w, (callFunc g args).run P w = .ok (.enter g args) w) (hcmp : CmpLays P g cb enc k cf blk off d.size w0) (R : RowK enc k w0 blk off d) (hsz : d.size < 1073741824)
    (hins : ∀ (a b : Nat) (dk : Array α) (wX : World), Aside (SWK enc k w0 blk off (dk) (wX)) → d.size = dk.size → a ≤ b → b ≤ d.size → Calls P 83 #[.slice (some ⟨blk, off, none⟩) d.size cap, .int .i64 a, .int .i64 b, .func (.func g) #[] cb] wX fun e w' => e = .returned (.tuple #[]) ∧ SWK enc k w0 blk off (insertionSort (ltOf cf) dk a b) (w'))
    (S : SWK enc k w0 blk off (d) (w)) (htg : ∀ i, i < d.size → tg d[i]! = i) :
    Calls P 67 #[.slice (some ⟨blk, off, none⟩) d.size cap, .int .i64 d.size, .func (.func g) #[] cb] w fun e w' => e = .returned (.tuple #[]) ∧ ∃ d', PermIn 0 d.size d d' ∧ SortedIn (lx (ltOf cf) tg) 0 d.size d' ∧ SWK enc k w0 blk off (d') (w') := by
  have mixed : P.follows Departure.mixedOrders = true := L.mixed
  have t0 := L.t0
  have a0 := L.a0
  have z0 := L.z0
  have v0 := L.v0
  have t3 := L.t3
  have a3 := L.a3
  have z3 := L.z3
  have v3 := L.v3
  have t4 := L.t4
  have a4 := L.a4
  have z4 := L.z4
  have v4 := L.v4
  have t5 := L.t5
  have a5 := L.a5
  have z5 := L.z5
  have v5 := L.v5
  have t6 := L.t6
  have a6 := L.a6
  have z6 := L.z6
  have v6 := L.v6
  have t7 := L.t7
  have a7 := L.a7
  have z7 := L.z7
  have v7 := L.v7
  have aE := L.aE
  have zE := L.zE
  have u5 := run_underlying L.t5
  have cIns := L.cIns
  have cSym := L.cSym
  have cStab := L.cStab
  have hsy : ∀ (a m b : Nat) (dk : Array α) (wX : World), Aside (SWK enc k w0 blk off (dk) (wX)) → d.size = dk.size → a < m → m < b → b ≤ d.size → SymPre (ltOf cf) tg a m b dk → Calls P 84 #[.slice (some ⟨blk, off, none⟩) d.size cap, .int .i64 a, .int .i64 m, .int .i64 b, .func (.func g) #[] cb] wX fun e w' => e = .returned (.tuple #[]) ∧ ∃ d', PermIn a b dk d' ∧ SortedIn (lx (ltOf cf) tg) a b d' ∧ SWK enc k w0 blk off (d') (w') := fun a m b dk wX SX hs h1 h2 h3 hp => by
    have := symMergeK_at L enc cf tg hS g cb blk off cap d w0 eg hcmp R (by omega) (b - a) a m b dk wX (Nat.le_refl _) hs SX.out h1 h2 (by omega) hp
    rwa [← hs] at this
  have S0 : Aside (SWK enc k w0 blk off (d) (w)) := S
  have HIN : Aside _ := hins
  have HSY : Aside _ := hsy
  have HT : Aside _ := htg
  clear S hins hsy htg hcmp
  obtain ⟨n, hn⟩ : ∃ n, d.size = n := ⟨_, rfl⟩
  rw [hn]
  rw [hn] at HIN HSY HT hsz
  have HN : Aside (d.size = n) := hn
  clear hn
  go_enter L.fStab, Try.ntmps67
  go_wp2_with fail
  go_loopg [7, 8] n (fun kx s7 s8 wr => ∃ (a : Nat) (dk : Array α), s7 = .int .i64 a ∧ s8 = .int .i64 ((a : Int) + 20) ∧ a ≤ n ∧ n - a ≤ kx ∧ Aside (n = dk.size) ∧ Aside (SWK enc k w0 blk off (dk) (wr)) ∧ Aside (∃ q, a = q * 20 ∧ BlkA (ltOf cf) tg 20 n (q * 20) d dk))
  case atStart => exact ⟨0, d, rfl, by go_num, Nat.zero_le _, by omega, HN.out.symm, S0, 0, rfl, by simpa using BlkA.start 20 HT.out⟩
  case round =>
    clear S0
    obtain ⟨a, dk, rfl, rfl, han, hkx, HZ, S1, HB⟩ := hrel
    by_cases hlt : a + 20 ≤ n
    · have hltz : (a : Int) + 20 ≤ (n : Int) := by omega
      have hc := HIN.out a (a + 20) dk wr S1 HZ.out (by omega) hlt
      rw [show ((a + 20 : Nat) : Int) = (a : Int) + 20 by omega] at hc
      have HC := Lib.hid hc
      clear hc
      go_wp2_with fail
      refine HC.out.mono ?_
      rintro e w2 ⟨rfl, s2⟩
      have S2 : Aside _ := s2
      clear s2 HC
      go_wp2
      go_roundg (n - (a + 20))
      case measure => omega
      case rel =>
        obtain ⟨q, hq, hb⟩ := HB.out
        have hst := hb.step hS (by omega) (by rw [HN.out]; exact Nat.le_refl _) (show q * 20 ≤ a + 20 by omega) hlt (by omega)
        rw [show a + 20 = (q + 1) * 20 by omega] at hst
        refine ⟨a + 20, insertionSort (ltOf cf) dk a (a + 20), by go_num, by go_num, hlt, Nat.le_refl _, ?_, S2, q + 1, by omega, ?_⟩
        · show n = _; rw [← HN.out]; have := hst.perm.1; rw [hq, show q * 20 + 20 = (q + 1) * 20 by omega]; exact this.symm
        · rw [hq, show q * 20 + 20 = (q + 1) * 20 by omega]; exact hst
    · have hltz : ¬ (a : Int) + 20 ≤ (n : Int) := by omega
      have HC := Lib.hid (HIN.out a n dk wr S1 HZ.out han (Nat.le_refl _))
      go_wp2_with fail
      refine HC.out.mono ?_
      rintro e w2 ⟨rfl, s2⟩
      have S2 : Aside _ := s2
      clear s2 HC
      obtain ⟨dm, hdm⟩ : ∃ dm, dm = insertionSort (ltOf cf) dk a n := ⟨_, rfl⟩
      rw [← hdm] at S2
      have HM : Aside (PermIn 0 n d dm ∧ Blk (ltOf cf) tg 20 n dm) := by
        obtain ⟨q, hq, hb⟩ := HB.out
        have hst := hb.step hS (by omega) (by rw [HN.out]; exact Nat.le_refl _) (show q * 20 ≤ n by omega) (Nat.le_refl _) (by omega)
        rw [← hq, ← hdm] at hst
        exact ⟨hst.perm, hst.done⟩
      clear hdm HB S1 HZ
      go_wp2_with fail
      go_loopg [6] n (fun kx s6 wr => ∃ (bs : Nat) (dk : Array α), s6 = .int .i64 bs ∧ 0 < bs ∧ bs ≤ 2 * n + 20 ∧ n - bs ≤ kx ∧ Aside (SWK enc k w0 blk off (dk) (wr)) ∧ Aside (PermIn 0 n d dk ∧ Blk (ltOf cf) tg bs n dk))
      case atStart => exact ⟨20, dm, rfl, by omega, by omega, by omega, S2, HM⟩
      case round =>
        clear S2 HM hltz hlt han hkx
        obtain ⟨bs, dk2, rfl, hb0, hbn, hkx, S3, HB⟩ := hrel
        by_cases hlt2 : bs < n
        · have hlt2z : (bs : Int) < (n : Int) := by omega
          go_wp2_with fail
          go_loopg [7, 8] n (fun kx s7 s8 wr => ∃ (a : Nat) (dk : Array α), s7 = .int .i64 a ∧ s8 = .int .i64 ((a : Int) + 2 * (bs : Int)) ∧ a ≤ n ∧ n - a ≤ kx ∧ Aside (SWK enc k w0 blk off (dk) (wr)) ∧ Aside (∃ q, a = q * (bs * 2) ∧ BlkB (ltOf cf) tg bs n (q * (bs * 2)) d dk))
          case atStart => exact ⟨0, dk2, rfl, by go_num, Nat.zero_le _, by omega, S3, 0, by omega, by simpa using BlkB.start HB.out.1 HB.out.2⟩
          case round =>
            clear S3 HB
            obtain ⟨a, dk, rfl, rfl, han, hkx2, S1, HB⟩ := hrel
            have HZ : Aside (n = dk.size) := by
              obtain ⟨q, hq, hb⟩ := HB.out
              show n = _; rw [← HN.out]; exact hb.perm.1.symm
            by_cases hlt : a + 2 * bs ≤ n
            · have hltz : (a : Int) + 2 * (bs : Int) ≤ (n : Int) := by omega
              have hc := HSY.out a (a + bs) (a + 2 * bs) dk wr S1 HZ.out (by omega) (by omega) hlt (by
                obtain ⟨q, hq, hb⟩ := HB.out
                have e3 : (q + 1) * (bs * 2) = q * (bs * 2) + bs * 2 := by rw [Nat.add_mul, Nat.one_mul]
                rw [hq]; exact hb.pre hb0 (by omega) (by omega) (by omega))
              rw [show ((a + bs : Nat) : Int) = (a : Int) + (bs : Int) by omega, show ((a + 2 * bs : Nat) : Int) = (a : Int) + 2 * (bs : Int) by omega] at hc
              have HC := Lib.hid hc
              clear hc
              go_wp2_with fail
              refine HC.out.mono ?_
              rintro e w2 ⟨rfl, d2, p2, so2, s2⟩
              have S2 : Aside _ := s2
              have HP2 : Aside _ := p2
              have HO2 : Aside _ := so2
              clear s2 HC p2 so2
              go_wp2
              go_roundg (n - (a + 2 * bs))
              case measure => omega
              case rel =>
                obtain ⟨q, hq, hb⟩ := HB.out
                have e3 : (q + 1) * (bs * 2) = q * (bs * 2) + bs * 2 := by rw [Nat.add_mul, Nat.one_mul]
                have hp2 := HP2.out
                have ho2 := HO2.out
                rw [show a + 2 * bs = (q + 1) * (bs * 2) by omega, hq] at hp2 ho2
                have hst := hb.step (b := (q + 1) * (bs * 2)) hb0 (by rw [HN.out]; exact Nat.le_refl _) (by omega) (by omega) (Nat.le_refl _) hp2 ho2
                exact ⟨a + 2 * bs, d2, by go_num, by go_num, hlt, Nat.le_refl _, S2, q + 1, by omega, hst⟩
            · have hltz : ¬ (a : Int) + 2 * (bs : Int) ≤ (n : Int) := by omega
              by_cases hm : a + bs < n
              · have hmz : (a : Int) + (bs : Int) < (n : Int) := by omega
                have hc := HSY.out a (a + bs) n dk wr S1 HZ.out (by omega) (by omega) (Nat.le_refl _) (by
                  obtain ⟨q, hq, hb⟩ := HB.out
                  have e3 : (q + 1) * (bs * 2) = q * (bs * 2) + bs * 2 := by rw [Nat.add_mul, Nat.one_mul]
                  rw [hq]; exact hb.pre hb0 (by omega) (by omega) (by omega))
                rw [show ((a + bs : Nat) : Int) = (a : Int) + (bs : Int) by omega] at hc
                have HC := Lib.hid hc
                clear hc
                go_wp2_with fail
                refine HC.out.mono ?_
                rintro e w2 ⟨rfl, d2, p2, so2, s2⟩
                have S2 : Aside _ := s2
                have HP2 : Aside _ := p2
                have HO2 : Aside _ := so2
                clear s2 HC p2 so2
                go_wp2
                go_roundg (n - bs * 2)
                case measure => omega
                case rel =>
                  obtain ⟨q, hq, hb⟩ := HB.out
                  have e3 : (q + 1) * (bs * 2) = q * (bs * 2) + bs * 2 := by rw [Nat.add_mul, Nat.one_mul]
                  have hp2 := HP2.out
                  have ho2 := HO2.out
                  rw [hq] at hp2 ho2
                  have hst := hb.step (b := n) hb0 (by rw [HN.out]; exact Nat.le_refl _) (by omega) (Nat.le_refl _) (by omega) hp2 ho2
                  exact ⟨bs * 2, d2, by go_num, by omega, by omega, Nat.le_refl _, S2, hst.perm, hst.done (Nat.le_refl _)⟩
              · have hmz : ¬ (a : Int) + (bs : Int) < (n : Int) := by omega
                go_wp2
                go_roundg (n - bs * 2)
                case measure => omega
                case rel =>
                  obtain ⟨q, hq, hb⟩ := HB.out
                  exact ⟨bs * 2, dk, by go_num, by omega, by omega, Nat.le_refl _, S1, hb.perm, hb.done1 hb0 (by omega)⟩
        · have hlt2z : ¬ (bs : Int) < (n : Int) := by omega
          go_wp2
          go_end0
          exact ⟨rfl, dk2, HB.out.1, HB.out.2.all (by omega), S3.out⟩
end Go.Proofs
