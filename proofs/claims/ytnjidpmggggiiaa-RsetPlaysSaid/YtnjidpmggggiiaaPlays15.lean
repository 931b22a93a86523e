/- RsetPlays: whatever is read, written and applied in turns, each read answers, and the read set is, as the document says: for every input the law returns true. -/
import Derived.Test.YtnjidpmggggiiaaRs7
namespace Go.Proofs
open Go.RowKit Sc

set_option maxRecDepth 100000 in
set_option maxHeartbeats 8000000 in
theorem plays15_any (blocks at_ : Int) (vl : Value) (l : List Step15) (w : World) (hl : Steps15 (Old w) w vl l) :
    Calls Try.prog 7 #[.int .i64 blocks, .int .i64 at_, vl] w (Tru w) := by
  have hfollow : Try.prog.follows Departure.mixedOrders = true := by kernel_rfl
  have hl' := hl
  obtain ⟨lp, lc, rfl, hll, hlc, _, _⟩ := hl'
  have HL0 := Lib.hid hl
  clear hl
  go_enter Try.func7, Try.ntmps7
  go_wp2_with fail
  refine (small15_any (Old w) _ l _ (fun k hk => hk) HL0.out).mono ?_
  rintro e w1 ⟨q, rfl, hq, hb1⟩
  have hl1 := HL0.out.moreP hb1
  have HL := Lib.hid hl1
  clear hl1
  have HQ := Lib.hid hq
  have HB1 := Lib.hid hb1
  clear hq hb1
  rcases (show q = false ∨ (q = true ∧ blocks < 1) ∨ (q = true ∧ ¬ blocks < 1 ∧ 100 < blocks) ∨ (q = true ∧ ¬ blocks < 1 ∧ ¬ 100 < blocks) by cases q; exact .inl rfl; exact .inr (by by_cases h : blocks < 1; exact .inl ⟨rfl, h⟩; exact .inr (by by_cases h2 : 100 < blocks; exact .inl ⟨rfl, h, h2⟩; exact .inr ⟨rfl, h, h2⟩))) with rfl | ⟨rfl, g1⟩ | ⟨rfl, g1, g2⟩ | ⟨rfl, g1, g2⟩
  case inr.inr.inr =>
    obtain ⟨hsz, h120⟩ := HQ.out rfl
    go_wp2_with fail
    refine (fresh_any blocks at_ w1 (by omega) (by omega)).mono ?_
    rintro e w2 ⟨m, b, s, v, x, y, z, q, rfl, HS2⟩
    have HS3 := plays15_start HS2
    clear HS2
    go_wp2_with fail
    go_loopw [9] (fun i wr => ∃ k : Nat, ∃ last vs B M rb S R, k ≤ l.length ∧ i = .int .i64 k ∧ Hid (Sep w1 (playsL15 w1 m b s v x y z q blocks at_ last last vs B M rb S R S R []) wr) ∧ Hid (P15 blocks last vs B M rb S R (ssz15 (l.take k)) k)) (fun i _ => l.length - (intOf i).toNat)
    case atStart => exact ⟨0, 0, [], [], [], [], [], [], by omega, rfl, HS3, Lib.hid (P15.start blocks)⟩
    case round =>
      obtain ⟨k, last, vs, B, M, rb, S, R, hk, rfl, HS, HI⟩ := hrel
      clear HS3
      have hmz := ssz15_le (l := l) k
      have HML := Lib.hid (show M.length ≤ 20000 ∧ rb.length ≤ 16 ∧ B.length ≤ 16 ∧ R.length ≤ 16 * k from ⟨by have := HI.out.mlen; omega, HI.out.rlen', by have := HI.out.blen; omega, HI.out.rlen⟩)
      by_cases hlt : k < l.length
      case pos =>
        obtain ⟨p', c', hv', _, _, _, g5⟩ := HL.out
        cases hv'
        obtain ⟨bb, o, rfl, hgb, hck, hki, hcf, hcl, hif, hil, ⟨pv, hcp, hp⟩, hcn, hin⟩ := g5 k hlt
        have hpl := ssz15_mem (List.getElem_mem hlt)
        have hst := ssz15_take hlt
        have hbo := HS.out.old
        have ck := cell_up hbo hck
        have cf := cell_up hbo hcf
        have cl := cell_up hbo hcl
        have cp := cell_up hbo hcp
        have cn := cell_up hbo hcn
        have htk : ssz15 (l.take k) ≤ ssz15 (l.take (k + 1)) := by omega
        generalize l[k] = xs at *
        obtain ⟨kd, ⟨xf, xl⟩, ps, nn⟩ := xs
        obtain ⟨pp, pc, rfl⟩ : ∃ pp pc, pv = .slice pp ps.length pc := by obtain ⟨pp, pc, e, _⟩ := hp; exact ⟨pp, pc, e⟩
        simp only at ck cf cl cp cn hp hki hif hil hin hpl hst
        have HP := Lib.hid hp
        have HPL := Lib.hid (show ps.length ≤ 20000 by omega)
        have HIF := Lib.hid hif
        have HIL := Lib.hid hil
        have HIN := Lib.hid hin
        have HST := Lib.hid hst
        have HTK := Lib.hid htk
        clear g5 hck hcf hcl hcp hcn hp hpl hst htk hki hif hil hin hbo hmz
        have HSA : Hid (Sep w1 (playsL15 w1 m b s v x y z q blocks at_ last last vs B M rb S R S R [BoxA wr.heap.size (stepP kd xf xl (.slice pp ps.length pc) nn) 46]) (wr.alloc (.cells (stepP kd xf xl (.slice pp ps.length pc) nn) 46 (0, 0)))) :=
          Lib.hid (Go.Proofs.Sep.box HS.out (stepP kd xf xl (.slice pp ps.length pc) nn) 46)
        unfold stepP at HSA
        rcases (show kd = 1 ∨ kd = 2 ∨ kd = 3 ∨ (kd ≠ 1 ∧ kd ≠ 2 ∧ kd ≠ 3) by omega) with rfl | rfl | rfl | ⟨n1, n2, n3⟩
        case inl =>
          go_wp2_with fail
          generalize hW0 : wr.alloc (.cells #[.int .i64 1, .int .i64 xf, .int .i64 xl, .slice pp ps.length pc, .int .i64 nn] 46) = W0 at *
          obtain ⟨sb, hsb⟩ : ∃ sb, wr.heap.size = sb := ⟨_, rfl⟩
          rw [hsb] at HSA ⊢
          clear hW0 ck cf cl cp cn HS
          have HG0 := Lib.hid (gw_of HSA.out 8 9 rfl rfl : GW q sb (worldP m b v x y z) (stepP 1 xf xl (.slice pp ps.length pc) nn) _)
          have HSD : Hid (Sep w1 _ W0.drew) := Lib.hid (HSA.out.up (below_drewN (Below.refl _ _) 1))
          refine wp_regionG (fun W => GW q sb (worldP m b v x y z) (stepP 1 xf xl (.slice pp ps.length pc) nn) W) (n := 12) (by kernel_rfl) (by kernel_rfl) ?_
          refine wpG.take 0 (v := ?_) (a' := ?_) rfl (by kernel_rfl) (by kernel_rfl) (by kernel_rfl) (by kernel_rfl) (fun _ _ _ h => h) ?_ ?_ ?_
          rotate_left 2
          · intro W hW
            go_simp
            try with_reducible rfl
          · go_simp
            try with_reducible rfl
          refine wpG.take 1 (v := ?_) (a' := ?_) rfl (by kernel_rfl) (by kernel_rfl) (by kernel_rfl) (by kernel_rfl) (fun _ _ _ h => h) ?_ ?_ ?_
          rotate_left 2
          · intro W hW
            go_simp
            try with_reducible rfl
          · go_simp
            try with_reducible rfl
          refine wpG.take 2 (v := ?_) (a' := ?_) rfl (by kernel_rfl) (by kernel_rfl) (by kernel_rfl) (by kernel_rfl) (fun _ _ _ h => h) ?_ ?_ ?_
          rotate_left 2
          · intro W hW
            go_simp
            try with_reducible rfl
          · go_simp
            try with_reducible rfl
          refine wpG.take 3 (v := ?_) (a' := ?_) rfl (by kernel_rfl) (by kernel_rfl) (by kernel_rfl) (by kernel_rfl) (fun _ _ _ h => h) ?_ ?_ ?_
          rotate_left 2
          · intro W hW
            have hld0 := (show W.cell? ⟨q, 2, none⟩ = some (.pointer (some ⟨v, 0, none⟩)) from hW.1 2 (by show 2 < 6; decide))
            go_simp
            try with_reducible rfl
          · go_simp
            try with_reducible rfl
          refine wpG.take 4 (v := ?_) (a' := ?_) rfl (by kernel_rfl) (by kernel_rfl) (by kernel_rfl) (by kernel_rfl) (fun _ _ _ h => h) ?_ ?_ ?_
          rotate_left 2
          · intro W hW
            go_simp
            try with_reducible rfl
          · go_simp
            try with_reducible rfl
          refine wpG.take 5 (v := ?_) (a' := ?_) rfl (by kernel_rfl) (by kernel_rfl) (by kernel_rfl) (by kernel_rfl) (fun _ _ _ h => h) ?_ ?_ ?_
          rotate_left 2
          · intro W hW
            have hld0 := (show W.cell? ⟨sb, 1, none⟩ = some (.int .i64 xf) from hW.2 1 (by show 1 < 5; decide))
            have hld1 := (show W.cell? ⟨sb, 2, none⟩ = some (.int .i64 xl) from hW.2 2 (by show 2 < 5; decide))
            go_simp
            try with_reducible rfl
          · go_simp
            try with_reducible rfl
          refine wpG.alone 6 rfl (by kernel_rfl) (by kernel_rfl) HG0.out (fun K hK => ?_)
          go_simp
          go_at_call 14
          refine (viewRead_sep HSD 1 2 5 6 (by decide) rfl rfl rfl rfl HI.out.good (by omega) HI.out.bufg HI.out.setg (by have := HI.out.s64; omega) (by have := HML.out; omega) ⟨xf, xl⟩ HIF.out HIL.out).mono ?_
          rintro r w5 (⟨hno, rfl, HS5⟩ | ⟨hyes, g5, o5, c5, rfl, HS5⟩)
          case inl =>
            obtain ⟨code, hcode⟩ : ∃ code, readCode blocks S ⟨xf, xl⟩ = code := ⟨_, rfl⟩
            rw [hcode] at hno
            have HNO := Lib.hid hno
            have HCODE := Lib.hid hcode
            have hcc : (code != code) = false := by simp
            rw [HCODE.out]
            clear hno hcode
            try go_simp
            refine hK _ _ ?_
            clear hK K
            refine wpG.take 7 (v := ?_) (a' := ?_) rfl (by kernel_rfl) (by kernel_rfl) (by kernel_rfl) (by kernel_rfl) (fun _ _ _ h => h) ?_ ?_ ?_
            rotate_left 2
            · intro W hW
              go_simp
              try with_reducible rfl
            · go_simp
              try with_reducible rfl
            refine wpG.take 8 (v := ?_) (a' := ?_) rfl (by kernel_rfl) (by kernel_rfl) (by kernel_rfl) (by kernel_rfl) (fun _ _ _ h => h) ?_ ?_ ?_
            rotate_left 2
            · intro W hW
              go_simp
              try with_reducible rfl
            · go_simp
              try with_reducible rfl
            refine wpG.take 9 (v := ?_) (a' := ?_) rfl (by kernel_rfl) (by kernel_rfl) (by kernel_rfl) (by kernel_rfl) (fun _ _ _ h => h) ?_ ?_ ?_
            rotate_left 2
            · intro W hW
              go_simp
              try with_reducible rfl
            · go_simp
              try with_reducible rfl
            refine wpG.take 10 (v := ?_) (a' := ?_) rfl (by kernel_rfl) (by kernel_rfl) (by kernel_rfl) (by kernel_rfl) (fun _ _ _ h => h) ?_ ?_ ?_
            rotate_left 2
            · intro W hW
              go_simp
              try with_reducible rfl
            · go_simp
              try with_reducible rfl
            refine wpG.take 11 (v := ?_) (a' := ?_) rfl (by kernel_rfl) (by kernel_rfl) (by kernel_rfl) (by kernel_rfl) (fun _ _ _ h => h) ?_ ?_ ?_
            rotate_left 2
            · intro W hW
              go_simp
              try with_reducible rfl
            · go_simp
              try with_reducible rfl
            refine wpG.done (by kernel_rfl) (gw_of HS5.out 8 9 rfl rfl : GW q sb (worldP m b v x y z) (stepP 1 xf xl (.slice pp ps.length pc) nn) _) ?_
            have HG5 := Lib.hid (gw_of HS5.out 8 9 rfl rfl : GW q sb (worldP m b v x y z) (stepP 1 xf xl (.slice pp ps.length pc) nn) _)
            have HSE : Hid (Sep w1 _ w5.drew) := Lib.hid (HS5.out.up (below_drewN (Below.refl _ _) 1))
            go_wp2_with fail
            refine wp_regionG (fun W => GW q sb (worldP m b v x y z) (stepP 1 xf xl (.slice pp ps.length pc) nn) W) (n := 12) (by kernel_rfl) (by kernel_rfl) ?_
            refine wpG.take 0 (v := ?_) (a' := ?_) rfl (by kernel_rfl) (by kernel_rfl) (by kernel_rfl) (by kernel_rfl) (fun _ _ _ h => h) ?_ ?_ ?_
            rotate_left 2
            · intro W hW
              go_simp
              try with_reducible rfl
            · go_simp
              try with_reducible rfl
            refine wpG.take 1 (v := ?_) (a' := ?_) rfl (by kernel_rfl) (by kernel_rfl) (by kernel_rfl) (by kernel_rfl) (fun _ _ _ h => h) ?_ ?_ ?_
            rotate_left 2
            · intro W hW
              go_simp
              try with_reducible rfl
            · go_simp
              try with_reducible rfl
            refine wpG.take 2 (v := ?_) (a' := ?_) rfl (by kernel_rfl) (by kernel_rfl) (by kernel_rfl) (by kernel_rfl) (fun _ _ _ h => h) ?_ ?_ ?_
            rotate_left 2
            · intro W hW
              go_simp
              try with_reducible rfl
            · go_simp
              try with_reducible rfl
            refine wpG.take 3 (v := ?_) (a' := ?_) rfl (by kernel_rfl) (by kernel_rfl) (by kernel_rfl) (by kernel_rfl) (fun _ _ _ h => h) ?_ ?_ ?_
            rotate_left 2
            · intro W hW
              have hld0 := (show W.cell? ⟨q, 5, none⟩ = some (.pointer (some ⟨z, 0, none⟩)) from hW.1 5 (by show 5 < 6; decide))
              go_simp
              try with_reducible rfl
            · go_simp
              try with_reducible rfl
            refine wpG.take 4 (v := ?_) (a' := ?_) rfl (by kernel_rfl) (by kernel_rfl) (by kernel_rfl) (by kernel_rfl) (fun _ _ _ h => h) ?_ ?_ ?_
            rotate_left 2
            · intro W hW
              go_simp
              try with_reducible rfl
            · go_simp
              try with_reducible rfl
            refine wpG.take 5 (v := ?_) (a' := ?_) rfl (by kernel_rfl) (by kernel_rfl) (by kernel_rfl) (by kernel_rfl) (fun _ _ _ h => h) ?_ ?_ ?_
            rotate_left 2
            · intro W hW
              have hld0 := (show W.cell? ⟨sb, 1, none⟩ = some (.int .i64 xf) from hW.2 1 (by show 1 < 5; decide))
              have hld1 := (show W.cell? ⟨sb, 2, none⟩ = some (.int .i64 xl) from hW.2 2 (by show 2 < 5; decide))
              go_simp
              try with_reducible rfl
            · go_simp
              try with_reducible rfl
            refine wpG.alone 6 rfl (by kernel_rfl) (by kernel_rfl) HG5.out (fun K hK => ?_)
            go_simp
            go_at_call 26
            refine (refRead_sep HSE 3 4 7 (by decide) rfl rfl rfl (by omega) HI.out.setg (by have := HI.out.s64; omega) (by have := HML.out; omega) (by have := HML.out; omega) (by have := HML.out; omega) (fun q => HI.out.b40 at_ q) ⟨xf, xl⟩ HIF.out HIL.out).mono ?_
            rintro r w6 (⟨_, rfl, HS6⟩ | ⟨hy, _⟩)
            case inr => exact absurd (HCODE.out.symm.trans hy) HNO.out
            rw [HCODE.out]
            try go_simp
            refine hK _ _ ?_
            clear hK K
            refine wpG.take 7 (v := ?_) (a' := ?_) rfl (by kernel_rfl) (by kernel_rfl) (by kernel_rfl) (by kernel_rfl) (fun _ _ _ h => h) ?_ ?_ ?_
            rotate_left 2
            · intro W hW
              go_simp
              try with_reducible rfl
            · go_simp
              try with_reducible rfl
            refine wpG.take 8 (v := ?_) (a' := ?_) rfl (by kernel_rfl) (by kernel_rfl) (by kernel_rfl) (by kernel_rfl) (fun _ _ _ h => h) ?_ ?_ ?_
            rotate_left 2
            · intro W hW
              go_simp
              try with_reducible rfl
            · go_simp
              try with_reducible rfl
            refine wpG.take 9 (v := ?_) (a' := ?_) rfl (by kernel_rfl) (by kernel_rfl) (by kernel_rfl) (by kernel_rfl) (fun _ _ _ h => h) ?_ ?_ ?_
            rotate_left 2
            · intro W hW
              go_simp
              try with_reducible rfl
            · go_simp
              try with_reducible rfl
            refine wpG.take 10 (v := ?_) (a' := ?_) rfl (by kernel_rfl) (by kernel_rfl) (by kernel_rfl) (by kernel_rfl) (fun _ _ _ h => h) ?_ ?_ ?_
            rotate_left 2
            · intro W hW
              go_simp
              try with_reducible rfl
            · go_simp
              try with_reducible rfl
            refine wpG.take 11 (v := ?_) (a' := ?_) rfl (by kernel_rfl) (by kernel_rfl) (by kernel_rfl) (by kernel_rfl) (fun _ _ _ h => h) ?_ ?_ ?_
            rotate_left 2
            · intro W hW
              go_simp
              try with_reducible rfl
            · go_simp
              try with_reducible rfl
            refine wpG.done (by kernel_rfl) (gw_of HS6.out 8 9 rfl rfl : GW q sb (worldP m b v x y z) (stepP 1 xf xl (.slice pp ps.length pc) nn) _) ?_
            go_wp2_with fail
            refine (bytes_any (fun _ => True) _ _ [] [] _ SlAt.nil SlAt.nil).mono ?_
            rintro e w7 ⟨rfl, hb7⟩
            rw [show (([] : Bytes) == []) = true by simp]
            have hS7 := (HS6.out.up hb7).take 9
            have HS7 := Lib.hid hS7
            have HB7 := Lib.hid hb7
            clear hS7 hb7
            go_wp2_with fail
            go_roundw
            case rel => exact ⟨k + 1, last, vs, B, M, rb, S, R, by omega, by go_num, HS7, Lib.hid (HI.out.skip HTK.out)⟩
            case measure => simp [intOf]; omega
          case inr =>
            have HYES := Lib.hid hyes
            obtain ⟨d, hd⟩ : ∃ d, rowsF (fun i : Nat => blkV vs B at_ ((⟨xf, xl⟩ : Ext).first + i)) (⟨xf, xl⟩ : Ext).len.toNat = d := ⟨_, rfl⟩
            have hrr := HI.out.rows at_ (⟨xf, xl⟩ : Ext).first (⟨xf, xl⟩ : Ext).len.toNat
            have hrd := HI.out.reads at_ (⟨xf, xl⟩ : Ext).first (⟨xf, xl⟩ : Ext).len.toNat
            rw [hd] at hrr HS5
            have HS5' : Hid (Sep w1 (playsL15 w1 m b s v x y z q blocks at_ last last vs B M rb (addNext 64 S [⟨xf, xl⟩]) (R ++ readsV vs B at_ (⟨xf, xl⟩ : Ext).first (⟨xf, xl⟩ : Ext).len.toNat) S R [BoxA sb #[.int .i64 1, .int .i64 xf, .int .i64 xl, .slice pp ps.length pc, .int .i64 nn] 46, BytesWA (.slice (some ⟨g5, o5, none⟩) (40 * (⟨xf, xl⟩ : Ext).len.toNat) c5) d]) w5) := HS5
            have HIX := Lib.hid (HI.out.read at_ hyes HTK.out)
            generalize hxl : (⟨xf, xl⟩ : Ext).len.toNat = xn at *
            generalize hR2 : R ++ readsV vs B at_ (⟨xf, xl⟩ : Ext).first xn = R2 at *
            generalize hS2 : addNext 64 S [⟨xf, xl⟩] = S2 at *
            have HRR := Lib.hid hrr
            have HRD := Lib.hid hrd
            have HD := Lib.hid hd
            have HXL := Lib.hid hxl
            have HR2 := Lib.hid hR2
            have HS2 := Lib.hid hS2
            clear hrr hrd hd hxl hR2 hS2
            clear HS5 hyes
            try go_simp
            refine hK _ _ ?_
            clear hK K
            refine wpG.take 7 (v := ?_) (a' := ?_) rfl (by kernel_rfl) (by kernel_rfl) (by kernel_rfl) (by kernel_rfl) (fun _ _ _ h => h) ?_ ?_ ?_
            rotate_left 2
            · intro W hW
              go_simp
              try with_reducible rfl
            · go_simp
              try with_reducible rfl
            refine wpG.take 8 (v := ?_) (a' := ?_) rfl (by kernel_rfl) (by kernel_rfl) (by kernel_rfl) (by kernel_rfl) (fun _ _ _ h => h) ?_ ?_ ?_
            rotate_left 2
            · intro W hW
              go_simp
              try with_reducible rfl
            · go_simp
              try with_reducible rfl
            refine wpG.take 9 (v := ?_) (a' := ?_) rfl (by kernel_rfl) (by kernel_rfl) (by kernel_rfl) (by kernel_rfl) (fun _ _ _ h => h) ?_ ?_ ?_
            rotate_left 2
            · intro W hW
              go_simp
              try with_reducible rfl
            · go_simp
              try with_reducible rfl
            refine wpG.take 10 (v := ?_) (a' := ?_) rfl (by kernel_rfl) (by kernel_rfl) (by kernel_rfl) (by kernel_rfl) (fun _ _ _ h => h) ?_ ?_ ?_
            rotate_left 2
            · intro W hW
              go_simp
              try with_reducible rfl
            · go_simp
              try with_reducible rfl
            refine wpG.take 11 (v := ?_) (a' := ?_) rfl (by kernel_rfl) (by kernel_rfl) (by kernel_rfl) (by kernel_rfl) (fun _ _ _ h => h) ?_ ?_ ?_
            rotate_left 2
            · intro W hW
              go_simp
              try with_reducible rfl
            · go_simp
              try with_reducible rfl
            refine wpG.done (by kernel_rfl) (gw_of HS5'.out 8 9 rfl rfl : GW q sb (worldP m b v x y z) (stepP 1 xf xl (.slice pp ps.length pc) nn) _) ?_
            have HG5 := Lib.hid (gw_of HS5'.out 8 9 rfl rfl : GW q sb (worldP m b v x y z) (stepP 1 xf xl (.slice pp ps.length pc) nn) _)
            have HSE : Hid (Sep w1 _ w5.drew) := Lib.hid (HS5'.out.up (below_drewN (Below.refl _ _) 1))
            go_wp2_with fail
            refine wp_regionG (fun W => GW q sb (worldP m b v x y z) (stepP 1 xf xl (.slice pp ps.length pc) nn) W) (n := 12) (by kernel_rfl) (by kernel_rfl) ?_
            refine wpG.take 0 (v := ?_) (a' := ?_) rfl (by kernel_rfl) (by kernel_rfl) (by kernel_rfl) (by kernel_rfl) (fun _ _ _ h => h) ?_ ?_ ?_
            rotate_left 2
            · intro W hW
              go_simp
              try with_reducible rfl
            · go_simp
              try with_reducible rfl
            refine wpG.take 1 (v := ?_) (a' := ?_) rfl (by kernel_rfl) (by kernel_rfl) (by kernel_rfl) (by kernel_rfl) (fun _ _ _ h => h) ?_ ?_ ?_
            rotate_left 2
            · intro W hW
              go_simp
              try with_reducible rfl
            · go_simp
              try with_reducible rfl
            refine wpG.take 2 (v := ?_) (a' := ?_) rfl (by kernel_rfl) (by kernel_rfl) (by kernel_rfl) (by kernel_rfl) (fun _ _ _ h => h) ?_ ?_ ?_
            rotate_left 2
            · intro W hW
              go_simp
              try with_reducible rfl
            · go_simp
              try with_reducible rfl
            refine wpG.take 3 (v := ?_) (a' := ?_) rfl (by kernel_rfl) (by kernel_rfl) (by kernel_rfl) (by kernel_rfl) (fun _ _ _ h => h) ?_ ?_ ?_
            rotate_left 2
            · intro W hW
              have hld0 := (show W.cell? ⟨q, 5, none⟩ = some (.pointer (some ⟨z, 0, none⟩)) from hW.1 5 (by show 5 < 6; decide))
              go_simp
              try with_reducible rfl
            · go_simp
              try with_reducible rfl
            refine wpG.take 4 (v := ?_) (a' := ?_) rfl (by kernel_rfl) (by kernel_rfl) (by kernel_rfl) (by kernel_rfl) (fun _ _ _ h => h) ?_ ?_ ?_
            rotate_left 2
            · intro W hW
              go_simp
              try with_reducible rfl
            · go_simp
              try with_reducible rfl
            refine wpG.take 5 (v := ?_) (a' := ?_) rfl (by kernel_rfl) (by kernel_rfl) (by kernel_rfl) (by kernel_rfl) (fun _ _ _ h => h) ?_ ?_ ?_
            rotate_left 2
            · intro W hW
              have hld0 := (show W.cell? ⟨sb, 1, none⟩ = some (.int .i64 xf) from hW.2 1 (by show 1 < 5; decide))
              have hld1 := (show W.cell? ⟨sb, 2, none⟩ = some (.int .i64 xl) from hW.2 2 (by show 2 < 5; decide))
              go_simp
              try with_reducible rfl
            · go_simp
              try with_reducible rfl
            refine wpG.alone 6 rfl (by kernel_rfl) (by kernel_rfl) HG5.out (fun K hK => ?_)
            go_simp
            go_at_call 26
            refine (refRead_sep HSE 3 4 7 (by decide) rfl rfl rfl (by omega) HI.out.setg (by have := HI.out.s64; omega) (by have := HML.out; omega) (by have := HML.out; omega) (by have := HML.out; omega) (fun q => HI.out.b40 at_ q) ⟨xf, xl⟩ HIF.out HIL.out).mono ?_
            rintro r w6 (⟨hn6, _⟩ | ⟨_, p6, c6, rfl, HS6⟩)
            case inl => exact absurd HYES.out hn6
            rw [HXL.out, HRR.out] at HS6 ⊢
            rw [HRD.out, HR2.out, HS2.out] at HS6
            have HS6' : Hid (Sep w1 (playsL15 w1 m b s v x y z q blocks at_ last last vs B M rb S2 R2 S2 R2 [BoxA sb #[.int .i64 1, .int .i64 xf, .int .i64 xl, .slice pp ps.length pc, .int .i64 nn] 46, BytesWA (.slice (some ⟨g5, o5, none⟩) (40 * xn) c5) d, ByA (.slice p6 d.length c6) d]) w6) := HS6
            clear HS6 HS5'
            try go_simp
            refine hK _ _ ?_
            clear hK K
            refine wpG.take 7 (v := ?_) (a' := ?_) rfl (by kernel_rfl) (by kernel_rfl) (by kernel_rfl) (by kernel_rfl) (fun _ _ _ h => h) ?_ ?_ ?_
            rotate_left 2
            · intro W hW
              go_simp
              try with_reducible rfl
            · go_simp
              try with_reducible rfl
            refine wpG.take 8 (v := ?_) (a' := ?_) rfl (by kernel_rfl) (by kernel_rfl) (by kernel_rfl) (by kernel_rfl) (fun _ _ _ h => h) ?_ ?_ ?_
            rotate_left 2
            · intro W hW
              go_simp
              try with_reducible rfl
            · go_simp
              try with_reducible rfl
            refine wpG.take 9 (v := ?_) (a' := ?_) rfl (by kernel_rfl) (by kernel_rfl) (by kernel_rfl) (by kernel_rfl) (fun _ _ _ h => h) ?_ ?_ ?_
            rotate_left 2
            · intro W hW
              go_simp
              try with_reducible rfl
            · go_simp
              try with_reducible rfl
            refine wpG.take 10 (v := ?_) (a' := ?_) rfl (by kernel_rfl) (by kernel_rfl) (by kernel_rfl) (by kernel_rfl) (fun _ _ _ h => h) ?_ ?_ ?_
            rotate_left 2
            · intro W hW
              go_simp
              try with_reducible rfl
            · go_simp
              try with_reducible rfl
            refine wpG.take 11 (v := ?_) (a' := ?_) rfl (by kernel_rfl) (by kernel_rfl) (by kernel_rfl) (by kernel_rfl) (fun _ _ _ h => h) ?_ ?_ ?_
            rotate_left 2
            · intro W hW
              go_simp
              try with_reducible rfl
            · go_simp
              try with_reducible rfl
            refine wpG.done (by kernel_rfl) (gw_of HS6'.out 8 9 rfl rfl : GW q sb (worldP m b v x y z) (stepP 1 xf xl (.slice pp ps.length pc) nn) _) ?_
            obtain ⟨FA, hFA, _⟩ := HS6'.out.get 10 rfl
            obtain ⟨FB, hFB, _⟩ := HS6'.out.get 11 rfl
            have hbA := BytesW.bytes (hFA : BytesW FA w6 (.slice (some ⟨g5, o5, none⟩) (40 * xn) c5) d)
            have hbB : BytesAt FB w6 (.slice p6 d.length c6) d := hFB
            have HFA := Lib.hid hFA
            have HFB := Lib.hid hFB
            have HBA := Lib.hid hbA
            have HBB := Lib.hid hbB
            clear hFA hFB hbA hbB
            go_wp2_with fail
            refine (bytes_any (fun _ => True) _ _ d d _ (BytesAt.mono HBA.out fun _ _ => trivial) (BytesAt.mono HBB.out fun _ _ => trivial)).mono ?_
            rintro e w7 ⟨rfl, hb7⟩
            rw [show (d == d) = true by simp]
            have hS7 := (HS6'.out.up hb7).take 9
            have HS7 := Lib.hid hS7
            have HB7 := Lib.hid hb7
            clear hS7 hb7
            go_wp2_with fail
            go_roundw
            case rel => exact ⟨k + 1, last, vs, B, M, rb, S2, R2, by omega, by go_num, HS7, HIX⟩
            case measure => simp [intOf]; omega
        case inr.inl =>
          go_wp2_with fail
          generalize hW0 : wr.alloc (.cells #[.int .i64 2, .int .i64 xf, .int .i64 xl, .slice pp ps.length pc, .int .i64 nn] 46) = W0 at *
          obtain ⟨sb, hsb⟩ : ∃ sb, wr.heap.size = sb := ⟨_, rfl⟩
          rw [hsb] at HSA ⊢
          clear hW0 ck cf cl cp cn HS
          have HG0 := Lib.hid (gw_of HSA.out 8 9 rfl rfl : GW q sb (worldP m b v x y z) (stepP 2 xf xl (.slice pp ps.length pc) nn) _)
          have HSD : Hid (Sep w1 _ W0.drew) := Lib.hid (HSA.out.up (below_drewN (Below.refl _ _) 1))
          refine wp_regionG (fun W => GW q sb (worldP m b v x y z) (stepP 2 xf xl (.slice pp ps.length pc) nn) W) (n := 7) (by kernel_rfl) (by kernel_rfl) ?_
          refine wpG.take 0 (v := ?_) (a' := ?_) rfl (by kernel_rfl) (by kernel_rfl) (by kernel_rfl) (by kernel_rfl) (fun _ _ _ h => h) ?_ ?_ ?_
          rotate_left 2
          · intro W hW
            go_simp
            try with_reducible rfl
          · go_simp
            try with_reducible rfl
          refine wpG.take 1 (v := ?_) (a' := ?_) rfl (by kernel_rfl) (by kernel_rfl) (by kernel_rfl) (by kernel_rfl) (fun _ _ _ h => h) ?_ ?_ ?_
          rotate_left 2
          · intro W hW
            go_simp
            try with_reducible rfl
          · go_simp
            try with_reducible rfl
          refine wpG.take 2 (v := ?_) (a' := ?_) rfl (by kernel_rfl) (by kernel_rfl) (by kernel_rfl) (by kernel_rfl) (fun _ _ _ h => h) ?_ ?_ ?_
          rotate_left 2
          · intro W hW
            go_simp
            try with_reducible rfl
          · go_simp
            try with_reducible rfl
          refine wpG.take 3 (v := ?_) (a' := ?_) rfl (by kernel_rfl) (by kernel_rfl) (by kernel_rfl) (by kernel_rfl) (fun _ _ _ h => h) ?_ ?_ ?_
          rotate_left 2
          · intro W hW
            have hld0 := (show W.cell? ⟨q, 1, none⟩ = some (.pointer (some ⟨b, 0, none⟩)) from hW.1 1 (by show 1 < 6; decide))
            go_simp
            try with_reducible rfl
          · go_simp
            try with_reducible rfl
          refine wpG.take 4 (v := ?_) (a' := ?_) rfl (by kernel_rfl) (by kernel_rfl) (by kernel_rfl) (by kernel_rfl) (fun _ _ _ h => h) ?_ ?_ ?_
          rotate_left 2
          · intro W hW
            go_simp
            try with_reducible rfl
          · go_simp
            try with_reducible rfl
          refine wpG.take 5 (v := ?_) (a' := ?_) rfl (by kernel_rfl) (by kernel_rfl) (by kernel_rfl) (by kernel_rfl) (fun _ _ _ h => h) ?_ ?_ ?_
          rotate_left 2
          · intro W hW
            have hld0 := (show W.cell? ⟨sb, 3, none⟩ = some (.slice pp ps.length pc) from hW.2 3 (by show 3 < 5; decide))
            go_simp
            try with_reducible rfl
          · go_simp
            try with_reducible rfl
          refine wpG.alone 6 rfl (by kernel_rfl) (by kernel_rfl) HG0.out (fun K hK => ?_)
          go_simp
          go_at_call 25
          refine (bufWrite_sep HSD.out 2 (lv := .slice pp ps.length pc) rfl ps (fun G hG => (PutsAt.same HP.out (HSD.out.old.block · ·)).mono (rest_old (by decide) hG)) (by have := HML.out; omega) (by have := HPL.out; omega)).mono ?_
          rintro r w5 ⟨rfl, HS5⟩
          have HIX := Lib.hid (HI.out.write ps HTK.out)
          have HS5' : Hid (Sep w1 (playsL15 w1 m b s v x y z q blocks at_ last last vs (bufNext blocks 16 B ps) M rb S R S R [BoxA sb #[.int .i64 2, .int .i64 xf, .int .i64 xl, .slice pp ps.length pc, .int .i64 nn] 46]) w5) := HS5
          generalize bufNext blocks 16 B ps = B2 at *
          generalize bufCode blocks 16 B ps = cb at *
          clear HS5
          try go_simp
          refine hK _ _ ?_
          clear hK K
          refine wpG.done (by kernel_rfl) (gw_of HS5'.out 8 9 rfl rfl : GW q sb (worldP m b v x y z) (stepP 2 xf xl (.slice pp ps.length pc) nn) _) ?_
          have HG5 := Lib.hid (gw_of HS5'.out 8 9 rfl rfl : GW q sb (worldP m b v x y z) (stepP 2 xf xl (.slice pp ps.length pc) nn) _)
          have HSE : Hid (Sep w1 _ w5.drew) := Lib.hid (HS5'.out.up (below_drewN (Below.refl _ _) 1))
          go_wp2_with fail
          refine wp_regionG (fun W => GW q sb (worldP m b v x y z) (stepP 2 xf xl (.slice pp ps.length pc) nn) W) (n := 7) (by kernel_rfl) (by kernel_rfl) ?_
          refine wpG.take 0 (v := ?_) (a' := ?_) rfl (by kernel_rfl) (by kernel_rfl) (by kernel_rfl) (by kernel_rfl) (fun _ _ _ h => h) ?_ ?_ ?_
          rotate_left 2
          · intro W hW
            go_simp
            try with_reducible rfl
          · go_simp
            try with_reducible rfl
          refine wpG.take 1 (v := ?_) (a' := ?_) rfl (by kernel_rfl) (by kernel_rfl) (by kernel_rfl) (by kernel_rfl) (fun _ _ _ h => h) ?_ ?_ ?_
          rotate_left 2
          · intro W hW
            go_simp
            try with_reducible rfl
          · go_simp
            try with_reducible rfl
          refine wpG.take 2 (v := ?_) (a' := ?_) rfl (by kernel_rfl) (by kernel_rfl) (by kernel_rfl) (by kernel_rfl) (fun _ _ _ h => h) ?_ ?_ ?_
          rotate_left 2
          · intro W hW
            go_simp
            try with_reducible rfl
          · go_simp
            try with_reducible rfl
          refine wpG.take 3 (v := ?_) (a' := ?_) rfl (by kernel_rfl) (by kernel_rfl) (by kernel_rfl) (by kernel_rfl) (fun _ _ _ h => h) ?_ ?_ ?_
          rotate_left 2
          · intro W hW
            have hld0 := (show W.cell? ⟨q, 4, none⟩ = some (.pointer (some ⟨y, 0, none⟩)) from hW.1 4 (by show 4 < 6; decide))
            go_simp
            try with_reducible rfl
          · go_simp
            try with_reducible rfl
          refine wpG.take 4 (v := ?_) (a' := ?_) rfl (by kernel_rfl) (by kernel_rfl) (by kernel_rfl) (by kernel_rfl) (fun _ _ _ h => h) ?_ ?_ ?_
          rotate_left 2
          · intro W hW
            go_simp
            try with_reducible rfl
          · go_simp
            try with_reducible rfl
          refine wpG.take 5 (v := ?_) (a' := ?_) rfl (by kernel_rfl) (by kernel_rfl) (by kernel_rfl) (by kernel_rfl) (fun _ _ _ h => h) ?_ ?_ ?_
          rotate_left 2
          · intro W hW
            have hld0 := (show W.cell? ⟨sb, 3, none⟩ = some (.slice pp ps.length pc) from hW.2 3 (by show 3 < 5; decide))
            go_simp
            try with_reducible rfl
          · go_simp
            try with_reducible rfl
          refine wpG.alone 6 rfl (by kernel_rfl) (by kernel_rfl) HG5.out (fun K hK => ?_)
          go_simp
          go_at_call 27
          refine (refBufWriteV_sep HSE.out 4 (lv := .slice pp ps.length pc) rfl ps (fun G hG => (PutsAt.same HP.out (HSE.out.old.block · ·)).mono (rest_old (by decide) hG)) (by have := HML.out; omega) (by have := HPL.out; omega)).mono ?_
          rintro r w6 ⟨rfl, HS6⟩
          have HS6' : Hid (Sep w1 (playsL15 w1 m b s v x y z q blocks at_ last last vs B2 M (rbNext blocks 16 rb ps) S R S R [BoxA sb #[.int .i64 2, .int .i64 xf, .int .i64 xl, .slice pp ps.length pc, .int .i64 nn] 46]) w6) := HS6
          generalize rbNext blocks 16 rb ps = rb2 at *
          generalize rbCode blocks 16 rb ps = cb2 at *
          clear HS6 HS5'
          try go_simp
          refine hK _ _ ?_
          clear hK K
          refine wpG.done (by kernel_rfl) (gw_of HS6'.out 8 9 rfl rfl : GW q sb (worldP m b v x y z) (stepP 2 xf xl (.slice pp ps.length pc) nn) _) ?_
          have hS7 := HS6'.out.take 9
          have HS7 := Lib.hid hS7
          clear hS7
          go_wp2_with fail
          go_roundw
          case rel => exact ⟨k + 1, last, vs, B2, M, rb2, S, R, by omega, by go_num, HS7, HIX⟩
          case measure => simp [intOf]; omega
        case inr.inr.inl =>
          go_wp2_with fail
          generalize hW0 : wr.alloc (.cells #[.int .i64 3, .int .i64 xf, .int .i64 xl, .slice pp ps.length pc, .int .i64 nn] 46) = W0 at *
          obtain ⟨sb, hsb⟩ : ∃ sb, wr.heap.size = sb := ⟨_, rfl⟩
          rw [hsb] at HSA ⊢
          clear hW0 ck cf cl cp cn HS
          have HG0 := Lib.hid (gw_of HSA.out 8 9 rfl rfl : GW q sb (worldP m b v x y z) (stepP 3 xf xl (.slice pp ps.length pc) nn) _)
          have HSD : Hid (Sep w1 _ W0.drew) := Lib.hid (HSA.out.up (below_drewN (Below.refl _ _) 1))
          refine wp_regionG (fun W => GW q sb (worldP m b v x y z) (stepP 3 xf xl (.slice pp ps.length pc) nn) W) (n := 10) (by kernel_rfl) (by kernel_rfl) ?_
          refine wpG.take 0 (v := ?_) (a' := ?_) rfl (by kernel_rfl) (by kernel_rfl) (by kernel_rfl) (by kernel_rfl) (fun _ _ _ h => h) ?_ ?_ ?_
          rotate_left 2
          · intro W hW
            go_simp
            try with_reducible rfl
          · go_simp
            try with_reducible rfl
          refine wpG.take 1 (v := ?_) (a' := ?_) rfl (by kernel_rfl) (by kernel_rfl) (by kernel_rfl) (by kernel_rfl) (fun _ _ _ h => h) ?_ ?_ ?_
          rotate_left 2
          · intro W hW
            go_simp
            try with_reducible rfl
          · go_simp
            try with_reducible rfl
          refine wpG.take 2 (v := ?_) (a' := ?_) rfl (by kernel_rfl) (by kernel_rfl) (by kernel_rfl) (by kernel_rfl) (fun _ _ _ h => h) ?_ ?_ ?_
          rotate_left 2
          · intro W hW
            go_simp
            try with_reducible rfl
          · go_simp
            try with_reducible rfl
          refine wpG.take 3 (v := ?_) (a' := ?_) rfl (by kernel_rfl) (by kernel_rfl) (by kernel_rfl) (by kernel_rfl) (fun _ _ _ h => h) ?_ ?_ ?_
          rotate_left 2
          · intro W hW
            have hld0 := (show W.cell? ⟨q, 0, none⟩ = some (.pointer (some ⟨m, 0, none⟩)) from hW.1 0 (by show 0 < 6; decide))
            go_simp
            try with_reducible rfl
          · go_simp
            try with_reducible rfl
          refine wpG.take 4 (v := ?_) (a' := ?_) rfl (by kernel_rfl) (by kernel_rfl) (by kernel_rfl) (by kernel_rfl) (fun _ _ _ h => h) ?_ ?_ ?_
          rotate_left 2
          · intro W hW
            go_simp
            try with_reducible rfl
          · go_simp
            try with_reducible rfl
          refine wpG.take 5 (v := ?_) (a' := ?_) rfl (by kernel_rfl) (by kernel_rfl) (by kernel_rfl) (by kernel_rfl) (fun _ _ _ h => h) ?_ ?_ ?_
          rotate_left 2
          · intro W hW
            have hld0 := (show W.cell? ⟨sb, 4, none⟩ = some (.int .i64 nn) from hW.2 4 (by show 4 < 5; decide))
            go_simp
            try with_reducible rfl
          · go_simp
            try with_reducible rfl
          refine wpG.take 6 (v := ?_) (a' := ?_) rfl (by kernel_rfl) (by kernel_rfl) (by kernel_rfl) (by kernel_rfl) (fun _ _ _ h => h) ?_ ?_ ?_
          rotate_left 2
          · intro W hW
            go_simp
            try with_reducible rfl
          · go_simp
            try with_reducible rfl
          refine wpG.take 7 (v := ?_) (a' := ?_) rfl (by kernel_rfl) (by kernel_rfl) (by kernel_rfl) (by kernel_rfl) (fun _ _ _ h => h) ?_ ?_ ?_
          rotate_left 2
          · intro W hW
            have hld0 := (show W.cell? ⟨sb, 3, none⟩ = some (.slice pp ps.length pc) from hW.2 3 (by show 3 < 5; decide))
            go_simp
            try with_reducible rfl
          · go_simp
            try with_reducible rfl
          refine wpG.take 8 (v := ?_) (a' := ?_) rfl (by kernel_rfl) (by kernel_rfl) (by kernel_rfl) (by kernel_rfl) (fun _ _ _ h => h) ?_ ?_ ?_
          rotate_left 2
          · intro W hW
            go_simp
            try with_reducible rfl
          · go_simp
            try with_reducible rfl
          refine wpG.alone 9 rfl (by kernel_rfl) (by kernel_rfl) HG0.out (fun K hK => ?_)
          go_simp
          go_at_call 17
          refine (extApply_sep HSD.out 1 (tv := .agg #[.int .i64 nn, .slice pp ps.length pc]) rfl (by omega) ⟨nn, ps⟩ (fun G hG => ⟨_, rfl, HIN.out, (PutsAt.same HP.out (HSD.out.old.block · ·)).mono (rest_old (by decide) hG)⟩) (fun key l' h => by have := HI.out.vlen key l' h; have := ssz15_le (l := l) k; omega) (by have := HPL.out; simp only; omega)).mono ?_
          rintro r w5 ⟨rfl, hS5⟩
          have HIX := Lib.hid (HI.out.apply ⟨nn, ps⟩ HST.out)
          have HS5' : Hid (Sep w1 (playsL15 w1 m b s v x y z q blocks at_ (applyLast blocks last ⟨nn, ps⟩) last (applyNext blocks last vs ⟨nn, ps⟩) B M rb S R S R [BoxA sb #[.int .i64 3, .int .i64 xf, .int .i64 xl, .slice pp ps.length pc, .int .i64 nn] 46]) w5) := hS5
          generalize applyNext blocks last vs ⟨nn, ps⟩ = vs2 at *
          obtain ⟨cb, hcb⟩ : ∃ cb, applyCode blocks last ⟨nn, ps⟩ = cb := ⟨_, rfl⟩
          rw [hcb]
          clear hS5
          try go_simp
          refine hK _ _ ?_
          clear hK K
          refine wpG.done (by kernel_rfl) (gw_of HS5'.out 8 9 rfl rfl : GW q sb (worldP m b v x y z) (stepP 3 xf xl (.slice pp ps.length pc) nn) _) ?_
          have HG5 := Lib.hid (gw_of HS5'.out 8 9 rfl rfl : GW q sb (worldP m b v x y z) (stepP 3 xf xl (.slice pp ps.length pc) nn) _)
          have HSE : Hid (Sep w1 _ w5.drew) := Lib.hid (HS5'.out.up (below_drewN (Below.refl _ _) 1))
          have HCB := Lib.hid hcb
          clear hcb
          go_wp2_with fail
          refine wp_regionG (fun W => GW q sb (worldP m b v x y z) (stepP 3 xf xl (.slice pp ps.length pc) nn) W) (n := 10) (by kernel_rfl) (by kernel_rfl) ?_
          refine wpG.take 0 (v := ?_) (a' := ?_) rfl (by kernel_rfl) (by kernel_rfl) (by kernel_rfl) (by kernel_rfl) (fun _ _ _ h => h) ?_ ?_ ?_
          rotate_left 2
          · intro W hW
            go_simp
            try with_reducible rfl
          · go_simp
            try with_reducible rfl
          refine wpG.take 1 (v := ?_) (a' := ?_) rfl (by kernel_rfl) (by kernel_rfl) (by kernel_rfl) (by kernel_rfl) (fun _ _ _ h => h) ?_ ?_ ?_
          rotate_left 2
          · intro W hW
            go_simp
            try with_reducible rfl
          · go_simp
            try with_reducible rfl
          refine wpG.take 2 (v := ?_) (a' := ?_) rfl (by kernel_rfl) (by kernel_rfl) (by kernel_rfl) (by kernel_rfl) (fun _ _ _ h => h) ?_ ?_ ?_
          rotate_left 2
          · intro W hW
            go_simp
            try with_reducible rfl
          · go_simp
            try with_reducible rfl
          refine wpG.take 3 (v := ?_) (a' := ?_) rfl (by kernel_rfl) (by kernel_rfl) (by kernel_rfl) (by kernel_rfl) (fun _ _ _ h => h) ?_ ?_ ?_
          rotate_left 2
          · intro W hW
            have hld0 := (show W.cell? ⟨q, 3, none⟩ = some (.pointer (some ⟨x, 0, none⟩)) from hW.1 3 (by show 3 < 6; decide))
            go_simp
            try with_reducible rfl
          · go_simp
            try with_reducible rfl
          refine wpG.take 4 (v := ?_) (a' := ?_) rfl (by kernel_rfl) (by kernel_rfl) (by kernel_rfl) (by kernel_rfl) (fun _ _ _ h => h) ?_ ?_ ?_
          rotate_left 2
          · intro W hW
            go_simp
            try with_reducible rfl
          · go_simp
            try with_reducible rfl
          refine wpG.take 5 (v := ?_) (a' := ?_) rfl (by kernel_rfl) (by kernel_rfl) (by kernel_rfl) (by kernel_rfl) (fun _ _ _ h => h) ?_ ?_ ?_
          rotate_left 2
          · intro W hW
            have hld0 := (show W.cell? ⟨sb, 4, none⟩ = some (.int .i64 nn) from hW.2 4 (by show 4 < 5; decide))
            go_simp
            try with_reducible rfl
          · go_simp
            try with_reducible rfl
          refine wpG.take 6 (v := ?_) (a' := ?_) rfl (by kernel_rfl) (by kernel_rfl) (by kernel_rfl) (by kernel_rfl) (fun _ _ _ h => h) ?_ ?_ ?_
          rotate_left 2
          · intro W hW
            go_simp
            try with_reducible rfl
          · go_simp
            try with_reducible rfl
          refine wpG.take 7 (v := ?_) (a' := ?_) rfl (by kernel_rfl) (by kernel_rfl) (by kernel_rfl) (by kernel_rfl) (fun _ _ _ h => h) ?_ ?_ ?_
          rotate_left 2
          · intro W hW
            have hld0 := (show W.cell? ⟨sb, 3, none⟩ = some (.slice pp ps.length pc) from hW.2 3 (by show 3 < 5; decide))
            go_simp
            try with_reducible rfl
          · go_simp
            try with_reducible rfl
          refine wpG.take 8 (v := ?_) (a' := ?_) rfl (by kernel_rfl) (by kernel_rfl) (by kernel_rfl) (by kernel_rfl) (fun _ _ _ h => h) ?_ ?_ ?_
          rotate_left 2
          · intro W hW
            go_simp
            try with_reducible rfl
          · go_simp
            try with_reducible rfl
          refine wpG.alone 9 rfl (by kernel_rfl) (by kernel_rfl) HG5.out (fun K hK => ?_)
          go_simp
          go_at_call 28
          refine (refMapApply_sep HSE 3 (tv := .agg #[.int .i64 nn, .slice pp ps.length pc]) rfl ⟨nn, ps⟩ (fun G hG => ⟨_, rfl, HIN.out, (PutsAt.same HP.out (HSE.out.old.block · ·)).mono (rest_old (by decide) hG)⟩) (by have := HML.out; omega) (by have := HPL.out; simp only; omega)).mono ?_
          rintro r w6 ⟨rfl, HS6⟩
          rw [HCB.out]
          have HS6' : Hid (Sep w1 (playsL15 w1 m b s v x y z q blocks at_ (applyLast blocks last ⟨nn, ps⟩) (applyLast blocks last ⟨nn, ps⟩) vs2 B (if applyCode blocks last ⟨nn, ps⟩ = 0 then mergeV (⟨nn, ps⟩ : Tx).time (⟨nn, ps⟩ : Tx).puts M else M) rb S R S R [BoxA sb #[.int .i64 3, .int .i64 xf, .int .i64 xl, .slice pp ps.length pc, .int .i64 nn] 46]) w6) := HS6
          generalize (if applyCode blocks last ⟨nn, ps⟩ = 0 then mergeV (⟨nn, ps⟩ : Tx).time (⟨nn, ps⟩ : Tx).puts M else M) = M2 at *
          generalize applyLast blocks last ⟨nn, ps⟩ = last2 at *
          clear HS6 HS5'
          try go_simp
          refine hK _ _ ?_
          clear hK K
          refine wpG.done (by kernel_rfl) (gw_of HS6'.out 8 9 rfl rfl : GW q sb (worldP m b v x y z) (stepP 3 xf xl (.slice pp ps.length pc) nn) _) ?_
          have hS7 := HS6'.out.take 9
          have HS7 := Lib.hid hS7
          clear hS7
          go_wp2_with fail
          go_roundw
          case rel => exact ⟨k + 1, last2, vs2, B, M2, rb, S, R, by omega, by go_num, HS7, HIX⟩
          case measure => simp [intOf]; omega
        case inr.inr.inr =>
          have k1 : (kd == 1) = false := by rw [beq_eq_false_iff_ne]; exact n1
          have k2 : (kd == 2) = false := by rw [beq_eq_false_iff_ne]; exact n2
          have k3 : (kd == 3) = false := by rw [beq_eq_false_iff_ne]; exact n3
          have HN1 := Lib.hid n1
          have HN2 := Lib.hid n2
          have HN3 := Lib.hid n3
          clear n1 n2 n3
          have hS7 := HSA.out.take 9
          have HS7 := Lib.hid hS7
          clear hS7
          go_wp2_with fail
          go_roundw
          case rel => exact ⟨k + 1, last, vs, B, M, rb, S, R, by omega, by go_num, HS7, Lib.hid (HI.out.skip HTK.out)⟩
          case measure => simp [intOf]; omega
      case neg =>
        have hki : ¬ (k : Int) < (l.length : Int) := by omega
        obtain ⟨W4, rfl⟩ : ∃ W4 : World, W4 = wr := ⟨_, rfl⟩
        have hq2 : W4.cell? ⟨q, 2, none⟩ = some (.pointer (some ⟨v, 0, none⟩)) := fresh_cells HS.out 8 rfl 2 (by simp [worldP])
        go_wp2_with fail
        refine (viewReads_sep HS 6 rfl (fun x hx => by rw [HI.out.r40 x hx]; omega) (by have := HML.out; omega)).mono ?_
        rintro e w5 ⟨rp, rc, rfl, HR5, HB5⟩
        have HS5 := Lib.hid (HS.out.up HB5.out)
        have hq25 := cell_up HB5.out hq2
        clear hq2 HS
        go_wp2_with fail
        refine (viewSet_sep HS5 6 5 rfl rfl HI.out.setg (HI.out.inb.all (by omega)) HI.out.s64).mono ?_
        rintro e w6 ⟨sn, rfl, HB6, HS6⟩
        have HR6 : Hid (ReadsAt (fun _ => True) w6 (.slice rp R.length rc) R) := Lib.hid (ReadsAt.up (SlAt.mono HR5.out (fun _ _ => trivial) (fun _ _ _ ⟨h1, h2, ⟨u, h3, h4⟩, h5⟩ => ⟨h1, h2, ⟨u, h3, BytesAt.mono h4 fun _ _ => trivial⟩, h5⟩)) HB6.out)
        have HSD : Hid (Sep w1 (playsL15 w1 m b s v x y z q blocks at_ last last vs B M rb S R S R [SetA (.pointer (some ⟨sn, 0, none⟩)) 64 S]) w6.drew) := Lib.hid (HS6.out.up (below_drewN (Below.refl _ _) 1))
        have hq2 : w6.cell? ⟨q, 2, none⟩ = some (.pointer (some ⟨v, 0, none⟩)) := cell_up HB6.out hq25
        have hq5 : w6.cell? ⟨q, 5, none⟩ = some (.pointer (some ⟨z, 0, none⟩)) := fresh_cells HS6.out 8 rfl 5 (by simp [worldP])
        obtain ⟨sp, sc, zp, zc, hz4, hz5, HZX, HZR⟩ := rview_cells HS6.out 7 rfl
        obtain ⟨rn, hrn⟩ : ∃ rn, R.length = rn := ⟨_, rfl⟩
        rw [hrn] at hz5
        have hrr : ((rn : Int) != (rn : Int)) = false := by simp
        have hat : (at_ != at_) = false := by simp
        have hd6 : Below w6.heap.size w6 w6.drew := below_drewN (Below.refl _ _) 1
        rw [hrn] at HR6 HZR ⊢
        have HD6 := Lib.hid hd6
        have HRN := Lib.hid hrn
        clear hd6 hrn
        clear hq25 HS6 HS5 HR5
        go_wp2_with fail
        refine wp_regionG (fun W => Below w6.heap.size w6 W) (n := 38) (by kernel_rfl) (by kernel_rfl) ?_
        refine wpG.take 0 (v := ?_) (a' := ?_) rfl (by kernel_rfl) (by kernel_rfl) (by kernel_rfl) (by kernel_rfl) (fun _ _ _ h => h) ?_ ?_ ?_
        rotate_left 2
        · intro W hW
          go_simp
          try with_reducible rfl
        · go_simp
          try with_reducible rfl
        refine wpG.take 1 (v := ?_) (a' := ?_) rfl (by kernel_rfl) (by kernel_rfl) (by kernel_rfl) (by kernel_rfl) (fun _ _ _ h => h) ?_ ?_ ?_
        rotate_left 2
        · intro W hW
          go_simp
          try with_reducible rfl
        · go_simp
          try with_reducible rfl
        refine wpG.take 2 (v := ?_) (a' := ?_) rfl (by kernel_rfl) (by kernel_rfl) (by kernel_rfl) (by kernel_rfl) (fun _ _ _ h => h) ?_ ?_ ?_
        rotate_left 2
        · intro W hW
          go_simp
          try with_reducible rfl
        · go_simp
          try with_reducible rfl
        refine wpG.take 3 (v := ?_) (a' := ?_) rfl (by kernel_rfl) (by kernel_rfl) (by kernel_rfl) (by kernel_rfl) (fun _ _ _ h => h) ?_ ?_ ?_
        rotate_left 2
        · intro W hW
          go_simp
          try with_reducible rfl
        · go_simp
          try with_reducible rfl
        refine wpG.take 4 (v := ?_) (a' := ?_) rfl (by kernel_rfl) (by kernel_rfl) (by kernel_rfl) (by kernel_rfl) (fun _ _ _ h => h) ?_ ?_ ?_
        rotate_left 2
        · intro W hW
          go_simp
          try with_reducible rfl
        · go_simp
          try with_reducible rfl
        refine wpG.take 5 (v := ?_) (a' := ?_) rfl (by kernel_rfl) (by kernel_rfl) (by kernel_rfl) (by kernel_rfl) (fun _ _ _ h => h) ?_ ?_ ?_
        rotate_left 2
        · intro W hW
          have hld0 := cell_up hW hq5
          go_simp
          try with_reducible rfl
        · go_simp
          try with_reducible rfl
        refine wpG.take 6 (v := ?_) (a' := ?_) rfl (by kernel_rfl) (by kernel_rfl) (by kernel_rfl) (by kernel_rfl) (fun _ _ _ h => h) ?_ ?_ ?_
        rotate_left 2
        · intro W hW
          go_simp
          try with_reducible rfl
        · go_simp
          try with_reducible rfl
        refine wpG.take 7 (v := ?_) (a' := ?_) rfl (by kernel_rfl) (by kernel_rfl) (by kernel_rfl) (by kernel_rfl) (fun _ _ _ h => h) ?_ ?_ ?_
        rotate_left 2
        · intro W hW
          go_simp
          try with_reducible rfl
        · go_simp
          try with_reducible rfl
        refine wpG.take 8 (v := ?_) (a' := ?_) rfl (by kernel_rfl) (by kernel_rfl) (by kernel_rfl) (by kernel_rfl) (fun _ _ _ h => h) ?_ ?_ ?_
        rotate_left 2
        · intro W hW
          have hld0 := cell_up hW hz5
          go_simp
          try with_reducible rfl
        · go_simp
          try with_reducible rfl
        refine wpG.take 9 (v := ?_) (a' := ?_) rfl (by kernel_rfl) (by kernel_rfl) (by kernel_rfl) (by kernel_rfl) (fun _ _ _ h => h) ?_ ?_ ?_
        rotate_left 2
        · intro W hW
          go_simp
          try with_reducible rfl
        · go_simp
          try with_reducible rfl
        refine wpG.take 10 (v := ?_) (a' := ?_) rfl (by kernel_rfl) (by kernel_rfl) (by kernel_rfl) (by kernel_rfl) (fun _ _ _ h => h) ?_ ?_ ?_
        rotate_left 2
        · intro W hW
          go_simp
          try with_reducible rfl
        · go_simp
          try with_reducible rfl
        refine wpG.take 11 (v := ?_) (a' := ?_) rfl (by kernel_rfl) (by kernel_rfl) (by kernel_rfl) (by kernel_rfl) (fun _ _ _ h => h) ?_ ?_ ?_
        rotate_left 2
        · intro W hW
          go_simp
          try with_reducible rfl
        · go_simp
          try with_reducible rfl
        refine wpG.take 12 (v := ?_) (a' := ?_) rfl (by kernel_rfl) (by kernel_rfl) (by kernel_rfl) (by kernel_rfl) (fun _ _ _ h => h) ?_ ?_ ?_
        rotate_left 2
        · intro W hW
          go_simp
          try with_reducible rfl
        · go_simp
          try with_reducible rfl
        refine wpG.take 13 (v := ?_) (a' := ?_) rfl (by kernel_rfl) (by kernel_rfl) (by kernel_rfl) (by kernel_rfl) (fun _ _ _ h => h) ?_ ?_ ?_
        rotate_left 2
        · intro W hW
          go_simp
          try with_reducible rfl
        · go_simp
          try with_reducible rfl
        refine wpG.take 14 (v := ?_) (a' := ?_) rfl (by kernel_rfl) (by kernel_rfl) (by kernel_rfl) (by kernel_rfl) (fun _ _ _ h => h) ?_ ?_ ?_
        rotate_left 2
        · intro W hW
          go_simp
          try with_reducible rfl
        · go_simp
          try with_reducible rfl
        refine wpG.take 15 (v := ?_) (a' := ?_) rfl (by kernel_rfl) (by kernel_rfl) (by kernel_rfl) (by kernel_rfl) (fun _ _ _ h => h) ?_ ?_ ?_
        rotate_left 2
        · intro W hW
          go_simp
          try with_reducible rfl
        · go_simp
          try with_reducible rfl
        refine wpG.take 16 (v := ?_) (a' := ?_) rfl (by kernel_rfl) (by kernel_rfl) (by kernel_rfl) (by kernel_rfl) (fun _ _ _ h => h) ?_ ?_ ?_
        rotate_left 2
        · intro W hW
          go_simp
          try with_reducible rfl
        · go_simp
          try with_reducible rfl
        refine wpG.take 18 (v := ?_) (a' := ?_) rfl (by kernel_rfl) (by kernel_rfl) (by kernel_rfl) (by kernel_rfl) (fun _ _ _ h => h) ?_ ?_ ?_
        rotate_left 2
        · intro W hW
          go_simp
          try with_reducible rfl
        · go_simp
          try with_reducible rfl
        refine wpG.take 19 (v := ?_) (a' := ?_) rfl (by kernel_rfl) (by kernel_rfl) (by kernel_rfl) (by kernel_rfl) (fun _ _ _ h => h) ?_ ?_ ?_
        rotate_left 2
        · intro W hW
          go_simp
          try with_reducible rfl
        · go_simp
          try with_reducible rfl
        refine wpG.take 20 (v := ?_) (a' := ?_) rfl (by kernel_rfl) (by kernel_rfl) (by kernel_rfl) (by kernel_rfl) (fun _ _ _ h => h) ?_ ?_ ?_
        rotate_left 2
        · intro W hW
          go_simp
          try with_reducible rfl
        · go_simp
          try with_reducible rfl
        refine wpG.take 21 (v := ?_) (a' := ?_) rfl (by kernel_rfl) (by kernel_rfl) (by kernel_rfl) (by kernel_rfl) (fun _ _ _ h => h) ?_ ?_ ?_
        rotate_left 2
        · intro W hW
          have hld0 := cell_up hW hq5
          go_simp
          try with_reducible rfl
        · go_simp
          try with_reducible rfl
        refine wpG.take 22 (v := ?_) (a' := ?_) rfl (by kernel_rfl) (by kernel_rfl) (by kernel_rfl) (by kernel_rfl) (fun _ _ _ h => h) ?_ ?_ ?_
        rotate_left 2
        · intro W hW
          go_simp
          try with_reducible rfl
        · go_simp
          try with_reducible rfl
        refine wpG.take 23 (v := ?_) (a' := ?_) rfl (by kernel_rfl) (by kernel_rfl) (by kernel_rfl) (by kernel_rfl) (fun _ _ _ h => h) ?_ ?_ ?_
        rotate_left 2
        · intro W hW
          go_simp
          try with_reducible rfl
        · go_simp
          try with_reducible rfl
        refine wpG.take 24 (v := ?_) (a' := ?_) rfl (by kernel_rfl) (by kernel_rfl) (by kernel_rfl) (by kernel_rfl) (fun _ _ _ h => h) ?_ ?_ ?_
        rotate_left 2
        · intro W hW
          go_simp
          try with_reducible rfl
        · go_simp
          try with_reducible rfl
        refine wpG.take 25 (v := ?_) (a' := ?_) rfl (by kernel_rfl) (by kernel_rfl) (by kernel_rfl) (by kernel_rfl) (fun _ _ _ h => h) ?_ ?_ ?_
        rotate_left 2
        · intro W hW
          have hld0 := cell_up hW hz4
          go_simp
          try with_reducible rfl
        · go_simp
          try with_reducible rfl
        refine wpG.alone 17 rfl (by kernel_rfl) (by kernel_rfl) (HD6.out) (fun K hK => ?_)
        go_simp
        go_at_call 30
        refine (setExtents_sep HSD 9 rfl (by have := HI.out.s64; omega)).mono ?_
        rintro e w7 ⟨ep, ec, rfl, HE7, HB7, HS7⟩
        have HB67 := Lib.hid (Below.up HD6.out HB7.out)
        have HF7 := Lib.hid (ExtsAt.up HZX.out HB67.out)
        try go_simp
        refine hK _ _ ?_
        clear hK K
        refine wpG.alone 26 rfl (by kernel_rfl) (by kernel_rfl) (HB67.out) (fun K hK => ?_)
        go_simp
        go_at_call 29
        refine (exts_any _ _ _ _ S S _ HE7.out HF7.out).mono ?_
        rintro e w8 ⟨rfl, hb8⟩
        rw [sameE_iff.2 rfl]
        have HB68 := Lib.hid (Below.up HB67.out hb8)
        have HS8 := Lib.hid (HS7.out.up hb8)
        clear hb8
        try go_simp
        refine hK _ _ ?_
        clear hK K
        refine wpG.take 27 (v := ?_) (a' := ?_) rfl (by kernel_rfl) (by kernel_rfl) (by kernel_rfl) (by kernel_rfl) (fun _ _ _ h => h) ?_ ?_ ?_
        rotate_left 2
        · intro W hW
          go_simp
          try with_reducible rfl
        · go_simp
          try with_reducible rfl
        refine wpG.take 28 (v := ?_) (a' := ?_) rfl (by kernel_rfl) (by kernel_rfl) (by kernel_rfl) (by kernel_rfl) (fun _ _ _ h => h) ?_ ?_ ?_
        rotate_left 2
        · intro W hW
          go_simp
          try with_reducible rfl
        · go_simp
          try with_reducible rfl
        refine wpG.take 29 (v := ?_) (a' := ?_) rfl (by kernel_rfl) (by kernel_rfl) (by kernel_rfl) (by kernel_rfl) (fun _ _ _ h => h) ?_ ?_ ?_
        rotate_left 2
        · intro W hW
          go_simp
          try with_reducible rfl
        · go_simp
          try with_reducible rfl
        refine wpG.take 30 (v := ?_) (a' := ?_) rfl (by kernel_rfl) (by kernel_rfl) (by kernel_rfl) (by kernel_rfl) (fun _ _ _ h => h) ?_ ?_ ?_
        rotate_left 2
        · intro W hW
          go_simp
          try with_reducible rfl
        · go_simp
          try with_reducible rfl
        refine wpG.take 31 (v := ?_) (a' := ?_) rfl (by kernel_rfl) (by kernel_rfl) (by kernel_rfl) (by kernel_rfl) (fun _ _ _ h => h) ?_ ?_ ?_
        rotate_left 2
        · intro W hW
          go_simp
          try with_reducible rfl
        · go_simp
          try with_reducible rfl
        refine wpG.take 32 (v := ?_) (a' := ?_) rfl (by kernel_rfl) (by kernel_rfl) (by kernel_rfl) (by kernel_rfl) (fun _ _ _ h => h) ?_ ?_ ?_
        rotate_left 2
        · intro W hW
          go_simp
          try with_reducible rfl
        · go_simp
          try with_reducible rfl
        refine wpG.take 33 (v := ?_) (a' := ?_) rfl (by kernel_rfl) (by kernel_rfl) (by kernel_rfl) (by kernel_rfl) (fun _ _ _ h => h) ?_ ?_ ?_
        rotate_left 2
        · intro W hW
          have hld0 := cell_up hW hq2
          go_simp
          try with_reducible rfl
        · go_simp
          try with_reducible rfl
        refine wpG.take 35 (v := ?_) (a' := ?_) rfl (by kernel_rfl) (by kernel_rfl) (by kernel_rfl) (by kernel_rfl) (fun _ _ _ h => h) ?_ ?_ ?_
        rotate_left 2
        · intro W hW
          go_simp
          try with_reducible rfl
        · go_simp
          try with_reducible rfl
        refine wpG.alone 34 rfl (by kernel_rfl) (by kernel_rfl) (HB68.out) (fun K hK => ?_)
        go_simp
        go_at_call 22
        refine (viewAt_sep HS8 6 rfl).mono ?_
        rintro e w9 ⟨rfl, HB9⟩
        have HB69 := Lib.hid (Below.up HB68.out HB9.out)
        have HS9 := Lib.hid (HS8.out.up HB9.out)
        try go_simp
        refine hK _ _ ?_
        clear hK K
        refine wpG.take 36 (v := ?_) (a' := ?_) rfl (by kernel_rfl) (by kernel_rfl) (by kernel_rfl) (by kernel_rfl) (fun _ _ _ h => h) ?_ ?_ ?_
        rotate_left 2
        · intro W hW
          go_simp
          try with_reducible rfl
        · go_simp
          try with_reducible rfl
        refine wpG.take 37 (v := ?_) (a' := ?_) rfl (by kernel_rfl) (by kernel_rfl) (by kernel_rfl) (by kernel_rfl) (fun _ _ _ h => h) ?_ ?_ ?_
        rotate_left 2
        · intro W hW
          go_simp
          try with_reducible rfl
        · go_simp
          try with_reducible rfl
        refine wpG.done (by kernel_rfl) HB69.out ?_
        clear HS7 HS8 HSD hat
        go_wp2_with fail
        go_loopw [17] (fun i wr => ∃ j : Nat, j ≤ rn ∧ i = .int .i64 j ∧ Hid (Below w6.heap.size w6 wr) ∧ Hid (Sep w1 (playsL15 w1 m b s v x y z q blocks at_ last last vs B M rb S R S R [SetA (.pointer (some ⟨sn, 0, none⟩)) 64 S]) wr)) (fun i _ => rn - (intOf i).toNat)
        case atStart => exact ⟨0, by omega, rfl, HB69, HS9⟩
        case round =>
          obtain ⟨j, hj, rfl, HBJ, HSJ⟩ := hrel
          by_cases hjl : j < rn
          case neg =>
            have hji : ¬ (j : Int) < (rn : Int) := by omega
            go_wp2_with fail
            refine (awake15 _).mono ?_
            rintro e w10 ⟨rfl, hb10⟩
            have hb010 := HB1.out.trans ((HSJ.out.up hb10).old.mono HB1.out.size)
            have HB10 := Lib.hid hb10
            have HB010 := Lib.hid hb010
            clear hb10 hb010
            go_wp2
            go_ret
            exact ⟨rfl, HB010.out⟩
          case pos =>
            have hji : (j : Int) < (rn : Int) := by omega
            have hjR : j < R.length := by rw [HRN.out]; exact hjl
            have q5 := cell_up HBJ.out hq5
            have z5 := cell_up HBJ.out hz5
            have HRJ := HR6.out.up HBJ.out
            have HZJ := HZR.out.up HBJ.out
            obtain ⟨_, _, hv1, _, _, _, g4⟩ := HRJ
            cases hv1
            obtain ⟨ga, oa, rfl, _, ra, _, ⟨da, rb', rd⟩, rc'⟩ := g4 j hjR
            obtain ⟨_, _, hv2, _, _, _, g6⟩ := HZJ
            cases hv2
            obtain ⟨gb, ob, rfl, _, za, _, ⟨db, zb, zd⟩, zc'⟩ := g6 j hjR
            obtain ⟨pa, ca, rfl⟩ : ∃ p c, da = .slice p R[j].data.length c := by obtain ⟨p, c, e, _⟩ := id rd; exact ⟨p, c, e⟩
            obtain ⟨pb, cb, rfl⟩ : ∃ p c, db = .slice p R[j].data.length c := by obtain ⟨p, c, e, _⟩ := id zd; exact ⟨p, c, e⟩
            generalize R[j] = xr at *
            obtain ⟨xl, xd, xo⟩ := xr
            simp only at ra rb' rc' rd za zb zc' zd
            have hxl : (xl != xl) = false := by simp
            have hxo : (xo != xo) = false := by simp
            have hdj : Below wr.heap.size wr wr.drew := below_drewN (Below.refl _ _) 1
            have HRD := Lib.hid (BytesAt.up rd hdj)
            have HZD := Lib.hid (BytesAt.up zd hdj)
            have HDJ := Lib.hid hdj
            have HJR := Lib.hid hjR
            clear hdj hjR
            clear g4 g6 rd zd
            go_wp2_with fail
            refine wp_regionG (fun W => Below wr.heap.size wr W) (n := 56) (by kernel_rfl) (by kernel_rfl) ?_
            refine wpG.take 0 (v := ?_) (a' := ?_) rfl (by kernel_rfl) (by kernel_rfl) (by kernel_rfl) (by kernel_rfl) (fun _ _ _ h => h) ?_ ?_ ?_
            rotate_left 2
            · intro W hW
              go_simp
              try with_reducible rfl
            · go_simp
              try with_reducible rfl
            refine wpG.take 1 (v := ?_) (a' := ?_) rfl (by kernel_rfl) (by kernel_rfl) (by kernel_rfl) (by kernel_rfl) (fun _ _ _ h => h) ?_ ?_ ?_
            rotate_left 2
            · intro W hW
              go_simp
              try with_reducible rfl
            · go_simp
              try with_reducible rfl
            refine wpG.take 2 (v := ?_) (a' := ?_) rfl (by kernel_rfl) (by kernel_rfl) (by kernel_rfl) (by kernel_rfl) (fun _ _ _ h => h) ?_ ?_ ?_
            rotate_left 2
            · intro W hW
              go_simp
              try with_reducible rfl
            · go_simp
              try with_reducible rfl
            refine wpG.take 3 (v := ?_) (a' := ?_) rfl (by kernel_rfl) (by kernel_rfl) (by kernel_rfl) (by kernel_rfl) (fun _ _ _ h => h) ?_ ?_ ?_
            rotate_left 2
            · intro W hW
              go_simp
              try with_reducible rfl
            · go_simp
              try with_reducible rfl
            refine wpG.take 4 (v := ?_) (a' := ?_) rfl (by kernel_rfl) (by kernel_rfl) (by kernel_rfl) (by kernel_rfl) (fun _ _ _ h => h) ?_ ?_ ?_
            rotate_left 2
            · intro W hW
              have hld0 := cell_up hW ra
              go_simp
              try with_reducible rfl
            · go_simp
              try with_reducible rfl
            refine wpG.take 5 (v := ?_) (a' := ?_) rfl (by kernel_rfl) (by kernel_rfl) (by kernel_rfl) (by kernel_rfl) (fun _ _ _ h => h) ?_ ?_ ?_
            rotate_left 2
            · intro W hW
              go_simp
              try with_reducible rfl
            · go_simp
              try with_reducible rfl
            refine wpG.take 6 (v := ?_) (a' := ?_) rfl (by kernel_rfl) (by kernel_rfl) (by kernel_rfl) (by kernel_rfl) (fun _ _ _ h => h) ?_ ?_ ?_
            rotate_left 2
            · intro W hW
              go_simp
              try with_reducible rfl
            · go_simp
              try with_reducible rfl
            refine wpG.take 7 (v := ?_) (a' := ?_) rfl (by kernel_rfl) (by kernel_rfl) (by kernel_rfl) (by kernel_rfl) (fun _ _ _ h => h) ?_ ?_ ?_
            rotate_left 2
            · intro W hW
              go_simp
              try with_reducible rfl
            · go_simp
              try with_reducible rfl
            refine wpG.take 8 (v := ?_) (a' := ?_) rfl (by kernel_rfl) (by kernel_rfl) (by kernel_rfl) (by kernel_rfl) (fun _ _ _ h => h) ?_ ?_ ?_
            rotate_left 2
            · intro W hW
              have hld0 := cell_up hW q5
              go_simp
              try with_reducible rfl
            · go_simp
              try with_reducible rfl
            refine wpG.take 9 (v := ?_) (a' := ?_) rfl (by kernel_rfl) (by kernel_rfl) (by kernel_rfl) (by kernel_rfl) (fun _ _ _ h => h) ?_ ?_ ?_
            rotate_left 2
            · intro W hW
              go_simp
              try with_reducible rfl
            · go_simp
              try with_reducible rfl
            refine wpG.take 10 (v := ?_) (a' := ?_) rfl (by kernel_rfl) (by kernel_rfl) (by kernel_rfl) (by kernel_rfl) (fun _ _ _ h => h) ?_ ?_ ?_
            rotate_left 2
            · intro W hW
              go_simp
              try with_reducible rfl
            · go_simp
              try with_reducible rfl
            refine wpG.take 11 (v := ?_) (a' := ?_) rfl (by kernel_rfl) (by kernel_rfl) (by kernel_rfl) (by kernel_rfl) (fun _ _ _ h => h) ?_ ?_ ?_
            rotate_left 2
            · intro W hW
              have hld0 := cell_up hW z5
              go_simp
              try with_reducible rfl
            · go_simp
              try with_reducible rfl
            refine wpG.take 12 (v := ?_) (a' := ?_) rfl (by kernel_rfl) (by kernel_rfl) (by kernel_rfl) (by kernel_rfl) (fun _ _ _ h => h) ?_ ?_ ?_
            rotate_left 2
            · intro W hW
              go_simp
              try with_reducible rfl
            · go_simp
              try with_reducible rfl
            refine wpG.take 13 (v := ?_) (a' := ?_) rfl (by kernel_rfl) (by kernel_rfl) (by kernel_rfl) (by kernel_rfl) (fun _ _ _ h => h) ?_ ?_ ?_
            rotate_left 2
            · intro W hW
              go_simp
              try with_reducible rfl
            · go_simp
              try with_reducible rfl
            refine wpG.take 14 (v := ?_) (a' := ?_) rfl (by kernel_rfl) (by kernel_rfl) (by kernel_rfl) (by kernel_rfl) (fun _ _ _ h => h) ?_ ?_ ?_
            rotate_left 2
            · intro W hW
              go_simp
              try with_reducible rfl
            · go_simp
              try with_reducible rfl
            refine wpG.take 15 (v := ?_) (a' := ?_) rfl (by kernel_rfl) (by kernel_rfl) (by kernel_rfl) (by kernel_rfl) (fun _ _ _ h => h) ?_ ?_ ?_
            rotate_left 2
            · intro W hW
              have hld0 := cell_up hW za
              go_simp
              try with_reducible rfl
            · go_simp
              try with_reducible rfl
            refine wpG.take 16 (v := ?_) (a' := ?_) rfl (by kernel_rfl) (by kernel_rfl) (by kernel_rfl) (by kernel_rfl) (fun _ _ _ h => h) ?_ ?_ ?_
            rotate_left 2
            · intro W hW
              go_simp
              try with_reducible rfl
            · go_simp
              try with_reducible rfl
            refine wpG.take 17 (v := ?_) (a' := ?_) rfl (by kernel_rfl) (by kernel_rfl) (by kernel_rfl) (by kernel_rfl) (fun _ _ _ h => h) ?_ ?_ ?_
            rotate_left 2
            · intro W hW
              go_simp
              try with_reducible rfl
            · go_simp
              try with_reducible rfl
            refine wpG.take 18 (v := ?_) (a' := ?_) rfl (by kernel_rfl) (by kernel_rfl) (by kernel_rfl) (by kernel_rfl) (fun _ _ _ h => h) ?_ ?_ ?_
            rotate_left 2
            · intro W hW
              go_simp
              try with_reducible rfl
            · go_simp
              try with_reducible rfl
            refine wpG.take 19 (v := ?_) (a' := ?_) rfl (by kernel_rfl) (by kernel_rfl) (by kernel_rfl) (by kernel_rfl) (fun _ _ _ h => h) ?_ ?_ ?_
            rotate_left 2
            · intro W hW
              go_simp
              try with_reducible rfl
            · go_simp
              try with_reducible rfl
            refine wpG.take 20 (v := ?_) (a' := ?_) rfl (by kernel_rfl) (by kernel_rfl) (by kernel_rfl) (by kernel_rfl) (fun _ _ _ h => h) ?_ ?_ ?_
            rotate_left 2
            · intro W hW
              go_simp
              try with_reducible rfl
            · go_simp
              try with_reducible rfl
            refine wpG.take 21 (v := ?_) (a' := ?_) rfl (by kernel_rfl) (by kernel_rfl) (by kernel_rfl) (by kernel_rfl) (fun _ _ _ h => h) ?_ ?_ ?_
            rotate_left 2
            · intro W hW
              go_simp
              try with_reducible rfl
            · go_simp
              try with_reducible rfl
            refine wpG.take 22 (v := ?_) (a' := ?_) rfl (by kernel_rfl) (by kernel_rfl) (by kernel_rfl) (by kernel_rfl) (fun _ _ _ h => h) ?_ ?_ ?_
            rotate_left 2
            · intro W hW
              have hld0 := cell_up hW rc'
              go_simp
              try with_reducible rfl
            · go_simp
              try with_reducible rfl
            refine wpG.take 23 (v := ?_) (a' := ?_) rfl (by kernel_rfl) (by kernel_rfl) (by kernel_rfl) (by kernel_rfl) (fun _ _ _ h => h) ?_ ?_ ?_
            rotate_left 2
            · intro W hW
              go_simp
              try with_reducible rfl
            · go_simp
              try with_reducible rfl
            refine wpG.take 24 (v := ?_) (a' := ?_) rfl (by kernel_rfl) (by kernel_rfl) (by kernel_rfl) (by kernel_rfl) (fun _ _ _ h => h) ?_ ?_ ?_
            rotate_left 2
            · intro W hW
              go_simp
              try with_reducible rfl
            · go_simp
              try with_reducible rfl
            refine wpG.take 25 (v := ?_) (a' := ?_) rfl (by kernel_rfl) (by kernel_rfl) (by kernel_rfl) (by kernel_rfl) (fun _ _ _ h => h) ?_ ?_ ?_
            rotate_left 2
            · intro W hW
              go_simp
              try with_reducible rfl
            · go_simp
              try with_reducible rfl
            refine wpG.take 26 (v := ?_) (a' := ?_) rfl (by kernel_rfl) (by kernel_rfl) (by kernel_rfl) (by kernel_rfl) (fun _ _ _ h => h) ?_ ?_ ?_
            rotate_left 2
            · intro W hW
              have hld0 := cell_up hW q5
              go_simp
              try with_reducible rfl
            · go_simp
              try with_reducible rfl
            refine wpG.take 27 (v := ?_) (a' := ?_) rfl (by kernel_rfl) (by kernel_rfl) (by kernel_rfl) (by kernel_rfl) (fun _ _ _ h => h) ?_ ?_ ?_
            rotate_left 2
            · intro W hW
              go_simp
              try with_reducible rfl
            · go_simp
              try with_reducible rfl
            refine wpG.take 28 (v := ?_) (a' := ?_) rfl (by kernel_rfl) (by kernel_rfl) (by kernel_rfl) (by kernel_rfl) (fun _ _ _ h => h) ?_ ?_ ?_
            rotate_left 2
            · intro W hW
              go_simp
              try with_reducible rfl
            · go_simp
              try with_reducible rfl
            refine wpG.take 29 (v := ?_) (a' := ?_) rfl (by kernel_rfl) (by kernel_rfl) (by kernel_rfl) (by kernel_rfl) (fun _ _ _ h => h) ?_ ?_ ?_
            rotate_left 2
            · intro W hW
              have hld0 := cell_up hW z5
              go_simp
              try with_reducible rfl
            · go_simp
              try with_reducible rfl
            refine wpG.take 30 (v := ?_) (a' := ?_) rfl (by kernel_rfl) (by kernel_rfl) (by kernel_rfl) (by kernel_rfl) (fun _ _ _ h => h) ?_ ?_ ?_
            rotate_left 2
            · intro W hW
              go_simp
              try with_reducible rfl
            · go_simp
              try with_reducible rfl
            refine wpG.take 31 (v := ?_) (a' := ?_) rfl (by kernel_rfl) (by kernel_rfl) (by kernel_rfl) (by kernel_rfl) (fun _ _ _ h => h) ?_ ?_ ?_
            rotate_left 2
            · intro W hW
              go_simp
              try with_reducible rfl
            · go_simp
              try with_reducible rfl
            refine wpG.take 32 (v := ?_) (a' := ?_) rfl (by kernel_rfl) (by kernel_rfl) (by kernel_rfl) (by kernel_rfl) (fun _ _ _ h => h) ?_ ?_ ?_
            rotate_left 2
            · intro W hW
              go_simp
              try with_reducible rfl
            · go_simp
              try with_reducible rfl
            refine wpG.take 33 (v := ?_) (a' := ?_) rfl (by kernel_rfl) (by kernel_rfl) (by kernel_rfl) (by kernel_rfl) (fun _ _ _ h => h) ?_ ?_ ?_
            rotate_left 2
            · intro W hW
              have hld0 := cell_up hW zc'
              go_simp
              try with_reducible rfl
            · go_simp
              try with_reducible rfl
            refine wpG.take 34 (v := ?_) (a' := ?_) rfl (by kernel_rfl) (by kernel_rfl) (by kernel_rfl) (by kernel_rfl) (fun _ _ _ h => h) ?_ ?_ ?_
            rotate_left 2
            · intro W hW
              go_simp
              try with_reducible rfl
            · go_simp
              try with_reducible rfl
            refine wpG.take 35 (v := ?_) (a' := ?_) rfl (by kernel_rfl) (by kernel_rfl) (by kernel_rfl) (by kernel_rfl) (fun _ _ _ h => h) ?_ ?_ ?_
            rotate_left 2
            · intro W hW
              go_simp
              try with_reducible rfl
            · go_simp
              try with_reducible rfl
            refine wpG.take 36 (v := ?_) (a' := ?_) rfl (by kernel_rfl) (by kernel_rfl) (by kernel_rfl) (by kernel_rfl) (fun _ _ _ h => h) ?_ ?_ ?_
            rotate_left 2
            · intro W hW
              go_simp
              try with_reducible rfl
            · go_simp
              try with_reducible rfl
            refine wpG.take 37 (v := ?_) (a' := ?_) rfl (by kernel_rfl) (by kernel_rfl) (by kernel_rfl) (by kernel_rfl) (fun _ _ _ h => h) ?_ ?_ ?_
            rotate_left 2
            · intro W hW
              go_simp
              try with_reducible rfl
            · go_simp
              try with_reducible rfl
            refine wpG.take 38 (v := ?_) (a' := ?_) rfl (by kernel_rfl) (by kernel_rfl) (by kernel_rfl) (by kernel_rfl) (fun _ _ _ h => h) ?_ ?_ ?_
            rotate_left 2
            · intro W hW
              go_simp
              try with_reducible rfl
            · go_simp
              try with_reducible rfl
            refine wpG.take 39 (v := ?_) (a' := ?_) rfl (by kernel_rfl) (by kernel_rfl) (by kernel_rfl) (by kernel_rfl) (fun _ _ _ h => h) ?_ ?_ ?_
            rotate_left 2
            · intro W hW
              go_simp
              try with_reducible rfl
            · go_simp
              try with_reducible rfl
            refine wpG.take 40 (v := ?_) (a' := ?_) rfl (by kernel_rfl) (by kernel_rfl) (by kernel_rfl) (by kernel_rfl) (fun _ _ _ h => h) ?_ ?_ ?_
            rotate_left 2
            · intro W hW
              go_simp
              try with_reducible rfl
            · go_simp
              try with_reducible rfl
            refine wpG.take 41 (v := ?_) (a' := ?_) rfl (by kernel_rfl) (by kernel_rfl) (by kernel_rfl) (by kernel_rfl) (fun _ _ _ h => h) ?_ ?_ ?_
            rotate_left 2
            · intro W hW
              have hld0 := cell_up hW rb'
              go_simp
              try with_reducible rfl
            · go_simp
              try with_reducible rfl
            refine wpG.take 42 (v := ?_) (a' := ?_) rfl (by kernel_rfl) (by kernel_rfl) (by kernel_rfl) (by kernel_rfl) (fun _ _ _ h => h) ?_ ?_ ?_
            rotate_left 2
            · intro W hW
              go_simp
              try with_reducible rfl
            · go_simp
              try with_reducible rfl
            refine wpG.take 43 (v := ?_) (a' := ?_) rfl (by kernel_rfl) (by kernel_rfl) (by kernel_rfl) (by kernel_rfl) (fun _ _ _ h => h) ?_ ?_ ?_
            rotate_left 2
            · intro W hW
              go_simp
              try with_reducible rfl
            · go_simp
              try with_reducible rfl
            refine wpG.take 44 (v := ?_) (a' := ?_) rfl (by kernel_rfl) (by kernel_rfl) (by kernel_rfl) (by kernel_rfl) (fun _ _ _ h => h) ?_ ?_ ?_
            rotate_left 2
            · intro W hW
              go_simp
              try with_reducible rfl
            · go_simp
              try with_reducible rfl
            refine wpG.take 45 (v := ?_) (a' := ?_) rfl (by kernel_rfl) (by kernel_rfl) (by kernel_rfl) (by kernel_rfl) (fun _ _ _ h => h) ?_ ?_ ?_
            rotate_left 2
            · intro W hW
              have hld0 := cell_up hW q5
              go_simp
              try with_reducible rfl
            · go_simp
              try with_reducible rfl
            refine wpG.take 46 (v := ?_) (a' := ?_) rfl (by kernel_rfl) (by kernel_rfl) (by kernel_rfl) (by kernel_rfl) (fun _ _ _ h => h) ?_ ?_ ?_
            rotate_left 2
            · intro W hW
              go_simp
              try with_reducible rfl
            · go_simp
              try with_reducible rfl
            refine wpG.take 47 (v := ?_) (a' := ?_) rfl (by kernel_rfl) (by kernel_rfl) (by kernel_rfl) (by kernel_rfl) (fun _ _ _ h => h) ?_ ?_ ?_
            rotate_left 2
            · intro W hW
              go_simp
              try with_reducible rfl
            · go_simp
              try with_reducible rfl
            refine wpG.take 48 (v := ?_) (a' := ?_) rfl (by kernel_rfl) (by kernel_rfl) (by kernel_rfl) (by kernel_rfl) (fun _ _ _ h => h) ?_ ?_ ?_
            rotate_left 2
            · intro W hW
              have hld0 := cell_up hW z5
              go_simp
              try with_reducible rfl
            · go_simp
              try with_reducible rfl
            refine wpG.take 49 (v := ?_) (a' := ?_) rfl (by kernel_rfl) (by kernel_rfl) (by kernel_rfl) (by kernel_rfl) (fun _ _ _ h => h) ?_ ?_ ?_
            rotate_left 2
            · intro W hW
              go_simp
              try with_reducible rfl
            · go_simp
              try with_reducible rfl
            refine wpG.take 50 (v := ?_) (a' := ?_) rfl (by kernel_rfl) (by kernel_rfl) (by kernel_rfl) (by kernel_rfl) (fun _ _ _ h => h) ?_ ?_ ?_
            rotate_left 2
            · intro W hW
              go_simp
              try with_reducible rfl
            · go_simp
              try with_reducible rfl
            refine wpG.take 51 (v := ?_) (a' := ?_) rfl (by kernel_rfl) (by kernel_rfl) (by kernel_rfl) (by kernel_rfl) (fun _ _ _ h => h) ?_ ?_ ?_
            rotate_left 2
            · intro W hW
              go_simp
              try with_reducible rfl
            · go_simp
              try with_reducible rfl
            refine wpG.take 52 (v := ?_) (a' := ?_) rfl (by kernel_rfl) (by kernel_rfl) (by kernel_rfl) (by kernel_rfl) (fun _ _ _ h => h) ?_ ?_ ?_
            rotate_left 2
            · intro W hW
              have hld0 := cell_up hW zb
              go_simp
              try with_reducible rfl
            · go_simp
              try with_reducible rfl
            refine wpG.alone 53 rfl (by kernel_rfl) (by kernel_rfl) (HDJ.out) (fun K hK => ?_)
            go_simp
            go_at_call 18
            refine (bytes_any (fun _ => True) _ _ xd xd _ HRD.out HZD.out).mono ?_
            rintro e w10 ⟨rfl, hb10⟩
            rw [show (xd == xd) = true by simp]
            have HB10 := Lib.hid (Below.up HDJ.out hb10)
            clear hb10
            try go_simp
            refine hK _ _ ?_
            clear hK K
            refine wpG.take 54 (v := ?_) (a' := ?_) rfl (by kernel_rfl) (by kernel_rfl) (by kernel_rfl) (by kernel_rfl) (fun _ _ _ h => h) ?_ ?_ ?_
            rotate_left 2
            · intro W hW
              go_simp
              try with_reducible rfl
            · go_simp
              try with_reducible rfl
            refine wpG.take 55 (v := ?_) (a' := ?_) rfl (by kernel_rfl) (by kernel_rfl) (by kernel_rfl) (by kernel_rfl) (fun _ _ _ h => h) ?_ ?_ ?_
            rotate_left 2
            · intro W hW
              go_simp
              try with_reducible rfl
            · go_simp
              try with_reducible rfl
            refine wpG.done (by kernel_rfl) HB10.out ?_
            have HBN := Lib.hid (Below.up HBJ.out HB10.out)
            have HSN := Lib.hid (HSJ.out.up HB10.out)
            clear ra rb' rc' za zb zc' q5 z5
            go_wp2_with fail
            go_roundw
            case rel => exact ⟨j + 1, by omega, by go_num, HBN, HSN⟩
            case measure => simp [intOf]; omega
  all_goals
    go_wp2_with fail
    refine (awake15 _).mono ?_
    rintro e w2 ⟨rfl, hb2⟩
    have hb02 := Below.up HB1.out hb2
    have HB2 := Lib.hid hb2
    have HB02 := Lib.hid hb02
    clear hb2 hb02
    go_wp2
    go_ret
    exact ⟨rfl, HB02.out⟩
end Go.Proofs
