/- scarpref20.Replay: what the document's blocks are behind all that was committed. -/
import Derived.Test.YtjomlcemnbfnfaaRefOrd
import Derived.Test.YtjomlcemnbfnfaaReplayPlain
import Derived.Test.YtjomlcemnbfnfaaRef20Run
namespace Go.Proofs
open Go.RowKit Sc

def IntsA (v : Value) (l : List Int) : Asn := ⟨fun F w => IntsAt F w v l, fun _ _ _ hs _ h => h.same hs⟩
def RefReplaySaid (n : Nat) (l : List Hist) (w : World) (e : Ending) (w' : World) : Prop :=
  Below w.heap.size w w' ∧
  ((replayCode n (ordP l) = 0 ∧ ∃ v, e = .returned (.tuple #[v, .int .i64 0]) ∧ RefIs (New w w') w' v (refAll (List.replicate n []) (ordP l))) ∨
   (replayCode n (ordP l) ≠ 0 ∧ e = .returned (.tuple #[.pointer none, .int .i64 (replayCode n (ordP l))])))
/-- What an object of its own, made behind w, lies in. -/
theorem Sep.fresh {W w : World} {L : List Asn} (h : Sep W (OldA W :: L) w) (i : Nat) {A : Asn} (hi : L[i]? = some A) : ∃ F, A.P F w ∧ ∀ k, F k → New W w k := by
  obtain ⟨F, G, h1, h2, hd, hF, _⟩ := h.two (i + 1) 0 (by omega) (A := A) (B := OldA W) hi rfl
  refine ⟨F, h1, fun k hk => ⟨?_, hF k hk⟩⟩
  rcases Nat.lt_or_ge k W.heap.size with hh | hh
  · exact absurd (h2.1 k hh) (hd k hk)
  · exact hh
theorem RefIs.wide {F F' : Nat → Prop} {w : World} {v : Value} {ls : List Bytes} (h : RefIs F w v ls) (hg : ∀ k, F k → F' k) : RefIs F' w v ls := h.mono hg
theorem refReplay_no (n : Int) (v : Value) (w : World) (h : n < 1) : Calls Try.prog 32 #[.int .i64 n, v] w fun e w' => e = .returned (.tuple #[.pointer none, .int .i64 1]) ∧ Below w.heap.size w w' := by
  go_enter Try.func32, Try.ntmps32
  go_wp2_with fail
  refine (refNew_no n _ h).mono ?_
  rintro e w1 ⟨rfl, rfl⟩
  go_wp2
  go_ret2
  exact ⟨rfl, Below.refl _ _⟩
set_option maxRecDepth 100000 in
set_option maxHeartbeats 4000000 in
theorem refReplay_any (G : Nat → Prop) (n : Nat) (v : Value) (l : List Hist) (w : World) (h1 : 1 ≤ n) (h2 : n ≤ 1000000) (hG : Dom G w) (hv : HistsAt G w v l) (hl : l.length ≤ 1000) :
    Calls Try.prog 32 #[.int .i64 n, v] w (RefReplaySaid n l w) := by
  have hv' := hv
  obtain ⟨p, c, rfl, _⟩ := hv
  obtain ⟨b, o, hC⟩ := SlAt.one (E := histE G) (k := 7) hv'
  have hOl : ∀ k, G k → k < w.heap.size := hG
  have HV := Lib.hid hv'
  have HC := Lib.hid hC
  have HG := Lib.hid hOl
  clear hv' hC hOl hG
  go_enter Try.func32, Try.ntmps32
  go_wp2_with fail
  refine (refNew_any n _ h1 h2).mono ?_
  rintro e w1 ⟨vx, rfl, hx, hb1⟩
  have hS1 := (Sep.start w).new hb1 (RefA vx (List.replicate n [])) (fun _ h => h) hx
  obtain ⟨bx, gx, cx, vsx, rfl, _⟩ := hx
  have HV1 := Lib.hid (HistsAt.up HV.out hb1)
  have HS1 := Lib.hid hS1
  have HB1 := Lib.hid hb1
  clear hS1 hb1
  go_wp2_with fail
  refine (refOrder_any G _ l _ HV1.out hl).mono ?_
  rintro e w2 ⟨vo, rfl, hvo, hb2⟩
  have hS2 := (HS1.out).new hb2 (IntsA vo ((ordI l).map fun i : Nat => (i : Int))) (fun _ h => h) hvo
  obtain ⟨op, oc, rfl, ho1, ho2, _⟩ := hvo
  rw [List.length_map] at ho1
  rw [List.length_map] at hS2 ⊢
  have hol := ordI_len l
  have hpl := ordP_len l
  have HS2 := Lib.hid hS2
  have HB2 := Lib.hid hb2
  clear hS2 hb2
  go_wp2_with fail
  go_loopw [9] (fun i wr => ∃ k : Nat, k ≤ (ordI l).length ∧ i = .int .i64 k ∧ Hid (∀ p ∈ (ordP l).take k, runCode n p = 0) ∧ Hid (Sep w [OldA w, RefA (.pointer (some ⟨bx, 0, none⟩)) (refAll (List.replicate n []) ((ordP l).take k)), IntsA (.slice op (ordI l).length oc) ((ordI l).map fun i : Nat => (i : Int))] wr)) (fun i _ => (ordI l).length - (intOf i).toNat)
  case atStart => exact ⟨0, Nat.zero_le _, rfl, by unfold Hid; simp, HS2.out⟩
  case round =>
    obtain ⟨k, hk, rfl, HR, HS⟩ := hrel
    by_cases hlt : k < (ordI l).length
    case neg =>
      have hkl : k = (ordP l).length := by omega
      go_wp2
      go_ret2
      have hr := HR.out
      obtain ⟨F, hF, hN⟩ := Sep.fresh HS.out 0 rfl
      rw [hkl, List.take_length] at hr hF
      exact ⟨HS.out.old, Or.inl ⟨replay_ok.2 hr, _, rfl, hF.wide hN⟩⟩
    case pos =>
      obtain ⟨hxl, hpk, hpe⟩ := ordP_get hlt
      obtain ⟨F2, hF2, _⟩ := HS.out.get 2 rfl
      obtain ⟨p2, c2, he2, _, _, _, h24⟩ := hF2
      rw [List.length_map] at he2
      cases he2
      obtain ⟨ob, oo, rfl, _, hoc, _⟩ := h24 k (by rw [List.length_map]; exact hlt)
      rw [List.getElem_map, Nat.mul_one] at hoc
      obtain ⟨rfl, hGb, _, _, _, _, _, _, _, pv, hc6, hpd⟩ := HC.out _ hxl
      replace hc6 := cell_up HS.out.old hc6
      replace hpd := PutsAt.up hpd HS.out.old
      have htk := take_snoc (ordP l) k hpk
      rw [hpe] at htk
      have hdr := List.drop_eq_getElem_cons hpk
      rw [hpe] at hdr
      have hrd := replay_drop HR.out
      rw [hdr] at hrd
      have hpd0 := hpd
      obtain ⟨pp, pcx, rfl, hp1, hp2, hp3, hp4⟩ := hpd0
      clear hp1 hp2 hp3 hp4
      generalize l[(ordI l)[k]].puts = ps at *
      generalize (ordI l)[k] = x at *
      obtain ⟨F, G1, hF, hR, hFG, hdF, hdG, K⟩ := HS.out.at 1 rfl
      obtain ⟨F0, hF0, hO⟩ := hR 0 _ (by decide) rfl
      have hO1 := hO.1
      have hlen : (refAll (List.replicate n []) ((ordP l).take k)).length = n := by rw [refAll_len, List.length_replicate]
      have htx : TxAt G1 wr (.agg #[.int .i64 0, .slice pp ps.length pcx]) ⟨0, ps⟩ := ⟨_, rfl, i64_zero, hpd.mono fun q hq => hF0 q (hO1 q (HG.out q hq))⟩
      have hrun := refRun_any F G1 _ _ _ ⟨0, ps⟩ _ hF hdF (by rw [hlen]; exact h2) htx hdG hFG
      have HK := Lib.hid K
      have hxz : (x : Int) < (l.length : Int) := by omega
      have HRUN := Lib.hid hrun
      have HLEN := Lib.hid hlen
      have HTK := Lib.hid htk
      have HRD := Lib.hid hrd
      clear hrun hlen htk hrd
      clear K hR hF hO hpd htx hFG hdF hdG hF0 hO1 hdr hpe hpk h24
      by_cases hcode : runCode n ps = 0
      · go_wp2_with fail
        refine (HRUN.out).mono ?_
        rintro e w4 ⟨rfl, hc4, hm4⟩
        rw [HLEN.out] at hm4 ⊢
        rw [hcode] at hm4 ⊢
        rw [if_pos rfl] at hm4
        have hS4 := HK.out w4 _ (RefA (.pointer (some ⟨bx, 0, none⟩)) (refPuts (refAll (List.replicate n []) ((ordP l).take k)) ps)) hc4 (fun k hk => hk) hm4
        rw [← refAll_snoc, ← HTK.out] at hS4
        have HR4 : Hid (∀ p ∈ (ordP l).take (k + 1), runCode n p = 0) := fun q hq => by
          rw [HTK.out] at hq
          rcases List.mem_append.1 hq with h | h
          · exact HR.out q h
          · rw [List.mem_singleton] at h; rw [h]; exact hcode
        have HS4 := Lib.hid hS4
        clear hS4
        clear hc4 hm4
        go_wp2_with fail
        go_roundw
        case rel => exact ⟨k + 1, by omega, by go_num, HR4, HS4.out⟩
        case measure => simp [intOf]; omega
      · have hrc : replayCode n (ordP l) = runCode n ps := by rw [HRD.out]; unfold replayCode; rw [if_neg hcode]
        have hcz : (runCode n ps != 0) = true := by rw [bne_iff_ne]; exact hcode
        go_wp2_with fail
        refine (HRUN.out).mono ?_
        rintro e w4 ⟨rfl, hc4, hm4⟩
        rw [HLEN.out] at hm4 ⊢
        have hS4 := HK.out w4 _ TrueA hc4 (fun k hk => hk) trivial
        have HS4 := Lib.hid hS4
        have HRC := Lib.hid hrc
        clear hS4 hrc
        clear hc4 hm4
        go_wp2
        go_ret2
        exact ⟨HS4.out.old, Or.inr ⟨by rw [HRC.out]; exact hcode, by rw [HRC.out]; rfl⟩⟩
end Go.Proofs
