/- ModelKeeps: what was handed in may be changed behind it, and what was answered too: for every input the law returns true. -/
import Derived.Test.YtjomlcemnbfnfaaLast
namespace Go.Proofs
open Go.RowKit Sc

def PutsWA (v : Value) (l : List Put) : Asn := ⟨fun F w => PutsW F w v l, fun F w w' hs _ h => SlAt.same h hs (fun w w' b o x hs hb ⟨h1, h2, h3, v, h4, h5⟩ => ⟨by rw [hs.cell hb]; exact h1, h2, by rw [World.frozen?_of_block (w := w) (hs b hb)]; exact h3, v, by rw [hs.cell hb]; exact h4, h5.same hs⟩)⟩

set_option maxRecDepth 100000 in
set_option maxHeartbeats 2000000 in
theorem keeps22_any (lba k : Int) (w : World) : Calls Try.prog 5 #[.int .i64 lba, .int .i64 k] w (Tru w) := by
  go_enter Try.func5, Try.ntmps5
  go_wp2_with fail
  refine (round_any lba 10 _ (by omega) (by omega)).mono ?_
  rintro e w' ⟨rfl, rfl⟩
  have hr := roundN_bd lba (show (0 : Int) < 10 by omega)
  generalize roundN lba 10 = r at *
  obtain ⟨hr0, hr1⟩ := hr
  go_wp2_with fail
  refine (modelNew_any 10 _ (by omega) (by omega)).mono ?_
  rintro e w1 ⟨va, rfl, hma, hb1⟩
  have hS1 := (Sep.start w).new hb1 (ModelA va 10 []) (fun _ h => h) hma
  obtain ⟨⟨ba, ra, mla, rfl, _⟩, _⟩ := hma
  have HS1 := Lib.hid hS1
  have HB1 := Lib.hid hb1
  clear hS1 hb1
  go_wp2_with fail
  refine (data_w k _).mono ?_
  rintro e w2 ⟨dv, rfl, hd, hb2⟩
  have hS2 := HS1.out.new hb2 (BytesWA dv (dataB k)) (F := New w1 w2) (fun _ h => h) hd
  obtain ⟨g, o, c, rfl, hc1, hc2⟩ := hd.base (by rw [dataB_length]; omega)
  simp only [dataB_length] at *
  have HS2 := Lib.hid hS2
  have HB2 := Lib.hid hb2
  clear hS2 hb2
  clear hd
  go_wp2_with fail
  have hS3 := HS2.out.new (below_alloc w2 (.cells #[.int .i64 r, .slice (some ⟨g, o, none⟩) 40 c] 39)) (BoxA w2.heap.size #[.int .i64 r, .slice (some ⟨g, o, none⟩) 40 c] 39) (F := New w2 (w2.alloc (.cells #[.int .i64 r, .slice (some ⟨g, o, none⟩) 40 c] 39))) (fun _ h => h) ⟨⟨Nat.le_refl _, by simp⟩, heap_alloc_new _ _⟩
  generalize hW3 : w2.alloc (.cells #[.int .i64 r, .slice (some ⟨g, o, none⟩) 40 c] 39) = w3 at *
  generalize hz2 : w2.heap.size = z2 at *
  clear hW3 hz2
  have HS3 := Lib.hid hS3
  clear hS3
  obtain ⟨F, G, hF, hR, hFG, hdF, hdG, K⟩ := HS3.out.at 1 rfl
  have hir : I64 r := by unfold I64; omega
  have ht : TxAt G w3 (.agg #[.int .i64 0, .slice (some ⟨z2, 0, none⟩) 1 1]) ⟨0, [⟨r, dataB k⟩]⟩ := by
    obtain ⟨F3, hF3, hb3⟩ := hR 3 _ (by decide) rfl
    obtain ⟨F2, hF2, hb2⟩ := hR 2 _ (by decide) rfl
    refine ⟨_, rfl, i64_zero, _, 1, rfl, Nat.le_refl _, by omega, (by intro h; cases h), fun i hi => ?_⟩
    simp only [List.length_cons, List.length_nil] at hi
    obtain rfl : i = 0 := by omega
    exact ⟨z2, 0, rfl, hF3 _ hb3.1, by rw [cell_row hb3.2]; rfl, hir, _, by rw [cell_row hb3.2]; rfl, (BytesW.bytes hb2).mono hF2⟩
  have HK := Lib.hid K
  have HR := Lib.hid hR
  clear K hR
  refine (modelRun_any F G _ _ 10 [] _ _ (by omega) hF ht hdG hFG).mono ?_
  rintro e w4 ⟨rfl, hc4, hm4⟩
  have hrc : runCode 10 [(⟨r, dataB k⟩ : Put)] = 0 := runCode_one _ (by omega) (by omega) (dataB_length _)
  simp only [hrc, if_true, runPuts_one] at hm4
  rw [hrc]
  have hS4 := HK.out w4 _ (ModelA (.pointer (some ⟨ba, 0, none⟩)) 10 [(r, dataB k)]) hc4 (fun k hk => hk) hm4
  have HS4 := Lib.hid hS4
  have HC4 := Lib.hid hc4
  have HM4 := Lib.hid hm4
  have HF := Lib.hid hF
  have HT := Lib.hid ht
  have HRC := Lib.hid hrc
  have HFG := Lib.hid hFG
  have HDF := Lib.hid hdF
  have HDG := Lib.hid hdG
  clear hS4 hc4 hm4 hF ht hrc hFG hdF hdG
  obtain ⟨F2, hB2, _⟩ := HS4.out.get 2 rfl
  obtain ⟨⟨x0, hx0⟩, hfx0, _⟩ := BytesW.at hB2 0 (by rw [dataB_length]; omega)
  obtain ⟨F3, hB3, _⟩ := HS4.out.get 3 rfl
  have hq0 : w4.cell? ⟨z2, 0, none⟩ = some (.int .i64 r) := by rw [cell_row hB3.2]; rfl
  have hfq : w4.frozen? ⟨z2, 0, none⟩ = false := fz_row hB3.2 0
  simp only [Nat.add_zero] at hx0 hfx0
  have hgz : g ≠ z2 := by
    obtain ⟨F, G, h1, h2, h3, _⟩ := HS4.out.two 2 3 (by decide) rfl rfl
    intro e
    obtain ⟨_, _, h4⟩ := BytesW.at h1 0 (by rw [dataB_length]; omega)
    exact h3 g h4 (by rw [e]; exact h2.1)
  clear hB2 hB3
  go_wp2_with fail
  have hS5 := HS4.out.poke 2 rfl g o (fun F h => by obtain ⟨_, _, h4⟩ := BytesW.at h 0 (by rw [dataB_length]; omega); exact h4) (.int .u8 (((x0.toNat : Int) + 1) % 256))
  have hS6 := hS5.poke 3 rfl z2 0 (fun F h => h.1) (.int .i64 (r + 1))
  generalize (w4.setCell ⟨g, o, none⟩ (.int .u8 (((x0.toNat : Int) + 1) % 256))).setCell ⟨z2, 0, none⟩ (.int .i64 (r + 1)) = w6 at *
  have HS6 := Lib.hid hS6
  clear hS6
  clear hS5 hx0 hfx0 hq0 hfq
  obtain ⟨F, hF, _⟩ := HS6.out.get 1 rfl
  have hl40 : ∀ k' d, alook [(r, dataB k)] k' = some d → d.length = 40 := fun k' d h => by
    simp only [alook] at h; split at h
    · cases h; exact dataB_length k
    · cases h
  have hblk : blk 10 r = true := by simp [blk]; omega
  have hlook : (alook [(r, dataB k)] r).getD zeroB = dataB k := by simp [alook]
  have HL40 := Lib.hid hl40
  have HBLK := Lib.hid hblk
  have HLOOK := Lib.hid hlook
  clear hl40 hblk hlook
  refine (modelGet_w F _ 10 r _ _ hF HL40.out).mono ?_
  rintro e w7 (⟨hno, _⟩ | ⟨_, v7, rfl, hv7, hb7⟩)
  · exact absurd (hno.symm.trans HBLK.out) (by decide)
  rw [HLOOK.out] at hv7
  have hS7 := HS6.out.new hb7 (BytesWA v7 (dataB k)) (F := New w6 w7) (fun _ h => h) hv7
  obtain ⟨g7, o7, c7, rfl, hc71, hc72⟩ := hv7.base (by rw [dataB_length]; omega)
  simp only [dataB_length] at *
  have HS7 := Lib.hid hS7
  have HB7 := Lib.hid hb7
  clear hS7 hb7
  clear hF hv7
  go_wp2_with fail
  refine (data_any k _).mono ?_
  rintro e w8 ⟨dv8, rfl, hd8, hb8⟩
  have hS8 := HS7.out.up hb8
  obtain ⟨p8, c8, rfl⟩ := shape_of hd8 (dataB_len _)
  have HD8 := Lib.hid hd8
  have HB8 := Lib.hid hb8
  have HS8 := Lib.hid hS8
  clear hd8 hb8 hS8
  obtain ⟨F4, hF4, _⟩ := HS8.out.get 4 rfl
  go_wp2_with fail
  refine (bytes_any (fun _ => True) _ _ (dataB k) (dataB k) _ (BytesAt.mono (BytesW.bytes hF4) fun _ _ => trivial) (BytesAt.mono HD8.out fun _ _ => trivial)).mono ?_
  rintro e w9 ⟨rfl, hb9⟩
  have hS9 := HS8.out.up hb9
  have HB9 := Lib.hid hb9
  have HS9 := Lib.hid hS9
  clear hb9 hS9
  clear hF4
  rw [show (dataB k == dataB k) = true by simp]
  obtain ⟨F4, hF4, _⟩ := HS9.out.get 4 rfl
  obtain ⟨⟨x1, hx1⟩, hfx1, _⟩ := BytesW.at hF4 1 (by rw [dataB_length]; omega)
  clear hF4
  go_wp2_with fail
  have hS10 := HS9.out.poke 4 rfl g7 (o7 + 1) (fun F h => by obtain ⟨_, _, h4⟩ := BytesW.at h 1 (by rw [dataB_length]; omega); exact h4) (.int .u8 (((x1.toNat : Int) + 1) % 256))
  generalize (w9.setCell ⟨g7, o7 + 1, none⟩ (.int .u8 (((x1.toNat : Int) + 1) % 256))) = w10 at *
  have HS10 := Lib.hid hS10
  clear hS10
  clear hx1 hfx1
  obtain ⟨F, hF, _⟩ := HS10.out.get 1 rfl
  have hi1 : ∀ x ∈ [(r, dataB k)], I64 x.1 := fun x hx => by rw [List.mem_singleton] at hx; subst hx; exact hir
  have hi2 : ∀ x ∈ [(r, dataB k)], x.2.length ≤ 1000000 := fun x hx => by rw [List.mem_singleton] at hx; subst hx; simp only [dataB_length]; omega
  have hall : allPuts [(r, dataB k)] = [⟨r, dataB k⟩] := by simp [allPuts, keysUp, alook]
  have HALL := Lib.hid hall
  clear hall
  refine (modelAll_w F _ 10 _ _ hF hi1 (by simp) hi2).mono ?_
  rintro e w11 ⟨v11, rfl, hv11, hb11⟩
  rw [HALL.out] at hv11
  have hS11 := HS10.out.new hb11 (PutsWA v11 [⟨r, dataB k⟩]) (F := New w10 w11) (fun _ h => h) hv11
  obtain ⟨p11, c11, rfl, _, _, _, hel⟩ := hv11
  obtain ⟨b11, o11, rfl, _, _, _, _, v12, hv12, hbw⟩ := hel 0 (by simp)
  simp only [Nat.zero_mul, Nat.add_zero] at hv12
  obtain ⟨g12, o12, c12, rfl, hc121, hc122⟩ := BytesW.base hbw (by simp only [List.getElem_cons_zero, dataB_length]; omega)
  obtain ⟨⟨x2, hx2⟩, hfx2, hg12⟩ := BytesW.at hbw 2 (by simp only [List.getElem_cons_zero, dataB_length]; omega)
  simp only [List.getElem_cons_zero, dataB_length] at hv12 hc121
  have HS11 := Lib.hid hS11
  have HBW := Lib.hid hbw
  have HG12 := Lib.hid hg12
  clear hS11 hbw hg12
  clear hF hi1 hi2 hel
  go_wp2_with fail
  have hg : ∀ F, (PutsWA (.slice (some ⟨b11, o11, none⟩) 1 c11) [⟨r, dataB k⟩]).P F w11 → F g12 := by
    rintro F ⟨p, c, hv, _, _, _, h4⟩
    cases hv
    obtain ⟨b', o', hp, _, _, _, _, u, hu, hw⟩ := h4 0 (by simp)
    cases hp
    simp only [Nat.zero_mul, Nat.add_zero] at hu
    rw [hv12] at hu
    cases hu
    obtain ⟨_, _, h5⟩ := BytesW.at hw 2 (by simp only [List.getElem_cons_zero, dataB_length]; omega)
    exact h5
  have hS12 := HS11.out.poke 5 rfl g12 (o12 + 2) hg (.int .u8 (((x2.toNat : Int) + 1) % 256))
  generalize w11.setCell ⟨g12, o12 + 2, none⟩ (.int .u8 (((x2.toNat : Int) + 1) % 256)) = w12 at *
  have HS12 := Lib.hid hS12
  clear hS12
  clear hx2 hfx2 hv12 hg
  obtain ⟨F, hF, _⟩ := HS12.out.get 1 rfl
  refine (modelGet_any F _ 10 r _ _ hF HL40.out).mono ?_
  rintro e w13 (⟨hno, _⟩ | ⟨_, v13, rfl, hv13, hb13⟩)
  · exact absurd (hno.symm.trans HBLK.out) (by decide)
  rw [HLOOK.out] at hv13
  have hS13 := HS12.out.up hb13
  have HV13 := Lib.hid hv13
  have HB13 := Lib.hid hb13
  have HS13 := Lib.hid hS13
  clear hv13 hb13 hS13
  clear hF
  go_wp2_with fail
  refine (data_any k _).mono ?_
  rintro e w14 ⟨dv14, rfl, hd14, hb14⟩
  have hS14 := HS13.out.up hb14
  have HD14 := Lib.hid hd14
  have HB14 := Lib.hid hb14
  have HS14 := Lib.hid hS14
  clear hd14 hb14 hS14
  go_wp2_with fail
  refine (bytes_any (fun _ => True) _ _ (dataB k) (dataB k) _ (BytesAt.mono (HV13.out.up HB14.out) fun _ _ => trivial) (BytesAt.mono HD14.out fun _ _ => trivial)).mono ?_
  rintro e w15 ⟨rfl, hb15⟩
  have hS15 := HS14.out.up hb15
  have HB15 := Lib.hid hb15
  have HS15 := Lib.hid hS15
  clear hb15 hS15
  rw [show (dataB k == dataB k) = true by simp]
  go_wp2_with fail
  refine (awake22 _).mono ?_
  rintro e w16 ⟨rfl, hb16⟩
  have hS16 := HS15.out.up hb16
  have HB16 := Lib.hid hb16
  have HS16 := Lib.hid hS16
  clear hb16 hS16
  go_wp2
  go_ret
  exact ⟨rfl, HS16.out.old⟩
end Go.Proofs
