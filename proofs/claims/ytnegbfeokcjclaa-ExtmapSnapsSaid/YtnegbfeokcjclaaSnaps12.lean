/- ExtmapSnaps: what is read at a time is what was applied up to it, whatever is applied later: for every input the law returns true. -/
import Derived.Test.YtnegbfeokcjclaaLaw12
import Derived.Test.YtnegbfeokcjclaaInfo
namespace Go.Proofs
open Go.RowKit Sc

theorem cell_set_drew {w : World} {g r b o : Nat} {v u : Value} (h : b ≠ g) (hc : w.cell? ⟨b, o, none⟩ = some u) : (w.setCell ⟨g, r, none⟩ v).drew.cell? ⟨b, o, none⟩ = some u := (cell_set_other (w := w) h).trans hc
def setPuts (ls : List Bytes) (l : List Put) : List Bytes := l.foldl (fun ls p => ls.set p.lba.toNat p.data) ls
theorem setPuts_length (l : List Put) : ∀ ls : List Bytes, (setPuts ls l).length = ls.length := by
  induction l with
  | nil => intro ls; rfl
  | cons p t ih => intro ls; show (setPuts (ls.set p.lba.toNat p.data) t).length = _; rw [ih, List.length_set]
theorem setPuts_other : ∀ (l : List Put) (ls : List Bytes) (j : Nat), (∀ p ∈ l, p.lba.toNat ≠ j) → (setPuts ls l).getD j [] = ls.getD j []
  | [], _, _, _ => rfl
  | p :: l, ls, j, h => by
    show (setPuts (ls.set p.lba.toNat p.data) l).getD j [] = _
    rw [setPuts_other l _ j (fun q hq => h q (by simp [hq]))]
    have : p.lba.toNat ≠ j := h p (by simp)
    simp [List.getD, List.getElem?_set_ne this]
theorem setPuts_mine : ∀ (l : List Put) (ls : List Bytes) (p : Put), (l.map (·.lba)).Nodup → (∀ q ∈ l, 0 ≤ q.lba ∧ q.lba < ls.length) → p ∈ l → (setPuts ls l).getD p.lba.toNat [] = p.data
  | q :: l, ls, p, hn, hr, hp => by
    simp only [List.map_cons, List.nodup_cons] at hn
    show (setPuts (ls.set q.lba.toNat q.data) l).getD p.lba.toNat [] = _
    rcases List.mem_cons.1 hp with rfl | hp
    · rw [setPuts_other l _ _ (fun x hx e => hn.1 (List.mem_map.2 ⟨x, hx, by have := hr p (by simp); have := hr x (by simp [hx]); omega⟩))]
      have := hr p (by simp)
      simp [List.getD, show p.lba.toNat < ls.length by omega]
    · exact setPuts_mine l _ p hn.2 (fun x hx => by rw [List.length_set]; exact hr x (by simp [hx])) hp
  | [], _, _, _, _, h => by cases h
def wantB (ls : List Bytes) (j : Nat) : Bytes := if ls.getD j [] = [] then zeroB else ls.getD j []
theorem snap_step {last at' : Int} {vs : Vers} {ls : List Bytes} (h : GoodE 20 last vs) (hl : ls.length = 20) {t : Tx} (hc : applyCode 20 last t = 0) (hw : ∀ j : Nat, j < 20 → (getV vs j at').1 = wantB ls j) :
    ∀ j : Nat, j < 20 → (getV (applyVs t.time vs t.puts) j at').1 = wantB (if t.time ≤ at' then setPuts ls t.puts else ls) j := by
  obtain ⟨h1, h2, h3, h4, h5, _⟩ := code_zero hc
  have hn := pairwise_nodup (riseB_pairwise h3)
  intro j hj
  obtain ⟨g1, g2⟩ := getV_apply h hc (j : Int) at'
  split
  · rename_i ht
    by_cases hk : ∃ p ∈ t.puts, p.lba = (j : Int)
    · obtain ⟨p, hp, e⟩ := hk
      rw [g2 ht p hp e]
      have hm := setPuts_mine t.puts ls p hn (fun q hq => by have := h4 q hq; omega) hp
      rw [e, Int.toNat_natCast] at hm
      unfold wantB
      rw [hm, if_neg]
      intro he
      have := h5 p hp
      rw [he] at this; simp at this
    · rw [g1 (.inr fun p hp e => hk ⟨p, hp, e⟩), hw j hj]
      unfold wantB
      rw [setPuts_other t.puts ls j (fun p hp e => hk ⟨p, hp, by have := h4 p hp; omega⟩)]
  · rename_i ht
    rw [g1 (.inl (by omega)), hw j hj]
theorem apply_len {blocks last : Int} {vs : Vers} {t : Tx} {m : Nat} (h : GoodE blocks last vs) (hm : ∀ k l, alook vs k = some l → l.length ≤ m) : ∀ k l, alook (applyNext blocks last vs t) k = some l → l.length ≤ m + 1 := by
  intro k l hl
  unfold applyNext at hl
  split at hl
  · rename_i hc
    obtain ⟨h1, h2, h3, h4, h5, _⟩ := code_zero hc
    have hn := pairwise_nodup (riseB_pairwise h3)
    by_cases hk : ∃ p ∈ t.puts, p.lba = k
    · obtain ⟨p, hp, rfl⟩ := hk
      rw [applyVs_mine _ _ _ p hn hp] at hl
      cases hl
      cases hx : alook vs p.lba with
      | none => simp
      | some l' => have := hm _ _ hx; simp; omega
    · rw [applyVs_other _ _ _ k (fun p hp e => hk ⟨p, hp, e⟩)] at hl
      have := hm k l hl; omega
  · have := hm k l hl; omega
theorem ssz_mem {l : List Step12} {s : Step12} (h : s ∈ l) : s.t.puts.length ≤ ssz l := by
  unfold ssz
  induction l with
  | nil => cases h
  | cons a t ih =>
    simp only [List.map_cons, List.sum_cons]
    rcases List.mem_cons.1 h with rfl | h
    · unfold psz; omega
    · have := ih h; omega
theorem all2b_at {F : Nat → Prop} {w : World} {vs : List Value} {ls : List Bytes} (h : All2 (BytesAt F w) vs ls) (i : Nat) (hi : i < vs.length) : ∃ v, vs[i]? = some v ∧ BytesAt F w v (ls.getD i []) := by
  have hl := All2.length h
  refine ⟨vs[i], List.getElem?_eq_getElem hi, ?_⟩
  have := All2.get h i hi (by omega)
  simpa [List.getD, show i < ls.length by omega] using this
theorem all2b_set {F : Nat → Prop} {w : World} {a : Value} {b : Bytes} (h : BytesAt F w a b) : ∀ {l : List Value} {m : List Bytes} (i : Nat), All2 (BytesAt F w) l m → All2 (BytesAt F w) (l.set i a) (m.set i b)
  | [], [], _, _ => trivial
  | _ :: _, _ :: _, 0, ⟨_, h2⟩ => ⟨h, h2⟩
  | _ :: _, _ :: _, i + 1, ⟨h1, h2⟩ => ⟨h1, all2b_set h i h2⟩
  | [], _ :: _, _, h' => h'.elim
  | _ :: _, [], _, h' => h'.elim
theorem all2b_nils (F : Nat → Prop) (w : World) : ∀ n, All2 (BytesAt F w) (List.replicate n (.slice none 0 0)) (List.replicate n [])
  | 0 => trivial
  | n + 1 => ⟨SlAt.nil, all2b_nils F w n⟩

set_option maxRecDepth 100000 in
set_option maxHeartbeats 4000000 in
theorem snaps12_any (vl : Value) (l : List Step12) (at' : Int) (w : World) (hl : Steps12 (Old w) w vl l) (hat : I64 at') : Calls Try.prog 3 #[vl, .int .i64 at'] w (Tru w) := by
  have HL := Lib.hid hl
  obtain ⟨lp, lc, rfl, hll, hlc, _, _⟩ := hl
  go_enter Try.func3, Try.ntmps3
  go_wp2_with fail
  refine (small12_any (Old w) _ l _ (fun k hk => hk) HL.out).mono ?_
  rintro e w1 ⟨q, rfl, hq, hb1⟩
  have hS1 := (Sep.start w).up hb1
  have HS1 := Lib.hid hS1
  have HQ := Lib.hid hq
  clear hS1 hq
  cases q with
  | false =>
    go_wp2_with fail
    refine (awake12 _).mono ?_
    rintro e w2 ⟨rfl, hb2⟩
    have hS2 := HS1.out.up hb2
    have HS2 := Lib.hid hS2
    have HB2 := Lib.hid hb2
    clear hS2 hb2
    go_wp2
    go_ret
    exact ⟨rfl, HS2.out.old⟩
  | true =>
    obtain ⟨hsz, h100⟩ := HQ.out rfl
    obtain ⟨i0, hi, hz0, hz1, hz2⟩ := info_parts infoRow
    go_wp2_with fail
    refine (extNew_sep HS1.out 20 (by omega) (by omega)).mono ?_
    rintro e w2 ⟨b, rfl, hS2⟩
    have HS2 := Lib.hid hS2
    clear hS2
    go_wp2_with (at_make; refine wpList_make_full _ rfl _ _ 29 rfl w2.heap.size 36 i0 (.slice none 0 0) 1 Try.underlying29 hi hz0 hz1 _ _ _ _ 20 rfl rfl rfl rfl (by rw [hz2]; omega) (by unfold maxLen; omega) (Nat.le_refl _) ?_; intro w3 hown3 hgrow3)
    rw [made_one (z := .slice none 0 0) rfl] at hown3
    have hS3 := HS2.out.row_new ((Below.refl _ _).grown hgrow3 (Nat.le_refl _) (fun j hj => by cases hj)) hown3
    have hgw : w.heap.size ≤ w2.heap.size := HS2.out.grow.size
    generalize w2.heap.size = g at *
    have HS3 := Lib.hid hS3
    clear hS3
    clear hown3 hgrow3 hi hz0 hz1 hz2
    go_wp2_with fail
    go_loopw [8] (fun i wr => ∃ k : Nat, ∃ last vs vals ls, k ≤ l.length ∧ i = .int .i64 k ∧ Hid (Sep w [OldA w, ExtA (.pointer (some ⟨b, 0, none⟩)) 20 last vs, RowA 36 1 (.slice (some ⟨g, 0, none⟩) 20 20) 20 vals] wr) ∧
      Hid (GoodE 20 last vs ∧ vals.length = 20 ∧ All2 (BytesAt (Old w) w) vals ls ∧ (∀ j : Nat, j < 20 → (getV vs j at').1 = wantB ls j) ∧ ∀ key l, alook vs key = some l → l.length ≤ k)) (fun i _ => l.length - (intOf i).toNat)
    case atStart =>
      refine ⟨0, 0, [], _, List.replicate 20 [], by omega, rfl, HS3.out, GoodE.start 20, by simp, all2b_nils _ _ 20, fun j hj => ?_, fun key l h => by simp [alook] at h⟩
      unfold wantB
      rw [if_pos]
      · rfl
      · simp only [List.getD, List.getElem?_replicate]; split <;> rfl
    case round =>
      obtain ⟨k, last, vs, vals, ls, hk, rfl, HS, HI⟩ := hrel
      by_cases hlt : k < l.length
      case neg =>
        go_wp2_with fail
        refine (awake12 _).mono ?_
        rintro e w4 ⟨rfl, hb4⟩
        have hS4 := HS.out.up hb4
        have HS4 := Lib.hid hS4
        clear hS4
        go_wp2_with fail
        go_ret
        exact ⟨rfl, HS4.out.old⟩
      case pos =>
        obtain ⟨p', c', hv', _, _, _, g5⟩ := HL.out
        cases hv'
        obtain ⟨bb, o, rfl, hgb, hck, hki, htx, hcn⟩ := g5 k hlt
        obtain ⟨pv, hct, hcp, htt, hone⟩ := txE_txAt htx
        have hpl := ssz_mem (List.getElem_mem hlt)
        generalize l[k] = s at hck hki hct hcp htt hpl
        have hbo := HS.out.old
        have hck' := (hbo.cell (p := ⟨bb, o + k * 4, none⟩) hgb).trans hck
        have hct' := (hbo.cell (p := ⟨bb, o + k * 4 + 1, none⟩) hgb).trans hct
        have hcp' := (hbo.cell (p := ⟨bb, o + k * 4 + 1 + 1, none⟩) hgb).trans hcp
        have HTT := Lib.hid htt
        obtain ⟨pv', hpe, hti, hp⟩ := htt
        cases hpe
        have HP := Lib.hid hp
        obtain ⟨pp, pc, rfl, hp1, hp2, hp3, hp4⟩ := hp
        have HP4 := Lib.hid hp4
        have HBO := Lib.hid hbo
        clear hp4 hbo
        clear g5 hcn htx hp3
        by_cases hkind : s.kind = 1
        case neg =>
          have hkn : (s.kind != 1) = true := by rw [bne_iff_ne]; exact hkind
          have HKIND := Lib.hid hkind
          clear hkind
          go_wp2_with fail
          go_roundw
          case rel => exact ⟨k + 1, last, vs, vals, ls, by omega, by go_num, HS.out, HI.out.1, HI.out.2.1, HI.out.2.2.1, HI.out.2.2.2.1, fun key l h => by have := HI.out.2.2.2.2 key l h; omega⟩
          case measure => simp [intOf]; omega
        case pos =>
          have hkn : (s.kind != 1) = false := by rw [bne_eq_false_iff_eq]; exact hkind
          have happ := extApply_sep HS.out 1 (tv := .agg #[.int .i64 s.t.time, .slice pp s.t.puts.length pc]) rfl (by omega) s.t (fun G hG => (HTT.out.same (HBO.out.block · ·)).mono (rest_old (by decide) hG)) (fun key l h => by have := HI.out.2.2.2.2 key l h; omega) (by omega)
          have hlen := apply_len (t := s.t) HI.out.1 HI.out.2.2.2.2
          have hgood := HI.out.1.next s.t
          have HAPP := Lib.hid happ
          have HLEN := Lib.hid hlen
          have HGOOD := Lib.hid hgood
          have HKIND := Lib.hid hkind
          clear happ hlen hgood hkind
          by_cases hcode : applyCode 20 last s.t = 0
          case neg =>
            have hcn : (applyCode 20 last s.t != 0) = true := by rw [bne_iff_ne]; exact hcode
            have hvs : applyNext 20 last vs s.t = vs := by unfold applyNext; rw [if_neg hcode]
            have hls : applyLast 20 last s.t = last := by unfold applyLast; rw [if_neg hcode]
            have HCODE := Lib.hid hcode
            have HVS := Lib.hid hvs
            have HLS := Lib.hid hls
            clear hcode hvs hls
            go_wp2_with fail
            refine (HAPP.out).mono ?_
            rintro e w4 ⟨rfl, hS4⟩
            rw [HVS.out, HLS.out] at hS4
            have HS4 := Lib.hid hS4
            clear hS4
            go_wp2_with fail
            go_roundw
            case rel => exact ⟨k + 1, last, vs, vals, ls, by omega, by go_num, HS4.out, HI.out.1, HI.out.2.1, HI.out.2.2.1, HI.out.2.2.2.1, fun key l h => by have := HI.out.2.2.2.2 key l h; omega⟩
            case measure => simp [intOf]; omega
          case pos =>
            have hvs : applyNext 20 last vs s.t = applyVs s.t.time vs s.t.puts := by unfold applyNext; rw [if_pos hcode]
            have hls : applyLast 20 last s.t = s.t.time := by unfold applyLast; rw [if_pos hcode]
            have hstep := snap_step (at' := at') HI.out.1 (by have := All2.length HI.out.2.2.1; have := HI.out.2.1; omega) hcode HI.out.2.2.2.1
            obtain ⟨_, _, _, hin, h40, _⟩ := code_zero hcode
            have HCD := Lib.hid hcode
            have HVS := Lib.hid hvs
            have HLS := Lib.hid hls
            have HSTEP := Lib.hid hstep
            have HIN := Lib.hid hin
            have H40 := Lib.hid h40
            clear hvs hls hstep hin h40
            clear hcode
            go_wp2_with fail
            refine (HAPP.out).mono ?_
            rintro e w4 ⟨rfl, hS4⟩
            rw [HCD.out]
            rw [HVS.out, HLS.out] at hS4
            rw [HVS.out, HLS.out] at HGOOD
            rw [HVS.out] at HLEN
            have hbo4 := hS4.old
            have hct4 := (hbo4.cell (p := ⟨bb, o + k * 4 + 1, none⟩) hgb).trans hct
            have hcp4 := (hbo4.cell (p := ⟨bb, o + k * 4 + 1 + 1, none⟩) hgb).trans hcp
            generalize applyVs s.t.time vs s.t.puts = vs2 at *
            have HS4 := Lib.hid hS4
            have HBO4 := Lib.hid hbo4
            clear hS4 hbo4
            clear hck' hct' hcp' hck hki
            obtain ⟨W0, rfl⟩ : ∃ W0 : World, W0 = wr := ⟨_, rfl⟩
            go_wp2_with fail
            go_loopw [9] (fun i wr => ∃ k2 : Nat, ∃ vals2 ls2, k2 ≤ s.t.puts.length ∧ i = .int .i64 k2 ∧ Hid (Sep w [OldA w, ExtA (.pointer (some ⟨b, 0, none⟩)) 20 s.t.time vs2, RowA 36 1 (.slice (some ⟨g, 0, none⟩) 20 20) 20 vals2] wr) ∧
              Hid (vals2.length = 20 ∧ All2 (BytesAt (Old w) w) vals2 ls2 ∧ ls2 = setPuts ls (s.t.puts.take k2)) ∧ Hid (0 < k2 → s.t.time ≤ at')) (fun i _ => s.t.puts.length - (intOf i).toNat)
            case atStart => exact ⟨0, vals, ls, by omega, rfl, HS4.out, ⟨HI.out.2.1, HI.out.2.2.1, rfl⟩, fun h => absurd h (by omega)⟩
            case round =>
              obtain ⟨k2, vals2, ls2, hk2, rfl, HS5, HV, HT⟩ := hrel
              have hbo5 := HS5.out.old
              have hct5 := (hbo5.cell (p := ⟨bb, o + k * 4 + 1, none⟩) hgb).trans hct
              have hcp5 := (hbo5.cell (p := ⟨bb, o + k * 4 + 1 + 1, none⟩) hgb).trans hcp
              have HBO5 := Lib.hid hbo5
              clear hbo5
              by_cases hgo : k2 < s.t.puts.length ∧ s.t.time ≤ at'
              case pos =>
                obtain ⟨hlt2, hta⟩ := hgo
                obtain ⟨pb, po, rfl, hGb, hca, hci, dv, hcb, hd0⟩ := HP4.out k2 hlt2
                have hca5 := (HBO5.out.cell (p := ⟨pb, po + k2 * 2, none⟩) hGb).trans hca
                have hcb5 := (HBO5.out.cell (p := ⟨pb, po + k2 * 2 + 1, none⟩) hGb).trans hcb
                have htk := take_snoc s.t.puts k2 hlt2
                obtain ⟨hin0, hin1⟩ := HIN.out _ (List.getElem_mem hlt2)
                have h40y := H40.out _ (List.getElem_mem hlt2)
                generalize s.t.puts[k2] = y at hca hca5 hci hd0 htk hin0 hin1 h40y
                obtain ⟨dp, dc, rfl⟩ := shape_of hd0 h40y
                clear h40y
                obtain ⟨r, hr⟩ := Int.eq_ofNat_of_zero_le hin0
                rw [hr] at hca5 hin0 hin1
                have hr20 : r < 20 := by omega
                obtain ⟨hrow, hrf⟩ := HS5.out.row_cell 2 rfl r (by omega)
                have hvl := HV.out.1
                rw [List.getElem?_eq_getElem (by omega)] at hrow
                generalize vals2[r]'(by omega) = old at hrow
                have hS6 := HS5.out.row_set 2 rfl r (.slice dp 40 dc)
                have hls6 : setPuts ls (s.t.puts.take (k2 + 1)) = ls2.set r y.data := by
                  rw [htk, HV.out.2.2]
                  simp [setPuts, hr]
                have hv6 := all2b_set hd0 r HV.out.2.1
                have n1 : bb ≠ g := by have : bb < w.heap.size := hgb; omega
                have n2 : pb ≠ g := by have : pb < w.heap.size := hGb; omega
                have k0 : (0 : Int) ≤ (k : Int) := by omega
                have k1 : (k : Int) < (l.length : Int) := by omega
                have k3 : (0 : Int) ≤ (k2 : Int) := by omega
                have k4 : (k2 : Int) < (s.t.puts.length : Int) := by omega
                have HS6 := Lib.hid hS6
                have HLS6 := Lib.hid hls6
                have HV6 := Lib.hid hv6
                have HR := Lib.hid hr
                have HTK := Lib.hid htk
                have HVL := Lib.hid hvl
                have HD0 := Lib.hid hd0
                clear hS6 hls6 hv6 hr htk hvl hd0
                clear hca hcb hci
                go_wp2_with fail
                go_region_held3 (fun W => W.cell? ⟨bb, o + k * 4 + 1 + 1, none⟩ = some (.slice (some ⟨pb, po, none⟩) s.t.puts.length pc) ∧ W.cell? ⟨pb, po + k2 * 2, none⟩ = some (.int .i64 r) ∧ W.cell? ⟨pb, po + k2 * 2 + 1, none⟩ = some (.slice dp 40 dc))
                  (first | (go_split_ands; exact ⟨cell_set_drew n1 hcp5, cell_set_drew n2 hca5, cell_set_drew n2 hcb5⟩) | exact ⟨hcp5, hca5, hcb5⟩ | go_keep)
                  (fail)
                have hS7 := HS6.out.up (w' := (wr.setCell ⟨g, r, none⟩ (.slice dp 40 dc)).drew) (below_drewN (Below.refl _ _) 1)
                have HS7 := Lib.hid hS7
                clear hS7
                go_wp2
                go_roundw
                case rel => exact ⟨k2 + 1, _, _, by omega, by go_num, HS7.out, ⟨by rw [List.length_set]; exact HV.out.1, HV6.out, HLS6.out.symm⟩, fun _ => hta⟩
                case measure => simp [intOf]; omega
              case neg =>
                have hlen0 : 0 < s.t.puts.length := (code_zero HCD.out).2.2.2.2.2
                have hfin : ls2 = if s.t.time ≤ at' then setPuts ls s.t.puts else ls := by
                  by_cases hk : k2 < s.t.puts.length
                  · have hta : ¬ s.t.time ≤ at' := fun h => hgo ⟨hk, h⟩
                    have h0 : k2 = 0 := by
                      rcases Nat.eq_zero_or_pos k2 with h | h
                      · exact h
                      · exact absurd (HT.out h) hta
                    rw [if_neg hta, HV.out.2.2, h0]; rfl
                  · have hk' : k2 = s.t.puts.length := by omega
                    rw [if_pos (HT.out (by omega)), HV.out.2.2, hk', List.take_length]
                have hcases : (k2 < s.t.puts.length ∧ at' < s.t.time) ∨ k2 = s.t.puts.length := by omega
                have hwant : ∀ j : Nat, j < 20 → (getV vs2 j at').1 = wantB ls2 j := by rw [hfin]; exact HSTEP.out
                have HFIN := Lib.hid hfin
                have HWANT := Lib.hid hwant
                clear hfin hwant
                clear hgo
                rcases hcases with ⟨hk2a, hk2b⟩ | rfl
                all_goals
                  go_wp2_with fail
                  obtain ⟨W1, rfl⟩ : ∃ W1 : World, W1 = wr := ⟨_, rfl⟩
                  go_loopw [10] (fun i wr => ∃ k3 : Nat, k3 ≤ 20 ∧ i = .int .i64 k3 ∧ Hid (Sep w [OldA w, ExtA (.pointer (some ⟨b, 0, none⟩)) 20 s.t.time vs2, RowA 36 1 (.slice (some ⟨g, 0, none⟩) 20 20) 20 vals2] wr)) (fun i _ => 20 - (intOf i).toNat)
                  case atStart => exact ⟨0, by omega, rfl, HS5.out⟩
                  case round =>
                    obtain ⟨k3, hk3, rfl, HS8⟩ := hrel
                    by_cases hlt3 : k3 < 20
                    case neg =>
                      go_wp2_with fail
                      go_roundw
                      case rel => exact ⟨k + 1, s.t.time, vs2, vals2, ls2, by omega, by go_num, HS8.out, HGOOD.out, HV.out.1, HV.out.2.1, HWANT.out, HLEN.out⟩
                      case measure => simp [intOf]; omega
                    case pos =>
                      obtain ⟨F, hF, _⟩ := HS8.out.get 1 rfl
                      by_cases hgo3 : at' ≤ s.t.time ∨ k = l.length - 1
                      case neg =>
                        have hA : s.t.time < at' := by omega
                        have hB : ((k : Int) == (l.length : Int) - 1) = false := by rw [beq_eq_false_iff_ne]; omega
                        try (exfalso; omega)
                        all_goals
                          have HF := Lib.hid hF
                          clear hF
                          clear hgo3
                          go_wp2_with fail
                          refine (extLast_any F _ _ _ _ _ HF.out).mono ?_
                          rintro e w6 ⟨rfl, rfl⟩
                          go_wp2_with fail
                          go_roundw
                          case rel => exact ⟨k + 1, s.t.time, vs2, vals2, ls2, by omega, by go_num, HS8.out, HGOOD.out, HV.out.1, HV.out.2.1, HWANT.out, HLEN.out⟩
                          case measure => simp [intOf]; omega
                      case pos =>
                        have hbk : blk 20 (k3 : Int) = true := by unfold blk; rw [decide_eq_true (by omega), decide_eq_true (by omega)]; rfl
                        have hwk := HWANT.out k3 hlt3
                        obtain ⟨dv, hdv, hdb⟩ := all2b_at HV.out.2.1 k3 (by have := HV.out.1; omega)
                        have hgo4 : at' ≤ s.t.time ∨ (s.t.time < at' ∧ ((k : Int) == (l.length : Int) - 1) = true) := by
                          rcases hgo3 with h | h
                          · exact .inl h
                          · by_cases h' : at' ≤ s.t.time
                            · exact .inl h'
                            · exact .inr ⟨by omega, by rw [beq_iff_eq]; omega⟩
                        have hd40 := HGOOD.out.d40
                        unfold wantB at hwk
                        generalize ls2.getD k3 [] = d at hdb hwk
                        obtain ⟨dp, dc, rfl⟩ := shape_of hdb rfl
                        have HF := Lib.hid hF
                        have HBK := Lib.hid hbk
                        have HWK := Lib.hid hwk
                        have HDB := Lib.hid hdb
                        have HDV := Lib.hid hdv
                        have HD40 := Lib.hid hd40
                        clear hF hbk hwk hdb hdv hd40
                        clear hgo3
                        rcases hgo4 with hA | ⟨hA, hB⟩
                        all_goals try (exfalso; omega)
                        all_goals
                          go_wp2_with fail
                          refine (extLast_any F _ _ _ _ _ HF.out).mono ?_
                          rintro e w6 ⟨rfl, rfl⟩
                          go_wp2_with fail
                          refine (extGet_any F _ _ _ _ (k3 : Int) at' _ HF.out HD40.out).mono ?_
                          rintro e w7 (⟨hno, _⟩ | ⟨_, v7, rfl, hv7, hb7⟩)
                          · exact absurd (hno.symm.trans HBK.out) (by decide)
                          have hS9 := HS8.out.up hb7
                          obtain ⟨hrow, _⟩ := hS9.row_cell 2 rfl k3 (by omega)
                          rw [HDV.out] at hrow
                          generalize (getV vs2 (k3 : Int) at').2 = since
                          generalize hgb : (getV vs2 (k3 : Int) at').1 = gb at *
                          have hv7' := BytesW.bytes hv7
                          have HS9 := Lib.hid hS9
                          have HB7 := Lib.hid hb7
                          have HV7 := Lib.hid hv7
                          have HV7' := Lib.hid hv7'
                          clear hS9 hb7 hv7 hv7'
                          by_cases he : d = []
                          · subst he
                            have hgz : gb = zeroB := by rw [HWK.out, if_pos rfl]
                            subst hgz
                            obtain ⟨i1, hi, hz0, hz1, hz2⟩ := info_parts infoU8
                            go_wp2_with (at_make; refine wpList_make_full _ rfl _ _ 36 rfl w7.heap.size 5 i1 (.int .u8 0) 1 Try.underlying36 hi hz0 hz1 _ _ _ _ 40 rfl rfl rfl rfl (by rw [hz2]; omega) (by unfold maxLen; omega) (Nat.le_refl _) ?_; intro w8 hown8 hgrow8)
                            have hlt8 := hown8.lt w7.heap.size rfl
                            have hd8 : BytesAt (New w7 w8) w8 (.slice (some ⟨w7.heap.size, 0, none⟩) 40 40) zeroB := bytesAt_row (B := w7.heap.size) (l := zeroB) _ ⟨Nat.le_refl _, hlt8.2⟩ (by decide) (Nat.le_refl _) (by omega) (by rw [made_u8] at hown8; exact hown8)
                            have hb78 : Below w7.heap.size w7 w8 := (Below.refl _ _).grown hgrow8 (Nat.le_refl _) (fun j hj => by cases hj)
                            have hS10 := HS9.out.up hb78
                            have HD8 := Lib.hid hd8
                            have HB78 := Lib.hid hb78
                            have HS10 := Lib.hid hS10
                            clear hd8 hb78 hS10
                            clear hown8 hgrow8 hi hz0 hz1 hz2
                            go_wp2_with fail
                            refine (bytes_any (fun _ => True) _ _ zeroB zeroB _ (BytesAt.mono (HV7'.out.up HB78.out) fun _ _ => trivial) (BytesAt.mono HD8.out fun _ _ => trivial)).mono ?_
                            rintro e w9 ⟨rfl, hb9⟩
                            rw [show (zeroB == zeroB) = true by simp]
                            have hS11 := HS10.out.up hb9
                            have HB9 := Lib.hid hb9
                            have HS11 := Lib.hid hS11
                            clear hb9 hS11
                            go_wp2_with fail
                            go_roundw
                            case rel => exact ⟨k3 + 1, by omega, by go_num, HS11.out⟩
                            case measure => simp [intOf]; omega
                          · have hgz : gb = d := by rw [HWK.out, if_neg he]
                            subst hgz
                            have hdl : ((gb.length : Int) == 0) = false := by
                              rw [beq_eq_false_iff_ne]
                              intro e
                              exact he (List.length_eq_zero_iff.1 (by omega))
                            have hdb8 := (HDB.out.same (w' := w7) (fun q hq => HS9.out.old.block q hq))
                            have HE := Lib.hid he
                            have HDB8 := Lib.hid hdb8
                            clear he hdb8
                            go_wp2_with fail
                            refine (bytes_any (fun _ => True) _ _ gb gb _ (BytesAt.mono HV7'.out fun _ _ => trivial) (BytesAt.mono HDB8.out fun _ _ => trivial)).mono ?_
                            rintro e w9 ⟨rfl, hb9⟩
                            rw [show (gb == gb) = true by simp]
                            have hS11 := HS9.out.up hb9
                            have HB9 := Lib.hid hb9
                            have HS11 := Lib.hid hS11
                            clear hb9 hS11
                            go_wp2_with fail
                            go_roundw
                            case rel => exact ⟨k3 + 1, by omega, by go_num, HS11.out⟩
                            case measure => simp [intOf]; omega
end Go.Proofs
