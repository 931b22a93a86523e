/- WbufLast: what is written is read again, the last one; a vector that is refused changes nothing: for every input the law returns true. -/
import Derived.Test.YteodkepnalhceaaSmall14
import Derived.Test.YteodkepnalhceaaSetPuts
namespace Go.Proofs
open Go.RowKit Sc

theorem putsTo_other : ∀ (l : List Put) (s : List (Int × Bytes)) (k : Int), (∀ p ∈ l, p.lba ≠ k) → alook (putsTo s l) k = alook s k
  | [], s, k, _ => rfl
  | p :: l, s, k, h => by
    show alook (putsTo (aset s p.lba p.data) l) k = _
    rw [putsTo_other l _ k (fun q hq => h q (by simp [hq])), alook_aset, if_neg (fun e => h p (by simp) e.symm)]
theorem putsTo_mine : ∀ (l : List Put) (s : List (Int × Bytes)) (p : Put), (l.map (·.lba)).Nodup → p ∈ l → alook (putsTo s l) p.lba = some p.data
  | q :: l, s, p, hn, hp => by
    simp only [List.map_cons, List.nodup_cons] at hn
    show alook (putsTo (aset s q.lba q.data) l) p.lba = _
    rcases List.mem_cons.1 hp with rfl | hp
    · rw [putsTo_other l _ _ (fun x hx e => hn.1 (List.mem_map.2 ⟨x, hx, e⟩)), alook_aset, if_pos rfl]
    · exact putsTo_mine l _ p hn.2 hp
  | [], _, _, _, h => by cases h
/-- What is kept beside a Buf of 20 blocks says what it holds. -/
def WL (s : List (Int × Bytes)) (ls : List Bytes) : Prop := ls.length = 20 ∧ ∀ j : Nat, j < 20 → (alook s (j : Int) = none ∧ ls.getD j [] = []) ∨ ∃ d, alook s (j : Int) = some d ∧ ls.getD j [] = d ∧ d.length = 40
theorem WL.next {s : List (Int × Bytes)} {ls : List Bytes} (h : WL s ls) {l : List Put} (hc : bufCode 20 16 s l = 0) : WL (putsTo s l) (setPuts ls l) := by
  obtain ⟨_, h2, h3, h4, _⟩ := bufCode_zero hc
  refine ⟨by rw [setPuts_length]; exact h.1, fun j hj => ?_⟩
  by_cases hk : ∃ p ∈ l, p.lba = (j : Int)
  · obtain ⟨p, hp, e⟩ := hk
    right
    refine ⟨p.data, by rw [← e]; exact putsTo_mine l s p h4 hp, ?_, h3 p hp⟩
    have := setPuts_mine l ls p h4 (fun q hq => by have := h2 q hq; have := h.1; omega) hp
    rw [e, Int.toNat_natCast] at this
    exact this
  · rw [putsTo_other l s j (fun p hp e => hk ⟨p, hp, e⟩), setPuts_other l ls j (fun p hp e => hk ⟨p, hp, by have := h2 p hp; omega⟩)]
    exact h.2 j hj
def okN (s : List (Int × Bytes)) (m : Nat) : Nat := ((List.range m).filter fun k : Nat => (alook s (k : Int)).isSome).length
theorem okN_succ (s : List (Int × Bytes)) (m : Nat) : okN s (m + 1) = okN s m + if (alook s (m : Int)).isSome then 1 else 0 := by
  unfold okN
  rw [List.range_succ, List.filter_append, List.length_append]
  congr 1
  cases hq : (alook s (m : Int)).isSome <;> simp [hq]
theorem okN_le (s : List (Int × Bytes)) (m : Nat) : okN s m ≤ m := by
  unfold okN
  exact Nat.le_trans (List.length_filter_le _ _) (by simp)
theorem okN_all {s : List (Int × Bytes)} (h : BufG 20 s) : okN s 20 = s.length := by
  have hp : ((List.range 20).filter fun k : Nat => (alook s (k : Int)).isSome).Perm (s.map fun x => x.1.toNat) := by
    refine (List.perm_ext_iff_of_nodup (List.nodup_range.sublist (List.filter_sublist ..)) ?_).2 fun k => ?_
    · have hnd := h.nd
      have hks := h.ks
      unfold List.Nodup at hnd ⊢
      rw [List.pairwise_map] at hnd ⊢
      exact hnd.imp_of_mem fun {a b} ha hb hne e => hne (by have := hks a ha; have := hks b hb; omega)
    · rw [List.mem_filter, List.mem_range, List.mem_map]
      constructor
      · rintro ⟨h1, h2⟩
        obtain ⟨d, hd⟩ := Option.isSome_iff_exists.1 h2
        exact ⟨_, alook_in hd, by simp⟩
      · rintro ⟨x, hx, rfl⟩
        have := h.ks x hx
        refine ⟨by omega, ?_⟩
        rw [Int.toNat_of_nonneg this.1, alook_mem h.nd hx]; rfl
  unfold okN
  rw [hp.length_eq, List.length_map]

set_option maxRecDepth 100000 in
set_option maxHeartbeats 8000000 in
theorem last14_any (vl : Value) (l : List (List Put)) (w : World) (hl : RowsAt (Old w) w vl l) : Calls Try.prog 10 #[vl] w (Tru w) := by
  have HL := Lib.hid hl
  obtain ⟨lp, lc, rfl, hll, hlc, _, _⟩ := hl
  go_enter Try.func10, Try.ntmps10
  go_wp2_with fail
  refine (small14_any (Old w) _ l _ (fun k hk => hk) HL.out).mono ?_
  rintro e w1 ⟨q, rfl, hq, hb1⟩
  have hS1 := (Sep.start w).up hb1
  have HS1 := Lib.hid hS1
  have HQ := Lib.hid hq
  clear hS1 hq
  cases q with
  | false =>
    go_wp2_with fail
    refine (awake14 _).mono ?_
    rintro e w2 ⟨rfl, hb2⟩
    have hS2 := HS1.out.up hb2
    have HS2 := Lib.hid hS2
    have HB2 := Lib.hid hb2
    clear hS2 hb2
    go_wp2
    go_ret
    exact ⟨rfl, HS2.out.old⟩
  | true =>
    obtain ⟨hsz, h100⟩ := HQ.out rfl
    obtain ⟨i0, hi, hz0, hz1, hz2⟩ := info_parts infoRow
    go_wp2_with fail
    refine (bufNew_sep HS1.out 20 16 (by omega) (by omega) (by omega)).mono ?_
    rintro e w2 ⟨b, rfl, HS2⟩
    go_wp2_with (at_make; refine wpList_make_full _ rfl _ _ 64 rfl w2.heap.size 51 i0 (.slice none 0 0) 1 Try.underlying64 hi hz0 hz1 _ _ _ _ 20 rfl rfl rfl rfl (by rw [hz2]; omega) (by unfold maxLen; omega) (Nat.le_refl _) ?_; intro w3 hown3 hgrow3)
    rw [made_one (z := .slice none 0 0) rfl] at hown3
    have hS3 := HS2.out.row_new ((Below.refl _ _).grown hgrow3 (Nat.le_refl _) (fun j hj => by cases hj)) hown3
    have hgw : w.heap.size ≤ w2.heap.size := HS2.out.grow.size
    generalize w2.heap.size = g at *
    have HS3 := Lib.hid hS3
    clear hS3
    clear hown3 hgrow3 hi hz0 hz1 hz2
    go_wp2_with fail
    go_loopw [6] (fun i wr => ∃ k : Nat, ∃ s vals ls, k ≤ l.length ∧ i = .int .i64 k ∧ Hid (Sep w [OldA w, BufA (.pointer (some ⟨b, 0, none⟩)) 20 16 s, RowA 51 1 (.slice (some ⟨g, 0, none⟩) 20 20) 20 vals] wr) ∧
      Hid (BufG 20 s ∧ s.length ≤ 16 ∧ vals.length = 20 ∧ All2 (BytesAt (Old w) w) vals ls ∧ WL s ls)) (fun i _ => l.length - (intOf i).toNat)
    case atStart =>
      refine ⟨0, [], _, List.replicate 20 [], by omega, rfl, HS3.out, BufG.start 20, by simp, by simp, all2b_nils _ _ 20, by simp, fun j hj => .inl ⟨rfl, ?_⟩⟩
      simp only [List.getD, List.getElem?_replicate]; split <;> rfl
    case round =>
      obtain ⟨k, s, vals, ls, hk, rfl, HS, HI⟩ := hrel
      by_cases hlt : k < l.length
      case neg =>
        go_wp2_with fail
        refine (awake14 _).mono ?_
        rintro e w4 ⟨rfl, hb4⟩
        have hS4 := HS.out.up hb4
        have HS4 := Lib.hid hS4
        clear hS4
        go_wp2_with fail
        go_ret
        exact ⟨rfl, HS4.out.old⟩
      case pos =>
        obtain ⟨p', c', hv', _, _, _, g5⟩ := HL.out
        cases hv'
        obtain ⟨bb, o, rfl, hgb, pv, hcp, hp⟩ := g5 k hlt
        rw [Nat.mul_one] at hcp
        have hpl := rsz_mem (List.getElem_mem hlt)
        generalize l[k] = x at hcp hp hpl
        have hbo := HS.out.old
        have hcp' := (hbo.cell (p := ⟨bb, o + k, none⟩) hgb).trans hcp
        have HP := Lib.hid hp
        obtain ⟨pp, pc, rfl, hp1, hp2, _, hp4⟩ := hp
        have hwr := bufWrite_sep HS.out 1 (lv := .slice pp x.length pc) rfl x (fun G hG => (HP.out.same (hbo.block · ·)).mono (rest_old' (by decide) hG)) (by have := HI.out.2.1; omega) (by omega)
        have hlx : x.length ≤ 20000 := by omega
        have HP4 := Lib.hid hp4
        have HBO := Lib.hid hbo
        have HWR := Lib.hid hwr
        have HLX := Lib.hid hlx
        clear hp4 hbo hwr hlx
        clear g5
        go_wp2_with fail
        refine (HWR.out).mono ?_
        rintro e w4 ⟨rfl, HS4⟩
        by_cases hcode : bufCode 20 16 s x = 0
        case neg =>
          have hnext : bufNext 20 16 s x = s := by unfold bufNext; rw [if_neg hcode]
          have hcn : (bufCode 20 16 s x == 0) = false := by rw [beq_eq_false_iff_ne]; exact hcode
          rw [hnext] at HS4
          generalize bufCode 20 16 s x = code at *
          obtain ⟨s2, vals2, ls2, HS6, HI2⟩ : ∃ s2 vals2 ls2, Hid (Sep w [OldA w, BufA (.pointer (some ⟨b, 0, none⟩)) 20 16 s2, RowA 51 1 (.slice (some ⟨g, 0, none⟩) 20 20) 20 vals2] w4) ∧ Hid (BufG 20 s2 ∧ s2.length ≤ 16 ∧ vals2.length = 20 ∧ All2 (BytesAt (Old w) w) vals2 ls2 ∧ WL s2 ls2) := ⟨s, vals, ls, HS4, HI.out⟩
          have HCODE := Lib.hid hcode
          have HNEXT := Lib.hid hnext
          clear hcode hnext
          obtain ⟨wc, rfl⟩ : ∃ wc : World, wc = w4 := ⟨_, rfl⟩
          clear hcp'
          have hbg := HI2.out.1
          have hok20 := okN_all hbg
          have hsl : s2.length ≤ 1000000 := by have := HI2.out.2.1; omega
          have HBG := Lib.hid hbg
          have HOK20 := Lib.hid hok20
          have HSL := Lib.hid hsl
          clear hbg hok20 hsl
          go_wp2_with fail
          obtain ⟨W5, rfl⟩ : ∃ W5 : World, W5 = wc := ⟨_, rfl⟩
          go_loopw [8, 9] (fun nv i wr => ∃ k3 : Nat, k3 ≤ 20 ∧ i = .int .i64 k3 ∧ nv = .int .i64 (okN s2 k3 : Nat) ∧ Hid (Sep w [OldA w, BufA (.pointer (some ⟨b, 0, none⟩)) 20 16 s2, RowA 51 1 (.slice (some ⟨g, 0, none⟩) 20 20) 20 vals2] wr)) (fun _ i _ => 20 - (intOf i).toNat)
          case atStart => exact ⟨0, by omega, rfl, rfl, HS6⟩
          case round =>
            obtain ⟨k3, hk3, rfl, rfl, HS7⟩ := hrel
            by_cases hlt3 : k3 < 20
            case neg =>
              obtain rfl : k3 = 20 := by omega
              rw [HOK20.out]
              have h16 := HI2.out.2.1
              go_wp2_with fail
              refine (bufLen_sep HS7 1 rfl HBG.out (by omega) HSL.out).mono ?_
              rintro e w7 ⟨rfl, HB7, HS8⟩
              go_wp2_with fail
              go_roundw
              case rel => exact ⟨k + 1, s2, vals2, ls2, by omega, by go_num, HS8, HI2.out⟩
              case measure => simp [intOf]; omega
            case pos =>
              obtain ⟨F7, hF7, _⟩ := HS7.out.get 1 rfl
              have hget := bufGet_any F7 _ _ _ _ (k3 : Int) _ hF7 HBG.out.d40
              have hwl := HI2.out.2.2.2.2.2 k3 hlt3
              have hsu := okN_succ s2 k3
              have hoke : okN s2 k3 ≤ k3 := okN_le s2 k3
              have HGET := Lib.hid hget
              have HSU := Lib.hid hsu
              clear hget hsu
              clear hF7
              go_wp2_with fail
              refine (HGET.out).mono ?_
              rintro e w8 (⟨hno, p8, c8, rfl, hv8, hb8⟩ | ⟨d, v8, hyes, rfl, hv8, hb8⟩)
              · rcases hwl with ⟨_, hls⟩ | ⟨d', hd', _⟩
                case inr => rw [hno] at hd'; cases hd'
                have hS8 := HS7.out.up hb8
                obtain ⟨hrow, _⟩ := hS8.row_cell 2 rfl k3 (by omega)
                obtain ⟨dv, hdv, hdb⟩ := all2b_at HI2.out.2.2.2.1 k3 (by rw [HI2.out.2.2.1]; exact hlt3)
                rw [hdv] at hrow
                rw [hls] at hdb
                obtain ⟨dp, dc, rfl⟩ := shape_of hdb rfl
                have hsu := HSU.out
                rw [hno] at hsu
                simp only [Option.isSome_none, Bool.false_eq_true, if_false, Nat.add_zero] at hsu
                have HS8 := Lib.hid hS8
                have HB8 := Lib.hid hb8
                have HV8 := Lib.hid hv8
                have HDB := Lib.hid hdb
                have HNO := Lib.hid hno
                have HLS := Lib.hid hls
                have HSU := Lib.hid hsu
                clear hS8 hb8 hv8 hdb hno hls hsu
                clear hdv
                go_wp2_with fail
                go_roundw
                case rel => exact ⟨k3 + 1, by omega, by go_num, by rw [HSU.out], HS8.out⟩
                case measure => simp [intOf]; omega
              · rcases hwl with ⟨hno, _⟩ | ⟨d', hd', hls, h40⟩
                case inl => rw [hyes] at hno; cases hno
                rw [hyes] at hd'
                cases hd'
                have hS8 := HS7.out.up hb8
                obtain ⟨hrow, _⟩ := hS8.row_cell 2 rfl k3 (by omega)
                obtain ⟨dv, hdv, hdb⟩ := all2b_at HI2.out.2.2.2.1 k3 (by rw [HI2.out.2.2.1]; exact hlt3)
                rw [hdv] at hrow
                rw [hls] at hdb
                have hdb8 : BytesAt (Old w) w8 dv d := hdb.same (fun q hq => hS8.old.block q hq)
                obtain ⟨dp, dc, rfl⟩ := shape_of hdb h40
                have hsu := HSU.out
                rw [hyes] at hsu
                simp only [Option.isSome_some, if_true] at hsu
                have hv8' := hv8.bytes
                have HS8 := Lib.hid hS8
                have HB8 := Lib.hid hb8
                have HV8 := Lib.hid hv8
                have HDB := Lib.hid hdb
                have HYES := Lib.hid hyes
                have HLS := Lib.hid hls
                have HSU := Lib.hid hsu
                have H40 := Lib.hid h40
                have HDB8 := Lib.hid hdb8
                have HV8' := Lib.hid hv8'
                clear hS8 hb8 hv8 hdb hyes hls hsu h40 hdb8 hv8'
                clear hdv
                go_wp2_with fail
                refine (bytes_any (fun _ => True) _ _ d d _ (BytesAt.mono HV8'.out fun _ _ => trivial) (BytesAt.mono HDB8.out fun _ _ => trivial)).mono ?_
                rintro e w9 ⟨rfl, hb9⟩
                rw [show (d == d) = true by simp]
                have hS9 := HS8.out.up hb9
                have HS9 := Lib.hid hS9
                have HB9 := Lib.hid hb9
                clear hS9 hb9
                go_wp2_with fail
                go_roundw
                case rel => exact ⟨k3 + 1, by omega, by go_num, by rw [HSU.out]; go_num, HS9.out⟩
                case measure => simp [intOf]; omega
        case pos =>
          have hnext : bufNext 20 16 s x = putsTo s x := by unfold bufNext; rw [if_pos hcode]
          obtain ⟨hz1, hz2, hz3, hz4, hz5⟩ := bufCode_zero hcode
          have hgood := HI.out.1.next (most := 16) x
          have hlen16 := (bufNext_len (blocks := 20) (most := 16) (s := s) x).2 (by have := HI.out.2.1; omega)
          rw [hnext] at HS4 hgood hlen16
          have hwl := HI.out.2.2.2.2.next hcode
          rw [hcode]
          have hin := hz2
          have h40 := hz3
          have HCODE := Lib.hid hcode
          have HNEXT := Lib.hid hnext
          have HGOOD := Lib.hid hgood
          have HLEN16 := Lib.hid hlen16
          have HWL := Lib.hid hwl
          have HIN := Lib.hid hin
          have H40 := Lib.hid h40
          clear hcode hnext hgood hlen16 hwl hin h40
          clear hz1 hz2 hz3 hz4 hz5 hcp'
          obtain ⟨W0, rfl⟩ : ∃ W0 : World, W0 = wr := ⟨_, rfl⟩
          go_wp2_with fail
          go_loopw [7] (fun i wr => ∃ k2 : Nat, ∃ vals2 ls2, k2 ≤ x.length ∧ i = .int .i64 k2 ∧ Hid (Sep w [OldA w, BufA (.pointer (some ⟨b, 0, none⟩)) 20 16 (putsTo s x), RowA 51 1 (.slice (some ⟨g, 0, none⟩) 20 20) 20 vals2] wr) ∧
            Hid (vals2.length = 20 ∧ All2 (BytesAt (Old w) w) vals2 ls2 ∧ ls2 = setPuts ls (x.take k2))) (fun i _ => x.length - (intOf i).toNat)
          case atStart => exact ⟨0, vals, ls, by omega, rfl, HS4, HI.out.2.2.1, HI.out.2.2.2.1, rfl⟩
          case round =>
            obtain ⟨k2, vals2, ls2, hk2, rfl, HS5, HV⟩ := hrel
            have hbo5 := HS5.out.old
            have hcp5 := (hbo5.cell (p := ⟨bb, o + k, none⟩) hgb).trans hcp
            by_cases hlt2 : k2 < x.length
            case pos =>
              obtain ⟨pb, po, rfl, hGb, hca, hci, dv, hcb, hd0⟩ := HP4.out k2 hlt2
              have hca5 := (hbo5.cell (p := ⟨pb, po + k2 * 2, none⟩) hGb).trans hca
              have hcb5 := (hbo5.cell (p := ⟨pb, po + k2 * 2 + 1, none⟩) hGb).trans hcb
              have htk := take_snoc x k2 hlt2
              obtain ⟨hin0, hin1⟩ := HIN.out _ (List.getElem_mem hlt2)
              have h40y := H40.out _ (List.getElem_mem hlt2)
              generalize x[k2] = y at hca hca5 hci hd0 htk hin0 hin1 h40y
              obtain ⟨dp, dc, rfl⟩ := shape_of hd0 h40y
              obtain ⟨r, hr⟩ := Int.eq_ofNat_of_zero_le hin0
              rw [hr] at hca5 hin0 hin1
              have hr20 : r < 20 := by omega
              obtain ⟨hrow, hrf⟩ := HS5.out.row_cell 2 rfl r (by omega)
              have hvl := HV.out.1
              rw [List.getElem?_eq_getElem (by omega)] at hrow
              generalize vals2[r]'(by omega) = old at hrow
              have hS6 := HS5.out.row_set 2 rfl r (.slice dp 40 dc)
              have hls6 : setPuts ls (x.take (k2 + 1)) = ls2.set r y.data := by
                rw [htk, HV.out.2.2]
                simp [setPuts, hr]
              have hv6 := all2b_set hd0 r HV.out.2.1
              have n1 : bb ≠ g := by have : bb < w.heap.size := hgb; omega
              have n2 : pb ≠ g := by have : pb < w.heap.size := hGb; omega
              have k0 : (0 : Int) ≤ (k : Int) := by omega
              have k1 : (k : Int) < (l.length : Int) := by omega
              have k3 : (0 : Int) ≤ (k2 : Int) := by omega
              have k4 : (k2 : Int) < (x.length : Int) := by omega
              have HS6 := Lib.hid hS6
              have HLS6 := Lib.hid hls6
              have HV6 := Lib.hid hv6
              have HR := Lib.hid hr
              have HTK := Lib.hid htk
              have HVL := Lib.hid hvl
              have HD0 := Lib.hid hd0
              have HBO5 := Lib.hid hbo5
              have H40Y := Lib.hid h40y
              clear hS6 hls6 hv6 hr htk hvl hd0 hbo5 h40y
              clear hca hcb hci
              go_wp2_with fail
              go_region_held3 (fun W => W.cell? ⟨bb, o + k, none⟩ = some (.slice (some ⟨pb, po, none⟩) x.length pc) ∧ W.cell? ⟨pb, po + k2 * 2, none⟩ = some (.int .i64 r) ∧ W.cell? ⟨pb, po + k2 * 2 + 1, none⟩ = some (.slice dp 40 dc))
                (first | (go_split_ands; exact ⟨cell_set_drew n1 hcp5, cell_set_drew n2 hca5, cell_set_drew n2 hcb5⟩) | exact ⟨hcp5, hca5, hcb5⟩ | go_keep)
                (fail)
              have hS7 := HS6.out.up (w' := (wr.setCell ⟨g, r, none⟩ (.slice dp 40 dc)).drew) (below_drewN (Below.refl _ _) 1)
              have HS7 := Lib.hid hS7
              clear hS7
              go_wp2
              go_roundw
              case rel => exact ⟨k2 + 1, _, _, by omega, by go_num, HS7.out, by rw [List.length_set]; exact HV.out.1, HV6.out, HLS6.out.symm⟩
              case measure => simp [intOf]; omega
            case neg =>
              obtain rfl : k2 = x.length := by omega
              obtain ⟨s2, vals3, ls3, HS6, HI2, hwc⟩ : ∃ s2 vals3 ls3, Hid (Sep w [OldA w, BufA (.pointer (some ⟨b, 0, none⟩)) 20 16 s2, RowA 51 1 (.slice (some ⟨g, 0, none⟩) 20 20) 20 vals3] wr) ∧ Hid (BufG 20 s2 ∧ s2.length ≤ 16 ∧ vals3.length = 20 ∧ All2 (BytesAt (Old w) w) vals3 ls3 ∧ WL s2 ls3) ∧ True := by
                refine ⟨putsTo s x, vals2, ls2, HS5, ⟨HGOOD.out, by have := HLEN16.out; omega, HV.out.1, HV.out.2.1, ?_⟩, trivial⟩
                have h := HV.out.2.2
                rw [List.take_length] at h
                rw [h]; exact HWL.out
              obtain ⟨vals2, rfl⟩ : ∃ v, v = vals3 := ⟨_, rfl⟩
              obtain ⟨ls2, rfl⟩ : ∃ v, v = ls3 := ⟨_, rfl⟩
              clear hwc
              obtain ⟨wc, rfl⟩ : ∃ wc : World, wc = wr := ⟨_, rfl⟩
              have HBO5 := Lib.hid hbo5
              clear hbo5
              have hbg := HI2.out.1
              have hok20 := okN_all hbg
              have hsl : s2.length ≤ 1000000 := by have := HI2.out.2.1; omega
              have HBG := Lib.hid hbg
              have HOK20 := Lib.hid hok20
              have HSL := Lib.hid hsl
              clear hbg hok20 hsl
              go_wp2_with fail
              obtain ⟨W5, rfl⟩ : ∃ W5 : World, W5 = wc := ⟨_, rfl⟩
              go_loopw [8, 9] (fun nv i wr => ∃ k3 : Nat, k3 ≤ 20 ∧ i = .int .i64 k3 ∧ nv = .int .i64 (okN s2 k3 : Nat) ∧ Hid (Sep w [OldA w, BufA (.pointer (some ⟨b, 0, none⟩)) 20 16 s2, RowA 51 1 (.slice (some ⟨g, 0, none⟩) 20 20) 20 vals2] wr)) (fun _ i _ => 20 - (intOf i).toNat)
              case atStart => exact ⟨0, by omega, rfl, rfl, HS6⟩
              case round =>
                obtain ⟨k3, hk3, rfl, rfl, HS7⟩ := hrel
                by_cases hlt3 : k3 < 20
                case neg =>
                  obtain rfl : k3 = 20 := by omega
                  rw [HOK20.out]
                  have h16 := HI2.out.2.1
                  go_wp2_with fail
                  refine (bufLen_sep HS7 1 rfl HBG.out (by omega) HSL.out).mono ?_
                  rintro e w7 ⟨rfl, HB7, HS8⟩
                  go_wp2_with fail
                  go_roundw
                  case rel => exact ⟨k + 1, s2, vals2, ls2, by omega, by go_num, HS8, HI2.out⟩
                  case measure => simp [intOf]; omega
                case pos =>
                  obtain ⟨F7, hF7, _⟩ := HS7.out.get 1 rfl
                  have hget := bufGet_any F7 _ _ _ _ (k3 : Int) _ hF7 HBG.out.d40
                  have hwl := HI2.out.2.2.2.2.2 k3 hlt3
                  have hsu := okN_succ s2 k3
                  have hoke : okN s2 k3 ≤ k3 := okN_le s2 k3
                  have HGET := Lib.hid hget
                  have HSU := Lib.hid hsu
                  clear hget hsu
                  clear hF7
                  go_wp2_with fail
                  refine (HGET.out).mono ?_
                  rintro e w8 (⟨hno, p8, c8, rfl, hv8, hb8⟩ | ⟨d, v8, hyes, rfl, hv8, hb8⟩)
                  · rcases hwl with ⟨_, hls⟩ | ⟨d', hd', _⟩
                    case inr => rw [hno] at hd'; cases hd'
                    have hS8 := HS7.out.up hb8
                    obtain ⟨hrow, _⟩ := hS8.row_cell 2 rfl k3 (by omega)
                    obtain ⟨dv, hdv, hdb⟩ := all2b_at HI2.out.2.2.2.1 k3 (by rw [HI2.out.2.2.1]; exact hlt3)
                    rw [hdv] at hrow
                    rw [hls] at hdb
                    obtain ⟨dp, dc, rfl⟩ := shape_of hdb rfl
                    have hsu := HSU.out
                    rw [hno] at hsu
                    simp only [Option.isSome_none, Bool.false_eq_true, if_false, Nat.add_zero] at hsu
                    have HS8 := Lib.hid hS8
                    have HB8 := Lib.hid hb8
                    have HV8 := Lib.hid hv8
                    have HDB := Lib.hid hdb
                    have HNO := Lib.hid hno
                    have HLS := Lib.hid hls
                    have HSU := Lib.hid hsu
                    clear hS8 hb8 hv8 hdb hno hls hsu
                    clear hdv
                    go_wp2_with fail
                    go_roundw
                    case rel => exact ⟨k3 + 1, by omega, by go_num, by rw [HSU.out], HS8.out⟩
                    case measure => simp [intOf]; omega
                  · rcases hwl with ⟨hno, _⟩ | ⟨d', hd', hls, h40⟩
                    case inl => rw [hyes] at hno; cases hno
                    rw [hyes] at hd'
                    cases hd'
                    have hS8 := HS7.out.up hb8
                    obtain ⟨hrow, _⟩ := hS8.row_cell 2 rfl k3 (by omega)
                    obtain ⟨dv, hdv, hdb⟩ := all2b_at HI2.out.2.2.2.1 k3 (by rw [HI2.out.2.2.1]; exact hlt3)
                    rw [hdv] at hrow
                    rw [hls] at hdb
                    have hdb8 : BytesAt (Old w) w8 dv d := hdb.same (fun q hq => hS8.old.block q hq)
                    obtain ⟨dp, dc, rfl⟩ := shape_of hdb h40
                    have hsu := HSU.out
                    rw [hyes] at hsu
                    simp only [Option.isSome_some, if_true] at hsu
                    have hv8' := hv8.bytes
                    have HS8 := Lib.hid hS8
                    have HB8 := Lib.hid hb8
                    have HV8 := Lib.hid hv8
                    have HDB := Lib.hid hdb
                    have HYES := Lib.hid hyes
                    have HLS := Lib.hid hls
                    have HSU := Lib.hid hsu
                    have H40 := Lib.hid h40
                    have HDB8 := Lib.hid hdb8
                    have HV8' := Lib.hid hv8'
                    clear hS8 hb8 hv8 hdb hyes hls hsu h40 hdb8 hv8'
                    clear hdv
                    go_wp2_with fail
                    refine (bytes_any (fun _ => True) _ _ d d _ (BytesAt.mono HV8'.out fun _ _ => trivial) (BytesAt.mono HDB8.out fun _ _ => trivial)).mono ?_
                    rintro e w9 ⟨rfl, hb9⟩
                    rw [show (d == d) = true by simp]
                    have hS9 := HS8.out.up hb9
                    have HS9 := Lib.hid hS9
                    have HB9 := Lib.hid hb9
                    clear hS9 hb9
                    go_wp2_with fail
                    go_roundw
                    case rel => exact ⟨k3 + 1, by omega, by go_num, by rw [HSU.out]; go_num, HS9.out⟩
                    case measure => simp [intOf]; omega
end Go.Proofs
