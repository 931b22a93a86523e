/- Package ival: joined. -/
import Derived.Test.YteodkepnalhceaaIval2
import Derived.Test.YteodkepnalhceaaSortNone
import Derived.Test.YteodkepnalhceaaDat
import Derived.BigRegion
import Derived.BigQuiet
namespace Go.Proofs
open Go.RowKit Sc

/-- A row of extents that is being read. -/
def RowEA (g : Nat) (l : List Ext) : Asn := ⟨fun F w => F g ∧ RowE w g l, fun _ _ _ hs _ h => ⟨h.1, fun i hi => by
  obtain ⟨a, b, c, d⟩ := h.2 i hi
  exact ⟨by rw [hs.cell h.1]; exact a, by rw [hs.cell h.1]; exact b, by rw [World.frozen?_of_block (hs g h.1)]; exact c, by rw [World.frozen?_of_block (hs g h.1)]; exact d⟩⟩⟩
abbrev OutEA (v : Value) (l : List Ext) : Asn := RowA 28 2 v l.length (flatE l)
theorem row_rowE {w : World} {B n g c : Nat} {l : List Ext} (hl : l.length = n) (h : w.ownsRow B 28 2 (.slice (some ⟨g, 0, none⟩) n c) n (flatE l)) : RowE w g l := by
  intro i hi
  obtain ⟨g1, g2⟩ := flatE_get l i hi
  exact ⟨by rw [h.cellAt (i * 2) (by omega)]; exact g1, by rw [h.cellAt (i * 2 + 1) (by omega)]; exact g2, h.frozenAt _, h.frozenAt _⟩
theorem normE_nil : normE [] = [] := by simp [normE, joinL]
theorem flatE_set (a : List Ext) (o : Ext) (x : Int) : (flatE (a ++ [o])).set (a.length * 2 + 1) (.int .i64 x) = flatE (a ++ [⟨o.first, x⟩]) := by
  rw [flatE_append, flatE_append, List.set_append_right _ _ (by rw [flatE_length]; omega), flatE_length, show a.length * 2 + 1 - a.length * 2 = 1 by omega]
  rfl
def JoinSaid (l : List Ext) (w : World) (e : Ending) (w' : World) : Prop := ∃ v, e = .returned v ∧ w'.ownsRow w.heap.size 28 2 v l.length (flatE l) ∧ Below w.heap.size w w'

set_option maxRecDepth 100000 in
set_option maxHeartbeats 4000000 in
theorem joined_any (G : Nat → Prop) (v : Value) (l : List Ext) (w : World) (hv : ExtsAt G w v l) (hm : ∀ e ∈ l, Oke e) (hl : l.length ≤ 100000) :
    Calls Try.prog 44 #[v] w (JoinSaid (normE l) w) := by
  by_cases hnil : l = []
  case pos =>
    subst hnil
    obtain ⟨p, c, rfl, h1, h2, h3, _⟩ := hv
    have hclone : Calls Try.prog 46 #[.slice p 0 c] w fun e w' => ∃ p' c', e = .returned (.slice p' 0 c') ∧ Hid (Below w.heap.size w w') := by
      cases p with
      | none =>
        obtain rfl := h3 rfl
        refine (cloneExt_nil w).mono ?_
        rintro e w' ⟨rfl, rfl⟩
        exact ⟨none, 0, rfl, Below.refl _ _⟩
      | some a =>
        refine (cloneExt_some a 0 c [] w rfl (fun j u hj => by cases hj) (fun u hu => by cases hu) (by unfold Hid; omega)).mono ?_
        rintro e w' ⟨v', rfl, ho, hb⟩
        obtain ⟨_, ⟨rfl, _⟩ | ⟨g, cap, _, rfl, _⟩⟩ := ho.out
        · exact ⟨_, _, rfl, hb⟩
        · exact ⟨_, _, rfl, hb⟩
    have HCLONE := Lib.hid hclone
    clear hclone
    clear h1 h2 h3
    go_enter Try.func44, Try.ntmps44
    go_wp2_with fail
    go_step3
    go_wp2_with fail
    refine (HCLONE.out).mono ?_
    rintro e w1 ⟨p', c', rfl, hb1⟩
    go_wp2_with fail
    refine (sortExt_none p' c' _ _).mono ?_
    rintro e w2 ⟨rfl, rfl⟩
    go_wp2_with fail
    go_step3
    go_wp2_with fail
    go_loopw [2, 12] (fun vo i wr => vo = .slice none 0 0 ∧ i = .int .i64 0 ∧ wr = w2) (fun _ _ _ => 0)
    case atStart => exact ⟨rfl, rfl, rfl⟩
    case round =>
      obtain ⟨rfl, rfl, rfl⟩ := hrel
      go_wp2_with fail
      rw [Exit.noGoto_ret]
      go_ret
      refine ⟨.slice none 0 0, rfl, ?_, hb1.out⟩
      rw [normE_nil]
      exact World.ownsRow_nil _ _ _ _
  case neg =>
    have hpos := List.length_pos_iff.2 hnil
    obtain ⟨p, c, rfl, h1, h2, h3, h4⟩ := hv
    obtain ⟨b0, o0, rfl, _, _⟩ := h4 0 hpos
    have hnews := extsAt_news (G := G) (w := w) (a := ⟨b0, o0, none⟩) (n := l.length) (c := c) (l := l) ⟨_, c, rfl, h1, h2, h3, h4⟩
    have hcl := cloneExt_some ⟨b0, o0, none⟩ l.length c (flatE l) w (flatE_length l) hnews (flatE_one l) (by unfold Hid; omega)
    have HM := Lib.hid hm
    have HCL := Lib.hid hcl
    clear hm hcl
    clear h1 h2 h3 h4 hnews hnil
    go_enter Try.func44, Try.ntmps44
    go_wp2_with fail
    go_step3
    go_wp2_with fail
    refine (HCL.out).mono ?_
    rintro e w1 ⟨v1, rfl, HO1, HB1⟩
    have hS1 := (Sep.start w).row_new HB1.out HO1.out
    obtain ⟨g, cg, rfl, hg1, hg2⟩ := HO1.out.form hpos
    have hR1 := row_rowE rfl HO1.out
    have HS1 := Lib.hid hS1
    have HR1 := Lib.hid hR1
    have HG1 := Lib.hid hg1
    have HG2 := Lib.hid hg2
    clear hS1 hR1 hg1 hg2
    go_wp2_with fail
    refine (sortExt_any g cg l w1 HR1.out HG2.out (by omega)).mono ?_
    rintro e w2 ⟨rfl, l', hp, hs, hc2, hR2⟩
    have hS2 : Sep w [OldA w, RowEA g l'] w2 := by
      obtain ⟨F, GG, hF, _, _, hdF, _, K⟩ := HS1.out.at 1 rfl
      exact K w2 F (RowEA g l') (hc2.mono fun k _ hk => by subst hk; exact hF.2 _ rfl) (fun k hk => .inl hk) ⟨hF.2 g rfl, hR2⟩
    have hS3 := hS2.new (Below.refl _ _) (OutEA (.slice none 0 0) []) (F := fun _ => False) (fun _ h => h.elim) ⟨World.ownsRow_nil _ _ _ _, by simp [Value.ownBlock]⟩
    have hlen := hp.length_eq
    have hm' : ∀ e ∈ l', Oke e := fun e he => HM.out e (hp.mem_iff.1 he)
    have hfin : joinL l' = normE l := normE_eq (fun e he => (HM.out e he).2.2.1) hp hs
    rw [← hlen] at hl hpos ⊢
    have HS3 := Lib.hid hS3
    have HM' := Lib.hid hm'
    have HFIN := Lib.hid hfin
    have HS := Lib.hid hs
    clear hS3 hm' hfin hs
    clear hS2 hc2 hR2 hp hlen
    go_wp2_with fail
    go_step3
    go_wp2_with fail
    go_loopw [2, 12] (fun vo i wr => ∃ k : Nat, ∃ po co, k ≤ l'.length ∧ i = .int .i64 k ∧ vo = .slice po (joinL (l'.take k)).length co ∧ Hid (Sep w [OldA w, RowEA g l', OutEA (.slice po (joinL (l'.take k)).length co) (joinL (l'.take k))] wr)) (fun _ i _ => l'.length - (intOf i).toNat)
    case atStart => exact ⟨0, none, 0, by omega, rfl, rfl, HS3.out⟩
    case round =>
      obtain ⟨k, po, co, hk, rfl, rfl, HS⟩ := hrel
      by_cases hlt : k < l'.length
      case neg =>
        obtain rfl : k = l'.length := by omega
        obtain ⟨F, hF, _⟩ := HS.out.get 2 rfl
        rw [List.take_length, HFIN.out] at hF ⊢
        have hold := HS.out.old
        have hown := HS.out.row_mine 2 (by decide) rfl
        rw [List.take_length, HFIN.out] at hown
        have HOLD := Lib.hid hold
        have HOWN := Lib.hid hown
        clear hold hown
        clear hF
        go_wp2_with fail
        rw [Exit.noGoto_ret]
        go_ret
        refine ⟨_, rfl, ?_, HOLD.out⟩
        exact HOWN.out
      case pos =>
        obtain ⟨F1, hF1, _⟩ := HS.out.get 1 rfl
        obtain ⟨hc0, hc1, _, _⟩ := hF1.2 k hlt
        have htk := take_snoc l' k hlt
        have hme := HM'.out _ (List.getElem_mem hlt)
        generalize l'[k] = e at hc0 hc1 htk hme
        have hoke := joinL_oke (l'.take k) (fun e he => HM'.out e (List.mem_of_mem_take he))
        have hjl := joinL_len (l'.take k)
        rw [List.length_take] at hjl
        have hj2 : joinL (l'.take (k + 1)) = joinStep (joinL (l'.take k)) e := by rw [htk, joinL_snoc]
        generalize joinL (l'.take k) = out at *
        obtain ⟨b1, b2, b3, b4⟩ := hme
        have hw1 : IntKind.i64.wrap (e.first + e.len) = e.first + e.len := IntWalk.i64_in _ (by omega)
        have k0 : (0 : Int) ≤ (k : Int) := by omega
        have k1 : (k : Int) < (l'.length : Int) := by omega
        have HTK := Lib.hid htk
        have HJ2 := Lib.hid hj2
        clear htk hj2
        clear hF1
        have hba := below_alloc wr (.cells #[.int .i64 e.first, .int .i64 e.len] 28)
        have hea : (wr.alloc (.cells #[.int .i64 e.first, .int .i64 e.len] 28)).cell? ⟨wr.heap.size, 0, none⟩ = some (.int .i64 e.first) := by rw [cell_row (heap_alloc_new wr _)]; rfl
        have heb : (wr.alloc (.cells #[.int .i64 e.first, .int .i64 e.len] 28)).cell? ⟨wr.heap.size, 1, none⟩ = some (.int .i64 e.len) := by rw [cell_row (heap_alloc_new wr _)]; rfl
        have hsa : wr.heap.size < (wr.alloc (.cells #[.int .i64 e.first, .int .i64 e.len] 28)).heap.size := by simp
        have HBA := Lib.hid hba
        have HSA := Lib.hid hsa
        clear hba hsa
        by_cases hout : out = []
        case pos =>
          subst hout
          go_wp2_with fail
          go_quiet (fail)
          have hSq := HS.out.up (w' := (wr.alloc (.cells #[.int .i64 e.first, .int .i64 e.len] 28)).drewN nq) (below_drewN HBA.out _)
          have hqa : ((wr.alloc (.cells #[.int .i64 e.first, .int .i64 e.len] 28)).drewN nq).cell? ⟨wr.heap.size, 0, none⟩ = some (.int .i64 e.first) := hea
          have hqb : ((wr.alloc (.cells #[.int .i64 e.first, .int .i64 e.len] 28)).drewN nq).cell? ⟨wr.heap.size, 1, none⟩ = some (.int .i64 e.len) := heb
          generalize (wr.alloc (.cells #[.int .i64 e.first, .int .i64 e.len] 28)).drewN nq = wq at *
          have HSQ := Lib.hid hSq
          clear hSq
          clear hea heb
          obtain ⟨FA, hFA, _⟩ := HSQ.out.get 2 rfl
          have hrowA := hFA.1
          obtain ⟨iiA, hiiA, hizA, hiyA, hixA⟩ := info_parts infoExt
          have HROWA := Lib.hid hrowA
          clear hFA hrowA
          go_wp2_with (at_builtin; refine wpList_append_lies _ rfl _ _ 29 rfl 0 28 iiA (.agg #[.int .i64 0, .int .i64 0]) 2 16 Try.underlying29 hiiA hizA hiyA hixA rfl (by decide) _ (0) ([]) rfl (HROWA.out.alloc _) ⟨wq.heap.size, 0, none⟩ 1 1 [.int .i64 e.first, .int .i64 e.len] rfl rfl (World.news_of_block (cs := #[.int .i64 e.first, .int .i64 e.len]) (heap_alloc_new wq _)) (by simp [Value.oneCell']) (by decide) (by unfold maxLen; omega) (by omega) (Nat.zero_le _) (wq.heap.size + 1) (by simp) ?_; intro gA cA wA hownA hgrowA hatA hltA)
          have hSA := HSQ.out.row_app 2 rfl (below_alloc _ _) hownA hgrowA hatA (by simp) hltA
          clear hownA hgrowA hatA hltA hiiA hizA hiyA hixA
          have HSA := Lib.hid hSA
          clear hSA
          rw [joinStep_nil] at HJ2
          go_wp2_with fail
          go_roundw
          case rel =>
            refine ⟨k + 1, _, cA, by omega, by go_num, by rw [HJ2.out]; rfl, ?_⟩
            unfold Hid
            rw [HJ2.out]
            exact HSA.out
          case measure => simp [intOf]; omega
        case neg =>
          obtain ⟨a, o, rfl⟩ := snoc_of hout
          obtain ⟨o1, o2, o3, o4⟩ := hoke o (by simp)
          have hL : (a ++ [o]).length = a.length + 1 := by simp
          have hS' : Sep w [OldA w, RowEA g l', RowA 28 2 (.slice po (a ++ [o]).length co) (a ++ [o]).length (flatE (a ++ [o]))] wr := HS.out
          obtain ⟨F2, hF2, _⟩ := HS.out.get 2 rfl
          obtain ⟨g2, c2, he2, _⟩ := hF2.1.form (by omega)
          cases he2
          obtain ⟨hx1, _⟩ := HS.out.row_cell 2 rfl (a.length * 2) (by omega)
          obtain ⟨hx2, hfz⟩ := HS.out.row_cell 2 rfl (a.length * 2 + 1) (by omega)
          obtain ⟨ga, gb⟩ := flatE_get (a ++ [o]) a.length (by simp)
          rw [ga] at hx1
          rw [gb] at hx2
          simp only [List.getElem_concat_length] at hx1 hx2
          rw [hL] at hS' hjl ⊢
          rw [joinStep_snoc] at HJ2
          have hxa := cell_up HBA.out hx1
          have hxb := cell_up HBA.out hx2
          have hfa : (wr.alloc (.cells #[.int .i64 e.first, .int .i64 e.len] 28)).frozen? ⟨g2, a.length * 2 + 1, none⟩ = false := by
            rw [HBA.out.frozen (p := ⟨g2, a.length * 2 + 1, none⟩) (World.block_lt_of_cell? _ _ hx2)]; exact hfz
          have hw2 : IntKind.i64.wrap (o.first + o.len) = o.first + o.len := IntWalk.i64_in _ (by omega)
          have hn1 : ((a.length : Nat) : Int) < ((a.length + 1 : Nat) : Int) := by omega
          have hn0 : (0 : Int) ≤ (a.length : Int) := by omega
          have HS' := Lib.hid hS'
          clear hS'
          clear hF2 hoke ga gb hx1 hx2 hfz
          by_cases hc : e.first ≤ o.first + o.len
          case pos =>
            rw [if_pos hc] at HJ2
            have hdc : decide (e.first ≤ o.first + o.len) = true := decide_eq_true hc
            go_wp2_with fail
            go_quiet (fail)
            have hSq := HS'.out.up (w' := (wr.alloc (.cells #[.int .i64 e.first, .int .i64 e.len] 28)).drewN nq) (below_drewN HBA.out _)
            generalize hqq : (wr.alloc (.cells #[.int .i64 e.first, .int .i64 e.len] 28)).drewN nq = wq at *
            have hqa : wq.cell? ⟨wr.heap.size, 0, none⟩ = some (.int .i64 e.first) := by rw [← hqq]; exact hea
            have hqb : wq.cell? ⟨wr.heap.size, 1, none⟩ = some (.int .i64 e.len) := by rw [← hqq]; exact heb
            have hqx : wq.cell? ⟨g2, a.length * 2, none⟩ = some (.int .i64 o.first) := by rw [← hqq]; exact hxa
            have hqy : wq.cell? ⟨g2, a.length * 2 + 1, none⟩ = some (.int .i64 o.len) := by rw [← hqq]; exact hxb
            have hqf : wq.frozen? ⟨g2, a.length * 2 + 1, none⟩ = false := by rw [← hqq]; exact hfa
            have hw3 : IntKind.i64.wrap (e.first + e.len - o.first) = e.first + e.len - o.first := IntWalk.i64_in _ (by omega)
            have HSQ := Lib.hid hSq
            have HQQ := Lib.hid hqq
            clear hSq hqq
            clear hea heb hxa hxb hfa
            go_wp2_with fail
            go_region
            have hS8 := (HSQ.out.row_set 2 rfl (a.length * 2 + 1) (.int .i64 (max o.len (e.first + e.len - o.first)))).up (w' := (wq.setCell ⟨g2, a.length * 2 + 1, none⟩ (.int .i64 (max o.len (e.first + e.len - o.first)))).drew) (below_drewN (Below.refl _ _) 1)
            rw [flatE_set] at hS8
            have HS8 := Lib.hid hS8
            clear hS8
            go_wp2_with fail
            go_roundw
            case rel =>
              refine ⟨k + 1, some ⟨g2, 0, none⟩, co, by omega, by go_num, by rw [HJ2.out]; simp, ?_⟩
              unfold Hid
              rw [HJ2.out]
              have e1 : (a ++ [(⟨o.first, max o.len (e.first + e.len - o.first)⟩ : Ext)]).length = a.length + 1 := by simp
              rw [e1]
              show Sep w [OldA w, RowEA g l', RowA 28 2 _ (a ++ [(⟨o.first, max o.len (e.first + e.len - o.first)⟩ : Ext)]).length _] _
              rw [e1]
              exact HS8.out
            case measure => simp [intOf]; omega
          case neg =>
            rw [if_neg hc] at HJ2
            have hdc : decide (e.first ≤ o.first + o.len) = false := decide_eq_false hc
            clear hc
            go_wp2_with fail
            go_quiet (fail)
            have hSq := HS'.out.up (w' := (wr.alloc (.cells #[.int .i64 e.first, .int .i64 e.len] 28)).drewN nq) (below_drewN HBA.out _)
            generalize hqq : (wr.alloc (.cells #[.int .i64 e.first, .int .i64 e.len] 28)).drewN nq = wq at *
            have hqa : wq.cell? ⟨wr.heap.size, 0, none⟩ = some (.int .i64 e.first) := by rw [← hqq]; exact hea
            have hqb : wq.cell? ⟨wr.heap.size, 1, none⟩ = some (.int .i64 e.len) := by rw [← hqq]; exact heb
            have HSQ := Lib.hid hSq
            have HQQ := Lib.hid hqq
            clear hSq hqq
            clear hea heb hxa hxb hfa
            obtain ⟨FA, hFA, _⟩ := HSQ.out.get 2 rfl
            have hrowA := hFA.1
            obtain ⟨iiA, hiiA, hizA, hiyA, hixA⟩ := info_parts infoExt
            have HROWA := Lib.hid hrowA
            clear hFA hrowA
            go_wp2_with (at_builtin; refine wpList_append_lies _ rfl _ _ 29 rfl 0 28 iiA (.agg #[.int .i64 0, .int .i64 0]) 2 16 Try.underlying29 hiiA hizA hiyA hixA rfl (by decide) _ (a.length + 1) (flatE (a ++ [o])) rfl (HROWA.out.alloc _) ⟨wq.heap.size, 0, none⟩ 1 1 [.int .i64 e.first, .int .i64 e.len] rfl rfl (World.news_of_block (cs := #[.int .i64 e.first, .int .i64 e.len]) (heap_alloc_new wq _)) (by simp [Value.oneCell']) (by decide) (by unfold maxLen; omega) (by omega) (Nat.zero_le _) (wq.heap.size + 1) (by simp) ?_; intro gA cA wA hownA hgrowA hatA hltA)
            have hSA := HSQ.out.row_app 2 rfl (below_alloc _ _) hownA hgrowA hatA (by simp) hltA
            clear hownA hgrowA hatA hltA hiiA hizA hiyA hixA
            have HSA := Lib.hid hSA
            clear hSA
            go_wp2_with fail
            go_roundw
            case rel =>
              have e1 : (a ++ [o] ++ [e]).length = a.length + 1 + 1 := by simp
              have e2 : flatE (a ++ [o] ++ [e]) = flatE (a ++ [o]) ++ [.int .i64 e.first, .int .i64 e.len] := by rw [flatE_append]; rfl
              refine ⟨k + 1, _, cA, by omega, by go_num, by rw [HJ2.out, e1], ?_⟩
              unfold Hid
              rw [HJ2.out, e1]
              show Sep w [OldA w, RowEA g l', RowA 28 2 _ (a ++ [o] ++ [e]).length (flatE (a ++ [o] ++ [e]))] _
              rw [e1, e2]
              exact HSA.out
            case measure => simp [intOf]; omega
end Go.Proofs
