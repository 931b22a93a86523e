/- Package wbuf: Len, Set; what nothing answers; Bufs side by side with other things. -/
import Derived.Test.YteodkepnalhceaaWbuf3
import Derived.Test.YteodkepnalhceaaSetSep
namespace Go.Proofs
open Go.RowKit Sc

theorem bufPuts_len (s : List (Int × Bytes)) : (bufPuts s).length = s.length := by
  unfold bufPuts keysUp
  rw [List.length_map, (List.mergeSort_perm _ _).length_eq, List.length_map]
theorem putsW_shape {G : Nat → Prop} {w : World} {v : Value} {l : List Put} (h : PutsW G w v l) : ∃ p c, v = .slice p l.length c := by
  obtain ⟨p, c, rfl, _⟩ := h; exact ⟨p, c, rfl⟩
theorem bufLen_any (F : Nat → Prop) (v : Value) (blocks most : Int) (s : List (Int × Bytes)) (w : World) (h : BufIs F w v blocks most s) (hi : ∀ x ∈ s, I64 x.1) (hl : s.length ≤ 1000000) (h40 : ∀ x ∈ s, x.2.length ≤ 1000000) :
    Calls Try.prog 31 #[v] w fun e w' => e = .returned (.int .i64 s.length) ∧ Below w.heap.size w w' := by
  have hP := bufPuts_any F v blocks most s w h hi hl h40
  have HP := Lib.hid hP
  clear hP
  go_enter Try.func31, Try.ntmps31
  go_wp2_with fail
  refine (HP.out).mono ?_
  rintro e w1 ⟨pv, rfl, hpv, hb1⟩
  obtain ⟨p, c, rfl⟩ := putsW_shape hpv
  rw [bufPuts_len]
  have HPV := Lib.hid hpv
  have HB1 := Lib.hid hb1
  clear hpv hb1
  go_wp2_with fail
  go_ret
  exact ⟨rfl, HB1.out⟩
theorem bufPuts_nil (w : World) : Calls Try.prog 33 #[.pointer none] w fun e w' => e = .returned (.slice none 0 0) ∧ w = w' := by
  go_enter Try.func33, Try.ntmps33
  go_wp2
  go_ret
  exact ⟨rfl, rfl⟩
theorem bufLen_nil (w : World) : Calls Try.prog 31 #[.pointer none] w fun e w' => e = .returned (.int .i64 0) ∧ w = w' := by
  go_enter Try.func31, Try.ntmps31
  go_wp2_with fail
  refine (bufPuts_nil _).mono ?_
  rintro e w1 ⟨rfl, rfl⟩
  go_wp2
  go_ret
  exact ⟨rfl, rfl⟩
theorem bufWrite_none (v : Option Addr) (w : World) : Calls Try.prog 30 #[.pointer v, .slice none 0 0] w fun e w' => e = .returned (.int .i64 1) ∧ Below w.heap.size w w' := by
  have hb0 := below_alloc w (.cells #[.pointer v] 47)
  have HB0 := Lib.hid hb0
  clear hb0
  go_enter Try.func30, Try.ntmps30
  go_wp2
  go_ret
  exact ⟨rfl, HB0.out⟩
theorem bufWrite_nil (p : Option Addr) (n c : Nat) (hn : 0 < n) (w : World) : Calls Try.prog 30 #[.pointer none, .slice p n c] w fun e w' => e = .returned (.int .i64 2) ∧ Below w.heap.size w w' := by
  have hb0 := below_alloc w (.cells #[.pointer none] 47)
  have h0 : ((n : Int) == 0) = false := by rw [beq_eq_false_iff_ne]; omega
  have h1 : ¬ n = 0 := by omega
  have HB0 := Lib.hid hb0
  clear hb0
  clear hn
  go_enter Try.func30, Try.ntmps30
  go_wp2
  go_ret
  exact ⟨rfl, HB0.out⟩
/-- The blocks of some Puts, one by one. -/
def singles (l : List Put) : List Ext := l.map fun p => ⟨p.lba, 1⟩
theorem singles_oke {l : List Put} (h : ∀ p ∈ l, 0 ≤ p.lba ∧ p.lba ≤ 1048575) : ∀ e ∈ singles l, Oke e := fun e he => by
  obtain ⟨p, hp, rfl⟩ := List.mem_map.1 he
  have := h p hp
  unfold Oke; simp only; omega
theorem singles_step {most : Int} {l : List Put} {k : Nat} (h : ∀ p ∈ l, 0 ≤ p.lba ∧ p.lba ≤ 1048575) (hk : k < l.length) (hm : (l.length : Int) ≤ most) :
    addCode most (normE (singles (l.take k))) [⟨l[k].lba, 1⟩] = 0 ∧ addNext most (normE (singles (l.take k))) [⟨l[k].lba, 1⟩] = normE (singles (l.take (k + 1))) ∧ SetG (normE (singles (l.take k))) ∧ (normE (singles (l.take k))).length ≤ k := by
  have ho := singles_oke (l := l.take k) fun p hp => h p (List.mem_of_mem_take hp)
  obtain ⟨g1, g2, g3⟩ := normE_good' ho
  have hlen : (singles (l.take k)).length ≤ k := by unfold singles; rw [List.length_map, List.length_take]; omega
  have hpk := h _ (List.getElem_mem hk)
  have ha : allB [(⟨l[k].lba, 1⟩ : Ext)] = true := by
    unfold allB
    simp only [List.all_cons, List.all_nil, Bool.and_true]
    exact mayB_iff.2 (by simp only; omega)
  have hs : singles (l.take (k + 1)) = singles (l.take k) ++ [⟨l[k].lba, 1⟩] := by unfold singles; rw [take_snoc l k hk, List.map_append]; rfl
  have hn : normE (normE (singles (l.take k)) ++ [⟨l[k].lba, 1⟩]) = normE (singles (l.take (k + 1))) := by
    obtain ⟨k1, k2, _⟩ := normE_good' (singles_oke (l := l.take (k + 1)) fun p hp => h p (List.mem_of_mem_take hp))
    refine normE_ext (fun e he => ?_) k1.1 fun x => ?_
    · rcases List.mem_append.1 he with he | he
      · exact g1.1.1 e he
      · rw [List.mem_singleton] at he; rw [he]; exact Int.le_refl 1
    · rw [k2, hs, cov_append, cov_append, g2]
  have hlen2 := (normE_good' (addOke g1 ha)).2.2
  rw [hn, List.length_append, List.length_singleton] at hlen2
  obtain ⟨h1, h2⟩ := addCode_is (most := most) g1 ha (by simp) hn
  rw [if_neg (by omega)] at h1 h2
  exact ⟨h1, h2, g1, by omega⟩
def BufSetSaid (l : List Put) (w : World) (e : Ending) (w' : World) : Prop := ∃ b : Nat, e = .returned (.pointer (some ⟨b, 0, none⟩)) ∧ SetIs (New w w') w' (.pointer (some ⟨b, 0, none⟩)) l.length (normE (singles l)) ∧ Below w.heap.size w w'
def PutsA (v : Value) (l : List Put) : Asn := ⟨fun F w => PutsAt F w v l, fun _ _ _ hs _ h => h.same hs⟩
set_option maxRecDepth 100000 in
set_option maxHeartbeats 2000000 in
theorem bufSet_gen (v : Value) (l : List Put) (w : World) (hP : Calls Try.prog 33 #[v] w fun e w' => ∃ pv, e = .returned pv ∧ Hid (PutsAt (New w w') w' pv l) ∧ Hid (Below w.heap.size w w')) (hl : ∀ p ∈ l, 0 ≤ p.lba ∧ p.lba ≤ 1048575) (hn : l.length ≤ 40000) :
    Calls Try.prog 41 #[v] w (BufSetSaid l w) := by
  have HP := Lib.hid hP
  have HL := Lib.hid hl
  clear hP hl
  go_enter Try.func41, Try.ntmps41
  go_wp2_with fail
  refine (HP.out).mono ?_
  rintro e w1 ⟨pv, rfl, HPV, HB1⟩
  have hS1 := (Sep.start w).new HB1.out (PutsA pv l) (fun _ h => h) HPV.out
  obtain ⟨p, c, rfl, _, _, _, _⟩ := HPV.out
  have HS1 := Lib.hid hS1
  clear hS1
  go_wp2_with fail
  refine (setNew_sep HS1.out l.length).mono ?_
  rintro e w2 ⟨b, rfl, HS2⟩
  go_wp2_with fail
  go_loopw [14] (fun i wr => ∃ k : Nat, k ≤ l.length ∧ i = .int .i64 k ∧ Hid (Sep w [OldA w, PutsA (.slice p l.length c) l, SetA (.pointer (some ⟨b, 0, none⟩)) l.length (normE (singles (l.take k)))] wr)) (fun i _ => l.length - (intOf i).toNat)
  case atStart => exact ⟨0, by omega, rfl, by rw [List.take_zero, show singles [] = [] from rfl, normE_nil]; exact HS2⟩
  case round =>
    obtain ⟨k, hk, rfl, HS⟩ := hrel
    by_cases hlt : k < l.length
    case neg =>
      obtain rfl : k = l.length := by omega
      have hold := HS.out.old
      obtain ⟨F, hF, hFN⟩ := HS.out.get_new 2 (by decide) rfl
      rw [List.take_length] at hF
      have HOLD := Lib.hid hold
      have HF := Lib.hid hF
      have HFN := Lib.hid hFN
      clear hold hF hFN
      go_wp2_with fail
      go_ret
      refine ⟨b, rfl, ?_, HOLD.out⟩
      obtain ⟨⟨b', sv, h1, h2, h3, h4⟩, hd⟩ := HF.out
      exact ⟨⟨b', sv, h1, HFN.out _ h2, h3, SlAt.mono h4 HFN.out (fun _ _ _ h => h)⟩, fun k hk => hk.2⟩
    case pos =>
      obtain ⟨F1, hF1, _⟩ := HS.out.get 1 rfl
      obtain ⟨p', c', he, _, _, _, h4⟩ := hF1
      cases he
      obtain ⟨g, o, rfl, _, hca, hci, dv, hcb, hd⟩ := h4 k hlt
      obtain ⟨hc1, hn1, hg1, hl1⟩ := singles_step HL.out hlt (Int.le_refl _)
      obtain ⟨dp, dc, rfl⟩ := shape_of hd rfl
      generalize l[k] = x at *
      have hba := below_alloc wr (.cells #[.int .i64 x.lba, .slice dp x.data.length dc] 54)
      have hka : (wr.alloc (.cells #[.int .i64 x.lba, .slice dp x.data.length dc] 54)).cell? ⟨wr.heap.size, 0, none⟩ = some (.int .i64 x.lba) := by rw [cell_row (heap_alloc_new wr _)]; rfl
      have hSa := HS.out.up hba
      have HSA := Lib.hid hSa
      have HC1 := Lib.hid hc1
      have HN1 := Lib.hid hn1
      have HG1 := Lib.hid hg1
      have HL1 := Lib.hid hl1
      have HCI := Lib.hid hci
      clear hSa hc1 hn1 hg1 hl1 hci
      clear h4 hba hd
      go_wp2_with fail
      refine (setAdd_at HSA 2 rfl x.lba 1 HCI.out (i64_small (by omega)) HG1.out (by have := HL1.out; omega) (wr.heap.size + 1) (by simp)).mono ?_
      rintro e w3 ⟨rfl, HS3⟩
      rw [HC1.out]
      rw [HN1.out] at HS3
      go_wp2_with fail
      go_roundw
      case rel => exact ⟨k + 1, by omega, by go_num, HS3⟩
      case measure => simp [intOf]; omega
end Go.Proofs
