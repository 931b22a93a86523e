/- Package scarpref20: All. -/
import Derived.Test.YtjomlcemnbfnfaaRef20Run
import Derived.Test.YtjomlcemnbfnfaaAll
namespace Go.Proofs
open Go.RowKit Sc

def refOne (ls : List Bytes) (i : Nat) : Option Put := if zero40 (ls.getD i []) then none else some ⟨i, ls.getD i []⟩
def refAllTo (ls : List Bytes) (k : Nat) : List Put := (List.range k).filterMap (refOne ls)
theorem refAllTo_succ (ls : List Bytes) (k : Nat) : refAllTo ls (k + 1) = refAllTo ls k ++ (refOne ls k).toList := by
  unfold refAllTo
  rw [List.range_succ, List.filterMap_append]
  cases h : refOne ls k <;> simp [h]
theorem refAllTo_le (ls : List Bytes) (k : Nat) : (refAllTo ls k).length ≤ k := by
  induction k with
  | zero => simp [refAllTo]
  | succ k ih =>
    rw [refAllTo_succ, List.length_append]
    cases refOne ls k <;> simp <;> omega

set_option maxRecDepth 100000 in
set_option maxHeartbeats 1000000 in
theorem refAll_any (F : Nat → Prop) (v : Value) (ls : List Bytes) (w : World) (hm : RefIs F w v ls) (hd : Dom F w) (hls : ls.length ≤ 1000000) :
    Calls Try.prog 31 #[v] w fun e w' => ∃ v', e = .returned v' ∧ PutsAt (Old w') w' v' (refAllTo ls ls.length) ∧ Below w.heap.size w w' := by
  obtain ⟨b, g, c, vs, rfl, h2, h3, h4, h5, h6⟩ := hm
  obtain ⟨i0, hp0, hp1, hp2, hp3⟩ := info_parts infoPut
  have hc0 : w.cell? ⟨b, 0, none⟩ = some (.slice (some ⟨g, 0, none⟩) ls.length c) := by rw [cell_row h4]; rfl
  have H4 := Lib.hid h4
  have H5 := Lib.hid h5
  have H6 := Lib.hid h6
  clear h4 h5 h6
  go_enter Try.func31, Try.ntmps31
  go_wp2_with fail
  go_loopw [3, 4] (fun out i wr => ∃ k : Nat, k ≤ ls.length ∧ i = .int .i64 k ∧ Hid (OutS 39 2 putR 0 wr out (refAllTo ls k) (fun q => F q ∧ q < w.heap.size)) ∧ (∀ q, out.ownBlock = some q → w.heap.size ≤ q) ∧ Below w.heap.size w wr) (fun _ i _ => ls.length - (intOf i).toNat)
  case atStart => exact ⟨0, by omega, rfl, by
    obtain ⟨css, a1, a2, a3, a4, a5⟩ := (OutS.nil (T := 39) (k := 2) (R := putR) (B := 0) (w := w))
    exact ⟨css, a1, a2, a3, fun i h h' => absurd h' (by simp [refAllTo]), fun q hq => ⟨Nat.zero_le _, hq.2, by simp [Value.ownBlock]⟩⟩, fun q hq => by simp [Value.ownBlock] at hq, Below.refl _ _⟩
  case round =>
    obtain ⟨k, hk, rfl, HO, hob, hbk⟩ := hrel
    have e0 := cell_up hbk hc0
    by_cases hlt : k < ls.length
    · obtain ⟨dv, hdv, hdb⟩ := all2_at H6.out k hlt
      have hrow : w.cell? ⟨g, k, none⟩ = some dv := by rw [H5.out.cellAt k (by omega)]; exact hdv
      have hrow' := cell_up hbk hrow
      have hgd : ls.getD k [] = ls[k] := by simp [List.getD, hlt]
      have hsucc := refAllTo_succ ls k
      have hone : refOne ls k = if zero40 ls[k] then none else some ⟨k, ls[k]⟩ := by unfold refOne; rw [hgd]
      generalize ls[k] = d at hdb hone
      have hdb' := BytesAt.up hdb hbk
      obtain ⟨dp, dc, rfl⟩ := shape_of hdb rfl
      have HDB := Lib.hid hdb
      have HDB' := Lib.hid hdb'
      have HSUCC := Lib.hid hsucc
      have HONE := Lib.hid hone
      have HOB := Lib.hid hob
      clear hdb hdb' hsucc hone hob
      clear hdv hrow hgd
      go_wp2_with fail
      refine (blank_any _ _ d _ HDB'.out).mono ?_
      rintro e w' ⟨rfl, rfl⟩
      have hz : (d.all fun x => x == 0) = zero40 d := rfl
      rw [hz]
      clear hz
      cases hq : zero40 d with
      | true =>
        have HQ := Lib.hid hq
        clear hq
        go_wp2_with fail
        go_roundw
        case rel =>
          refine ⟨k + 1, by omega, by go_num, ?_, HOB.out, hbk⟩
          unfold Hid
          rw [HSUCC.out, HONE.out, if_pos HQ.out]
          simpa using HO.out
        case measure => simp [intOf]; omega
      | false =>
        have HQ := Lib.hid hq
        clear hq
        have hll2 := refAllTo_le ls k
        obtain ⟨css, q1, q2, q3, q4, q5⟩ := HO.out.up putR_stable (below_alloc wr (.cells #[.int .i64 (k : Int), .slice dp d.length dc] 39))
        generalize hll : (refAllTo ls k).length = ll at q3 hll2
        have HQ1 := Lib.hid q1
        have HQ2 := Lib.hid q2
        have HQ4 := Lib.hid q4
        have HQ5 := Lib.hid q5
        have HLL := Lib.hid hll
        have HLL2 := Lib.hid hll2
        clear q1 q2 q4 q5 hll hll2
        go_wp2_with (at_builtin; refine wpList_append_lies _ rfl _ _ 23 rfl 0 39 i0 (.agg #[.int .i64 0, .slice none 0 0]) 2 32 Try.underlying23 hp0 hp1 hp2 hp3 rfl (by decide) _ ll css.flatten rfl q3 ⟨wr.heap.size, 0, none⟩ 1 1 [.int .i64 (k : Int), .slice dp d.length dc] rfl rfl (World.news_of_block (cs := #[.int .i64 (k : Int), .slice dp d.length dc]) (heap_alloc_new wr _)) (by simp [Value.oneCell']) (by decide) (by have := HLL2.out; unfold maxLen; omega) (by have := HLL2.out; omega) (Nat.zero_le _) (wr.heap.size + 1) (by simp) ?_; intro gg cap w5 hown5 hgrow5 hat5 hlt5)
        have hz0 := hbk.size
        have hb5 : Below w.heap.size w w5 := ((hbk.alloc hz0 _)).grown hgrow5 (by simp; omega) (fun q hq => HOB.out q hq)
        go_roundw
        case rel =>
          refine ⟨k + 1, by omega, by go_num, ?_, fun q hq => ?_, hb5⟩
          · unfold Hid
            rw [HSUCC.out, HONE.out, if_neg (by rw [HQ.out]; decide)]
            have hll := HLL.out
            subst hll
            have hg : wr.heap.size + 1 = (wr.alloc (.cells #[.int .i64 (k : Int), .slice dp d.length dc] 39)).heap.size := by simp
            have := OutS.snoc (v := u3) (D3 := fun q => F q ∧ q < w.heap.size) putR_stable HQ1.out HQ2.out HQ4.out HQ5.out (cs := [.int .i64 (k : Int), .slice dp d.length dc]) (x := ⟨(k : Int), d⟩) rfl ⟨_, rfl, by unfold I64; simp only; omega, ((BytesAt.up HDB'.out (below_alloc _ _)).mono fun q hq => ⟨hq.1, hd q hq.1⟩)⟩ (fun q hq => ⟨Nat.zero_le _, by simp; omega, fun e => by have := HOB.out q e; omega⟩) hown5 hgrow5 (hg ▸ hat5)
            obtain ⟨css', a1, a2, a3, a4, a5⟩ := this
            exact ⟨css', a1, a2, a3, fun i h h' => putR_stable _ _ _ _ _ _ (fun q hq => hq.elim id id) (Same.refl _ _) (a4 i h h'), fun q hq => a5 q (.inl hq)⟩
          · simp [Value.ownBlock] at hq
            subst hq
            rcases hat5 with h | h
            · exact HOB.out _ h
            · omega
        case measure => simp [intOf]; omega
    · have hkl : k = ls.length := by omega
      subst hkl
      go_wp2_with fail
      go_ret
      exact ⟨_, rfl, HO.out.puts fun q _ h2 => h2, hbk⟩
end Go.Proofs
