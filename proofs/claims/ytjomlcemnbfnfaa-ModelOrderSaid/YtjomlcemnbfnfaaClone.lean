/- slices.Clone of bytes: the same bytes in new memory. -/
import Derived.Test.YtjomlcemnbfnfaaBlock
import Derived.Lib.SliceRun
namespace Go.Proofs
open Go.RowKit Sc

theorem shape_of {G : Nat → Prop} {w : World} {v : Value} {l : Bytes} {n : Nat} (h : BytesAt G w v l) (hn : l.length = n) : ∃ p c, v = .slice p n c := by
  obtain ⟨p, c, rfl, _⟩ := h
  subst hn
  exact ⟨p, c, rfl⟩
theorem made_one {z : Value} (hz : z.cells = #[z]) (n : Nat) : (madeCells z.cells (n * 1)).toList = List.replicate n z := by
  rw [hz]
  apply List.ext_getElem
  · simp [madeCells]
  · intro j h1 h2
    simp [madeCells, Nat.mod_one]
theorem made_u8 (n : Nat) : (madeCells (Value.int .u8 0).cells (n * 1)).toList = (List.replicate n (0 : UInt8)).map fun x => Value.int .u8 (x.toNat : Int) := by
  apply List.ext_getElem
  · simp [madeCells]
  · intro j h1 h2
    simp [madeCells, Value.cells, Nat.mod_one]
/-- What an own row holds, read at its own block. -/
theorem bytesW_own {w : World} {B : Nat} {v : Value} {n : Nat} {l : Bytes} (G : Nat → Prop) (hl : l.length = n) (hG : ∀ k, B ≤ k → k < w.heap.size → G k)
    (h : w.ownsRow B 5 1 v n (l.map fun x => .int .u8 (x.toNat : Int))) : BytesW G w v l := by
  have hlt := h.lt
  obtain ⟨hx, hc | ⟨g, cap, cur, rfl, hb, hg, hnc, hcm, hcs, htake⟩⟩ := h
  · obtain ⟨rfl, rfl⟩ := hc
    obtain rfl : l = [] := List.length_eq_zero_iff.1 hl
    exact SlAt.nil
  · have hgl := hlt g rfl
    refine bytesW_row (B := B) G (hG g hgl.1 hgl.2) hl hnc (by unfold maxLen at hcm; omega) ⟨hx, .inr ⟨g, cap, cur, rfl, hb, hg, hnc, hcm, hcs, htake⟩⟩

set_option maxHeartbeats 400000 in
theorem clone_w (G : Nat → Prop) (v : Value) (l : Bytes) (w : World) (hv : BytesAt G w v l) (hl : l.length ≤ 1000000) :
    Calls Try.prog 44 #[v] w (NewBytesW l w) := by
  obtain ⟨i0, hi, hz0, hz1, hz2⟩ := info_parts infoU8
  obtain ⟨p, c, rfl, h1, h2, h3, h4⟩ := hv
  have H4 := Lib.hid h4
  clear h4
  cases p with
  | none =>
    obtain rfl : c = 0 := h3 rfl
    have hl0 : l = [] := List.length_eq_zero_iff.1 (by omega)
    subst hl0
    clear h3 hi hz0 hz1 hz2 hl h1 h2 H4
    have heq := fun (W : World) => Lib.run_eql_slice_nil (P := Try.prog) W 35 5 none 0 0 0 0 Try.underlying35
    go_enter Try.func44, Try.ntmps44
    go_wp2
    go_ret
    exact ⟨_, rfl, SlAt.nil, Below.refl _ _⟩
  | some a =>
    clear h3
    have hnews : ∀ j u, (l.map fun x => Value.int .u8 (x.toNat : Int))[j]? = some u → w.cell? (a.add j) = some u := by
      intro j u hj
      simp only [List.getElem?_map, Option.map_eq_some_iff] at hj
      obtain ⟨x, hx, rfl⟩ := hj
      obtain ⟨hjl, rfl⟩ := List.getElem?_eq_some_iff.1 hx
      obtain ⟨b, o, hp, _, he⟩ := H4.out j hjl
      cases hp
      unfold byteE at he
      rw [Nat.mul_one] at he
      have hadd : (⟨b, o, none⟩ : Addr).add j = ⟨b, o + j, none⟩ := by unfold Addr.add; split <;> simp_all
      rw [hadd]; exact he
    have HN := Lib.hid hnews
    have hlen : (l.map fun x => Value.int .u8 (x.toNat : Int)).length = l.length * 1 := by simp
    have hone : ∀ u ∈ (l.map fun x => Value.int .u8 (x.toNat : Int)), u.oneCell' = true := by
      intro u hu; obtain ⟨x, _, rfl⟩ := List.mem_map.1 hu; rfl
    have HL := Lib.hid hlen
    have HO := Lib.hid hone
    generalize hn : (l.map fun x => Value.int .u8 (x.toNat : Int)) = news at *
    have HNW := Lib.hid hn
    clear hn hnews hlen hone
    have HB := Lib.hid hl
    clear hl h1 h2
    have heq := fun (W : World) => Lib.run_eql_slice_nil (P := Try.prog) W 35 5 (some a) l.length c 0 0 Try.underlying35
    go_enter Try.func44, Try.ntmps44
    go_wp2_with (at_builtin; refine wpList_append_own _ rfl _ _ 35 rfl w.heap.size 5 i0 (.int .u8 0) 1 1 Try.underlying35 hi hz0 hz1 hz2 rfl (by decide) _ 0 [] rfl (World.ownsRow_made w _ 0 (Nat.le_refl _) (by decide) rfl) a l.length c news rfl HL.out (fun j u hj => cell_alloc_old (HN.out j u hj)) HO.out (by have := HB.out; unfold maxLen; omega) (by have := HB.out; omega) (by simp) ?_; intro v' w1 hown hgrow hnil)
    go_ret
    refine ⟨v', rfl, ?_, ?_⟩
    · refine bytesW_own (B := w.heap.size) _ (Nat.zero_add l.length).symm (fun k h1 h2 => ⟨h1, h2⟩) ?_
      rw [HNW.out]
      simpa using hown
    · refine ((Below.refl _ _).alloc (Nat.le_refl _) _).grown hgrow (by simp) (fun k hk => ?_)
      cases hk; exact Nat.le_refl _
theorem bytesAt_own {w : World} {B : Nat} {v : Value} {n : Nat} {l : Bytes} (G : Nat → Prop) (hl : l.length = n) (hG : ∀ k, B ≤ k → k < w.heap.size → G k)
    (h : w.ownsRow B 5 1 v n (l.map fun x => .int .u8 (x.toNat : Int))) : BytesAt G w v l := (bytesW_own G hl hG h).bytes
theorem clone_any (G : Nat → Prop) (v : Value) (l : Bytes) (w : World) (hv : BytesAt G w v l) (hl : l.length ≤ 1000000) :
    Calls Try.prog 44 #[v] w (NewBytes l w) := (clone_w G v l w hv hl).mono fun _ _ => newBytes
end Go.Proofs
