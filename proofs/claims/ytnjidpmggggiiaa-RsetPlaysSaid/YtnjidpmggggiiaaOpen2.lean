/- More arguments opened. -/
import Derived.Test.YtnjidpmggggiiaaOpen
namespace Go.Proofs
open Go.RowKit Sc Go.ChangeShapes Go.WideShapes
theorem len_n {α : Type} {l : List α} {n : Nat} (h : l.length = n + 1) : ∃ a t, l = a :: t ∧ t.length = n := by
  cases l with
  | nil => simp at h
  | cons a t => exact ⟨a, t, rfl, by simpa using h⟩
section
variable {H : Type} {enc : TypeId × Value → H} {w : World}

theorem opn_ints {fuel : Nat} {cs : List Value} {x : DataW H × List MemPlace} (h : DataW.trod enc Try.prog w 0 (fun _ => true) true fuel 139 cs = some x) : ∃ v l, cs = [v] ∧ IntsAt (Old w) w v l := by
  refine open_sl (k := 1) Try.underlying139 (by kernel_rfl) (by omega) h fun n cs' y b o hl hc ht => ?_
  obtain ⟨c, rfl⟩ := List.length_eq_one_iff.1 hl
  obtain ⟨z, rfl, hz⟩ := trod_i64 Try.underlying3 ht
  exact ⟨z, by first | (simp; done) | (have := hc 0 (by omega); simpa using this), hz⟩


theorem opn_ext {fuel : Nat} {cs : List Value} {x : DataW H × List MemPlace} (h : DataW.trod enc Try.prog w 0 (fun _ => true) true fuel 39 cs = some x) :
    ∃ a b, cs = [.int .i64 a, .int .i64 b] ∧ I64 a ∧ I64 b := by
  obtain ⟨m, hl, hf⟩ := open_st Try.underlying39 h
  rw [show Try.prog.cellsOf 39 = 2 by kernel_rfl] at hl
  obtain ⟨c0, t0, rfl, hl0⟩ := len_n hl
  obtain ⟨c1, t1, rfl, hl1⟩ := len_n hl0
  obtain rfl : t1 = [] := List.length_eq_zero_iff.1 hl1
  obtain ⟨y0, h0⟩ := hf _ (List.mem_cons_self ..)
  obtain ⟨y1, h1⟩ := hf _ (List.mem_cons_of_mem _ (List.mem_cons_self ..))
  have k0 : Try.prog.cellsOf 3 = 1 := by kernel_rfl
  simp only [k0, List.drop_zero, List.drop_succ_cons, List.take_succ_cons, List.take_zero] at h0 h1
  obtain ⟨a, rfl, ha⟩ := trod_i64 Try.underlying3 h0
  obtain ⟨b, rfl, hb⟩ := trod_i64 Try.underlying3 h1
  exact ⟨a, b, rfl, ha, hb⟩

theorem opn_exts {fuel : Nat} {cs : List Value} {x : DataW H × List MemPlace} (h : DataW.trod enc Try.prog w 0 (fun _ => true) true fuel 70 cs = some x) : ∃ v l, cs = [v] ∧ ExtsAt (Old w) w v l := by
  refine open_sl (k := 2) Try.underlying70 (by kernel_rfl) (by omega) h fun n cs' y b o hl hc ht => ?_
  obtain ⟨a, c, rfl, ha, hb⟩ := opn_ext ht
  exact ⟨⟨a, c⟩, by first | (simp; done) | (have := hc 0 (by omega); simpa using this), by first | (simp; done) | (have := hc 1 (by omega); simpa using this), ha, hb⟩

theorem opn_read {fuel : Nat} {cs : List Value} {x : DataW H × List MemPlace} (h : DataW.trod enc Try.prog w 0 (fun _ => true) true fuel 64 cs = some x) :
    ∃ n dv d q, cs = [.int .i64 n, dv, .bool q] ∧ I64 n ∧ BytesAt (Old w) w dv d := by
  obtain ⟨m, hl, hf⟩ := open_st Try.underlying64 h
  rw [show Try.prog.cellsOf 64 = 3 by kernel_rfl] at hl
  obtain ⟨c0, t0, rfl, hl0⟩ := len_n hl
  obtain ⟨c1, t1, rfl, hl1⟩ := len_n hl0
  obtain ⟨c2, t2, rfl, hl2⟩ := len_n hl1
  obtain rfl : t2 = [] := List.length_eq_zero_iff.1 hl2
  obtain ⟨y0, h0⟩ := hf _ (List.mem_cons_self ..)
  obtain ⟨y1, h1⟩ := hf _ (List.mem_cons_of_mem _ (List.mem_cons_self ..))
  obtain ⟨y2, h2⟩ := hf _ (List.mem_cons_of_mem _ (List.mem_cons_of_mem _ (List.mem_cons_self ..)))
  have k0 : Try.prog.cellsOf 3 = 1 := by kernel_rfl
  have k1 : Try.prog.cellsOf 26 = 1 := by kernel_rfl
  have k2 : Try.prog.cellsOf 4 = 1 := by kernel_rfl
  simp only [k0, k1, k2, List.drop_zero, List.drop_succ_cons, List.take_succ_cons, List.take_zero] at h0 h1 h2
  obtain ⟨n, rfl, hn⟩ := trod_i64 Try.underlying3 h0
  obtain ⟨dv, d, hc, hd⟩ := open_bytes h1
  obtain ⟨q, hq, _⟩ := DataW.trod_bool Try.underlying4 h2
  cases hc
  cases hq
  exact ⟨n, _, d, q, rfl, hn, hd⟩

theorem opn_reads {fuel : Nat} {cs : List Value} {x : DataW H × List MemPlace} (h : DataW.trod enc Try.prog w 0 (fun _ => true) true fuel 55 cs = some x) : ∃ v l, cs = [v] ∧ ReadsAt (Old w) w v l := by
  refine open_sl (k := 3) Try.underlying55 (by kernel_rfl) (by omega) h fun n cs' y b o hl hc ht => ?_
  obtain ⟨n, dv, d, q, rfl, hn, hd⟩ := opn_read ht
  exact ⟨⟨n, d, q⟩, by first | (simp; done) | (have := hc 0 (by omega); simpa using this), hn, ⟨dv, by first | (simp; done) | (have := hc 1 (by omega); simpa using this), hd⟩, by first | (simp; done) | (have := hc 2 (by omega); simpa using this)⟩




end
end Go.Proofs
