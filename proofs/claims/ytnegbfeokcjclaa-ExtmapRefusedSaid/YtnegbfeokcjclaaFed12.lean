/- Laws of extmap: what a Map holds behind the first of some steps; a step's cells. -/
import Derived.Test.YtnegbfeokcjclaaLaw12
import Derived.Test.YtnegbfeokcjclaaExt6
import Derived.Test.YtnegbfeokcjclaaExt8
namespace Go.Proofs
open Go.RowKit Sc

/-- What a Map of 20 blocks holds when so many steps have been taken. -/
structure Fed (l : List Step12) (k : Nat) (last : Int) (vs : Vers) : Prop where
  good : GoodE 20 last vs
  len : ∀ key l', alook vs key = some l' → l'.length ≤ k
  nv : nVers vs ≤ ssz (l.take k)
  cap : last ≤ 1099511627776
theorem Fed.start (l : List Step12) : Fed l 0 0 [] := ⟨GoodE.start 20, fun key l h => by simp [alook] at h, by simp [nVers], by omega⟩
theorem nVers_aset (vs : Vers) (k : Int) (l : List Put) : nVers (aset vs k l) = nVers vs + l.length - ((alook vs k).getD []).length ∧ ((alook vs k).getD []).length ≤ nVers vs := by
  induction vs with
  | nil => simp [aset, alook, nVers]
  | cons x t ih =>
    obtain ⟨n, y⟩ := x
    unfold nVers at *
    by_cases h : n = k
    · subst h; simp [aset, alook]; omega
    · simp [aset, alook, h]; omega
theorem nVers_applyOne (time : Int) (vs : Vers) (p : Put) : nVers (applyOne time vs p) = nVers vs + 1 := by
  unfold applyOne
  obtain ⟨h1, h2⟩ := nVers_aset vs p.lba ((alook vs p.lba).getD [] ++ [⟨time, p.data⟩])
  rw [List.length_append, List.length_singleton] at h1
  omega
theorem nVers_applyVs (time : Int) : ∀ (l : List Put) (vs : Vers), nVers (applyVs time vs l) = nVers vs + l.length
  | [], vs => rfl
  | p :: l, vs => by
    show nVers (applyVs time (applyOne time vs p) l) = _
    rw [nVers_applyVs time l, nVers_applyOne]; simp; omega
theorem nVers_next (blocks last : Int) (vs : Vers) (t : Tx) : nVers (applyNext blocks last vs t) ≤ nVers vs + t.puts.length := by
  unfold applyNext
  split
  · rw [nVers_applyVs]; omega
  · omega
theorem ssz_take {l : List Step12} {k : Nat} (h : k < l.length) : ssz (l.take (k + 1)) = ssz (l.take k) + (psz l[k].t.puts + 3) := by
  exact sum_take_succ (fun s : Step12 => psz s.t.puts + 3) l k h
theorem ssz_take_le (l : List Step12) (k : Nat) : ssz (l.take k) ≤ ssz l := by
  have e : ssz l = ssz (l.take k) + ssz (l.drop k) := by
    unfold ssz
    conv => lhs; rw [← List.take_append_drop k l, List.map_append, List.sum_append]
  omega
theorem apply_len12 {blocks last : Int} {vs : Vers} {t : Tx} {m : Nat} (h : GoodE blocks last vs) (hm : ∀ k l, alook vs k = some l → l.length ≤ m) : ∀ k l, alook (applyNext blocks last vs t) k = some l → l.length ≤ m + 1 := by
  intro k l hl
  unfold applyNext at hl
  split at hl
  · rename_i hc
    obtain ⟨h1, h2, h3, h4, h5, _⟩ := code_zero hc
    have hn := pairwise_nodup (riseB_pairwise h3)
    by_cases hk : ∃ p ∈ t.puts, p.lba = k
    · obtain ⟨p, hp, rfl⟩ := hk
      rw [applyVs_mine _ _ _ p hn hp] at hl
      cases hl
      cases hx : alook vs p.lba with
      | none => simp
      | some l' => have := hm _ _ hx; simp; omega
    · rw [applyVs_other _ _ _ k (fun p hp e => hk ⟨p, hp, e⟩)] at hl
      have := hm k l hl; omega
  · have := hm k l hl; omega
theorem Fed.next {l : List Step12} {k : Nat} {last : Int} {vs : Vers} (h : Fed l k last vs) (hk : k < l.length) {s : Step12} (hs : l[k] = s) : Fed l (k + 1) (applyLast 20 last s.t) (applyNext 20 last vs s.t) := by
  subst hs
  refine ⟨h.good.next _, apply_len12 h.good h.len, ?_, ?_⟩
  · have h1 := nVers_next 20 last vs l[k].t
    have h2 := h.nv
    have h3 := ssz_take hk
    unfold psz at h3
    omega
  · unfold applyLast
    split
    · rename_i hc; exact (code_zero hc).2.1
    · exact h.cap
theorem Fed.skip {l : List Step12} {k : Nat} {last : Int} {vs : Vers} (h : Fed l k last vs) (hk : k < l.length) : Fed l (k + 1) last vs :=
  ⟨h.good, fun key l' hl => by have := h.len key l' hl; omega, by have := h.nv; have := ssz_take hk; omega, h.cap⟩
theorem Fed.long {l : List Step12} {k : Nat} {last : Int} {vs : Vers} (h : Fed l k last vs) (hk : k ≤ l.length) (hl : l.length ≤ 100) : ∀ key l', alook vs key = some l' → l'.length ≤ 1000000 := fun key l' hq => by
  have := h.len key l' hq; omega
theorem Fed.nv' {l : List Step12} {k : Nat} {last : Int} {vs : Vers} (h : Fed l k last vs) (hl : ssz l ≤ 20000) : nVers vs ≤ 20000 := by
  have := h.nv; have := ssz_take_le l k; omega

theorem ssz_mem12 {l : List Step12} {s : Step12} (h : s ∈ l) : s.t.puts.length ≤ ssz l := by
  unfold ssz
  induction l with
  | nil => cases h
  | cons a t ih =>
    simp only [List.map_cons, List.sum_cons]
    rcases List.mem_cons.1 h with rfl | h
    · unfold psz; omega
    · have := ih h; omega
theorem Steps12.more {w w' : World} {v : Value} {l : List Step12} (h : Steps12 (Old w) w v l) (hb : Below w.heap.size w w') : Steps12 (Old w') w' v l := by
  have hz := hb.size
  refine SlAt.mono (h.up hb) (fun k (hk : k < w.heap.size) => (show k < w'.heap.size by omega)) ?_
  rintro b o x ⟨h1, h2, ⟨h3, h4, v, h5, h6⟩, h7⟩
  exact ⟨h1, h2, ⟨h3, h4, v, h5, h6.mono fun k (hk : k < w.heap.size) => (show k < w'.heap.size by omega)⟩, h7⟩
/-- A step's cells, where things stand. -/
theorem step12_cells {W wr : World} {L : List Asn} {lp : Option Addr} {lc : Nat} {l : List Step12} (HL : Hid (Steps12 (Old W) W (.slice lp l.length lc) l)) (HS : Hid (Sep W (OldA W :: L) wr)) {k : Nat} (hk : k < l.length) (hz : ssz l ≤ 20000) :
    ∃ s bb o pp pc, l[k] = s ∧ lp = some ⟨bb, o, none⟩ ∧ bb < W.heap.size ∧ wr.cell? ⟨bb, o + k * 4, none⟩ = some (.int .i64 s.kind) ∧ wr.cell? ⟨bb, o + k * 4 + 1, none⟩ = some (.int .i64 s.t.time) ∧
      wr.cell? ⟨bb, o + k * 4 + 1 + 1, none⟩ = some (.slice pp s.t.puts.length pc) ∧ Hid (∀ L', OldA W :: L = L' → ∀ i, i ≠ 0 → ∀ G, Sc.Rest L' i G wr → TxAt G wr (.agg #[.int .i64 s.t.time, .slice pp s.t.puts.length pc]) s.t) ∧ Hid (s.t.puts.length ≤ 20000) := by
  obtain ⟨p', c', hv', _, _, _, g5⟩ := HL.out
  cases hv'
  obtain ⟨bb, o, rfl, hgb, hck, hki, htx, hcn⟩ := g5 k hk
  obtain ⟨pv, hct, hcp, htt, hone⟩ := txE_txAt htx
  have hpl := ssz_mem12 (List.getElem_mem hk)
  have hbo := HS.out.old
  have hti := htt
  obtain ⟨pv', hpe, hti', hp⟩ := hti
  cases hpe
  obtain ⟨pp, pc, rfl, _⟩ := hp
  refine ⟨l[k], bb, o, pp, pc, rfl, rfl, hgb, (hbo.cell (p := ⟨bb, o + k * 4, none⟩) hgb).trans hck, (hbo.cell (p := ⟨bb, o + k * 4 + 1, none⟩) hgb).trans hct, (hbo.cell (p := ⟨bb, o + k * 4 + 1 + 1, none⟩) hgb).trans hcp, ?_, by unfold Hid; omega⟩
  rintro L' rfl i hi G hG
  exact (htt.same (hbo.block · ·)).mono (rest_old hi hG)
/-- An extent, boxed. -/
theorem box_ext (w : World) (a n : Int) : ∃ W0, w.alloc (.cells #[.int .i64 a, .int .i64 n] 45) = W0 ∧ Below w.heap.size w W0 ∧ W0.cell? ⟨w.heap.size, 0, none⟩ = some (.int .i64 a) ∧ W0.cell? ⟨w.heap.size, 1, none⟩ = some (.int .i64 n) ∧ w.heap.size < W0.heap.size :=
  ⟨_, rfl, below_alloc w _, by rw [cell_row (heap_alloc_new w _)]; rfl, by rw [cell_row (heap_alloc_new w _)]; rfl, by simp⟩
theorem box_cells {W0 wr : World} {L : List Asn} {b : Nat} {a n : Int} (h0 : Hid (W0.cell? ⟨b, 0, none⟩ = some (.int .i64 a))) (h1 : Hid (W0.cell? ⟨b, 1, none⟩ = some (.int .i64 n))) (hb : Hid (b < W0.heap.size)) (HS : Hid (Sep W0 (OldA W0 :: L) wr)) :
    wr.cell? ⟨b, 0, none⟩ = some (.int .i64 a) ∧ wr.cell? ⟨b, 1, none⟩ = some (.int .i64 n) :=
  ⟨(HS.out.old.cell (p := ⟨b, 0, none⟩) hb.out).trans h0.out, (HS.out.old.cell (p := ⟨b, 1, none⟩) hb.out).trans h1.out⟩
/-- Apply, handed the outcome as one fact. -/
theorem fedApply {W wr : World} {L : List Asn} {mv tv : Value} {last : Int} {vs : Vers} {l : List Step12} {k : Nat} {s : Step12} (HS : Hid (Sep W (OldA W :: ExtA mv 20 last vs :: L) wr)) (HF : Hid (Fed l k last vs)) (hk : k < l.length) (hl : l.length ≤ 100)
    (ht : Hid (∀ L', OldA W :: ExtA mv 20 last vs :: L = L' → ∀ i, i ≠ 0 → ∀ G, Sc.Rest L' i G wr → TxAt G wr tv s.t)) (hp : Hid (s.t.puts.length ≤ 20000)) :
    Calls Try.prog 16 #[mv, tv] wr fun e w' => e = .returned (.int .i64 (applyCode 20 last s.t)) ∧ Hid (Sep W (OldA W :: ExtA mv 20 (applyLast 20 last s.t) (applyNext 20 last vs s.t) :: L) w') :=
  (extApply_sep HS.out 1 rfl (by omega) s.t (fun G hG => ht.out _ rfl 1 (by decide) G hG) (HF.out.long (by omega) hl) (by have := hp.out; omega)).mono fun _ _ h => h
end Go.Proofs
