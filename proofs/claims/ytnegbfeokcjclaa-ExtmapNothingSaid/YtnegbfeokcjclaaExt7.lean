/- Package extmap: Versions, Used. -/
import Derived.Test.YtnegbfeokcjclaaExt1
namespace Go.Proofs
open Go.RowKit Sc

def vlen : Value → Nat
  | .slice _ n _ => n
  | _ => 0
def nVers (vs : Vers) : Nat := (vs.map fun x => x.2.length).sum
def vsum (m : List (Int × Value)) : Nat := (m.map fun x => vlen x.2).sum
theorem al_sum {R : Value → List Put → Prop} (hR : ∀ u l, R u l → vlen u = l.length) : ∀ {m : List (Int × Value)} {vs : Vers}, AL R m vs → vsum m = nVers vs
  | [], [], _ => rfl
  | (_, u) :: m, (_, l) :: vs, h => by
    obtain ⟨⟨_, h2⟩, h3⟩ := h
    have := al_sum hR h3
    unfold vsum nVers at *
    simp only [List.map_cons, List.sum_cons]
    rw [this, hR u l h2]
  | [], _ :: _, h => h.elim
  | _ :: _, [], h => h.elim
theorem al_len {R : Value → List Put → Prop} : ∀ {m : List (Int × Value)} {vs : Vers}, AL R m vs → m.length = vs.length
  | [], [], _ => rfl
  | _ :: m, _ :: vs, h => by
    obtain ⟨_, h3⟩ := h
    have := al_len (R := R) h3
    simp [this]
  | [], _ :: _, h => h.elim
  | _ :: _, [], h => h.elim

set_option maxHeartbeats 1000000 in
theorem extUsed_any (F : Nat → Prop) (v : Value) (blocks last : Int) (vs : Vers) (w : World) (h : ExtIs F w v blocks last vs) (h1 : 1 ≤ blocks) :
    Calls Try.prog 24 #[v] w fun e w' => e = .returned (.int .i64 vs.length) ∧ w = w' := by
  have H := Lib.hid h
  obtain ⟨b, r, ml, rfl, hb, hc0, hc1, hc2, hm, ha⟩ := h.cells
  have hl := fun (W : World) (hW : MapIs W r ml) => hW.len (P := Try.prog) Try.underlying81 3
  have hlw := hl w hm
  rw [al_len ha] at hlw
  clear h hl hm ha
  go_enter Try.func24, Try.ntmps24
  go_wp2_with fail
  refine (extGone_any F _ _ _ _ _ H.out h1).mono ?_
  rintro e w1 ⟨rfl, rfl⟩
  go_wp2
  go_ret
  exact ⟨rfl, rfl⟩

theorem vsum_perm {a b : List (Int × Value)} (h : a.Perm b) : vsum a = vsum b := by
  unfold vsum
  exact (h.map fun x => vlen x.2).sum_nat
set_option maxHeartbeats 1000000 in
theorem extVersions_any (F : Nat → Prop) (v : Value) (blocks last : Int) (vs : Vers) (w : World) (h : ExtIs F w v blocks last vs) (h1 : 1 ≤ blocks) (hn : nVers vs ≤ 1000000000) :
    Calls Try.prog 22 #[v] w fun e w' => e = .returned (.int .i64 (nVers vs)) ∧ Below w.heap.size w w' := by
  have H := Lib.hid h
  obtain ⟨b, r, ml, rfl, hb, hc0, hc1, hc2, hm, ha⟩ := h.cells
  have hsl : ∀ x ∈ ml, ∃ p n c, x.2 = .slice p n c := fun x hx => by
    obtain ⟨i, hi, rfl⟩ := List.getElem_of_mem hx
    obtain ⟨_, p, c, he, _⟩ := All2.get ha i hi (by rw [← All2.length ha]; exact hi)
    exact ⟨p, _, c, he⟩
  have hsum : vsum ml = nVers vs := al_sum (fun u l h => by obtain ⟨p, c, rfl, _⟩ := h; rfl) ha
  obtain ⟨o, hrg, hR⟩ := hm.range (P := Try.prog) Try.underlying81
  have HR := Lib.hid hR
  have HSL := Lib.hid hsl
  have HSUM := Lib.hid hsum
  clear hsl hsum
  clear h hR hm ha
  go_enter Try.func22, Try.ntmps22
  go_wp2_with fail
  refine (extGone_any F _ _ _ _ _ H.out h1).mono ?_
  rintro e w1 ⟨rfl, rfl⟩
  go_wp2
  go_loopg [2] ml.length (fun gg s1 wr => ∃ left, ∃ q : Nat, left.length ≤ gg ∧ s1 = .int .i64 q ∧ Hid (q + vsum left = nVers vs) ∧ Ranges wr w.heap.size r ml left ∧ Hid (Below w.heap.size w wr))
  case atStart => exact ⟨ml, 0, Nat.le_refl _, rfl, by unfold Hid; rw [HSUM.out]; omega, HR.out, below_alloc w o⟩
  case round =>
    obtain ⟨left, q, hg, rfl, hq, hR, hb⟩ := hrel
    rcases hR.next (P := Try.prog) 0 with ⟨rfl, hn⟩ | ⟨n, v, left', w', hp, hmem, hnx, hen, hR', hst⟩
    · obtain rfl : q = nVers vs := by have := hq.out; simpa [vsum] using this
      clear hR hrg
      go_wp2
      go_ret
      refine ⟨?_, hb.out⟩
      first | rfl | (simp; done) | trace_state
    · obtain ⟨p, n', c, hv⟩ := HSL.out _ hmem
      simp only at hv
      subst hv
      have hsm : q + n' + vsum left' = nVers vs := by
        have h1 := hq.out
        rw [vsum_perm hp] at h1
        have hc : vsum ((n, Value.slice p n' c) :: left') = n' + vsum left' := by unfold vsum; rw [List.map_cons, List.sum_cons]; rfl
        rw [hc] at h1
        omega
      have hb' := hb.out.trans (hst.below (Nat.le_refl _))
      have hl := hp.length_eq
      rw [List.length_cons] at hl
      have hw1 : IntKind.i64.wrap ((q : Int) + (n' : Int)) = (q : Int) + (n' : Int) := IntWalk.i64_in _ (by omega)
      have HB' := Lib.hid hb'
      have HR' := Lib.hid hR'
      have HG := Lib.hid hg
      have HSM := Lib.hid hsm
      have HL := Lib.hid hl
      have HP := Lib.hid hp
      clear hb' hR' hg hsm hl hp
      clear hR hst hmem hrg
      go_wp2
      go_roundg left'.length
      case measure => have := HL.out; have := HG.out; omega
      case rel =>
        refine ⟨left', q + n', Nat.le_refl _, by go_num, HSM.out, HR'.out, HB'.out⟩
end Go.Proofs
