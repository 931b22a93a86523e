/- scarpref11's SamePuts: two lists of Puts, alike. -/
import Derived.Test.YtajjadoalfjnkaaGreatTx7
import Derived.Laws.IdiomStrings
import Derived.Laws.BytesArg
namespace Go.Proofs
open Go.RowKit Sc

/-- 'string(b)' reads the bytes. -/
theorem str_of {G : Nat → Prop} {w : World} {v : Value} {l : Bytes} (h : BytesAt G w v l) : (convert 30 9 v).run Tryz.prog w = .ok (.string ⟨l.toArray⟩) w := by
  obtain ⟨p, c, rfl, h1, h2, h3, h4⟩ := h
  cases p with
  | none =>
    have hl : l.length = 0 := by have := h3 rfl; omega
    obtain rfl : l = [] := List.length_eq_zero_iff.1 hl
    exact run_convert_bytes_nil w 30 5 Tryz.underlying30 Tryz.underlying5 0 c 9 Tryz.underlying9
  | some a =>
    refine run_convert_bytes_back w 30 9 5 a c l Tryz.underlying30 Tryz.underlying5 Tryz.underlying9 fun j hj => ?_
    obtain ⟨b, o, hp, _, he⟩ := h4 j hj
    cases hp
    unfold byteE at he
    rw [Nat.mul_one] at he
    have hadd : (⟨b, o, none⟩ : Addr).add j = ⟨b, o + j, none⟩ := by unfold Addr.add; split <;> simp_all
    rw [hadd]; exact he

def pkey (p : Put) : Int × Bytes := (p.lba, p.data)
def samePuts (a b : List Put) : Bool := a.map pkey == b.map pkey
theorem pkey_inj {p q : Put} (h : pkey p = pkey q) : p = q := by
  cases p; cases q; simp only [pkey, Prod.mk.injEq] at h; obtain ⟨rfl, rfl⟩ := h; rfl
theorem samePuts_iff {a b : List Put} : samePuts a b = true ↔ a = b := by
  unfold samePuts
  rw [beq_iff_eq]
  constructor
  · intro h
    induction a generalizing b with
    | nil => cases b with
      | nil => rfl
      | cons y t => simp at h
    | cons x t ih => cases b with
      | nil => simp at h
      | cons y u =>
        simp only [List.map_cons, List.cons.injEq] at h
        rw [pkey_inj h.1, ih h.2]
  · rintro rfl; rfl

set_option maxRecDepth 100000 in
set_option maxHeartbeats 1000000 in
theorem samePuts_any (G : Nat → Prop) (va vb : Value) (a b : List Put) (w : World) (hG : Dom G w) (ha : PutsAt G w va a) (hb : PutsAt G w vb b) :
    Calls Tryz.prog 37 #[va, vb] w fun e w' => e = .returned (.bool (samePuts a b)) ∧ Below w.heap.size w w' := by
  obtain ⟨pa, ca, rfl, ha1, ha2, ha3, ha4⟩ := ha
  obtain ⟨pb, cb, rfl, hb1, hb2, hb3, hb4⟩ := hb
  by_cases hlen : a.length = b.length
  case neg =>
    have hne : (((a.length : Nat) : Int) != ((b.length : Nat) : Int)) = true := by rw [bne_iff_ne]; omega
    have hs : samePuts a b = false := by
      cases h : samePuts a b with
      | false => rfl
      | true => exact absurd (congrArg List.length (samePuts_iff.1 h)) hlen
    rw [hs]
    clear ha4 hb4 ha3 hb3 hs hlen
    go_enter Tryz.func37, Tryz.ntmps37
    go_wp2
    go_ret
    exact ⟨rfl, Below.refl _ _⟩
  case pos =>
    have heq : (((a.length : Nat) : Int) != ((b.length : Nat) : Int)) = false := by rw [bne_eq_false_iff_eq]; omega
    have HA := Lib.hid ha4
    have HB := Lib.hid hb4
    have HL := Lib.hid hlen
    clear ha4 hb4 ha3 hb3 hlen
    go_enter Tryz.func37, Tryz.ntmps37
    go_wp2
    go_loopw [5] (fun i wr => ∃ k : Nat, k ≤ a.length ∧ i = .int .i64 k ∧ Below w.heap.size w wr ∧ Hid (a.take k = b.take k)) (fun i _ => a.length - (intOf i).toNat)
    case atStart => exact ⟨0, by omega, rfl, Below.refl _ _, rfl⟩
    case round =>
      obtain ⟨k, hk, rfl, hbw, HT⟩ := hrel
      by_cases hlt : k < a.length
      · have hltb : k < b.length := by rw [← HL.out]; exact hlt
        obtain ⟨g1, o1, rfl, hg1, hc1, hi1, v1, hv1, hd1⟩ := HA.out k hlt
        obtain ⟨g2, o2, rfl, hg2, hc2, hi2, v2, hv2, hd2⟩ := HB.out k hltb
        have hc1' := (hbw.cell (p := ⟨g1, o1 + k * 2, none⟩) (hG g1 hg1)).trans hc1
        have hc2' := (hbw.cell (p := ⟨g2, o2 + k * 2, none⟩) (hG g2 hg2)).trans hc2
        have hv1' := (hbw.cell (p := ⟨g1, o1 + k * 2 + 1, none⟩) (hG g1 hg1)).trans hv1
        have hv2' := (hbw.cell (p := ⟨g2, o2 + k * 2 + 1, none⟩) (hG g2 hg2)).trans hv2
        have hd1' := hd1.same (hG.same hbw)
        have hd2' := hd2.same (hG.same hbw)
        have hs1 := fun nq => str_of (BytesAt.up hd1' (below_drewN (Below.refl wr.heap.size wr) nq))
        have hs2 := fun nq => str_of (BytesAt.up hd2' (below_drewN (Below.refl wr.heap.size wr) nq))
        have hta := take_snoc a k hlt
        have htb := take_snoc b k hltb
        have HTA := Lib.hid hta
        have HTB := Lib.hid htb
        have hstep : pkey a[k] ≠ pkey b[k] → samePuts a b = false := by
          intro hne
          cases h : samePuts a b with
          | false => rfl
          | true => exfalso; apply hne; have := samePuts_iff.1 h; subst this; rfl
        generalize a[k] = x at hc1' hv1' hs1 HTA hstep hi1
        generalize b[k] = y at hc2' hv2' hs2 HTB hstep hi2
        have HSTEP := Lib.hid hstep
        obtain ⟨x1, x2⟩ := x
        obtain ⟨y1, y2⟩ := y
        simp only at hc1' hc2' hs1 hs2
        clear hta htb hc1 hc2 hv1 hv2 hd1 hd2 hd1' hd2' hstep hi1 hi2
        by_cases h1 : x1 = y1
        · subst h1
          by_cases h2 : x2 = y2
          · subst h2
            have e1 : (x1 != x1) = false := by simp
            go_wp2
            go_quiet (fail)
            go_wp2
            go_roundw
            case rel => exact ⟨k + 1, by omega, by go_num, below_drewN hbw _, by unfold Hid; rw [HTA.out, HTB.out, HT.out]⟩
            case measure => simp [intOf]; omega
          · have e1 : (x1 != x1) = false := by simp
            have e2 : (x2 == y2) = false := by rw [beq_eq_false_iff_ne]; exact h2
            have H2 := Lib.hid h2
            clear h2
            go_wp2
            go_quiet (fail)
            go_wp2
            go_ret
            refine ⟨?_, below_drewN hbw _⟩
            exact congrArg boolRet (HSTEP.out (fun h => H2.out (by simpa [pkey] using h))).symm
        · have e1 : (x1 != y1) = true := by rw [bne_iff_ne]; exact h1
          have H1 := Lib.hid h1
          clear h1
          go_wp2
          go_quiet (fail)
          go_wp2
          go_ret
          refine ⟨?_, below_drewN hbw _⟩
          exact congrArg boolRet (HSTEP.out (fun h => H1.out (by simp only [pkey, Prod.mk.injEq] at h; exact h.1))).symm
      · have HK := Lib.hid (show k = a.length by omega)
        go_wp2
        go_ret
        refine ⟨?_, hbw⟩
        have : samePuts a b = true := by
          rw [samePuts_iff]
          have h := HT.out
          rw [HK.out, List.take_length, HL.out, List.take_length] at h
          exact h
        exact congrArg boolRet this.symm
end Go.Proofs
