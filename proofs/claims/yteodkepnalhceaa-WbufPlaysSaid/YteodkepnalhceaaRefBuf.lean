/- scarpref11's Buf: Get. -/
import Derived.Test.YteodkepnalhceaaRefBufPlain
import Derived.Test.YteodkepnalhceaaSep
import Derived.Test.YteodkepnalhceaaConcat0
import Derived.Test.YteodkepnalhceaaInfo
import Derived.Lib.AppendZeros
import Derived.Deep.RegionHeld3
import Derived.Deep.DeepCutAuto
import Derived.Deep.CutRange
import Derived.BigQuiet
namespace Go.Proofs
open Go.RowKit Sc

def RBufP (v : Value) (blocks most : Int) (L : List Put) (F : Nat → Prop) (w : World) : Prop :=
  ∃ b lv, v = .pointer (some ⟨b, 0, none⟩) ∧ F b ∧ w.heap[b]? = some (.cells #[.int .i64 blocks, .int .i64 most, lv] 73 (0, 0)) ∧ PutsAt (fun q => F q ∧ q ≠ b) w lv L
theorem RBufP.same {v : Value} {blocks most : Int} {L : List Put} {F : Nat → Prop} {w w' : World} (h : RBufP v blocks most L F w) (hsm : Same F w w') : RBufP v blocks most L F w' := by
  obtain ⟨b, lv, h1, h2, h3, h4⟩ := h
  exact ⟨b, lv, h1, h2, (hsm b h2).trans h3, h4.same (fun q hq => hsm q hq.1)⟩
def RBufA (v : Value) (blocks most : Int) (L : List Put) : Asn := ⟨fun F w => RBufP v blocks most L F w, fun _ _ _ hs _ h => h.same hs⟩
theorem putsAt_shape {G : Nat → Prop} {w : World} {v : Value} {l : List Put} (h : PutsAt G w v l) : ∃ p c, v = .slice p l.length c := by
  obtain ⟨p, c, rfl, _⟩ := h; exact ⟨p, c, rfl⟩
theorem putsAt_get {G : Nat → Prop} {w : World} {p : Option Addr} {n c : Nat} {l : List Put} (h : PutsAt G w (.slice p n c) l) (k : Nat) (hk : k < l.length) :
    ∃ g o dp dc, p = some ⟨g, o, none⟩ ∧ G g ∧ w.cell? ⟨g, o + k * 2, none⟩ = some (.int .i64 l[k].lba) ∧ w.cell? ⟨g, o + k * 2 + 1, none⟩ = some (.slice dp l[k].data.length dc) ∧ I64 l[k].lba ∧ BytesAt G w (.slice dp l[k].data.length dc) l[k].data := by
  obtain ⟨p', c', he, _, _, _, h4⟩ := h
  cases he
  obtain ⟨g, o, rfl, hg, h1, h2, dv, h3, h5⟩ := h4 k hk
  obtain ⟨dp, dc, rfl, _⟩ := id h5
  exact ⟨g, o, dp, dc, rfl, hg, h1, h3, h2, h5⟩

set_option maxRecDepth 100000 in
set_option maxHeartbeats 1000000 in
theorem refBufGet_any (F : Nat → Prop) (v : Value) (blocks most : Int) (L : List Put) (lba : Int) (w : World) (hp : RBufP v blocks most L F w) (hlen : L.length ≤ 1000000) :
    Calls Try.prog 40 #[v, .int .i64 lba] w fun e w' => ∃ dv, e = .returned (.tuple #[dv, .bool (lookP L lba).isSome]) ∧ Hid (BytesAt F w' dv ((lookP L lba).getD [])) ∧ Hid (Below w.heap.size w w') := by
  obtain ⟨b, lv, rfl, hFb, hh, h4⟩ := hp
  obtain ⟨p, c, rfl⟩ := putsAt_shape h4
  have hc2 : w.cell? ⟨b, 2, none⟩ = some (.slice p L.length c) := by rw [cell_row hh]; rfl
  have H4 := Lib.hid h4
  have HH := Lib.hid hh
  clear h4 hh
  go_enter Try.func40, Try.ntmps40
  go_wp2_with fail
  go_loopw [6] (fun i wr => ∃ k : Nat, k ≤ L.length ∧ i = .int .i64 k ∧ Hid (Below w.heap.size w wr) ∧ Hid (lookP (L.take k) lba = none)) (fun i _ => L.length - (intOf i).toNat)
  case atStart => exact ⟨0, by omega, rfl, Lib.hid (Below.refl _ _), Lib.hid rfl⟩
  case round =>
    obtain ⟨k, hk, rfl, HB, HN⟩ := hrel
    have hc2' := cell_up HB.out hc2
    by_cases hlt : k < L.length
    case pos =>
      obtain ⟨g, o, dp, dc, rfl, _, hk1, hk2, _, hkd⟩ := putsAt_get (PutsAt.up H4.out HB.out) k hlt
      have hkI : (k : Int) < (L.length : Int) := by omega
      have hnx : lookP (L.take (k + 1)) lba = if L[k].lba = lba then some L[k].data else none := by
        rw [take_snoc _ _ hlt, lookP_append, HN.out, lookP_cons, lookP_nil]
        rfl
      have hall : L[k].lba = lba → lookP L lba = some L[k].data := fun e => by
        have h0 : lookP (L.take (k + 1) ++ L.drop (k + 1)) lba = some L[k].data := by rw [lookP_append, hnx, if_pos e]; rfl
        rwa [List.take_append_drop] at h0
      generalize L[k] = x at *
      by_cases hx : x.lba = lba
      case pos =>
        have hxb : (x.lba == lba) = true := by rw [beq_iff_eq]; exact hx
        have hfin := hall hx
        have hby : BytesAt F wr (.slice dp x.data.length dc) x.data := BytesAt.mono hkd fun q hq => hq.1
        have HFIN := Lib.hid hfin
        have HX := Lib.hid hx
        have HNX := Lib.hid hnx
        have HALL := Lib.hid hall
        have HKD := Lib.hid hkd
        have HBY := Lib.hid hby
        clear hfin hx hnx hall hkd hby
        go_wp2_with fail
        go_ret2
        rw [HFIN.out]
        exact ⟨_, rfl, HBY, HB⟩
      case neg =>
        have hxb : (x.lba == lba) = false := by rw [beq_eq_false_iff_ne]; exact hx
        rw [if_neg hx] at hnx
        have HX := Lib.hid hx
        have HNX := Lib.hid hnx
        have HALL := Lib.hid hall
        have HKD := Lib.hid hkd
        clear hx hnx hall hkd
        go_wp2_with fail
        go_roundw
        case rel => exact ⟨k + 1, by omega, by go_num, HB, HNX⟩
        case measure => simp [intOf]; omega
    case neg =>
      have hfin : lookP L lba = none := by
        have := HN.out
        rwa [List.take_of_length_le (by omega)] at this
      have HFIN := Lib.hid hfin
      clear hfin
      go_wp2_with fail
      go_ret2
      rw [HFIN.out]
      exact ⟨_, rfl, Lib.hid SlAt.nil, HB⟩
theorem refBufGet_sep {W w : World} {L : List Asn} (h : Hid (Sep W L w)) (i : Nat) {v : Value} {blocks most : Int} {s : List Put} (hi : L[i]? = some (RBufA v blocks most s)) (lba : Int) (hlen : s.length ≤ 1000000) :
    Calls Try.prog 40 #[v, .int .i64 lba] w fun e w' => ∃ dv, e = .returned (.tuple #[dv, .bool (lookP s lba).isSome]) ∧ Hid (BytesAt (fun _ => True) w' dv ((lookP s lba).getD [])) ∧ Hid (Below w.heap.size w w') := by
  obtain ⟨F, hF, _⟩ := h.out.get i hi
  refine (refBufGet_any F v blocks most s lba w hF hlen).mono ?_
  rintro e w' ⟨dv, rfl, h1, h2⟩
  exact ⟨dv, rfl, BytesAt.mono h1.out fun _ _ => trivial, h2⟩
end Go.Proofs
