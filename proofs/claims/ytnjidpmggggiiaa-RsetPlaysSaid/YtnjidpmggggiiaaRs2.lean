/- Texts of this claim, one behind the other: Ext3, Ext4, PlainExt, RefMapP, RefMap1, RefMap2P, RegG, Append, RegApp, Concat0, OutPush, RefMap2L, LaySort, FindExt, PlainIval, Ival1, SortExt. -/
import Derived.Orders
import Derived.Tactics
import Derived.Tactics2
import Derived.KernelRfl
import Derived.Deep.AppendLies
import Derived.Maps.AppendAt
import Derived.Shelf.SlSortCmp.WholeK
import Derived.Shelf.SlicesG.Cmp
import Derived.Ground.SlsfProg
import Derived.Ground.SlgcProg
import Derived.Test.YtnjidpmggggiiaaChecked
import Derived.Deep.LoopGhost
import Derived.Test.YtnjidpmggggiiaaRs1

/- Package extmap: what one more version of a block does to what is in memory. Apply. -/
namespace Go.Proofs
open Go.RowKit Sc

theorem AL.upd {α β : Type} {R R' : α → β → Prop} {k : Int} {v : α} {d : β} (hv : R' v d) : ∀ {m : List (Int × α)} {s : List (Int × β)}, (m.map (·.1)).Nodup → AL R m s → (∀ n a b, (n, a) ∈ m → n ≠ k → R a b → R' a b) → AL R' (aset m k v) (aset s k d)
  | [], [], _, _, _ => ⟨⟨rfl, hv⟩, trivial⟩
  | (a1, a2) :: m, (b1, b2) :: s, hn, ⟨⟨h1, h2⟩, h3⟩, ho => by
    simp only at h1 h2
    subst h1
    simp only [List.map_cons, List.nodup_cons] at hn
    by_cases hk : a1 = k
    · simp only [aset, if_pos hk]
      refine ⟨⟨rfl, hv⟩, all h3 (fun x hx e => hn.1 ?_) fun n a b hm => ho n a b (List.mem_cons_of_mem _ hm)⟩
      rw [hk, ← e]; exact List.mem_map.2 ⟨x, hx, rfl⟩
    · simp only [aset, if_neg hk]
      exact ⟨⟨rfl, ho a1 a2 b2 (List.mem_cons_self ..) hk h2⟩, AL.upd hv hn.2 h3 fun n a b hm => ho n a b (List.mem_cons_of_mem _ hm)⟩
  | [], _ :: _, _, h', _ => h'.elim
  | _ :: _, [], _, h', _ => h'.elim
where all {α β : Type} {R R' : α → β → Prop} {k : Int} : ∀ {m : List (Int × α)} {s : List (Int × β)}, AL R m s → (∀ x ∈ m, x.1 ≠ k) → (∀ n a b, (n, a) ∈ m → n ≠ k → R a b → R' a b) → AL R' m s
  | [], [], _, _, _ => trivial
  | (a1, a2) :: m, (b1, b2) :: s, ⟨⟨h1, h2⟩, h3⟩, hk, ho => ⟨⟨h1, ho a1 a2 b2 (List.mem_cons_self ..) (hk _ (List.mem_cons_self ..)) h2⟩, all h3 (fun x hx => hk x (List.mem_cons_of_mem _ hx)) fun n a b hm => ho n a b (List.mem_cons_of_mem _ hm)⟩
  | [], _ :: _, h', _, _ => h'.elim
  | _ :: _, [], h', _, _ => h'.elim

/-- A Map, every piece of it by name. -/
structure ExtB (F : Nat → Prop) (w : World) (b r : Nat) (ml : List (Int × Value)) (D : Nat → Prop) (blocks last : Int) (vs : Vers) : Prop where
  fb : F b
  fr : F r
  hb : w.heap[b]? = some (.cells #[.int .i64 blocks, .map (some r), .int .i64 last] 108 (0, 0))
  hm : MapIs w r ml
  ha : AL (fun u l => OutS 115 2 putR 0 w u l D ∧ ∀ g, u.ownBlock = some g → F g ∧ g ≠ b ∧ g ≠ r) ml vs
  ho : ∀ x ∈ ml, ∀ y ∈ ml, x.1 ≠ y.1 → ∀ g, x.2.ownBlock = some g → y.2.ownBlock ≠ some g
  hD : ∀ k, D k → F k ∧ k ≠ b ∧ k ≠ r
  dom : Dom F w
theorem ExtIs.parts {F : Nat → Prop} {w : World} {v : Value} {blocks last : Int} {vs : Vers} (h : ExtIs F w v blocks last vs) : ∃ b r ml D, v = .pointer (some ⟨b, 0, none⟩) ∧ ExtB F w b r ml D blocks last vs := by
  obtain ⟨⟨b, r, ml, D, h1, h2, h3, h4, h5, h6, h7, h8⟩, hd⟩ := h
  exact ⟨b, r, ml, D, h1, h2, h3, h4, h5, h6, h7, h8, hd⟩
theorem ExtB.is {F : Nat → Prop} {w : World} {b r : Nat} {ml : List (Int × Value)} {D : Nat → Prop} {blocks last : Int} {vs : Vers} (h : ExtB F w b r ml D blocks last vs) : ExtIs F w (.pointer (some ⟨b, 0, none⟩)) blocks last vs :=
  ⟨⟨b, r, ml, D, rfl, h.fb, h.fr, h.hb, h.hm, h.ha, h.ho, h.hD⟩, h.dom⟩
theorem ExtB.up {F : Nat → Prop} {w w' : World} {b r : Nat} {ml : List (Int × Value)} {D : Nat → Prop} {blocks last : Int} {vs : Vers} (h : ExtB F w b r ml D blocks last vs) (hb : Below w.heap.size w w') : ExtB F w' b r ml D blocks last vs :=
  have hs := h.dom.same hb
  ⟨h.fb, h.fr, by rw [hs b h.fb]; exact h.hb, h.hm.same hs h.fr, h.ha.imp fun _ _ ⟨a, c⟩ => ⟨a.same putR_stable hs hb.size (fun g hg => (c g hg).1) (fun k hk => (h.hD k hk).1), c⟩, h.ho, h.hD, h.dom.of_size hb.size⟩
theorem ExtB.ne {F : Nat → Prop} {w : World} {b r : Nat} {ml : List (Int × Value)} {D : Nat → Prop} {blocks last : Int} {vs : Vers} (h : ExtB F w b r ml D blocks last vs) : b ≠ r := by
  intro e
  obtain ⟨es, c, hh, _⟩ := h.hm
  have := h.hb
  rw [e, hh] at this
  cases this
/-- What is told of one key. -/
theorem ExtB.look {F : Nat → Prop} {w : World} {b r : Nat} {ml : List (Int × Value)} {D : Nat → Prop} {blocks last : Int} {vs : Vers} (h : ExtB F w b r ml D blocks last vs) (k : Int) :
    ∃ u l, (alook ml k).getD (.slice none 0 0) = u ∧ (alook vs k).getD [] = l ∧ OutS 115 2 putR 0 w u l D ∧ (∀ g, u.ownBlock = some g → F g ∧ g ≠ b ∧ g ≠ r) ∧ (∀ x ∈ ml, x.1 ≠ k → ∀ g, x.2.ownBlock = some g → u.ownBlock ≠ some g) := by
  rcases h.ha.look k with ⟨h1, h2⟩ | ⟨u, l, h1, h2, h3, h4⟩
  · refine ⟨_, _, by rw [h1]; try rfl, by rw [h2]; try rfl, ?_, by simp [Value.ownBlock], by simp [Value.ownBlock]⟩
    obtain ⟨css, a1, a2, a3, a4, a5⟩ := (OutS.nil (T := 115) (k := 2) (R := putR) (B := 0) (w := w))
    exact ⟨css, a1, a2, a3, fun i h h' => absurd h' (by simp), fun q hq => ⟨Nat.zero_le _, h.dom q (h.hD q hq).1, by simp [Value.ownBlock]⟩⟩
  · exact ⟨u, l, by rw [h1]; rfl, by rw [h2]; rfl, h3, h4, fun x hx hne g hg => h.ho x hx (k, u) (alook_in h1) hne g hg⟩

/-- One more version of block k. -/
theorem ExtB.put {F : Nat → Prop} {w w4 w5 w6 : World} {b r : Nat} {ml : List (Int × Value)} {D D5 : Nat → Prop} {blocks last : Int} {vs : Vers} (h : ExtB F w b r ml D blocks last vs) {k : Int} {u v' : Value} {gg : Nat} {l' : List Put}
    (hu : ∀ g, u.ownBlock = some g → F g ∧ g ≠ b ∧ g ≠ r) (hud : ∀ x ∈ ml, x.1 ≠ k → ∀ g, x.2.ownBlock = some g → u.ownBlock ≠ some g) (huD : ∀ g, u.ownBlock = some g → ¬ D g)
    (hb4 : Below w.heap.size w w4) (hg5 : w4.grownBy w5 u.ownBlock) (hv : v'.ownBlock = some gg) (hat : u.ownBlock = some gg ∨ w.heap.size ≤ gg) (hgl : gg < w5.heap.size)
    (hn : OutS 115 2 putR 0 w5 v' l' D5) (hD5 : ∀ q, D5 q → D q ∨ New w w5 q) (hDD : ∀ q, D q → D5 q)
    (hm6 : MapIs w6 r (aset ml k v')) (hT : Turned r w5 w6) :
    ExtB (fun q => F q ∨ New w w6 q) w6 b r (aset ml k v') D5 blocks last (aset vs k l') ∧ Chg F w w6 := by
  have hz4 := hb4.size
  have hz5 := hg5.size
  have hz6 := hT.size
  have hbr := h.ne
  have hbl := h.dom b h.fb
  have hrl := h.dom r h.fr
  have keep5 : ∀ q, q < w.heap.size → u.ownBlock ≠ some q → w5.heap[q]? = w.heap[q]? := fun q hq hne => (hg5.block q (by omega) (fun e => hne e.symm)).trans (hb4.block q hq)
  have keep6 : ∀ q, q ≠ r → w6.heap[q]? = w5.heap[q]? := fun q hq => hT.block q hq
  have hub : ∀ q, u.ownBlock = some q → q ≠ b ∧ q ≠ r := fun q hq => (hu q hq).2
  have turn : ∀ {v0 : Value} {l0 : List Put} {E : Nat → Prop}, OutS 115 2 putR 0 w5 v0 l0 E → v0.ownBlock ≠ some r → ¬ E r → OutS 115 2 putR 0 w6 v0 l0 E := fun ho h1 h2 =>
    ho.same putR_stable (F := fun q => q ≠ r) (fun q hq => keep6 q hq) (by omega) (fun g hg e => h1 (e ▸ hg)) (fun q hq e => h2 (e ▸ hq))
  have hD5r : ∀ q, D5 q → (F q ∨ New w w6 q) ∧ q ≠ b ∧ q ≠ r := by
    intro q hq
    rcases hD5 q hq with hd | hd
    · exact ⟨.inl (h.hD q hd).1, (h.hD q hd).2⟩
    · have h1 := hd.1
      have h2 := hd.2
      exact ⟨.inr ⟨h1, by omega⟩, by omega, by omega⟩
  have hgr : gg ≠ b ∧ gg ≠ r := by
    rcases hat with e | e
    · exact hub gg e
    · exact ⟨by omega, by omega⟩
  refine ⟨⟨.inl h.fb, .inl h.fr, ?_, hm6, ?_, ?_, hD5r, fun q hq => hq.elim (fun hf => by have := h.dom q hf; omega) (fun hf => hf.2)⟩, ⟨?_, ?_, ?_, by omega, ?_⟩⟩
  · rw [keep6 b hbr, keep5 b hbl (fun e => (hub b e).1 rfl)]; exact h.hb
  · refine AL.upd (k := k) ?_ (by obtain ⟨_, _, _, _, hnd, _⟩ := h.hm; exact hnd) h.ha ?_
    · refine ⟨turn hn (by rw [hv]; simp; exact hgr.2) (fun hr => (hD5r r hr).2.2 rfl), fun g hg => ?_⟩
      rw [hv] at hg
      cases hg
      refine ⟨?_, hgr⟩
      rcases hat with e | e
      · exact .inl (hu gg e).1
      · exact .inr ⟨e, by omega⟩
    · rintro n a bl hmem hne ⟨ho, hc⟩
      refine ⟨?_, fun g hg => ⟨.inl (hc g hg).1, (hc g hg).2⟩⟩
      have hown : ∀ g, a.ownBlock = some g → u.ownBlock ≠ some g := fun g hg => hud (n, a) hmem hne g hg
      have hal : ∀ g, a.ownBlock = some g → g < w.heap.size := fun g hg => h.dom g (hc g hg).1
      have hDu : ∀ q, D q → u.ownBlock ≠ some q := fun q hq e => huD q e hq
      have h5 : OutS 115 2 putR 0 w5 a bl D :=
        ho.same putR_stable (F := fun q => q < w.heap.size ∧ u.ownBlock ≠ some q) (fun q hq => keep5 q hq.1 hq.2) (by omega) (fun g hg => ⟨hal g hg, hown g hg⟩) (fun q hq => ⟨h.dom q (h.hD q hq).1, hDu q hq⟩)
      have h6 : OutS 115 2 putR 0 w5 a bl D5 := by
        have hoD : ∀ q, D q → a.ownBlock ≠ some q := by obtain ⟨_, _, _, _, _, h5'⟩ := ho; exact fun q hq => (h5' q hq).2.2
        refine h5.more putR_stable hDD fun q hq => ⟨Nat.zero_le _, ?_, ?_⟩
        · rcases hD5 q hq with hd | hd
          · have := h.dom q (h.hD q hd).1; omega
          · exact hd.2
        · rcases hD5 q hq with hd | hd
          · exact hoD q hd
          · intro e; have := hal q e; have := hd.1; omega
      exact turn h6 (fun e => (hc r e).2.2 rfl) (fun hr => (hD5r r hr).2.2 rfl)
  · intro x hx y hy hne g hgx
    rcases aset_mem hx with rfl | hx
    · rcases aset_mem hy with rfl | hy
      · exact absurd rfl hne
      · intro hgy
        rw [hv] at hgx
        cases hgx
        rcases hat with e | e
        · exact hud y hy (fun e => hne e.symm) gg hgy e
        · obtain ⟨i, hi, hie⟩ := List.getElem_of_mem hy
          have := All2.get h.ha i hi (by rw [← All2.length h.ha]; exact hi)
          have := h.dom gg (this.2.2 gg (by rw [hie]; exact hgy)).1
          omega
    · rcases aset_mem hy with rfl | hy
      · intro hgy
        rw [hv] at hgy
        cases hgy
        rcases hat with e | e
        · exact hud x hx hne gg hgx e
        · obtain ⟨i, hi, hie⟩ := List.getElem_of_mem hx
          have := All2.get h.ha i hi (by rw [← All2.length h.ha]; exact hi)
          have := h.dom gg (this.2.2 gg (by rw [hie]; exact hgx)).1
          omega
      · exact h.ho x hx y hy hne g hgx
  · rw [hT.os, hg5.os, hb4.os]
  · rw [hT.tape, hg5.tape, hb4.tape]
  · rw [hT.output, hg5.output, hb4.output]
  · intro q hq hF
    rw [keep6 q (fun e => hF (e ▸ h.fr))]
    exact keep5 q hq (fun e => hF (hu q e).1)
end Go.Proofs

/- Package extmap: Apply. -/
namespace Go.Proofs
open Go.RowKit Sc

theorem applyLen_is (G : Nat → Prop) (x : Put) (ev : Value) (W : World) (he : putV G W ev x) :
    Calls Try.prog 53 (#[ev] ++ #[]) W fun e w' => e = .returned (.bool (!decide (x.data.length = 40))) ∧ Below W.heap.size W w' := by
  obtain ⟨dv, rfl, hi, hd⟩ := he
  obtain ⟨p, c, rfl, h1, h2, h3, h4⟩ := hd
  have hl : x.data.length ≤ 9223372036854775807 := by omega
  clear h4 h3 hi
  generalize x.data.length = n at *
  show Calls _ _ #[.agg #[.int .i64 x.lba, .slice p n c]] _ _
  by_cases h : n = 40
  · subst h
    go_enter Try.func53, Try.ntmps53
    go_wp2
    go_ret
    exact ⟨rfl, below_alloc _ _⟩
  · have hne : ((n : Int) != 40) = true := by rw [bne_iff_ne]; omega
    have hd : decide (n = 40) = false := decide_eq_false h
    have HD := Lib.hid hd
    have H := Lib.hid h
    clear hd h
    go_enter Try.func53, Try.ntmps53
    go_wp2
    go_ret
    exact ⟨congrArg boolRet (by rw [HD.out]; rfl), below_alloc _ _⟩

def lbaAt (l : List Put) (i : Nat) : Int := (l.map (·.lba)).getD i 0
theorem infoVer : (Try.prog.info? 115).map (fun i => (i.zero, i.size, i.bytes)) = some (some (.agg #[.int .i64 0, .slice none 0 0]), 2, 32) := by kernel_rfl
theorem lbaAt_get {l : List Put} {i : Nat} (h : i < l.length) : l[i].lba = lbaAt l i := by simp [lbaAt, List.getD, h]
/-- What an Apply says. -/
def applyCode (blocks last : Int) (t : Tx) : Int :=
  if t.time ≤ last ∨ 1099511627776 < t.time then 11
  else if riseB t.puts = false then 1
  else if blk blocks (lbaAt t.puts 0) = false ∨ blk blocks (lbaAt t.puts (t.puts.length - 1)) = false then 2
  else if t.puts.any (fun p => !decide (p.data.length = 40)) then 3 else 0
def applyOne (time : Int) (vs : Vers) (p : Put) : Vers := aset vs p.lba ((alook vs p.lba).getD [] ++ [⟨time, p.data⟩])
def applyVs (time : Int) (vs : Vers) (l : List Put) : Vers := l.foldl (applyOne time) vs
theorem applyVs_snoc (time : Int) (vs : Vers) (l : List Put) (p : Put) : applyVs time vs (l ++ [p]) = applyOne time (applyVs time vs l) p := by simp [applyVs]
def applyNext (blocks last : Int) (vs : Vers) (t : Tx) : Vers := if applyCode blocks last t = 0 then applyVs t.time vs t.puts else vs
def applyLast (blocks last : Int) (t : Tx) : Int := if applyCode blocks last t = 0 then t.time else last
def ApplySaid (F : Nat → Prop) (v : Value) (blocks last : Int) (vs : Vers) (t : Tx) (w : World) (e : Ending) (w' : World) : Prop :=
  e = .returned (.int .i64 (applyCode blocks last t)) ∧ Chg F w w' ∧ ExtIs (fun k => F k ∨ New w w' k) w' v blocks (applyLast blocks last t) (applyNext blocks last vs t)
theorem ExtIs.more {F : Nat → Prop} {w w' : World} {v : Value} {blocks last : Int} {vs : Vers} (h : ExtIs F w v blocks last vs) (hb : Below w.heap.size w w') : ExtIs (fun k => F k ∨ New w w' k) w' v blocks last vs := by
  obtain ⟨b, r, ml, D, rfl, q⟩ := (h.up hb).parts
  have hd := (h.up hb).dom
  exact ⟨⟨b, r, ml, D, rfl, .inl q.fb, .inl q.fr, q.hb, q.hm, q.ha.imp fun _ _ ⟨a, c⟩ => ⟨a, fun g hg => ⟨.inl (c g hg).1, (c g hg).2⟩⟩, q.ho, fun k hk => ⟨.inl (q.hD k hk).1, (q.hD k hk).2⟩⟩, fun k hk => hk.elim (hd k) (fun h => h.2)⟩
theorem apply_fail {F : Nat → Prop} {v : Value} {blocks last c : Int} {vs : Vers} {t : Tx} {w w' : World} (h : ExtIs F w v blocks last vs) (hb : Below w.heap.size w w') (hc : applyCode blocks last t = c) (h0 : c ≠ 0) : ApplySaid F v blocks last vs t w (.returned (.int .i64 c)) w' := by
  refine ⟨by rw [hc], Chg.of_below hb (fun k h1 h2 => by omega), ?_⟩
  unfold applyLast applyNext
  rw [hc, if_neg h0, if_neg h0]
  exact h.more hb

set_option maxRecDepth 100000 in
set_option maxHeartbeats 4000000 in
theorem extApply_any (F G : Nat → Prop) (v tv : Value) (blocks last : Int) (vs : Vers) (t : Tx) (w : World) (hm : ExtIs F w v blocks last vs) (h1b : 1 ≤ blocks) (ht : TxAt G w tv t) (hG : Dom G w) (hFG : ∀ k, F k → ¬ G k)
    (hln : ∀ k l, alook vs k = some l → l.length ≤ 1000000) (hpl : t.puts.length ≤ 1000000) :
    Calls Try.prog 17 #[v, tv] w (ApplySaid F v blocks last vs t w) := by
  have HMOD := Lib.hid hm
  obtain ⟨b, r, ml, D, rfl, hB⟩ := hm.parts
  obtain ⟨pv, rfl, hti, hp⟩ := ht
  have HP := Lib.hid hp
  obtain ⟨pp, pc, rfl, hp1, hp2, hp3, hp4⟩ := hp
  have hc0 : w.cell? ⟨b, 0, none⟩ = some (.int .i64 blocks) := by rw [cell_row hB.hb]; rfl
  have hc2 : w.cell? ⟨b, 2, none⟩ = some (.int .i64 last) := by rw [cell_row hB.hb]; rfl
  have hbl := hB.dom b hB.fb
  have hcode : applyCode blocks last t = applyCode blocks last t := rfl
  have hbA := below_alloc w (.cells #[.int .i64 t.time, .slice pp t.puts.length pc] 49)
  have hmA := hm.up hbA
  have hgx : ∀ i, i < t.puts.length → lbaAt t.puts i = (t.puts.map (·.lba)).getD i 0 := fun _ _ => rfl
  have HP4 := Lib.hid hp4
  have HB := Lib.hid hB
  have HMA := Lib.hid hmA
  have HLN := Lib.hid hln
  clear hp4 hB hmA hln
  clear hp3 hm hgx hcode
  by_cases hb1 : t.time ≤ last
  · have hcd : applyCode blocks last t = 11 := by unfold applyCode; rw [if_pos (.inl hb1)]
    have HCD := Lib.hid hcd
    clear hcd
    go_enter Try.func17, Try.ntmps17
    go_wp2_with fail
    refine (extGone_any F _ _ _ _ _ HMA.out h1b).mono ?_
    rintro e w1 ⟨rfl, rfl⟩
    go_wp2_with fail
    go_quiet (fail)
    go_wp2
    go_ret
    exact apply_fail HMOD.out (below_drewN hbA _) HCD.out (by decide)
  by_cases hb2 : 1099511627776 < t.time
  · have hcd : applyCode blocks last t = 11 := by unfold applyCode; rw [if_pos (.inr hb2)]
    have hb1' : decide (t.time ≤ last) = false := by simp; omega
    have hb1'' : last < t.time := by omega
    have HCD := Lib.hid hcd
    clear hcd
    clear hb1
    go_enter Try.func17, Try.ntmps17
    go_wp2_with fail
    refine (extGone_any F _ _ _ _ _ HMA.out h1b).mono ?_
    rintro e w1 ⟨rfl, rfl⟩
    go_wp2_with fail
    go_quiet (fail)
    go_wp2
    go_ret
    exact apply_fail HMOD.out (below_drewN hbA _) HCD.out (by decide)
  have hb1' : decide (t.time ≤ last) = false := by simp; omega
  have hb1'' : last < t.time := by omega
  have hb2' : decide (1099511627776 < t.time) = false := by simp; omega
  have hb2'' : t.time ≤ 1099511627776 := by omega
  have hcd1 : riseB t.puts = false → applyCode blocks last t = 1 := by intro h; unfold applyCode; rw [if_neg (by omega), if_pos h]
  have hcd2 : riseB t.puts = true → (blk blocks (lbaAt t.puts 0) = false ∨ blk blocks (lbaAt t.puts (t.puts.length - 1)) = false) → applyCode blocks last t = 2 := by
    intro h h'; unfold applyCode; rw [if_neg (by omega), if_neg (by rw [h]; decide), if_pos h']
  have hcd3 : riseB t.puts = true → blk blocks (lbaAt t.puts 0) = true → blk blocks (lbaAt t.puts (t.puts.length - 1)) = true → ∀ q, t.puts.any (fun p => !decide (p.data.length = 40)) = q → applyCode blocks last t = if q then 3 else 0 := by
    intro h h1 h2 q hq; unfold applyCode; rw [if_neg (by omega), if_neg (by rw [h]; decide), if_neg (by rw [h1, h2]; decide), hq]
  have HCD1 := Lib.hid hcd1
  have HCD2 := Lib.hid hcd2
  have HCD3 := Lib.hid hcd3
  clear hcd1 hcd2 hcd3
  clear hb1 hb2
  go_enter Try.func17, Try.ntmps17
  go_wp2_with fail
  refine (extGone_any F _ _ _ _ _ HMA.out h1b).mono ?_
  rintro e w1 ⟨rfl, rfl⟩
  go_wp2_with fail
  go_quiet (fail)
  have hb2 : Below w.heap.size w ((w.alloc (.cells #[.int .i64 t.time, .slice pp t.puts.length pc] 49)).drewN nq) := below_drewN hbA _
  have e0 : ((w.alloc (.cells #[.int .i64 t.time, .slice pp t.puts.length pc] 49)).drewN nq).cell? ⟨w.heap.size, 0, none⟩ = some (.int .i64 t.time) := by go_simp
  have e1 : ((w.alloc (.cells #[.int .i64 t.time, .slice pp t.puts.length pc] 49)).drewN nq).cell? ⟨w.heap.size, 1, none⟩ = some (.slice pp t.puts.length pc) := by go_simp
  have hz2 : w.heap.size < ((w.alloc (.cells #[.int .i64 t.time, .slice pp t.puts.length pc] 49)).drewN nq).heap.size := by simp
  generalize (w.alloc (.cells #[.int .i64 t.time, .slice pp t.puts.length pc] 49)).drewN nq = W2 at *
  have HB2 := Lib.hid hb2
  clear hb2
  go_wp2_with fail
  refine (rise_any G _ t.puts _ (fun k hk => by have := hG k hk; omega) (HP.out.up HB2.out)).mono ?_
  rintro e w3 ⟨rfl, hb3⟩
  have e0' := cell_up hb3 e0
  have e1' := cell_up hb3 e1
  have hb03 := Below.up HB2.out hb3
  have hz3 := hb3.size
  clear e0 e1
  cases hrise : riseB t.puts with
  | false =>
    have hcd := HCD1.out hrise
    have HCD := Lib.hid hcd
    have HB03 := Lib.hid hb03
    clear hcd hb03
    clear hrise hb3
    go_wp2
    go_ret
    exact apply_fail HMOD.out HB03.out HCD.out (by decide)
  | true =>
    have hlen : 0 < t.puts.length := by
      unfold riseB at hrise
      rw [Bool.and_eq_true, decide_eq_true_eq] at hrise
      exact hrise.1
    have HB03 := Lib.hid hb03
    have HRISE := Lib.hid hrise
    clear hb03 hrise
    obtain ⟨pb, po, rfl, hGb, hca, _, _, _, _⟩ := HP4.out 0 hlen
    obtain ⟨_, _, hpe, _, hcl, _⟩ := HP4.out (t.puts.length - 1) (by omega)
    cases hpe
    have hl0 : t.puts[0].lba = lbaAt t.puts 0 := lbaAt_get hlen
    have hl1 : (t.puts[t.puts.length - 1]'(by omega)).lba = lbaAt t.puts (t.puts.length - 1) := lbaAt_get (by omega)
    rw [hl0] at hca
    rw [hl1] at hcl
    have hca' := cell_up HB03.out hca
    have hcl' := cell_up HB03.out hcl
    simp only [Nat.zero_mul, Nat.add_zero] at hca'
    have hm3 := HMOD.out.up HB03.out
    generalize hA0 : lbaAt t.puts 0 = a0 at *
    generalize hA1 : lbaAt t.puts (t.puts.length - 1) = a1 at *
    have HM3 := Lib.hid hm3
    have HL0 := Lib.hid hl0
    have HL1 := Lib.hid hl1
    have HA0 := Lib.hid hA0
    have HA1 := Lib.hid hA1
    clear hm3 hl0 hl1 hA0 hA1
    clear hca hcl hb3
    have hidx : ((t.puts.length : Int) - 1) = ((t.puts.length - 1 : Nat) : Int) := by omega
    have hw1 : IntKind.i64.wrap ((t.puts.length : Int) - 1) = ((t.puts.length - 1 : Nat) : Int) := by rw [hidx]; exact IntWalk.i64_in _ (by omega)
    cases hk0 : blk blocks a0 with
    | false =>
      have hcd := HCD2.out HRISE.out (.inl hk0)
      have HCD := Lib.hid hcd
      have HK0 := Lib.hid hk0
      clear hcd hk0
      go_wp2_with fail
      refine (extBlock_any F _ _ _ _ a0 _ HM3.out).mono ?_
      rintro e w4 ⟨rfl, rfl⟩
      rw [HK0.out]
      go_wp2
      go_ret
      exact apply_fail HMOD.out HB03.out HCD.out (by decide)
    | true =>
      cases hk1 : blk blocks a1 with
      | false =>
        have hcd := HCD2.out HRISE.out (.inr hk1)
        have HCD := Lib.hid hcd
        have HK0 := Lib.hid hk0
        have HK1 := Lib.hid hk1
        clear hcd hk0 hk1
        go_wp2_with fail
        refine (extBlock_any F _ _ _ _ a0 _ HM3.out).mono ?_
        rintro e w4 ⟨rfl, rfl⟩
        rw [HK0.out]
        go_wp2_with fail
        refine (extBlock_any F _ _ _ _ a1 _ HM3.out).mono ?_
        rintro e w4 ⟨rfl, rfl⟩
        rw [HK1.out]
        go_wp2
        go_ret
        exact apply_fail HMOD.out HB03.out HCD.out (by decide)
      | true =>
        have hcd := HCD3.out HRISE.out hk0 hk1
        have HCD := Lib.hid hcd
        have HK0 := Lib.hid hk0
        have HK1 := Lib.hid hk1
        clear hcd hk0 hk1
        go_wp2_with fail
        refine (extBlock_any F _ _ _ _ a0 _ HM3.out).mono ?_
        rintro e w4 ⟨rfl, rfl⟩
        rw [HK0.out]
        go_wp2_with fail
        refine (extBlock_any F _ _ _ _ a1 _ HM3.out).mono ?_
        rintro e w4 ⟨rfl, rfl⟩
        rw [HK1.out]
        go_wp2_with fail
        refine (anyPut_any G _ t.puts (fun p => !decide (p.data.length = 40)) 53 #[] (by go_simp) _ (fun k hk => by have := hG k hk; have := HB03.out.size; omega) (HP.out.up HB03.out) (fun i hi W ev hb hev => applyLen_is G _ ev W hev)).mono ?_
        rintro e w4 ⟨rfl, hb4⟩
        have hb04 := Below.up HB03.out hb4
        have e1' := cell_up hb4 e1'
        have e0' := cell_up hb4 e0'
        have hz4 := hb4.size
        cases hany : t.puts.any (fun p => !decide (p.data.length = 40)) with
        | true =>
          have hcd := HCD.out true hany
          have HCD := Lib.hid hcd
          have HB04 := Lib.hid hb04
          clear hcd hb04
          clear hany hb4
          go_wp2
          go_ret
          exact apply_fail HMOD.out HB04.out HCD.out (by decide)
        | false =>
          have hcd := HCD.out false hany
          simp only [Bool.false_eq_true, if_false] at hcd
          have h40 : ∀ p ∈ t.puts, p.data.length = 40 := by
            intro p hp
            have := List.any_eq_false.1 hany p hp
            simpa using this
          have hB4 := HB.out.up hb04
          have HCD := Lib.hid hcd
          have HB04 := Lib.hid hb04
          have H40 := Lib.hid h40
          have HB4 := Lib.hid hB4
          clear hcd hb04 h40 hB4
          clear hany hb4 hca' hcl' hidx hw1
          go_wp2_with fail
          obtain ⟨iv, hi0, hi1, hi2, hi3⟩ := info_parts infoVer
          go_loopw [58] (fun i wr => ∃ k : Nat, k ≤ t.puts.length ∧ i = .int .i64 k ∧ Hid (ExtIs (fun q => F q ∨ (w4.heap.size ≤ q ∧ q < wr.heap.size)) wr (.pointer (some ⟨b, 0, none⟩)) blocks last (applyVs t.time vs (t.puts.take k))) ∧ Hid (Chg F w4 wr) ∧ Hid (∀ key l, alook (applyVs t.time vs (t.puts.take k)) key = some l → l.length ≤ 1000000 + k)) (fun i _ => t.puts.length - (intOf i).toNat)
          case atStart =>
            refine ⟨0, by omega, rfl, ?_, Chg.refl _ _, fun key l h => by have := HLN.out key l h; omega⟩
            have h := HB4.out.is
            obtain ⟨b', r', ml', D', hv', q⟩ := h.parts
            cases hv'
            exact ⟨⟨b, r', ml', D', rfl, .inl q.fb, .inl q.fr, q.hb, q.hm, q.ha.imp fun _ _ ⟨a, c⟩ => ⟨a, fun g hg => ⟨.inl (c g hg).1, (c g hg).2⟩⟩, q.ho, fun k hk => ⟨.inl (q.hD k hk).1, (q.hD k hk).2⟩⟩, fun k hk => hk.elim (h.dom k) (fun h => h.2)⟩
          case round =>
            obtain ⟨k, hk, rfl, HE, HC, HLK⟩ := hrel
            have hzc := HC.out.size
            have hFd : ∀ q, F q → q < w.heap.size := fun q hq => HMOD.out.dom q hq
            have f0 : wr.cell? ⟨w.heap.size, 0, none⟩ = some (.int .i64 t.time) := HC.out.cell (fun h => by have := hFd _ h; omega) e0'
            have f1 : wr.cell? ⟨w.heap.size, 1, none⟩ = some (.slice (some ⟨pb, po, none⟩) t.puts.length pc) := HC.out.cell (fun h => by have := hFd _ h; omega) e1'
            obtain ⟨b', r', ml', D', hv', hq⟩ := HE.out.parts
            cases hv'
            have f2 : wr.cell? ⟨b, 1, none⟩ = some (.map (some r')) := by rw [cell_row hq.hb]; rfl
            have hbw4 := HB04.out.size
            by_cases hlt : k < t.puts.length
            · obtain ⟨_, _, hpe, hGb', hca, hi, dv, hcb, hd0⟩ := HP4.out k hlt
              cases hpe
              have hGs : Same G w wr := fun q hq' => (HC.out.block q (by have := hG q hq'; omega) (fun h => hFG q h hq')).trans (HB04.out.block q (hG q hq'))
              have hca' := (hGs.cell hGb' _).trans hca
              have hcb' := (hGs.cell hGb' _).trans hcb
              have hdx := hd0.same hGs
              have HT := Lib.hid (take_snoc t.puts k hlt)
              have h40' := H40.out _ (List.getElem_mem hlt)
              generalize t.puts[k] = y at hca hca' hcb hdx hd0 HT h40' hi
              obtain ⟨u, l, hu, hl, hout, hown, hud⟩ := hq.look y.lba
              have hll : l.length ≤ 1000000 + k := by
                cases hx : alook (applyVs t.time vs (t.puts.take k)) y.lba with
                | none => rw [hx] at hl; subst hl; simp
                | some l' => rw [hx] at hl; subst hl; exact HLK.out _ _ hx
              have hlk : ∀ W, MapIs W r' ml' → (Instr.lookup 106 (.map (some r')) (.int .i64 y.lba) false).run Try.prog W = .ok u W := by
                intro W hW
                have := hW.lookup (P := Try.prog) Try.underlying106 Try.underlying3 (Try.zeroValue113 W) y.lba false
                rw [hu] at this
                simpa using this
              have huq : ∀ g, u.ownBlock = some g → ¬ D' g := by
                obtain ⟨_, _, _, _, _, h5⟩ := hout
                exact fun g hg hd => (h5 g hd).2.2 hg
              have hul : ∀ g, u.ownBlock = some g → g < wr.heap.size ∧ (F g ∨ w4.heap.size ≤ g) := fun g hg => ⟨hq.dom g (hown g hg).1, (hown g hg).1.imp id fun h => h.1⟩
              have n1 : some b ≠ u.ownBlock := fun e => (hown b e.symm).2.1 rfl
              have n2 : some w.heap.size ≠ u.ownBlock := fun e => by
                rcases (hul _ e.symm).2 with h | h
                · have := hFd _ h; omega
                · omega
              have n3 : some wr.heap.size ≠ u.ownBlock := fun e => by have := (hul _ e.symm).1; omega
              have n4 : some r' ≠ u.ownBlock := fun e => (hown r' e.symm).2.2 rfl
              have hrl := hq.hm.lt
              have hbl2 := hq.dom b hq.fb
              have hHLK := hlk
              obtain ⟨dp, dc, rfl⟩ := shape_of hdx rfl
              have hlk1 := hlk ((wr.alloc (.cells #[.int .i64 y.lba, .slice dp y.data.length dc] 61)).drew) (hq.hm.up (below_drewN (below_alloc wr _) 1))
              have HDX := Lib.hid hdx
              have HQ := Lib.hid hq
              have HOUT := Lib.hid hout
              have HOWN := Lib.hid hown
              have HUD := Lib.hid hud
              have HUQ := Lib.hid huq
              have HUL := Lib.hid hul
              have HU := Lib.hid hu
              have HL := Lib.hid hl
              have HLL := Lib.hid hll
              have HHLK := Lib.hid hHLK
              have H40' := Lib.hid h40'
              clear hdx hq hout hown hud huq hul hu hl hll hHLK h40'
              clear hca hcb hd0 hlk hGs
              have k0 : (0 : Int) ≤ (k : Int) := by omega
              have k1 : (k : Int) < (t.puts.length : Int) := by omega
              go_wp2
              go_region_held3 (fun W => W.cell? ⟨b, 1, none⟩ = some (.map (some r')) ∧ W.cell? ⟨w.heap.size, 0, none⟩ = some (.int .i64 t.time) ∧ W.cell? ⟨wr.heap.size, 0, none⟩ = some (.int .i64 y.lba) ∧ W.cell? ⟨wr.heap.size, 1, none⟩ = some (.slice dp y.data.length dc))
                (first
                  | go_keep
                  | (go_split_ands
                     exact ⟨cell_up hb7 (by assumption), cell_up hb7 (by assumption), cell_up hb7 (by assumption), cell_up hb7 (by assumption)⟩)
                  | (go_split_ands
                     exact ⟨(hgrow9.cell_far _ (by simp; omega) n1).trans (by assumption), (hgrow9.cell_far _ (by simp; omega) n2).trans (by assumption), (hgrow9.cell_far _ (by simp; omega) n3).trans (by assumption), (hgrow9.cell_far _ (by simp; omega) n3).trans (by assumption)⟩)
                  | (go_split_ands
                     exact ⟨(hT10.cell _).trans (by assumption), (hT10.cell _).trans (by assumption), (hT10.cell _).trans (by assumption), (hT10.cell _).trans (by assumption)⟩))
                ((first
                  | (go_at_call 46
                     refine (clone_any G _ y.data _ (by exact BytesAt.up HDX.out (below_drewN (below_alloc wr _) 1)) (by have := H40'.out; omega)).mono ?_
                     rintro e w7 ⟨v7, rfl, hnv, hb7⟩
                     obtain ⟨np, nc, rfl⟩ := shape_of hnv rfl
                     have hbA7 := Below.up (below_drewN (below_alloc wr (.cells #[.int .i64 y.lba, .slice dp y.data.length dc] 61)) 1) hb7
                     have hz7 : wr.heap.size + 1 ≤ w7.heap.size := by have := hb7.size; simpa using this
                     have hbA8 := Below.up hbA7 (below_alloc w7 (.cells #[.int .i64 t.time, .slice np y.data.length nc] 115))
                     have hlk7 := HHLK.out w7 (HQ.out.hm.up hbA7)
                     have hlk8 := HHLK.out (w7.alloc (.cells #[.int .i64 t.time, .slice np y.data.length nc] 115)) (HQ.out.hm.up hbA8)
                     obtain ⟨css, q1, q2, q3, q4, q5⟩ := HOUT.out.up putR_stable hbA8)
                  | (refine step_append_lies _ (by rfl) _ _ _ (by rfl) 0 115 iv (.agg #[.int .i64 0, .slice none 0 0]) 2 32 Try.underlying113 hi0 hi1 hi2 hi3 (by rfl) (by decide) _ l.length css.flatten (by rfl) q3 ⟨w7.heap.size, 0, none⟩ 1 1 [.int .i64 t.time, .slice np y.data.length nc] (by rfl) (by rfl) (World.news_of_block (cs := #[.int .i64 t.time, .slice np y.data.length nc]) (heap_alloc_new w7 _)) (by simp [Value.oneCell']) (by decide) (by have := HLL.out; unfold maxLen; omega) (by have := HLL.out; omega) (Nat.zero_le _) (w7.heap.size + 1) (by simp) ?_
                     intro gg cap w9 hown9 hgrow9 hat9 hlt9
                     have hm9 : MapIs w9 r' ml' := (HQ.out.hm.up hbA8).same (G := (· = r')) (fun q hq => by subst hq; exact hgrow9.block _ (by simp; omega) n4) rfl
                     obtain ⟨w10, hu10, hm10, hT10⟩ := hm9.update (P := Try.prog) Try.underlying106 Try.underlying3 y.lba (.slice (some ⟨gg, 0, none⟩) (l.length + 1) cap))))
              all_goals
                have hz8 := hbA8.size
                have hout9 : OutS 115 2 putR 0 w9 (.slice (some ⟨gg, 0, none⟩) (l.length + 1) cap) (l ++ [⟨t.time, y.data⟩]) (fun q => D' q ∨ New wr w7 q) := by
                  have hg : w7.heap.size + 1 = (w7.alloc (.cells #[.int .i64 t.time, .slice np y.data.length nc] 115)).heap.size := by simp
                  refine OutS.snoc (v := u) (D3 := New wr w7) putR_stable q1 q2 q4 q5 (cs := [.int .i64 t.time, .slice np y.data.length nc]) (x := ⟨t.time, y.data⟩) rfl ⟨_, rfl, hti, (BytesAt.mono (BytesAt.up hnv (below_alloc _ _)) fun q hq => ⟨by have := hq.1; simp at this; omega, hq.2⟩)⟩ (fun q hq => ⟨Nat.zero_le _, by have := hq.2; simp; omega, fun e => by have := (HUL.out q e).1; have := hq.1; omega⟩) hown9 hgrow9 (hg ▸ hat9)
                have hput := HQ.out.put (k := y.lba) (u := u) (v' := .slice (some ⟨gg, 0, none⟩) (l.length + 1) cap) (gg := gg) (l' := l ++ [⟨t.time, y.data⟩]) HOWN.out HUD.out HUQ.out hbA8 hgrow9 rfl (hat9.imp id fun e => by omega) hlt9 hout9 (fun q hq => hq.imp id fun h => ⟨h.1, by have := h.2; have := hgrow9.size; simp at this; omega⟩) (fun q hq => .inl hq) hm10 hT10
                obtain ⟨hp1', hp2'⟩ := hput
                have hvs : applyVs t.time vs (t.puts.take (k + 1)) = aset (applyVs t.time vs (t.puts.take k)) y.lba (l ++ [⟨t.time, y.data⟩]) := by
                  rw [HT.out, applyVs_snoc, applyOne, HL.out]
                have hz10 := hp2'.size
                have hext : ExtIs (fun q => F q ∨ (w4.heap.size ≤ q ∧ q < w10.heap.size)) w10 (.pointer (some ⟨b, 0, none⟩)) blocks last (applyVs t.time vs (t.puts.take (k + 1))) := by
                  rw [hvs]
                  have h := hp1'.is
                  obtain ⟨b', r'', ml'', D'', hv'', q⟩ := h.parts
                  cases hv''
                  have up : ∀ q, ((F q ∨ (w4.heap.size ≤ q ∧ q < wr.heap.size)) ∨ New wr w10 q) → F q ∨ (w4.heap.size ≤ q ∧ q < w10.heap.size) := by
                    rintro q ((h | h) | h)
                    · exact .inl h
                    · exact .inr ⟨h.1, by omega⟩
                    · exact .inr ⟨by have := h.1; omega, h.2⟩
                  exact ⟨⟨b, r'', ml'', D'', rfl, up _ q.fb, up _ q.fr, q.hb, q.hm, q.ha.imp fun _ _ ⟨a, c⟩ => ⟨a, fun g hg => ⟨up _ (c g hg).1, (c g hg).2⟩⟩, q.ho, fun k hk => ⟨up _ (q.hD k hk).1, (q.hD k hk).2⟩⟩, fun k hk => hk.elim (fun hf => by have := hFd k hf; omega) (fun h => h.2)⟩
                have hchg : Chg F w4 w10 := HC.out.trans' hp2' (fun i hi h => h.elim id fun h => by have := h.1; omega)
                have hlen2 : ∀ key l, alook (applyVs t.time vs (t.puts.take (k + 1))) key = some l → l.length ≤ 1000000 + (k + 1) := by
                  intro key l2 h
                  rw [hvs, alook_aset] at h
                  split at h
                  · cases h
                    have := HLL.out
                    simp; omega
                  · have := HLK.out key l2 h; omega
                have HEXT := Lib.hid hext
                have HCHG := Lib.hid hchg
                have HLEN2 := Lib.hid hlen2
                clear hext hchg hlen2
                clear hp1' hp2' hout9 hm10 hT10 hm9 hown9 hgrow9 hu10 hlk7 hlk8
                go_wp2
                go_roundw
                case rel => exact ⟨k + 1, by omega, by go_num, HEXT.out, HCHG.out, HLEN2.out⟩
                case measure => simp [intOf]; omega
            · have hkl : k = t.puts.length := by omega
              subst hkl
              have hE := HE.out
              rw [List.take_length] at hE
              have hfz : wr.frozen? ⟨b, 2, none⟩ = false := fz_row hq.hb 2
              have f3 : wr.cell? ⟨b, 2, none⟩ = some (.int .i64 last) := by rw [cell_row hq.hb]; rfl
              have hset := heap_set_same (i := 2) hq.hb (.int .i64 t.time)
              have hfin : ExtIs (fun q => F q ∨ New w (wr.setCell ⟨b, 2, none⟩ (.int .i64 t.time)) q) (wr.setCell ⟨b, 2, none⟩ (.int .i64 t.time)) (.pointer (some ⟨b, 0, none⟩)) blocks t.time (applyVs t.time vs t.puts) := by
                obtain ⟨b', r'', ml'', D'', hv'', q⟩ := hE.parts
                cases hv''
                have hs : Same (fun q => q ≠ b) wr (wr.setCell ⟨b, 2, none⟩ (.int .i64 t.time)) := fun q hq => Below.heap_setCell _ _ _ q hq
                have hzz : (wr.setCell ⟨b, 2, none⟩ (.int .i64 t.time)).heap.size = wr.heap.size := by simp [World.setCell]
                have up : ∀ q, (F q ∨ (w4.heap.size ≤ q ∧ q < wr.heap.size)) → F q ∨ New w (wr.setCell ⟨b, 2, none⟩ (.int .i64 t.time)) q := by
                  rintro q (h | h)
                  · exact .inl h
                  · exact .inr ⟨by omega, by omega⟩
                have hset' := heap_set_same (i := 2) q.hb (.int .i64 t.time)
                refine ⟨⟨b, r'', ml'', D'', rfl, up _ q.fb, up _ q.fr, hset', q.hm.same (G := fun q => q ≠ b) hs (fun e => q.ne e.symm), q.ha.imp fun _ _ ⟨a, c⟩ => ⟨a.same putR_stable (F := fun q => q ≠ b) hs (by omega) (fun g hg => (c g hg).2.1) (fun k hk => (q.hD k hk).2.1), fun g hg => ⟨up _ (c g hg).1, (c g hg).2⟩⟩, q.ho, fun k hk => ⟨up _ (q.hD k hk).1, (q.hD k hk).2⟩⟩, fun k hk => hk.elim (fun hf => by have := hFd k hf; omega) (fun h => h.2)⟩
              have hbF := HB.out.fb
              have hchg : Chg F w (wr.setCell ⟨b, 2, none⟩ (.int .i64 t.time)) := ((Chg.of_below (S := F) HB04.out (fun k h1 h2 => by omega)).trans HC.out).trans (chg_set wr b 2 (.int .i64 t.time) hbF)
              have HFIN := Lib.hid hfin
              have HCHG := Lib.hid hchg
              have HE := Lib.hid hE
              have HSET := Lib.hid hset
              have HQ := Lib.hid hq
              clear hfin hchg hE hset hq
              clear hFd
              go_wp2
              go_ret
              refine ⟨by rw [HCD.out]; rfl, HCHG.out, ?_⟩
              unfold applyLast applyNext
              rw [HCD.out, if_pos rfl, if_pos rfl]
              exact HFIN.out
end Go.Proofs

/- What a Map holds, plain: what an Apply does to it, and to what is read. -/
namespace Go.Proofs
open Go.RowKit Sc

theorem atN_snoc (l : List Put) (p : Put) (t : Int) : atN (l ++ [p]) t = if p.lba ≤ t then l.length + 1 else atN l t := by
  split
  · rename_i h
    refine atN_is (by simp) (fun j hj hj' => ?_) (.inr ⟨by simp, ?_⟩)
    · simp at hj; omega
    · simpa using h
  · rename_i h
    refine atN_is (by have := atN_le l t; simp; omega) (fun j hj hj' => ?_) ?_
    · by_cases e : j < l.length
      · rw [List.getElem_append_left e]; exact atN_above l t j e hj'
      · have : j = l.length := by simp at hj; omega
        subst this
        simp; omega
    · by_cases h0 : atN l t = 0
      · exact .inl h0
      · obtain ⟨h1, h2⟩ := atN_at l t (by omega)
        refine .inr ⟨by simp; omega, ?_⟩
        rw [List.getElem_append_left h1]; exact h2
theorem getV_eq (vs : Vers) (k t : Int) : getV vs k t = match ((alook vs k).getD [])[atN ((alook vs k).getD []) t - 1]? with
  | some p => if atN ((alook vs k).getD []) t = 0 then (zeroB, 0) else (p.data, p.lba)
  | none => (zeroB, 0) := rfl
theorem getV_of {vs : Vers} {k t : Int} {l : List Put} (h : (alook vs k).getD [] = l) : getV vs k t = match l[atN l t - 1]? with
  | some p => if atN l t = 0 then (zeroB, 0) else (p.data, p.lba)
  | none => (zeroB, 0) := by rw [getV_eq, h]
theorem getV_snoc_le {_vs vs' : Vers} {k t : Int} {l : List Put} {p : Put} (h' : (alook vs' k).getD [] = l ++ [p]) (ht : p.lba ≤ t) : getV vs' k t = (p.data, p.lba) := by
  rw [getV_of h', atN_snoc, if_pos ht]
  simp
theorem getV_snoc_gt {vs vs' : Vers} {k t : Int} {l : List Put} {p : Put} (h : (alook vs k).getD [] = l) (h' : (alook vs' k).getD [] = l ++ [p]) (ht : t < p.lba) : getV vs' k t = getV vs k t := by
  rw [getV_of h', getV_of h, atN_snoc, if_neg (by omega)]
  have hle := atN_le l t
  by_cases h0 : atN l t = 0
  · rw [h0]
    simp only [if_true]
    split <;> split <;> rfl
  · rw [List.getElem?_append_left (by omega)]
theorem getV_same {vs vs' : Vers} {k t : Int} (h : alook vs' k = alook vs k) : getV vs' k t = getV vs k t := by rw [getV_eq, getV_eq, h]

theorem riseB_pairwise {l : List Put} (h : riseB l = true) : l.Pairwise (fun p q => p.lba < q.lba) := by
  unfold riseB at h
  rw [Bool.and_eq_true, decide_eq_true_eq, List.all_eq_true] at h
  have hadj : ∀ i (h1 : i + 1 < l.length), (l[i]'(by omega)).lba < l[i + 1].lba := by
    intro i hi
    have := h.2 i (List.mem_range.2 (by omega))
    rw [decide_eq_true_eq] at this
    rw [lbaAt_get (show i < l.length by omega), lbaAt_get hi]
    exact this
  rw [List.pairwise_iff_getElem]
  intro i j hi hj hij
  induction j with
  | zero => omega
  | succ j ih =>
    by_cases e : i = j
    · subst e; exact hadj i hj
    · have := ih (by omega) (by omega)
      have := hadj j hj
      omega
theorem pairwise_nodup {l : List Put} (h : l.Pairwise (fun p q => p.lba < q.lba)) : (l.map (·.lba)).Nodup := by
  unfold List.Nodup
  rw [List.pairwise_map]
  exact h.imp fun h => by omega

/-- What an Apply does to one block's versions. -/
theorem applyVs_other (time : Int) : ∀ (l : List Put) (vs : Vers) (k : Int), (∀ p ∈ l, p.lba ≠ k) → alook (applyVs time vs l) k = alook vs k
  | [], vs, k, _ => rfl
  | p :: l, vs, k, h => by
    show alook (applyVs time (applyOne time vs p) l) k = _
    rw [applyVs_other time l _ k (fun q hq => h q (by simp [hq]))]
    unfold applyOne
    rw [alook_aset, if_neg (fun e => h p (by simp) e.symm)]
theorem applyVs_mine (time : Int) : ∀ (l : List Put) (vs : Vers) (p : Put), (l.map (·.lba)).Nodup → p ∈ l → alook (applyVs time vs l) p.lba = some ((alook vs p.lba).getD [] ++ [⟨time, p.data⟩])
  | q :: l, vs, p, hn, hp => by
    simp only [List.map_cons, List.nodup_cons] at hn
    show alook (applyVs time (applyOne time vs q) l) p.lba = _
    rcases List.mem_cons.1 hp with rfl | hp
    · rw [applyVs_other time l _ _ (fun x hx e => hn.1 (List.mem_map.2 ⟨x, hx, e⟩))]
      unfold applyOne
      rw [alook_aset, if_pos rfl]
    · rw [applyVs_mine time l _ p hn.2 hp]
      have : p.lba ≠ q.lba := fun e => hn.1 (List.mem_map.2 ⟨p, hp, e⟩)
      unfold applyOne
      rw [alook_aset, if_neg this]
  | [], _, _, _, h => by cases h

/-- A Map that came of Applies. -/
structure GoodE (blocks last : Int) (vs : Vers) : Prop where
  nd : (vs.map (·.1)).Nodup
  ks : ∀ x ∈ vs, 0 ≤ x.1 ∧ x.1 < blocks
  ts : ∀ k l, alook vs k = some l → l ≠ [] ∧ l.Pairwise (fun p q => p.lba < q.lba) ∧ ∀ p ∈ l, p.data.length = 40 ∧ 1 ≤ p.lba ∧ p.lba ≤ last
  l0 : 0 ≤ last
theorem GoodE.start (blocks : Int) : GoodE blocks 0 [] := ⟨List.nodup_nil, by simp, fun k l h => by simp [alook] at h, Int.le_refl _⟩
theorem code_zero {blocks last : Int} {t : Tx} (h : applyCode blocks last t = 0) : last < t.time ∧ t.time ≤ 1099511627776 ∧ riseB t.puts = true ∧ (∀ p ∈ t.puts, 0 ≤ p.lba ∧ p.lba < blocks) ∧ (∀ p ∈ t.puts, p.data.length = 40) ∧ 0 < t.puts.length := by
  unfold applyCode at h
  split at h
  · omega
  · rename_i h1
    split at h
    · omega
    · rename_i h2
      split at h
      · omega
      · rename_i h3
        split at h
        · omega
        · rename_i h4
          have hr : riseB t.puts = true := by cases hq : riseB t.puts <;> simp_all
          have hlen : 0 < t.puts.length := by
            have := hr
            unfold riseB at this
            rw [Bool.and_eq_true, decide_eq_true_eq] at this
            exact this.1
          have hp := riseB_pairwise hr
          have h3' : blk blocks (lbaAt t.puts 0) = true ∧ blk blocks (lbaAt t.puts (t.puts.length - 1)) = true := by
            cases ha : blk blocks (lbaAt t.puts 0) <;> cases hb : blk blocks (lbaAt t.puts (t.puts.length - 1)) <;> simp_all
          simp only [blk, Bool.and_eq_true, decide_eq_true_eq] at h3'
          refine ⟨by omega, by omega, hr, fun p hp' => ?_, fun p hp' => ?_, hlen⟩
          · obtain ⟨i, hi, rfl⟩ := List.getElem_of_mem hp'
            rw [List.pairwise_iff_getElem] at hp
            have e0 := lbaAt_get hlen
            have e1 := lbaAt_get (show t.puts.length - 1 < t.puts.length by omega)
            constructor
            · by_cases e : i = 0
              · subst e; omega
              · have := hp 0 i hlen hi (by omega); omega
            · by_cases e : i = t.puts.length - 1
              · subst e; omega
              · have := hp i (t.puts.length - 1) hi (by omega) (by omega); omega
          · simp at h4
            exact h4 p hp'
theorem applyVs_nodup (time : Int) : ∀ (l : List Put) (vs : Vers), (vs.map (·.1)).Nodup → ((applyVs time vs l).map (·.1)).Nodup
  | [], _, h => h
  | _ :: l, _, h => applyVs_nodup time l _ (nodup_aset h _ _)
theorem applyVs_keys (time : Int) : ∀ (l : List Put) (vs : Vers), ∀ x ∈ applyVs time vs l, x.1 ∈ vs.map (·.1) ∨ ∃ p ∈ l, p.lba = x.1
  | [], vs, x, hx => .inl (List.mem_map.2 ⟨x, hx, rfl⟩)
  | p :: l, vs, x, hx => by
    rcases applyVs_keys time l (applyOne time vs p) x hx with h | ⟨q, hq, e⟩
    · obtain ⟨y, hy, hye⟩ := List.mem_map.1 h
      rcases aset_mem hy with rfl | hy
      · exact .inr ⟨p, by simp, hye⟩
      · exact .inl (List.mem_map.2 ⟨y, hy, hye⟩)
    · exact .inr ⟨q, by simp [hq], e⟩
theorem GoodE.apply {blocks last : Int} {vs : Vers} (h : GoodE blocks last vs) {t : Tx} (hc : applyCode blocks last t = 0) : GoodE blocks t.time (applyVs t.time vs t.puts) := by
  obtain ⟨h1, h2, h3, h4, h5, _⟩ := code_zero hc
  have hl0 := h.l0
  have hn := pairwise_nodup (riseB_pairwise h3)
  refine ⟨applyVs_nodup _ _ _ h.nd, fun x hx => ?_, fun k l hl => ?_, by omega⟩
  · rcases applyVs_keys _ _ _ x hx with h' | ⟨p, hp, e⟩
    · obtain ⟨y, hy, hye⟩ := List.mem_map.1 h'
      have := h.ks y hy; omega
    · have := h4 p hp; omega
  · by_cases hk : ∃ p ∈ t.puts, p.lba = k
    · obtain ⟨p, hp, rfl⟩ := hk
      rw [applyVs_mine _ _ _ p hn hp] at hl
      cases hl
      have hold : ∀ q ∈ (alook vs p.lba).getD [], q.data.length = 40 ∧ 1 ≤ q.lba ∧ q.lba ≤ last := by
        cases hx : alook vs p.lba with
        | none => simp
        | some l' => exact (h.ts _ _ hx).2.2
      have hpw : ((alook vs p.lba).getD []).Pairwise (fun p q => p.lba < q.lba) := by
        cases hx : alook vs p.lba with
        | none => simp
        | some l' => exact (h.ts _ _ hx).2.1
      refine ⟨by simp, ?_, fun q hq => ?_⟩
      · rw [List.pairwise_append]
        exact ⟨hpw, by simp, fun a ha b hb => by rw [List.mem_singleton] at hb; subst hb; have := hold a ha; simp only; omega⟩
      · rcases List.mem_append.1 hq with hq | hq
        · have := hold q hq; omega
        · rw [List.mem_singleton] at hq; subst hq
          exact ⟨h5 p hp, by simp only; omega, by simp only; omega⟩
    · rw [applyVs_other _ _ _ k (fun p hp e => hk ⟨p, hp, e⟩)] at hl
      obtain ⟨a, b, c⟩ := h.ts k l hl
      exact ⟨a, b, fun p hp => by have := c p hp; omega⟩
theorem GoodE.next {blocks last : Int} {vs : Vers} (h : GoodE blocks last vs) (t : Tx) : GoodE blocks (applyLast blocks last t) (applyNext blocks last vs t) := by
  unfold applyLast applyNext
  split
  · rename_i hc; exact h.apply hc
  · exact h
theorem GoodE.d40 {blocks last : Int} {vs : Vers} (h : GoodE blocks last vs) : ∀ k l, alook vs k = some l → ∀ p ∈ l, p.data.length ≤ 1000000 := fun k l hl p hp => by
  have := ((h.ts k l hl).2.2 p hp).1; omega
/-- What a read gives behind an Apply. -/
theorem getV_apply {blocks last : Int} {vs : Vers} (_h : GoodE blocks last vs) {t : Tx} (hc : applyCode blocks last t = 0) (k x : Int) :
    (x < t.time ∨ (∀ p ∈ t.puts, p.lba ≠ k) → getV (applyVs t.time vs t.puts) k x = getV vs k x) ∧ (t.time ≤ x → ∀ p ∈ t.puts, p.lba = k → getV (applyVs t.time vs t.puts) k x = (p.data, t.time)) := by
  obtain ⟨h1, h2, h3, h4, h5, _⟩ := code_zero hc
  have hn := pairwise_nodup (riseB_pairwise h3)
  refine ⟨fun hx => ?_, fun hx p hp e => ?_⟩
  · by_cases hk : ∃ p ∈ t.puts, p.lba = k
    · obtain ⟨p, hp, rfl⟩ := hk
      rcases hx with hx | hx
      · exact getV_snoc_gt rfl (by rw [applyVs_mine _ _ _ p hn hp]; rfl) (by simpa using hx)
      · exact absurd rfl (hx p hp)
    · exact getV_same (applyVs_other _ _ _ k fun p hp e => hk ⟨p, hp, e⟩)
  · subst e
    exact getV_snoc_le (_vs := vs) (l := (alook vs p.lba).getD []) (p := ⟨t.time, p.data⟩) (by rw [applyVs_mine _ _ _ p hn hp]; rfl) hx
end Go.Proofs

/- The reference's Map, plain: one list of versions, by block; beside the map of lists. -/
namespace Go.Proofs
open Go.RowKit Sc
structure RVer where
  lba : Int
  time : Int
  data : Bytes
/-- The versions of a block. -/
def grp (L : List RVer) (k : Int) : List Put := (L.filter fun v => v.lba == k).map fun v => ⟨v.time, v.data⟩
def putG (t : Int) (ps : List Put) (k : Int) : List Put := (ps.filter fun p => p.lba == k).map fun p => ⟨t, p.data⟩
def mkV (t : Int) (p : Put) : RVer := ⟨p.lba, t, p.data⟩
theorem grp_append (a b : List RVer) (k : Int) : grp (a ++ b) k = grp a k ++ grp b k := by unfold grp; rw [List.filter_append, List.map_append]
theorem grp_mk (t : Int) (ps : List Put) (k : Int) : grp (ps.map (mkV t)) k = putG t ps k := by
  induction ps with
  | nil => rfl
  | cons p ps ih =>
    have e : grp ((p :: ps).map (mkV t)) k = grp [mkV t p] k ++ grp (ps.map (mkV t)) k := by rw [← grp_append]; rfl
    have e2 : putG t (p :: ps) k = putG t [p] k ++ putG t ps k := by
      unfold putG
      rw [← List.map_append, ← List.filter_append]; rfl
    rw [e, e2, ih]
    congr 1
    unfold grp putG mkV
    by_cases h : p.lba = k
    · simp [h]
    · simp [h]
theorem putG_append (t : Int) (a b : List Put) (k : Int) : putG t (a ++ b) k = putG t a k ++ putG t b k := by unfold putG; rw [List.filter_append, List.map_append]
theorem grp_none {L : List RVer} {k : Int} (h : ∀ v ∈ L, v.lba ≠ k) : grp L k = [] := by
  unfold grp
  rw [List.filter_eq_nil_iff.2 fun v hv => by simpa using h v hv]; rfl
theorem putG_none {t : Int} {ps : List Put} {k : Int} (h : ∀ p ∈ ps, p.lba ≠ k) : putG t ps k = [] := by
  unfold putG
  rw [List.filter_eq_nil_iff.2 fun v hv => by simpa using h v hv]; rfl
/-- What Apply makes of them. -/
def mergeV (t : Int) : List Put → List RVer → List RVer
  | ps, [] => ps.map (mkV t)
  | ps, v :: L => (ps.takeWhile fun p => decide (p.lba < v.lba)).map (mkV t) ++ v :: mergeV t (ps.dropWhile fun p => decide (p.lba < v.lba)) L
def AscV (L : List RVer) : Prop := L.Pairwise fun a b => a.lba ≤ b.lba
theorem drop_ge {ps : List Put} (h : ps.Pairwise fun p q => p.lba < q.lba) (x : Int) : ∀ p ∈ ps.dropWhile (fun p => decide (p.lba < x)), x ≤ p.lba := by
  induction ps with
  | nil => simp
  | cons q ps ih =>
    rw [List.pairwise_cons] at h
    rw [List.dropWhile_cons]
    split
    · exact ih h.2
    · rename_i hq
      intro p hp
      have hq' : ¬ q.lba < x := by simpa using hq
      rcases List.mem_cons.1 hp with rfl | hp
      · omega
      · have := h.1 p hp; omega
theorem take_lt (ps : List Put) (x : Int) : ∀ p ∈ ps.takeWhile (fun p => decide (p.lba < x)), p.lba < x := by
  induction ps with
  | nil => simp
  | cons q ps ih =>
    rw [List.takeWhile_cons]
    split
    · rename_i hq
      intro p hp
      rcases List.mem_cons.1 hp with rfl | hp
      · simpa using hq
      · exact ih p hp
    · simp
theorem grp_merge (t : Int) (k : Int) : ∀ (L : List RVer) (ps : List Put), AscV L → (ps.Pairwise fun p q => p.lba < q.lba) → grp (mergeV t ps L) k = grp L k ++ putG t ps k
  | [], ps, _, _ => by
    show grp (ps.map (mkV t)) k = [] ++ _
    rw [grp_mk]; rfl
  | v :: L, ps, hL, hp => by
    unfold AscV at hL
    rw [List.pairwise_cons] at hL
    have ih := grp_merge t k L (ps.dropWhile fun p => decide (p.lba < v.lba)) hL.2 (hp.sublist (List.dropWhile_sublist _))
    have e : grp (mergeV t ps (v :: L)) k = putG t (ps.takeWhile fun p => decide (p.lba < v.lba)) k ++ (grp [v] k ++ grp (mergeV t (ps.dropWhile fun p => decide (p.lba < v.lba)) L) k) := by
      show grp (_ ++ ([v] ++ _)) k = _
      rw [grp_append, grp_mk, grp_append]
    have e2 : putG t ps k = putG t (ps.takeWhile fun p => decide (p.lba < v.lba)) k ++ putG t (ps.dropWhile fun p => decide (p.lba < v.lba)) k := by
      rw [← putG_append, List.takeWhile_append_dropWhile]
    have e3 : grp (v :: L) k = grp [v] k ++ grp L k := by rw [← grp_append]; rfl
    rw [e, ih, e2, e3]
    by_cases hk : k < v.lba
    · have h1 : grp [v] k = [] := grp_none fun u hu => by rw [List.mem_singleton] at hu; subst hu; omega
      have h2 : grp L k = [] := grp_none fun u hu => by have := hL.1 u hu; omega
      rw [h1, h2]
      simp
    · have h1 : putG t (ps.takeWhile fun p => decide (p.lba < v.lba)) k = [] := putG_none fun p hp => by have := take_lt ps v.lba p hp; omega
      rw [h1]
      simp
theorem asc_merge (t : Int) : ∀ (L : List RVer) (ps : List Put), AscV L → (ps.Pairwise fun p q => p.lba < q.lba) → AscV (mergeV t ps L)
  | [], ps, _, hp => by
    show (ps.map (mkV t)).Pairwise _
    rw [List.pairwise_map]
    exact hp.imp fun h => by unfold mkV; simp only; omega
  | v :: L, ps, hL, hp => by
    unfold AscV at hL
    rw [List.pairwise_cons] at hL
    have hd := hp.sublist (List.dropWhile_sublist (fun p : Put => decide (p.lba < v.lba)) (l := ps))
    have ih := asc_merge t L (ps.dropWhile fun p => decide (p.lba < v.lba)) hL.2 hd
    have hge : ∀ u ∈ mergeV t (ps.dropWhile fun p => decide (p.lba < v.lba)) L, v.lba ≤ u.lba := fun u hu => by
      have hg := grp_merge t u.lba L (ps.dropWhile fun p => decide (p.lba < v.lba)) hL.2 hd
      have hne : grp (mergeV t (ps.dropWhile fun p => decide (p.lba < v.lba)) L) u.lba ≠ [] := fun h0 => by
        unfold grp at h0
        rw [List.map_eq_nil_iff, List.filter_eq_nil_iff] at h0
        have := h0 u hu
        simp at this
      rw [hg] at hne
      by_cases hc : grp L u.lba = []
      · rw [hc, List.nil_append] at hne
        refine Classical.byContradiction fun hlt => hne (putG_none fun p hp' e => ?_)
        have := drop_ge hp v.lba p hp'
        omega
      · refine Classical.byContradiction fun hlt => hc (grp_none fun x hx e => ?_)
        have := hL.1 x hx
        omega
    show ((ps.takeWhile fun p => decide (p.lba < v.lba)).map (mkV t) ++ v :: mergeV t (ps.dropWhile fun p => decide (p.lba < v.lba)) L).Pairwise _
    rw [List.pairwise_append]
    refine ⟨?_, List.pairwise_cons.2 ⟨hge, ih⟩, fun a ha b hb => ?_⟩
    · rw [List.pairwise_map]
      exact (hp.sublist (List.takeWhile_sublist _)).imp fun h => by unfold mkV; simp only; omega
    · obtain ⟨p, hp', rfl⟩ := List.mem_map.1 ha
      have h1 := take_lt ps v.lba p hp'
      have h2 : v.lba ≤ b.lba := by
        rcases List.mem_cons.1 hb with rfl | hb
        · omega
        · exact hge b hb
      unfold mkV
      simp only
      omega
/-- The last one up to a time. -/
def getL (l : List Put) (t : Int) : Bytes × Int := l.foldl (fun acc p => if p.lba ≤ t then (p.data, p.lba) else acc) (zeroB, 0)
def getR (L : List RVer) (k t : Int) : Bytes × Int := L.foldl (fun acc v => if v.lba = k ∧ v.time ≤ t then (v.data, v.time) else acc) (zeroB, 0)
theorem getR_grp (L : List RVer) (k t : Int) : getR L k t = getL (grp L k) t := by
  unfold getR getL grp
  generalize (zeroB, (0 : Int)) = acc
  induction L generalizing acc with
  | nil => rfl
  | cons v L ih =>
    rw [List.foldl_cons, ih]
    by_cases h : v.lba = k
    · have : (v :: L).filter (fun v => v.lba == k) = v :: L.filter fun v => v.lba == k := List.filter_cons_of_pos (by simpa using h)
      rw [this, List.map_cons, List.foldl_cons]
      by_cases h2 : v.time ≤ t
      · rw [if_pos ⟨h, h2⟩, if_pos h2]
      · rw [if_neg (fun hh => h2 hh.2), if_neg h2]
    · have : (v :: L).filter (fun v => v.lba == k) = L.filter fun v => v.lba == k := List.filter_cons_of_neg (by simpa using h)
      rw [this, if_neg (fun hh => h hh.1)]
theorem getL_at (l : List Put) (t : Int) : getL l t = match l[atN l t - 1]? with
    | some p => if atN l t = 0 then (zeroB, 0) else (p.data, p.lba)
    | none => (zeroB, 0) := by
  have key : ∀ n, n ≤ l.length → getL (l.take n) t = match (l.take n)[atN (l.take n) t - 1]? with
      | some p => if atN (l.take n) t = 0 then (zeroB, 0) else (p.data, p.lba)
      | none => (zeroB, 0) := by
    intro n
    induction n with
    | zero => intro _; rw [List.take_zero]; rfl
    | succ n ih =>
      intro hn
      have ih := ih (by omega)
      rw [take_snoc l n (by omega)]
      generalize l.take n = m at *
      generalize l[n] = p
      have e : getL (m ++ [p]) t = if p.lba ≤ t then (p.data, p.lba) else getL m t := by unfold getL; rw [List.foldl_append]; rfl
      rw [e, atN_snoc]
      by_cases h : p.lba ≤ t
      · rw [if_pos h, if_pos h]
        simp
      · rw [if_neg h, if_neg h, ih]
        have hle := atN_le m t
        by_cases h0 : atN m t = 0
        · rw [h0]
          simp only [if_true]
          split <;> split <;> rfl
        · rw [List.getElem?_append_left (by omega)]
  have := key l.length (Nat.le_refl _)
  rw [List.take_length] at this
  exact this
theorem getR_get {L : List RVer} {vs : Vers} (h : ∀ k, (alook vs k).getD [] = grp L k) (k t : Int) : getR L k t = getV vs k t := by
  rw [getR_grp, getL_at, getV_of (h k)]
  all_goals (cases (grp L k)[atN (grp L k) t - 1]? <;> rfl)
end Go.Proofs

/- The reference's Map in memory; Get. -/
namespace Go.Proofs
open Go.RowKit Sc
theorem wpList_make_ref {P : Program} (w : World) {ops : Array Oper} {rest : List Oper} {o : Oper} {a : Act} {Q : Exit → Act → World → Prop}
    (hg : Region.wanted o (yielded ops a.tmps) = true) (l c : Operand) (t : TypeId) (hop : o.op = Op.makeSlice t l c)
    (base : Nat) (e : TypeId) (i : TypeInfo) (z : Value) (size : Nat) (h1 : P.underlying t = some (.slice e)) (h2 : P.info? e = some i) (h3 : i.zero = some z) (h4 : i.size = size)
    (kl kc : IntKind) (L C : Int) (n : Nat) (hl : a.eval l = .int kl L) (hc : a.eval c = .int kc C) (hL : L = (n : Int)) (hC : C = (n : Int)) (b2 : i.bytes * n ≤ 281474976710656) (b3 : n ≤ maxLen) (b4 : base ≤ w.heap.size)
    (hK : ∀ w', w'.ownsRow base e size (.slice (some ⟨w.heap.size, 0, none⟩) n n) n (madeCells z.cells (n * size)).toList → w.grownBy w' none → wpList P ops Q rest (a.put o.dst (.slice (some ⟨w.heap.size, 0, none⟩) n n)) w') :
    wpList P ops Q (o :: rest) a w := by
  refine wpList_step fun K hK' => ?_
  rw [if_pos hg]
  obtain ⟨w', hrun, r1, r2⟩ := run_make_full (P := P) w base t e i z size h1 h2 h3 h4 kl kc n b2 b3 b4
  subst hL
  subst hC
  unfold Oper.wp
  simp [execOp, hop, hl, hc, hrun, Result.andThen]
  exact hK' _ _ (hK w' r1 r2)
/-- What a version's cells hold. -/
def verR (D : Nat → Prop) (w : World) (cs : List Value) (x : RVer) : Prop := ∃ dv, cs = [.int .i64 x.lba, .int .i64 x.time, dv] ∧ I64 x.lba ∧ I64 x.time ∧ BytesAt D w dv x.data
theorem verR_stable : RStable verR := fun _ _ _ _ _ _ hd hs ⟨dv, h1, h2, h3, h4⟩ => ⟨dv, h1, h2, h3, (h4.same hs).mono hd⟩
def RMapIs (F : Nat → Prop) (w : World) (v : Value) (blocks last : Int) (L : List RVer) : Prop :=
  ∃ b lv D, v = .pointer (some ⟨b, 0, none⟩) ∧ F b ∧ w.heap[b]? = some (.cells #[.int .i64 blocks, lv, .int .i64 last] 127 (0, 0)) ∧ OutS 129 3 verR 0 w lv L D ∧ (∀ g, lv.ownBlock = some g → F g ∧ g ≠ b) ∧ ∀ q, D q → F q ∧ q ≠ b
theorem RMapIs.same {F : Nat → Prop} {w w' : World} {v : Value} {blocks last : Int} {L : List RVer} (h : RMapIs F w v blocks last L) (hs : Same F w w') (hz : w.heap.size ≤ w'.heap.size) : RMapIs F w' v blocks last L :=
  let ⟨b, lv, D, h1, h2, h3, h4, h5, h6⟩ := h
  ⟨b, lv, D, h1, h2, (hs b h2).trans h3, h4.same verR_stable hs hz (fun g hg => (h5 g hg).1) (fun q hq => (h6 q hq).1), h5, h6⟩
def RMapA (v : Value) (blocks last : Int) (L : List RVer) : Asn := ⟨fun F w => RMapIs F w v blocks last L, fun _ _ _ hs hz h => h.same hs hz⟩
/-- The versions' cells. -/
theorem ver_cells {w : World} {lv : Value} {L : List RVer} {D : Nat → Prop} (h : OutS 129 3 verR 0 w lv L D) : ∃ p c, lv = .slice p L.length c ∧ L.length ≤ c ∧ ∀ i (hi : i < L.length), ∃ g dv, p = some ⟨g, 0, none⟩ ∧ w.cell? ⟨g, i * 3, none⟩ = some (.int .i64 L[i].lba) ∧ w.cell? ⟨g, i * 3 + 1, none⟩ = some (.int .i64 L[i].time) ∧ w.cell? ⟨g, i * 3 + 2, none⟩ = some dv ∧ I64 L[i].lba ∧ I64 L[i].time ∧ BytesAt D w dv L[i].data := by
  obtain ⟨css, h1, h2, h3, h4, _⟩ := h
  have hrow := h3
  obtain ⟨_, ⟨e, h0⟩ | ⟨g, cap, cur, e, _, _, hnc, _⟩⟩ := h3
  · exact ⟨none, 0, by rw [e, h0], by omega, fun i hi => by omega⟩
  · subst e
    refine ⟨_, cap, rfl, hnc, fun i hi => ?_⟩
    have hi' : i < css.length := by omega
    obtain ⟨dv, e1, e2, e3, e4⟩ := h4 i hi' hi
    have hf : ∀ j, j < 3 → w.cell? ⟨g, i * 3 + j, none⟩ = css[i][j]? := fun j hj => by
      rw [hrow.cellAt (i * 3 + j) (by omega)]
      exact flat_get h2 i hi' j hj
    rw [e1] at hf
    exact ⟨g, dv, rfl, hf 0 (by omega), hf 1 (by omega), hf 2 (by omega), e2, e3, e4⟩
theorem getR_snoc (L : List RVer) (v : RVer) (k t : Int) : getR (L ++ [v]) k t = if v.lba = k ∧ v.time ≤ t then (v.data, v.time) else getR L k t := by unfold getR; rw [List.foldl_append]; rfl
set_option maxRecDepth 100000 in
set_option maxHeartbeats 2000000 in
theorem refMapGet_any (F : Nat → Prop) (v : Value) (blocks last : Int) (L : List RVer) (lba t : Int) (w : World) (h : RMapIs F w v blocks last L) (hL : L.length ≤ 1000000) :
    Calls Try.prog 62 #[v, .int .i64 lba, .int .i64 t] w fun e w' =>
      (blk blocks lba = false ∧ e = .returned (.tuple #[.slice none 0 0, .int .i64 0]) ∧ Hid (Below w.heap.size w w')) ∨
      (blk blocks lba = true ∧ ∃ gp gc, e = .returned (.tuple #[.slice gp (getR L lba t).1.length gc, .int .i64 (getR L lba t).2]) ∧ Hid (BytesAt (fun k => F k ∨ New w w' k) w' (.slice gp (getR L lba t).1.length gc) (getR L lba t).1) ∧ Hid (Below w.heap.size w w')) := by
  obtain ⟨b, lv, D, rfl, hFb, hh, hO, hg, hD⟩ := h
  obtain ⟨p, c, rfl, hlc, hcells⟩ := ver_cells hO
  have c0 : w.cell? ⟨b, 0, none⟩ = some (.int .i64 blocks) := by rw [cell_row hh]; rfl
  have c1 : w.cell? ⟨b, 1, none⟩ = some (.slice p L.length c) := by rw [cell_row hh]; rfl
  have HC := Lib.hid hcells
  have HD := Lib.hid hD
  clear hh hO hg hcells hD
  by_cases h1 : lba < 0
  case pos =>
    have HB : Hid (blk blocks lba = false) := by show _ = _; unfold blk; rw [decide_eq_false (show ¬ 0 ≤ lba by omega)]; rfl
    go_enter Try.func62, Try.ntmps62
    go_wp2
    go_ret2
    exact .inl ⟨HB.out, rfl, Below.refl _ _⟩
  case neg =>
  by_cases h2 : blocks ≤ lba
  case pos =>
    have HB : Hid (blk blocks lba = false) := by show _ = _; unfold blk; rw [decide_eq_false (show ¬ lba < blocks by omega)]; simp
    go_enter Try.func62, Try.ntmps62
    go_wp2
    go_ret2
    exact .inl ⟨HB.out, rfl, Below.refl _ _⟩
  case neg =>
  have HB : Hid (blk blocks lba = true) := by show _ = _; unfold blk; rw [decide_eq_true (show 0 ≤ lba by omega), decide_eq_true (show lba < blocks by omega)]; rfl
  obtain ⟨i0, hi, hz0, hz1, hz2⟩ := info_parts infoU8
  go_enter Try.func62, Try.ntmps62
  go_wp2_with (at_make; refine wpList_make_ref _ (by kernel_rfl) _ _ 26 rfl w.heap.size 5 i0 (.int .u8 0) 1 Try.underlying26 hi hz0 hz1 _ _ _ _ 40 rfl rfl rfl rfl (by rw [hz2]; omega) (by unfold maxLen; omega) (Nat.le_refl _) ?_; intro w1 hown hgrow)
  have HDM : Hid (BytesAt (New w w1) w1 (.slice (some ⟨w.heap.size, 0, none⟩) 40 40) zeroB) := bytesAt_row (B := w.heap.size) (l := zeroB) _ ⟨Nat.le_refl _, (hown.lt w.heap.size rfl).2⟩ (by decide) (Nat.le_refl _) (by omega) (by rw [made_u8] at hown; exact hown)
  have HBM : Hid (Below w.heap.size w w1) := (Below.refl _ _).grown hgrow (Nat.le_refl _) (fun j hj => by cases hj)
  clear hown hgrow hi hz0 hz1 hz2
  go_wp2_with fail
  go_loopw [8, 9, 10] (fun s8 s9 s10 wr => ∃ k : Nat, ∃ gp gc, k ≤ L.length ∧ s10 = .int .i64 k ∧ s9 = .int .i64 (getR (L.take k) lba t).2 ∧ s8 = .slice gp (getR (L.take k) lba t).1.length gc ∧ Hid (BytesAt (fun k => F k ∨ New w wr k) wr (.slice gp (getR (L.take k) lba t).1.length gc) (getR (L.take k) lba t).1) ∧ Hid (Below w.heap.size w wr)) (fun _ _ s10 _ => L.length - (intOf s10).toNat)
  case atStart => exact ⟨0, _, _, Nat.zero_le _, by go_num, rfl, rfl, BytesAt.mono HDM.out fun _ hk => .inr hk, HBM⟩
  case round =>
    obtain ⟨k, gp, gc, hk, rfl, rfl, rfl, HX, HW⟩ := hrel
    have m0 := cell_up HW.out c0
    have m1 := cell_up HW.out c1
    by_cases hkl : k < L.length
    case neg =>
      obtain rfl : k = L.length := by omega
      have hx := HX.out
      rw [List.take_length] at hx ⊢
      have HX2 := Lib.hid hx
      clear hx HX m0
      go_wp2
      go_ret2
      exact .inr ⟨HB.out, gp, gc, rfl, HX2, HW⟩
    case pos =>
      obtain ⟨g, dv, rfl, k0, k1, k2, _, _, hd⟩ := HC.out k hkl
      obtain ⟨dp, dc, rfl⟩ : ∃ dp dc, dv = .slice dp L[k].data.length dc := by obtain ⟨dp, dc, e, _⟩ := hd; exact ⟨dp, dc, e⟩
      have n0 := cell_up HW.out k0
      have n1 := cell_up HW.out k1
      have n2 := cell_up HW.out k2
      have HDD : Hid (BytesAt (fun k => F k ∨ New w wr k) wr (.slice dp L[k].data.length dc) L[k].data) := BytesAt.mono (BytesAt.up hd HW.out) fun q hq => .inl (HD.out q hq).1
      have htk : getR (L.take (k + 1)) lba t = if L[k].lba = lba ∧ L[k].time ≤ t then (L[k].data, L[k].time) else getR (L.take k) lba t := by rw [take_snoc L k hkl, getR_snoc]
      generalize hgr : getR (L.take k) lba t = gr at *
      have HTK := Lib.hid htk
      clear hgr htk k0 k1 k2 hd m0
      by_cases e1 : L[k].lba = lba
      case neg =>
        have hb : (L[k].lba == lba) = false := by rw [beq_eq_false_iff_ne]; exact e1
        have HR : Hid (getR (L.take (k + 1)) lba t = gr) := by show _ = _; rw [HTK.out, if_neg (fun hh => e1 hh.1)]
        clear e1
        go_wp2_with fail
        go_roundw
        case rel => exact ⟨k + 1, gp, gc, by omega, by go_num, by rw [HR.out], by rw [HR.out], by rw [HR.out]; exact HX, HW⟩
        case measure => simp [intOf]; omega
      case pos =>
      have hb : (L[k].lba == lba) = true := by rw [beq_iff_eq]; exact e1
      by_cases e2 : L[k].time ≤ t
      case neg =>
        have HR : Hid (getR (L.take (k + 1)) lba t = gr) := by show _ = _; rw [HTK.out, if_neg (fun hh => e2 hh.2)]
        clear e1
        go_wp2_with fail
        go_roundw
        case rel => exact ⟨k + 1, gp, gc, by omega, by go_num, by rw [HR.out], by rw [HR.out], by rw [HR.out]; exact HX, HW⟩
        case measure => simp [intOf]; omega
      case pos =>
        have HR : Hid (getR (L.take (k + 1)) lba t = (L[k].data, L[k].time)) := by show _ = _; rw [HTK.out, if_pos ⟨e1, e2⟩]
        clear e1
        go_wp2_with fail
        go_roundw
        case rel => exact ⟨k + 1, dp, dc, by omega, by go_num, by rw [HR.out], by rw [HR.out], by rw [HR.out]; exact HDD, HW⟩
        case measure => simp [intOf]; omega
end Go.Proofs

/- The reference's Map: Apply, plain: its checks, its merge step by step. -/
namespace Go.Proofs
open Go.RowKit Sc
theorem merge_put {t : Int} {p : Put} {ps : List Put} {v : RVer} {L : List RVer} (h : p.lba < v.lba) : mergeV t (p :: ps) (v :: L) = mkV t p :: mergeV t ps (v :: L) := by
  show ((p :: ps).takeWhile fun p => decide (p.lba < v.lba)).map (mkV t) ++ v :: mergeV t ((p :: ps).dropWhile fun p => decide (p.lba < v.lba)) L = _
  rw [List.takeWhile_cons_of_pos (by simpa using h), List.dropWhile_cons_of_pos (by simpa using h)]
  rfl
theorem merge_old {t : Int} {ps : List Put} {v : RVer} {L : List RVer} (h : ∀ p qs, ps = p :: qs → ¬ p.lba < v.lba) : mergeV t ps (v :: L) = v :: mergeV t ps L := by
  show (ps.takeWhile fun p => decide (p.lba < v.lba)).map (mkV t) ++ v :: mergeV t (ps.dropWhile fun p => decide (p.lba < v.lba)) L = _
  cases ps with
  | nil => rfl
  | cons p qs =>
    have hp := h p qs rfl
    rw [List.takeWhile_cons_of_neg (by simpa using hp), List.dropWhile_cons_of_neg (by simpa using hp)]
    rfl
theorem merge_end {t : Int} {p : Put} {ps : List Put} : mergeV t (p :: ps) [] = mkV t p :: mergeV t ps [] := rfl
theorem merge_nil {t : Int} : mergeV t [] [] = [] := rfl
/-- The steps of the merge, by places. -/
theorem step_put {t : Int} {ps : List Put} {L : List RVer} {k i : Nat} (hk : k < ps.length) (h : i = L.length ∨ ∃ hi : i < L.length, ps[k].lba < L[i].lba) : mergeV t (ps.drop k) (L.drop i) = mkV t ps[k] :: mergeV t (ps.drop (k + 1)) (L.drop i) := by
  rw [List.drop_eq_getElem_cons hk]
  rcases h with rfl | ⟨hi, hlt⟩
  · rw [List.drop_length]; rfl
  · rw [List.drop_eq_getElem_cons hi]
    exact merge_put hlt
theorem step_old {t : Int} {ps : List Put} {L : List RVer} {k i : Nat} (hi : i < L.length) (h : k = ps.length ∨ ∃ hk : k < ps.length, ¬ ps[k].lba < L[i].lba) : mergeV t (ps.drop k) (L.drop i) = L[i] :: mergeV t (ps.drop k) (L.drop (i + 1)) := by
  rw [List.drop_eq_getElem_cons hi]
  refine merge_old fun p qs e => ?_
  rcases h with rfl | ⟨hk, hlt⟩
  · rw [List.drop_length] at e; cases e
  · rw [List.drop_eq_getElem_cons hk] at e
    cases e
    exact hlt
theorem merge_len (t : Int) : ∀ (L : List RVer) (ps : List Put), (mergeV t ps L).length = L.length + ps.length
  | [], ps => by show (ps.map (mkV t)).length = _; simp
  | v :: L, ps => by
    show ((ps.takeWhile fun p => decide (p.lba < v.lba)).map (mkV t) ++ v :: mergeV t (ps.dropWhile fun p => decide (p.lba < v.lba)) L).length = _
    have h := congrArg List.length (List.takeWhile_append_dropWhile (p := fun p : Put => decide (p.lba < v.lba)) (l := ps))
    rw [List.length_append] at h
    rw [List.length_append, List.length_map, List.length_cons, merge_len t L, List.length_cons]
    omega
theorem rise_no {ps : List Put} {i : Nat} (hi : i + 1 < ps.length) (h : ps[i + 1].lba ≤ ps[i].lba) : riseB ps = false := by
  cases hr : riseB ps with
  | false => rfl
  | true =>
    have := riseB_pairwise hr
    rw [List.pairwise_iff_getElem] at this
    have := this i (i + 1) (by omega) hi (by omega)
    omega
theorem rise_yes {ps : List Put} (h0 : 0 < ps.length) (h : ∀ j (hj : j + 1 < ps.length), ps[j].lba < ps[j + 1].lba) : riseB ps = true := by
  unfold riseB
  rw [Bool.and_eq_true, decide_eq_true_eq, List.all_eq_true]
  refine ⟨h0, fun i hi => ?_⟩
  have hi := List.mem_range.1 hi
  rw [decide_eq_true_eq]
  have e1 := lbaAt_get (show i < ps.length by omega)
  have e2 := lbaAt_get (show i + 1 < ps.length by omega)
  unfold lbaAt at e1 e2
  rw [← e1, ← e2]
  exact h i (by omega)
section
variable {blocks last : Int} {t : Tx}
theorem code_time (h : t.time ≤ last ∨ 1099511627776 < t.time) : applyCode blocks last t = 11 := if_pos h
theorem code_none (h : ¬ (t.time ≤ last ∨ 1099511627776 < t.time)) (h0 : t.puts.length = 0) : applyCode blocks last t = 1 := by
  unfold applyCode
  rw [if_neg h, if_pos]
  unfold riseB
  rw [h0]; rfl
theorem code_rise (h : ¬ (t.time ≤ last ∨ 1099511627776 < t.time)) (h0 : riseB t.puts = false) : applyCode blocks last t = 1 := by
  unfold applyCode
  rw [if_neg h, if_pos h0]
theorem code_out (h : ¬ (t.time ≤ last ∨ 1099511627776 < t.time)) (h0 : riseB t.puts = true) {i : Nat} (hi : i < t.puts.length) (ho : t.puts[i].lba < 0 ∨ blocks ≤ t.puts[i].lba) : applyCode blocks last t = 2 := by
  have hp := riseB_pairwise h0
  rw [List.pairwise_iff_getElem] at hp
  have hf : t.puts[0].lba ≤ t.puts[i].lba := by
    by_cases e : i = 0
    · subst e; omega
    · have := hp 0 i (by omega) hi (by omega); omega
  have hl : t.puts[i].lba ≤ (t.puts[t.puts.length - 1]'(by omega)).lba := by
    by_cases e : i = t.puts.length - 1
    · subst e; omega
    · have := hp i (t.puts.length - 1) hi (by omega) (by omega); omega
  unfold applyCode
  rw [if_neg h, if_neg (by rw [h0]; decide), if_pos]
  rw [← lbaAt_get (show 0 < t.puts.length by omega), ← lbaAt_get (show t.puts.length - 1 < t.puts.length by omega)]
  unfold blk
  rcases ho with ho | ho
  · left
    simp only [Bool.and_eq_false_iff, decide_eq_false_iff_not]
    omega
  · right
    simp only [Bool.and_eq_false_iff, decide_eq_false_iff_not]
    omega
theorem code_in (h0 : riseB t.puts = true) (hall : ∀ i (hi : i < t.puts.length), 0 ≤ t.puts[i].lba ∧ t.puts[i].lba < blocks) : ¬ (blk blocks (lbaAt t.puts 0) = false ∨ blk blocks (lbaAt t.puts (t.puts.length - 1)) = false) := by
  have hlen : 0 < t.puts.length := by
    have := h0
    unfold riseB at this
    rw [Bool.and_eq_true, decide_eq_true_eq] at this
    exact this.1
  rw [← lbaAt_get hlen, ← lbaAt_get (show t.puts.length - 1 < t.puts.length by omega)]
  have h1 := hall 0 hlen
  have h2 := hall (t.puts.length - 1) (by omega)
  unfold blk
  rw [decide_eq_true h1.1, decide_eq_true h1.2, decide_eq_true h2.1, decide_eq_true h2.2]
  simp
theorem code_len (h : ¬ (t.time ≤ last ∨ 1099511627776 < t.time)) (h0 : riseB t.puts = true) (hall : ∀ i (hi : i < t.puts.length), 0 ≤ t.puts[i].lba ∧ t.puts[i].lba < blocks) {i : Nat} (hi : i < t.puts.length) (hl : t.puts[i].data.length ≠ 40) : applyCode blocks last t = 3 := by
  unfold applyCode
  rw [if_neg h, if_neg (by rw [h0]; decide), if_neg (code_in h0 hall), if_pos]
  rw [List.any_eq_true]
  exact ⟨_, List.getElem_mem hi, by simpa using hl⟩
theorem code_ok (h : ¬ (t.time ≤ last ∨ 1099511627776 < t.time)) (h0 : riseB t.puts = true) (hall : ∀ i (hi : i < t.puts.length), 0 ≤ t.puts[i].lba ∧ t.puts[i].lba < blocks) (hl : ∀ i (hi : i < t.puts.length), t.puts[i].data.length = 40) : applyCode blocks last t = 0 := by
  unfold applyCode
  rw [if_neg h, if_neg (by rw [h0]; decide), if_neg (code_in h0 hall), if_neg]
  rw [Bool.not_eq_true, List.any_eq_false]
  intro p hp
  obtain ⟨i, hi, rfl⟩ := List.mem_iff_getElem.1 hp
  simp [hl i hi]
end
end Go.Proofs

/- Regions that draw their order, walked operation by operation: what only reads may be taken as soon as it is ready, if it reads the same in every world of a class in which all that follows stays. Of no program. -/
namespace Sc
open Go
section
variable {P : Program} {ops : Array Oper} {Q : Exit → Act → World → Prop} {md : Region.Mode}

/-- What an operation leaves differs from what it got by its own temporary (and by what is deferred). -/
theorem wpOp_track {j : Nat} {oj : Oper} (hj : ops[j]? = some oj) {K : Act → World → Prop} {a : Act} {w : World} (h : wpOp P ops Q j K a w) :
    wpOp P ops Q j (fun a' w' => K a' w' ∧ ∃ u ds, a' = Act.put { a with defers := ds } oj.dst u) a w := by
  unfold wpOp at *
  simp only [hj] at *
  split
  · rename_i hw
    simp only [hw, if_true] at h
    rcases h with h | h
    · refine .inl ?_
      unfold Oper.wp at *
      generalize (execOp a.eval oj).run P w = r at *
      cases r with
      | ok n w' =>
        cases n <;> simp only [Oper.upon] at h ⊢
        case value u => exact ⟨h, u, a.defers, rfl⟩
        case skip => exact ⟨h, undef, a.defers, rfl⟩
        case defer d => exact ⟨h, undef, d :: a.defers, rfl⟩
        case enter f args =>
          refine Calls.mono h fun e w'' he => ?_
          cases e with
          | returned u => exact ⟨he, u, a.defers, rfl⟩
          | panicked c => exact he
          | outgrown => exact he
        case row row args => exact Rows.mono h fun u w'' he => ⟨he, u, a.defers, rfl⟩
      | halt x w' => cases x <;> simp only [Oper.upon] at h ⊢ <;> exact h
    · exact .inr h
  · rename_i hw
    simp only [hw] at h
    exact ⟨h, undef, a.defers, rfl⟩

/-- Whatever order is picked from here on, every state lying in a world of G. -/
def wpG (P : Program) (md : Region.Mode) (ops : Array Oper) (Q : Exit → Act → World → Prop) (G : World → Prop) : Nat → Array Bool → Act → World → Prop
  | 0, listed, a, w => G w ∧ Region.ready md ops listed = [] ∧ Q .normal a w
  | fuel + 1, listed, a, w =>
    G w ∧ (Region.ready md ops listed = [] → Q .normal a w) ∧
    ∀ i ∈ Region.ready md ops listed, wpOp P ops Q i (wpG P md ops Q G fuel (listed.setIfInBounds i true)) a w
theorem wpG.g {G : World → Prop} : ∀ {fuel : Nat} {listed : Array Bool} {a : Act} {w : World}, wpG P md ops Q G fuel listed a w → G w
  | 0, _, _, _, h => h.1
  | _ + 1, _, _, _, h => h.1
theorem wpG.any {G : World → Prop} : ∀ {fuel : Nat} {listed : Array Bool} {a : Act} {w : World}, wpG P md ops Q G fuel listed a w → wpAny P md ops Q fuel listed a w
  | 0, _, _, _, h => h.2
  | _ + 1, _, _, _, h => ⟨h.2.1, fun i hi => wpOp_mono (fun _ _ h => wpG.any h) (h.2.2 i hi)⟩
theorem wpG.wide {G G' : World → Prop} (hg : ∀ w, G w → G' w) : ∀ {fuel : Nat} {listed : Array Bool} {a : Act} {w : World}, wpG P md ops Q G fuel listed a w → wpG P md ops Q G' fuel listed a w
  | 0, _, _, _, h => ⟨hg _ h.1, h.2⟩
  | _ + 1, _, _, _, h => ⟨hg _ h.1, h.2.1, fun i hi => wpOp_mono (fun _ _ h => wpG.wide hg h) (h.2.2 i hi)⟩

/-- In every world of G the operation yields v, and leaves the world. -/
def YieldsG (P : Program) (ops : Array Oper) (G : World → Prop) (o : Oper) (v : Value) (a : Act) : Prop :=
  (Region.wanted o (yielded ops a.tmps) = true ∧ ∀ w, G w → (execOp a.eval o).run P w = .ok (.value v) w) ∨
  (Region.wanted o (yielded ops a.tmps) = false ∧ v = undef)
theorem YieldsG.wpOp {G : World → Prop} {i : Nat} {o : Oper} {v : Value} {a : Act} (hi : ops[i]? = some o) (hy : YieldsG P ops G o v a) {K : Act → World → Prop} {w : World} (hG : G w) (h : K (a.put o.dst v) w) : wpOp P ops Q i K a w := by
  unfold Go.wpOp
  simp only [hi]
  rcases hy with ⟨hw, hv⟩ | ⟨hw, rfl⟩
  · rw [if_pos hw]
    refine .inl ?_
    unfold Oper.wp
    rw [hv w hG]
    exact h
  · rw [if_neg (by rw [hw]; decide)]
    exact h
theorem YieldsG.track {G : World → Prop} {oi oj : Oper} {v : Value} {a : Act} (hs : ∀ cs b, oi.op ≠ .select cs b) (hd : ∀ d, oj.dst = some d → d ∉ oi.looksAt ops) (hy : YieldsG P ops G oi v a) (u : Value) (ds : List Deferred) : YieldsG P ops G oi v (Act.put { a with defers := ds } oj.dst u) := by
  unfold YieldsG at *
  rw [wanted_put oi { a with defers := ds } oj.dst u hd, execOp_put oi hs { a with defers := ds } oj.dst u hd]
  exact hy
/-- The same temporary, filled by nothing that is looked at. -/
theorem fake_apart {oi oj : Oper} {v : Value} (h : oi.apart ops oj = true) : ({ oi with op := .move (.const v), guard := none } : Oper).apart ops oj = true := by
  obtain ⟨h1, h2, h3⟩ := Oper.apart_spec h
  unfold Oper.apart
  simp only [Bool.and_eq_true]
  constructor
  · cases hd : oi.dst with
    | none => rfl
    | some d =>
      simp only [Bool.and_eq_true, Bool.not_eq_true', bne_iff_ne, ne_eq]
      exact ⟨by simpa using h1 d hd, h2 d hd⟩
  · cases hd : oj.dst with
    | none => rfl
    | some d => simp [Oper.looksAt, Op.operands]
theorem fake_yields {oi : Oper} {v : Value} (a : Act) : Yields P ops ({ oi with op := .move (.const v), guard := none } : Oper) v a :=
  .inl ⟨by simp [Region.wanted], fun w => by simp [execOp, Act.eval]⟩
theorem takeG_all {G : World → Prop} {i : Nat} {oi : Oper} {v : Value} (hi : ops[i]? = some oi) (hsel : ∀ (j : Nat) (o : Oper) cs b, ops[j]? = some o → o.op ≠ .select cs b)
    (hQ : ∀ c a w, Q (.panic c) (a.put oi.dst v) w → Q (.panic c) a w) :
    ∀ (fuel : Nat) (listed : Array Bool) (a : Act) (w : World),
      (∀ j oj, ops[j]? = some oj → j ≠ i → listed.getD j true = false → (∀ e ∈ oj.after, Region.binds md e = true → e.on ≠ i) → oi.apart ops oj = true) →
      i ∈ Region.ready md ops listed → YieldsG P ops G oi v a →
      wpG P md ops Q G fuel (listed.setIfInBounds i true) (a.put oi.dst v) w → wpG P md ops Q G (fuel + 1) listed a w := by
  intro fuel
  induction fuel with
  | zero =>
    intro listed a w _ hr hy H
    refine ⟨H.1, fun h => absurd (h ▸ hr) (by simp), fun j hj => ?_⟩
    by_cases hji : j = i
    · subst hji; exact hy.wpOp hi H.1 H
    · exact absurd (H.2.1 ▸ ready_mono hj hji) (by simp)
  | succ fuel ih =>
    intro listed a w hfree hr hy H
    refine ⟨H.1, fun h => absurd (h ▸ hr) (by simp), fun j hj => ?_⟩
    by_cases hji : j = i
    · subst hji; exact hy.wpOp hi H.1 H
    · obtain ⟨hjun, oj, hoj, hall⟩ := mem_ready.1 hj
      have hiun := (mem_ready.1 hr).1
      have hap := hfree j oj hoj hji hjun fun e he hb heq => by
        have h1 := hall e he hb
        rw [heq, Array.getD_eq_getD_getElem?] at h1
        rw [Array.getD_eq_getD_getElem?] at hiun
        cases hx : listed[i]? with
        | none => rw [hx] at h1; cases h1
        | some b => rw [hx] at h1 hiun; simp only [Option.getD_some] at h1 hiun; rw [h1] at hiun; cases hiun
      have h1 := H.2.2 j (ready_mono hj hji)
      have h2 := wpOp_track hoj (wpOp_put hoj (fake_apart (v := v) hap) (fun cs b e => by cases e) (fun cs b => hsel j oj cs b hoj) hQ (fake_yields a) h1)
      refine wpOp_mono (fun a' w' h3 => ?_) h2
      obtain ⟨⟨_, h4⟩, u, ds, rfl⟩ := h3
      refine ih _ _ w' (fun k ok hk hki hun hno => hfree k ok hk hki ?_ hno) (ready_mono hr (Ne.symm hji)) (hy.track (fun cs b => hsel i oi cs b hi) (Oper.apart_spec hap).2.2 u ds) ?_
      · by_cases hjk : j = k
        · subst hjk; exact hjun
        · rw [getD_set_ne true hjk] at hun; exact hun
      · rw [Array.setIfInBounds_comm _ _ hji]; exact h4
/-- An operation that only reads is taken as soon as it is ready. -/
theorem wpG.take {G : World → Prop} (i : Nat) {oi : Oper} {v : Value} {fuel : Nat} {listed : Array Bool} {a a' : Act} {w : World} (hi : ops[i]? = some oi) (hs : Region.noSelect ops = true) (hf : Region.free md ops listed i = true) (hr : (Region.ready md ops listed).contains i = true)
    (hw : Region.wanted oi (yielded ops a.tmps) = true) (hQ : ∀ c a w, Q (.panic c) (a.put oi.dst v) w → Q (.panic c) a w) (hy : ∀ w, G w → (execOp a.eval oi).run P w = .ok (.value v) w) (ha : a.put oi.dst v = a')
    (h : wpG P md ops Q G fuel (listed.setIfInBounds i true) a' w) : wpG P md ops Q G (fuel + 1) listed a w := by
  subst ha
  exact takeG_all hi (Region.noSelect_spec hs) hQ fuel listed a w (Region.free_spec hi hf) (by simpa using hr) (.inl ⟨hw, hy⟩) h
/-- One that its guard leaves out. -/
theorem wpG.skip {G : World → Prop} (i : Nat) {oi : Oper} {fuel : Nat} {listed : Array Bool} {a a' : Act} {w : World} (hi : ops[i]? = some oi) (hs : Region.noSelect ops = true) (hf : Region.free md ops listed i = true) (hr : (Region.ready md ops listed).contains i = true)
    (hw : Region.wanted oi (yielded ops a.tmps) = false) (hQ : ∀ c a w, Q (.panic c) (a.put oi.dst undef) w → Q (.panic c) a w) (ha : a.put oi.dst undef = a')
    (h : wpG P md ops Q G fuel (listed.setIfInBounds i true) a' w) : wpG P md ops Q G (fuel + 1) listed a w := by
  subst ha
  exact takeG_all hi (Region.noSelect_spec hs) hQ fuel listed a w (Region.free_spec hi hf) (by simpa using hr) (.inr ⟨hw, rfl⟩) h
/-- One that stands alone: a call, a store, an allocation. -/
theorem wpG.alone {G : World → Prop} (i : Nat) {oi : Oper} {fuel : Nat} {listed : Array Bool} {a : Act} {w : World} (hi : ops[i]? = some oi) (hr : Region.ready md ops listed = [i]) (hw : Region.wanted oi (yielded ops a.tmps) = true) (hG : G w)
    (h : ∀ K : Act → World → Prop, (∀ a w, wpG P md ops Q G fuel (listed.setIfInBounds i true) a w → K a w) → oi.wp P a w K Q) : wpG P md ops Q G (fuel + 1) listed a w := by
  refine ⟨hG, fun h0 => absurd (hr ▸ h0) (by simp), fun j hj => ?_⟩
  rw [hr, List.mem_singleton] at hj
  subst hj
  unfold Go.wpOp
  simp only [hi]
  rw [if_pos hw]
  exact .inl (h _ fun _ _ h => h)
theorem wpG.done {G : World → Prop} {fuel : Nat} {listed : Array Bool} {a : Act} {w : World} (hr : Region.ready md ops listed = []) (hG : G w) (h : Q .normal a w) : wpG P md ops Q G fuel listed a w := by
  cases fuel with
  | zero => exact ⟨hG, hr, h⟩
  | succ n => exact ⟨hG, fun _ => h, by rw [hr]; simp⟩
theorem wp_regionG {id : Nat} (G : World → Prop) {a : Act} {w : World} {l : List Oper} (hm : P.follows .mixedOrders = true) {n : Nat} (hn : l.length = n)
    (h : wpG P .any l.toArray Q G n (Array.replicate n false) a w.drew) : (Code.region id l.toArray true).wp P Q a w := by
  refine wp_region_any hm ?_
  have : l.toArray.size = n := by simpa using hn
  rw [this]
  exact h.any
end
end Sc

/- append of however many onto a slice that the call owns and that is not nil; of whatever program. -/
namespace Sc
open Go Go.RowKit

section
variable {P : Program} (w : World)
theorem run_append_some (t ty : TypeId) (base : Nat) (e : TypeId) (i : TypeInfo) (z : Value) (size bytes : Nat) (ht : P.underlying t = some (.slice e)) (hi : P.info? e = some i) (hz : i.zero = some z)
    (hsize : i.size = size) (hby : i.bytes = bytes) (hzs : z.cells.size = size) (hsz : 0 < size)
    (g0 n c0 : Nat) (xs : List Value) (hown : w.ownsRow base e size (.slice (some ⟨g0, 0, none⟩) n c0) n xs)
    (ad : Addr) (m c : Nat) (news : List Value) (hl : news.length = m * size) (hnews : ∀ j u, news[j]? = some u → w.cell? (ad.add j) = some u) (h1 : ∀ u ∈ news, u.oneCell' = true)
    (h63 : n + m ≤ maxLen) (hbytes : (n + m) * bytes ≤ 140737488355328) (hbase : base ≤ w.heap.size) (H : Nat) (hH : w.heap.size = H) :
    ∃ g cap w', (Builtin.append_ #[t, t] ty #[.slice (some ⟨g0, 0, none⟩) n c0, .slice (some ad) m c]).run P w = .ok (.slice (some ⟨g, 0, none⟩) (n + m) cap) w' ∧
      w'.ownsRow base e size (.slice (some ⟨g, 0, none⟩) (n + m) cap) (n + m) (xs ++ news) ∧ w.grownBy w' (some g0) ∧ (g0 = g ∨ g = H) ∧ g < w'.heap.size := by
  obtain ⟨v', w', hr, h2, h3, h4, h5⟩ := run_append_own_at (P := P) w base t ty e i z size bytes ht hi hz hsize hby hzs hsz _ n xs hown ad m c news hl hnews h1 h63 hbytes hbase
  have hne : v' ≠ .slice none 0 0 := fun h => by have := (h4.1 h).1; cases this
  have hlt := h2.lt
  obtain ⟨hx, hc | ⟨g, cap, cur, rfl, _⟩⟩ := id h2
  · exact absurd hc.1 hne
  refine ⟨g, cap, w', hr, h2, h3, ?_, (hlt g rfl).2⟩
  rcases h5 with h5 | h5
  · left; simpa [Value.ownBlock] using h5.symm
  · right
    have : g = w.heap.size := by simpa [Value.ownBlock] using h5
    rw [this, hH]

theorem step_append_some {ops : Array Oper} {o : Oper} {a : Act} {K : Act → World → Prop} {Q : Exit → Act → World → Prop} {E : Prop} (hgd : o.guard = none) (s x : Operand) (t : TypeId)
    (ho : o.op = .call { callee := .builtin .append, args := #[s, x], argTypes := #[t, t] })
    (base : Nat) (e : TypeId) (i : TypeInfo) (z : Value) (size bytes : Nat) (ht : P.underlying t = some (.slice e)) (hi : P.info? e = some i) (hz : i.zero = some z)
    (hsize : i.size = size) (hby : i.bytes = bytes) (hzs : z.cells.size = size) (hsz : 0 < size)
    (g0 n c0 : Nat) (xs : List Value) (hs : a.eval s = .slice (some ⟨g0, 0, none⟩) n c0) (hown : w.ownsRow base e size (.slice (some ⟨g0, 0, none⟩) n c0) n xs)
    (ad : Addr) (m c : Nat) (news : List Value) (hx : a.eval x = .slice (some ad) m c) (hl : news.length = m * size) (hnews : ∀ j u, news[j]? = some u → w.cell? (ad.add j) = some u) (h1 : ∀ u ∈ news, u.oneCell' = true)
    (h63 : n + m ≤ maxLen) (hbytes : (n + m) * bytes ≤ 140737488355328) (hbase : base ≤ w.heap.size) (H : Nat) (hH : w.heap.size = H)
    (h : ∀ g cap w', w'.ownsRow base e size (.slice (some ⟨g, 0, none⟩) (n + m) cap) (n + m) (xs ++ news) → w.grownBy w' (some g0) → (g0 = g ∨ g = H) → g < w'.heap.size → K (a.put o.dst (.slice (some ⟨g, 0, none⟩) (n + m) cap)) w') :
    if Region.wanted o (yielded ops a.tmps) = true then Oper.wp P o a w K Q else E := by
  have hw : Region.wanted o (yielded ops a.tmps) = true := by simp [Region.wanted, hgd]
  rw [if_pos hw]
  obtain ⟨g, cap, w', hr, h2, h3, h4, h5⟩ := run_append_some (P := P) w t o.type base e i z size bytes ht hi hz hsize hby hzs hsz g0 n c0 xs hown ad m c news hl hnews h1 h63 hbytes hbase H hH
  unfold Oper.wp execOp
  simp only [ho, resolve, invoke, builtin, Sem.run_bind, Sem.run_pure, Result.andThen_ok, List.map_toArray, List.map_cons, List.map_nil, hs, hx, hr]
  exact h g cap w' h2 h3 h4 h5
end

/-- A block that was made now, of no cells. -/
theorem owns_empty (w : World) (T k : Nat) : (w.alloc (.cells #[] T (0, 0))).ownsRow w.heap.size T k (.slice (some ⟨w.heap.size, 0, none⟩) 0 0) 0 [] :=
  ⟨by simp, .inr ⟨w.heap.size, 0, #[], rfl, Nat.le_refl _, heap_alloc_new w _, Nat.le_refl _, by unfold maxLen; omega, by simp, by simp⟩⟩
end Sc

/- An append in a region that is walked operation by operation, by an equation of its run; of whatever program. -/
namespace Sc
open Go Go.RowKit
theorem wp_append_run {P : Program} {w : World} {o : Oper} {a : Act} {K : Act → World → Prop} {Q : Exit → Act → World → Prop} (s x : Operand) (t : TypeId)
    (ho : o.op = .call { callee := .builtin .append, args := #[s, x], argTypes := #[t, t] }) {v u : Value} (hs : a.eval s = v) (hx : a.eval x = u) {v' : Value} {w' : World}
    (hr : (Builtin.append_ #[t, t] o.type #[v, u]).run P w = .ok v' w') (h : K (a.put o.dst v') w') : Oper.wp P o a w K Q := by
  unfold Oper.wp execOp
  simp only [ho, resolve, invoke, builtin, Sem.run_bind, Sem.run_pure, Result.andThen_ok, List.map_toArray, List.map_cons, List.map_nil, hs, hx, hr]
  exact h
end Sc
namespace Sc
open Go Go.RowKit
theorem wpList_append_run {P : Program} {w : World} {ops : Array Oper} {rest : List Oper} {o : Oper} {a : Act} {Q : Exit → Act → World → Prop} (hgd : o.guard = none) (s x : Operand) (t : TypeId)
    (ho : o.op = .call { callee := .builtin .append, args := #[s, x], argTypes := #[t, t] }) {v u : Value} (hs : a.eval s = v) (hx : a.eval x = u) {v' : Value} {w' : World}
    (hr : (Builtin.append_ #[t, t] o.type #[v, u]).run P w = .ok v' w') (h : wpList P ops Q rest (a.put o.dst v') w') : wpList P ops Q (o :: rest) a w :=
  wpList_plain hgd fun _ hK => wp_append_run s x t ho hs hx hr (hK _ _ h)
/-- One element more of a row, behind an append. -/
theorem Sep.row_push {P : Program} {W w : World} {L : List Asn} (h : Sep W L w) (i : Nat) {T k n : Nat} {v : Value} {xs : List Value} (hi : L[i]? = some (RowA T k v n xs))
    (t ty : TypeId) (ii : TypeInfo) (z : Value) (bytes : Nat) (ht : P.underlying t = some (.slice T)) (hii : P.info? T = some ii) (hz : ii.zero = some z) (hsize : ii.size = k) (hby : ii.bytes = bytes) (hzs : z.cells.size = k) (hsz : 0 < k)
    {cs : Array Value} (hcs : cs.toList.length = k) (h1 : ∀ u ∈ cs.toList, u.oneCell' = true) (h63 : n + 1 ≤ maxLen) (hbytes : (n + 1) * bytes ≤ 140737488355328) (B : Nat) (hB : w.heap.size = B) :
    ∃ g cap w', (Builtin.append_ #[t, t] ty #[v, .slice (some ⟨B, 0, none⟩) 1 1]).run P (w.alloc (.cells cs T (0, 0))) = .ok (.slice (some ⟨g, 0, none⟩) (n + 1) cap) w' ∧
      Sep W (L.set i (RowA T k (.slice (some ⟨g, 0, none⟩) (n + 1) cap) (n + 1) (xs ++ cs.toList))) w' := by
  subst hB
  obtain ⟨F, hF, hdF⟩ := h.get i hi
  have hb := below_alloc w (.cells cs T (0, 0))
  have hown : (w.alloc (.cells cs T (0, 0))).ownsRow 0 T k v n xs := row_same (fun q hq => hb.block q (hdF q hq)) hF.1 hF.2
  obtain ⟨v', w', hr, ho, hg, hn, hat⟩ := run_append_own_at (P := P) (w.alloc (.cells cs T (0, 0))) 0 t ty T ii z k bytes ht hii hz hsize hby hzs hsz v n xs hown ⟨w.heap.size, 0, none⟩ 1 1 cs.toList (by rw [hcs, Nat.one_mul]) (World.news_of_block (cs := cs) (heap_alloc_new w _)) h1 h63 hbytes (Nat.zero_le _)
  have hlt := ho.lt
  obtain ⟨hx, ⟨rfl, h0⟩ | ⟨g, cap, cur, rfl, hrest⟩⟩ := ho
  · exact absurd h0 (by omega)
  · refine ⟨g, cap, w', hr, h.row_app i hi hb ⟨hx, .inr ⟨g, cap, cur, rfl, hrest⟩⟩ hg (H := w.heap.size + 1) ?_ (by simp) (hlt g rfl).2⟩
    rcases hat with e | e
    · exact .inl e.symm
    · refine .inr ?_
      simpa [Value.ownBlock] using e
end Sc

/- append of whatever slice onto a slice of one's own; of whatever program. -/
namespace Sc
open Go Go.RowKit
section
variable {P : Program}
theorem run_append_nil0 (w : World) (t ty e : TypeId) (i : TypeInfo) (ht : P.underlying t = some (.slice e)) (hi : P.info? e = some i) (p : Option Addr) (n c : Nat) (hn : n ≤ c) :
    (Builtin.append_ #[t, t] ty #[.slice p n c, .slice none 0 0]).run P w = .ok (.slice p n c) w := by
  cases p with
  | none => simp [Builtin.append_, run_underlying ht, Go.sizeOf, typeInfo, hi, Builtin.lenOf, Builtin.firstCells, hn]
  | some a => simp [Builtin.append_, run_underlying ht, Go.sizeOf, typeInfo, hi, Builtin.lenOf, Builtin.firstCells, hn, storeCells]
theorem run_append_any0 (w : World) (t ty : TypeId) (base : Nat) (e : TypeId) (i : TypeInfo) (z : Value) (size bytes : Nat) (ht : P.underlying t = some (.slice e)) (hi : P.info? e = some i) (hz : i.zero = some z)
    (hsize : i.size = size) (hby : i.bytes = bytes) (hzs : z.cells.size = size) (hsz : 0 < size)
    (v : Value) (n : Nat) (xs : List Value) (hown : w.ownsRow base e size v n xs) (p : Option Addr) (m c : Nat) (hp : p = none → m = 0 ∧ c = 0) (news : List Value) (hl : news.length = m * size)
    (hnews : ∀ a, p = some a → ∀ j u, news[j]? = some u → w.cell? (a.add j) = some u) (h1 : ∀ u ∈ news, u.oneCell' = true) (h63 : n + m ≤ maxLen) (hbytes : (n + m) * bytes ≤ 140737488355328) (hbase : base ≤ w.heap.size) :
    ∃ v' w', (Builtin.append_ #[t, t] ty #[v, .slice p m c]).run P w = .ok v' w' ∧ w'.ownsRow base e size v' (n + m) (xs ++ news) ∧ w.grownBy w' v.ownBlock ∧ (v'.ownBlock = v.ownBlock ∨ v'.ownBlock = some w.heap.size) := by
  cases p with
  | some a =>
    obtain ⟨v', w', h1, h2, h3, _, h5⟩ := run_append_own_at (P := P) w base t ty e i z size bytes ht hi hz hsize hby hzs hsz v n xs hown a m c news hl (hnews a rfl) h1 h63 hbytes hbase
    exact ⟨v', w', h1, h2, h3, h5⟩
  | none =>
    obtain ⟨rfl, rfl⟩ := hp rfl
    have hnil : news = [] := List.length_eq_zero_iff.1 (by omega)
    subst hnil
    obtain ⟨hx, hc | ⟨g, cap, cur, rfl, hb, hg, hnc, hcm, hcs, htake⟩⟩ := id hown
    · obtain ⟨rfl, rfl⟩ := hc
      exact ⟨_, w, run_append_nil0 w t ty e i ht hi none 0 0 (Nat.le_refl _), by simpa using hown, ⟨rfl, rfl, rfl, Nat.le_refl _, fun _ _ _ => rfl⟩, .inl rfl⟩
    · exact ⟨_, w, run_append_nil0 w t ty e i ht hi _ n cap hnc, by simpa using hown, ⟨rfl, rfl, rfl, Nat.le_refl _, fun _ _ _ => rfl⟩, .inl rfl⟩
end
end Sc

/- One struct more behind an append, as an equation of its run; of whatever program. -/
namespace Sc
open Go Go.RowKit

theorem OutS.push {P : Program} {α : Type} {T k : Nat} {R : (Nat → Prop) → World → List Value → α → Prop} (hR : RStable R) {B : Nat} {w : World} {v : Value} {l : List α} {D D3 : Nat → Prop} (h : OutS T k R B w v l D)
    (t ty : TypeId) (i : TypeInfo) (z : Value) (bytes : Nat) (ht : P.underlying t = some (.slice T)) (hi : P.info? T = some i) (hz : i.zero = some z) (hsize : i.size = k) (hby : i.bytes = bytes) (hzs : z.cells.size = k) (hsz : 0 < k)
    {cs : List Value} {x : α} (hcs : cs.length = k) (hx : R D3 w cs x) (h3 : ∀ b, D3 b → B ≤ b ∧ b < w.heap.size ∧ v.ownBlock ≠ some b) (ad : Addr) (c : Nat) (hc : ∀ j u, cs[j]? = some u → w.cell? (ad.add j) = some u) (h1 : ∀ u ∈ cs, u.oneCell' = true)
    (h63 : l.length + 1 ≤ maxLen) (hbytes : (l.length + 1) * bytes ≤ 140737488355328) (hbase : B ≤ w.heap.size) :
    ∃ g cap w', (Builtin.append_ #[t, t] ty #[v, .slice (some ad) 1 c]).run P w = .ok (.slice (some ⟨g, 0, none⟩) (l.length + 1) cap) w' ∧
      OutS T k R B w' (.slice (some ⟨g, 0, none⟩) (l.length + 1) cap) (l ++ [x]) (fun b => D b ∨ D3 b) ∧ w.grownBy w' v.ownBlock ∧ (∀ b, v.ownBlock = some b → B ≤ b) ∧ l.length + 1 ≤ cap := by
  obtain ⟨css, q1, q2, q3, q4, q5⟩ := h
  obtain ⟨v', w', hr, ho, hg, hn, hat⟩ := run_append_own_at (P := P) w B t ty T i z k bytes ht hi hz hsize hby hzs hsz v l.length css.flatten q3 ad 1 c cs (by rw [hcs, Nat.one_mul]) hc h1 h63 hbytes hbase
  have hlt := q3.lt
  obtain ⟨_, ⟨rfl, h0⟩ | ⟨g, cap, cur, rfl, hrest⟩⟩ := ho
  · exact absurd h0 (by omega)
  · refine ⟨g, cap, w', hr, ?_, hg, fun b hb => (hlt b hb).1, hrest.2.2.1⟩
    refine OutS.snoc hR q1 q2 q4 q5 hcs hx h3 ⟨by assumption, .inr ⟨g, cap, cur, rfl, hrest⟩⟩ hg ?_
    rcases hat with e | e
    · exact .inl e.symm
    · refine .inr ?_
      simpa [Value.ownBlock] using e
/-- What a transaction's cells hold. -/
def txR (D : Nat → Prop) (w : World) (cs : List Value) (x : Tx) : Prop := ∃ pv, cs = [.int .i64 x.time, pv] ∧ I64 x.time ∧ PutsAt D w pv x.puts
theorem txR_stable : RStable txR := fun _D _D' _w _w' _cs _x hd hs ⟨pv, h1, h2, h3⟩ => ⟨pv, h1, h2, (h3.same hs).mono hd⟩
theorem OutS.txs {T : Nat} {B : Nat} {w : World} {v : Value} {l : List Tx} {D : Nat → Prop} {G : Nat → Prop} (h : OutS T 2 txR B w v l D) (hG : ∀ b, B ≤ b → b < w.heap.size → G b) : TxsAt G w v l := by
  have hD : ∀ b, D b → G b := by obtain ⟨_, _, _, _, _, h5⟩ := h; exact fun b hb => hG b (h5 b hb).1 (h5 b hb).2.1
  refine h.slAt hG fun b o cs x hl hc _ ⟨pv, he, hi, hd⟩ => ?_
  subst he
  exact ⟨by first | (simp; done) | (have := hc 0 (by omega); simpa using this), hi, pv, by first | (simp; done) | (have := hc 1 (by omega); simpa using this), hd.mono hD⟩
end Sc

/- The reference's Map: Apply: what its loops hold. -/
namespace Go.Proofs
open Go.RowKit Sc
theorem RMapIs.mono {F F' : Nat → Prop} {w : World} {v : Value} {blocks last : Int} {L : List RVer} (h : RMapIs F w v blocks last L) (hF : ∀ k, F k → F' k) : RMapIs F' w v blocks last L :=
  let ⟨b, lv, D, h1, h2, h3, h4, h5, h6⟩ := h
  ⟨b, lv, D, h1, hF _ h2, h3, h4, fun g hg => ⟨hF _ (h5 g hg).1, (h5 g hg).2⟩, fun q hq => ⟨hF _ (h6 q hq).1, (h6 q hq).2⟩⟩
def RMapSaid (F : Nat → Prop) (v : Value) (blocks last : Int) (L : List RVer) (t : Tx) (w : World) (e : Ending) (w' : World) : Prop :=
  e = .returned (.int .i64 (applyCode blocks last t)) ∧ Chg F w w' ∧ RMapIs (fun k => F k ∨ New w w' k) w' v blocks (applyLast blocks last t) (if applyCode blocks last t = 0 then mergeV t.time t.puts L else L)
theorem rmap_fail {F : Nat → Prop} {v : Value} {blocks last c : Int} {L : List RVer} {t : Tx} {w w' : World} (hm : RMapIs F w v blocks last L) (hd : Dom F w) (hb : Below w.heap.size w w') (hc : applyCode blocks last t = c) (h0 : c ≠ 0) : RMapSaid F v blocks last L t w (.returned (.int .i64 c)) w' := by
  refine ⟨by rw [hc], Chg.of_below hb (fun k h1 h2 => by omega), ?_⟩
  unfold applyLast
  rw [hc, if_neg h0, if_neg h0]
  exact (hm.same (fun k hk => hb.block k (hd k hk)) hb.size).mono fun k hk => .inl hk
theorem infoVerR : (Try.prog.info? 129).map (fun i => (i.zero, i.size, i.bytes)) = some (some (.agg #[.int .i64 0, .int .i64 0, .slice none 0 0]), 3, 40) := by kernel_rfl
/-- 'append(e, d...)', where e is an empty row of one's own. -/
theorem bytes_pushM {G : Nat → Prop} {W : World} {p : Option Addr} {c : Nat} {d : Bytes} (h : BytesAt G W (.slice p d.length c) d) (hl : d.length ≤ 100000) {B k : Nat} (hk : W.ownsRow B 5 1 (.slice (some ⟨k, 0, none⟩) 0 0) 0 []) (hB : B ≤ W.heap.size) :
    ∃ p' c' w', (Builtin.append_ #[26, 26] 26 #[.slice (some ⟨k, 0, none⟩) 0 0, .slice p d.length c]).run Try.prog W = .ok (.slice p' d.length c') w' ∧ Hid (w'.ownsRow B 5 1 (.slice p' d.length c') d.length (d.map fun x => .int .u8 (x.toNat : Int))) ∧ Hid (W.grownBy w' (some k)) := by
  obtain ⟨i0, hi, hz0, hz1, hz2⟩ := info_parts infoU8
  obtain ⟨p0, c0, he, a1, a2, a3, a4⟩ := h
  cases he
  obtain ⟨v', w', hr, h2, h3, h4⟩ := run_append_any0 (P := Try.prog) W 26 26 B 5 i0 (.int .u8 0) 1 1 Try.underlying26 hi hz0 hz1 hz2 rfl (by decide) _ 0 [] hk p d.length c (fun hp => by have := a3 hp; omega) (d.map fun x => .int .u8 (x.toNat : Int)) (by simp)
    (fun a ha j u hj => by
      subst ha
      simp only [List.getElem?_map, Option.map_eq_some_iff] at hj
      obtain ⟨x, hx, rfl⟩ := hj
      obtain ⟨hjl, rfl⟩ := List.getElem?_eq_some_iff.1 hx
      obtain ⟨b, o, hp, _, he⟩ := a4 j hjl
      cases hp
      unfold byteE at he
      rw [Nat.mul_one] at he
      have hadd : (⟨b, o, none⟩ : Addr).add j = ⟨b, o + j, none⟩ := by unfold Addr.add; split <;> simp_all
      rw [hadd]; exact he)
    (fun u hu => by obtain ⟨z, _, rfl⟩ := List.mem_map.1 hu; rfl) (by unfold maxLen; omega) (by omega) hB
  rw [Nat.zero_add, List.nil_append] at h2
  have hs : ∃ p' c', v' = .slice p' d.length c' := by
    obtain ⟨_, ⟨rfl, h0⟩ | ⟨g, cap, _, rfl, _⟩⟩ := h2
    · exact ⟨none, 0, by rw [h0]⟩
    · exact ⟨_, _, rfl⟩
  obtain ⟨p', c', rfl⟩ := hs
  exact ⟨p', c', w', hr, h2, h3⟩
/-- The new row that the merge makes: its data are old ones or new. -/
def NlIs (B : Nat) (w : World) (D : Nat → Prop) (v : Value) (nl : List RVer) : Prop :=
  ∃ D2, OutS 129 3 verR 0 w v nl D2 ∧ (∀ g, v.ownBlock = some g → B ≤ g) ∧ ∀ q, D2 q → D q ∨ B ≤ q
theorem NlIs.nil {B : Nat} {w : World} {D : Nat → Prop} : NlIs B w D (.slice none 0 0) [] := ⟨_, OutS.nil, fun g hg => by simp [Value.ownBlock] at hg, fun q h => h.elim⟩
theorem NlIs.up {B : Nat} {w w' : World} {D : Nat → Prop} {v : Value} {nl : List RVer} (h : NlIs B w D v nl) (hb : Below w.heap.size w w') : NlIs B w' D v nl :=
  let ⟨D2, h1, h2, h3⟩ := h
  ⟨D2, h1.up verR_stable hb, h2, h3⟩
set_option maxRecDepth 100000 in
theorem nl_push {B : Nat} {W : World} {D D3 : Nat → Prop} {v : Value} {nl : List RVer} (h : NlIs B W D v nl) (hB : B ≤ W.heap.size) {cs : List Value} {x : RVer} (hcs : cs.length = 3) (hx : verR D3 W cs x) (h3 : ∀ b, D3 b → b < W.heap.size ∧ v.ownBlock ≠ some b ∧ (D b ∨ B ≤ b))
    (ad : Addr) (c : Nat) (hc : ∀ j u, cs[j]? = some u → W.cell? (ad.add j) = some u) (h1 : ∀ u ∈ cs, u.oneCell' = true) (hn : nl.length ≤ 3000000) :
    ∃ g cap w', (Builtin.append_ #[125, 125] 125 #[v, .slice (some ad) 1 c]).run Try.prog W = .ok (.slice (some ⟨g, 0, none⟩) (nl.length + 1) cap) w' ∧
      Hid (NlIs B w' D (.slice (some ⟨g, 0, none⟩) (nl.length + 1) cap) (nl ++ [x])) ∧ Hid (Below B W w') := by
  obtain ⟨i0, hi, hz0, hz1, hz2⟩ := info_parts infoVerR
  obtain ⟨D2, ⟨css, q1, q2, q3, q4, q5⟩, hv, hD2⟩ := h
  obtain ⟨v', w', hr, ho, hg, hne, hat⟩ := run_append_own_at (P := Try.prog) W 0 125 125 129 i0 (.agg #[.int .i64 0, .int .i64 0, .slice none 0 0]) 3 40 Try.underlying125 hi hz0 hz1 hz2 rfl (by decide) v nl.length css.flatten q3 ad 1 c cs (by rw [hcs]) hc h1 (by unfold maxLen; omega) (by omega) (Nat.zero_le _)
  have hlt := q3.lt
  obtain ⟨_, ⟨rfl, h0⟩ | ⟨g, cap, cur, rfl, hrest⟩⟩ := ho
  · exact absurd h0 (by omega)
  · have hat' : v.ownBlock = some g ∨ g = W.heap.size := by
      rcases hat with e | e
      · exact .inl e.symm
      · exact .inr (by simpa [Value.ownBlock] using e)
    refine ⟨g, cap, w', hr, ⟨_, OutS.snoc verR_stable q1 q2 q4 q5 hcs hx (fun b hb => ⟨Nat.zero_le _, (h3 b hb).1, (h3 b hb).2.1⟩) ⟨by assumption, .inr ⟨g, cap, cur, rfl, hrest⟩⟩ hg hat', fun g' hg' => ?_, fun q hq => hq.elim (hD2 q) fun h => (h3 q h).2.2⟩, (Below.refl B W).grown hg hB hv⟩
    have e' : g = g' := by simpa [Value.ownBlock] using hg'
    subst e'
    rcases hat' with e | e
    · exact hv _ e
    · omega
theorem below_setM {B b i : Nat} (w : World) (v : Value) (hb : B ≤ b) : Below B w (w.setCell ⟨b, i, none⟩ v) :=
  ⟨by simp [World.setCell], by simp [World.setCell], by simp [World.setCell], by simp [World.setCell], fun k hk => Below.heap_setCell _ _ _ k (show k ≠ b by omega)⟩
/-- The new row is laid into the Map. -/
theorem rmap_done {F D : Nat → Prop} {b : Nat} {blocks last : Int} {lv nv : Value} {L M : List RVer} {t : Tx} {w W0 wr : World} (hF : F b) (hd : Dom F w) (hh : w.heap[b]? = some (.cells #[.int .i64 blocks, lv, .int .i64 last] 127 (0, 0))) (hD : ∀ q, D q → F q ∧ q ≠ b)
    (hW0 : Below w.heap.size w W0) (hb : Below W0.heap.size W0 wr) (hn : NlIs W0.heap.size wr D nv M) (hc : applyCode blocks last t = 0) (hM : M = mergeV t.time t.puts L) :
    RMapSaid F (.pointer (some ⟨b, 0, none⟩)) blocks last L t w (.returned (.int .i64 0)) ((wr.setCell ⟨b, 1, none⟩ nv).setCell ⟨b, 2, none⟩ (.int .i64 t.time)) := by
  have hbl := hd b hF
  have hwr := Below.up hW0 hb
  have hz1 := hwr.size
  have hz0 := hW0.size
  have hz2 := hb.size
  have hz : ((wr.setCell ⟨b, 1, none⟩ nv).setCell ⟨b, 2, none⟩ (.int .i64 t.time)).heap.size = wr.heap.size := by simp [World.setCell]
  have hhr : wr.heap[b]? = _ := (hwr.block b hbl).trans hh
  have hs : Same (fun q => q ≠ b) wr ((wr.setCell ⟨b, 1, none⟩ nv).setCell ⟨b, 2, none⟩ (.int .i64 t.time)) := fun q hq => (Below.heap_setCell _ _ _ q hq).trans (Below.heap_setCell _ _ _ q hq)
  refine ⟨by rw [hc], ((Chg.of_below hwr fun k h1 h2 => by omega).trans (chg_set wr b 1 _ hF)).trans (chg_set _ b 2 _ hF), ?_⟩
  unfold applyLast
  rw [hc, if_pos rfl, if_pos rfl, ← hM]
  obtain ⟨D2, h1, h2, h3⟩ := hn
  have hlt := h1.own.choose_spec.lt
  obtain ⟨_, _, _, _, _, h5⟩ := id h1
  refine ⟨b, nv, D2, rfl, .inl hF, ?_, h1.same verR_stable hs (by rw [hz]; exact Nat.le_refl _) (fun g hg => by have := h2 g hg; omega) (fun q hq e => ?_), fun g hg => ⟨.inr ⟨by have := h2 g hg; omega, by rw [hz]; exact (hlt g hg).2⟩, by have := h2 g hg; omega⟩, fun q hq => ?_⟩
  · rw [heap_set_same (heap_set_same hhr _)]; rfl
  · rcases h3 q hq with h | h
    · exact (hD q h).2 e
    · omega
  · rcases h3 q hq with h | h
    · exact ⟨.inl (hD q h).1, (hD q h).2⟩
    · exact ⟨.inr ⟨by omega, by rw [hz]; exact (h5 q hq).2.1⟩, by omega⟩
end Go.Proofs

/- The laying of slices.SortFunc over extents at this translation: by program. -/
/-
  DERIVED: THE SHELF's CONTRACTS AT THIS DUMP, IN PLAIN WORDS (tools/lay-plain.mjs out of 'TmpShelf.lean', which tools/lay-shelf.mjs wrote): THE SAME DECLARATIONS UNDER THE SAME NAMES: 'import', 'namespace', 'open', 'def', 'theorem' AND NOTHING ELSE: no command of the shelf's: FOR A HAND-IN. Each laying: the table of numbers ('.._ren') and one theorem, a field a fact of the dump's own or the kernel's comparison; each contract: ONE APPLICATION.
-/
namespace Go.Proofs
open Go.Shelf
def Try.sortExt_ren : Go.Shelf.Ren := ⟨fun | 6 => 82 | 15 => 89 | 14 => 88 | 28 => 101 | 29 => 102 | 20 => 93 | 21 => 94 | 22 => 95 | 23 => 96 | 24 => 97 | 25 => 98 | 26 => 99 | 27 => 100 | 46 => 103 | 47 => 104 | 48 => 105 | 49 => 106 | 50 => 107 | 57 => 108 | n => n, fun | 22 => 70 | 24 => 39 | 25 => 145 | 3 => 3 | 39 => 151 | 0 => 0 | 53 => 162 | 55 => 164 | 4 => 4 | 46 => 155 | 45 => 154 | 50 => 159 | 5 => 5 | 9 => 9 | 66 => 165 | 70 => 169 | 76 => 171 | 77 => 172 | n => n, fun | n => n⟩
theorem Try.sortExt : Go.Proofs.SlLaysF0.n6 Try.prog Try.sortExt_ren := {
  mixed := by kernel_rfl
  f6 := ⟨Try.f82.name, by decide, Try.func82.trans (congrArg some (by kernel_rfl))⟩
  f14 := ⟨Try.f88.name, by decide, Try.func88.trans (congrArg some (by kernel_rfl))⟩
  f15 := Try.func89.trans (congrArg some (by kernel_rfl))
  f20 := ⟨Try.f93.name, by decide, Try.func93.trans (congrArg some (by kernel_rfl))⟩
  f21 := ⟨Try.f94.name, by decide, Try.func94.trans (congrArg some (by kernel_rfl))⟩
  f22 := ⟨Try.f95.name, by decide, Try.func95.trans (congrArg some (by kernel_rfl))⟩
  f23 := ⟨Try.f96.name, by decide, Try.func96.trans (congrArg some (by kernel_rfl))⟩
  f24 := ⟨Try.f97.name, by decide, Try.func97.trans (congrArg some (by kernel_rfl))⟩
  f25 := ⟨Try.f98.name, by decide, Try.func98.trans (congrArg some (by kernel_rfl))⟩
  f26 := ⟨Try.f99.name, by decide, Try.func99.trans (congrArg some (by kernel_rfl))⟩
  f27 := ⟨Try.f100.name, by decide, Try.func100.trans (congrArg some (by kernel_rfl))⟩
  f28 := Try.func101.trans (congrArg some (by kernel_rfl))
  f29 := Try.func102.trans (congrArg some (by kernel_rfl))
  f46 := ⟨Try.f103.name, by decide, Try.func103.trans (congrArg some (by kernel_rfl))⟩
  f47 := Try.func104.trans (congrArg some (by kernel_rfl))
  f48 := Try.func105.trans (congrArg some (by kernel_rfl))
  f49 := ⟨Try.f106.name, by decide, Try.func106.trans (congrArg some (by kernel_rfl))⟩
  f50 := ⟨Try.f107.name, by decide, Try.func107.trans (congrArg some (by kernel_rfl))⟩
  f57 := ⟨Try.f108.name, by decide, Try.func108.trans (congrArg some (by kernel_rfl))⟩
  t0 := Try.underlying0
  a0 := Try.isAgg0
  z0 := Try.sizeOf0
  v0 := Try.zeroValue0
  t3 := Try.underlying3
  a3 := Try.isAgg3
  z3 := Try.sizeOf3
  v3 := Try.zeroValue3
  t4 := Try.underlying4
  a4 := Try.isAgg4
  z4 := Try.sizeOf4
  v4 := Try.zeroValue4
  t5 := Try.underlying5
  a5 := Try.isAgg5
  z5 := Try.sizeOf5
  v5 := Try.zeroValue5
  t9 := Try.underlying9
  a9 := Try.isAgg9
  z9 := Try.sizeOf9
  v9 := Try.zeroValue9
  t22 := Try.underlying70
  a22 := Try.isAgg70
  z22 := Try.sizeOf70
  v22 := Try.zeroValue70
  t25 := Try.underlying145
  a25 := Try.isAgg145
  z25 := Try.sizeOf145
  v25 := Try.zeroValue145
  t39 := Try.underlying151
  a39 := Try.isAgg151
  z39 := Try.sizeOf151
  v39 := Try.zeroValue151
  t45 := Try.underlying154
  a45 := Try.isAgg154
  z45 := Try.sizeOf154
  v45 := Try.zeroValue154
  t46 := Try.underlying155
  a46 := Try.isAgg155
  z46 := Try.sizeOf155
  v46 := Try.zeroValue155
  t50 := Try.underlying159
  a50 := Try.isAgg159
  z50 := Try.sizeOf159
  v50 := Try.zeroValue159
  t53 := Try.underlying162
  a53 := Try.isAgg162
  z53 := Try.sizeOf162
  v53 := Try.zeroValue162
  t55 := Try.underlying164
  a55 := Try.isAgg164
  z55 := Try.sizeOf164
  v55 := Try.zeroValue164
  t66 := Try.underlying165
  a66 := Try.isAgg165
  z66 := Try.sizeOf165
  v66 := Try.zeroValue165
  t70 := Try.underlying169
  a70 := Try.isAgg169
  z70 := Try.sizeOf169
  v70 := Try.zeroValue169
  t76 := Try.underlying171
  a76 := Try.isAgg171
  z76 := Try.sizeOf171
  v76 := Try.zeroValue171
  t77 := Try.underlying172
  a77 := Try.isAgg172
  z77 := Try.sizeOf172
  v77 := Try.zeroValue172 }
def Try.cmpInt_ren : Go.Shelf.Ren := ⟨fun | 5 => 84 | 7 => 90 | n => n, fun | 22 => 3 | 3 => 3 | 4 => 4 | n => n, fun | n => n⟩
theorem Try.cmpInt : Go.Proofs.SlLaysC2.n5 Try.prog Try.cmpInt_ren := {
  mixed := by kernel_rfl
  f5 := ⟨Try.f84.name, by decide, Try.func84.trans (congrArg some (by kernel_rfl))⟩
  f7 := ⟨Try.f90.name, by decide, Try.func90.trans (congrArg some (by kernel_rfl))⟩
  t3 := Try.underlying3
  a3 := Try.isAgg3
  z3 := Try.sizeOf3
  v3 := Try.zeroValue3
  t4 := Try.underlying4
  a4 := Try.isAgg4
  z4 := Try.sizeOf4
  v4 := Try.zeroValue4
  t22 := Try.underlying3
  a22 := Try.isAgg3
  z22 := Try.sizeOf3
  v22 := Try.zeroValue3 }
end Go.Proofs

/- slices.IndexFunc, slices.ContainsFunc over extents. -/
namespace Go.Proofs
open Go.RowKit Sc

abbrev extV (x : Ext) : Value := .agg #[.int .i64 x.first, .int .i64 x.len]
set_option maxHeartbeats 1000000 in
theorem idxExt_any (G : Nat → Prop) (v : Value) (l : List Ext) (p : Ext → Bool) (g : Nat) (cb : Array Value) (eg : ∀ args w, (callFunc g args).run Try.prog w = .ok (.enter g args) w) (w : World)
    (hv : ExtsAt G w v l)
    (hf : ∀ i (h : i < l.length) W, Below w.heap.size w W → Calls Try.prog g (#[extV l[i]] ++ cb) W fun e w' => e = .returned (.bool (p l[i])) ∧ Below W.heap.size W w') :
    Calls Try.prog 87 #[v, .func (.func g) #[] cb] w fun e w' => e = .returned (.int .i64 (idxOf p l)) ∧ Below w.heap.size w w' := by
  obtain ⟨ptr, c, rfl, h1, h2, h3, h4⟩ := hv
  have H4 := Lib.hid h4
  have HF := Lib.hid hf
  clear h4 hf h3
  go_enter Try.func87, Try.ntmps87
  go_wp2
  go_loopg [5, 8] l.length (fun gg _ s8 wr => ∃ k : Nat, k ≤ l.length ∧ l.length - k ≤ gg ∧ s8 = .int .i64 k ∧ Hid (Below w.heap.size w wr) ∧ Hid (∀ j (h : j < k) (h' : j < l.length), p l[j] = false))
  case atStart => exact ⟨0, Nat.zero_le _, by omega, rfl, Below.refl _ w, fun j hj => absurd hj (Nat.not_lt_zero _)⟩
  case round =>
    obtain ⟨k, hk, hg, rfl, BW, A⟩ := hrel
    by_cases hlt : k < l.length
    · obtain ⟨b, o, rfl, hb, hc1, hc2, hi, hi2⟩ := H4.out k hlt
      have hbl := World.block_lt_of_cell? w _ hc1
      have hc1' := (BW.out.cell (p := ⟨b, o + k * 2, none⟩) hbl).trans hc1
      have hc2' := (BW.out.cell (p := ⟨b, o + k * 2 + 1, none⟩) hbl).trans hc2
      have hcall := HF.out k hlt wr BW.out
      generalize hy : l[k] = y at hc1' hc2' hcall
      have B := Lib.hid hy
      clear hy hc1 hc2 hi hi2 hb
      cases hq : p y with
      | true =>
        rw [hq] at hcall
        have HQ := Lib.hid hq
        have HC := Lib.hid hcall
        clear hq hcall
        go_wp2_with (go_at_fn g; refine (HC.out).mono ?_; rintro e w' ⟨rfl, hb'⟩)
        go_ret
        refine ⟨?_, BW.out.trans (hb'.mono BW.out.size)⟩
        rw [idxOf_hit hlt (by rw [B.out]; exact HQ.out) (fun j hj => A.out j hj (by omega))]
        rfl
      | false =>
        rw [hq] at hcall
        have HQ := Lib.hid hq
        have HC := Lib.hid hcall
        clear hq hcall
        go_wp2_with (go_at_fn g; refine (HC.out).mono ?_; rintro e w' ⟨rfl, hb'⟩)
        go_roundg (l.length - (k + 1))
        case measure => omega
        case rel =>
          refine ⟨k + 1, by omega, by omega, by go_num, BW.out.trans (hb'.mono BW.out.size), fun j hj hj' => ?_⟩
          by_cases e : j = k
          · subst e; rw [B.out]; exact HQ.out
          · exact A.out j (by omega) hj'
    · have hkl : k = l.length := by omega
      have HK := Lib.hid hkl
      clear hkl
      go_wp2
      go_ret
      refine ⟨?_, BW.out⟩
      rw [idxOf_miss (fun j hj => A.out j (by have := HK.out; omega) hj)]
      rfl

set_option maxHeartbeats 400000 in
theorem anyExt_any (G : Nat → Prop) (v : Value) (l : List Ext) (p : Ext → Bool) (g : Nat) (cb : Array Value) (eg : ∀ args w, (callFunc g args).run Try.prog w = .ok (.enter g args) w) (w : World)
    (hv : ExtsAt G w v l)
    (hf : ∀ i (h : i < l.length) W, Below w.heap.size w W → Calls Try.prog g (#[extV l[i]] ++ cb) W fun e w' => e = .returned (.bool (p l[i])) ∧ Below W.heap.size W w') :
    Calls Try.prog 79 #[v, .func (.func g) #[] cb] w fun e w' => e = .returned (.bool (l.any p)) ∧ Below w.heap.size w w' := by
  rw [← idxOf_nonneg]
  go_enter Try.func79, Try.ntmps79
  go_wp2_with (go_at_call 87; refine (idxExt_any G v l p g cb eg _ hv hf).mono ?_; rintro e w' ⟨rfl, hb'⟩)
  go_ret
  exact ⟨rfl, hb'⟩
end Go.Proofs

/- Sets of extents, plain: extents that rise and do not touch are told by the blocks that they hold; joining. Of no program. -/
namespace Sc

def Ext.fin (e : Ext) : Int := e.first + e.len
/-- A block lies in one of some extents. -/
def cov (l : List Ext) (x : Int) : Prop := ∃ e ∈ l, e.first ≤ x ∧ x < e.first + e.len
/-- They rise, and do not touch. -/
def Canon (l : List Ext) : Prop := (∀ e ∈ l, 1 ≤ e.len) ∧ l.Pairwise (fun a b => a.first + a.len < b.first)

theorem ext_eta {a b : Ext} (h1 : a.first = b.first) (h2 : a.len = b.len) : a = b := by cases a; cases b; simp_all
theorem cov_nil (x : Int) : ¬ cov [] x := fun ⟨_, h, _⟩ => by cases h
theorem cov_cons {e : Ext} {l : List Ext} {x : Int} : cov (e :: l) x ↔ (e.first ≤ x ∧ x < e.first + e.len) ∨ cov l x := by
  constructor
  · rintro ⟨y, hy, h⟩
    rcases List.mem_cons.1 hy with rfl | hy
    · exact .inl h
    · exact .inr ⟨y, hy, h⟩
  · rintro (h | ⟨y, hy, h⟩)
    · exact ⟨e, by simp, h⟩
    · exact ⟨y, by simp [hy], h⟩
theorem cov_append {a b : List Ext} {x : Int} : cov (a ++ b) x ↔ cov a x ∨ cov b x := by
  constructor
  · rintro ⟨y, hy, h⟩
    rcases List.mem_append.1 hy with hy | hy
    · exact .inl ⟨y, hy, h⟩
    · exact .inr ⟨y, hy, h⟩
  · rintro (⟨y, hy, h⟩ | ⟨y, hy, h⟩)
    · exact ⟨y, by simp [hy], h⟩
    · exact ⟨y, by simp [hy], h⟩
theorem cov_perm {a b : List Ext} (h : a.Perm b) {x : Int} : cov a x ↔ cov b x :=
  ⟨fun ⟨e, he, hx⟩ => ⟨e, h.mem_iff.1 he, hx⟩, fun ⟨e, he, hx⟩ => ⟨e, h.mem_iff.2 he, hx⟩⟩
theorem cov_mem {l : List Ext} {e : Ext} (he : e ∈ l) {x : Int} (h : e.first ≤ x ∧ x < e.first + e.len) : cov l x := ⟨e, he, h⟩
theorem Canon.nil : Canon [] := ⟨by simp, List.Pairwise.nil⟩
theorem Canon.cons {e : Ext} {l : List Ext} (h : Canon (e :: l)) : 1 ≤ e.len ∧ (∀ y ∈ l, e.first + e.len < y.first) ∧ Canon l :=
  ⟨h.1 e (by simp), (List.pairwise_cons.1 h.2).1, fun y hy => h.1 y (by simp [hy]), (List.pairwise_cons.1 h.2).2⟩
theorem Canon.mk1 {e : Ext} (h : 1 ≤ e.len) : Canon [e] := ⟨by simpa using h, by simp⟩

theorem canon_ext : ∀ {l m : List Ext}, Canon l → Canon m → (∀ x, cov l x ↔ cov m x) → l = m
  | [], [], _, _, _ => rfl
  | [], b :: m, _, hm, h => absurd ((h b.first).2 (cov_cons.2 (.inl ⟨Int.le_refl _, by have := hm.cons.1; omega⟩))) (cov_nil _)
  | a :: l, [], hl, _, h => absurd ((h a.first).1 (cov_cons.2 (.inl ⟨Int.le_refl _, by have := hl.cons.1; omega⟩))) (cov_nil _)
  | a :: l, b :: m, hl, hm, h => by
    obtain ⟨a1, a2, a3⟩ := hl.cons
    obtain ⟨b1, b2, b3⟩ := hm.cons
    have la : ∀ x, cov l x → a.first + a.len < x := fun x ⟨y, hy, hx⟩ => by have := a2 y hy; omega
    have lb : ∀ x, cov m x → b.first + b.len < x := fun x ⟨y, hy, hx⟩ => by have := b2 y hy; omega
    have e1 : a.first = b.first := by
      have h1 := (h a.first).1 (cov_cons.2 (.inl ⟨Int.le_refl _, by omega⟩))
      have h2 := (h b.first).2 (cov_cons.2 (.inl ⟨Int.le_refl _, by omega⟩))
      rcases cov_cons.1 h1 with h1 | h1 <;> rcases cov_cons.1 h2 with h2 | h2
      · omega
      · have := la _ h2; omega
      · have := lb _ h1; omega
      · have := la _ h2; have := lb _ h1; omega
    have e2 : a.len = b.len := by
      rcases Int.lt_trichotomy a.len b.len with h1 | h1 | h1
      · have h2 := (h (a.first + a.len)).2 (cov_cons.2 (.inl ⟨by omega, by omega⟩))
        rcases cov_cons.1 h2 with h2 | h2
        · omega
        · have := la _ h2; omega
      · exact h1
      · have h2 := (h (b.first + b.len)).1 (cov_cons.2 (.inl ⟨by omega, by omega⟩))
        rcases cov_cons.1 h2 with h2 | h2
        · omega
        · have := lb _ h2; omega
    have e3 : l = m := by
      refine canon_ext a3 b3 fun x => ⟨fun hx => ?_, fun hx => ?_⟩
      · have := la x hx
        rcases cov_cons.1 ((h x).1 (cov_cons.2 (.inr hx))) with h2 | h2
        · omega
        · exact h2
      · have := lb x hx
        rcases cov_cons.1 ((h x).2 (cov_cons.2 (.inr hx))) with h2 | h2
        · omega
        · exact h2
    rw [ext_eta e1 e2, e3]

/-- May an extent be? -/
def mayB (e : Ext) : Bool := decide (0 ≤ e.first) && decide (e.first ≤ 1048576) && decide (1 ≤ e.len) && decide (e.len ≤ 1048576) && decide (e.first + e.len ≤ 1048577)
theorem mayB_iff {e : Ext} : mayB e = true ↔ 0 ≤ e.first ∧ e.first ≤ 1048576 ∧ 1 ≤ e.len ∧ e.len ≤ 1048576 ∧ e.first + e.len ≤ 1048577 := by
  unfold mayB
  simp only [Bool.and_eq_true, decide_eq_true_eq]
  omega
theorem mayB_no {e : Ext} : mayB e = false ↔ ¬ (0 ≤ e.first ∧ e.first ≤ 1048576 ∧ 1 ≤ e.len ∧ e.len ≤ 1048576 ∧ e.first + e.len ≤ 1048577) := by
  rw [← mayB_iff]; simp
/-- Have two a block in common? -/
def meetB (a b : Ext) : Bool := decide (a.first < b.first + b.len) && decide (b.first < a.first + a.len)
def Sml (e : Ext) : Prop := -1099511627776 ≤ e.first ∧ e.first ≤ 1099511627776 ∧ -1099511627776 ≤ e.len ∧ e.len ≤ 1099511627776
theorem mayB_sml {e : Ext} (h : mayB e = true) : Sml e := by have := mayB_iff.1 h; unfold Sml; omega
/-- Of what is joined: it lies where extents may lie (its length may be one more than an extent's). -/
def Oke (e : Ext) : Prop := 0 ≤ e.first ∧ e.first ≤ 1048576 ∧ 1 ≤ e.len ∧ e.first + e.len ≤ 1048577
theorem mayB_oke {e : Ext} (h : mayB e = true) : Oke e := by have := mayB_iff.1 h; unfold Oke; omega
theorem Oke.sml {e : Ext} (h : Oke e) : Sml e := by unfold Oke at h; unfold Sml; omega
/-- One extent more, which begins at or behind all that begin. -/
def joinStep (out : List Ext) (e : Ext) : List Ext :=
  match out.getLast? with
  | some o => if e.first ≤ o.first + o.len then out.dropLast ++ [⟨o.first, max o.len (e.first + e.len - o.first)⟩] else out ++ [e]
  | none => [e]
def joinL (l : List Ext) : List Ext := l.foldl joinStep []
theorem joinL_snoc (l : List Ext) (e : Ext) : joinL (l ++ [e]) = joinStep (joinL l) e := by simp [joinL]
theorem joinStep_nil (e : Ext) : joinStep [] e = [e] := rfl
theorem joinStep_snoc (out : List Ext) (o e : Ext) : joinStep (out ++ [o]) e = if e.first ≤ o.first + o.len then out ++ [⟨o.first, max o.len (e.first + e.len - o.first)⟩] else out ++ [o] ++ [e] := by
  unfold joinStep
  rw [List.getLast?_concat, List.dropLast_concat]
theorem snoc_of {α : Type} {l : List α} (h : l ≠ []) : ∃ a b, l = a ++ [b] := ⟨l.dropLast, l.getLast h, (List.dropLast_concat_getLast h).symm⟩
theorem canon_snoc {out : List Ext} {o : Ext} : Canon (out ++ [o]) ↔ Canon out ∧ 1 ≤ o.len ∧ ∀ y ∈ out, y.first + y.len < o.first := by
  unfold Canon
  rw [List.pairwise_append]
  constructor
  · rintro ⟨h1, h2, _, h3⟩
    exact ⟨⟨fun e he => h1 e (by simp [he]), h2⟩, h1 o (by simp), fun y hy => h3 y hy o (by simp)⟩
  · rintro ⟨⟨h1, h2⟩, h3, h4⟩
    refine ⟨fun e he => ?_, h2, by simp, fun y hy z hz => ?_⟩
    · rcases List.mem_append.1 he with he | he
      · exact h1 e he
      · rw [List.mem_singleton] at he; rw [he]; exact h3
    · rw [List.mem_singleton] at hz; rw [hz]; exact h4 y hy
theorem joinStep_good {out : List Ext} {e : Ext} (hc : Canon out) (he : 1 ≤ e.len) (hf : ∀ o ∈ out, o.first ≤ e.first) :
    Canon (joinStep out e) ∧ (∀ x, cov (joinStep out e) x ↔ cov out x ∨ (e.first ≤ x ∧ x < e.first + e.len)) ∧ (∀ o ∈ joinStep out e, o.first ≤ e.first) ∧ (joinStep out e).length ≤ out.length + 1 ∧ 0 < (joinStep out e).length := by
  by_cases hn : out = []
  · subst hn
    rw [joinStep_nil]
    refine ⟨Canon.mk1 he, fun x => ?_, by simp, by simp, by simp⟩
    rw [cov_cons]
    have := cov_nil x
    constructor <;> (rintro (h | h) <;> simp_all)
  · obtain ⟨a, o, rfl⟩ := snoc_of hn
    rw [joinStep_snoc]
    obtain ⟨c1, c2, c3⟩ := canon_snoc.1 hc
    have ho := hf o (by simp)
    split
    · rename_i hle
      refine ⟨canon_snoc.2 ⟨c1, by simp only; omega, fun y hy => c3 y hy⟩, fun x => ?_, fun y hy => ?_, by simp, by simp⟩
      · rw [cov_append, cov_append, cov_cons, cov_cons]
        have := cov_nil x
        simp only
        constructor
        · rintro (h | h | h)
          · exact .inl (.inl h)
          · by_cases hx : x < o.first + o.len
            · exact .inl (.inr (.inl ⟨h.1, hx⟩))
            · exact .inr ⟨by omega, by omega⟩
          · exact absurd h this
        · rintro ((h | h | h) | h)
          · exact .inl h
          · exact .inr (.inl ⟨h.1, by omega⟩)
          · exact absurd h this
          · exact .inr (.inl ⟨by omega, by omega⟩)
      · rcases List.mem_append.1 hy with hy | hy
        · exact hf y (by simp [hy])
        · rw [List.mem_singleton] at hy; rw [hy]; exact ho
    · rename_i hgt
      refine ⟨canon_snoc.2 ⟨hc, he, fun y hy => ?_⟩, fun x => ?_, fun y hy => ?_, by simp, by simp⟩
      · rcases List.mem_append.1 hy with hy | hy
        · have := c3 y hy; omega
        · rw [List.mem_singleton] at hy; rw [hy]; omega
      · rw [cov_append, cov_cons]
        have := cov_nil x
        constructor
        · rintro (h | h | h)
          · exact .inl h
          · exact .inr h
          · exact absurd h this
        · rintro (h | h)
          · exact .inl h
          · exact .inr (.inl h)
      · rcases List.mem_append.1 hy with hy | hy
        · exact hf y hy
        · rw [List.mem_singleton] at hy; rw [hy]; exact Int.le_refl _
theorem joinStep_oke {out : List Ext} {e : Ext} (h : ∀ o ∈ out, Oke o) (he : Oke e) : ∀ o ∈ joinStep out e, Oke o := by
  by_cases hn : out = []
  · subst hn; rw [joinStep_nil]; simpa using he
  · obtain ⟨a, o, rfl⟩ := snoc_of hn
    rw [joinStep_snoc]
    have ho := h o (by simp)
    split
    · intro y hy
      rcases List.mem_append.1 hy with hy | hy
      · exact h y (by simp [hy])
      · rw [List.mem_singleton] at hy; subst hy
        unfold Oke at *; simp only; omega
    · intro y hy
      rcases List.mem_append.1 hy with hy | hy
      · exact h y hy
      · rw [List.mem_singleton] at hy; subst hy; exact he
theorem joinL_oke (l : List Ext) (h : ∀ e ∈ l, Oke e) : ∀ o ∈ joinL l, Oke o := by
  induction hl : l.length generalizing l with
  | zero => obtain rfl := List.length_eq_zero_iff.1 hl; simp [joinL]
  | succ n ih =>
    obtain ⟨a, e, rfl⟩ := snoc_of (l := l) (by intro e; rw [e] at hl; simp at hl)
    rw [List.length_append, List.length_singleton] at hl
    rw [joinL_snoc]
    exact joinStep_oke (ih a (fun e he => h e (by simp [he])) (by omega)) (h e (by simp))
theorem joinL_len (l : List Ext) : (joinL l).length ≤ l.length := by
  induction hl : l.length generalizing l with
  | zero => obtain rfl := List.length_eq_zero_iff.1 hl; simp [joinL]
  | succ n ih =>
    obtain ⟨a, e, rfl⟩ := snoc_of (l := l) (by intro e; rw [e] at hl; simp at hl)
    rw [List.length_append, List.length_singleton] at hl
    have := ih a (by omega)
    rw [joinL_snoc]
    by_cases hn : joinL a = []
    · rw [hn, joinStep_nil]; simp
    · obtain ⟨b, o, hb⟩ := snoc_of hn
      rw [hb] at this ⊢
      rw [List.length_append, List.length_singleton] at this
      rw [joinStep_snoc]
      split <;> simp <;> omega
/-- What joining gives, where the firsts rise. -/
theorem joinL_good : ∀ (l : List Ext), (∀ e ∈ l, 1 ≤ e.len) → l.Pairwise (fun a b => a.first ≤ b.first) →
    Canon (joinL l) ∧ (∀ x, cov (joinL l) x ↔ cov l x) ∧ (∀ o ∈ joinL l, ∀ m, (∀ e ∈ l, e.first ≤ m) → o.first ≤ m) ∧ (joinL l).length ≤ l.length ∧ (l ≠ [] → joinL l ≠ []) := by
  intro l
  induction h : l.length generalizing l with
  | zero =>
    obtain rfl := List.length_eq_zero_iff.1 h
    intro _ _
    exact ⟨Canon.nil, fun _ => Iff.rfl, by simp [joinL], by simp [joinL], fun h => absurd rfl h⟩
  | succ n ih =>
    intro h1 h2
    obtain ⟨a, e, rfl⟩ := snoc_of (l := l) (by intro e; rw [e] at h; simp at h)
    rw [List.length_append, List.length_singleton] at h
    rw [List.pairwise_append] at h2
    obtain ⟨g1, g2, g3, g4, _⟩ := ih a (by omega) (fun e he => h1 e (by simp [he])) h2.1
    rw [joinL_snoc]
    have hle : ∀ o ∈ joinL a, o.first ≤ e.first := fun o ho => g3 o ho e.first fun y hy => h2.2.2 y hy e (by simp)
    obtain ⟨k1, k2, k3, k4, k5⟩ := joinStep_good g1 (h1 e (by simp)) hle
    refine ⟨k1, fun x => ?_, fun o ho m hm => ?_, by omega, fun _ hq => ?_⟩
    · rw [k2 x, g2 x, cov_append, cov_cons]
      have := cov_nil x
      constructor
      · rintro (h | h)
        · exact .inl h
        · exact .inr (.inl h)
      · rintro (h | h | h)
        · exact .inl h
        · exact .inr h
        · exact absurd h this
    · exact Int.le_trans (k3 o ho) (hm e (by simp))
    · rw [hq] at k5; simp at k5
/-- The extents that rise and do not touch, of any. -/
def normE (l : List Ext) : List Ext := joinL (l.mergeSort fun a b => decide (a.first ≤ b.first))
theorem sortE_props (l : List Ext) : (l.mergeSort fun a b => decide (a.first ≤ b.first)).Perm l ∧ (l.mergeSort fun a b => decide (a.first ≤ b.first)).Pairwise (fun a b => a.first ≤ b.first) := by
  refine ⟨List.mergeSort_perm _ _, ?_⟩
  have := List.pairwise_mergeSort (le := fun a b : Ext => decide (a.first ≤ b.first)) (fun a b c h1 h2 => by simp at *; omega) (fun a b => by simp; omega) l
  exact this.imp fun h => by simpa using h
theorem normE_good {l : List Ext} (h : ∀ e ∈ l, 1 ≤ e.len) : Canon (normE l) ∧ (∀ x, cov (normE l) x ↔ cov l x) ∧ (normE l).length ≤ l.length ∧ (l ≠ [] → normE l ≠ []) := by
  obtain ⟨h1, h2⟩ := sortE_props l
  obtain ⟨g1, g2, _, g4, g5⟩ := joinL_good _ (fun e he => h e (h1.mem_iff.1 he)) h2
  refine ⟨g1, fun x => (g2 x).trans (cov_perm h1), by rw [← h1.length_eq]; exact g4, fun hn => g5 fun e => hn ?_⟩
  have := h1.length_eq
  rw [e] at this
  exact List.length_eq_zero_iff.1 this.symm
theorem normE_oke {l : List Ext} (h : ∀ e ∈ l, Oke e) : ∀ e ∈ normE l, Oke e := joinL_oke _ fun e he => h e ((sortE_props l).1.mem_iff.1 he)
theorem normE_eq {l l' : List Ext} (h : ∀ e ∈ l, 1 ≤ e.len) (hp : l'.Perm l) (hs : l'.Pairwise (fun a b => a.first ≤ b.first)) : joinL l' = normE l := by
  obtain ⟨g1, g2, _⟩ := joinL_good l' (fun e he => h e (hp.mem_iff.1 he)) hs
  obtain ⟨k1, k2, _⟩ := normE_good h
  exact canon_ext g1 k1 fun x => by rw [g2, k2, cov_perm hp]
theorem normE_ext {l m : List Ext} (h : ∀ e ∈ l, 1 ≤ e.len) (hc : Canon m) (hx : ∀ x, cov m x ↔ cov l x) : normE l = m := by
  obtain ⟨k1, k2, _⟩ := normE_good h
  exact canon_ext k1 hc fun x => by rw [k2, hx]
end Sc

/- Package ival: may, all, meet. -/
namespace Go.Proofs
open Go.RowKit Sc

set_option maxHeartbeats 400000 in
theorem may_any (x : Ext) (w : World) (h1 : I64 x.first) (h2 : I64 x.len) : Calls Try.prog 81 #[extV x] w fun e w' => e = .returned (.bool (mayB x)) ∧ Below w.heap.size w w' := by
  unfold I64 at h1 h2
  cases hq : mayB x with
  | true =>
    obtain ⟨a1, a2, a3, a4, a5⟩ := mayB_iff.1 hq
    have HQ := Lib.hid hq
    clear hq
    go_enter Try.func81, Try.ntmps81
    go_wp2
    go_ret
    exact ⟨rfl, below_alloc _ _⟩
  | false =>
    have h := mayB_no.1 hq
    rcases (show x.first < 0 ∨ (0 ≤ x.first ∧ 1048576 < x.first) ∨ (0 ≤ x.first ∧ x.first ≤ 1048576 ∧ x.len < 1) ∨ (0 ≤ x.first ∧ x.first ≤ 1048576 ∧ 1 ≤ x.len ∧ 1048576 < x.len) ∨ (0 ≤ x.first ∧ x.first ≤ 1048576 ∧ 1 ≤ x.len ∧ x.len ≤ 1048576 ∧ 1048577 < x.first + x.len) by omega) with a | ⟨a1, a⟩ | ⟨a1, a2, a⟩ | ⟨a1, a2, a3, a⟩ | ⟨a1, a2, a3, a4, a⟩
    all_goals
      clear h
      have HQ := Lib.hid hq
      clear hq
      go_enter Try.func81, Try.ntmps81
      go_wp2
      go_ret
      refine ⟨congrArg boolRet ?_, below_alloc _ _⟩
      first | rfl | (simp; omega)
theorem allC_any (x : Ext) (w : World) (h1 : I64 x.first) (h2 : I64 x.len) : Calls Try.prog 80 #[extV x] w fun e w' => e = .returned (.bool (!mayB x)) ∧ Below w.heap.size w w' := by
  have hb0 := below_alloc w (.cells #[.int .i64 x.first, .int .i64 x.len] 39)
  have HB0 := Lib.hid hb0
  clear hb0
  go_enter Try.func80, Try.ntmps80
  go_wp2_with fail
  refine (may_any x _ h1 h2).mono ?_
  rintro e w1 ⟨rfl, hb1⟩
  have hb2 := Below.up HB0.out hb1
  have HB1 := Lib.hid hb1
  have HB2 := Lib.hid hb2
  clear hb1 hb2
  go_wp2
  go_ret
  exact ⟨rfl, HB2.out⟩
/-- May all be? -/
def allB (l : List Ext) : Bool := l.all mayB
theorem allB_any (l : List Ext) : (!l.any fun e => !mayB e) = allB l := by unfold allB; simp [List.all_eq_not_any_not]
theorem all_any (G : Nat → Prop) (v : Value) (l : List Ext) (w : World) (hv : ExtsAt G w v l) : Calls Try.prog 69 #[v] w fun e w' => e = .returned (.bool (allB l)) ∧ Below w.heap.size w w' := by
  have H := Lib.hid hv
  obtain ⟨p, c, rfl, _, _, _, h4⟩ := hv
  have H4 := Lib.hid h4
  clear h4
  go_enter Try.func69, Try.ntmps69
  go_wp2_with fail
  refine (anyExt_any G _ l (fun e => !mayB e) 80 #[] (by go_simp) _ H.out (fun i hi W _ => allC_any l[i] W (by obtain ⟨_, _, _, _, _, _, q⟩ := H4.out i hi; exact q.1) (by obtain ⟨_, _, _, _, _, _, q⟩ := H4.out i hi; exact q.2))).mono ?_
  rintro e w1 ⟨rfl, hb1⟩
  have HB1 := Lib.hid hb1
  clear hb1
  go_wp2
  go_ret
  refine ⟨congrArg boolRet ?_, HB1.out⟩
  rw [← allB_any]
set_option maxHeartbeats 400000 in
theorem meet_any (x y : Ext) (w : World) (h1 : Sml x) (h2 : Sml y) : Calls Try.prog 92 #[extV x, extV y] w fun e w' => e = .returned (.bool (meetB x y)) ∧ Below w.heap.size w w' := by
  obtain ⟨a1, a2, a3, a4⟩ := h1
  obtain ⟨b1, b2, b3, b4⟩ := h2
  have hbb : Below w.heap.size w ((w.alloc (.cells #[.int .i64 x.first, .int .i64 x.len] 39)).alloc (.cells #[.int .i64 y.first, .int .i64 y.len] 39)) := (below_alloc _ _).alloc (by simp) _
  have hm : meetB x y = (decide (x.first < y.first + y.len) && decide (y.first < x.first + x.len)) := rfl
  have hw1 : IntKind.i64.wrap (y.first + y.len) = y.first + y.len := IntWalk.i64_in _ (by omega)
  have hw2 : IntKind.i64.wrap (x.first + x.len) = x.first + x.len := IntWalk.i64_in _ (by omega)
  have HBB := Lib.hid hbb
  clear hbb
  by_cases c1 : x.first < y.first + y.len
  · by_cases c2 : y.first < x.first + x.len
    · rw [decide_eq_true c1, decide_eq_true c2] at hm
      have HM := Lib.hid hm
      clear hm
      go_enter Try.func92, Try.ntmps92
      go_wp2
      go_ret
      refine ⟨congrArg boolRet ?_, HBB.out⟩
      rw [HM.out]
      first | rfl | (simp; omega)
    · rw [decide_eq_true c1, decide_eq_false c2] at hm
      have c2' : x.first + x.len ≤ y.first := by omega
      have HM := Lib.hid hm
      clear hm
      clear c2
      go_enter Try.func92, Try.ntmps92
      go_wp2
      go_ret
      refine ⟨congrArg boolRet ?_, HBB.out⟩
      rw [HM.out]
      first | rfl | (simp; omega)
  · rw [decide_eq_false c1] at hm
    have c1' : y.first + y.len ≤ x.first := by omega
    have HM := Lib.hid hm
    clear hm
    clear c1
    go_enter Try.func92, Try.ntmps92
    go_wp2
    go_ret
    refine ⟨congrArg boolRet ?_, HBB.out⟩
    rw [HM.out]
    first | rfl | (simp; omega)
end Go.Proofs

/- slices.SortFunc over extents, by their Firsts: what it leaves. -/
namespace Go.Proofs
open Go.RowKit Sc Go.Shelf

instance instExtInh : Inhabited Ext := ⟨⟨0, 0⟩⟩
def encE (x : Ext) : List Value := [.int .i64 x.first, .int .i64 x.len]
def cmpE (x y : Ext) : Int := Lib.compareInt x.first y.first
set_option maxHeartbeats 1000000 in
theorem joinC_any (x y : Ext) (W : World) : Calls Try.prog 83 #[.agg #[.int .i64 x.first, .int .i64 x.len], .agg #[.int .i64 y.first, .int .i64 y.len]] W fun e w' => e = .returned (.int .i64 (cmpE x y)) ∧ ∃ q os', w' = Sort.grow (W.drewN q) os' := by
  have hcon := fun W' => AnyG.cmp_Compare_int Try.cmpInt x.first y.first W'
  change ∀ W', Calls Try.prog 84 _ _ _ at hcon
  change ∀ W', Calls Try.prog 84 _ W' (fun e w' => e = .returned (.int .i64 (cmpE x y)) ∧ w' = W') at hcon
  generalize cmpE x y = r at hcon ⊢
  go_enter Try.func83, Try.ntmps83
  go_wp2_with (go_at_call 84; refine (hcon _).mono ?_; rintro e w' ⟨rfl, rfl⟩)
  go_ret
  exact ⟨rfl, 0, _, by rw [Sort.alloc_eq_grow, Sort.alloc_eq_grow, Sort.grow_grow]; rfl⟩
theorem ltE (x y : Ext) : ltOf cmpE x y = decide (x.first < y.first) := by
  unfold ltOf cmpE Lib.compareInt
  by_cases h1 : x.first < y.first
  · simp [h1]
  · by_cases h2 : y.first < x.first <;> simp [h1, h2]
theorem swoE : Sort.SWO (ltOf cmpE) where
  irrefl x := by rw [ltE]; simp
  trans x y z h1 h2 := by rw [ltE] at *; simp at *; omega
  ntrans x y z h1 h2 := by rw [ltE] at *; simp at *; omega

/-- The cells of a row of extents, at the head of a block. -/
def RowE (w : World) (blk : Nat) (l : List Ext) : Prop :=
  ∀ i (h : i < l.length), w.cell? ⟨blk, i * 2, none⟩ = some (.int .i64 l[i].first) ∧ w.cell? ⟨blk, i * 2 + 1, none⟩ = some (.int .i64 l[i].len) ∧ w.frozen? ⟨blk, i * 2, none⟩ = false ∧ w.frozen? ⟨blk, i * 2 + 1, none⟩ = false
theorem rowE_holds {w : World} {blk : Nat} {l : List Ext} (h : RowE w blk l) : Sort.HoldsK encE 2 w blk 0 l.toArray := by
  intro t ht
  rw [Sort.size_flatK] at ht
  rw [Sort.get_flatK _ _ _ _ ht]
  have hi : t / 2 < l.length := by simp at ht; omega
  obtain ⟨h1, h2, h3, h4⟩ := h (t / 2) hi
  have e : (l.toArray)[t / 2]! = l[t / 2] := by simp [hi]
  rw [e]
  rcases (show t % 2 = 0 ∨ t % 2 = 1 by omega) with h0 | h0
  · rw [h0, show 0 + t = t / 2 * 2 by omega]
    exact ⟨h1, h3⟩
  · rw [h0, show 0 + t = t / 2 * 2 + 1 by omega]
    exact ⟨h2, h4⟩
theorem holds_rowE {w : World} {blk : Nat} {d : Array Ext} (h : Sort.HoldsK encE 2 w blk 0 d) : RowE w blk d.toList := by
  intro i hi
  have hi' : i < d.size := by simpa using hi
  obtain ⟨h1, h3⟩ := Sort.HoldsK.cell h hi' (show 0 < 2 by omega)
  obtain ⟨h2, h4⟩ := Sort.HoldsK.cell h hi' (show 1 < 2 by omega)
  have e : d[i]! = d.toList[i] := by simp [hi']
  rw [e] at h1 h2
  simp only [Nat.zero_add, Nat.add_zero] at h1 h2 h3 h4
  exact ⟨h1, h2, h3, h4⟩
theorem chg_sortWorld (w : World) (blk n : Nat) (d : Array Ext) (os : Array Obj) : Chg (fun b => b = blk) w (sortWorldK encE 2 w blk 0 n d os) := by
  refine ⟨rfl, rfl, rfl, ?_, fun k hk hne => ?_⟩
  · simp [sortWorldK, Sort.putRowK, Sort.putRow, Sort.mapBlock, Sort.grow, Sort.ahead]
  · unfold sortWorldK
    rw [Sort.heap_grow_old _ _ (by simpa [Sort.putRowK, Sort.putRow, Sort.mapBlock, Sort.ahead] using hk)]
    have : blk ≠ k := fun e => hne e.symm
    simp [Sort.putRowK, Sort.putRow, Sort.mapBlock, Sort.ahead, Array.getElem?_modify, this]
def SortedE (l : List Ext) (blk : Nat) (w : World) (e : Ending) (w' : World) : Prop :=
  e = .returned (.tuple #[]) ∧ ∃ l', l'.Perm l ∧ l'.Pairwise (fun a b => a.first ≤ b.first) ∧ Chg (fun b => b = blk) w w' ∧ RowE w' blk l'
theorem sortExt_any (blk cap : Nat) (l : List Ext) (w : World) (hH : RowE w blk l) (hblk : blk < w.heap.size) (hl : l.length ≤ 1000000000) :
    Calls Try.prog 82 #[.slice (some ⟨blk, 0, none⟩) l.length cap, .func (.func 83) #[] #[]] w (SortedE l blk w) := by
  have eg : ∀ args w, (callFunc 83 args).run Try.prog w = .ok (.enter 83 args) w := enters_of Try.func83 (by kernel_rfl) rfl
  have h0 := rowE_holds hH
  have hcon := AnyQ.slices_SortFunc Try.sortExt 2 Try.isAgg39 Try.sizeOf39 encE (fun _ => rfl) (fun x v hv => by simp [encE] at hv; rcases hv with rfl | rfl <;> rfl) cmpE swoE 83 #[] blk 0 cap l.toArray w eg (fun _ _ _ _ x y => joinC_any x y _) h0 hblk (by simp; omega)
  change Calls Try.prog 82 _ _ _ at hcon
  have hsz : l.toArray.size = l.length := by simp
  rw [hsz] at hcon
  refine hcon.mono ?_
  rintro e w' ⟨rfl, d', n, os, ⟨hp1, _, hp3⟩, hs, rfl⟩
  refine ⟨rfl, d'.toList, ?_, ?_, chg_sortWorld _ _ _ _ _, holds_rowE ?_⟩
  · rw [← hsz] at hp3
    have e1 : d'.extract 0 l.toArray.size = d' := by rw [← hp1, Array.extract_size]
    have e2 : l.toArray.extract 0 l.toArray.size = l.toArray := Array.extract_size
    rw [e1, e2] at hp3
    simpa using hp3
  · rw [List.pairwise_iff_getElem]
    intro i j hi hj hij
    have hi' : i < d'.size := by simpa using hi
    have hj' : j < d'.size := by simpa using hj
    have := hs i j (Nat.zero_le _) hij (by rw [← hsz, ← hp1]; exact hj')
    rw [ltE] at this
    have e1 : d'[i]! = d'.toList[i] := by simp [hi']
    have e2 : d'[j]! = d'.toList[j] := by simp [hj']
    rw [e1, e2] at this
    simpa using this
  · refine Sort.holdsK_grow (enc := encE) (k := 2) (w := _) (os := os) (blk := blk) (off := 0) (d := d') ?_ (Sort.holdsK_putRowK (enc := encE) (k := 2) (w := Sort.ahead w n) (blk := blk) (off := 0) (d0 := l.toArray) (d := d') h0 hp1)
    simpa [Sort.putRowK, Sort.putRow, Sort.mapBlock, Sort.ahead] using hblk
end Go.Proofs
