/- Package extmap: what one more version of a block does to what is in memory. Apply. -/
import Derived.Test.YtnjidpmggggiiaaExt2
namespace Go.Proofs
open Go.RowKit Sc

theorem AL.upd {α β : Type} {R R' : α → β → Prop} {k : Int} {v : α} {d : β} (hv : R' v d) : ∀ {m : List (Int × α)} {s : List (Int × β)}, (m.map (·.1)).Nodup → AL R m s → (∀ n a b, (n, a) ∈ m → n ≠ k → R a b → R' a b) → AL R' (aset m k v) (aset s k d)
  | [], [], _, _, _ => ⟨⟨rfl, hv⟩, trivial⟩
  | (a1, a2) :: m, (b1, b2) :: s, hn, ⟨⟨h1, h2⟩, h3⟩, ho => by
    simp only at h1 h2
    subst h1
    simp only [List.map_cons, List.nodup_cons] at hn
    by_cases hk : a1 = k
    · simp only [aset, if_pos hk]
      refine ⟨⟨rfl, hv⟩, all h3 (fun x hx e => hn.1 ?_) fun n a b hm => ho n a b (List.mem_cons_of_mem _ hm)⟩
      rw [hk, ← e]; exact List.mem_map.2 ⟨x, hx, rfl⟩
    · simp only [aset, if_neg hk]
      exact ⟨⟨rfl, ho a1 a2 b2 (List.mem_cons_self ..) hk h2⟩, AL.upd hv hn.2 h3 fun n a b hm => ho n a b (List.mem_cons_of_mem _ hm)⟩
  | [], _ :: _, _, h', _ => h'.elim
  | _ :: _, [], _, h', _ => h'.elim
where all {α β : Type} {R R' : α → β → Prop} {k : Int} : ∀ {m : List (Int × α)} {s : List (Int × β)}, AL R m s → (∀ x ∈ m, x.1 ≠ k) → (∀ n a b, (n, a) ∈ m → n ≠ k → R a b → R' a b) → AL R' m s
  | [], [], _, _, _ => trivial
  | (a1, a2) :: m, (b1, b2) :: s, ⟨⟨h1, h2⟩, h3⟩, hk, ho => ⟨⟨h1, ho a1 a2 b2 (List.mem_cons_self ..) (hk _ (List.mem_cons_self ..)) h2⟩, all h3 (fun x hx => hk x (List.mem_cons_of_mem _ hx)) fun n a b hm => ho n a b (List.mem_cons_of_mem _ hm)⟩
  | [], _ :: _, h', _, _ => h'.elim
  | _ :: _, [], h', _, _ => h'.elim

/-- A Map, every piece of it by name. -/
structure ExtB (F : Nat → Prop) (w : World) (b r : Nat) (ml : List (Int × Value)) (D : Nat → Prop) (blocks last : Int) (vs : Vers) : Prop where
  fb : F b
  fr : F r
  hb : w.heap[b]? = some (.cells #[.int .i64 blocks, .map (some r), .int .i64 last] 108 (0, 0))
  hm : MapIs w r ml
  ha : AL (fun u l => OutS 115 2 putR 0 w u l D ∧ ∀ g, u.ownBlock = some g → F g ∧ g ≠ b ∧ g ≠ r) ml vs
  ho : ∀ x ∈ ml, ∀ y ∈ ml, x.1 ≠ y.1 → ∀ g, x.2.ownBlock = some g → y.2.ownBlock ≠ some g
  hD : ∀ k, D k → F k ∧ k ≠ b ∧ k ≠ r
  dom : Dom F w
theorem ExtIs.parts {F : Nat → Prop} {w : World} {v : Value} {blocks last : Int} {vs : Vers} (h : ExtIs F w v blocks last vs) : ∃ b r ml D, v = .pointer (some ⟨b, 0, none⟩) ∧ ExtB F w b r ml D blocks last vs := by
  obtain ⟨⟨b, r, ml, D, h1, h2, h3, h4, h5, h6, h7, h8⟩, hd⟩ := h
  exact ⟨b, r, ml, D, h1, h2, h3, h4, h5, h6, h7, h8, hd⟩
theorem ExtB.is {F : Nat → Prop} {w : World} {b r : Nat} {ml : List (Int × Value)} {D : Nat → Prop} {blocks last : Int} {vs : Vers} (h : ExtB F w b r ml D blocks last vs) : ExtIs F w (.pointer (some ⟨b, 0, none⟩)) blocks last vs :=
  ⟨⟨b, r, ml, D, rfl, h.fb, h.fr, h.hb, h.hm, h.ha, h.ho, h.hD⟩, h.dom⟩
theorem ExtB.up {F : Nat → Prop} {w w' : World} {b r : Nat} {ml : List (Int × Value)} {D : Nat → Prop} {blocks last : Int} {vs : Vers} (h : ExtB F w b r ml D blocks last vs) (hb : Below w.heap.size w w') : ExtB F w' b r ml D blocks last vs :=
  have hs := h.dom.same hb
  ⟨h.fb, h.fr, by rw [hs b h.fb]; exact h.hb, h.hm.same hs h.fr, h.ha.imp fun _ _ ⟨a, c⟩ => ⟨a.same putR_stable hs hb.size (fun g hg => (c g hg).1) (fun k hk => (h.hD k hk).1), c⟩, h.ho, h.hD, h.dom.of_size hb.size⟩
theorem ExtB.ne {F : Nat → Prop} {w : World} {b r : Nat} {ml : List (Int × Value)} {D : Nat → Prop} {blocks last : Int} {vs : Vers} (h : ExtB F w b r ml D blocks last vs) : b ≠ r := by
  intro e
  obtain ⟨es, c, hh, _⟩ := h.hm
  have := h.hb
  rw [e, hh] at this
  cases this
/-- What is told of one key. -/
theorem ExtB.look {F : Nat → Prop} {w : World} {b r : Nat} {ml : List (Int × Value)} {D : Nat → Prop} {blocks last : Int} {vs : Vers} (h : ExtB F w b r ml D blocks last vs) (k : Int) :
    ∃ u l, (alook ml k).getD (.slice none 0 0) = u ∧ (alook vs k).getD [] = l ∧ OutS 115 2 putR 0 w u l D ∧ (∀ g, u.ownBlock = some g → F g ∧ g ≠ b ∧ g ≠ r) ∧ (∀ x ∈ ml, x.1 ≠ k → ∀ g, x.2.ownBlock = some g → u.ownBlock ≠ some g) := by
  rcases h.ha.look k with ⟨h1, h2⟩ | ⟨u, l, h1, h2, h3, h4⟩
  · refine ⟨_, _, by rw [h1]; try rfl, by rw [h2]; try rfl, ?_, by simp [Value.ownBlock], by simp [Value.ownBlock]⟩
    obtain ⟨css, a1, a2, a3, a4, a5⟩ := (OutS.nil (T := 115) (k := 2) (R := putR) (B := 0) (w := w))
    exact ⟨css, a1, a2, a3, fun i h h' => absurd h' (by simp), fun q hq => ⟨Nat.zero_le _, h.dom q (h.hD q hq).1, by simp [Value.ownBlock]⟩⟩
  · exact ⟨u, l, by rw [h1]; rfl, by rw [h2]; rfl, h3, h4, fun x hx hne g hg => h.ho x hx (k, u) (alook_in h1) hne g hg⟩

/-- One more version of block k. -/
theorem ExtB.put {F : Nat → Prop} {w w4 w5 w6 : World} {b r : Nat} {ml : List (Int × Value)} {D D5 : Nat → Prop} {blocks last : Int} {vs : Vers} (h : ExtB F w b r ml D blocks last vs) {k : Int} {u v' : Value} {gg : Nat} {l' : List Put}
    (hu : ∀ g, u.ownBlock = some g → F g ∧ g ≠ b ∧ g ≠ r) (hud : ∀ x ∈ ml, x.1 ≠ k → ∀ g, x.2.ownBlock = some g → u.ownBlock ≠ some g) (huD : ∀ g, u.ownBlock = some g → ¬ D g)
    (hb4 : Below w.heap.size w w4) (hg5 : w4.grownBy w5 u.ownBlock) (hv : v'.ownBlock = some gg) (hat : u.ownBlock = some gg ∨ w.heap.size ≤ gg) (hgl : gg < w5.heap.size)
    (hn : OutS 115 2 putR 0 w5 v' l' D5) (hD5 : ∀ q, D5 q → D q ∨ New w w5 q) (hDD : ∀ q, D q → D5 q)
    (hm6 : MapIs w6 r (aset ml k v')) (hT : Turned r w5 w6) :
    ExtB (fun q => F q ∨ New w w6 q) w6 b r (aset ml k v') D5 blocks last (aset vs k l') ∧ Chg F w w6 := by
  have hz4 := hb4.size
  have hz5 := hg5.size
  have hz6 := hT.size
  have hbr := h.ne
  have hbl := h.dom b h.fb
  have hrl := h.dom r h.fr
  have keep5 : ∀ q, q < w.heap.size → u.ownBlock ≠ some q → w5.heap[q]? = w.heap[q]? := fun q hq hne => (hg5.block q (by omega) (fun e => hne e.symm)).trans (hb4.block q hq)
  have keep6 : ∀ q, q ≠ r → w6.heap[q]? = w5.heap[q]? := fun q hq => hT.block q hq
  have hub : ∀ q, u.ownBlock = some q → q ≠ b ∧ q ≠ r := fun q hq => (hu q hq).2
  have turn : ∀ {v0 : Value} {l0 : List Put} {E : Nat → Prop}, OutS 115 2 putR 0 w5 v0 l0 E → v0.ownBlock ≠ some r → ¬ E r → OutS 115 2 putR 0 w6 v0 l0 E := fun ho h1 h2 =>
    ho.same putR_stable (F := fun q => q ≠ r) (fun q hq => keep6 q hq) (by omega) (fun g hg e => h1 (e ▸ hg)) (fun q hq e => h2 (e ▸ hq))
  have hD5r : ∀ q, D5 q → (F q ∨ New w w6 q) ∧ q ≠ b ∧ q ≠ r := by
    intro q hq
    rcases hD5 q hq with hd | hd
    · exact ⟨.inl (h.hD q hd).1, (h.hD q hd).2⟩
    · have h1 := hd.1
      have h2 := hd.2
      exact ⟨.inr ⟨h1, by omega⟩, by omega, by omega⟩
  have hgr : gg ≠ b ∧ gg ≠ r := by
    rcases hat with e | e
    · exact hub gg e
    · exact ⟨by omega, by omega⟩
  refine ⟨⟨.inl h.fb, .inl h.fr, ?_, hm6, ?_, ?_, hD5r, fun q hq => hq.elim (fun hf => by have := h.dom q hf; omega) (fun hf => hf.2)⟩, ⟨?_, ?_, ?_, by omega, ?_⟩⟩
  · rw [keep6 b hbr, keep5 b hbl (fun e => (hub b e).1 rfl)]; exact h.hb
  · refine AL.upd (k := k) ?_ (by obtain ⟨_, _, _, _, hnd, _⟩ := h.hm; exact hnd) h.ha ?_
    · refine ⟨turn hn (by rw [hv]; simp; exact hgr.2) (fun hr => (hD5r r hr).2.2 rfl), fun g hg => ?_⟩
      rw [hv] at hg
      cases hg
      refine ⟨?_, hgr⟩
      rcases hat with e | e
      · exact .inl (hu gg e).1
      · exact .inr ⟨e, by omega⟩
    · rintro n a bl hmem hne ⟨ho, hc⟩
      refine ⟨?_, fun g hg => ⟨.inl (hc g hg).1, (hc g hg).2⟩⟩
      have hown : ∀ g, a.ownBlock = some g → u.ownBlock ≠ some g := fun g hg => hud (n, a) hmem hne g hg
      have hal : ∀ g, a.ownBlock = some g → g < w.heap.size := fun g hg => h.dom g (hc g hg).1
      have hDu : ∀ q, D q → u.ownBlock ≠ some q := fun q hq e => huD q e hq
      have h5 : OutS 115 2 putR 0 w5 a bl D :=
        ho.same putR_stable (F := fun q => q < w.heap.size ∧ u.ownBlock ≠ some q) (fun q hq => keep5 q hq.1 hq.2) (by omega) (fun g hg => ⟨hal g hg, hown g hg⟩) (fun q hq => ⟨h.dom q (h.hD q hq).1, hDu q hq⟩)
      have h6 : OutS 115 2 putR 0 w5 a bl D5 := by
        have hoD : ∀ q, D q → a.ownBlock ≠ some q := by obtain ⟨_, _, _, _, _, h5'⟩ := ho; exact fun q hq => (h5' q hq).2.2
        refine h5.more putR_stable hDD fun q hq => ⟨Nat.zero_le _, ?_, ?_⟩
        · rcases hD5 q hq with hd | hd
          · have := h.dom q (h.hD q hd).1; omega
          · exact hd.2
        · rcases hD5 q hq with hd | hd
          · exact hoD q hd
          · intro e; have := hal q e; have := hd.1; omega
      exact turn h6 (fun e => (hc r e).2.2 rfl) (fun hr => (hD5r r hr).2.2 rfl)
  · intro x hx y hy hne g hgx
    rcases aset_mem hx with rfl | hx
    · rcases aset_mem hy with rfl | hy
      · exact absurd rfl hne
      · intro hgy
        rw [hv] at hgx
        cases hgx
        rcases hat with e | e
        · exact hud y hy (fun e => hne e.symm) gg hgy e
        · obtain ⟨i, hi, hie⟩ := List.getElem_of_mem hy
          have := All2.get h.ha i hi (by rw [← All2.length h.ha]; exact hi)
          have := h.dom gg (this.2.2 gg (by rw [hie]; exact hgy)).1
          omega
    · rcases aset_mem hy with rfl | hy
      · intro hgy
        rw [hv] at hgy
        cases hgy
        rcases hat with e | e
        · exact hud x hx hne gg hgx e
        · obtain ⟨i, hi, hie⟩ := List.getElem_of_mem hx
          have := All2.get h.ha i hi (by rw [← All2.length h.ha]; exact hi)
          have := h.dom gg (this.2.2 gg (by rw [hie]; exact hgx)).1
          omega
      · exact h.ho x hx y hy hne g hgx
  · rw [hT.os, hg5.os, hb4.os]
  · rw [hT.tape, hg5.tape, hb4.tape]
  · rw [hT.output, hg5.output, hb4.output]
  · intro q hq hF
    rw [keep6 q (fun e => hF (e ▸ h.fr))]
    exact keep5 q hq (fun e => hF (hu q e).1)
end Go.Proofs
