/- TxnSnaps: what the law holds in memory. -/
import Derived.Test.YtajjadoalfjnkaaGreatSnaps23P
import Derived.Test.YtajjadoalfjnkaaGreatSteps23
import Derived.Test.YtajjadoalfjnkaaGreatTx7
namespace Go.Proofs
open Go.RowKit Sc
/-- Data that lie side by side, and the Puts of a batch. -/
def BagA (B : List (Value × Bytes)) (tv : Value) (tl : List Tx) : Asn := ⟨fun F w => (∀ x ∈ B, BytesAt F w x.1 x.2) ∧ TxsAt F w tv tl, fun _ _ _ hs _ h => ⟨fun x hx => (h.1 x hx).same hs, h.2.same hs⟩⟩
/-- A datum: of the arguments, or of a batch. -/
def Dat (W : World) (B : List (Value × Bytes)) (v : Value) (b : Bytes) : Prop := BytesAt (Old W) W v b ∨ (v, b) ∈ B
theorem Dat.more {W : World} {B : List (Value × Bytes)} {v : Value} {b : Bytes} (x : Value × Bytes) (h : Dat W B v b) : Dat W (x :: B) v b := h.imp id (List.mem_cons_of_mem _)
theorem Dat.nil (W : World) (B : List (Value × Bytes)) : Dat W B (.slice none 0 0) [] := .inl SlAt.nil
theorem dat_all {W : World} {B : List (Value × Bytes)} (x : Value × Bytes) {vs : List Value} {ls : List Bytes} (h : All2 (Dat W B) vs ls) : All2 (Dat W (x :: B)) vs ls := h.imp fun _ _ hd => hd.more x
theorem dat_nils (W : World) (B : List (Value × Bytes)) : ∀ n, All2 (Dat W B) (List.replicate n (.slice none 0 0)) (List.replicate n [])
  | 0 => trivial
  | n + 1 => ⟨Dat.nil W B, dat_nils W B n⟩
theorem dat_set {W : World} {B : List (Value × Bytes)} {a : Value} {b : Bytes} (h : Dat W B a b) : ∀ {l : List Value} {m : List Bytes} (i : Nat), All2 (Dat W B) l m → All2 (Dat W B) (l.set i a) (m.set i b)
  | [], [], _, _ => trivial
  | _ :: _, _ :: _, 0, ⟨_, h2⟩ => ⟨h, h2⟩
  | _ :: _, _ :: _, i + 1, ⟨h1, h2⟩ => ⟨h1, dat_set h i h2⟩
  | [], _ :: _, _, h' => h'.elim
  | _ :: _, [], _, h' => h'.elim
theorem dat_at {W w : World} {L : List Asn} (h : Sep W L w) (h0 : L[0]? = some (OldA W)) (ib : Nat) {B : List (Value × Bytes)} {tv : Value} {tl : List Tx} (hb : L[ib]? = some (BagA B tv tl)) {v : Value} {b : Bytes} (hd : Dat W B v b) : BytesAt (fun _ => True) w v b := by
  rcases hd with hd | hd
  · obtain ⟨F, hF, _⟩ := h.get 0 h0
    exact (hd.same hF.2).mono fun _ _ => trivial
  · obtain ⟨F, hF, _⟩ := h.get ib hb
    exact (hF.1 _ hd).mono fun _ _ => trivial
/-- A batch's Puts, laid into the bag. -/
theorem Sep.bag_txs {W w : World} {L : List Asn} {tv tv0 : Value} {tl tl0 : List Tx} (h : Sep W (L ++ [TxsA tv tl]) w) (ib : Nat) {B : List (Value × Bytes)} (hi : L[ib]? = some (BagA B tv0 tl0)) : Sep W (L.set ib (BagA B tv tl)) w := by
  have hil : ib < L.length := (List.getElem?_eq_some_iff.1 hi).1
  obtain ⟨F, F2, G, hA, hB, _, _, _, _, _, _, K⟩ := h.both ib L.length (by omega) (by rw [List.getElem?_append_left hil]; exact hi) (by rw [List.getElem?_append_right (Nat.le_refl _), Nat.sub_self]; rfl)
  have hk := K w (fun k => F k ∨ F2 k) (BagA B tv tl) (Chg.refl _ _) (fun k hk => .inl hk) ⟨fun x hx => (hA.1 x hx).mono fun _ h => .inl h, TxsAt.mono hB fun _ h => .inr h⟩
  have := hk.take L.length
  rw [List.set_append_right _ _ (Nat.le_refl _), Nat.sub_self] at this
  change Sep W (((L ++ [TrueA]).set ib (BagA B tv tl)).take L.length) w at this
  rw [List.set_append_left _ _ hil, List.take_left' (by simp)] at this
  exact this
theorem Sep.bag_drop {W w : World} {L : List Asn} (h : Sep W L w) (ib : Nat) {B : List (Value × Bytes)} {tv : Value} {tl : List Tx} (hi : L[ib]? = some (BagA B tv tl)) : Sep W (L.set ib (BagA B (.slice none 0 0) [])) w :=
  h.imp ib hi fun _ _ hF => ⟨hF.1, SlAt.nil⟩
theorem Sep.bag_add {W w : World} {L : List Asn} (h : Sep W L w) (ib : Nat) {B : List (Value × Bytes)} {tv : Value} {tl : List Tx} (hi : L[ib]? = some (BagA B tv tl)) (x : Value × Bytes) (hx : ∀ F, (BagA B tv tl).P F w → BytesAt F w x.1 x.2) : Sep W (L.set ib (BagA (x :: B) tv tl)) w :=
  h.imp ib hi fun F _ hF => ⟨fun y hy => by
    rcases List.mem_cons.1 hy with rfl | hy
    · exact hx F hF
    · exact hF.1 y hy, hF.2⟩
/-- The cells of a batch's transactions. -/
theorem bag_tx {W w : World} {L : List Asn} (h : Sep W L w) (ib : Nat) {B : List (Value × Bytes)} {p : Option Addr} {n c : Nat} {tl : List Tx} (hi : L[ib]? = some (BagA B (.slice p n c) tl)) {j : Nat} (hj : j < tl.length) :
    ∃ b o pp pc, p = some ⟨b, o, none⟩ ∧ w.cell? ⟨b, o + j * 2 + 1, none⟩ = some (.slice pp tl[j].puts.length pc) ∧ (∀ F, (BagA B (.slice p n c) tl).P F w → F b) ∧ ∀ k (hk : k < tl[j].puts.length), ∃ g q dv, pp = some ⟨g, q, none⟩ ∧ w.cell? ⟨g, q + k * 2, none⟩ = some (.int .i64 tl[j].puts[k].lba) ∧ w.cell? ⟨g, q + k * 2 + 1, none⟩ = some dv ∧ ∀ F, (BagA B (.slice p n c) tl).P F w → F g ∧ BytesAt F w dv tl[j].puts[k].data := by
  obtain ⟨F, hF, _⟩ := h.get ib hi
  obtain ⟨p', c', e, _, _, _, a4⟩ := hF.2
  cases e
  obtain ⟨b, o, rfl, hb, h1, h2, pv, h3, h4⟩ := a4 j hj
  obtain ⟨pp, pc, rfl, _, _, _, p4⟩ := h4
  refine ⟨b, o, pp, pc, rfl, h3, fun F' hF' => ?_, fun k hk => ?_⟩
  · obtain ⟨p', c', e, _, _, _, a4'⟩ := hF'.2
    cases e
    obtain ⟨b', o', e', hb', _⟩ := a4' j hj
    cases e'
    exact hb'
  obtain ⟨g, q, rfl, hg, k1, k2, dv, k3, k4⟩ := p4 k hk
  refine ⟨g, q, dv, rfl, k1, k3, fun F' hF' => ?_⟩
  obtain ⟨p', c', e, _, _, _, a4'⟩ := hF'.2
  cases e
  obtain ⟨b', o', e', _, _, _, pv', z3, z4⟩ := a4' j hj
  cases e'
  rw [h3] at z3
  cases z3
  obtain ⟨_, _, e2, _, _, _, z5⟩ := z4
  cases e2
  obtain ⟨_, _, e3, yg, _, _, dv', y1, y2⟩ := z5 k hk
  cases e3
  rw [k3] at y1
  cases y1
  exact ⟨yg, y2⟩
/-- A transaction's blocks: where they lie, and what lies there. -/
structure SnR where
  g : Nat
  c : Nat
  vs : List Value
def SnR.val (r : SnR) : Value := .slice (some ⟨r.g, 0, none⟩) 20 r.c
def SnR.row (r : SnR) : Asn := RowA 30 1 r.val 20 r.vs
def snL (W : World) (m : Nat) (s : MgS) (ng : Nat) (nvs : List Value) (B : List (Value × Bytes)) (tv : Value) (tl : List Tx) (sv : Value) (rs : List SnR) : List Asn :=
  [OldA W, MgrA (pt m) s, RowA 30 1 (.slice (some ⟨ng, 0, none⟩) 20 20) 20 nvs, BagA B tv tl, RowA 65 1 sv rs.length (rs.map SnR.val)] ++ rs.map SnR.row
section
variable {W w : World} {m ng : Nat} {s : MgS} {nvs : List Value} {B : List (Value × Bytes)} {tv sv : Value} {tl : List Tx} {rs : List SnR}
theorem snL_len : (snL W m s ng nvs B tv tl sv rs).length = 5 + rs.length := by unfold snL; rw [List.length_append, List.length_map]; rfl
theorem snL_row {x : Nat} (hx : x < rs.length) : (snL W m s ng nvs B tv tl sv rs)[5 + x]? = some (RowA 30 1 (.slice (some ⟨rs[x].g, 0, none⟩) 20 rs[x].c) 20 rs[x].vs) := by
  unfold snL
  rw [List.getElem?_append_right (by show 5 ≤ _; omega)]
  show (rs.map SnR.row)[5 + x - 5]? = _
  rw [show 5 + x - 5 = x by omega, List.getElem?_map, List.getElem?_eq_getElem hx]; rfl
theorem snL_mgr (s' : MgS) : (snL W m s ng nvs B tv tl sv rs).set 1 (MgrA (pt m) s') = snL W m s' ng nvs B tv tl sv rs := rfl
theorem snL_mgr_more (s' : MgS) (Ls : List Asn) : (snL W m s ng nvs B tv tl sv rs ++ Ls).set 1 (MgrA (pt m) s') = snL W m s' ng nvs B tv tl sv rs ++ Ls := rfl
theorem snL_now (nvs' : List Value) : (snL W m s ng nvs B tv tl sv rs).set 2 (RowA 30 1 (.slice (some ⟨ng, 0, none⟩) 20 20) 20 nvs') = snL W m s ng nvs' B tv tl sv rs := rfl
theorem snL_bag (B' : List (Value × Bytes)) (tv' : Value) (tl' : List Tx) : (snL W m s ng nvs B tv tl sv rs).set 3 (BagA B' tv' tl') = snL W m s ng nvs B' tv' tl' sv rs := rfl
theorem snL_set {x : Nat} (hx : x < rs.length) (vs' : List Value) : (snL W m s ng nvs B tv tl sv rs).set (5 + x) (RowA 30 1 (.slice (some ⟨rs[x].g, 0, none⟩) 20 rs[x].c) 20 vs') = snL W m s ng nvs B tv tl sv (rs.set x { rs[x] with vs := vs' }) := by
  unfold snL
  rw [List.set_append_right _ _ (by show 5 ≤ _; omega)]
  show _ ++ (rs.map SnR.row).set (5 + x - 5) _ = _
  rw [show 5 + x - 5 = x by omega, List.length_set, List.map_set, List.map_set]
  have e : (rs.map SnR.val).set x (SnR.val { rs[x] with vs := vs' }) = rs.map SnR.val := by
    apply List.ext_getElem
    · simp
    · intro i h1 h2
      rw [List.getElem_set]
      split
      · rename_i e
        subst e
        rw [List.getElem_map]; rfl
      · rfl
  rw [e]; rfl
/-- A new row, behind the others. -/
theorem snL_push {g c : Nat} {vs : List Value} (h : Sep W (snL W m s ng nvs B tv tl sv rs ++ [RowA 30 1 (.slice (some ⟨g, 0, none⟩) 20 c) 20 vs]) w) (sv' : Value) (w' : World)
    (hp : ∀ L : List Asn, Sep W L w → L[4]? = some (RowA 65 1 sv rs.length (rs.map SnR.val)) → Sep W (L.set 4 (RowA 65 1 sv' (rs.length + 1) (rs.map SnR.val ++ [.slice (some ⟨g, 0, none⟩) 20 c]))) w') : Sep W (snL W m s ng nvs B tv tl sv' (rs ++ [⟨g, c, vs⟩])) w' := by
  have := hp _ h rfl
  unfold snL
  rw [List.length_append, List.map_append, List.map_append, ← List.append_assoc]
  exact this
end
end Go.Proofs
