/- TxnSnaps: what the law holds, by its values. -/
import Derived.Test.YtajjadoalfjnkaaGreatSnapsH
import Derived.Test.YtajjadoalfjnkaaGreatReaders23
namespace Go.Proofs
open Go.RowKit Sc
theorem infoRow2 : (Tryz.prog.info? 65).map (fun i => (i.zero, i.size, i.bytes)) = some (some (.slice none 0 0), 1, 24) := by kernel_rfl
structure SnD (W : World) (B : List (Value × Bytes)) (nvs : List Value) (now : List Bytes) (rs : List SnR) (sn : List (List Bytes)) : Prop where
  nl : nvs.length = 20
  nd : All2 (Dat W B) nvs now
  rl : rs.length = sn.length
  rv : ∀ x (h : x < rs.length), rs[x].vs.length = 20
  rd : ∀ x (h : x < rs.length), All2 (Dat W B) rs[x].vs (sn.getD x [])
section
variable {W : World} {B : List (Value × Bytes)} {nvs : List Value} {now : List Bytes} {rs : List SnR} {sn : List (List Bytes)}
theorem SnD.start (W : World) : SnD W [] (List.replicate 20 (.slice none 0 0)) (List.replicate 20 []) [] [] := ⟨by simp, dat_nils W [] 20, rfl, fun x h => absurd h (by simp), fun x h => absurd h (by simp)⟩
theorem SnD.bag (h : SnD W B nvs now rs sn) (x : Value × Bytes) : SnD W (x :: B) nvs now rs sn := ⟨h.nl, dat_all x h.nd, h.rl, h.rv, fun y hy => dat_all x (h.rd y hy)⟩
theorem SnD.push (h : SnD W B nvs now rs sn) (g c : Nat) : SnD W B nvs now (rs ++ [⟨g, c, nvs⟩]) (sn ++ [now]) := by
  have hl : ∀ x, x < (rs ++ [(⟨g, c, nvs⟩ : SnR)]).length → x < rs.length ∨ x = rs.length := fun x hx => by simp at hx; omega
  refine ⟨h.nl, h.nd, by simp [h.rl], fun x hx => ?_, fun x hx => ?_⟩
  · rcases hl x hx with hx' | rfl
    · rw [List.getElem_append_left hx']; exact h.rv x hx'
    · rw [List.getElem_append_right (Nat.le_refl _)]
      simp only [Nat.sub_self, List.getElem_cons_zero]; exact h.nl
  · rcases hl x hx with hx' | rfl
    · rw [List.getElem_append_left hx']
      have : (sn ++ [now]).getD x [] = sn.getD x [] := by unfold List.getD; rw [List.getElem?_append_left (by rw [← h.rl]; exact hx')]
      rw [this]
      exact h.rd x hx'
    · rw [List.getElem_append_right (Nat.le_refl _)]
      have : (sn ++ [now]).getD rs.length [] = now := by
        unfold List.getD
        rw [List.getElem?_append_right (by rw [h.rl]; exact Nat.le_refl _), h.rl, Nat.sub_self]; rfl
      rw [this]
      simp only [Nat.sub_self, List.getElem_cons_zero]; exact h.nd
theorem SnD.setNow (h : SnD W B nvs now rs sn) (j : Nat) {v : Value} {d : Bytes} (hd : Dat W B v d) : SnD W B (nvs.set j v) (now.set j d) rs sn := ⟨by rw [List.length_set]; exact h.nl, dat_set hd j h.nd, h.rl, h.rv, h.rd⟩
theorem SnD.setRow (h : SnD W B nvs now rs sn) {x : Nat} (hx : x < rs.length) (j : Nat) {v : Value} {d : Bytes} (hd : Dat W B v d) : SnD W B nvs now (rs.set x { rs[x] with vs := rs[x].vs.set j v }) (sn.set x ((sn.getD x []).set j d)) := by
  refine ⟨h.nl, h.nd, by rw [List.length_set, List.length_set]; exact h.rl, fun y hy => ?_, fun y hy => ?_⟩
  · rw [List.length_set] at hy
    rw [List.getElem_set]
    split
    · simp only [List.length_set]; exact h.rv x hx
    · exact h.rv y hy
  · rw [List.length_set] at hy
    rw [List.getElem_set]
    split
    · rename_i e
      subst e
      have : (sn.set x ((sn.getD x []).set j d)).getD x [] = (sn.getD x []).set j d := by unfold List.getD; rw [List.getElem?_set_self (by rw [← h.rl]; exact hx)]; rfl
      rw [this]
      exact dat_set hd j (h.rd x hx)
    · rename_i e
      have : (sn.set x ((sn.getD x []).set j d)).getD y [] = sn.getD y [] := by unfold List.getD; rw [List.getElem?_set_ne e]
      rw [this]
      exact h.rd y hy
theorem SnD.at (h : SnD W B nvs now rs sn) {x : Nat} (hx : x < rs.length) {j : Nat} (hj : j < 20) : ∃ v, rs[x].vs[j]? = some v ∧ Dat W B v ((sn.getD x []).getD j []) := by
  have hl := h.rv x hx
  have hd := h.rd x hx
  have hll := All2.length hd
  refine ⟨rs[x].vs[j]'(by omega), List.getElem?_eq_getElem (by omega), ?_⟩
  have := All2.get hd j (by omega) (by omega)
  have e : (sn.getD x []).getD j [] = (sn.getD x [])[j]'(by omega) := by
    rw [List.getD_eq_getElem?_getD, List.getElem?_eq_getElem (by omega)]; rfl
  rw [e]
  exact this
end
/-- A row begins: the blocks that are committed, cloned. -/
theorem snL_pushed {W : World} {m ng : Nat} {s : MgS} {nvs vs : List Value} {B : List (Value × Bytes)} {tv sv sv' : Value} {tl : List Tx} {rs : List SnR} {g c : Nat} :
    (snL W m s ng nvs B tv tl sv rs ++ [RowA 30 1 (.slice (some ⟨g, 0, none⟩) 20 c) 20 vs]).set 4 (RowA 65 1 sv' (rs.length + 1) (rs.map SnR.val ++ [.slice (some ⟨g, 0, none⟩) 20 c])) = snL W m s ng nvs B tv tl sv' (rs ++ [⟨g, c, vs⟩]) := by
  unfold snL
  rw [List.length_append, List.map_append, List.map_append, ← List.append_assoc]
  rfl
theorem snL_box {W : World} {m ng : Nat} {s : MgS} {nvs : List Value} {B : List (Value × Bytes)} {tv sv : Value} {tl : List Tx} {rs : List SnR} {A : Asn} {Ls : List Asn} : (snL W m s ng nvs B tv tl sv rs ++ A :: Ls)[5 + rs.length]? = some A := by
  rw [List.getElem?_append_right (by rw [snL_len]; exact Nat.le_refl _), snL_len, Nat.sub_self]; rfl
theorem snL_box2 {W : World} {m ng : Nat} {s : MgS} {nvs : List Value} {B : List (Value × Bytes)} {tv sv : Value} {tl : List Tx} {rs : List SnR} {A A2 : Asn} {Ls : List Asn} : (snL W m s ng nvs B tv tl sv rs ++ A :: A2 :: Ls)[5 + rs.length + 1]? = some A2 := by
  rw [List.getElem?_append_right (by rw [snL_len]; omega), snL_len, show 5 + rs.length + 1 - (5 + rs.length) = 1 by omega]; rfl
theorem snL_take {W : World} {m ng : Nat} {s : MgS} {nvs : List Value} {B : List (Value × Bytes)} {tv sv : Value} {tl : List Tx} {rs : List SnR} {Ls : List Asn} : (snL W m s ng nvs B tv tl sv rs ++ Ls).take (5 + rs.length) = snL W m s ng nvs B tv tl sv rs := List.take_left' snL_len
theorem snL_more {W : World} {m ng : Nat} {s : MgS} {nvs : List Value} {B : List (Value × Bytes)} {tv sv : Value} {tl : List Tx} {rs : List SnR} {Ls : List Asn} {i : Nat} {A : Asn} (h : (snL W m s ng nvs B tv tl sv rs)[i]? = some A) : (snL W m s ng nvs B tv tl sv rs ++ Ls)[i]? = some A := by
  rw [List.getElem?_append_left (List.getElem?_eq_some_iff.1 h).1]; exact h
theorem snL_set_more {W : World} {m ng : Nat} {s : MgS} {nvs : List Value} {B : List (Value × Bytes)} {tv sv : Value} {tl : List Tx} {rs : List SnR} {Ls : List Asn} {x : Nat} (hx : x < rs.length) (vs' : List Value) :
    (snL W m s ng nvs B tv tl sv rs ++ Ls).set (5 + x) (RowA 30 1 (.slice (some ⟨rs[x].g, 0, none⟩) 20 rs[x].c) 20 vs') = snL W m s ng nvs B tv tl sv (rs.set x { rs[x] with vs := vs' }) ++ Ls := by
  rw [List.set_append_left _ _ (by rw [snL_len]; omega), snL_set hx]
/-- The outer row's cell. -/
theorem snL_outer {W w : World} {m ng : Nat} {s : MgS} {nvs : List Value} {B : List (Value × Bytes)} {tv : Value} {tl : List Tx} {rs : List SnR} {Ls : List Asn} {p : Option Addr} {c : Nat} (h : Sep W (snL W m s ng nvs B tv tl (.slice p rs.length c) rs ++ Ls) w) {x : Nat} (hx : x < rs.length) : ∃ b, p = some ⟨b, 0, none⟩ ∧ w.cell? ⟨b, x, none⟩ = some (.slice (some ⟨rs[x].g, 0, none⟩) 20 rs[x].c) := by
  obtain ⟨F, hF, _⟩ := h.get 4 rfl
  have hrow := hF.1
  obtain ⟨_, ⟨_, h0⟩ | ⟨g, cap, cur, e, _⟩⟩ := hF.1
  · omega
  · cases e
    refine ⟨g, rfl, ?_⟩
    rw [hrow.cellAt x (by omega), List.getElem?_map, List.getElem?_eq_getElem hx]; rfl
theorem sn_bytes_cut {G : Nat → Prop} {w : World} {g o n c : Nat} {l : Bytes} (h : BytesAt G w (.slice (some ⟨g, o, none⟩) n c) l) (i m : Nat) (hi : i + m ≤ l.length) : BytesAt G w (.slice (some ⟨g, o + i, none⟩) m (c - i)) ((l.drop i).take m) := by
  obtain ⟨p, c', he, h1, h2, h3, h4⟩ := h
  cases he
  have hl : ((l.drop i).take m).length = m := by rw [List.length_take, List.length_drop]; omega
  refine ⟨_, c - i, by rw [hl], by omega, by omega, (by intro h; cases h), fun j hj => ?_⟩
  obtain ⟨b, o', he, hb, hc⟩ := h4 (i + j) (by omega)
  cases he
  refine ⟨g, o + i, rfl, hb, ?_⟩
  rw [List.getElem_take, List.getElem_drop]
  simpa [Nat.add_assoc] using hc
end Go.Proofs
