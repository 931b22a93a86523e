/- An append in a region that is walked operation by operation, by an equation of its run; of whatever program. -/
import Derived.Test.YtjomlcemnbfnfaaAu6
import Derived.Test.YtjomlcemnbfnfaaAppend
namespace Sc
open Go Go.RowKit
theorem wp_append_run {P : Program} {w : World} {o : Oper} {a : Act} {K : Act → World → Prop} {Q : Exit → Act → World → Prop} (s x : Operand) (t : TypeId)
    (ho : o.op = .call { callee := .builtin .append, args := #[s, x], argTypes := #[t, t] }) {v u : Value} (hs : a.eval s = v) (hx : a.eval x = u) {v' : Value} {w' : World}
    (hr : (Builtin.append_ #[t, t] o.type #[v, u]).run P w = .ok v' w') (h : K (a.put o.dst v') w') : Oper.wp P o a w K Q := by
  unfold Oper.wp execOp
  simp only [ho, resolve, invoke, builtin, Sem.run_bind, Sem.run_pure, Result.andThen_ok, List.map_toArray, List.map_cons, List.map_nil, hs, hx, hr]
  exact h
end Sc
namespace Sc
open Go Go.RowKit
theorem wpList_append_run {P : Program} {w : World} {ops : Array Oper} {rest : List Oper} {o : Oper} {a : Act} {Q : Exit → Act → World → Prop} (hgd : o.guard = none) (s x : Operand) (t : TypeId)
    (ho : o.op = .call { callee := .builtin .append, args := #[s, x], argTypes := #[t, t] }) {v u : Value} (hs : a.eval s = v) (hx : a.eval x = u) {v' : Value} {w' : World}
    (hr : (Builtin.append_ #[t, t] o.type #[v, u]).run P w = .ok v' w') (h : wpList P ops Q rest (a.put o.dst v') w') : wpList P ops Q (o :: rest) a w :=
  wpList_plain hgd fun _ hK => wp_append_run s x t ho hs hx hr (hK _ _ h)
/-- One element more of a row, behind an append. -/
theorem Sep.row_push {P : Program} {W w : World} {L : List Asn} (h : Sep W L w) (i : Nat) {T k n : Nat} {v : Value} {xs : List Value} (hi : L[i]? = some (RowA T k v n xs))
    (t ty : TypeId) (ii : TypeInfo) (z : Value) (bytes : Nat) (ht : P.underlying t = some (.slice T)) (hii : P.info? T = some ii) (hz : ii.zero = some z) (hsize : ii.size = k) (hby : ii.bytes = bytes) (hzs : z.cells.size = k) (hsz : 0 < k)
    {cs : Array Value} (hcs : cs.toList.length = k) (h1 : ∀ u ∈ cs.toList, u.oneCell' = true) (h63 : n + 1 ≤ maxLen) (hbytes : (n + 1) * bytes ≤ 140737488355328) (B : Nat) (hB : w.heap.size = B) :
    ∃ g cap w', (Builtin.append_ #[t, t] ty #[v, .slice (some ⟨B, 0, none⟩) 1 1]).run P (w.alloc (.cells cs T (0, 0))) = .ok (.slice (some ⟨g, 0, none⟩) (n + 1) cap) w' ∧
      Sep W (L.set i (RowA T k (.slice (some ⟨g, 0, none⟩) (n + 1) cap) (n + 1) (xs ++ cs.toList))) w' := by
  subst hB
  obtain ⟨F, hF, hdF⟩ := h.get i hi
  have hb := below_alloc w (.cells cs T (0, 0))
  have hown : (w.alloc (.cells cs T (0, 0))).ownsRow 0 T k v n xs := row_same (fun q hq => hb.block q (hdF q hq)) hF.1 hF.2
  obtain ⟨v', w', hr, ho, hg, hn, hat⟩ := run_append_own_at (P := P) (w.alloc (.cells cs T (0, 0))) 0 t ty T ii z k bytes ht hii hz hsize hby hzs hsz v n xs hown ⟨w.heap.size, 0, none⟩ 1 1 cs.toList (by rw [hcs, Nat.one_mul]) (World.news_of_block (cs := cs) (heap_alloc_new w _)) h1 h63 hbytes (Nat.zero_le _)
  have hlt := ho.lt
  obtain ⟨hx, ⟨rfl, h0⟩ | ⟨g, cap, cur, rfl, hrest⟩⟩ := ho
  · exact absurd h0 (by omega)
  · refine ⟨g, cap, w', hr, h.row_app i hi hb ⟨hx, .inr ⟨g, cap, cur, rfl, hrest⟩⟩ hg (H := w.heap.size + 1) ?_ (by simp) (hlt g rfl).2⟩
    rcases hat with e | e
    · exact .inl e.symm
    · refine .inr ?_
      simpa [Value.ownBlock] using e
end Sc
