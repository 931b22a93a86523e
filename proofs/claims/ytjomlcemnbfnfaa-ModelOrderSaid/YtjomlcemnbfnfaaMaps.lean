/- Maps whose keys are ints, said of a list of keys and values in the order of their birth; of whatever program. -/
import Derived.Test.YtjomlcemnbfnfaaBase
import Derived.ChangeMaps4
namespace Sc
open Go Go.RowKit Go.ChangeMaps Go.ChangeShapes Go.WideShapes Go.MapKept

def aset {α : Type} : List (Int × α) → Int → α → List (Int × α)
  | [], k, v => [(k, v)]
  | (a, x) :: t, k, v => if a = k then (k, v) :: t else (a, x) :: aset t k v
def alook {α : Type} : List (Int × α) → Int → Option α
  | [], _ => none
  | (a, x) :: t, k => if a = k then some x else alook t k
def adel {α : Type} : List (Int × α) → Int → List (Int × α)
  | [], _ => []
  | (a, x) :: t, k => if a = k then t else (a, x) :: adel t k

/-- Two lists, element by element. -/
def All2 {α β : Type} (R : α → β → Prop) : List α → List β → Prop
  | [], [] => True
  | a :: l, b :: m => R a b ∧ All2 R l m
  | _, _ => False
theorem All2.imp {α β : Type} {R S : α → β → Prop} (h : ∀ a b, R a b → S a b) : ∀ {l : List α} {m : List β}, All2 R l m → All2 S l m
  | [], [], _ => trivial
  | _ :: _, _ :: _, ⟨h1, h2⟩ => ⟨h _ _ h1, All2.imp h h2⟩
  | [], _ :: _, h' => h'.elim
  | _ :: _, [], h' => h'.elim
theorem All2.length {α β : Type} {R : α → β → Prop} : ∀ {l : List α} {m : List β}, All2 R l m → l.length = m.length
  | [], [], _ => rfl
  | _ :: _, _ :: _, ⟨_, h2⟩ => by simp [All2.length h2]
  | [], _ :: _, h' => h'.elim
  | _ :: _, [], h' => h'.elim
theorem All2.get {α β : Type} {R : α → β → Prop} : ∀ {l : List α} {m : List β}, All2 R l m → ∀ i (h : i < l.length) (h' : i < m.length), R l[i] m[i]
  | [], [], _, i, h, _ => absurd h (by simp)
  | _ :: _, _ :: _, ⟨h1, _⟩, 0, _, _ => h1
  | _ :: _, _ :: _, ⟨_, h2⟩, i + 1, h, h' => All2.get h2 i (by simpa using h) (by simpa using h')
  | [], _ :: _, h', _, _, _ => h'.elim
  | _ :: _, [], h', _, _, _ => h'.elim
theorem All2.of_get {α β : Type} {R : α → β → Prop} : ∀ {l : List α} {m : List β}, l.length = m.length → (∀ i (h : i < l.length) (h' : i < m.length), R l[i] m[i]) → All2 R l m
  | [], [], _, _ => trivial
  | a :: l, b :: m, hl, h => ⟨h 0 (by simp) (by simp), All2.of_get (by simpa using hl) (fun i h1 h2 => h (i + 1) (by simpa using h1) (by simpa using h2))⟩
  | [], _ :: _, hl, _ => by simp at hl
  | _ :: _, [], hl, _ => by simp at hl

/-- Keys alike, and values that are so. -/
def AL {α β : Type} (R : α → β → Prop) (m : List (Int × α)) (s : List (Int × β)) : Prop := All2 (fun a b => a.1 = b.1 ∧ R a.2 b.2) m s
theorem AL.imp {α β : Type} {R S : α → β → Prop} {m : List (Int × α)} {s : List (Int × β)} (h : AL R m s) (hi : ∀ a b, R a b → S a b) : AL S m s := All2.imp (fun _ _ ⟨h1, h2⟩ => ⟨h1, hi _ _ h2⟩) h
theorem AL.keys {α β : Type} {R : α → β → Prop} : ∀ {m : List (Int × α)} {s : List (Int × β)}, AL R m s → m.map (·.1) = s.map (·.1)
  | [], [], _ => rfl
  | _ :: _, _ :: _, ⟨⟨h1, _⟩, h2⟩ => by simp [h1, AL.keys h2]
  | [], _ :: _, h' => h'.elim
  | _ :: _, [], h' => h'.elim
theorem AL.look {α β : Type} {R : α → β → Prop} (k : Int) : ∀ {m : List (Int × α)} {s : List (Int × β)}, AL R m s →
    (alook m k = none ∧ alook s k = none) ∨ ∃ v d, alook m k = some v ∧ alook s k = some d ∧ R v d
  | [], [], _ => .inl ⟨rfl, rfl⟩
  | (a1, a2) :: m, (b1, b2) :: s, ⟨⟨h1, h2⟩, h3⟩ => by
    simp only at h1 h2
    subst h1
    by_cases hk : a1 = k
    · exact .inr ⟨a2, b2, by simp [alook, hk], by simp [alook, hk], h2⟩
    · simpa [alook, hk] using AL.look k h3
  | [], _ :: _, h' => h'.elim
  | _ :: _, [], h' => h'.elim
theorem AL.set {α β : Type} {R : α → β → Prop} (k : Int) {v : α} {d : β} (hv : R v d) : ∀ {m : List (Int × α)} {s : List (Int × β)}, AL R m s → AL R (aset m k v) (aset s k d)
  | [], [], _ => ⟨⟨rfl, hv⟩, trivial⟩
  | (a1, a2) :: m, (b1, b2) :: s, ⟨⟨h1, h2⟩, h3⟩ => by
    simp only at h1 h2
    subst h1
    by_cases hk : a1 = k
    · simp only [aset, if_pos hk]; exact ⟨⟨rfl, hv⟩, h3⟩
    · simp only [aset, if_neg hk]; exact ⟨⟨rfl, h2⟩, AL.set k hv h3⟩
  | [], _ :: _, h' => h'.elim
  | _ :: _, [], h' => h'.elim
theorem AL.del {α β : Type} {R : α → β → Prop} (k : Int) : ∀ {m : List (Int × α)} {s : List (Int × β)}, AL R m s → AL R (adel m k) (adel s k)
  | [], [], _ => trivial
  | (a1, a2) :: m, (b1, b2) :: s, ⟨⟨h1, h2⟩, h3⟩ => by
    simp only at h1 h2
    subst h1
    by_cases hk : a1 = k
    · simp only [adel, if_pos hk]; exact h3
    · simp only [adel, if_neg hk]; exact ⟨⟨rfl, h2⟩, AL.del k h3⟩
  | [], _ :: _, h' => h'.elim
  | _ :: _, [], h' => h'.elim

def ent (x : MapEntry) : Value × Value := (x.key, x.val)
def pr (x : Int × Value) : Value × Value := (.int .i64 x.1, x.2)

/-- The map object at r holds just these keys and values. -/
def MapIs (w : World) (r : Nat) (m : List (Int × Value)) : Prop :=
  ∃ es clock, w.heap[r]? = some (.map es clock) ∧ es.toList.map ent = m.map pr ∧ (m.map (·.1)).Nodup ∧ (∀ x ∈ es.toList, x.born < clock) ∧ (es.toList.map (·.born)).Nodup

theorem MapIs.same {G : Nat → Prop} {w w' : World} {r : Nat} {m : List (Int × Value)} (h : MapIs w r m) (hs : Same G w w') (hr : G r) : MapIs w' r m :=
  let ⟨es, c, h1, h2⟩ := h; ⟨es, c, by rw [hs r hr]; exact h1, h2⟩
theorem MapIs.lt {w : World} {r : Nat} {m : List (Int × Value)} (h : MapIs w r m) : r < w.heap.size := by
  obtain ⟨es, c, h1, _⟩ := h
  exact (Array.getElem?_eq_some_iff.1 h1).1

theorem MapIs.alloc {w : World} {r : Nat} {m : List (Int × Value)} (h : MapIs w r m) (o : Obj) : MapIs (w.alloc o) r m :=
  h.same (G := (· < w.heap.size)) (fun _ hk => Below.heap_alloc w o _ hk) h.lt
theorem MapIs.up {w w' : World} {r : Nat} {m : List (Int × Value)} (h : MapIs w r m) (hb : Below w.heap.size w w') : MapIs w' r m :=
  h.same (G := (· < w.heap.size)) (fun _ hk => hb.block _ hk) h.lt
/-- Only the map at r has turned. -/
structure Turned (r : Nat) (w w' : World) : Prop where
  os : w'.os = w.os
  tape : w'.tape = w.tape
  output : w'.output = w.output
  size : w'.heap.size = w.heap.size
  block : ∀ k, k ≠ r → w'.heap[k]? = w.heap[k]?
  was : ∃ es c, w.heap[r]? = some (.map es c)
  is : ∃ es c, w'.heap[r]? = some (.map es c)

theorem Turned.cell {r : Nat} {w w' : World} (h : Turned r w w') (a : Addr) : w'.cell? a = w.cell? a := by
  by_cases ha : a.block = r
  · obtain ⟨es, c, h1⟩ := h.was
    obtain ⟨es', c', h2⟩ := h.is
    simp [World.cell?, ha, h1, h2]
  · exact World.cell?_of_block (h.block _ ha)
theorem Turned.frozen {r : Nat} {w w' : World} (h : Turned r w w') (a : Addr) : w'.frozen? a = w.frozen? a := by
  by_cases ha : a.block = r
  · obtain ⟨es, c, h1⟩ := h.was
    obtain ⟨es', c', h2⟩ := h.is
    simp [World.frozen?, ha, h1, h2]
  · exact World.frozen?_of_block (h.block _ ha)
theorem Turned.chg {r : Nat} {w w' : World} (h : Turned r w w') {S : Nat → Prop} (hr : S r) : Chg S w w' :=
  ⟨h.os, h.tape, h.output, by rw [h.size]; exact Nat.le_refl _, fun k _ hk => h.block k (fun e => hk (e ▸ hr))⟩
theorem Turned.below {r B : Nat} {w w' : World} (h : Turned r w w') (hr : B ≤ r) : Below B w w' :=
  ⟨h.os, h.tape, h.output, by rw [h.size]; exact Nat.le_refl _, fun k hk => h.block k (by omega)⟩
theorem BytesAt.cells {G : Nat → Prop} {w w' : World} {v : Value} {l : Bytes} (h : BytesAt G w v l) (hc : ∀ a, w'.cell? a = w.cell? a) : BytesAt G w' v l :=
  SlAt.up h (fun _ _ _ h => (hc _).trans h)
theorem turned_set {r : Nat} {w : World} {es es' : Array MapEntry} {c c' : Nat} (h : w.heap[r]? = some (.map es c)) : Turned r w (setBlock w r (.map es' c')) :=
  ⟨rfl, rfl, rfl, by simp [setBlock], fun k hk => heap_setBlock_other h _ hk, ⟨es, c, h⟩, ⟨es', c', heap_setBlock_same h _⟩⟩

theorem MapIs.made (w : World) : MapIs (w.alloc (.map #[] 0)) w.heap.size [] :=
  ⟨#[], 0, heap_alloc_new w _, rfl, List.nodup_nil, fun x hx => by simp at hx, by simp⟩

theorem keys_of {es : List MapEntry} {m : List (Int × Value)} (h : es.map ent = m.map pr) : ∀ x ∈ es, ∃ n v, (n, v) ∈ m ∧ x.key = .int .i64 n ∧ x.val = v := by
  intro x hx
  have : ent x ∈ m.map pr := by rw [← h]; exact List.mem_map.2 ⟨x, hx, rfl⟩
  obtain ⟨⟨n, v⟩, hm, he⟩ := List.mem_map.1 this
  simp only [ent, pr, Prod.mk.injEq] at he
  exact ⟨n, v, hm, he.1.symm, he.2.symm⟩

theorem alook_of {α : Type} {m : List (Int × α)} (hn : (m.map (·.1)).Nodup) {j : Nat} {n : Int} {v : α} (h : m[j]? = some (n, v)) : alook m n = some v := by
  induction m generalizing j with
  | nil => simp at h
  | cons a t ih =>
    obtain ⟨a, x⟩ := a
    cases j with
    | zero => simp at h; obtain ⟨rfl, rfl⟩ := h; simp [alook]
    | succ j =>
      simp only [List.getElem?_cons_succ] at h
      simp only [List.map_cons, List.nodup_cons] at hn
      have : a ≠ n := by
        intro e; subst e
        exact hn.1 (List.mem_map.2 ⟨(a, v), List.mem_of_getElem? h, rfl⟩)
      simp only [alook, if_neg this]
      exact ih hn.2 h
theorem alook_none {α : Type} {m : List (Int × α)} {n : Int} : alook m n = none ↔ ∀ x ∈ m, x.1 ≠ n := by
  induction m with
  | nil => simp [alook]
  | cons a t ih =>
    obtain ⟨a, x⟩ := a
    by_cases h : a = n
    · simp [alook, h]
    · simp [alook, h, ih]
theorem aset_new {α : Type} {m : List (Int × α)} {n : Int} {v : α} (h : ∀ x ∈ m, x.1 ≠ n) : aset m n v = m ++ [(n, v)] := by
  induction m with
  | nil => rfl
  | cons a t ih =>
    obtain ⟨a, x⟩ := a
    have := h (a, x) (by simp)
    simp only [aset, if_neg this, List.cons_append]
    rw [ih (fun y hy => h y (by simp [hy]))]
theorem aset_at {α : Type} {m : List (Int × α)} (hn : (m.map (·.1)).Nodup) {j : Nat} {n : Int} {u v : α} (h : m[j]? = some (n, u)) : aset m n v = m.set j (n, v) := by
  induction m generalizing j with
  | nil => simp at h
  | cons a t ih =>
    obtain ⟨a, x⟩ := a
    cases j with
    | zero => simp at h; obtain ⟨rfl, rfl⟩ := h; simp [aset]
    | succ j =>
      simp only [List.getElem?_cons_succ] at h
      simp only [List.map_cons, List.nodup_cons] at hn
      have : a ≠ n := by
        intro e; subst e
        exact hn.1 (List.mem_map.2 ⟨(a, u), List.mem_of_getElem? h, rfl⟩)
      simp only [aset, if_neg this, List.set_cons_succ]
      rw [ih hn.2 h]
theorem adel_none {α : Type} {m : List (Int × α)} {n : Int} (h : ∀ x ∈ m, x.1 ≠ n) : adel m n = m := by
  induction m with
  | nil => rfl
  | cons a t ih =>
    obtain ⟨a, x⟩ := a
    have := h (a, x) (by simp)
    simp only [adel, if_neg this]
    rw [ih (fun y hy => h y (by simp [hy]))]
theorem adel_at {α : Type} {m : List (Int × α)} (hn : (m.map (·.1)).Nodup) {j : Nat} {n : Int} {u : α} (h : m[j]? = some (n, u)) : adel m n = m.eraseIdx j := by
  induction m generalizing j with
  | nil => simp at h
  | cons a t ih =>
    obtain ⟨a, x⟩ := a
    cases j with
    | zero => simp at h; obtain ⟨rfl, rfl⟩ := h; simp [adel]
    | succ j =>
      simp only [List.getElem?_cons_succ] at h
      simp only [List.map_cons, List.nodup_cons] at hn
      have : a ≠ n := by
        intro e; subst e
        exact hn.1 (List.mem_map.2 ⟨(a, u), List.mem_of_getElem? h, rfl⟩)
      simp only [adel, if_neg this, List.eraseIdx_cons_succ]
      rw [ih hn.2 h]
theorem keys_aset {α : Type} (m : List (Int × α)) (n : Int) (v : α) : (aset m n v).map (·.1) = if n ∈ m.map (·.1) then m.map (·.1) else m.map (·.1) ++ [n] := by
  induction m with
  | nil => rfl
  | cons a t ih =>
    obtain ⟨a, x⟩ := a
    by_cases h : a = n
    · simp [aset, h]
    · have h' : ¬ n = a := fun e => h e.symm
      simp only [aset, if_neg h, List.map_cons, List.mem_cons, h', false_or, ih]
      split <;> simp
theorem nodup_aset {α : Type} {m : List (Int × α)} (hn : (m.map (·.1)).Nodup) (n : Int) (v : α) : ((aset m n v).map (·.1)).Nodup := by
  rw [keys_aset]
  split
  · exact hn
  · rename_i h
    rw [List.nodup_append]
    exact ⟨hn, by simp, fun a ha b hb => by simp at hb; subst hb; intro e; subst e; exact h ha⟩
theorem adel_sublist {α : Type} (m : List (Int × α)) (n : Int) : (adel m n).Sublist m := by
  induction m with
  | nil => exact List.Sublist.refl _
  | cons a t ih =>
    obtain ⟨a, x⟩ := a
    by_cases h : a = n
    · simp [adel, h]
    · simp [adel, h, ih]
theorem nodup_adel {α : Type} {m : List (Int × α)} (hn : (m.map (·.1)).Nodup) (n : Int) : ((adel m n).map (·.1)).Nodup := hn.sublist ((adel_sublist m n).map _)
theorem alook_aset {α : Type} (m : List (Int × α)) (n k : Int) (v : α) : alook (aset m n v) k = if k = n then some v else alook m k := by
  induction m with
  | nil =>
    by_cases h : n = k
    · subst h; simp [aset, alook]
    · have h' : ¬ k = n := fun e => h e.symm
      simp [aset, alook, h, h']
  | cons a t ih =>
    obtain ⟨a, x⟩ := a
    by_cases h : a = n
    · subst h
      by_cases hk : k = a
      · subst hk; simp [aset, alook]
      · have : ¬ a = k := fun e => hk e.symm
        simp [aset, alook, hk, this]
    · simp only [aset, if_neg h, alook, ih]
      by_cases hk : a = k
      · subst hk; simp [h]
      · simp [hk]
theorem alook_adel {α : Type} {m : List (Int × α)} (hn : (m.map (·.1)).Nodup) (n k : Int) : alook (adel m n) k = if k = n then none else alook m k := by
  induction m with
  | nil => simp [adel, alook]
  | cons a t ih =>
    obtain ⟨a, x⟩ := a
    simp only [List.map_cons, List.nodup_cons] at hn
    by_cases h : a = n
    · subst h
      simp only [adel, if_true, alook]
      by_cases hk : k = a
      · subst hk
        simp only [if_true]
        exact alook_none.2 (fun y hy e => hn.1 (List.mem_map.2 ⟨y, hy, e⟩))
      · have : ¬ a = k := fun e => hk e.symm
        simp [hk, this]
    · simp only [adel, if_neg h, alook, ih hn.2]
      by_cases hk : a = k
      · subst hk; simp [h]
      · simp [hk]

section
variable {P : Program} {w : World} {t k e : TypeId} {r : Nat} {m : List (Int × Value)}

theorem MapIs.find (h : MapIs w r m) (n : Int) :
    ∃ es clock, w.heap[r]? = some (.map es clock) ∧ es.toList.map ent = m.map pr ∧ (m.map (·.1)).Nodup ∧ (∀ x ∈ es.toList, x.born < clock) ∧ (es.toList.map (·.born)).Nodup ∧
     ((Instr.findNow (.int .i64) (.int .i64 n) es.toList 0 = some none ∧ (∀ x ∈ m, x.1 ≠ n)) ∨
      ∃ j x v, Instr.findNow (.int .i64) (.int .i64 n) es.toList 0 = some (some (j, v)) ∧ es.toList[j]? = some x ∧ x.key = .int .i64 n ∧ x.val = v ∧ m[j]? = some (n, v)) := by
  obtain ⟨es, clock, hb, hm, hn, hbo, hbn⟩ := h
  refine ⟨es, clock, hb, hm, hn, hbo, hbn, ?_⟩
  have hks : ∀ x ∈ es.toList, IsKey (.int .i64) x.key := by
    intro x hx
    obtain ⟨a, v, _, he, _⟩ := keys_of hm x hx
    rw [he]; exact rfl
  rcases findNow_spec (d := .int .i64) (k := .int .i64 n) rfl es.toList 0 hks with ⟨h1, h2⟩ | ⟨j, e0, h1, h2, h3⟩
  · refine .inl ⟨h1, fun x hx e => ?_⟩
    have : pr x ∈ es.toList.map ent := by rw [hm]; exact List.mem_map.2 ⟨x, hx, rfl⟩
    obtain ⟨y, hy, he⟩ := List.mem_map.1 this
    simp only [ent, pr, Prod.mk.injEq] at he
    exact h2 y hy (by rw [he.1, e])
  · refine .inr ⟨j, e0, e0.val, by simpa using h1, h2, h3, rfl, ?_⟩
    have : (es.toList.map ent)[j]? = some (ent e0) := by simp only [List.getElem?_map, h2, Option.map_some]
    rw [hm] at this
    simp only [List.getElem?_map, Option.map_eq_some_iff] at this
    obtain ⟨⟨a, v⟩, ha, he⟩ := this
    simp only [ent, pr, Prod.mk.injEq, h3] at he
    obtain ⟨he1, he2⟩ := he
    cases he1; subst he2
    exact ha

/-- 'm[k]', 'v, ok := m[k]'. -/
theorem MapIs.lookup (h : MapIs w r m) (ht : P.underlying t = some (.map k e)) (hk : P.underlying k = some (.int .i64)) {z : Value} (hz : (zeroValue e).run P w = .ok z w) (n : Int) (c : Bool) :
    (Instr.lookup t (.map (some r)) (.int .i64 n) c).run P w = .ok (if c then .tuple #[(alook m n).getD z, .bool (alook m n).isSome] else (alook m n).getD z) w := by
  obtain ⟨es, clock, hb, hm, hn, hbo, hbn, hf⟩ := h.find n
  have hkey : IsKey (.int .i64) (.int .i64 n) := rfl
  rcases hf with ⟨h1, h2⟩ | ⟨j, x, v, h1, h2, h3, h4, h5⟩
  · rw [alook_none.2 h2]
    cases c <;> simp [Instr.lookup, run_underlying ht, MapKept.run_getObj_map hb, run_checkKey hk hkey, run_findKey hk h1, hz, Result.andThen]
  · rw [alook_of hn h5]
    cases c <;> simp [Instr.lookup, run_underlying ht, MapKept.run_getObj_map hb, run_checkKey hk hkey, run_findKey hk h1, Result.andThen]

/-- 'm[k] = v'. -/
theorem MapIs.update (h : MapIs w r m) (ht : P.underlying t = some (.map k e)) (hk : P.underlying k = some (.int .i64)) (n : Int) (v : Value) :
    ∃ w', (Instr.mapUpdate t (.map (some r)) (.int .i64 n) v).run P w = .ok () w' ∧ MapIs w' r (aset m n v) ∧ Turned r w w' := by
  obtain ⟨es, clock, hb, hm, hn, hbo, hbn, hf⟩ := h.find n
  have hkey : IsKey (.int .i64) (.int .i64 n) := rfl
  rcases hf with ⟨h1, h2⟩ | ⟨j, x, u, h1, h2, h3, h4, h5⟩
  · refine ⟨setBlock w r (.map (es.push ⟨.int .i64 n, v, clock⟩) (clock + 1)), ?_, ⟨_, _, heap_setBlock_same hb _, ?_, nodup_aset hn n v, ?_, ?_⟩, turned_set hb⟩
    · simp [Instr.mapUpdate, run_underlying ht, MapKept.run_getObj_map hb, run_checkKey hk hkey, run_findKey hk h1, MapKept.run_setObj_map _ hb, Result.andThen, setBlock]
    · rw [aset_new h2, Array.toList_push, List.map_append, hm, List.map_append]; rfl
    · intro x hx
      rw [Array.toList_push, List.mem_append, List.mem_singleton] at hx
      rcases hx with hx | rfl
      · have := hbo x hx; omega
      · show clock < clock + 1; omega
    · rw [Array.toList_push, List.map_append, List.nodup_append]
      refine ⟨hbn, by simp, fun a ha b hb' => ?_⟩
      simp at hb'; subst hb'
      obtain ⟨x, hx, rfl⟩ := List.mem_map.1 ha
      have := hbo x hx; omega
  · have hj : es[j]? = some x := by simpa using h2
    have hjl : j < es.toList.length := (List.getElem?_eq_some_iff.1 h2).1
    have hx : es.toList[j] = x := by rw [List.getElem?_eq_getElem hjl] at h2; exact Option.some.inj h2
    have hmod : (es.modify j (fun e' => { e' with key := .int .i64 n, val := v })).toList = es.toList.set j { x with key := .int .i64 n, val := v } := by
      rw [Array.toList_modify, modify_eq_set _ _ _ _ h2]
    refine ⟨setBlock w r (.map (es.modify j (fun e' => { e' with key := .int .i64 n, val := v })) clock), ?_, ⟨_, _, heap_setBlock_same hb _, ?_, nodup_aset hn n v, ?_, ?_⟩, turned_set hb⟩
    · simp [Instr.mapUpdate, run_underlying ht, MapKept.run_getObj_map hb, run_checkKey hk hkey, run_findKey hk h1, hj, h3, run_keyThatStays hkey, MapKept.run_setObj_map _ hb, Result.andThen, setBlock]
    · rw [hmod, aset_at hn h5, List.map_set, hm, List.map_set]; rfl
    · intro y hy
      rw [hmod] at hy
      rcases List.mem_or_eq_of_mem_set hy with hy | rfl
      · exact hbo y hy
      · exact hbo x (List.mem_of_getElem? h2)
    · rw [hmod, List.map_set]
      have : (es.toList.map (·.born)).set j x.born = es.toList.map (·.born) := by
        apply List.ext_getElem
        · simp
        · intro i h1 h2
          simp only [List.getElem_set]
          split
          · rename_i hij; subst hij; simp [← hx]
          · rfl
      show ((es.toList.map (·.born)).set j x.born).Nodup
      rw [this]; exact hbn

/-- 'delete(m, k)'. -/
theorem MapIs.delete {ty : TypeId} (h : MapIs w r m) (ht : P.underlying t = some (.map k e)) (hk : P.underlying k = some (.int .i64)) (n : Int) :
    ∃ w', (Builtin.delete_ #[t, k] ty #[.map (some r), .int .i64 n]).run P w = .ok (.tuple #[]) w' ∧ MapIs w' r (adel m n) ∧ Turned r w w' := by
  obtain ⟨es, clock, hb, hm, hn, hbo, hbn, hf⟩ := h.find n
  have hkey : IsKey (.int .i64) (.int .i64 n) := rfl
  rcases hf with ⟨h1, h2⟩ | ⟨j, x, u, h1, h2, h3, h4, h5⟩
  · refine ⟨setBlock w r (.map es clock), ?_, ⟨_, _, heap_setBlock_same hb _, ?_, nodup_adel hn n, hbo, hbn⟩, turned_set hb⟩
    · simp [Builtin.delete_, run_underlying ht, MapKept.run_getObj_map hb, run_checkKey hk hkey, run_findKey hk h1, MapKept.run_setObj_map _ hb, Result.andThen, setBlock]
    · rw [adel_none h2]; exact hm
  · have hjl : j < es.toList.length := (List.getElem?_eq_some_iff.1 h2).1
    have hsub : (es.eraseIdxIfInBounds j).toList = es.toList.eraseIdx j := by
      unfold Array.eraseIdxIfInBounds
      rw [dif_pos (by simpa using hjl)]
      simp
    refine ⟨setBlock w r (.map (es.eraseIdxIfInBounds j) clock), ?_, ⟨_, _, heap_setBlock_same hb _, ?_, nodup_adel hn n, ?_, ?_⟩, turned_set hb⟩
    · simp [Builtin.delete_, run_underlying ht, MapKept.run_getObj_map hb, run_checkKey hk hkey, run_findKey hk h1, MapKept.run_setObj_map _ hb, Result.andThen, setBlock]
    · rw [hsub, adel_at hn h5, map_eraseIdx, hm, map_eraseIdx]
    · intro y hy
      rw [hsub] at hy
      exact hbo y ((List.eraseIdx_sublist _ _).subset hy)
    · rw [hsub]
      exact hbn.sublist ((List.eraseIdx_sublist _ _).map _)

theorem MapIs.len (h : MapIs w r m) (ht : P.underlying t = some (.map k e)) (ty : TypeId) : (Builtin.len_ #[t] ty #[.map (some r)]).run P w = .ok (.int .i64 m.length) w := by
  obtain ⟨es, clock, hb, hm, _⟩ := h
  have : es.size = m.length := by
    have h1 := congrArg List.length hm
    simpa using h1
  simp [Builtin.len_, run_underlying ht, MapKept.run_getObj_map hb, Result.andThen, this, goInt]
end
theorem adel_aset {α : Type} (m : List (Int × α)) (n : Int) (v : α) : adel (aset m n v) n = adel m n := by
  induction m with
  | nil => simp [aset, adel]
  | cons a t ih =>
    obtain ⟨a, x⟩ := a
    by_cases h : a = n
    · simp [aset, adel, h]
    · simp [aset, adel, h, ih]
theorem ownsRow_lower {w : World} {B B' T k n : Nat} {v : Value} {xs : List Value} (h : w.ownsRow B T k v n xs) (hB : B' ≤ B) : w.ownsRow B' T k v n xs := by
  obtain ⟨h1, hc | ⟨g, cap, cur, h2, h3, h4⟩⟩ := h
  · exact ⟨h1, .inl hc⟩
  · exact ⟨h1, .inr ⟨g, cap, cur, h2, by omega, h4⟩⟩
theorem alook_mem {α : Type} {m : List (Int × α)} (hn : (m.map (·.1)).Nodup) {n : Int} {v : α} (h : (n, v) ∈ m) : alook m n = some v := by
  obtain ⟨j, hj, he⟩ := List.getElem_of_mem h
  exact alook_of hn (j := j) (by rw [List.getElem?_eq_getElem hj, he])

theorem alook_in {α : Type} {m : List (Int × α)} {n : Int} {v : α} (h : alook m n = some v) : (n, v) ∈ m := by
  induction m with
  | nil => simp [alook] at h
  | cons a t ih =>
    obtain ⟨a, x⟩ := a
    by_cases hk : a = n
    · simp [alook, hk] at h; subst hk; subst h; simp
    · simp only [alook, if_neg hk] at h; exact List.mem_cons_of_mem _ (ih h)
theorem aset_mem {α : Type} {m : List (Int × α)} {n : Int} {v : α} {x : Int × α} (h : x ∈ aset m n v) : x = (n, v) ∨ x ∈ m := by
  induction m with
  | nil => simp [aset] at h; exact .inl h
  | cons a t ih =>
    obtain ⟨a, y⟩ := a
    by_cases hk : a = n
    · rw [aset, if_pos hk] at h
      rcases List.mem_cons.1 h with h | h
      · exact .inl h
      · exact .inr (List.mem_cons_of_mem _ h)
    · rw [aset, if_neg hk] at h
      rcases List.mem_cons.1 h with h | h
      · exact .inr (by rw [h]; exact List.mem_cons_self ..)
      · exact (ih h).imp id (List.mem_cons_of_mem _)
theorem aset_length {α : Type} (m : List (Int × α)) (n : Int) (v : α) : (aset m n v).length ≤ m.length + 1 := by
  induction m with
  | nil => simp [aset]
  | cons a t ih =>
    obtain ⟨a, y⟩ := a
    by_cases hk : a = n
    · simp [aset, hk]
    · simp only [aset, if_neg hk, List.length_cons]; omega
theorem adel_length {α : Type} {m : List (Int × α)} {n : Int} : (adel m n).length = if (alook m n).isSome then m.length - 1 else m.length := by
  induction m with
  | nil => rfl
  | cons a t ih =>
    obtain ⟨a, x⟩ := a
    by_cases h : a = n
    · simp [adel, alook, h]
    · simp only [adel, if_neg h, alook, List.length_cons, ih]
      split
      · rename_i hs
        cases t with
        | nil => simp [alook] at hs
        | cons b u => simp
      · rfl
end Sc
