/- Texts of this claim, one behind the other: RegG, RegH, RegTk, Base, Sep, Out, LaySort, Find, FindExt, PlainIval, Alike, Ival1, SortExt, Block. -/
import Derived.Orders
import Derived.Tactics
import Derived.Tactics2
import Derived.KernelRfl
import Derived.WalkKit
import Derived.WalkSpells
import Derived.WalkLawsBesides
import Derived.Lib.Hide
import Derived.Deep.AppendLies
import Derived.Shelf.SlSortCmp.WholeK
import Derived.Shelf.SlicesG.Cmp
import Derived.Ground.SlsfProg
import Derived.Ground.SlgcProg
import Derived.Test.YtcbgpeamondhmaaGreatDoorChecked
import Derived.Shelf.Abstract
import Derived.Deep.LoopGhost
import Derived.Deep.QuietTactic
import Derived.BigQuiet
namespace Sc
open Go
section
variable {P:Program} {ops:Array Oper} {Q:Exit→Act→World→Prop} {md:Region.Mode}
theorem wpOp_track {j:Nat} {oj:Oper} (hj:ops[j]? = some oj) {K:Act→World→Prop} {a:Act} {w:World} (h:wpOp P ops Q j K a w) :
  wpOp P ops Q j (fun a' w'=>K a' w'∧∃ u ds,a'=Act.put { a with defers:=ds } oj.dst u) a w:=by
 unfold wpOp at *
 simp only [hj] at *
 split
 ·rename_i hw
  simp only [hw,if_true] at h
  rcases h with h | h
  ·refine .inl ?_
   unfold Oper.wp at *
   generalize (execOp a.eval oj).run P w=r at *
   cases r with
   | ok n w' =>
    cases n <;> simp only [Oper.upon] at h ⊢
    case value u=>exact ⟨h,u,a.defers,rfl⟩
    case skip=>exact ⟨h,undef,a.defers,rfl⟩
    case defer d=>exact ⟨h,undef,d :: a.defers,rfl⟩
    case enter f args =>
     refine Calls.mono h fun e w'' he=>?_
     cases e with
     | returned u=>exact ⟨he,u,a.defers,rfl⟩
     | panicked c=>exact he
     | outgrown=>exact he
    case row row args=>exact Rows.mono h fun u w'' he=>⟨he,u,a.defers,rfl⟩
   | halt x w'=>cases x <;> simp only [Oper.upon] at h ⊢ <;> exact h
  ·exact .inr h
 ·rename_i hw
  simp only [hw] at h
  exact ⟨h,undef,a.defers,rfl⟩
def wpG (P:Program) (md:Region.Mode) (ops:Array Oper) (Q:Exit→Act→World→Prop) (G:World→Prop):Nat→Array Bool→Act→World→Prop
 | 0,listed,a,w=>G w∧Region.ready md ops listed=[]∧Q .normal a w
 | fuel+1,listed,a,w =>
  G w∧(Region.ready md ops listed=[]→Q .normal a w) ∧
  ∀ i∈Region.ready md ops listed,wpOp P ops Q i (wpG P md ops Q G fuel (listed.setIfInBounds i true)) a w
theorem wpG.g {G:World→Prop}:∀ {fuel:Nat} {listed:Array Bool} {a:Act} {w:World},wpG P md ops Q G fuel listed a w→G w
 | 0,_,_,_,h=>h.1
 | _+1,_,_,_,h=>h.1
theorem wpG.any {G:World→Prop}:∀ {fuel:Nat} {listed:Array Bool} {a:Act} {w:World},wpG P md ops Q G fuel listed a w→wpAny P md ops Q fuel listed a w
 | 0,_,_,_,h=>h.2
 | _+1,_,_,_,h=>⟨h.2.1,fun i hi=>wpOp_mono (fun _ _ h=>wpG.any h) (h.2.2 i hi)⟩
def YieldsG (P:Program) (ops:Array Oper) (G:World→Prop) (o:Oper) (v:Value) (a:Act):Prop :=
 (Region.wanted o (yielded ops a.tmps)=true∧∀ w,G w→(execOp a.eval o).run P w=.ok (.value v) w) ∨
 (Region.wanted o (yielded ops a.tmps)=false∧v=undef)
theorem YieldsG.wpOp {G:World→Prop} {i:Nat} {o:Oper} {v:Value} {a:Act} (hi:ops[i]? = some o) (hy:YieldsG P ops G o v a) {K:Act→World→Prop} {w:World} (hG:G w) (h:K (a.put o.dst v) w):wpOp P ops Q i K a w:=by
 unfold Go.wpOp
 simp only [hi]
 rcases hy with ⟨hw,hv⟩ | ⟨hw,rfl⟩
 ·rw [if_pos hw]
  refine .inl ?_
  unfold Oper.wp
  rw [hv w hG]
  exact h
 ·rw [if_neg (by rw [hw];decide)]
  exact h
theorem YieldsG.track {G:World→Prop} {oi oj:Oper} {v:Value} {a:Act} (hs:∀ cs b,oi.op≠.select cs b) (hd:∀ d,oj.dst=some d→d ∉ oi.looksAt ops) (hy:YieldsG P ops G oi v a) (u:Value) (ds:List Deferred):YieldsG P ops G oi v (Act.put { a with defers:=ds } oj.dst u):=by
 unfold YieldsG at *
 rw [wanted_put oi { a with defers:=ds } oj.dst u hd,execOp_put oi hs { a with defers:=ds } oj.dst u hd]
 exact hy
theorem fake_apart {oi oj:Oper} {v:Value} (h:oi.apart ops oj=true):({ oi with op:=.move (.const v),guard:=none }:Oper).apart ops oj=true:=by
 obtain ⟨h1,h2,h3⟩:=Oper.apart_spec h
 unfold Oper.apart
 simp only [Bool.and_eq_true]
 constructor
 ·cases hd:oi.dst with
  | none=>rfl
  | some d =>
   simp only [Bool.and_eq_true,Bool.not_eq_true',bne_iff_ne,ne_eq]
   exact ⟨by simpa using h1 d hd,h2 d hd⟩
 ·cases hd:oj.dst with
  | none=>rfl
  | some d=>simp [Oper.looksAt,Op.operands]
theorem fake_yields {oi:Oper} {v:Value} (a:Act):Yields P ops ({ oi with op:=.move (.const v),guard:=none }:Oper) v a :=
 .inl ⟨by simp [Region.wanted],fun w=>by simp [execOp,Act.eval]⟩
theorem takeG_all {G:World→Prop} {i:Nat} {oi:Oper} {v:Value} (hi:ops[i]? = some oi) (hsel:∀ (j:Nat) (o:Oper) cs b,ops[j]? = some o→o.op≠.select cs b)
  (hQ:∀ c a w,Q (.panic c) (a.put oi.dst v) w→Q (.panic c) a w) :
  ∀ (fuel:Nat) (listed:Array Bool) (a:Act) (w:World),
   (∀ j oj,ops[j]? = some oj→j≠i→listed.getD j true=false→(∀ e∈oj.after,Region.binds md e=true→e.on≠i)→oi.apart ops oj=true) →
   i∈Region.ready md ops listed→YieldsG P ops G oi v a →
   wpG P md ops Q G fuel (listed.setIfInBounds i true) (a.put oi.dst v) w→wpG P md ops Q G (fuel+1) listed a w:=by
 intro fuel
 induction fuel with
 | zero =>
  intro listed a w _ hr hy H
  refine ⟨H.1,fun h=>absurd (h ▸ hr) (by simp),fun j hj=>?_⟩
  by_cases hji:j=i
  ·subst hji;exact hy.wpOp hi H.1 H
  ·exact absurd (H.2.1 ▸ ready_mono hj hji) (by simp)
 | succ fuel ih =>
  intro listed a w hfree hr hy H
  refine ⟨H.1,fun h=>absurd (h ▸ hr) (by simp),fun j hj=>?_⟩
  by_cases hji:j=i
  ·subst hji;exact hy.wpOp hi H.1 H
  ·obtain ⟨hjun,oj,hoj,hall⟩:=mem_ready.1 hj
   have hiun:=(mem_ready.1 hr).1
   have hap:=hfree j oj hoj hji hjun fun e he hb heq=>by
    have h1:=hall e he hb
    rw [heq,Array.getD_eq_getD_getElem?] at h1
    rw [Array.getD_eq_getD_getElem?] at hiun
    cases hx:listed[i]? with
    | none=>rw [hx] at h1;cases h1
    | some b=>rw [hx] at h1 hiun;simp only [Option.getD_some] at h1 hiun;rw [h1] at hiun;cases hiun
   have h1:=H.2.2 j (ready_mono hj hji)
   have h2:=wpOp_track hoj (wpOp_put hoj (fake_apart (v:=v) hap) (fun cs b e=>by cases e) (fun cs b=>hsel j oj cs b hoj) hQ (fake_yields a) h1)
   refine wpOp_mono (fun a' w' h3=>?_) h2
   obtain ⟨⟨_,h4⟩,u,ds,rfl⟩:=h3
   refine ih _ _ w' (fun k ok hk hki hun hno=>hfree k ok hk hki ?_ hno) (ready_mono hr (Ne.symm hji)) (hy.track (fun cs b=>hsel i oi cs b hi) (Oper.apart_spec hap).2.2 u ds) ?_
   ·by_cases hjk:j=k
    ·subst hjk;exact hjun
    ·rw [getD_set_ne true hjk] at hun;exact hun
   ·rw [Array.setIfInBounds_comm _ _ hji];exact h4
theorem wpG.take {G:World→Prop} (i:Nat) {oi:Oper} {v:Value} {fuel:Nat} {listed:Array Bool} {a a':Act} {w:World} (hi:ops[i]? = some oi) (hs:Region.noSelect ops=true) (hf:Region.free md ops listed i=true) (hr:(Region.ready md ops listed).contains i=true)
  (hw:Region.wanted oi (yielded ops a.tmps)=true) (hQ:∀ c a w,Q (.panic c) (a.put oi.dst v) w→Q (.panic c) a w) (hy:∀ w,G w→(execOp a.eval oi).run P w=.ok (.value v) w) (ha:a.put oi.dst v=a')
  (h:wpG P md ops Q G fuel (listed.setIfInBounds i true) a' w):wpG P md ops Q G (fuel+1) listed a w:=by
 subst ha
 exact takeG_all hi (Region.noSelect_spec hs) hQ fuel listed a w (Region.free_spec hi hf) (by simpa using hr) (.inl ⟨hw,hy⟩) h
theorem wpG.skip {G:World→Prop} (i:Nat) {oi:Oper} {fuel:Nat} {listed:Array Bool} {a a':Act} {w:World} (hi:ops[i]? = some oi) (hs:Region.noSelect ops=true) (hf:Region.free md ops listed i=true) (hr:(Region.ready md ops listed).contains i=true)
  (hw:Region.wanted oi (yielded ops a.tmps)=false) (hQ:∀ c a w,Q (.panic c) (a.put oi.dst undef) w→Q (.panic c) a w) (ha:a.put oi.dst undef=a')
  (h:wpG P md ops Q G fuel (listed.setIfInBounds i true) a' w):wpG P md ops Q G (fuel+1) listed a w:=by
 subst ha
 exact takeG_all hi (Region.noSelect_spec hs) hQ fuel listed a w (Region.free_spec hi hf) (by simpa using hr) (.inr ⟨hw,rfl⟩) h
theorem wpG.alone {G:World→Prop} (i:Nat) {oi:Oper} {fuel:Nat} {listed:Array Bool} {a:Act} {w:World} (hi:ops[i]? = some oi) (hr:Region.ready md ops listed=[i]) (hw:Region.wanted oi (yielded ops a.tmps)=true) (hG:G w)
  (h:∀ K:Act→World→Prop,(∀ a w,wpG P md ops Q G fuel (listed.setIfInBounds i true) a w→K a w)→oi.wp P a w K Q):wpG P md ops Q G (fuel+1) listed a w:=by
 refine ⟨hG,fun h0=>absurd (hr ▸ h0) (by simp),fun j hj=>?_⟩
 rw [hr,List.mem_singleton] at hj
 subst hj
 unfold Go.wpOp
 simp only [hi]
 rw [if_pos hw]
 exact .inl (h _ fun _ _ h=>h)
theorem wpG.done {G:World→Prop} {fuel:Nat} {listed:Array Bool} {a:Act} {w:World} (hr:Region.ready md ops listed=[]) (hG:G w) (h:Q .normal a w):wpG P md ops Q G fuel listed a w:=by
 cases fuel with
 | zero=>exact ⟨hG,hr,h⟩
 | succ n=>exact ⟨hG,fun _=>h,by rw [hr];simp⟩
theorem wp_regionG {id:Nat} (G:World→Prop) {a:Act} {w:World} {l:List Oper} (hm:P.follows .mixedOrders=true) {n:Nat} (hn:l.length=n)
  (h:wpG P .any l.toArray Q G n (Array.replicate n false) a w.drew):(Code.region id l.toArray true).wp P Q a w:=by
 refine wp_region_any hm ?_
 have:l.toArray.size=n:=by simpa using hn
 rw [this]
 exact h.any
end
end Sc
namespace Sc
open Go
section
variable {P:Program} {ops:Array Oper} {Q:Exit→Act→World→Prop} {md:Region.Mode}
def wpH (P:Program) (md:Region.Mode) (ops:Array Oper) (Q:Exit→Act→World→Prop) (G:World→Prop):Nat→Array Bool→Act→World→Prop
 | 0,listed,a,w=>(∀ k,k < ops.size→listed.getD k true=true)∧Region.ready md ops listed=[]∧Q .normal a w
 | fuel+1,listed,a,w =>
  G w∧(Region.ready md ops listed=[]→Q .normal a w) ∧
  ∀ i∈Region.ready md ops listed,wpOp P ops Q i (wpH P md ops Q G fuel (listed.setIfInBounds i true)) a w
theorem wpH.any {G:World→Prop}:∀ {fuel:Nat} {listed:Array Bool} {a:Act} {w:World},wpH P md ops Q G fuel listed a w→wpAny P md ops Q fuel listed a w
 | 0,_,_,_,h=>h.2
 | _+1,_,_,_,h=>⟨h.2.1,fun i hi=>wpOp_mono (fun _ _ h=>wpH.any h) (h.2.2 i hi)⟩
def hangs (md:Region.Mode) (ops:Array Oper) (listed:Array Bool) (i:Nat):Bool :=
 (List.range ops.size).any fun l=>l != i && !(listed.getD l true) && (match ops[l]? with | some ol=>ol.after.toList.any (fun e=>Region.binds md e && e.on == i) | none=>false)
def Hangs (md:Region.Mode) (ops:Array Oper) (listed:Array Bool) (i:Nat):Prop :=
 ∃ (l:Nat) (ol:Oper) (e:_),l≠i∧l < ops.size∧listed.getD l true=false∧ops[l]? = some ol∧e∈ol.after∧Region.binds md e=true∧e.on=i
theorem hangs_spec {listed:Array Bool} {i:Nat} (h:hangs md ops listed i=true):Hangs md ops listed i:=by
 unfold hangs at h
 rw [List.any_eq_true] at h
 obtain ⟨l,hl,h⟩:=h
 rw [Bool.and_eq_true,Bool.and_eq_true] at h
 obtain ⟨⟨h1,h2⟩,h3⟩:=h
 cases ho:ops[l]? with
 | none=>rw [ho] at h3;cases h3
 | some ol =>
  rw [ho] at h3
  simp only [List.any_eq_true] at h3
  obtain ⟨e,he,h4⟩:=h3
  rw [Bool.and_eq_true] at h4
  exact ⟨l,ol,e,by simpa using h1,List.mem_range.1 hl,by simpa using h2,ho,by simpa using he,h4.1,by simpa using h4.2⟩
theorem takeH_all {G:World→Prop} {i:Nat} {oi:Oper} {v:Value} (hi:ops[i]? = some oi) (hsel:∀ (j:Nat) (o:Oper) cs b,ops[j]? = some o→o.op≠.select cs b)
  (hQ:∀ c a w,Q (.panic c) (a.put oi.dst v) w→Q (.panic c) a w) :
  ∀ (fuel:Nat) (listed:Array Bool) (a:Act) (w:World),
   (∀ j oj,ops[j]? = some oj→j≠i→listed.getD j true=false→(∀ e∈oj.after,Region.binds md e=true→e.on≠i)→oi.apart ops oj=true) →
   Hangs md ops listed i→i∈Region.ready md ops listed→YieldsG P ops G oi v a →
   wpH P md ops Q G fuel (listed.setIfInBounds i true) (a.put oi.dst v) w→wpH P md ops Q G (fuel+1) listed a w:=by
 intro fuel
 induction fuel with
 | zero =>
  intro listed a w _ hh hr hy H
  obtain ⟨l,ol,e,h1,h2,h3,_⟩:=hh
  have:=H.1 l h2
  rw [getD_set_ne true (Ne.symm h1),h3] at this
  cases this
 | succ fuel ih =>
  intro listed a w hfree hh hr hy H
  refine ⟨H.1,fun h=>absurd (h ▸ hr) (by simp),fun j hj=>?_⟩
  by_cases hji:j=i
  ·subst hji;exact hy.wpOp hi H.1 H
  ·obtain ⟨hjun,oj,hoj,hall⟩:=mem_ready.1 hj
   have hiun:=(mem_ready.1 hr).1
   have hap:=hfree j oj hoj hji hjun fun e he hb heq=>by
    have h1:=hall e he hb
    rw [heq,Array.getD_eq_getD_getElem?] at h1
    rw [Array.getD_eq_getD_getElem?] at hiun
    cases hx:listed[i]? with
    | none=>rw [hx] at h1;cases h1
    | some b=>rw [hx] at h1 hiun;simp only [Option.getD_some] at h1 hiun;rw [h1] at hiun;cases hiun
   have h1:=H.2.2 j (ready_mono hj hji)
   have h2:=wpOp_track hoj (wpOp_put hoj (fake_apart (v:=v) hap) (fun cs b e=>by cases e) (fun cs b=>hsel j oj cs b hoj) hQ (fake_yields a) h1)
   refine wpOp_mono (fun a' w' h3=>?_) h2
   obtain ⟨⟨_,h4⟩,u,ds,rfl⟩:=h3
   obtain ⟨l,ol,e,q1,q2,q3,q4,q5,q6,q7⟩:=hh
   have hlj:j≠l:=fun hx=>by
    subst hx
    rw [hoj] at q4;cases q4
    have h1:=hall e q5 q6
    rw [q7] at h1
    have hiun:=(mem_ready.1 hr).1
    rw [Array.getD_eq_getD_getElem?] at h1 hiun
    cases hx:listed[i]? with
    | none=>rw [hx] at h1;cases h1
    | some b=>rw [hx] at h1 hiun;simp only [Option.getD_some] at h1 hiun;rw [h1] at hiun;cases hiun
   refine ih _ _ w' (fun k ok hk hki hun hno=>hfree k ok hk hki ?_ hno) ⟨l,ol,e,q1,q2,by rw [getD_set_ne true hlj];exact q3,q4,q5,q6,q7⟩ (ready_mono hr (Ne.symm hji)) (hy.track (fun cs b=>hsel i oi cs b hi) (Oper.apart_spec hap).2.2 u ds) ?_
   ·by_cases hjk:j=k
    ·subst hjk;exact hjun
    ·rw [getD_set_ne true hjk] at hun;exact hun
   ·rw [Array.setIfInBounds_comm _ _ hji];exact h4
theorem wpH.take {G:World→Prop} (i:Nat) {oi:Oper} {v:Value} {fuel:Nat} {listed:Array Bool} {a a':Act} {w:World} (hi:ops[i]? = some oi) (hs:Region.noSelect ops=true) (hf:Region.free md ops listed i=true) (hr:(Region.ready md ops listed).contains i=true) (hd:hangs md ops listed i=true)
  (hw:Region.wanted oi (yielded ops a.tmps)=true) (hQ:∀ c a w,Q (.panic c) (a.put oi.dst v) w→Q (.panic c) a w) (hy:∀ w,G w→(execOp a.eval oi).run P w=.ok (.value v) w) (ha:a.put oi.dst v=a')
  (h:wpH P md ops Q G fuel (listed.setIfInBounds i true) a' w):wpH P md ops Q G (fuel+1) listed a w:=by
 subst ha
 exact takeH_all hi (Region.noSelect_spec hs) hQ fuel listed a w (Region.free_spec hi hf) (hangs_spec hd) (by simpa using hr) (.inl ⟨hw,hy⟩) h
theorem wpH.alone {G:World→Prop} (i:Nat) {oi:Oper} {fuel:Nat} {listed:Array Bool} {a:Act} {w:World} (hi:ops[i]? = some oi) (hr:Region.ready md ops listed=[i]) (hw:Region.wanted oi (yielded ops a.tmps)=true) (hG:G w)
  (h:∀ K:Act→World→Prop,(∀ a w,wpH P md ops Q G fuel (listed.setIfInBounds i true) a w→K a w)→oi.wp P a w K Q):wpH P md ops Q G (fuel+1) listed a w:=by
 refine ⟨hG,fun h0=>absurd (hr ▸ h0) (by simp),fun j hj=>?_⟩
 rw [hr,List.mem_singleton] at hj
 subst hj
 unfold Go.wpOp
 simp only [hi]
 rw [if_pos hw]
 exact .inl (h _ fun _ _ h=>h)
theorem wpH.done {G:World→Prop} {listed:Array Bool} {a:Act} {w:World} (hl:listed.toList.all id=true) (hr:Region.ready md ops listed=[]) (h:Q .normal a w):wpH P md ops Q G 0 listed a w:=by
 refine ⟨fun k _=>?_,hr,h⟩
 rw [Array.getD_eq_getD_getElem?]
 cases hk:listed[k]? with
 | none=>rfl
 | some b =>
  rw [List.all_eq_true] at hl
  have:=hl b (by
   obtain ⟨hk',rfl⟩:=Array.getElem?_eq_some_iff.1 hk
   simp)
  simpa using this
theorem wp_regionH {id:Nat} (G:World→Prop) {a:Act} {w:World} {l:List Oper} (hm:P.follows .mixedOrders=true) {n:Nat} (hn:l.length=n)
  (h:wpH P .any l.toArray Q G n (Array.replicate n false) a w.drew):(Code.region id l.toArray true).wp P Q a w:=by
 refine wp_region_any hm ?_
 have:l.toArray.size=n:=by simpa using hn
 rw [this]
 exact h.any
end
end Sc
namespace Sc
open Go
section
variable {P:Program} {ops:Array Oper} {Q:Exit→Act→World→Prop} {md:Region.Mode}
theorem wpG.tk {G:World→Prop} (i:Nat) {oi:Oper} {v:Value} {fuel:Nat} {listed:Array Bool} {a a':Act} {w:World} (h:wpG P md ops Q G fuel (listed.setIfInBounds i true) a' w)
  (hi:ops[i]? = some oi:=by rfl) (hs:Region.noSelect ops=true:=by kernel_rfl) (hf:Region.free md ops listed i=true:=by kernel_rfl) (hr:(Region.ready md ops listed).contains i=true:=by kernel_rfl)
  (hw:Region.wanted oi (yielded ops a.tmps)=true:=by kernel_rfl) (hQ:∀ c a w,Q (.panic c) (a.put oi.dst v) w→Q (.panic c) a w:=by exact fun _ _ _ h=>h)
  (hy:∀ w,G w→(execOp a.eval oi).run P w=.ok (.value v) w:=by intro W hW;go_simp;try with_reducible rfl) (ha:a.put oi.dst v=a':=by go_simp;try with_reducible rfl):wpG P md ops Q G (fuel+1) listed a w :=
 wpG.take i hi hs hf hr hw hQ hy ha h
theorem wpG.sk {G:World→Prop} (i:Nat) {oi:Oper} {fuel:Nat} {listed:Array Bool} {a a':Act} {w:World} (h:wpG P md ops Q G fuel (listed.setIfInBounds i true) a' w)
  (hi:ops[i]? = some oi:=by rfl) (hs:Region.noSelect ops=true:=by kernel_rfl) (hf:Region.free md ops listed i=true:=by kernel_rfl) (hr:(Region.ready md ops listed).contains i=true:=by kernel_rfl)
  (hw:Region.wanted oi (yielded ops a.tmps)=false:=by kernel_rfl) (hQ:∀ c a w,Q (.panic c) (a.put oi.dst undef) w→Q (.panic c) a w:=by exact fun _ _ _ h=>h)
  (ha:a.put oi.dst undef=a':=by go_simp;try with_reducible rfl):wpG P md ops Q G (fuel+1) listed a w :=
 wpG.skip i hi hs hf hr hw hQ ha h
theorem wpH.tk {G:World→Prop} (i:Nat) {oi:Oper} {v:Value} {fuel:Nat} {listed:Array Bool} {a a':Act} {w:World} (h:wpH P md ops Q G fuel (listed.setIfInBounds i true) a' w)
  (hi:ops[i]? = some oi:=by rfl) (hs:Region.noSelect ops=true:=by kernel_rfl) (hf:Region.free md ops listed i=true:=by kernel_rfl) (hr:(Region.ready md ops listed).contains i=true:=by kernel_rfl) (hd:hangs md ops listed i=true:=by kernel_rfl)
  (hw:Region.wanted oi (yielded ops a.tmps)=true:=by kernel_rfl) (hQ:∀ c a w,Q (.panic c) (a.put oi.dst v) w→Q (.panic c) a w:=by exact fun _ _ _ h=>h)
  (hy:∀ w,G w→(execOp a.eval oi).run P w=.ok (.value v) w:=by intro W hW;go_simp;try with_reducible rfl) (ha:a.put oi.dst v=a':=by go_simp;try with_reducible rfl):wpH P md ops Q G (fuel+1) listed a w :=
 wpH.take i hi hs hf hr hd hw hQ hy ha h
end
end Sc
namespace Sc
open Go Go.RowKit
def Same (G:Nat→Prop) (w w':World):Prop:=∀ k,G k→w'.heap[k]? = w.heap[k]?
theorem Same.refl (G:Nat→Prop) (w:World):Same G w w:=fun _ _=>rfl
theorem Same.trans {G:Nat→Prop} {a b c:World} (h:Same G a b) (k:Same G b c):Same G a c:=fun i hi=>(k i hi).trans (h i hi)
theorem Same.mono {G G':Nat→Prop} {w w':World} (h:Same G w w') (hg:∀ k,G' k→G k):Same G' w w':=fun i hi=>h i (hg i hi)
theorem Same.cell {G:Nat→Prop} {w w':World} (h:Same G w w') {b:Nat} (hb:G b) (o:Nat):w'.cell? ⟨b,o,none⟩=w.cell? ⟨b,o,none⟩:=World.cell?_of_block (h b hb)
structure Chg (S:Nat→Prop) (w w':World):Prop where
 os:w'.os=w.os
 tape:w'.tape=w.tape
 output:w'.output=w.output
 size:w.heap.size≤w'.heap.size
 block:∀ k,k < w.heap.size→¬ S k→w'.heap[k]? = w.heap[k]?
theorem Chg.refl (S:Nat→Prop) (w:World):Chg S w w:=⟨rfl,rfl,rfl,Nat.le_refl _,fun _ _ _=>rfl⟩
theorem Chg.trans {S:Nat→Prop} {a b c:World} (h:Chg S a b) (k:Chg S b c):Chg S a c :=
 ⟨k.os.trans h.os,k.tape.trans h.tape,k.output.trans h.output,Nat.le_trans h.size k.size,fun i hi hs=>(k.block i (Nat.lt_of_lt_of_le hi h.size) hs).trans (h.block i hi hs)⟩
theorem Chg.trans' {S T:Nat→Prop} {a b c:World} (h:Chg S a b) (k:Chg T b c) (ht:∀ i,i < a.heap.size→T i→S i):Chg S a c :=
 ⟨k.os.trans h.os,k.tape.trans h.tape,k.output.trans h.output,Nat.le_trans h.size k.size,fun i hi hs=>(k.block i (Nat.lt_of_lt_of_le hi h.size) (fun h'=>hs (ht i hi h'))).trans (h.block i hi hs)⟩
theorem Chg.mono {S T:Nat→Prop} {w w':World} (h:Chg S w w') (ht:∀ i,i < w.heap.size→S i→T i):Chg T w w' :=
 ⟨h.os,h.tape,h.output,h.size,fun i hi hs=>h.block i hi (fun h'=>hs (ht i hi h'))⟩
theorem Chg.of_below {w w':World} {B:Nat} (h:Below B w w') {S:Nat→Prop} (hs:∀ k,k < w.heap.size→B≤k→S k):Chg S w w' :=
 ⟨h.os,h.tape,h.output,h.size,fun k hk hn=>h.block k (Nat.lt_of_not_le fun h'=>hn (hs k hk h'))⟩
theorem Chg.same {S G:Nat→Prop} {w w':World} (h:Chg S w w') (hG:∀ k,G k→k < w.heap.size∧¬ S k):Same G w w':=fun k hk=>h.block k (hG k hk).1 (hG k hk).2
theorem Chg.cell {S:Nat→Prop} {w w':World} (h:Chg S w w') {b o:Nat} {v:Value} (hb:¬ S b) (hc:w.cell? ⟨b,o,none⟩=some v):w'.cell? ⟨b,o,none⟩=some v:=by
 rw [World.cell?_of_block (w:=w) (h.block b (World.block_lt_of_cell? w _ hc) hb)];exact hc
def I64 (n:Int):Prop:=-9223372036854775808≤n∧n≤9223372036854775807
abbrev Elem (α:Type):=World→Nat→Nat→α→Prop
def Stable {α:Type} (G:Nat→Prop) (E:Elem α):Prop:=∀ w w' b o x,Same G w w'→G b→E w b o x→E w' b o x
def SlAt {α:Type} (G:Nat→Prop) (k:Nat) (E:Elem α) (w:World) (v:Value) (l:List α):Prop :=
 ∃ p c,v=.slice p l.length c∧l.length≤c∧c≤9223372036854775807∧(p=none→c=0) ∧
  (∀ i (h:i < l.length),∃ b o,p=some ⟨b,o,none⟩∧G b∧E w b (o+i * k) l[i])
theorem SlAt.nil {α:Type} {G:Nat→Prop} {k:Nat} {E:Elem α} {w:World}:SlAt G k E w (.slice none 0 0) [] :=
 ⟨none,0,rfl,Nat.le_refl _,by omega,fun _=>rfl,fun i h=>absurd h (by simp)⟩
theorem SlAt.same {α:Type} {G:Nat→Prop} {k:Nat} {E:Elem α} {w w':World} {v:Value} {l:List α} (h:SlAt G k E w v l) (hs:Same G w w') (hE:Stable G E):SlAt G k E w' v l:=by
 obtain ⟨p,c,rfl,h1,h2,h3,h4⟩:=h
 refine ⟨p,c,rfl,h1,h2,h3,fun i hi=>?_⟩
 obtain ⟨b,o,hp,hb,he⟩:=h4 i hi
 exact ⟨b,o,hp,hb,hE _ _ _ _ _ hs hb he⟩
theorem SlAt.mono {α:Type} {G G':Nat→Prop} {k:Nat} {E E':Elem α} {w:World} {v:Value} {l:List α} (h:SlAt G k E w v l) (hg:∀ b,G b→G' b) (hE:∀ b o x,E w b o x→E' w b o x):SlAt G' k E' w v l:=by
 obtain ⟨p,c,rfl,h1,h2,h3,h4⟩:=h
 refine ⟨p,c,rfl,h1,h2,h3,fun i hi=>?_⟩
 obtain ⟨b,o,hp,hb,he⟩:=h4 i hi
 exact ⟨b,o,hp,hg _ hb,hE _ _ _ he⟩
theorem SlAt.base {α:Type} {G:Nat→Prop} {k:Nat} {E:Elem α} {w:World} {v:Value} {l:List α} (h:SlAt G k E w v l) :
  (l=[]∧∃ p c,v=.slice p 0 c∧c≤9223372036854775807∧(p=none→c=0)) ∨
  ∃ b o c,v=.slice (some ⟨b,o,none⟩) l.length c∧0 < l.length∧l.length≤c∧c≤9223372036854775807∧G b∧∀ i (h:i < l.length),E w b (o+i * k) l[i]:=by
 obtain ⟨p,c,rfl,h1,h2,h3,h4⟩:=h
 by_cases hl:l.length=0
 ·have:l=[]:=List.length_eq_zero_iff.1 hl
  subst this
  exact .inl ⟨rfl,p,c,rfl,h2,h3⟩
 ·obtain ⟨b,o,rfl,hb,_⟩:=h4 0 (by omega)
  refine .inr ⟨b,o,c,rfl,by omega,h1,h2,hb,fun i hi=>?_⟩
  obtain ⟨b',o',hp,_,he⟩:=h4 i hi
  cases hp
  exact he
def byteE:Elem UInt8:=fun w b o x=>w.cell? ⟨b,o,none⟩=some (.int .u8 (x.toNat:Int))
def intE:Elem Int:=fun w b o x=>w.cell? ⟨b,o,none⟩=some (.int .i64 x)∧I64 x
theorem byteE_stable (G:Nat→Prop):Stable G byteE:=fun w w' b o x hs hb h=>by unfold byteE at *;rw [hs.cell hb];exact h
abbrev Bytes:=List UInt8
def BytesAt (G:Nat→Prop):World→Value→Bytes→Prop:=SlAt G 1 byteE
def IntsAt (G:Nat→Prop):World→Value→List Int→Prop:=SlAt G 1 intE
theorem BytesAt.same {G:Nat→Prop} {w w':World} {v:Value} {l:Bytes} (h:BytesAt G w v l) (hs:Same G w w'):BytesAt G w' v l:=SlAt.same h hs (byteE_stable G)
theorem BytesAt.mono {G G':Nat→Prop} {w:World} {v:Value} {l:Bytes} (h:BytesAt G w v l) (hg:∀ b,G b→G' b):BytesAt G' w v l:=SlAt.mono h hg (fun _ _ _ h=>h)
def byteW:Elem UInt8:=fun w b o x=>w.cell? ⟨b,o,none⟩=some (.int .u8 (x.toNat:Int))∧w.frozen? ⟨b,o,none⟩=false
theorem byteW_stable (G:Nat→Prop):Stable G byteW:=fun w w' b o x hs hb h=>⟨by rw [hs.cell hb];exact h.1,by rw [World.frozen?_of_block (w:=w) (hs b hb)];exact h.2⟩
def BytesW (G:Nat→Prop):World→Value→Bytes→Prop:=SlAt G 1 byteW
theorem BytesW.bytes {G:Nat→Prop} {w:World} {v:Value} {l:Bytes} (h:BytesW G w v l):BytesAt G w v l:=SlAt.mono h (fun _ h=>h) (fun _ _ _ h=>h.1)
theorem BytesW.same {G:Nat→Prop} {w w':World} {v:Value} {l:Bytes} (h:BytesW G w v l) (hs:Same G w w'):BytesW G w' v l:=SlAt.same h hs (byteW_stable G)
theorem BytesW.mono {G G':Nat→Prop} {w:World} {v:Value} {l:Bytes} (h:BytesW G w v l) (hg:∀ b,G b→G' b):BytesW G' w v l:=SlAt.mono h hg (fun _ _ _ h=>h)
structure Put where
 lba:Int
 data:Bytes
structure Tx where
 time:Int
 puts:List Put
structure Read where
 lba:Int
 data:Bytes
 own:Bool
structure Hist where
 state:Int
 begun:Int
 time:Int
 since:Int
 upto:Int
 reads:List Read
 puts:List Put
def putE (G:Nat→Prop):Elem Put:=fun w b o x=>w.cell? ⟨b,o,none⟩=some (.int .i64 x.lba)∧I64 x.lba∧∃ v,w.cell? ⟨b,o+1,none⟩=some v∧BytesAt G w v x.data
theorem putE_stable (G:Nat→Prop):Stable G (putE G):=fun w w' b o x hs hb ⟨h1,h2,v,h3,h4⟩ =>
 ⟨by rw [hs.cell hb];exact h1,h2,v,by rw [hs.cell hb];exact h3,h4.same hs⟩
def PutsAt (G:Nat→Prop):World→Value→List Put→Prop:=SlAt G 2 (putE G)
theorem PutsAt.same {G:Nat→Prop} {w w':World} {v:Value} {l:List Put} (h:PutsAt G w v l) (hs:Same G w w'):PutsAt G w' v l:=SlAt.same h hs (putE_stable G)
theorem putE.mono {G G':Nat→Prop} {w:World} {b o:Nat} {x:Put} (hg:∀ b,G b→G' b) (h:putE G w b o x):putE G' w b o x :=
 ⟨h.1,h.2.1,let ⟨v,h3,h4⟩:=h.2.2;⟨v,h3,h4.mono hg⟩⟩
theorem PutsAt.mono {G G':Nat→Prop} {w:World} {v:Value} {l:List Put} (h:PutsAt G w v l) (hg:∀ b,G b→G' b):PutsAt G' w v l:=SlAt.mono h hg (fun _ _ _ h=>h.mono hg)
def txE (G:Nat→Prop):Elem Tx:=fun w b o x=>w.cell? ⟨b,o,none⟩=some (.int .i64 x.time)∧I64 x.time∧∃ v,w.cell? ⟨b,o+1,none⟩=some v∧PutsAt G w v x.puts
theorem txE_stable (G:Nat→Prop):Stable G (txE G):=fun w w' b o x hs hb ⟨h1,h2,v,h3,h4⟩ =>
 ⟨by rw [hs.cell hb];exact h1,h2,v,by rw [hs.cell hb];exact h3,h4.same hs⟩
def TxsAt (G:Nat→Prop):World→Value→List Tx→Prop:=SlAt G 2 (txE G)
theorem TxsAt.same {G:Nat→Prop} {w w':World} {v:Value} {l:List Tx} (h:TxsAt G w v l) (hs:Same G w w'):TxsAt G w' v l:=SlAt.same h hs (txE_stable G)
def TxAt (G:Nat→Prop) (w:World) (v:Value) (t:Tx):Prop:=∃ pv,v=.agg #[.int .i64 t.time,pv]∧I64 t.time∧PutsAt G w pv t.puts
theorem TxAt.mono {G G':Nat→Prop} {w:World} {v:Value} {t:Tx} (h:TxAt G w v t) (hg:∀ b,G b→G' b):TxAt G' w v t:=let ⟨pv,h1,h2,h3⟩:=h;⟨pv,h1,h2,h3.mono hg⟩
theorem TxAt.same {G:Nat→Prop} {w w':World} {v:Value} {t:Tx} (h:TxAt G w v t) (hs:Same G w w'):TxAt G w' v t:=let ⟨pv,h1,h2,h3⟩:=h;⟨pv,h1,h2,h3.same hs⟩
def readE (G:Nat→Prop):Elem Read:=fun w b o x=>w.cell? ⟨b,o,none⟩=some (.int .i64 x.lba)∧I64 x.lba∧(∃ v,w.cell? ⟨b,o+1,none⟩=some v∧BytesAt G w v x.data)∧w.cell? ⟨b,o+2,none⟩=some (.bool x.own)
theorem readE_stable (G:Nat→Prop):Stable G (readE G):=fun w w' b o x hs hb ⟨h1,h2,⟨v,h3,h4⟩,h5⟩ =>
 ⟨by rw [hs.cell hb];exact h1,h2,⟨v,by rw [hs.cell hb];exact h3,h4.same hs⟩,by rw [hs.cell hb];exact h5⟩
def ReadsAt (G:Nat→Prop):World→Value→List Read→Prop:=SlAt G 3 (readE G)
theorem ReadsAt.same {G:Nat→Prop} {w w':World} {v:Value} {l:List Read} (h:ReadsAt G w v l) (hs:Same G w w'):ReadsAt G w' v l:=SlAt.same h hs (readE_stable G)
def histE (G:Nat→Prop):Elem Hist:=fun w b o x=>w.cell? ⟨b,o,none⟩=some (.int .i64 x.state)∧w.cell? ⟨b,o+1,none⟩=some (.int .i64 x.begun)∧w.cell? ⟨b,o+2,none⟩=some (.int .i64 x.time) ∧
 w.cell? ⟨b,o+3,none⟩=some (.int .i64 x.since)∧w.cell? ⟨b,o+4,none⟩=some (.int .i64 x.upto)∧(I64 x.state∧I64 x.begun∧I64 x.time∧I64 x.since∧I64 x.upto) ∧
 (∃ v,w.cell? ⟨b,o+5,none⟩=some v∧ReadsAt G w v x.reads)∧∃ v,w.cell? ⟨b,o+6,none⟩=some v∧PutsAt G w v x.puts
def HistsAt (G:Nat→Prop):World→Value→List Hist→Prop:=SlAt G 7 (histE G)
structure Ext where
 first:Int
 len:Int
def extE:Elem Ext:=fun w b o x=>w.cell? ⟨b,o,none⟩=some (.int .i64 x.first)∧w.cell? ⟨b,o+1,none⟩=some (.int .i64 x.len)∧I64 x.first∧I64 x.len
theorem extE_stable (G:Nat→Prop):Stable G extE:=fun w w' b o x hs hb ⟨h1,h2,h3⟩=>⟨by rw [hs.cell hb];exact h1,by rw [hs.cell hb];exact h2,h3⟩
def ExtsAt (G:Nat→Prop):World→Value→List Ext→Prop:=SlAt G 2 extE
theorem ExtsAt.same {G:Nat→Prop} {w w':World} {v:Value} {l:List Ext} (h:ExtsAt G w v l) (hs:Same G w w'):ExtsAt G w' v l:=SlAt.same h hs (extE_stable G)
theorem below_drewN {B:Nat} {a w:World} (h:Below B a w) (n:Nat):Below B a (w.drewN n):=⟨h.os,h.tape,h.output,h.size,h.block⟩
theorem heap_new {w:World} {o:Obj} {b:Nat} (h:b=w.heap.size):(w.alloc o).heap[b]? = some o:=by subst h;exact heap_alloc_new w o
theorem heap_old {w:World} {o:Obj} {b:Nat} (h:b < w.heap.size):(w.alloc o).heap[b]? = w.heap[b]? := Below.heap_alloc w o b h
def Dom (G:Nat→Prop) (w:World):Prop:=∀ k,G k→k < w.heap.size
theorem Dom.same {G:Nat→Prop} {w w':World} (h:Dom G w) (hb:Below w.heap.size w w'):Same G w w':=fun k hk=>hb.block k (h k hk)
theorem Dom.of_size {G:Nat→Prop} {w w':World} (h:Dom G w) (hs:w.heap.size≤w'.heap.size):Dom G w':=fun k hk=>Nat.lt_of_lt_of_le (h k hk) hs
theorem Dom.below {G:Nat→Prop} {w w':World} {B:Nat} (h:Dom G w) (hb:Below B w w'):Dom G w':=h.of_size hb.size
theorem SlAt.up {α:Type} {G:Nat→Prop} {k:Nat} {E:Elem α} {w w':World} {v:Value} {l:List α} (h:SlAt G k E w v l) (hE:∀ b o x,E w b o x→E w' b o x):SlAt G k E w' v l:=by
 obtain ⟨p,c,rfl,h1,h2,h3,h4⟩:=h
 refine ⟨p,c,rfl,h1,h2,h3,fun i hi=>?_⟩
 obtain ⟨b,o,hp,hb,he⟩:=h4 i hi
 exact ⟨b,o,hp,hb,hE _ _ _ he⟩
theorem cell_up {w w':World} (hb:Below w.heap.size w w') {b o:Nat} {v:Value} (h:w.cell? ⟨b,o,none⟩=some v):w'.cell? ⟨b,o,none⟩=some v :=
 (hb.cell (p:=⟨b,o,none⟩) (World.block_lt_of_cell? w _ h)).trans h
theorem BytesAt.up {G:Nat→Prop} {w w':World} {v:Value} {l:Bytes} (h:BytesAt G w v l) (hb:Below w.heap.size w w'):BytesAt G w' v l :=
 SlAt.up h (fun _ _ _ h=>cell_up hb h)
theorem BytesW.up {G:Nat→Prop} {w w':World} {v:Value} {l:Bytes} (h:BytesW G w v l) (hb:Below w.heap.size w w'):BytesW G w' v l :=
 SlAt.up h (fun b o _ h=>⟨cell_up hb h.1,(hb.frozen (p:=⟨b,o,none⟩) (World.block_lt_of_cell? w _ h.1)).trans h.2⟩)
theorem PutsAt.up {G:Nat→Prop} {w w':World} {v:Value} {l:List Put} (h:PutsAt G w v l) (hb:Below w.heap.size w w'):PutsAt G w' v l :=
 SlAt.up h (fun _ _ _ ⟨h1,h2,v,h3,h4⟩=>⟨cell_up hb h1,h2,v,cell_up hb h3,h4.up hb⟩)
theorem TxsAt.up {G:Nat→Prop} {w w':World} {v:Value} {l:List Tx} (h:TxsAt G w v l) (hb:Below w.heap.size w w'):TxsAt G w' v l :=
 SlAt.up h (fun _ _ _ ⟨h1,h2,v,h3,h4⟩=>⟨cell_up hb h1,h2,v,cell_up hb h3,h4.up hb⟩)
theorem ExtsAt.up {G:Nat→Prop} {w w':World} {v:Value} {l:List Ext} (h:ExtsAt G w v l) (hb:Below w.heap.size w w'):ExtsAt G w' v l :=
 SlAt.up h (fun _ _ _ h=>⟨cell_up hb h.1,cell_up hb h.2.1,h.2.2⟩)
theorem below_alloc (w:World) (o:Obj):Below w.heap.size w (w.alloc o):=(Below.refl _ _).alloc (Nat.le_refl _) _
theorem txE_txAt {G:Nat→Prop} {w:World} {b o:Nat} {t:Tx} (h:txE G w b o t):∃ pv,w.cell? ⟨b,o,none⟩=some (.int .i64 t.time)∧w.cell? ⟨b,o+1,none⟩=some pv∧TxAt G w (.agg #[.int .i64 t.time,pv]) t∧pv.oneCell'=true:=by
 obtain ⟨h1,h2,pv,h3,h4⟩:=h
 exact ⟨pv,h1,h3,⟨pv,rfl,h2,h4⟩,by obtain ⟨_,_,rfl,_⟩:=h4;rfl⟩
theorem take_snoc {α:Type} (l:List α) (k:Nat) (h:k < l.length):l.take (k+1)=l.take k++[l[k]]:=by
 rw [List.take_succ_eq_append_getElem h]
theorem Chg.then_up {S:Nat→Prop} {a b c:World} (h:Chg S a b) (k:Below b.heap.size b c):Chg S a c :=
 h.trans (Chg.of_below k (fun i h1 h2=>by omega))
theorem Chg.after_up {S:Nat→Prop} {a b c:World} (k:Below a.heap.size a b) (h:Chg S b c):Chg S a c :=
 (Chg.of_below (S:=S) k (fun i h1 h2=>by omega)).trans h
def blk (n lba:Int):Bool:=decide (0≤lba) && decide (lba < n)
def zeroB:Bytes:=List.replicate 40 0
def Tru (w:World) (e:Ending) (w':World):Prop:=e=.returned (.bool true)∧Below w.heap.size w w'
def Old (w:World) (b:Nat):Prop:=b < w.heap.size
def New (w w':World) (b:Nat):Prop:=w.heap.size≤b∧b < w'.heap.size
theorem cell_row {w:World} {b:Nat} {c:Array Value} {t:TypeId} {fz:Nat × Nat} (h:w.heap[b]? = some (.cells c t fz)) (o:Nat):w.cell? ⟨b,o,none⟩=c[o]? := by simp [World.cell?,h]
theorem fz_row {w:World} {b:Nat} {c:Array Value} {t:TypeId} (h:w.heap[b]? = some (.cells c t (0,0))) (o:Nat):w.frozen? ⟨b,o,none⟩=false:=by simp [World.frozen?,h]
theorem heap_set_same {w:World} {b i:Nat} {cs:Array Value} {t:TypeId} {fz:Nat × Nat} (h:w.heap[b]? = some (.cells cs t fz)) (v:Value):(w.setCell ⟨b,i,none⟩ v).heap[b]? = some (.cells (cs.setIfInBounds i v) t fz):=by
 have hb:b < w.heap.size:=by
  rcases Nat.lt_or_ge b w.heap.size with hh | hh
  ·exact hh
  ·rw [Array.getElem?_eq_none hh] at h;cases h
 simp only [World.setCell,Array.getElem?_modify,h,if_true,Option.map_some]
 rfl
theorem chg_set (w:World) (b i:Nat) (v:Value) {S:Nat→Prop} (hS:S b):Chg S w (w.setCell ⟨b,i,none⟩ v) :=
 ⟨by simp [World.setCell],by simp [World.setCell],by simp [World.setCell],by simp [World.setCell],fun k _ hk=>Below.heap_setCell _ _ _ k (fun e=>hk (by rw [e];exact hS))⟩
theorem Below.up {a b c:World} (h:Below a.heap.size a b) (k:Below b.heap.size b c):Below a.heap.size a c:=h.trans (k.mono h.size)
theorem i64_zero:I64 0:=by unfold I64;omega
end Sc
namespace Sc
open Go Go.RowKit
abbrev Foot:=Nat→Prop
structure Asn where
 P:Foot→World→Prop
 loc:∀ F w w',Same F w w'→w.heap.size≤w'.heap.size→P F w→P F w'
structure Grow (w w':World):Prop where
 os:w'.os=w.os
 tape:w'.tape=w.tape
 output:w'.output=w.output
 size:w.heap.size≤w'.heap.size
theorem Grow.refl (w:World):Grow w w:=⟨rfl,rfl,rfl,Nat.le_refl _⟩
theorem Grow.trans {a b c:World} (h:Grow a b) (k:Grow b c):Grow a c:=⟨k.os.trans h.os,k.tape.trans h.tape,k.output.trans h.output,Nat.le_trans h.size k.size⟩
theorem Chg.grow {S:Nat→Prop} {w w':World} (h:Chg S w w'):Grow w w':=⟨h.os,h.tape,h.output,h.size⟩
theorem below_grow {B:Nat} {w w':World} (h:Below B w w'):Grow w w':=⟨h.os,h.tape,h.output,h.size⟩
def Sep (W:World) (L:List Asn) (w:World):Prop :=
 Grow W w∧∃ Fs:Nat→Foot,(∀ i k,Fs i k→k < w.heap.size)∧(∀ i j k,i≠j→Fs i k→¬ Fs j k)∧∀ i (A:Asn),L[i]? = some A→A.P (Fs i) w
def OldA (W:World):Asn:=⟨fun F w=>(∀ k,k < W.heap.size→F k)∧Same (· < W.heap.size) W w,fun _ _ _ hs _ h=>⟨h.1,h.2.trans (hs.mono h.1)⟩⟩
def BoxA (b:Nat) (cs:Array Value) (T:TypeId):Asn:=⟨fun F w=>F b∧w.heap[b]? = some (.cells cs T (0,0)),fun _ _ _ hs _ h=>⟨h.1,(hs b h.1).trans h.2⟩⟩
def TrueA:Asn:=⟨fun _ _=>True,fun _ _ _ _ _ h=>h⟩
def Rest (L:List Asn) (i:Nat) (G:Foot) (w:World):Prop:=∀ j (A:Asn),j≠i→L[j]? = some A→∃ F:Foot,(∀ k,F k→G k)∧A.P F w
theorem Sep.start (w:World):Sep w [OldA w] w :=
 ⟨Grow.refl w,fun i k=>i=0∧k < w.heap.size,fun _ _ h=>h.2,fun i j k hij h1 h2=>hij (h1.1.trans h2.1.symm),fun i A h=>by
   cases i with
   | zero=>cases h;exact ⟨fun k hk=>⟨rfl,hk⟩,Same.refl _ _⟩
   | succ i=>simp at h⟩
theorem Sep.up {W:World} {L:List Asn} {w w':World} (h:Sep W L w) (hb:Below w.heap.size w w'):Sep W L w':=by
 obtain ⟨hg,Fs,h1,h2,h3⟩:=h
 exact ⟨hg.trans (below_grow hb),Fs,fun i k hk=>Nat.lt_of_lt_of_le (h1 i k hk) hb.size,h2,fun i A hi=>A.loc _ _ _ (fun k hk=>hb.block k (h1 i k hk)) hb.size (h3 i A hi)⟩
theorem Sep.get {W:World} {L:List Asn} {w:World} (h:Sep W L w) (i:Nat) {A:Asn} (hi:L[i]? = some A):∃ F,A.P F w∧Dom F w:=by
 obtain ⟨hg,Fs,h1,h2,h3⟩:=h
 exact ⟨Fs i,h3 i A hi,fun k hk=>h1 i k hk⟩
theorem Sep.old {W:World} {L:List Asn} {w:World} (h:Sep W (OldA W :: L) w):Below W.heap.size W w:=by
 obtain ⟨F,hF,_⟩:=h.get 0 (A:=OldA W) rfl
 have hg:=h.1
 exact ⟨hg.os,hg.tape,hg.output,hg.size,fun k hk=>hF.2 k hk⟩
theorem Sep.at {W:World} {L:List Asn} {w:World} (h:Sep W L w) (i:Nat) {A:Asn} (hi:L[i]? = some A) :
  ∃ F G:Foot,A.P F w∧Rest L i G w∧(∀ k,F k→¬ G k)∧Dom F w∧Dom G w ∧
   ∀ w' F' (A':Asn),Chg F w w'→(∀ k,F' k→F k∨New w w' k)→A'.P F' w'→Sep W (L.set i A') w':=by
 obtain ⟨hg,Fs,h1,h2,h3⟩:=h
 have hil:i < L.length:=(List.getElem?_eq_some_iff.1 hi).1
 refine ⟨Fs i,fun k=>∃ j,j≠i∧Fs j k,h3 i A hi,fun j A' hj hA'=>⟨Fs j,fun k hk=>⟨j,hj,hk⟩,h3 j A' hA'⟩,fun k hk ⟨j,hj,hk'⟩=>h2 i j k (fun e=>hj e.symm) hk hk',fun k hk=>h1 i k hk,fun k ⟨j,_,hk⟩=>h1 j k hk,?_⟩
 intro w' F' A' hc hF' hA'
 refine ⟨hg.trans hc.grow,fun j k=>if j=i then F' k else Fs j k,?_,?_,?_⟩
 ·intro j k hk
  by_cases hj:j=i
  ·simp only [hj,if_true] at hk
   rcases hF' k hk with h | h
   ·exact Nat.lt_of_lt_of_le (h1 i k h) hc.size
   ·exact h.2
  ·simp only [hj,if_false] at hk;exact Nat.lt_of_lt_of_le (h1 j k hk) hc.size
 ·intro j j' k hjj hk hk'
  by_cases hj:j=i
  ·have hj':¬ j'=i:=fun e=>hjj (hj.trans e.symm)
   simp only [hj,if_true,hj',if_false] at hk hk'
   rcases hF' k hk with h | h
   ·exact h2 i j' k (fun e=>hj' e.symm) h hk'
   ·have:=h1 j' k hk';have:=h.1;omega
  ·by_cases hj':j'=i
   ·simp only [hj',if_true,hj,if_false] at hk hk'
    rcases hF' k hk' with h | h
    ·exact h2 i j k (fun e=>hj e.symm) h hk
    ·have:=h1 j k hk;have:=h.1;omega
   ·simp only [hj,hj',if_false] at hk hk'
    exact h2 j j' k hjj hk hk'
 ·intro j A2 hA2
  by_cases hj:j=i
  ·subst hj
   rw [List.getElem?_set_self hil] at hA2
   cases hA2
   simp only [if_true];exact hA'
  ·rw [List.getElem?_set_ne (fun e=>hj e.symm)] at hA2
   simp only [hj,if_false]
   exact A2.loc _ _ _ (fun k hk=>hc.block k (h1 j k hk) (fun hF=>h2 j i k hj hk hF)) hc.size (h3 j A2 hA2)
theorem Sep.new {W:World} {L:List Asn} {w w':World} (h:Sep W L w) (hb:Below w.heap.size w w') (A:Asn) {F:Foot} (hF:∀ k,F k→New w w' k) (hA:A.P F w'):Sep W (L++[A]) w':=by
 obtain ⟨hg,Fs,h1,h2,h3⟩:=h
 refine ⟨hg.trans (below_grow hb),fun j k=>if j < L.length then Fs j k else if j=L.length then F k else False,?_,?_,?_⟩
 ·intro j k hk
  by_cases hj:j < L.length
  ·simp only [hj,if_true] at hk;exact Nat.lt_of_lt_of_le (h1 j k hk) hb.size
  ·by_cases hj':j=L.length
   ·simp only [hj',Nat.lt_irrefl,if_false,if_true] at hk;exact (hF k hk).2
   ·simp only [hj,hj',if_false] at hk
 ·intro i j k hij hk hk'
  by_cases hi:i < L.length <;> by_cases hj:j < L.length
  ·simp only [hi,hj,if_true] at hk hk';exact h2 i j k hij hk hk'
  ·by_cases hj':j=L.length
   ·simp only [hi,if_true,hj',Nat.lt_irrefl,if_false] at hk hk'
    have:=h1 i k hk;have:=(hF k hk').1;omega
   ·simp only [hj,hj',if_false] at hk'
  ·by_cases hi':i=L.length
   ·simp only [hj,if_true,hi',Nat.lt_irrefl,if_false] at hk hk'
    have:=h1 j k hk';have:=(hF k hk).1;omega
   ·simp only [hi,hi',if_false] at hk
  ·by_cases hi':i=L.length
   ·by_cases hj':j=L.length
    ·exact hij (hi'.trans hj'.symm)
    ·simp only [hj,hj',if_false] at hk'
   ·simp only [hi,hi',if_false] at hk
 ·intro i A2 hA2
  by_cases hi:i < L.length
  ·rw [List.getElem?_append_left hi] at hA2
   simp only [hi,if_true]
   exact A2.loc _ _ _ (fun k hk=>hb.block k (h1 i k hk)) hb.size (h3 i A2 hA2)
  ·rw [List.getElem?_append_right (by omega)] at hA2
   have hi0:i - L.length=0:=by
    have:=(List.getElem?_eq_some_iff.1 hA2).1
    simp at this;omega
   rw [hi0] at hA2
   cases hA2
   have:i=L.length:=by omega
   subst this
   simp only [Nat.lt_irrefl,if_false,if_true]
   exact hA
theorem Sep.imp {W:World} {L:List Asn} {w:World} (h:Sep W L w) (i:Nat) {A A':Asn} (hi:L[i]? = some A) (hA:∀ F,Dom F w→A.P F w→A'.P F w):Sep W (L.set i A') w:=by
 obtain ⟨F,G,h1,h2,h3,h4,h5,K⟩:=h.at i hi
 exact K w F A' (Chg.refl _ _) (fun k hk=>.inl hk) (hA F h4 h1)
theorem Sep.take {W:World} {L:List Asn} {w:World} (h:Sep W L w) (n:Nat):Sep W (L.take n) w:=by
 obtain ⟨hg,Fs,h1,h2,h3⟩:=h
 refine ⟨hg,Fs,h1,h2,fun i A hi=>?_⟩
 rw [List.getElem?_take] at hi
 split at hi
 ·exact h3 i A hi
 ·cases hi
theorem Sep.two {W:World} {L:List Asn} {w:World} (h:Sep W L w) (i j:Nat) (hij:i≠j) {A B:Asn} (hi:L[i]? = some A) (hj:L[j]? = some B) :
  ∃ F G:Foot,A.P F w∧B.P G w∧(∀ k,F k→¬ G k)∧Dom F w∧Dom G w:=by
 obtain ⟨hg,Fs,h1,h2,h3⟩:=h
 exact ⟨Fs i,Fs j,h3 i A hi,h3 j B hj,fun k hk hk'=>h2 i j k hij hk hk',fun k hk=>h1 i k hk,fun k hk=>h1 j k hk⟩
theorem Sep.both {W:World} {L:List Asn} {w:World} (h:Sep W L w) (i j:Nat) (hij:i≠j) {A B:Asn} (hi:L[i]? = some A) (hj:L[j]? = some B) :
  ∃ F F2 G:Foot,A.P F w∧B.P F2 w∧(∀ k,F k→¬ F2 k)∧Rest (L.set j TrueA) i G w∧(∀ k,(F k∨F2 k)→¬ G k)∧Dom F w∧Dom F2 w∧Dom G w ∧
   ∀ w' F' (A':Asn),Chg (fun k=>F k∨F2 k) w w'→(∀ k,F' k→(F k∨F2 k)∨New w w' k)→A'.P F' w'→Sep W ((L.set j TrueA).set i A') w':=by
 obtain ⟨hg,Fs,h1,h2,h3⟩:=h
 have hjl:j < L.length:=(List.getElem?_eq_some_iff.1 hj).1
 have hs:Sep W ((L.set j TrueA).set i ⟨fun F w=>∃ Fa Fb:Foot,(∀ k,F k↔Fa k∨Fb k)∧(∀ k,Fa k→¬ Fb k)∧A.P Fa w∧B.P Fb w,fun F w w' hsm hz ⟨Fa,Fb,e,e2,a,b⟩=>⟨Fa,Fb,e,e2,A.loc _ _ _ (hsm.mono fun k hk=>(e k).2 (.inl hk)) hz a,B.loc _ _ _ (hsm.mono fun k hk=>(e k).2 (.inr hk)) hz b⟩⟩) w:=by
  have hil:i < (L.set j TrueA).length:=by rw [List.length_set];exact (List.getElem?_eq_some_iff.1 hi).1
  refine ⟨hg,fun m k=>if m=i then Fs i k∨Fs j k else if m=j then False else Fs m k,?_,?_,?_⟩
  ·intro m k hk
   by_cases hm:m=i
   ·simp only [hm,if_true] at hk;exact hk.elim (h1 i k) (h1 j k)
   ·by_cases hm':m=j
    ·subst hm';simp only [hm,if_false,if_true] at hk
    ·simp only [hm,hm',if_false] at hk;exact h1 m k hk
  ·intro m m' k hmm hk hk'
   by_cases hm:m=i
   ·have hm':¬ m'=i:=fun e=>hmm (hm.trans e.symm)
    by_cases hmj:m'=j
    ·subst hmj;simp only [hm',if_true,if_false] at hk'
    ·simp only [hm,if_true,hm',hmj,if_false] at hk hk'
     rcases hk with hk | hk
     ·exact h2 i m' k (fun e=>hm' e.symm) hk hk'
     ·exact h2 j m' k (fun e=>hmj e.symm) hk hk'
   ·by_cases hmj:m=j
    ·subst hmj;simp only [hm,if_true,if_false] at hk
    ·simp only [hm,hmj,if_false] at hk
     by_cases hm':m'=i
     ·simp only [hm',if_true] at hk'
      rcases hk' with hk' | hk'
      ·exact h2 m i k hm hk hk'
      ·exact h2 m j k hmj hk hk'
     ·by_cases hmj':m'=j
      ·subst hmj';simp only [hm',if_true,if_false] at hk'
      ·simp only [hm',hmj',if_false] at hk';exact h2 m m' k hmm hk hk'
  ·intro m A2 hA2
   by_cases hm:m=i
   ·subst hm
    rw [List.getElem?_set_self hil] at hA2
    cases hA2
    exact ⟨Fs m,Fs j,fun k=>by simp,fun k hk hk'=>h2 m j k hij hk hk',h3 m A hi,h3 j B hj⟩
   ·rw [List.getElem?_set_ne (fun e=>hm e.symm)] at hA2
    by_cases hm':m=j
    ·subst hm'
     rw [List.getElem?_set_self hjl] at hA2
     cases hA2;trivial
    ·rw [List.getElem?_set_ne (fun e=>hm' e.symm)] at hA2
     simp only [hm,hm',if_false]
     exact h3 m A2 hA2
 have hil:i < (L.set j TrueA).length:=by rw [List.length_set];exact (List.getElem?_eq_some_iff.1 hi).1
 obtain ⟨F,G,⟨Fa,Fb,e,e2,a,b⟩,hr,hd,hdF,hdG,K⟩:=hs.at i (List.getElem?_set_self hil)
 refine ⟨Fa,Fb,G,a,b,e2,fun m A2 hm hA2=>hr m A2 hm (by rw [List.getElem?_set_ne (fun e=>hm e.symm)];exact hA2),fun k hk=>hd k ((e k).2 hk),fun k hk=>hdF k ((e k).2 (.inl hk)),fun k hk=>hdF k ((e k).2 (.inr hk)),hdG,?_⟩
 intro w' F' A' hc hF' hA'
 have:=K w' F' A' (hc.mono fun k _ hk=>(e k).2 hk) (fun k hk=>(hF' k hk).imp (e k).2 id) hA'
 rwa [List.set_set] at this
theorem chg_grown {w w':World} {row:Option Nat} (h:w.grownBy w' row) {S:Nat→Prop} (hS:∀ k,row=some k→S k):Chg S w w' :=
 ⟨h.os,h.tape,h.output,h.size,fun k hk hn=>h.block k hk (fun e=>hn (hS k e.symm))⟩
theorem row_same {w w':World} {F:Foot} {T k n:Nat} {v:Value} {xs:List Value} {B:Nat} (hs:Same F w w') (h:w.ownsRow B T k v n xs) (hg:∀ g,v.ownBlock=some g→F g):w'.ownsRow B T k v n xs :=
 ⟨h.1,h.2.imp id fun ⟨g,cap,cur,e1,e0,e2,rest⟩=>⟨g,cap,cur,e1,e0,by rw [hs g (hg g (by rw [e1];rfl))];exact e2,rest⟩⟩
theorem ownsRow_lower' {w:World} {B B' T k n:Nat} {v:Value} {xs:List Value} (h:w.ownsRow B T k v n xs) (hB:B'≤B):w.ownsRow B' T k v n xs :=
 ⟨h.1,h.2.imp id fun ⟨g,cap,cur,e1,e0,e2⟩=>⟨g,cap,cur,e1,Nat.le_trans hB e0,e2⟩⟩
def RowA (T k:Nat) (v:Value) (n:Nat) (xs:List Value):Asn:=⟨fun F w=>w.ownsRow 0 T k v n xs∧∀ g,v.ownBlock=some g→F g,fun _ _ _ hs _ h=>⟨row_same hs h.1 h.2,h.2⟩⟩
theorem Sep.row_set {W:World} {L:List Asn} {w:World} (h:Sep W L w) (i:Nat) {T k n c g:Nat} {xs:List Value} (hi:L[i]? = some (RowA T k (.slice (some ⟨g,0,none⟩) n c) n xs)) (j:Nat) (u:Value) :
  Sep W (L.set i (RowA T k (.slice (some ⟨g,0,none⟩) n c) n (xs.set j u))) (w.setCell ⟨g,j,none⟩ u):=by
 obtain ⟨F,G,h1,_,_,_,_,K⟩:=h.at i hi
 obtain ⟨s1,s2⟩:=h1.1.stored j u
 exact K _ F (RowA T k (.slice (some ⟨g,0,none⟩) n c) n (xs.set j u)) (chg_grown s2 fun q hq=>by cases hq;exact h1.2 g rfl) (fun k hk=>.inl hk) ⟨s1,h1.2⟩
theorem Sep.row_cell {W:World} {L:List Asn} {w:World} (h:Sep W L w) (i:Nat) {T k n c g:Nat} {xs:List Value} (hi:L[i]? = some (RowA T k (.slice (some ⟨g,0,none⟩) n c) n xs)) (j:Nat) (hj:j < n * k) :
  w.cell? ⟨g,j,none⟩=xs[j]?∧w.frozen? ⟨g,j,none⟩=false:=by
 obtain ⟨F,h1,_⟩:=h.get i hi
 exact ⟨h1.1.cellAt j hj,h1.1.frozenAt j⟩
theorem Sep.row_app {W w w2 w':World} {L:List Asn} (h:Sep W L w) (i:Nat) {T k n n' c g H:Nat} {v:Value} {xs ys:List Value} (hi:L[i]? = some (RowA T k v n xs)) (hb:Below w.heap.size w w2)
  (hown:w'.ownsRow 0 T k (.slice (some ⟨g,0,none⟩) n' c) n' ys) (hg:w2.grownBy w' v.ownBlock) (hat:v.ownBlock=some g∨g=H) (hH:w2.heap.size=H) (hlt:g < w'.heap.size) :
  Sep W (L.set i (RowA T k (.slice (some ⟨g,0,none⟩) n' c) n' ys)) w':=by
 obtain ⟨F,G,h1,_,_,hdF,_,K⟩:=h.at i hi
 have hz:=hb.size
 refine K w' (fun q=>F q∨New w w' q) (RowA T k (.slice (some ⟨g,0,none⟩) n' c) n' ys) (Chg.after_up hb (chg_grown hg fun q hq=>h1.2 q hq)) (fun q hq=>hq) ⟨hown,fun q hq=>?_⟩
 obtain rfl:g=q:=by simpa [Value.ownBlock] using hq
 rcases hat with h | h
 ·exact .inl (h1.2 g h)
 ·exact .inr ⟨by omega,hlt⟩
theorem Sep.row_new {W w w':World} {L:List Asn} (h:Sep W L w) (hb:Below w.heap.size w w') {T k n:Nat} {v:Value} {xs:List Value} (hown:w'.ownsRow w.heap.size T k v n xs):Sep W (L++[RowA T k v n xs]) w' :=
 h.new hb (RowA T k v n xs) (F:=New w w') (fun _ h=>h) ⟨ownsRow_lower' hown (Nat.zero_le _),fun g hg=>hown.lt g hg⟩
theorem Sep.row_put {W w w':World} {L:List Asn} (h:Sep W L w) (i:Nat) {A:Asn} (hi:L[i]? = some A) (hb:Below w.heap.size w w') {T k n:Nat} {v:Value} {xs:List Value} (hown:w'.ownsRow w.heap.size T k v n xs):Sep W (L.set i (RowA T k v n xs)) w':=by
 obtain ⟨F,G,h1,_,_,hdF,_,K⟩:=h.at i hi
 exact K w' (fun q=>F q∨New w w' q) (RowA T k v n xs) (Chg.of_below hb (fun q h1 h2=>by omega)) (fun q hq=>hq) ⟨ownsRow_lower' hown (Nat.zero_le _),fun g hg=>.inr (hown.lt g hg)⟩
def BytesWA (v:Value) (l:Bytes):Asn:=⟨fun F w=>BytesW F w v l,fun _ _ _ hs _ h=>h.same hs⟩
theorem BytesW.base {F:Foot} {w:World} {v:Value} {l:Bytes} (h:BytesW F w v l) (h0:0 < l.length):∃ b o c,v=.slice (some ⟨b,o,none⟩) l.length c∧l.length≤c∧c≤9223372036854775807:=by
 obtain ⟨p,c,rfl,h1,h2,h3,h4⟩:=h
 obtain ⟨b,o,rfl,_⟩:=h4 0 h0
 exact ⟨b,o,c,rfl,h1,h2⟩
end Sc
namespace Sc
open Go Go.RowKit
def OutS {α:Type} (T:TypeId) (k:Nat) (R:(Nat→Prop)→World→List Value→α→Prop) (B:Nat) (w:World) (v:Value) (l:List α) (D:Nat→Prop):Prop :=
 ∃ css:List (List Value),css.length=l.length∧(∀ cs∈css,cs.length=k)∧w.ownsRow B T k v l.length css.flatten ∧
  (∀ i (h:i < css.length) (h':i < l.length),R D w css[i] l[i])∧∀ b,D b→B≤b∧b < w.heap.size∧v.ownBlock≠some b
def RStable {α:Type} (R:(Nat→Prop)→World→List Value→α→Prop):Prop:=∀ D D' w w' cs x,(∀ b,D b→D' b)→Same D w w'→R D w cs x→R D' w' cs x
theorem OutS.nil {α:Type} {T k:Nat} {R:(Nat→Prop)→World→List Value→α→Prop} {B:Nat} {w:World}:OutS T k R B w (.slice none 0 0) [] (fun _=>False) :=
 ⟨[],rfl,by simp,World.ownsRow_nil _ _ _ _,fun i h=>absurd h (by simp),fun b h=>h.elim⟩
theorem OutS.own {α:Type} {T k:Nat} {R:(Nat→Prop)→World→List Value→α→Prop} {B:Nat} {w:World} {v:Value} {l:List α} {D:Nat→Prop} (h:OutS T k R B w v l D):∃ xs,w.ownsRow B T k v l.length xs :=
 let ⟨_,_,_,h3,_⟩:=h;⟨_,h3⟩
theorem OutS.up {α:Type} {T k:Nat} {R:(Nat→Prop)→World→List Value→α→Prop} (hR:RStable R) {B:Nat} {w w':World} {v:Value} {l:List α} {D:Nat→Prop} (h:OutS T k R B w v l D) (hb:Below w.heap.size w w'):OutS T k R B w' v l D:=by
 obtain ⟨css,h1,h2,h3,h4,h5⟩:=h
 refine ⟨css,h1,h2,h3.kept (row:=none) ⟨hb.os,hb.tape,hb.output,hb.size,fun q hq _=>hb.block q hq⟩ ?_,fun i a b=>hR D D w w' _ _ (fun _ h=>h) (fun q hq=>hb.block q (h5 q hq).2.1) (h4 i a b),fun b hd=>⟨(h5 b hd).1,Nat.lt_of_lt_of_le (h5 b hd).2.1 hb.size,(h5 b hd).2.2⟩⟩
 cases v.ownBlock <;> simp
theorem OutS.snoc {α:Type} {T k:Nat} {R:(Nat→Prop)→World→List Value→α→Prop} (hR:RStable R) {B:Nat} {w w':World} {v:Value} {l:List α} {D D3:Nat→Prop} {css:List (List Value)} {cs:List Value} {x:α} {g cap:Nat}
  (h1:css.length=l.length) (h2:∀ cs∈css,cs.length=k) (h4:∀ i (h:i < css.length) (h':i < l.length),R D w css[i] l[i]) (h5:∀ b,D b→B≤b∧b < w.heap.size∧v.ownBlock≠some b)
  (hcs:cs.length=k) (hx:R D3 w cs x) (h3:∀ b,D3 b→B≤b∧b < w.heap.size∧v.ownBlock≠some b)
  (hown:w'.ownsRow B T k (.slice (some ⟨g,0,none⟩) (l.length+1) cap) (l.length+1) (css.flatten++cs)) (hg:w.grownBy w' v.ownBlock) (hat:v.ownBlock=some g∨g=w.heap.size) :
  OutS T k R B w' (.slice (some ⟨g,0,none⟩) (l.length+1) cap) (l++[x]) (fun b=>D b∨D3 b):=by
 have hs:∀ {E:Nat→Prop},(∀ b,E b→B≤b∧b < w.heap.size∧v.ownBlock≠some b)→Same E w w':=fun hE q hq=>hg.block q (hE q hq).2.1 (fun e=>(hE q hq).2.2 e.symm)
 refine ⟨css++[cs],by simp [h1],fun c hc=>?_,by simpa using hown,fun i hi hi'=>?_,fun b hb=>?_⟩
 ·rcases List.mem_append.1 hc with hc | hc
  ·exact h2 c hc
  ·rw [List.mem_singleton] at hc;subst hc;exact hcs
 ·by_cases hlt:i < l.length
  ·rw [List.getElem_append_left (by omega),List.getElem_append_left hlt]
   exact hR _ _ _ _ _ _ (fun _ h=>.inl h) (hs h5) (h4 i (by omega) hlt)
  ·have hi0:i=l.length:=by simp at hi';omega
   subst hi0
   rw [List.getElem_append_right (by omega),List.getElem_append_right (Nat.le_refl _)]
   simp only [h1,Nat.sub_self,List.getElem_cons_zero]
   exact hR _ _ _ _ _ _ (fun _ h=>.inr h) (hs h3) hx
 ·have hB:=hb.elim (h5 b) (h3 b)
  refine ⟨hB.1,Nat.lt_of_lt_of_le hB.2.1 hg.size,fun e=>?_⟩
  have e':g=b:=by simpa [Value.ownBlock] using e
  subst e'
  rcases hat with hat | hat
  ·exact hB.2.2 hat
  ·have:=hB.2.1;omega
theorem flat_get {k:Nat}:∀ {css:List (List Value)} (_:∀ cs∈css,cs.length=k) (i:Nat) (hi:i < css.length) (j:Nat) (_hj:j < k),css.flatten[i * k+j]? = css[i][j]?
 | [],_,i,hi,_,_=>absurd hi (by simp)
 | c :: t,h,0,_,j,hj=>by
  have hc:=h c (by simp)
  simp only [List.flatten_cons,Nat.zero_mul,Nat.zero_add,List.getElem_cons_zero]
  rw [List.getElem?_append_left (by omega)]
 | c :: t,h,i+1,hi,j,hj=>by
  have hc:=h c (by simp)
  have ih:=flat_get (css:=t) (fun x hx=>h x (by simp [hx])) i (by simpa using hi) j hj
  simp only [List.flatten_cons,List.getElem_cons_succ]
  rw [List.getElem?_append_right (by rw [hc,Nat.succ_mul];omega),hc,show (i+1) * k+j - k=i * k+j by rw [Nat.succ_mul];omega]
  exact ih
theorem OutS.slAt {α:Type} {T k:Nat} {R:(Nat→Prop)→World→List Value→α→Prop} {B:Nat} {w:World} {v:Value} {l:List α} {D:Nat→Prop} {E:Elem α} {G:Nat→Prop} (h:OutS T k R B w v l D)
  (hG:∀ b,B≤b→b < w.heap.size→G b) (hE:∀ b o cs x,cs.length=k→(∀ j,j < k→w.cell? ⟨b,o+j,none⟩=cs[j]?)→(∀ j,w.frozen? ⟨b,o+j,none⟩=false)→R D w cs x→E w b o x):SlAt G k E w v l:=by
 obtain ⟨css,h1,h2,h3,h4,h5⟩:=h
 have hlt:=h3.lt
 obtain ⟨hx,hc | ⟨g,cap,cur,rfl,hb,hg,hnc,hcm,hcs,htake⟩⟩:=h3
 ·obtain ⟨rfl,hl0⟩:=hc
  obtain rfl:l=[]:=List.length_eq_zero_iff.1 hl0
  exact SlAt.nil
 ·have hgl:=hlt g rfl
  have hrow:w.ownsRow B T k (.slice (some ⟨g,0,none⟩) l.length cap) l.length css.flatten:=⟨hx,.inr ⟨g,cap,cur,rfl,hb,hg,hnc,hcm,hcs,htake⟩⟩
  refine ⟨_,cap,rfl,hnc,by unfold maxLen at hcm;omega,(by intro hh;cases hh),fun i hi=>⟨g,0,rfl,hG g hgl.1 hgl.2,?_⟩⟩
  have hi':i < css.length:=by omega
  have hck:=h2 _ (List.getElem_mem hi')
  refine hE g (0+i * k) css[i] l[i] hck (fun j hj=>?_) (fun j=>hrow.frozenAt _) (h4 i hi' hi)
  rw [Nat.zero_add,hrow.cellAt (i * k+j) ?_]
  ·exact flat_get h2 i hi' j hj
  ·have h1:(i+1) * k≤l.length * k:=Nat.mul_le_mul_right k (by omega)
   rw [Nat.succ_mul] at h1;omega
def putR (D:Nat→Prop) (w:World) (cs:List Value) (x:Put):Prop:=∃ dv,cs=[.int .i64 x.lba,dv]∧I64 x.lba∧BytesAt D w dv x.data
theorem putR_stable:RStable putR:=fun _D _D' _w _w' _cs _x hd hs ⟨dv,h1,h2,h3⟩=>⟨dv,h1,h2,(h3.same hs).mono hd⟩
theorem OutS.puts {T:Nat} {B:Nat} {w:World} {v:Value} {l:List Put} {D:Nat→Prop} {G:Nat→Prop} (h:OutS T 2 putR B w v l D) (hG:∀ b,B≤b→b < w.heap.size→G b):PutsAt G w v l:=by
 have hD:∀ b,D b→G b:=by obtain ⟨_,_,_,_,_,h5⟩:=h;exact fun b hb=>hG b (h5 b hb).1 (h5 b hb).2.1
 refine h.slAt hG fun b o cs x hl hc _ ⟨dv,he,hi,hd⟩=>?_
 subst he
 exact ⟨by first | (simp;done) | (have:=hc 0 (by omega);simpa using this),hi,dv,by first | (simp;done) | (have:=hc 1 (by omega);simpa using this),hd.mono hD⟩
def putW (G:Nat→Prop):Elem Put:=fun w b o x=>w.cell? ⟨b,o,none⟩=some (.int .i64 x.lba)∧I64 x.lba∧w.frozen? ⟨b,o,none⟩=false∧∃ v,w.cell? ⟨b,o+1,none⟩=some v∧BytesW G w v x.data
def PutsW (G:Nat→Prop):World→Value→List Put→Prop:=SlAt G 2 (putW G)
theorem PutsW.puts {G:Nat→Prop} {w:World} {v:Value} {l:List Put} (h:PutsW G w v l):PutsAt G w v l:=SlAt.mono h (fun _ h=>h) (fun _ _ _ ⟨h1,h2,_,v,h3,h4⟩=>⟨h1,h2,v,h3,h4.bytes⟩)
def putRW (D:Nat→Prop) (w:World) (cs:List Value) (x:Put):Prop:=∃ dv,cs=[.int .i64 x.lba,dv]∧I64 x.lba∧BytesW D w dv x.data
theorem putRW_stable:RStable putRW:=fun _D _D' _w _w' _cs _x hd hs ⟨dv,h1,h2,h3⟩=>⟨dv,h1,h2,(h3.same hs).mono hd⟩
theorem OutS.putsW {T:Nat} {B:Nat} {w:World} {v:Value} {l:List Put} {D:Nat→Prop} {G:Nat→Prop} (h:OutS T 2 putRW B w v l D) (hG:∀ b,B≤b→b < w.heap.size→G b):PutsW G w v l:=by
 have hD:∀ b,D b→G b:=by obtain ⟨_,_,_,_,_,h5⟩:=h;exact fun b hb=>hG b (h5 b hb).1 (h5 b hb).2.1
 refine h.slAt hG fun b o cs x hl hc hf ⟨dv,he,hi,hd⟩=>?_
 subst he
 exact ⟨by first | (simp;done) | (have:=hc 0 (by omega);simpa using this),hi,hf 0,dv,by first | (simp;done) | (have:=hc 1 (by omega);simpa using this),hd.mono hD⟩
theorem OutS.same {α:Type} {T k:Nat} {R:(Nat→Prop)→World→List Value→α→Prop} (hR:RStable R) {B:Nat} {w w':World} {v:Value} {l:List α} {D F:Nat→Prop} (h:OutS T k R B w v l D) (hs:Same F w w') (hz:w.heap.size≤w'.heap.size)
  (ho:∀ g,v.ownBlock=some g→F g) (hD:∀ b,D b→F b):OutS T k R B w' v l D:=by
 obtain ⟨css,h1,h2,h3,h4,h5⟩:=h
 exact ⟨css,h1,h2,row_same hs h3 ho,fun i a b=>hR D D w w' _ _ (fun _ h=>h) (hs.mono hD) (h4 i a b),fun b hd=>⟨(h5 b hd).1,Nat.lt_of_lt_of_le (h5 b hd).2.1 hz,(h5 b hd).2.2⟩⟩
theorem OutS.more {α:Type} {T k:Nat} {R:(Nat→Prop)→World→List Value→α→Prop} (hR:RStable R) {B:Nat} {w:World} {v:Value} {l:List α} {D D':Nat→Prop} (h:OutS T k R B w v l D) (hD:∀ b,D b→D' b) (hD':∀ b,D' b→B≤b∧b < w.heap.size∧v.ownBlock≠some b):OutS T k R B w v l D':=by
 obtain ⟨css,h1,h2,h3,h4,h5⟩:=h
 exact ⟨css,h1,h2,h3,fun i a b=>hR D D' w w _ _ hD (Same.refl _ _) (h4 i a b),hD'⟩
end Sc
/-
 DERIVED: THE SHELF's CONTRACTS AT THIS DUMP, IN PLAIN WORDS (tools/lay-plain.mjs out of 'TmpShelf.lean', which tools/lay-shelf.mjs wrote): THE SAME DECLARATIONS UNDER THE SAME NAMES: 'import', 'namespace', 'open', 'def', 'theorem' AND NOTHING ELSE: no command of the shelf's: FOR A HAND-IN. Each laying: the table of numbers ('.._ren') and one theorem, a field a fact of the dump's own or the kernel's comparison; each contract: ONE APPLICATION.
-/
namespace Go.Proofs
open Go.Shelf
def Tryz.sortExt_ren:Go.Shelf.Ren:=⟨fun | 6=>361 | 15=>261 | 14=>383 | 28=>318 | 29=>319 | 20=>391 | 21=>392 | 22=>393 | 23=>394 | 24=>395 | 25=>396 | 26=>397 | 27=>398 | 46=>405 | 47=>353 | 48=>354 | 49=>406 | 50=>407 | 57=>412 | n=>n,fun | 22=>390 | 24=>186 | 25=>436 | 3=>3 | 39=>258 | 0=>0 | 53=>229 | 55=>226 | 4=>4 | 46=>384 | 45=>383 | 50=>276 | 5=>5 | 9=>9 | 66=>428 | 70=>432 | 76=>452 | 77=>453 | n=>n,fun | n=>n⟩
theorem Tryz.sortExt:Go.Proofs.SlLaysF0.n6 Tryz.prog Tryz.sortExt_ren:={
 mixed:=by kernel_rfl
 f6:=⟨Tryz.f361.name,by decide,Tryz.func361.trans (congrArg some (by kernel_rfl))⟩
 f14:=⟨Tryz.f383.name,by decide,Tryz.func383.trans (congrArg some (by kernel_rfl))⟩
 f15:=Tryz.func261.trans (congrArg some (by kernel_rfl))
 f20:=⟨Tryz.f391.name,by decide,Tryz.func391.trans (congrArg some (by kernel_rfl))⟩
 f21:=⟨Tryz.f392.name,by decide,Tryz.func392.trans (congrArg some (by kernel_rfl))⟩
 f22:=⟨Tryz.f393.name,by decide,Tryz.func393.trans (congrArg some (by kernel_rfl))⟩
 f23:=⟨Tryz.f394.name,by decide,Tryz.func394.trans (congrArg some (by kernel_rfl))⟩
 f24:=⟨Tryz.f395.name,by decide,Tryz.func395.trans (congrArg some (by kernel_rfl))⟩
 f25:=⟨Tryz.f396.name,by decide,Tryz.func396.trans (congrArg some (by kernel_rfl))⟩
 f26:=⟨Tryz.f397.name,by decide,Tryz.func397.trans (congrArg some (by kernel_rfl))⟩
 f27:=⟨Tryz.f398.name,by decide,Tryz.func398.trans (congrArg some (by kernel_rfl))⟩
 f28:=Tryz.func318.trans (congrArg some (by kernel_rfl))
 f29:=Tryz.func319.trans (congrArg some (by kernel_rfl))
 f46:=⟨Tryz.f405.name,by decide,Tryz.func405.trans (congrArg some (by kernel_rfl))⟩
 f47:=Tryz.func353.trans (congrArg some (by kernel_rfl))
 f48:=Tryz.func354.trans (congrArg some (by kernel_rfl))
 f49:=⟨Tryz.f406.name,by decide,Tryz.func406.trans (congrArg some (by kernel_rfl))⟩
 f50:=⟨Tryz.f407.name,by decide,Tryz.func407.trans (congrArg some (by kernel_rfl))⟩
 f57:=⟨Tryz.f412.name,by decide,Tryz.func412.trans (congrArg some (by kernel_rfl))⟩
 t0:=Tryz.underlying0
 a0:=Tryz.isAgg0
 z0:=Tryz.sizeOf0
 v0:=Tryz.zeroValue0
 t3:=Tryz.underlying3
 a3:=Tryz.isAgg3
 z3:=Tryz.sizeOf3
 v3:=Tryz.zeroValue3
 t4:=Tryz.underlying4
 a4:=Tryz.isAgg4
 z4:=Tryz.sizeOf4
 v4:=Tryz.zeroValue4
 t5:=Tryz.underlying5
 a5:=Tryz.isAgg5
 z5:=Tryz.sizeOf5
 v5:=Tryz.zeroValue5
 t9:=Tryz.underlying9
 a9:=Tryz.isAgg9
 z9:=Tryz.sizeOf9
 v9:=Tryz.zeroValue9
 t22:=Tryz.underlying390
 a22:=Tryz.isAgg390
 z22:=Tryz.sizeOf390
 v22:=Tryz.zeroValue390
 t25:=Tryz.underlying436
 a25:=Tryz.isAgg436
 z25:=Tryz.sizeOf436
 v25:=Tryz.zeroValue436
 t39:=Tryz.underlying258
 a39:=Tryz.isAgg258
 z39:=Tryz.sizeOf258
 v39:=Tryz.zeroValue258
 t45:=Tryz.underlying383
 a45:=Tryz.isAgg383
 z45:=Tryz.sizeOf383
 v45:=Tryz.zeroValue383
 t46:=Tryz.underlying384
 a46:=Tryz.isAgg384
 z46:=Tryz.sizeOf384
 v46:=Tryz.zeroValue384
 t50:=Tryz.underlying276
 a50:=Tryz.isAgg276
 z50:=Tryz.sizeOf276
 v50:=Tryz.zeroValue276
 t53:=Tryz.underlying229
 a53:=Tryz.isAgg229
 z53:=Tryz.sizeOf229
 v53:=Tryz.zeroValue229
 t55:=Tryz.underlying226
 a55:=Tryz.isAgg226
 z55:=Tryz.sizeOf226
 v55:=Tryz.zeroValue226
 t66:=Tryz.underlying428
 a66:=Tryz.isAgg428
 z66:=Tryz.sizeOf428
 v66:=Tryz.zeroValue428
 t70:=Tryz.underlying432
 a70:=Tryz.isAgg432
 z70:=Tryz.sizeOf432
 v70:=Tryz.zeroValue432
 t76:=Tryz.underlying452
 a76:=Tryz.isAgg452
 z76:=Tryz.sizeOf452
 v76:=Tryz.zeroValue452
 t77:=Tryz.underlying453
 a77:=Tryz.isAgg453
 z77:=Tryz.sizeOf453
 v77:=Tryz.zeroValue453 }
def Tryz.cmpInt_ren:Go.Shelf.Ren:=⟨fun | 5=>290 | 7=>336 | n=>n,fun | 22=>3 | 3=>3 | 4=>4 | n=>n,fun | n=>n⟩
theorem Tryz.cmpInt:Go.Proofs.SlLaysC2.n5 Tryz.prog Tryz.cmpInt_ren:={
 mixed:=by kernel_rfl
 f5:=⟨Tryz.f290.name,by decide,Tryz.func290.trans (congrArg some (by kernel_rfl))⟩
 f7:=⟨Tryz.f336.name,by decide,Tryz.func336.trans (congrArg some (by kernel_rfl))⟩
 t3:=Tryz.underlying3
 a3:=Tryz.isAgg3
 z3:=Tryz.sizeOf3
 v3:=Tryz.zeroValue3
 t4:=Tryz.underlying4
 a4:=Tryz.isAgg4
 z4:=Tryz.sizeOf4
 v4:=Tryz.zeroValue4
 t22:=Tryz.underlying3
 a22:=Tryz.isAgg3
 z22:=Tryz.sizeOf3
 v22:=Tryz.zeroValue3 }
end Go.Proofs
namespace Go.Proofs
open Go.RowKit Sc
def idxOf {α:Type} (p:α→Bool) (l:List α):Int:=match l.findIdx? p with
 | some i=>i
 | none=>-1
theorem idxOf_hit {α:Type} {p:α→Bool} {l:List α} {i:Nat} (hi:i < l.length) (hp:p l[i]=true) (hn:∀ j (h:j < i),p (l[j]'(by omega))=false):idxOf p l=i:=by
 have:l.findIdx? p=some i:=by
  rw [List.findIdx?_eq_some_iff_getElem]
  exact ⟨hi,hp,fun j hj=>by simp [hn j hj]⟩
 simp [idxOf,this]
theorem idxOf_miss {α:Type} {p:α→Bool} {l:List α} (hn:∀ j (h:j < l.length),p l[j]=false):idxOf p l=-1:=by
 have:l.findIdx? p=none:=by
  rw [List.findIdx?_eq_none_iff]
  intro x hx
  obtain ⟨j,hj,rfl⟩:=List.getElem_of_mem hx
  simp [hn j hj]
 simp [idxOf,this]
theorem idxOf_nonneg {α:Type} (p:α→Bool) (l:List α):decide (0≤idxOf p l)=l.any p:=by
 unfold idxOf
 cases h:l.findIdx? p with
 | none =>
  rw [List.findIdx?_eq_none_iff] at h
  have:l.any p=false:=by rw [List.any_eq_false];intro x hx;simp [h x hx]
  rw [this];rfl
 | some i =>
  rw [List.findIdx?_eq_some_iff_getElem] at h
  obtain ⟨hi,hp,_⟩:=h
  have:l.any p=true:=by rw [List.any_eq_true];exact ⟨l[i],List.getElem_mem hi,hp⟩
  rw [this];simp
def putV (G:Nat→Prop) (w:World) (v:Value) (x:Put):Prop:=∃ dv,v=.agg #[.int .i64 x.lba,dv]∧I64 x.lba∧BytesAt G w dv x.data
set_option maxHeartbeats 1000000 in
theorem idxPut_any (G:Nat→Prop) (v:Value) (l:List Put) (p:Put→Bool) (g:Nat) (cb:Array Value) (eg:∀ args w,(callFunc g args).run Tryz.prog w=.ok (.enter g args) w) (w:World)
  (hG:Dom G w) (hv:PutsAt G w v l)
  (hf:∀ i (h:i < l.length) W ev,Below w.heap.size w W→putV G W ev l[i]→Calls Tryz.prog g (#[ev]++cb) W fun e w'=>e=.returned (.bool (p l[i]))∧Below W.heap.size W w') :
  Calls Tryz.prog 231 #[v,.func (.func g) #[] cb] w fun e w'=>e=.returned (.int .i64 (idxOf p l))∧Below w.heap.size w w':=by
 obtain ⟨ptr,c,rfl,h1,h2,h3,h4⟩:=hv
 have H4:=Lib.hid h4
 have HF:=Lib.hid hf
 clear h4 hf h3
 go_enter Tryz.func231,Tryz.ntmps231
 go_wp2
 go_loopg [5,8] l.length (fun gg _ s8 wr=>∃ k:Nat,k≤l.length∧l.length - k≤gg∧s8=.int .i64 k∧Hid (Below w.heap.size w wr)∧Hid (∀ j (h:j < k) (h':j < l.length),p l[j]=false))
 case atStart=>exact ⟨0,Nat.zero_le _,by omega,rfl,Below.refl _ w,fun j hj=>absurd hj (Nat.not_lt_zero _)⟩
 case round =>
  obtain ⟨k,hk,hg,rfl,BW,A⟩:=hrel
  by_cases hlt:k < l.length
  ·obtain ⟨b,o,rfl,hb,hc1,hi,dv,hc2,hd⟩:=H4.out k hlt
   have hbl:=World.block_lt_of_cell? w _ hc1
   have hc1':=(BW.out.cell (p:=⟨b,o+k * 2,none⟩) hbl).trans hc1
   have hc2':=(BW.out.cell (p:=⟨b,o+k * 2+1,none⟩) hbl).trans hc2
   have hcall:=HF.out k hlt wr (.agg #[.int .i64 l[k].lba,dv]) BW.out ⟨dv,rfl,hi,hd.same (hG.same BW.out)⟩
   have hone:dv.oneCell'=true:=by obtain ⟨_,_,rfl,_⟩:=hd;rfl
   generalize hy:l[k]=y at hc1' hcall
   have B:=Lib.hid hy
   clear hy hc1 hc2 hd hi hb
   cases hq:p y with
   | true =>
    rw [hq] at hcall
    have HQ:=Lib.hid hq
    have HC:=Lib.hid hcall
    clear hq hcall
    go_wp2_with (go_at_fn g;refine (HC.out).mono ?_;rintro e w' ⟨rfl,hb'⟩)
    go_ret
    refine ⟨?_,BW.out.trans (hb'.mono BW.out.size)⟩
    rw [idxOf_hit hlt (by rw [B.out];exact HQ.out) (fun j hj=>A.out j hj (by omega))]
    rfl
   | false =>
    rw [hq] at hcall
    have HQ:=Lib.hid hq
    have HC:=Lib.hid hcall
    clear hq hcall
    go_wp2_with (go_at_fn g;refine (HC.out).mono ?_;rintro e w' ⟨rfl,hb'⟩)
    go_roundg (l.length - (k+1))
    case measure=>omega
    case rel =>
     refine ⟨k+1,by omega,by omega,by go_num,BW.out.trans (hb'.mono BW.out.size),fun j hj hj'=>?_⟩
     by_cases e:j=k
     ·subst e;rw [B.out];exact HQ.out
     ·exact A.out j (by omega) hj'
  ·have hkl:k=l.length:=by omega
   have HK:=Lib.hid hkl
   clear hkl
   go_wp2
   go_ret
   refine ⟨?_,BW.out⟩
   rw [idxOf_miss (fun j hj=>A.out j (by have:=HK.out;omega) hj)]
   rfl
set_option maxHeartbeats 400000 in
theorem anyPut_any (G:Nat→Prop) (v:Value) (l:List Put) (p:Put→Bool) (g:Nat) (cb:Array Value) (eg:∀ args w,(callFunc g args).run Tryz.prog w=.ok (.enter g args) w) (w:World)
  (hG:Dom G w) (hv:PutsAt G w v l)
  (hf:∀ i (h:i < l.length) W ev,Below w.heap.size w W→putV G W ev l[i]→Calls Tryz.prog g (#[ev]++cb) W fun e w'=>e=.returned (.bool (p l[i]))∧Below W.heap.size W w') :
  Calls Tryz.prog 167 #[v,.func (.func g) #[] cb] w fun e w'=>e=.returned (.bool (l.any p))∧Below w.heap.size w w':=by
 rw [← idxOf_nonneg]
 go_enter Tryz.func167,Tryz.ntmps167
 go_wp2_with (go_at_call 231;refine (idxPut_any G v l p g cb eg _ hG hv hf).mono ?_;rintro e w' ⟨rfl,hb'⟩)
 go_ret
 exact ⟨rfl,hb'⟩
end Go.Proofs
namespace Go.Proofs
open Go.RowKit Sc
abbrev extV (x:Ext):Value:=.agg #[.int .i64 x.first,.int .i64 x.len]
set_option maxHeartbeats 1000000 in
theorem idxExt_any (G:Nat→Prop) (v:Value) (l:List Ext) (p:Ext→Bool) (g:Nat) (cb:Array Value) (eg:∀ args w,(callFunc g args).run Tryz.prog w=.ok (.enter g args) w) (w:World)
  (hv:ExtsAt G w v l)
  (hf:∀ i (h:i < l.length) W,Below w.heap.size w W→Calls Tryz.prog g (#[extV l[i]]++cb) W fun e w'=>e=.returned (.bool (p l[i]))∧Below W.heap.size W w') :
  Calls Tryz.prog 382 #[v,.func (.func g) #[] cb] w fun e w'=>e=.returned (.int .i64 (idxOf p l))∧Below w.heap.size w w':=by
 obtain ⟨ptr,c,rfl,h1,h2,h3,h4⟩:=hv
 have H4:=Lib.hid h4
 have HF:=Lib.hid hf
 clear h4 hf h3
 go_enter Tryz.func382,Tryz.ntmps382
 go_wp2
 go_loopg [5,8] l.length (fun gg _ s8 wr=>∃ k:Nat,k≤l.length∧l.length - k≤gg∧s8=.int .i64 k∧Hid (Below w.heap.size w wr)∧Hid (∀ j (h:j < k) (h':j < l.length),p l[j]=false))
 case atStart=>exact ⟨0,Nat.zero_le _,by omega,rfl,Below.refl _ w,fun j hj=>absurd hj (Nat.not_lt_zero _)⟩
 case round =>
  obtain ⟨k,hk,hg,rfl,BW,A⟩:=hrel
  by_cases hlt:k < l.length
  ·obtain ⟨b,o,rfl,hb,hc1,hc2,hi,hi2⟩:=H4.out k hlt
   have hbl:=World.block_lt_of_cell? w _ hc1
   have hc1':=(BW.out.cell (p:=⟨b,o+k * 2,none⟩) hbl).trans hc1
   have hc2':=(BW.out.cell (p:=⟨b,o+k * 2+1,none⟩) hbl).trans hc2
   have hcall:=HF.out k hlt wr BW.out
   generalize hy:l[k]=y at hc1' hc2' hcall
   have B:=Lib.hid hy
   clear hy hc1 hc2 hi hi2 hb
   cases hq:p y with
   | true =>
    rw [hq] at hcall
    have HQ:=Lib.hid hq
    have HC:=Lib.hid hcall
    clear hq hcall
    go_wp2_with (go_at_fn g;refine (HC.out).mono ?_;rintro e w' ⟨rfl,hb'⟩)
    go_ret
    refine ⟨?_,BW.out.trans (hb'.mono BW.out.size)⟩
    rw [idxOf_hit hlt (by rw [B.out];exact HQ.out) (fun j hj=>A.out j hj (by omega))]
    rfl
   | false =>
    rw [hq] at hcall
    have HQ:=Lib.hid hq
    have HC:=Lib.hid hcall
    clear hq hcall
    go_wp2_with (go_at_fn g;refine (HC.out).mono ?_;rintro e w' ⟨rfl,hb'⟩)
    go_roundg (l.length - (k+1))
    case measure=>omega
    case rel =>
     refine ⟨k+1,by omega,by omega,by go_num,BW.out.trans (hb'.mono BW.out.size),fun j hj hj'=>?_⟩
     by_cases e:j=k
     ·subst e;rw [B.out];exact HQ.out
     ·exact A.out j (by omega) hj'
  ·have hkl:k=l.length:=by omega
   have HK:=Lib.hid hkl
   clear hkl
   go_wp2
   go_ret
   refine ⟨?_,BW.out⟩
   rw [idxOf_miss (fun j hj=>A.out j (by have:=HK.out;omega) hj)]
   rfl
set_option maxHeartbeats 400000 in
theorem anyExt_any (G:Nat→Prop) (v:Value) (l:List Ext) (p:Ext→Bool) (g:Nat) (cb:Array Value) (eg:∀ args w,(callFunc g args).run Tryz.prog w=.ok (.enter g args) w) (w:World)
  (hv:ExtsAt G w v l)
  (hf:∀ i (h:i < l.length) W,Below w.heap.size w W→Calls Tryz.prog g (#[extV l[i]]++cb) W fun e w'=>e=.returned (.bool (p l[i]))∧Below W.heap.size W w') :
  Calls Tryz.prog 357 #[v,.func (.func g) #[] cb] w fun e w'=>e=.returned (.bool (l.any p))∧Below w.heap.size w w':=by
 rw [← idxOf_nonneg]
 go_enter Tryz.func357,Tryz.ntmps357
 go_wp2_with (go_at_call 382;refine (idxExt_any G v l p g cb eg _ hv hf).mono ?_;rintro e w' ⟨rfl,hb'⟩)
 go_ret
 exact ⟨rfl,hb'⟩
end Go.Proofs
namespace Sc
def cov (l:List Ext) (x:Int):Prop:=∃ e∈l,e.first≤x∧x < e.first+e.len
def Canon (l:List Ext):Prop:=(∀ e∈l,1≤e.len)∧l.Pairwise (fun a b=>a.first+a.len < b.first)
theorem ext_eta {a b:Ext} (h1:a.first=b.first) (h2:a.len=b.len):a=b:=by cases a;cases b;simp_all
theorem cov_nil (x:Int):¬ cov [] x:=fun ⟨_,h,_⟩=>by cases h
theorem cov_cons {e:Ext} {l:List Ext} {x:Int}:cov (e :: l) x↔(e.first≤x∧x < e.first+e.len)∨cov l x:=by
 constructor
 ·rintro ⟨y,hy,h⟩
  rcases List.mem_cons.1 hy with rfl | hy
  ·exact .inl h
  ·exact .inr ⟨y,hy,h⟩
 ·rintro (h | ⟨y,hy,h⟩)
  ·exact ⟨e,by simp,h⟩
  ·exact ⟨y,by simp [hy],h⟩
theorem cov_append {a b:List Ext} {x:Int}:cov (a++b) x↔cov a x∨cov b x:=by
 constructor
 ·rintro ⟨y,hy,h⟩
  rcases List.mem_append.1 hy with hy | hy
  ·exact .inl ⟨y,hy,h⟩
  ·exact .inr ⟨y,hy,h⟩
 ·rintro (⟨y,hy,h⟩ | ⟨y,hy,h⟩)
  ·exact ⟨y,by simp [hy],h⟩
  ·exact ⟨y,by simp [hy],h⟩
theorem cov_perm {a b:List Ext} (h:a.Perm b) {x:Int}:cov a x↔cov b x :=
 ⟨fun ⟨e,he,hx⟩=>⟨e,h.mem_iff.1 he,hx⟩,fun ⟨e,he,hx⟩=>⟨e,h.mem_iff.2 he,hx⟩⟩
theorem cov_mem {l:List Ext} {e:Ext} (he:e∈l) {x:Int} (h:e.first≤x∧x < e.first+e.len):cov l x:=⟨e,he,h⟩
theorem Canon.nil:Canon []:=⟨by simp,List.Pairwise.nil⟩
theorem Canon.cons {e:Ext} {l:List Ext} (h:Canon (e :: l)):1≤e.len∧(∀ y∈l,e.first+e.len < y.first)∧Canon l :=
 ⟨h.1 e (by simp),(List.pairwise_cons.1 h.2).1,fun y hy=>h.1 y (by simp [hy]),(List.pairwise_cons.1 h.2).2⟩
theorem Canon.mk1 {e:Ext} (h:1≤e.len):Canon [e]:=⟨by simpa using h,by simp⟩
theorem canon_ext:∀ {l m:List Ext},Canon l→Canon m→(∀ x,cov l x↔cov m x)→l=m
 | [],[],_,_,_=>rfl
 | [],b :: m,_,hm,h=>absurd ((h b.first).2 (cov_cons.2 (.inl ⟨Int.le_refl _,by have:=hm.cons.1;omega⟩))) (cov_nil _)
 | a :: l,[],hl,_,h=>absurd ((h a.first).1 (cov_cons.2 (.inl ⟨Int.le_refl _,by have:=hl.cons.1;omega⟩))) (cov_nil _)
 | a :: l,b :: m,hl,hm,h=>by
  obtain ⟨a1,a2,a3⟩:=hl.cons
  obtain ⟨b1,b2,b3⟩:=hm.cons
  have la:∀ x,cov l x→a.first+a.len < x:=fun x ⟨y,hy,hx⟩=>by have:=a2 y hy;omega
  have lb:∀ x,cov m x→b.first+b.len < x:=fun x ⟨y,hy,hx⟩=>by have:=b2 y hy;omega
  have e1:a.first=b.first:=by
   have h1:=(h a.first).1 (cov_cons.2 (.inl ⟨Int.le_refl _,by omega⟩))
   have h2:=(h b.first).2 (cov_cons.2 (.inl ⟨Int.le_refl _,by omega⟩))
   rcases cov_cons.1 h1 with h1 | h1 <;> rcases cov_cons.1 h2 with h2 | h2
   ·omega
   ·have:=la _ h2;omega
   ·have:=lb _ h1;omega
   ·have:=la _ h2;have:=lb _ h1;omega
  have e2:a.len=b.len:=by
   rcases Int.lt_trichotomy a.len b.len with h1 | h1 | h1
   ·have h2:=(h (a.first+a.len)).2 (cov_cons.2 (.inl ⟨by omega,by omega⟩))
    rcases cov_cons.1 h2 with h2 | h2
    ·omega
    ·have:=la _ h2;omega
   ·exact h1
   ·have h2:=(h (b.first+b.len)).1 (cov_cons.2 (.inl ⟨by omega,by omega⟩))
    rcases cov_cons.1 h2 with h2 | h2
    ·omega
    ·have:=lb _ h2;omega
  have e3:l=m:=by
   refine canon_ext a3 b3 fun x=>⟨fun hx=>?_,fun hx=>?_⟩
   ·have:=la x hx
    rcases cov_cons.1 ((h x).1 (cov_cons.2 (.inr hx))) with h2 | h2
    ·omega
    ·exact h2
   ·have:=lb x hx
    rcases cov_cons.1 ((h x).2 (cov_cons.2 (.inr hx))) with h2 | h2
    ·omega
    ·exact h2
  rw [ext_eta e1 e2,e3]
def mayB (e:Ext):Bool:=decide (0≤e.first) && decide (e.first≤1048576) && decide (1≤e.len) && decide (e.len≤1048576) && decide (e.first+e.len≤1048577)
theorem mayB_iff {e:Ext}:mayB e=true↔0≤e.first∧e.first≤1048576∧1≤e.len∧e.len≤1048576∧e.first+e.len≤1048577:=by
 unfold mayB
 simp only [Bool.and_eq_true,decide_eq_true_eq]
 omega
theorem mayB_no {e:Ext}:mayB e=false↔¬ (0≤e.first∧e.first≤1048576∧1≤e.len∧e.len≤1048576∧e.first+e.len≤1048577):=by
 rw [← mayB_iff];simp
def meetB (a b:Ext):Bool:=decide (a.first < b.first+b.len) && decide (b.first < a.first+a.len)
def Sml (e:Ext):Prop:=-1099511627776≤e.first∧e.first≤1099511627776∧-1099511627776≤e.len∧e.len≤1099511627776
theorem mayB_sml {e:Ext} (h:mayB e=true):Sml e:=by have:=mayB_iff.1 h;unfold Sml;omega
def Oke (e:Ext):Prop:=0≤e.first∧e.first≤1048576∧1≤e.len∧e.first+e.len≤1048577
theorem mayB_oke {e:Ext} (h:mayB e=true):Oke e:=by have:=mayB_iff.1 h;unfold Oke;omega
theorem Oke.sml {e:Ext} (h:Oke e):Sml e:=by unfold Oke at h;unfold Sml;omega
def joinStep (out:List Ext) (e:Ext):List Ext :=
 match out.getLast? with
 | some o=>if e.first≤o.first+o.len then out.dropLast++[⟨o.first,max o.len (e.first+e.len - o.first)⟩] else out++[e]
 | none=>[e]
def joinL (l:List Ext):List Ext:=l.foldl joinStep []
theorem joinL_snoc (l:List Ext) (e:Ext):joinL (l++[e])=joinStep (joinL l) e:=by simp [joinL]
theorem joinStep_nil (e:Ext):joinStep [] e=[e]:=rfl
theorem joinStep_snoc (out:List Ext) (o e:Ext):joinStep (out++[o]) e=if e.first≤o.first+o.len then out++[⟨o.first,max o.len (e.first+e.len - o.first)⟩] else out++[o]++[e]:=by
 unfold joinStep
 rw [List.getLast?_concat,List.dropLast_concat]
theorem snoc_of {α:Type} {l:List α} (h:l≠[]):∃ a b,l=a++[b]:=⟨l.dropLast,l.getLast h,(List.dropLast_concat_getLast h).symm⟩
theorem canon_snoc {out:List Ext} {o:Ext}:Canon (out++[o])↔Canon out∧1≤o.len∧∀ y∈out,y.first+y.len < o.first:=by
 unfold Canon
 rw [List.pairwise_append]
 constructor
 ·rintro ⟨h1,h2,_,h3⟩
  exact ⟨⟨fun e he=>h1 e (by simp [he]),h2⟩,h1 o (by simp),fun y hy=>h3 y hy o (by simp)⟩
 ·rintro ⟨⟨h1,h2⟩,h3,h4⟩
  refine ⟨fun e he=>?_,h2,by simp,fun y hy z hz=>?_⟩
  ·rcases List.mem_append.1 he with he | he
   ·exact h1 e he
   ·rw [List.mem_singleton] at he;rw [he];exact h3
  ·rw [List.mem_singleton] at hz;rw [hz];exact h4 y hy
theorem joinStep_good {out:List Ext} {e:Ext} (hc:Canon out) (he:1≤e.len) (hf:∀ o∈out,o.first≤e.first) :
  Canon (joinStep out e)∧(∀ x,cov (joinStep out e) x↔cov out x∨(e.first≤x∧x < e.first+e.len))∧(∀ o∈joinStep out e,o.first≤e.first)∧(joinStep out e).length≤out.length+1∧0 < (joinStep out e).length:=by
 by_cases hn:out=[]
 ·subst hn
  rw [joinStep_nil]
  refine ⟨Canon.mk1 he,fun x=>?_,by simp,by simp,by simp⟩
  rw [cov_cons]
  have:=cov_nil x
  constructor <;> (rintro (h | h) <;> simp_all)
 ·obtain ⟨a,o,rfl⟩:=snoc_of hn
  rw [joinStep_snoc]
  obtain ⟨c1,c2,c3⟩:=canon_snoc.1 hc
  have ho:=hf o (by simp)
  split
  ·rename_i hle
   refine ⟨canon_snoc.2 ⟨c1,by simp only;omega,fun y hy=>c3 y hy⟩,fun x=>?_,fun y hy=>?_,by simp,by simp⟩
   ·rw [cov_append,cov_append,cov_cons,cov_cons]
    have:=cov_nil x
    simp only
    constructor
    ·rintro (h | h | h)
     ·exact .inl (.inl h)
     ·by_cases hx:x < o.first+o.len
      ·exact .inl (.inr (.inl ⟨h.1,hx⟩))
      ·exact .inr ⟨by omega,by omega⟩
     ·exact absurd h this
    ·rintro ((h | h | h) | h)
     ·exact .inl h
     ·exact .inr (.inl ⟨h.1,by omega⟩)
     ·exact absurd h this
     ·exact .inr (.inl ⟨by omega,by omega⟩)
   ·rcases List.mem_append.1 hy with hy | hy
    ·exact hf y (by simp [hy])
    ·rw [List.mem_singleton] at hy;rw [hy];exact ho
  ·rename_i hgt
   refine ⟨canon_snoc.2 ⟨hc,he,fun y hy=>?_⟩,fun x=>?_,fun y hy=>?_,by simp,by simp⟩
   ·rcases List.mem_append.1 hy with hy | hy
    ·have:=c3 y hy;omega
    ·rw [List.mem_singleton] at hy;rw [hy];omega
   ·rw [cov_append,cov_cons]
    have:=cov_nil x
    constructor
    ·rintro (h | h | h)
     ·exact .inl h
     ·exact .inr h
     ·exact absurd h this
    ·rintro (h | h)
     ·exact .inl h
     ·exact .inr (.inl h)
   ·rcases List.mem_append.1 hy with hy | hy
    ·exact hf y hy
    ·rw [List.mem_singleton] at hy;rw [hy];exact Int.le_refl _
theorem joinStep_oke {out:List Ext} {e:Ext} (h:∀ o∈out,Oke o) (he:Oke e):∀ o∈joinStep out e,Oke o:=by
 by_cases hn:out=[]
 ·subst hn;rw [joinStep_nil];simpa using he
 ·obtain ⟨a,o,rfl⟩:=snoc_of hn
  rw [joinStep_snoc]
  have ho:=h o (by simp)
  split
  ·intro y hy
   rcases List.mem_append.1 hy with hy | hy
   ·exact h y (by simp [hy])
   ·rw [List.mem_singleton] at hy;subst hy
    unfold Oke at *;simp only;omega
  ·intro y hy
   rcases List.mem_append.1 hy with hy | hy
   ·exact h y hy
   ·rw [List.mem_singleton] at hy;subst hy;exact he
theorem joinL_oke (l:List Ext) (h:∀ e∈l,Oke e):∀ o∈joinL l,Oke o:=by
 induction hl:l.length generalizing l with
 | zero=>obtain rfl:=List.length_eq_zero_iff.1 hl;simp [joinL]
 | succ n ih =>
  obtain ⟨a,e,rfl⟩:=snoc_of (l:=l) (by intro e;rw [e] at hl;simp at hl)
  rw [List.length_append,List.length_singleton] at hl
  rw [joinL_snoc]
  exact joinStep_oke (ih a (fun e he=>h e (by simp [he])) (by omega)) (h e (by simp))
theorem joinL_len (l:List Ext):(joinL l).length≤l.length:=by
 induction hl:l.length generalizing l with
 | zero=>obtain rfl:=List.length_eq_zero_iff.1 hl;simp [joinL]
 | succ n ih =>
  obtain ⟨a,e,rfl⟩:=snoc_of (l:=l) (by intro e;rw [e] at hl;simp at hl)
  rw [List.length_append,List.length_singleton] at hl
  have:=ih a (by omega)
  rw [joinL_snoc]
  by_cases hn:joinL a=[]
  ·rw [hn,joinStep_nil];simp
  ·obtain ⟨b,o,hb⟩:=snoc_of hn
   rw [hb] at this ⊢
   rw [List.length_append,List.length_singleton] at this
   rw [joinStep_snoc]
   split <;> simp <;> omega
theorem joinL_good:∀ (l:List Ext),(∀ e∈l,1≤e.len)→l.Pairwise (fun a b=>a.first≤b.first) →
  Canon (joinL l)∧(∀ x,cov (joinL l) x↔cov l x)∧(∀ o∈joinL l,∀ m,(∀ e∈l,e.first≤m)→o.first≤m)∧(joinL l).length≤l.length∧(l≠[]→joinL l≠[]):=by
 intro l
 induction h:l.length generalizing l with
 | zero =>
  obtain rfl:=List.length_eq_zero_iff.1 h
  intro _ _
  exact ⟨Canon.nil,fun _=>Iff.rfl,by simp [joinL],by simp [joinL],fun h=>absurd rfl h⟩
 | succ n ih =>
  intro h1 h2
  obtain ⟨a,e,rfl⟩:=snoc_of (l:=l) (by intro e;rw [e] at h;simp at h)
  rw [List.length_append,List.length_singleton] at h
  rw [List.pairwise_append] at h2
  obtain ⟨g1,g2,g3,g4,_⟩:=ih a (by omega) (fun e he=>h1 e (by simp [he])) h2.1
  rw [joinL_snoc]
  have hle:∀ o∈joinL a,o.first≤e.first:=fun o ho=>g3 o ho e.first fun y hy=>h2.2.2 y hy e (by simp)
  obtain ⟨k1,k2,k3,k4,k5⟩:=joinStep_good g1 (h1 e (by simp)) hle
  refine ⟨k1,fun x=>?_,fun o ho m hm=>?_,by omega,fun _ hq=>?_⟩
  ·rw [k2 x,g2 x,cov_append,cov_cons]
   have:=cov_nil x
   constructor
   ·rintro (h | h)
    ·exact .inl h
    ·exact .inr (.inl h)
   ·rintro (h | h | h)
    ·exact .inl h
    ·exact .inr h
    ·exact absurd h this
  ·exact Int.le_trans (k3 o ho) (hm e (by simp))
  ·rw [hq] at k5;simp at k5
def normE (l:List Ext):List Ext:=joinL (l.mergeSort fun a b=>decide (a.first≤b.first))
theorem sortE_props (l:List Ext):(l.mergeSort fun a b=>decide (a.first≤b.first)).Perm l∧(l.mergeSort fun a b=>decide (a.first≤b.first)).Pairwise (fun a b=>a.first≤b.first):=by
 refine ⟨List.mergeSort_perm _ _,?_⟩
 have:=List.pairwise_mergeSort (le:=fun a b:Ext=>decide (a.first≤b.first)) (fun a b c h1 h2=>by simp at *;omega) (fun a b=>by simp;omega) l
 exact this.imp fun h=>by simpa using h
theorem normE_good {l:List Ext} (h:∀ e∈l,1≤e.len):Canon (normE l)∧(∀ x,cov (normE l) x↔cov l x)∧(normE l).length≤l.length∧(l≠[]→normE l≠[]):=by
 obtain ⟨h1,h2⟩:=sortE_props l
 obtain ⟨g1,g2,_,g4,g5⟩:=joinL_good _ (fun e he=>h e (h1.mem_iff.1 he)) h2
 refine ⟨g1,fun x=>(g2 x).trans (cov_perm h1),by rw [← h1.length_eq];exact g4,fun hn=>g5 fun e=>hn ?_⟩
 have:=h1.length_eq
 rw [e] at this
 exact List.length_eq_zero_iff.1 this.symm
theorem normE_oke {l:List Ext} (h:∀ e∈l,Oke e):∀ e∈normE l,Oke e:=joinL_oke _ fun e he=>h e ((sortE_props l).1.mem_iff.1 he)
theorem normE_eq {l l':List Ext} (h:∀ e∈l,1≤e.len) (hp:l'.Perm l) (hs:l'.Pairwise (fun a b=>a.first≤b.first)):joinL l'=normE l:=by
 obtain ⟨g1,g2,_⟩:=joinL_good l' (fun e he=>h e (hp.mem_iff.1 he)) hs
 obtain ⟨k1,k2,_⟩:=normE_good h
 exact canon_ext g1 k1 fun x=>by rw [g2,k2,cov_perm hp]
theorem normE_ext {l m:List Ext} (h:∀ e∈l,1≤e.len) (hc:Canon m) (hx:∀ x,cov m x↔cov l x):normE l=m:=by
 obtain ⟨k1,k2,_⟩:=normE_good h
 exact canon_ext k1 hc fun x=>by rw [k2,hx]
end Sc
namespace Go.Proofs
open Go.RowKit Sc
def sat (n x:Int):Int:=if 1099511627776 - n < x then 1099511627776 else n+x
def sumTo (n:Int):List Int→Int
 | []=>n
 | x :: r=>if 1099511627776 < n∨1099511627776 - n < x then 1099511627776 else sumTo (n+x) r
theorem sumTo_stop (n x:Int) (r:List Int) (h:1099511627776 < n∨1099511627776 - n < x):sumTo n (x :: r)=1099511627776:=by rw [sumTo,if_pos h]
theorem sumTo_go (n x:Int) (r:List Int) (h1:n≤1099511627776) (h2:x≤1099511627776 - n):sumTo n (x :: r)=sumTo (n+x) r:=by
 rw [sumTo,if_neg];omega
set_option maxHeartbeats 400000 in
theorem sum_any (n:Int) (l:List Int) (b o c:Nat) (w:World) (hn:0≤n) (hn2:n≤1099511627776) (hl:∀ i,i < l.length→0≤l.getD i 0∧l.getD i 0≤9223372036854775807) (hm:l.length≤9223372036854775807)
  (hc:∀ i,i < l.length→w.cell? ⟨b,o+i,none⟩=some (.int .i64 (l.getD i 0))) :
   Calls Tryz.prog 11 #[.int .i64 n,.slice (some ⟨b,o,none⟩) l.length c] w fun e w'=>e=.returned (.int .i64 (sumTo n l))∧w=w':=by
 go_enter Tryz.func11,Tryz.ntmps11
 go_wp2
 go_loop [0,5] (fun s i=>∃ k:Nat,∃ q:Int,k≤l.length∧0≤q∧q≤1099511627776∧i=.int .i64 k∧s=.int .i64 q∧sumTo q (l.drop k)=sumTo n l) (fun _ i=>l.length - (intOf i).toNat)
 case atStart=>exact ⟨0,n,by omega,hn,hn2,rfl,rfl,rfl⟩
 case round =>
  obtain ⟨k,q,hk,hq,hq2,rfl,rfl,hs⟩:=hrel
  by_cases hlt:k < l.length
  ·have hd:l.drop k=l.getD k 0 :: l.drop (k+1):=by
    rw [List.drop_eq_getElem_cons hlt];simp [List.getD,hlt]
   have hck:=hc k hlt
   obtain ⟨hx0,hx1⟩:=hl k hlt
   rw [hd] at hs
   generalize l.getD k 0=x at hs hck hx0 hx1
   have HS:=Lib.hid hs
   clear hs hd hc hl
   go_wp2
   ·have hst:1099511627776 < q∨1099511627776 - q < x:=by assumption
    go_ret
    rw [← HS.out,sumTo_stop _ _ _ hst]
    exact ⟨rfl,rfl⟩
   ·have hgo:q≤1099511627776∧x≤1099511627776 - q:=by assumption
    refine ⟨⟨k+1,q+x,by omega,by omega,by omega,by go_num,rfl,?_⟩,by simp [intOf];omega⟩
    rw [← HS.out,sumTo_go _ _ _ (by omega) (by omega)]
  ·have HS:=Lib.hid hs
   have hk2:k=l.length:=by omega
   clear hs hc hl
   go_wp2
   go_ret
   rw [← HS.out,hk2]
   simp [sumTo]
theorem sum_one (n x:Int) (b c:Nat) (w:World) (hn:0≤n) (hn2:n≤1099511627776) (hx:0≤x) (hx2:x≤9223372036854775807) (hc:w.cell? ⟨b,0,none⟩=some (.int .i64 x)) :
  Calls Tryz.prog 11 #[.int .i64 n,.slice (some ⟨b,0,none⟩) 1 c] w fun e w'=>e=.returned (.int .i64 (sat n x))∧w=w':=by
 refine (sum_any n [x] b 0 c w hn hn2 (fun i hi=>?_) (by simp) (fun i hi=>?_)).mono ?_
 ·simp only [List.length_cons,List.length_nil] at hi;obtain rfl:i=0:=by omega
  exact ⟨hx,hx2⟩
 ·simp only [List.length_cons,List.length_nil] at hi;obtain rfl:i=0:=by omega
  exact hc
 ·rintro e w' ⟨rfl,rfl⟩
  refine ⟨?_,rfl⟩
  simp only [sumTo,sat]
  by_cases h:1099511627776 - n < x
  ·rw [if_pos (.inr h),if_pos h]
  ·rw [if_neg (by omega),if_neg h]
def roundN (k n:Int):Int:=if k.tmod n < 0 then k.tmod n+n else k.tmod n
theorem tmod_bd (k:Int) {n:Int} (hn:0 < n):-n < k.tmod n∧k.tmod n < n:=by
 have h1:=Int.tmod_lt_of_pos k hn
 have h2:=Int.lt_tmod_of_pos k hn
 exact ⟨h2,h1⟩
theorem roundN_bd (k:Int) {n:Int} (hn:0 < n):0≤roundN k n∧roundN k n < n:=by
 have:=tmod_bd k hn
 unfold roundN;split <;> omega
set_option maxHeartbeats 400000 in
theorem round_any (k n:Int) (w:World) (hn:0 < n) (hn2:n≤1099511627776) :
  Calls Tryz.prog 48 #[.int .i64 k,.int .i64 n] w fun e w'=>e=.returned (.int .i64 (roundN k n))∧w=w':=by
 have hb:=tmod_bd k hn
 have hz:(n == 0)=false:=by rw [beq_eq_false_iff_ne];omega
 have hdef:roundN k n=if k.tmod n < 0 then k.tmod n+n else k.tmod n:=rfl
 have HD:=Lib.hid hdef
 clear hdef
 go_enter Tryz.func48,Tryz.ntmps48
 go_wp2
 ·have hlt:k.tmod n < 0:=by assumption
  go_ret
  rw [HD.out,if_pos hlt];exact ⟨rfl,rfl⟩
 ·have hge:0≤k.tmod n:=by assumption
  go_ret
  rw [HD.out,if_neg (by omega)];exact ⟨rfl,rfl⟩
theorem u8_ne {x y:UInt8}:((x.toNat:Int) != (y.toNat:Int))=(x != y):=by
 rw [Bool.eq_iff_iff];simp only [bne_iff_ne,ne_eq];rw [Int.ofNat_inj,UInt8.toNat_inj]
def boolRet (b:Bool):Ending:=.returned (.bool b)
set_option maxHeartbeats 400000 in
theorem bytes_any (G:Nat→Prop) (va vb:Value) (a b:Bytes) (w:World) (ha:BytesAt G w va a) (hb:BytesAt G w vb b) :
  Calls Tryz.prog 10 #[va,vb] w fun e w'=>e=.returned (.bool (a == b))∧Below w.heap.size w w':=by
 by_cases hlen:a.length=b.length
 case neg =>
  obtain ⟨pa,ca,rfl,ha1,ha2,_⟩:=ha
  obtain ⟨pb,cb,rfl,hb1,hb2,_⟩:=hb
  have hne:(((a.length:Nat):Int) != ((b.length:Nat):Int))=true:=by rw [bne_iff_ne];omega
  have hne2:(a == b)=false:=by rw [beq_eq_false_iff_ne];intro h;exact hlen (by rw [h])
  have H2:=Lib.hid hne2
  clear hne2
  go_enter Tryz.func10,Tryz.ntmps10
  go_wp2
  go_ret
  rw [H2.out]
  exact ⟨rfl,Below.refl _ _⟩
 case pos =>
  rcases ha.base with ⟨rfl,pa,ca,rfl,ha2,_⟩ | ⟨ba,oa,ca,rfl,ha0,ha1,ha2,_,ha4⟩
  ·have hb0:b=[]:=List.length_eq_zero_iff.1 (by simpa using hlen.symm)
   subst hb0
   obtain ⟨pb,cb,rfl,_⟩:=hb
   go_enter Tryz.func10,Tryz.ntmps10
   go_wp2
   go_loop [5] (fun i=>i=.int .i64 0) (fun _=>0)
   case atStart=>rfl
   case round =>
    subst hrel
    go_wp2
    go_ret
    exact ⟨rfl,Below.refl _ _⟩
  rcases hb.base with ⟨rfl,pb,cb,rfl,hb2,_⟩ | ⟨bb,ob,cb,rfl,hb0,hb1,hb2,_,hb4⟩
  ·simp at hlen;subst hlen;simp at ha0
  have hcells:∀ i,i < a.length→w.cell? ⟨ba,oa+i,none⟩=some (.int .u8 ((a.getD i 0).toNat:Int))∧w.cell? ⟨bb,ob+i,none⟩=some (.int .u8 ((b.getD i 0).toNat:Int)):=by
   intro i hi
   have h1:=ha4 i hi
   have h2:=hb4 i (by omega)
   unfold byteE at h1 h2
   rw [Nat.mul_one] at h1 h2
   simp only [List.getD,List.getElem?_eq_getElem hi,List.getElem?_eq_getElem (show i < b.length by omega),Option.getD_some]
   exact ⟨h1,h2⟩
  clear ha4 hb4 ha hb
  have HL:=Lib.hid hlen
  have heq:(((a.length:Nat):Int) != ((b.length:Nat):Int))=false:=by rw [bne_eq_false_iff_eq];omega
  clear hlen
  go_enter Tryz.func10,Tryz.ntmps10
  go_wp2
  go_loopw [5] (fun i wr=>∃ k:Nat,k≤a.length∧i=.int .i64 k∧a.take k=b.take k∧Below w.heap.size w wr) (fun i _=>a.length - (intOf i).toNat)
  case atStart=>exact ⟨0,by omega,rfl,rfl,Below.refl _ _⟩
  case round =>
   obtain ⟨k,hk,rfl,ht,hbw⟩:=hrel
   have HT:=Lib.hid ht
   clear ht
   by_cases hlt:k < a.length
   ·obtain ⟨h1,h2⟩:=hcells k hlt
    have h1':=(hbw.cell (p:=⟨ba,oa+k,none⟩) (World.block_lt_of_cell? w _ h1)).trans h1
    have h2':=(hbw.cell (p:=⟨bb,ob+k,none⟩) (World.block_lt_of_cell? w _ h2)).trans h2
    have hltb:k < b.length:=by rw [← HL.out];exact hlt
    have hta:=take_snoc a k hlt
    have htb:=take_snoc b k hltb
    have ga:a.getD k 0=a[k]:=by simp [List.getD,hlt]
    have gb:b.getD k 0=b[k]:=by simp [List.getD,hltb]
    rw [ga] at h1'
    rw [gb] at h2'
    have HA:=Lib.hid hta
    have HB:=Lib.hid htb
    generalize a[k]=x at h1' HA
    generalize b[k]=y at h2' HB
    have HC:=Lib.hid hcells
    clear hta htb ga gb h1 h2 hcells
    by_cases hxy:x=y
    ·subst hxy
     have hd:((x.toNat:Int) != (x.toNat:Int))=false:=by simp
     go_wp2
     go_quiet (fail)
     go_wp2
     go_roundw
     case rel=>exact ⟨k+1,by omega,by go_num,by rw [HA.out,HB.out,HT.out],by exact below_drewN hbw _⟩
     case measure=>simp [intOf];omega
    ·have hd:((x.toNat:Int) != (y.toNat:Int))=true:=by rw [u8_ne,bne_iff_ne];exact hxy
     have HX:=Lib.hid hxy
     clear hxy
     go_wp2
     go_quiet (fail)
     go_wp2
     go_ret
     refine ⟨?_,?_⟩
     ·have:(a == b)=false:=by
       rw [beq_eq_false_iff_ne];intro h
       have h1:=HA.out;rw [h,HB.out] at h1
       have h2:=(List.append_inj' h1 rfl).2
       exact HX.out (by simpa using h2.symm)
      exact congrArg boolRet this.symm
     ·exact below_drewN hbw _
   ·have HK:=Lib.hid (show k=a.length by omega)
    clear hcells
    go_wp2
    go_ret
    refine ⟨?_,hbw⟩
    have:(a == b)=true:=by
     have h:=HT.out
     rw [HK.out,List.take_length,HL.out,List.take_length] at h
     rw [h];simp
    exact congrArg boolRet this.symm
def psz (l:List Put):Nat:=l.length+(l.map fun p=>p.data.length).sum
theorem sum_take_succ {α:Type} (f:α→Nat) (l:List α) (k:Nat) (h:k < l.length):((l.take (k+1)).map f).sum=((l.take k).map f).sum+f l[k]:=by
 rw [take_snoc l k h,List.map_append,List.sum_append];simp
def SizeSaid (top:Int) (s:Nat) (w:World) (e:Ending) (w':World):Prop:=∃ n:Int,e=.returned (.int .i64 n)∧0≤n∧n≤1099511627776∧(n≤top→n=s)∧Below w.heap.size w w'
theorem cell_alloc_old {w:World} {o:Obj} {a:Addr} {v:Value} (h:w.cell? a=some v):(w.alloc o).cell? a=some v:=by
 rw [World.cell?_of_block (w:=w) (Below.heap_alloc w o a.block (World.block_lt_of_cell? w _ h))];exact h
set_option maxHeartbeats 400000 in
theorem puts_any (G:Nat→Prop) (v:Value) (l:List Put) (top:Int) (w:World) (hv:PutsAt G w v l) (ht:0≤top) (ht2:top < 1099511627776) :
  Calls Tryz.prog 12 #[v,.int .i64 top] w (SizeSaid top (psz l) w):=by
 have hsat:sat 0 (l.length:Int)=min 1099511627776 (l.length:Int):=by unfold sat;split <;> omega
 obtain ⟨p,c,rfl,h1,h2,h3,h4⟩:=hv
 have H4:=Lib.hid h4
 clear h4
 have HS:=Lib.hid hsat
 clear hsat h3
 go_enter Tryz.func12,Tryz.ntmps12
 go_wp2_with (go_at_call 11;refine (sum_one 0 (l.length:Int) _ _ _ (by omega) (by omega) (by omega) (by omega) (by go_simp)).mono ?_;rintro e w' ⟨rfl,rfl⟩)
 rw [HS.out]
 go_loopw [5,6] (fun s i wr=>∃ k:Nat,k≤l.length∧i=.int .i64 k∧s=.int .i64 (min 1099511627776 ((l.length+((l.take k).map fun p=>p.data.length).sum:Nat):Int))∧Below w.heap.size w wr) (fun _ i _=>l.length - (intOf i).toNat)
 case atStart=>exact ⟨0,by omega,rfl,by simp,(Below.refl _ _).alloc (Nat.le_refl _) _⟩
 case round =>
  obtain ⟨k,hk,rfl,rfl,hbw⟩:=hrel
  generalize hm:l.length+((l.take k).map fun p=>p.data.length).sum=m
  have HM:=Lib.hid hm
  clear hm HS
  by_cases hlt:k < l.length
  ·obtain ⟨b,o,rfl,_,hc1,hi,pv,hc2,hd⟩:=H4.out k hlt
   obtain ⟨pp,pc,hpv,hd1,hd2,hd3,hd4⟩:=hd
   have hs:=sum_take_succ (fun p:Put=>p.data.length) l k hlt
   have hc2':=(hbw.cell (p:=⟨b,o+k * 2+1,none⟩) (World.block_lt_of_cell? w _ hc2)).trans hc2
   subst hpv
   generalize l[k].data.length=dl at hd1 hc2' hs
   have hdl:dl≤9223372036854775807:=by omega
   have HSS:=Lib.hid hs
   have hsat:sat (min 1099511627776 (m:Int)) dl=min 1099511627776 ((m+dl:Nat):Int):=by unfold sat;split <;> omega
   have HSAT:=Lib.hid hsat
   clear hs hc1 hi hc2 hd2 hd3 hd4 hsat
   by_cases hle:min 1099511627776 (m:Int)≤top
   ·generalize hq:min 1099511627776 (m:Int)=q at *
    have HQ:=Lib.hid hq
    have hq1:0≤q:=by omega
    have hq2:q≤1099511627776:=by omega
    clear hq
    go_wp2_with (go_at_call 11;refine (sum_one q (dl:Int) _ _ _ (by omega) (by omega) (by omega) (by omega) (by go_simp)).mono ?_;rintro e w' ⟨rfl,rfl⟩)
    go_roundw
    case rel=>exact ⟨k+1,by omega,by go_num,by rw [HSAT.out,HSS.out,← HM.out];simp [Nat.add_assoc],hbw.alloc hbw.size _⟩
    case measure=>simp [intOf];omega
   ·generalize hq:min 1099511627776 (m:Int)=q at *
    have HQ:=Lib.hid hq
    have hq1:0≤q:=by omega
    have hq2:q≤1099511627776:=by omega
    clear hq
    go_wp2
    go_ret
    exact ⟨q,rfl,hq1,hq2,fun h=>by omega,hbw⟩
  ·have hkl:k=l.length:=by omega
   have HK:=Lib.hid hkl
   clear hkl
   go_wp2
   go_ret
   refine ⟨_,rfl,by omega,by omega,fun h=>?_,hbw⟩
   have:=HM.out
   rw [HK.out,List.take_length] at this
   unfold psz;rw [this];omega
end Go.Proofs
namespace Go.Proofs
open Go.RowKit Sc
set_option maxHeartbeats 400000 in
theorem may_any (x:Ext) (w:World) (h1:I64 x.first) (h2:I64 x.len):Calls Tryz.prog 359 #[extV x] w fun e w'=>e=.returned (.bool (mayB x))∧Below w.heap.size w w':=by
 unfold I64 at h1 h2
 cases hq:mayB x with
 | true =>
  obtain ⟨a1,a2,a3,a4,a5⟩:=mayB_iff.1 hq
  have HQ:=Lib.hid hq
  clear hq
  go_enter Tryz.func359,Tryz.ntmps359
  go_wp2
  go_ret
  exact ⟨rfl,below_alloc _ _⟩
 | false =>
  have h:=mayB_no.1 hq
  rcases (show x.first < 0∨(0≤x.first∧1048576 < x.first)∨(0≤x.first∧x.first≤1048576∧x.len < 1)∨(0≤x.first∧x.first≤1048576∧1≤x.len∧1048576 < x.len)∨(0≤x.first∧x.first≤1048576∧1≤x.len∧x.len≤1048576∧1048577 < x.first+x.len) by omega) with a | ⟨a1,a⟩ | ⟨a1,a2,a⟩ | ⟨a1,a2,a3,a⟩ | ⟨a1,a2,a3,a4,a⟩
  all_goals
   clear h
   have HQ:=Lib.hid hq
   clear hq
   go_enter Tryz.func359,Tryz.ntmps359
   go_wp2
   go_ret
   refine ⟨congrArg boolRet ?_,below_alloc _ _⟩
   first | rfl | (simp;omega)
theorem allC_any (x:Ext) (w:World) (h1:I64 x.first) (h2:I64 x.len):Calls Tryz.prog 358 #[extV x] w fun e w'=>e=.returned (.bool (!mayB x))∧Below w.heap.size w w':=by
 have hb0:=below_alloc w (.cells #[.int .i64 x.first,.int .i64 x.len] 186)
 have HB0:=Lib.hid hb0
 clear hb0
 go_enter Tryz.func358,Tryz.ntmps358
 go_wp2_with fail
 refine (may_any x _ h1 h2).mono ?_
 rintro e w1 ⟨rfl,hb1⟩
 have hb2:=Below.up HB0.out hb1
 have HB1:=Lib.hid hb1
 have HB2:=Lib.hid hb2
 clear hb1 hb2
 go_wp2
 go_ret
 exact ⟨rfl,HB2.out⟩
def allB (l:List Ext):Bool:=l.all mayB
theorem allB_any (l:List Ext):(!l.any fun e=>!mayB e)=allB l:=by unfold allB;simp [List.all_eq_not_any_not]
theorem all_any (G:Nat→Prop) (v:Value) (l:List Ext) (w:World) (hv:ExtsAt G w v l):Calls Tryz.prog 323 #[v] w fun e w'=>e=.returned (.bool (allB l))∧Below w.heap.size w w':=by
 have H:=Lib.hid hv
 obtain ⟨p,c,rfl,_,_,_,h4⟩:=hv
 have H4:=Lib.hid h4
 clear h4
 go_enter Tryz.func323,Tryz.ntmps323
 go_wp2_with fail
 refine (anyExt_any G _ l (fun e=>!mayB e) 358 #[] (by go_simp) _ H.out (fun i hi W _=>allC_any l[i] W (by obtain ⟨_,_,_,_,_,_,q⟩:=H4.out i hi;exact q.1) (by obtain ⟨_,_,_,_,_,_,q⟩:=H4.out i hi;exact q.2))).mono ?_
 rintro e w1 ⟨rfl,hb1⟩
 have HB1:=Lib.hid hb1
 clear hb1
 go_wp2
 go_ret
 refine ⟨congrArg boolRet ?_,HB1.out⟩
 rw [← allB_any]
set_option maxHeartbeats 400000 in
theorem meet_any (x y:Ext) (w:World) (h1:Sml x) (h2:Sml y):Calls Tryz.prog 409 #[extV x,extV y] w fun e w'=>e=.returned (.bool (meetB x y))∧Below w.heap.size w w':=by
 obtain ⟨a1,a2,a3,a4⟩:=h1
 obtain ⟨b1,b2,b3,b4⟩:=h2
 have hbb:Below w.heap.size w ((w.alloc (.cells #[.int .i64 x.first,.int .i64 x.len] 186)).alloc (.cells #[.int .i64 y.first,.int .i64 y.len] 186)):=(below_alloc _ _).alloc (by simp) _
 have hm:meetB x y=(decide (x.first < y.first+y.len) && decide (y.first < x.first+x.len)):=rfl
 have hw1:IntKind.i64.wrap (y.first+y.len)=y.first+y.len:=IntWalk.i64_in _ (by omega)
 have hw2:IntKind.i64.wrap (x.first+x.len)=x.first+x.len:=IntWalk.i64_in _ (by omega)
 have HBB:=Lib.hid hbb
 clear hbb
 by_cases c1:x.first < y.first+y.len
 ·by_cases c2:y.first < x.first+x.len
  ·rw [decide_eq_true c1,decide_eq_true c2] at hm
   have HM:=Lib.hid hm
   clear hm
   go_enter Tryz.func409,Tryz.ntmps409
   go_wp2
   go_ret
   refine ⟨congrArg boolRet ?_,HBB.out⟩
   rw [HM.out]
   first | rfl | (simp;omega)
  ·rw [decide_eq_true c1,decide_eq_false c2] at hm
   have c2':x.first+x.len≤y.first:=by omega
   have HM:=Lib.hid hm
   clear hm
   clear c2
   go_enter Tryz.func409,Tryz.ntmps409
   go_wp2
   go_ret
   refine ⟨congrArg boolRet ?_,HBB.out⟩
   rw [HM.out]
   first | rfl | (simp;omega)
 ·rw [decide_eq_false c1] at hm
  have c1':y.first+y.len≤x.first:=by omega
  have HM:=Lib.hid hm
  clear hm
  clear c1
  go_enter Tryz.func409,Tryz.ntmps409
  go_wp2
  go_ret
  refine ⟨congrArg boolRet ?_,HBB.out⟩
  rw [HM.out]
  first | rfl | (simp;omega)
end Go.Proofs
namespace Go.Proofs
open Go.RowKit Sc Go.Shelf
instance instExtInh:Inhabited Ext:=⟨⟨0,0⟩⟩
def encE (x:Ext):List Value:=[.int .i64 x.first,.int .i64 x.len]
def cmpE (x y:Ext):Int:=Lib.compareInt x.first y.first
set_option maxHeartbeats 1000000 in
theorem joinC_any (x y:Ext) (W:World):Calls Tryz.prog 362 #[.agg #[.int .i64 x.first,.int .i64 x.len],.agg #[.int .i64 y.first,.int .i64 y.len]] W fun e w'=>e=.returned (.int .i64 (cmpE x y))∧∃ q os',w'=Sort.grow (W.drewN q) os':=by
 have hcon:=fun W'=>AnyG.cmp_Compare_int Tryz.cmpInt x.first y.first W'
 change ∀ W',Calls Tryz.prog 290 _ _ _ at hcon
 change ∀ W',Calls Tryz.prog 290 _ W' (fun e w'=>e=.returned (.int .i64 (cmpE x y))∧w'=W') at hcon
 generalize cmpE x y=r at hcon ⊢
 go_enter Tryz.func362,Tryz.ntmps362
 go_wp2_with (go_at_call 290;refine (hcon _).mono ?_;rintro e w' ⟨rfl,rfl⟩)
 go_ret
 exact ⟨rfl,0,_,by rw [Sort.alloc_eq_grow,Sort.alloc_eq_grow,Sort.grow_grow];rfl⟩
theorem ltE (x y:Ext):ltOf cmpE x y=decide (x.first < y.first):=by
 unfold ltOf cmpE Lib.compareInt
 by_cases h1:x.first < y.first
 ·simp [h1]
 ·by_cases h2:y.first < x.first <;> simp [h1,h2]
theorem swoE:Sort.SWO (ltOf cmpE) where
 irrefl x:=by rw [ltE];simp
 trans x y z h1 h2:=by rw [ltE] at *;simp at *;omega
 ntrans x y z h1 h2:=by rw [ltE] at *;simp at *;omega
def RowE (w:World) (blk:Nat) (l:List Ext):Prop :=
 ∀ i (h:i < l.length),w.cell? ⟨blk,i * 2,none⟩=some (.int .i64 l[i].first)∧w.cell? ⟨blk,i * 2+1,none⟩=some (.int .i64 l[i].len)∧w.frozen? ⟨blk,i * 2,none⟩=false∧w.frozen? ⟨blk,i * 2+1,none⟩=false
theorem rowE_holds {w:World} {blk:Nat} {l:List Ext} (h:RowE w blk l):Sort.HoldsK encE 2 w blk 0 l.toArray:=by
 intro t ht
 rw [Sort.size_flatK] at ht
 rw [Sort.get_flatK _ _ _ _ ht]
 have hi:t / 2 < l.length:=by simp at ht;omega
 obtain ⟨h1,h2,h3,h4⟩:=h (t / 2) hi
 have e:(l.toArray)[t / 2]! = l[t / 2]:=by simp [hi]
 rw [e]
 rcases (show t % 2=0∨t % 2=1 by omega) with h0 | h0
 ·rw [h0,show 0+t=t / 2 * 2 by omega]
  exact ⟨h1,h3⟩
 ·rw [h0,show 0+t=t / 2 * 2+1 by omega]
  exact ⟨h2,h4⟩
theorem holds_rowE {w:World} {blk:Nat} {d:Array Ext} (h:Sort.HoldsK encE 2 w blk 0 d):RowE w blk d.toList:=by
 intro i hi
 have hi':i < d.size:=by simpa using hi
 obtain ⟨h1,h3⟩:=Sort.HoldsK.cell h hi' (show 0 < 2 by omega)
 obtain ⟨h2,h4⟩:=Sort.HoldsK.cell h hi' (show 1 < 2 by omega)
 have e:d[i]! = d.toList[i]:=by simp [hi']
 rw [e] at h1 h2
 simp only [Nat.zero_add,Nat.add_zero] at h1 h2 h3 h4
 exact ⟨h1,h2,h3,h4⟩
theorem chg_sortWorld (w:World) (blk n:Nat) (d:Array Ext) (os:Array Obj):Chg (fun b=>b=blk) w (sortWorldK encE 2 w blk 0 n d os):=by
 refine ⟨rfl,rfl,rfl,?_,fun k hk hne=>?_⟩
 ·simp [sortWorldK,Sort.putRowK,Sort.putRow,Sort.mapBlock,Sort.grow,Sort.ahead]
 ·unfold sortWorldK
  rw [Sort.heap_grow_old _ _ (by simpa [Sort.putRowK,Sort.putRow,Sort.mapBlock,Sort.ahead] using hk)]
  have:blk≠k:=fun e=>hne e.symm
  simp [Sort.putRowK,Sort.putRow,Sort.mapBlock,Sort.ahead,Array.getElem?_modify,this]
def SortedE (l:List Ext) (blk:Nat) (w:World) (e:Ending) (w':World):Prop :=
 e=.returned (.tuple #[])∧∃ l',l'.Perm l∧l'.Pairwise (fun a b=>a.first≤b.first)∧Chg (fun b=>b=blk) w w'∧RowE w' blk l'
theorem sortExt_any (blk cap:Nat) (l:List Ext) (w:World) (hH:RowE w blk l) (hblk:blk < w.heap.size) (hl:l.length≤1000000000) :
  Calls Tryz.prog 361 #[.slice (some ⟨blk,0,none⟩) l.length cap,.func (.func 362) #[] #[]] w (SortedE l blk w):=by
 have eg:∀ args w,(callFunc 362 args).run Tryz.prog w=.ok (.enter 362 args) w:=enters_of Tryz.func362 (by kernel_rfl) rfl
 have h0:=rowE_holds hH
 have hcon:=AnyQ.slices_SortFunc Tryz.sortExt 2 Tryz.isAgg186 Tryz.sizeOf186 encE (fun _=>rfl) (fun x v hv=>by simp [encE] at hv;rcases hv with rfl | rfl <;> rfl) cmpE swoE 362 #[] blk 0 cap l.toArray w eg (fun _ _ _ _ x y=>joinC_any x y _) h0 hblk (by simp;omega)
 change Calls Tryz.prog 361 _ _ _ at hcon
 have hsz:l.toArray.size=l.length:=by simp
 rw [hsz] at hcon
 refine hcon.mono ?_
 rintro e w' ⟨rfl,d',n,os,⟨hp1,_,hp3⟩,hs,rfl⟩
 refine ⟨rfl,d'.toList,?_,?_,chg_sortWorld _ _ _ _ _,holds_rowE ?_⟩
 ·rw [← hsz] at hp3
  have e1:d'.extract 0 l.toArray.size=d':=by rw [← hp1,Array.extract_size]
  have e2:l.toArray.extract 0 l.toArray.size=l.toArray:=Array.extract_size
  rw [e1,e2] at hp3
  simpa using hp3
 ·rw [List.pairwise_iff_getElem]
  intro i j hi hj hij
  have hi':i < d'.size:=by simpa using hi
  have hj':j < d'.size:=by simpa using hj
  have:=hs i j (Nat.zero_le _) hij (by rw [← hsz,← hp1];exact hj')
  rw [ltE] at this
  have e1:d'[i]! = d'.toList[i]:=by simp [hi']
  have e2:d'[j]! = d'.toList[j]:=by simp [hj']
  rw [e1,e2] at this
  simpa using this
 ·refine Sort.holdsK_grow (enc:=encE) (k:=2) (w:=_) (os:=os) (blk:=blk) (off:=0) (d:=d') ?_ (Sort.holdsK_putRowK (enc:=encE) (k:=2) (w:=Sort.ahead w n) (blk:=blk) (off:=0) (d0:=l.toArray) (d:=d') h0 hp1)
  simpa [Sort.putRowK,Sort.putRow,Sort.mapBlock,Sort.ahead] using hblk
end Go.Proofs
namespace Go.Proofs
open Go.RowKit Sc
theorem infoU8:(Tryz.prog.info? 5).map (fun i=>(i.zero,i.size,i.bytes))=some (some (.int .u8 0),1,1):=by kernel_rfl
def blockV (k:Int) (m j:Nat):Value:=.int .u8 (if j < m then roundN (wrap64 (wrap64 (wrap64 ((j:Int) * j)+wrap64 (k * 7))+1)) 251 else 0)
set_option maxHeartbeats 400000 in
theorem block_any (n:Nat) (k:Int) (w:World) (hn:n≤4096) :
  Calls Tryz.prog 30 #[.int .i64 n,.int .i64 k] w fun e w'=>e=.returned (.slice (some ⟨w.heap.size,0,none⟩) n n) ∧
   w'.ownsRow w.heap.size 5 1 (.slice (some ⟨w.heap.size,0,none⟩) n n) n ((List.range n).map (blockV k n))∧Below w.heap.size w w':=by
 obtain ⟨i0,hi,hz0,hz1,hz2⟩:=info_parts infoU8
 have hmax:max (n:Int) 0=n:=by omega
 go_enter Tryz.func30,Tryz.ntmps30
 go_wp2_with (at_make;refine wpList_make_full _ rfl _ _ 40 rfl w.heap.size 5 i0 (.int .u8 0) 1 Tryz.underlying40 hi hz0 hz1 _ _ _ _ n rfl rfl (by omega) (by omega) (by rw [hz2];omega) (by unfold maxLen;omega) (Nat.le_refl _) ?_;intro w0 hown0 hgrow0)
 have hmade:(madeCells (Value.int .u8 0).cells (n * 1)).toList=(List.range n).map (blockV k 0):=by
  apply List.ext_getElem
  ·simp [madeCells]
  ·intro j h1 h2
   simp [madeCells,blockV,Value.cells,Nat.mod_one]
 rw [hmade] at hown0
 clear hmade hi hz0 hz1 hz2 hmax
 go_loopw [6] (fun i wr=>∃ m:Nat,m≤n∧i=.int .i64 m∧wr.ownsRow w.heap.size 5 1 (.slice (some ⟨w.heap.size,0,none⟩) n n) n ((List.range n).map (blockV k m))∧Below w.heap.size w wr) (fun i _=>n - (intOf i).toNat)
 case atStart=>exact ⟨0,by omega,rfl,hown0,(Below.refl _ _).grown hgrow0 (Nat.le_refl _) (fun j hj=>by cases hj)⟩
 case round =>
  obtain ⟨m,hm,rfl,hown,hbw⟩:=hrel
  by_cases hlt:m < n
  ·have hcell:wr.cell? ⟨w.heap.size,m,none⟩=some (blockV k m m):=by
    rw [hown.cellAt m (by omega)];simp [hlt]
   have hfz:=hown.frozenAt m
   have hst:=hown.stored m
   have HST:=Lib.hid hst
   have hz:=hbw.size
   have hone:(blockV k m m).oneCell'=true:=rfl
   generalize blockV k m m=bv at hcell hone
   clear hst hown
   go_wp2_with fail
   refine (round_any _ 251 _ (by omega) (by omega)).mono ?_
   rintro e w1 ⟨rfl,rfl⟩
   have hr:=roundN_bd (wrap64 (wrap64 (wrap64 ((m:Int) * m)+wrap64 (k * 7))+1)) (show (0:Int) < 251 by omega)
   generalize hq:roundN (wrap64 (wrap64 (wrap64 ((m:Int) * m)+wrap64 (k * 7))+1)) 251=r at *
   have HQ:=Lib.hid hq
   clear hq
   have hmod:r % 256=r:=Int.emod_eq_of_lt (by omega) (by omega)
   go_wp2_with fail
   go_roundw
   case rel =>
    refine ⟨m+1,by omega,by go_num,?_,hbw.setCell (Nat.le_refl _) _⟩
    have h:=(HST.out (.int .u8 r)).1
    have hl:((List.range n).map (blockV k m)).set m (.int .u8 r)=(List.range n).map (blockV k (m+1)):=by
     apply List.ext_getElem
     ·simp
     ·intro j h1 h2
      simp only [List.getElem_set,List.getElem_map,List.getElem_range]
      by_cases hj:m=j
      ·subst hj;simp [blockV,HQ.out]
      ·have:(j < m+1)↔j < m:=by omega
       simp only [blockV,if_neg hj,this]
    rw [hl] at h
    exact h
   case measure=>simp [intOf];omega
  ·have hmn:m=n:=by omega
   subst hmn
   go_wp2_with fail
   go_ret
   exact ⟨rfl,hown,hbw⟩
def blockB (k:Int) (n:Nat):Bytes:=(List.range n).map fun (j:Nat)=>UInt8.ofNat (roundN (wrap64 (wrap64 (wrap64 ((j:Int) * j)+wrap64 (k * 7))+1)) 251).toNat
def dataB (k:Int):Bytes:=blockB k 40
theorem blockB_length (k:Int) (n:Nat):(blockB k n).length=n:=by simp [blockB]
theorem dataB_length (k:Int):(dataB k).length=40:=blockB_length k 40
theorem bytesW_row {w:World} {B g n:Nat} {c:Nat} {l:Bytes} (G:Nat→Prop) (hG:G g) (hl:l.length=n) (hc:n≤c) (hc2:c≤9223372036854775807) (h:w.ownsRow B 5 1 (.slice (some ⟨g,0,none⟩) n c) n (l.map fun x=>.int .u8 (x.toNat:Int))) :
  BytesW G w (.slice (some ⟨g,0,none⟩) n c) l:=by
 subst hl
 refine ⟨_,c,rfl,hc,hc2,(by intro hh;cases hh),fun i hi=>⟨g,0,rfl,hG,?_⟩⟩
 unfold byteW
 rw [show 0+i * 1=i by omega,h.cellAt i (by omega)]
 exact ⟨by simp [hi],h.frozenAt i⟩
theorem bytesAt_row {w:World} {B g n:Nat} {c:Nat} {l:Bytes} (G:Nat→Prop) (hG:G g) (hl:l.length=n) (hc:n≤c) (hc2:c≤9223372036854775807) (h:w.ownsRow B 5 1 (.slice (some ⟨g,0,none⟩) n c) n (l.map fun x=>.int .u8 (x.toNat:Int))) :
  BytesAt G w (.slice (some ⟨g,0,none⟩) n c) l:=(bytesW_row G hG hl hc hc2 h).bytes
def NewBytesW (l:Bytes) (w:World) (e:Ending) (w':World):Prop:=∃ v,e=.returned v∧BytesW (fun b=>w.heap.size≤b∧b < w'.heap.size) w' v l∧Below w.heap.size w w'
def NewBytes (l:Bytes) (w:World) (e:Ending) (w':World):Prop:=∃ v,e=.returned v∧BytesAt (fun b=>w.heap.size≤b∧b < w'.heap.size) w' v l∧Below w.heap.size w w'
theorem newBytes {l:Bytes} {w w':World} {e:Ending}:NewBytesW l w e w'→NewBytes l w e w':=fun ⟨v,h1,h2,h3⟩=>⟨v,h1,h2.bytes,h3⟩
theorem block_w (n:Nat) (k:Int) (w:World) (hn:n≤4096) :
  Calls Tryz.prog 30 #[.int .i64 n,.int .i64 k] w (NewBytesW (blockB k n) w):=by
 refine (block_any n k w hn).mono ?_
 rintro e w' ⟨rfl,hown,hb⟩
 have hlt:=hown.lt w.heap.size rfl
 refine ⟨_,rfl,bytesW_row (B:=w.heap.size) _ ⟨Nat.le_refl _,hlt.2⟩ (blockB_length k n) (Nat.le_refl _) (by omega) ?_,hb⟩
 have:(blockB k n).map (fun x=>Value.int .u8 (x.toNat:Int))=(List.range n).map (blockV k n):=by
  unfold blockB
  rw [List.map_map]
  refine List.map_congr_left fun j hj=>?_
  have hj':=List.mem_range.1 hj
  have hr:=roundN_bd (wrap64 (wrap64 (wrap64 ((j:Int) * j)+wrap64 (k * 7))+1)) (show (0:Int) < 251 by omega)
  simp only [Function.comp,blockV,if_pos hj']
  congr 1
  rw [UInt8.toNat_ofNat']
  omega
 rw [this];exact hown
set_option maxHeartbeats 400000 in
theorem data_w (k:Int) (w:World) :
  Calls Tryz.prog 14 #[.int .i64 k] w (NewBytesW (dataB k) w):=by
 go_enter Tryz.func14,Tryz.ntmps14
 go_wp2_with fail
 refine (block_w 40 k _ (by omega)).mono ?_
 rintro e w1 ⟨v,rfl,h1,h2⟩
 go_wp2_with fail
 go_ret
 exact ⟨v,rfl,h1,h2⟩
theorem data_any (k:Int) (w:World):Calls Tryz.prog 14 #[.int .i64 k] w (NewBytes (dataB k) w):=(data_w k w).mono fun _ _=>newBytes
end Go.Proofs
