/- Texts of this claim, one behind the other: Clone, Info, Ival2, SortNone, Maps, Dat, Ival3, Ival4, Concat, Ival5, SetSep, View1, Range, Ext, Ext1, Ext2. -/
import Derived.Lib.SliceRun
import Derived.Test.YtcbgpeamondhmaaGreatDoorChecked
import Derived.Deep.RegionHeld3
import Derived.StillTailTactics
import Derived.Shelf.SlSortCmp.NoneTotal
import Derived.ChangeMaps4
import Derived.BigRegion
import Derived.BigQuiet
import Derived.Lib.AppendZerosOnto
import Derived.Maps.AppendAt
import Derived.Laws.IdiomCopy
import Derived.Maps.RangeRun
import Derived.Laws.IdiomRangeMap
import Derived.Deep.LoopGhost
import Derived.Test.YtcbgpeamondhmaaGreatDoorTs1
namespace Go.Proofs
open Go.RowKit Sc
theorem shape_of {G:Nat→Prop} {w:World} {v:Value} {l:Bytes} {n:Nat} (h:BytesAt G w v l) (hn:l.length=n):∃ p c,v=.slice p n c:=by
 obtain ⟨p,c,rfl,_⟩:=h
 subst hn
 exact ⟨p,c,rfl⟩
theorem made_u8 (n:Nat):(madeCells (Value.int .u8 0).cells (n * 1)).toList=(List.replicate n (0:UInt8)).map fun x=>Value.int .u8 (x.toNat:Int):=by
 apply List.ext_getElem
 ·simp [madeCells]
 ·intro j h1 h2
  simp [madeCells,Value.cells,Nat.mod_one]
theorem bytesW_own {w:World} {B:Nat} {v:Value} {n:Nat} {l:Bytes} (G:Nat→Prop) (hl:l.length=n) (hG:∀ k,B≤k→k < w.heap.size→G k)
  (h:w.ownsRow B 5 1 v n (l.map fun x=>.int .u8 (x.toNat:Int))):BytesW G w v l:=by
 have hlt:=h.lt
 obtain ⟨hx,hc | ⟨g,cap,cur,rfl,hb,hg,hnc,hcm,hcs,htake⟩⟩:=h
 ·obtain ⟨rfl,rfl⟩:=hc
  obtain rfl:l=[]:=List.length_eq_zero_iff.1 hl
  exact SlAt.nil
 ·have hgl:=hlt g rfl
  refine bytesW_row (B:=B) G (hG g hgl.1 hgl.2) hl hnc (by unfold maxLen at hcm;omega) ⟨hx,.inr ⟨g,cap,cur,rfl,hb,hg,hnc,hcm,hcs,htake⟩⟩
set_option maxHeartbeats 400000 in
theorem clone_w (G:Nat→Prop) (v:Value) (l:Bytes) (w:World) (hv:BytesAt G w v l) (hl:l.length≤1000000) :
  Calls Tryz.prog 45 #[v] w (NewBytesW l w):=by
 obtain ⟨i0,hi,hz0,hz1,hz2⟩:=info_parts infoU8
 obtain ⟨p,c,rfl,h1,h2,h3,h4⟩:=hv
 have H4:=Lib.hid h4
 clear h4
 cases p with
 | none =>
  obtain rfl:c=0:=h3 rfl
  have hl0:l=[]:=List.length_eq_zero_iff.1 (by omega)
  subst hl0
  clear h3 hi hz0 hz1 hz2 hl h1 h2 H4
  have heq:=fun (W:World)=>Lib.run_eql_slice_nil (P:=Tryz.prog) W 40 5 none 0 0 0 0 Tryz.underlying40
  go_enter Tryz.func45,Tryz.ntmps45
  go_wp2
  go_ret
  exact ⟨_,rfl,SlAt.nil,Below.refl _ _⟩
 | some a =>
  clear h3
  have hnews:∀ j u,(l.map fun x=>Value.int .u8 (x.toNat:Int))[j]? = some u→w.cell? (a.add j)=some u:=by
   intro j u hj
   simp only [List.getElem?_map,Option.map_eq_some_iff] at hj
   obtain ⟨x,hx,rfl⟩:=hj
   obtain ⟨hjl,rfl⟩:=List.getElem?_eq_some_iff.1 hx
   obtain ⟨b,o,hp,_,he⟩:=H4.out j hjl
   cases hp
   unfold byteE at he
   rw [Nat.mul_one] at he
   have hadd:(⟨b,o,none⟩:Addr).add j=⟨b,o+j,none⟩:=by unfold Addr.add;split <;> simp_all
   rw [hadd];exact he
  have HN:=Lib.hid hnews
  have hlen:(l.map fun x=>Value.int .u8 (x.toNat:Int)).length=l.length * 1:=by simp
  have hone:∀ u∈(l.map fun x=>Value.int .u8 (x.toNat:Int)),u.oneCell'=true:=by
   intro u hu;obtain ⟨x,_,rfl⟩:=List.mem_map.1 hu;rfl
  have HL:=Lib.hid hlen
  have HO:=Lib.hid hone
  generalize hn:(l.map fun x=>Value.int .u8 (x.toNat:Int))=news at *
  have HNW:=Lib.hid hn
  clear hn hnews hlen hone
  have HB:=Lib.hid hl
  clear hl h1 h2
  have heq:=fun (W:World)=>Lib.run_eql_slice_nil (P:=Tryz.prog) W 40 5 (some a) l.length c 0 0 Tryz.underlying40
  go_enter Tryz.func45,Tryz.ntmps45
  go_wp2_with (at_builtin;refine wpList_append_own _ rfl _ _ 40 rfl w.heap.size 5 i0 (.int .u8 0) 1 1 Tryz.underlying40 hi hz0 hz1 hz2 rfl (by decide) _ 0 [] rfl (World.ownsRow_made w _ 0 (Nat.le_refl _) (by decide) rfl) a l.length c news rfl HL.out (fun j u hj=>cell_alloc_old (HN.out j u hj)) HO.out (by have:=HB.out;unfold maxLen;omega) (by have:=HB.out;omega) (by simp) ?_;intro v' w1 hown hgrow hnil)
  go_ret
  refine ⟨v',rfl,?_,?_⟩
  ·refine bytesW_own (B:=w.heap.size) _ (Nat.zero_add l.length).symm (fun k h1 h2=>⟨h1,h2⟩) ?_
   rw [HNW.out]
   simpa using hown
  ·refine ((Below.refl _ _).alloc (Nat.le_refl _) _).grown hgrow (by simp) (fun k hk=>?_)
   cases hk;exact Nat.le_refl _
theorem clone_any (G:Nat→Prop) (v:Value) (l:Bytes) (w:World) (hv:BytesAt G w v l) (hl:l.length≤1000000) :
  Calls Tryz.prog 45 #[v] w (NewBytes l w):=(clone_w G v l w hv hl).mono fun _ _=>newBytes
end Go.Proofs
namespace Go.Proofs
open Go.RowKit Sc
theorem infoPut:(Tryz.prog.info? 44).map (fun i=>(i.zero,i.size,i.bytes))=some (some (.agg #[.int .i64 0,.slice none 0 0]),2,32):=by kernel_rfl
theorem infoInt:(Tryz.prog.info? 3).map (fun i=>(i.zero,i.size,i.bytes))=some (some (.int .i64 0),1,8):=by kernel_rfl
theorem intsAt_own {w:World} {B:Nat} {v:Value} {n:Nat} {l:List Int} (G:Nat→Prop) (hl:l.length=n) (hi:∀ x∈l,I64 x) (hG:∀ k,B≤k→k < w.heap.size→G k)
  (h:w.ownsRow B 3 1 v n (l.map (Value.int .i64))):IntsAt G w v l:=by
 have hlt:=h.lt
 have hrow:=h
 obtain ⟨hx,hc | ⟨g,cap,cur,rfl,hb,hg,hnc,hcm,hcs,htake⟩⟩:=h
 ·obtain ⟨rfl,rfl⟩:=hc
  obtain rfl:l=[]:=List.length_eq_zero_iff.1 hl
  exact SlAt.nil
 ·have hgl:=hlt g rfl
  subst hl
  refine ⟨_,cap,rfl,hnc,by unfold maxLen at hcm;omega,(by intro hh;cases hh),fun i hi'=>⟨g,0,rfl,hG g hgl.1 hgl.2,?_,hi _ (List.getElem_mem hi')⟩⟩
  rw [show 0+i * 1=i by omega,hrow.cellAt i (by omega)]
  simp [hi']
theorem infoExt:(Tryz.prog.info? 186).map (fun i=>(i.zero,i.size,i.bytes))=some (some (.agg #[.int .i64 0,.int .i64 0]),2,16):=by kernel_rfl
end Go.Proofs
namespace Go.Proofs
open Go.RowKit Sc
set_option maxHeartbeats 400000 in
theorem cloneExt_nil (w:World):Calls Tryz.prog 360 #[.slice none 0 0] w fun e w'=>e=.returned (.slice none 0 0)∧w=w':=by
 have heq:=fun (W:World)=>Lib.run_eql_slice_nil (P:=Tryz.prog) W 390 186 none 0 0 0 0 Tryz.underlying390
 go_enter Tryz.func360,Tryz.ntmps360
 go_wp2
 go_ret
 exact ⟨rfl,rfl⟩
set_option maxHeartbeats 400000 in
theorem cloneExt_some (a:Addr) (n c:Nat) (news:List Value) (w:World) (hlen:Hid (news.length=n * 2)) (hcell:Hid (∀ j u,news[j]? = some u→w.cell? (a.add j)=some u)) (hone:Hid (∀ u∈news,u.oneCell'=true)) (hn:Hid (n≤1000000)) :
  Calls Tryz.prog 360 #[.slice (some a) n c] w fun e w'=>∃ v',e=.returned v'∧Hid (w'.ownsRow w.heap.size 186 2 v' n news)∧Hid (Below w.heap.size w w'):=by
 obtain ⟨i0,hi,hz0,hz1,hz2⟩:=info_parts infoExt
 have heq:=fun (W:World)=>Lib.run_eql_slice_nil (P:=Tryz.prog) W 390 186 (some a) n c 0 0 Tryz.underlying390
 go_enter Tryz.func360,Tryz.ntmps360
 go_wp2_with (at_builtin;refine wpList_append_own _ rfl _ _ 390 rfl w.heap.size 186 i0 (.agg #[.int .i64 0,.int .i64 0]) 2 16 Tryz.underlying390 hi hz0 hz1 hz2 rfl (by decide) _ 0 [] rfl (World.ownsRow_made w _ 0 (Nat.le_refl _) (by decide) rfl) a n c news rfl hlen.out (fun j u hj=>cell_alloc_old (hcell.out j u hj)) hone.out (by have:=hn.out;unfold maxLen;omega) (by have:=hn.out;omega) (by simp) ?_;intro v' w1 hown hgrow hnil)
 go_ret
 refine ⟨v',rfl,by unfold Hid;simpa using hown,?_⟩
 refine ((Below.refl _ _).alloc (Nat.le_refl _) _).grown hgrow (by simp) (fun k hk=>?_)
 cases hk;exact Nat.le_refl _
def flatE (l:List Ext):List Value:=l.flatMap fun e=>[.int .i64 e.first,.int .i64 e.len]
theorem flatE_length (l:List Ext):(flatE l).length=l.length * 2:=by
 unfold flatE
 induction l with
 | nil=>rfl
 | cons e l ih=>simp [ih];omega
theorem flatE_get:∀ (l:List Ext) (i:Nat) (h:i < l.length),(flatE l)[i * 2]? = some (.int .i64 l[i].first)∧(flatE l)[i * 2+1]? = some (.int .i64 l[i].len)
 | e :: l,0,_=>⟨rfl,rfl⟩
 | e :: l,i+1,h=>by
  obtain ⟨h1,h2⟩:=flatE_get l i (by simpa using h)
  have e1:(i+1) * 2=i * 2+1+1:=by omega
  simp only [e1,List.getElem_cons_succ]
  exact ⟨h1,h2⟩
theorem flatE_append (a b:List Ext):flatE (a++b)=flatE a++flatE b:=by unfold flatE;simp
theorem flatE_one (l:List Ext):∀ u∈flatE l,u.oneCell'=true:=by
 intro u hu
 obtain ⟨e,_,he⟩:=List.mem_flatMap.1 hu
 simp at he
 rcases he with rfl | rfl <;> rfl
theorem extsAt_news {G:Nat→Prop} {w:World} {a:Addr} {n c:Nat} {l:List Ext} (h:ExtsAt G w (.slice (some a) n c) l):∀ j u,(flatE l)[j]? = some u→w.cell? (a.add j)=some u:=by
 obtain ⟨p,c',he,_,_,_,h4⟩:=h
 cases he
 intro j u hj
 have hjl:j < l.length * 2:=by rw [← flatE_length];exact (List.getElem?_eq_some_iff.1 hj).1
 obtain ⟨q,hq⟩:∃ q,j=q * 2∨j=q * 2+1:=⟨j / 2,by omega⟩
 have hql:q < l.length:=by omega
 obtain ⟨b,o,hp,_,h1,h2,_⟩:=h4 q hql
 cases hp
 obtain ⟨g1,g2⟩:=flatE_get l q hql
 have hadd:(⟨b,o,none⟩:Addr).add j=⟨b,o+j,none⟩:=by unfold Addr.add;split <;> simp_all
 rw [hadd]
 rcases hq with rfl | rfl
 ·rw [g1] at hj;cases hj;exact h1
 ·rw [g2] at hj;cases hj;exact h2
theorem extsAt_shape {G:Nat→Prop} {w:World} {v:Value} {l:List Ext} (h:ExtsAt G w v l):∃ p c,v=.slice p l.length c:=by
 obtain ⟨p,c,rfl,_⟩:=h
 exact ⟨p,c,rfl⟩
theorem row_extsAt {w:World} {B n:Nat} {v:Value} {l:List Ext} (G:Nat→Prop) (hl:l.length=n) (hi:∀ e∈l,I64 e.first∧I64 e.len) (hG:∀ k,B≤k→k < w.heap.size→G k) (h:w.ownsRow B 186 2 v n (flatE l)):ExtsAt G w v l:=by
 have hlt:=h.lt
 have hrow:=h
 obtain ⟨hx,hc | ⟨g,cap,cur,rfl,hb,hg,hnc,hcm,hcs,htake⟩⟩:=h
 ·obtain ⟨rfl,rfl⟩:=hc
  obtain rfl:l=[]:=List.length_eq_zero_iff.1 hl
  exact SlAt.nil
 ·have hgl:=hlt g rfl
  subst hl
  refine ⟨_,cap,rfl,hnc,by unfold maxLen at hcm;omega,(by intro hh;cases hh),fun i hi'=>⟨g,0,rfl,hG g hgl.1 hgl.2,?_⟩⟩
  obtain ⟨g1,g2⟩:=flatE_get l i hi'
  have he:=hi _ (List.getElem_mem hi')
  refine ⟨?_,?_,he⟩
  ·rw [Nat.zero_add,hrow.cellAt (i * 2) (by omega)];exact g1
  ·rw [Nat.zero_add,hrow.cellAt (i * 2+1) (by omega)];exact g2
end Go.Proofs
namespace Go.Proofs
open Go.RowKit Sc Go.Shelf
theorem sortExt_none (p:Option Addr) (cap:Nat) (fv:Value) (w:World):Calls Tryz.prog 361 #[.slice p 0 cap,fv] w fun e w'=>e=.returned (.tuple #[])∧w'=w :=
 AnyF.slices_SortFunc_none { Tryz.sortExt with } p cap fv w
end Go.Proofs
namespace Sc
open Go Go.RowKit Go.ChangeMaps Go.ChangeShapes Go.WideShapes Go.MapKept
def aset {α:Type}:List (Int × α)→Int→α→List (Int × α)
 | [],k,v=>[(k,v)]
 | (a,x) :: t,k,v=>if a=k then (k,v) :: t else (a,x) :: aset t k v
def alook {α:Type}:List (Int × α)→Int→Option α
 | [],_=>none
 | (a,x) :: t,k=>if a=k then some x else alook t k
def adel {α:Type}:List (Int × α)→Int→List (Int × α)
 | [],_=>[]
 | (a,x) :: t,k=>if a=k then t else (a,x) :: adel t k
def All2 {α β:Type} (R:α→β→Prop):List α→List β→Prop
 | [],[]=>True
 | a :: l,b :: m=>R a b∧All2 R l m
 | _,_=>False
theorem All2.imp {α β:Type} {R S:α→β→Prop} (h:∀ a b,R a b→S a b):∀ {l:List α} {m:List β},All2 R l m→All2 S l m
 | [],[],_=>trivial
 | _ :: _,_ :: _,⟨h1,h2⟩=>⟨h _ _ h1,All2.imp h h2⟩
 | [],_ :: _,h'=>h'.elim
 | _ :: _,[],h'=>h'.elim
theorem All2.length {α β:Type} {R:α→β→Prop}:∀ {l:List α} {m:List β},All2 R l m→l.length=m.length
 | [],[],_=>rfl
 | _ :: _,_ :: _,⟨_,h2⟩=>by simp [All2.length h2]
 | [],_ :: _,h'=>h'.elim
 | _ :: _,[],h'=>h'.elim
theorem All2.get {α β:Type} {R:α→β→Prop}:∀ {l:List α} {m:List β},All2 R l m→∀ i (h:i < l.length) (h':i < m.length),R l[i] m[i]
 | [],[],_,i,h,_=>absurd h (by simp)
 | _ :: _,_ :: _,⟨h1,_⟩,0,_,_=>h1
 | _ :: _,_ :: _,⟨_,h2⟩,i+1,h,h'=>All2.get h2 i (by simpa using h) (by simpa using h')
 | [],_ :: _,h',_,_,_=>h'.elim
 | _ :: _,[],h',_,_,_=>h'.elim
theorem All2.of_get {α β:Type} {R:α→β→Prop}:∀ {l:List α} {m:List β},l.length=m.length→(∀ i (h:i < l.length) (h':i < m.length),R l[i] m[i])→All2 R l m
 | [],[],_,_=>trivial
 | a :: l,b :: m,hl,h=>⟨h 0 (by simp) (by simp),All2.of_get (by simpa using hl) (fun i h1 h2=>h (i+1) (by simpa using h1) (by simpa using h2))⟩
 | [],_ :: _,hl,_=>by simp at hl
 | _ :: _,[],hl,_=>by simp at hl
def AL {α β:Type} (R:α→β→Prop) (m:List (Int × α)) (s:List (Int × β)):Prop:=All2 (fun a b=>a.1=b.1∧R a.2 b.2) m s
theorem AL.imp {α β:Type} {R S:α→β→Prop} {m:List (Int × α)} {s:List (Int × β)} (h:AL R m s) (hi:∀ a b,R a b→S a b):AL S m s:=All2.imp (fun _ _ ⟨h1,h2⟩=>⟨h1,hi _ _ h2⟩) h
theorem AL.keys {α β:Type} {R:α→β→Prop}:∀ {m:List (Int × α)} {s:List (Int × β)},AL R m s→m.map (·.1)=s.map (·.1)
 | [],[],_=>rfl
 | _ :: _,_ :: _,⟨⟨h1,_⟩,h2⟩=>by simp [h1,AL.keys h2]
 | [],_ :: _,h'=>h'.elim
 | _ :: _,[],h'=>h'.elim
theorem AL.look {α β:Type} {R:α→β→Prop} (k:Int):∀ {m:List (Int × α)} {s:List (Int × β)},AL R m s →
  (alook m k=none∧alook s k=none)∨∃ v d,alook m k=some v∧alook s k=some d∧R v d
 | [],[],_=>.inl ⟨rfl,rfl⟩
 | (a1,a2) :: m,(b1,b2) :: s,⟨⟨h1,h2⟩,h3⟩=>by
  simp only at h1 h2
  subst h1
  by_cases hk:a1=k
  ·exact .inr ⟨a2,b2,by simp [alook,hk],by simp [alook,hk],h2⟩
  ·simpa [alook,hk] using AL.look k h3
 | [],_ :: _,h'=>h'.elim
 | _ :: _,[],h'=>h'.elim
theorem AL.set {α β:Type} {R:α→β→Prop} (k:Int) {v:α} {d:β} (hv:R v d):∀ {m:List (Int × α)} {s:List (Int × β)},AL R m s→AL R (aset m k v) (aset s k d)
 | [],[],_=>⟨⟨rfl,hv⟩,trivial⟩
 | (a1,a2) :: m,(b1,b2) :: s,⟨⟨h1,h2⟩,h3⟩=>by
  simp only at h1 h2
  subst h1
  by_cases hk:a1=k
  ·simp only [aset,if_pos hk];exact ⟨⟨rfl,hv⟩,h3⟩
  ·simp only [aset,if_neg hk];exact ⟨⟨rfl,h2⟩,AL.set k hv h3⟩
 | [],_ :: _,h'=>h'.elim
 | _ :: _,[],h'=>h'.elim
def ent (x:MapEntry):Value × Value:=(x.key,x.val)
def pr (x:Int × Value):Value × Value:=(.int .i64 x.1,x.2)
def MapIs (w:World) (r:Nat) (m:List (Int × Value)):Prop :=
 ∃ es clock,w.heap[r]? = some (.map es clock)∧es.toList.map ent=m.map pr∧(m.map (·.1)).Nodup∧(∀ x∈es.toList,x.born < clock)∧(es.toList.map (·.born)).Nodup
theorem MapIs.same {G:Nat→Prop} {w w':World} {r:Nat} {m:List (Int × Value)} (h:MapIs w r m) (hs:Same G w w') (hr:G r):MapIs w' r m :=
 let ⟨es,c,h1,h2⟩:=h;⟨es,c,by rw [hs r hr];exact h1,h2⟩
theorem MapIs.lt {w:World} {r:Nat} {m:List (Int × Value)} (h:MapIs w r m):r < w.heap.size:=by
 obtain ⟨es,c,h1,_⟩:=h
 exact (Array.getElem?_eq_some_iff.1 h1).1
theorem MapIs.alloc {w:World} {r:Nat} {m:List (Int × Value)} (h:MapIs w r m) (o:Obj):MapIs (w.alloc o) r m :=
 h.same (G:=(· < w.heap.size)) (fun _ hk=>Below.heap_alloc w o _ hk) h.lt
theorem MapIs.up {w w':World} {r:Nat} {m:List (Int × Value)} (h:MapIs w r m) (hb:Below w.heap.size w w'):MapIs w' r m :=
 h.same (G:=(· < w.heap.size)) (fun _ hk=>hb.block _ hk) h.lt
structure Turned (r:Nat) (w w':World):Prop where
 os:w'.os=w.os
 tape:w'.tape=w.tape
 output:w'.output=w.output
 size:w'.heap.size=w.heap.size
 block:∀ k,k≠r→w'.heap[k]? = w.heap[k]?
 was:∃ es c,w.heap[r]? = some (.map es c)
 is:∃ es c,w'.heap[r]? = some (.map es c)
theorem Turned.cell {r:Nat} {w w':World} (h:Turned r w w') (a:Addr):w'.cell? a=w.cell? a:=by
 by_cases ha:a.block=r
 ·obtain ⟨es,c,h1⟩:=h.was
  obtain ⟨es',c',h2⟩:=h.is
  simp [World.cell?,ha,h1,h2]
 ·exact World.cell?_of_block (h.block _ ha)
theorem Turned.chg {r:Nat} {w w':World} (h:Turned r w w') {S:Nat→Prop} (hr:S r):Chg S w w' :=
 ⟨h.os,h.tape,h.output,by rw [h.size];exact Nat.le_refl _,fun k _ hk=>h.block k (fun e=>hk (e ▸ hr))⟩
theorem Turned.below {r B:Nat} {w w':World} (h:Turned r w w') (hr:B≤r):Below B w w' :=
 ⟨h.os,h.tape,h.output,by rw [h.size];exact Nat.le_refl _,fun k hk=>h.block k (by omega)⟩
theorem BytesAt.cells {G:Nat→Prop} {w w':World} {v:Value} {l:Bytes} (h:BytesAt G w v l) (hc:∀ a,w'.cell? a=w.cell? a):BytesAt G w' v l :=
 SlAt.up h (fun _ _ _ h=>(hc _).trans h)
theorem turned_set {r:Nat} {w:World} {es es':Array MapEntry} {c c':Nat} (h:w.heap[r]? = some (.map es c)):Turned r w (setBlock w r (.map es' c')) :=
 ⟨rfl,rfl,rfl,by simp [setBlock],fun k hk=>heap_setBlock_other h _ hk,⟨es,c,h⟩,⟨es',c',heap_setBlock_same h _⟩⟩
theorem MapIs.made (w:World):MapIs (w.alloc (.map #[] 0)) w.heap.size [] :=
 ⟨#[],0,heap_alloc_new w _,rfl,List.nodup_nil,fun x hx=>by simp at hx,by simp⟩
theorem keys_of {es:List MapEntry} {m:List (Int × Value)} (h:es.map ent=m.map pr):∀ x∈es,∃ n v,(n,v)∈m∧x.key=.int .i64 n∧x.val=v:=by
 intro x hx
 have:ent x∈m.map pr:=by rw [← h];exact List.mem_map.2 ⟨x,hx,rfl⟩
 obtain ⟨⟨n,v⟩,hm,he⟩:=List.mem_map.1 this
 simp only [ent,pr,Prod.mk.injEq] at he
 exact ⟨n,v,hm,he.1.symm,he.2.symm⟩
theorem alook_of {α:Type} {m:List (Int × α)} (hn:(m.map (·.1)).Nodup) {j:Nat} {n:Int} {v:α} (h:m[j]? = some (n,v)):alook m n=some v:=by
 induction m generalizing j with
 | nil=>simp at h
 | cons a t ih =>
  obtain ⟨a,x⟩:=a
  cases j with
  | zero=>simp at h;obtain ⟨rfl,rfl⟩:=h;simp [alook]
  | succ j =>
   simp only [List.getElem?_cons_succ] at h
   simp only [List.map_cons,List.nodup_cons] at hn
   have:a≠n:=by
    intro e;subst e
    exact hn.1 (List.mem_map.2 ⟨(a,v),List.mem_of_getElem? h,rfl⟩)
   simp only [alook,if_neg this]
   exact ih hn.2 h
theorem alook_none {α:Type} {m:List (Int × α)} {n:Int}:alook m n=none↔∀ x∈m,x.1≠n:=by
 induction m with
 | nil=>simp [alook]
 | cons a t ih =>
  obtain ⟨a,x⟩:=a
  by_cases h:a=n
  ·simp [alook,h]
  ·simp [alook,h,ih]
theorem aset_new {α:Type} {m:List (Int × α)} {n:Int} {v:α} (h:∀ x∈m,x.1≠n):aset m n v=m++[(n,v)]:=by
 induction m with
 | nil=>rfl
 | cons a t ih =>
  obtain ⟨a,x⟩:=a
  have:=h (a,x) (by simp)
  simp only [aset,if_neg this,List.cons_append]
  rw [ih (fun y hy=>h y (by simp [hy]))]
theorem aset_at {α:Type} {m:List (Int × α)} (hn:(m.map (·.1)).Nodup) {j:Nat} {n:Int} {u v:α} (h:m[j]? = some (n,u)):aset m n v=m.set j (n,v):=by
 induction m generalizing j with
 | nil=>simp at h
 | cons a t ih =>
  obtain ⟨a,x⟩:=a
  cases j with
  | zero=>simp at h;obtain ⟨rfl,rfl⟩:=h;simp [aset]
  | succ j =>
   simp only [List.getElem?_cons_succ] at h
   simp only [List.map_cons,List.nodup_cons] at hn
   have:a≠n:=by
    intro e;subst e
    exact hn.1 (List.mem_map.2 ⟨(a,u),List.mem_of_getElem? h,rfl⟩)
   simp only [aset,if_neg this,List.set_cons_succ]
   rw [ih hn.2 h]
theorem adel_none {α:Type} {m:List (Int × α)} {n:Int} (h:∀ x∈m,x.1≠n):adel m n=m:=by
 induction m with
 | nil=>rfl
 | cons a t ih =>
  obtain ⟨a,x⟩:=a
  have:=h (a,x) (by simp)
  simp only [adel,if_neg this]
  rw [ih (fun y hy=>h y (by simp [hy]))]
theorem adel_at {α:Type} {m:List (Int × α)} (hn:(m.map (·.1)).Nodup) {j:Nat} {n:Int} {u:α} (h:m[j]? = some (n,u)):adel m n=m.eraseIdx j:=by
 induction m generalizing j with
 | nil=>simp at h
 | cons a t ih =>
  obtain ⟨a,x⟩:=a
  cases j with
  | zero=>simp at h;obtain ⟨rfl,rfl⟩:=h;simp [adel]
  | succ j =>
   simp only [List.getElem?_cons_succ] at h
   simp only [List.map_cons,List.nodup_cons] at hn
   have:a≠n:=by
    intro e;subst e
    exact hn.1 (List.mem_map.2 ⟨(a,u),List.mem_of_getElem? h,rfl⟩)
   simp only [adel,if_neg this,List.eraseIdx_cons_succ]
   rw [ih hn.2 h]
theorem keys_aset {α:Type} (m:List (Int × α)) (n:Int) (v:α):(aset m n v).map (·.1)=if n∈m.map (·.1) then m.map (·.1) else m.map (·.1)++[n]:=by
 induction m with
 | nil=>rfl
 | cons a t ih =>
  obtain ⟨a,x⟩:=a
  by_cases h:a=n
  ·simp [aset,h]
  ·have h':¬ n=a:=fun e=>h e.symm
   simp only [aset,if_neg h,List.map_cons,List.mem_cons,h',false_or,ih]
   split <;> simp
theorem nodup_aset {α:Type} {m:List (Int × α)} (hn:(m.map (·.1)).Nodup) (n:Int) (v:α):((aset m n v).map (·.1)).Nodup:=by
 rw [keys_aset]
 split
 ·exact hn
 ·rename_i h
  rw [List.nodup_append]
  exact ⟨hn,by simp,fun a ha b hb=>by simp at hb;subst hb;intro e;subst e;exact h ha⟩
theorem adel_sublist {α:Type} (m:List (Int × α)) (n:Int):(adel m n).Sublist m:=by
 induction m with
 | nil=>exact List.Sublist.refl _
 | cons a t ih =>
  obtain ⟨a,x⟩:=a
  by_cases h:a=n
  ·simp [adel,h]
  ·simp [adel,h,ih]
theorem nodup_adel {α:Type} {m:List (Int × α)} (hn:(m.map (·.1)).Nodup) (n:Int):((adel m n).map (·.1)).Nodup:=hn.sublist ((adel_sublist m n).map _)
theorem alook_aset {α:Type} (m:List (Int × α)) (n k:Int) (v:α):alook (aset m n v) k=if k=n then some v else alook m k:=by
 induction m with
 | nil =>
  by_cases h:n=k
  ·subst h;simp [aset,alook]
  ·have h':¬ k=n:=fun e=>h e.symm
   simp [aset,alook,h,h']
 | cons a t ih =>
  obtain ⟨a,x⟩:=a
  by_cases h:a=n
  ·subst h
   by_cases hk:k=a
   ·subst hk;simp [aset,alook]
   ·have:¬ a=k:=fun e=>hk e.symm
    simp [aset,alook,hk,this]
  ·simp only [aset,if_neg h,alook,ih]
   by_cases hk:a=k
   ·subst hk;simp [h]
   ·simp [hk]
theorem alook_adel {α:Type} {m:List (Int × α)} (hn:(m.map (·.1)).Nodup) (n k:Int):alook (adel m n) k=if k=n then none else alook m k:=by
 induction m with
 | nil=>simp [adel,alook]
 | cons a t ih =>
  obtain ⟨a,x⟩:=a
  simp only [List.map_cons,List.nodup_cons] at hn
  by_cases h:a=n
  ·subst h
   simp only [adel,if_true,alook]
   by_cases hk:k=a
   ·subst hk
    simp only [if_true]
    exact alook_none.2 (fun y hy e=>hn.1 (List.mem_map.2 ⟨y,hy,e⟩))
   ·have:¬ a=k:=fun e=>hk e.symm
    simp [hk,this]
  ·simp only [adel,if_neg h,alook,ih hn.2]
   by_cases hk:a=k
   ·subst hk;simp [h]
   ·simp [hk]
section
variable {P:Program} {w:World} {t k e:TypeId} {r:Nat} {m:List (Int × Value)}
theorem MapIs.find (h:MapIs w r m) (n:Int) :
  ∃ es clock,w.heap[r]? = some (.map es clock)∧es.toList.map ent=m.map pr∧(m.map (·.1)).Nodup∧(∀ x∈es.toList,x.born < clock)∧(es.toList.map (·.born)).Nodup ∧
   ((Instr.findNow (.int .i64) (.int .i64 n) es.toList 0=some none∧(∀ x∈m,x.1≠n)) ∨
    ∃ j x v,Instr.findNow (.int .i64) (.int .i64 n) es.toList 0=some (some (j,v))∧es.toList[j]? = some x∧x.key=.int .i64 n∧x.val=v∧m[j]? = some (n,v)):=by
 obtain ⟨es,clock,hb,hm,hn,hbo,hbn⟩:=h
 refine ⟨es,clock,hb,hm,hn,hbo,hbn,?_⟩
 have hks:∀ x∈es.toList,IsKey (.int .i64) x.key:=by
  intro x hx
  obtain ⟨a,v,_,he,_⟩:=keys_of hm x hx
  rw [he];exact rfl
 rcases findNow_spec (d:=.int .i64) (k:=.int .i64 n) rfl es.toList 0 hks with ⟨h1,h2⟩ | ⟨j,e0,h1,h2,h3⟩
 ·refine .inl ⟨h1,fun x hx e=>?_⟩
  have:pr x∈es.toList.map ent:=by rw [hm];exact List.mem_map.2 ⟨x,hx,rfl⟩
  obtain ⟨y,hy,he⟩:=List.mem_map.1 this
  simp only [ent,pr,Prod.mk.injEq] at he
  exact h2 y hy (by rw [he.1,e])
 ·refine .inr ⟨j,e0,e0.val,by simpa using h1,h2,h3,rfl,?_⟩
  have:(es.toList.map ent)[j]? = some (ent e0):=by simp only [List.getElem?_map,h2,Option.map_some]
  rw [hm] at this
  simp only [List.getElem?_map,Option.map_eq_some_iff] at this
  obtain ⟨⟨a,v⟩,ha,he⟩:=this
  simp only [ent,pr,Prod.mk.injEq,h3] at he
  obtain ⟨he1,he2⟩:=he
  cases he1;subst he2
  exact ha
theorem MapIs.lookup (h:MapIs w r m) (ht:P.underlying t=some (.map k e)) (hk:P.underlying k=some (.int .i64)) {z:Value} (hz:(zeroValue e).run P w=.ok z w) (n:Int) (c:Bool) :
  (Instr.lookup t (.map (some r)) (.int .i64 n) c).run P w=.ok (if c then .tuple #[(alook m n).getD z,.bool (alook m n).isSome] else (alook m n).getD z) w:=by
 obtain ⟨es,clock,hb,hm,hn,hbo,hbn,hf⟩:=h.find n
 have hkey:IsKey (.int .i64) (.int .i64 n):=rfl
 rcases hf with ⟨h1,h2⟩ | ⟨j,x,v,h1,h2,h3,h4,h5⟩
 ·rw [alook_none.2 h2]
  cases c <;> simp [Instr.lookup,run_underlying ht,MapKept.run_getObj_map hb,run_checkKey hk hkey,run_findKey hk h1,hz,Result.andThen]
 ·rw [alook_of hn h5]
  cases c <;> simp [Instr.lookup,run_underlying ht,MapKept.run_getObj_map hb,run_checkKey hk hkey,run_findKey hk h1,Result.andThen]
theorem MapIs.update (h:MapIs w r m) (ht:P.underlying t=some (.map k e)) (hk:P.underlying k=some (.int .i64)) (n:Int) (v:Value) :
  ∃ w',(Instr.mapUpdate t (.map (some r)) (.int .i64 n) v).run P w=.ok () w'∧MapIs w' r (aset m n v)∧Turned r w w':=by
 obtain ⟨es,clock,hb,hm,hn,hbo,hbn,hf⟩:=h.find n
 have hkey:IsKey (.int .i64) (.int .i64 n):=rfl
 rcases hf with ⟨h1,h2⟩ | ⟨j,x,u,h1,h2,h3,h4,h5⟩
 ·refine ⟨setBlock w r (.map (es.push ⟨.int .i64 n,v,clock⟩) (clock+1)),?_,⟨_,_,heap_setBlock_same hb _,?_,nodup_aset hn n v,?_,?_⟩,turned_set hb⟩
  ·simp [Instr.mapUpdate,run_underlying ht,MapKept.run_getObj_map hb,run_checkKey hk hkey,run_findKey hk h1,MapKept.run_setObj_map _ hb,Result.andThen,setBlock]
  ·rw [aset_new h2,Array.toList_push,List.map_append,hm,List.map_append];rfl
  ·intro x hx
   rw [Array.toList_push,List.mem_append,List.mem_singleton] at hx
   rcases hx with hx | rfl
   ·have:=hbo x hx;omega
   ·show clock < clock+1;omega
  ·rw [Array.toList_push,List.map_append,List.nodup_append]
   refine ⟨hbn,by simp,fun a ha b hb'=>?_⟩
   simp at hb';subst hb'
   obtain ⟨x,hx,rfl⟩:=List.mem_map.1 ha
   have:=hbo x hx;omega
 ·have hj:es[j]? = some x:=by simpa using h2
  have hjl:j < es.toList.length:=(List.getElem?_eq_some_iff.1 h2).1
  have hx:es.toList[j]=x:=by rw [List.getElem?_eq_getElem hjl] at h2;exact Option.some.inj h2
  have hmod:(es.modify j (fun e'=>{ e' with key:=.int .i64 n,val:=v })).toList=es.toList.set j { x with key:=.int .i64 n,val:=v }:=by
   rw [Array.toList_modify,modify_eq_set _ _ _ _ h2]
  refine ⟨setBlock w r (.map (es.modify j (fun e'=>{ e' with key:=.int .i64 n,val:=v })) clock),?_,⟨_,_,heap_setBlock_same hb _,?_,nodup_aset hn n v,?_,?_⟩,turned_set hb⟩
  ·simp [Instr.mapUpdate,run_underlying ht,MapKept.run_getObj_map hb,run_checkKey hk hkey,run_findKey hk h1,hj,h3,run_keyThatStays hkey,MapKept.run_setObj_map _ hb,Result.andThen,setBlock]
  ·rw [hmod,aset_at hn h5,List.map_set,hm,List.map_set];rfl
  ·intro y hy
   rw [hmod] at hy
   rcases List.mem_or_eq_of_mem_set hy with hy | rfl
   ·exact hbo y hy
   ·exact hbo x (List.mem_of_getElem? h2)
  ·rw [hmod,List.map_set]
   have:(es.toList.map (·.born)).set j x.born=es.toList.map (·.born):=by
    apply List.ext_getElem
    ·simp
    ·intro i h1 h2
     simp only [List.getElem_set]
     split
     ·rename_i hij;subst hij;simp [← hx]
     ·rfl
   show ((es.toList.map (·.born)).set j x.born).Nodup
   rw [this];exact hbn
theorem MapIs.delete {ty:TypeId} (h:MapIs w r m) (ht:P.underlying t=some (.map k e)) (hk:P.underlying k=some (.int .i64)) (n:Int) :
  ∃ w',(Builtin.delete_ #[t,k] ty #[.map (some r),.int .i64 n]).run P w=.ok (.tuple #[]) w'∧MapIs w' r (adel m n)∧Turned r w w':=by
 obtain ⟨es,clock,hb,hm,hn,hbo,hbn,hf⟩:=h.find n
 have hkey:IsKey (.int .i64) (.int .i64 n):=rfl
 rcases hf with ⟨h1,h2⟩ | ⟨j,x,u,h1,h2,h3,h4,h5⟩
 ·refine ⟨setBlock w r (.map es clock),?_,⟨_,_,heap_setBlock_same hb _,?_,nodup_adel hn n,hbo,hbn⟩,turned_set hb⟩
  ·simp [Builtin.delete_,run_underlying ht,MapKept.run_getObj_map hb,run_checkKey hk hkey,run_findKey hk h1,MapKept.run_setObj_map _ hb,Result.andThen,setBlock]
  ·rw [adel_none h2];exact hm
 ·have hjl:j < es.toList.length:=(List.getElem?_eq_some_iff.1 h2).1
  have hsub:(es.eraseIdxIfInBounds j).toList=es.toList.eraseIdx j:=by
   unfold Array.eraseIdxIfInBounds
   rw [dif_pos (by simpa using hjl)]
   simp
  refine ⟨setBlock w r (.map (es.eraseIdxIfInBounds j) clock),?_,⟨_,_,heap_setBlock_same hb _,?_,nodup_adel hn n,?_,?_⟩,turned_set hb⟩
  ·simp [Builtin.delete_,run_underlying ht,MapKept.run_getObj_map hb,run_checkKey hk hkey,run_findKey hk h1,MapKept.run_setObj_map _ hb,Result.andThen,setBlock]
  ·rw [hsub,adel_at hn h5,map_eraseIdx,hm,map_eraseIdx]
  ·intro y hy
   rw [hsub] at hy
   exact hbo y ((List.eraseIdx_sublist _ _).subset hy)
  ·rw [hsub]
   exact hbn.sublist ((List.eraseIdx_sublist _ _).map _)
theorem MapIs.len (h:MapIs w r m) (ht:P.underlying t=some (.map k e)) (ty:TypeId):(Builtin.len_ #[t] ty #[.map (some r)]).run P w=.ok (.int .i64 m.length) w:=by
 obtain ⟨es,clock,hb,hm,_⟩:=h
 have:es.size=m.length:=by
  have h1:=congrArg List.length hm
  simpa using h1
 simp [Builtin.len_,run_underlying ht,MapKept.run_getObj_map hb,Result.andThen,this,goInt]
end
theorem ownsRow_lower {w:World} {B B' T k n:Nat} {v:Value} {xs:List Value} (h:w.ownsRow B T k v n xs) (hB:B'≤B):w.ownsRow B' T k v n xs:=by
 obtain ⟨h1,hc | ⟨g,cap,cur,h2,h3,h4⟩⟩:=h
 ·exact ⟨h1,.inl hc⟩
 ·exact ⟨h1,.inr ⟨g,cap,cur,h2,by omega,h4⟩⟩
theorem alook_mem {α:Type} {m:List (Int × α)} (hn:(m.map (·.1)).Nodup) {n:Int} {v:α} (h:(n,v)∈m):alook m n=some v:=by
 obtain ⟨j,hj,he⟩:=List.getElem_of_mem h
 exact alook_of hn (j:=j) (by rw [List.getElem?_eq_getElem hj,he])
theorem alook_in {α:Type} {m:List (Int × α)} {n:Int} {v:α} (h:alook m n=some v):(n,v)∈m:=by
 induction m with
 | nil=>simp [alook] at h
 | cons a t ih =>
  obtain ⟨a,x⟩:=a
  by_cases hk:a=n
  ·simp [alook,hk] at h;subst hk;subst h;simp
  ·simp only [alook,if_neg hk] at h;exact List.mem_cons_of_mem _ (ih h)
theorem aset_mem {α:Type} {m:List (Int × α)} {n:Int} {v:α} {x:Int × α} (h:x∈aset m n v):x=(n,v)∨x∈m:=by
 induction m with
 | nil=>simp [aset] at h;exact .inl h
 | cons a t ih =>
  obtain ⟨a,y⟩:=a
  by_cases hk:a=n
  ·rw [aset,if_pos hk] at h
   rcases List.mem_cons.1 h with h | h
   ·exact .inl h
   ·exact .inr (List.mem_cons_of_mem _ h)
  ·rw [aset,if_neg hk] at h
   rcases List.mem_cons.1 h with h | h
   ·exact .inr (by rw [h];exact List.mem_cons_self ..)
   ·exact (ih h).imp id (List.mem_cons_of_mem _)
end Sc
namespace Sc
open Go Go.RowKit
def DatA (vals:List Value) (ls:List Bytes):Asn:=⟨fun F w=>All2 (BytesAt F w) vals ls,fun _ _ _ hs _ h=>h.imp fun _ _ hb=>hb.same hs⟩
theorem all2_snoc {α β:Type} {R:α→β→Prop} {a:α} {b:β} (h:R a b):∀ {l:List α} {m:List β},All2 R l m→All2 R (l++[a]) (m++[b])
 | [],[],_=>⟨h,trivial⟩
 | _ :: _,_ :: _,⟨h1,h2⟩=>⟨h1,all2_snoc h h2⟩
 | [],_ :: _,h'=>h'.elim
 | _ :: _,[],h'=>h'.elim
theorem Sep.dat_new {W w w':World} {L:List Asn} (h:Sep W L w) (i:Nat) {vals:List Value} {ls:List Bytes} (hi:L[i]? = some (DatA vals ls)) (hb:Below w.heap.size w w') {v:Value} {b:Bytes} (hv:BytesAt (New w w') w' v b) :
  Sep W (L.set i (DatA (vals++[v]) (ls++[b]))) w':=by
 obtain ⟨F,G,hF,hR,hFG,hdF,hdG,K⟩:=h.at i hi
 refine K w' (fun k=>F k∨New w w' k) _ (Chg.of_below hb fun k h1 h2=>by omega) (fun k hk=>hk) ?_
 exact all2_snoc (hv.mono fun _ h=>.inr h) (All2.imp (fun _ _ (h:BytesAt F w _ _)=>(h.up hb).mono fun _ h=>.inl h) hF)
theorem Sep.row_mine {W w:World} {L:List Asn} (h:Sep W (OldA W :: L) w) (i:Nat) (hi:i≠0) {T k n:Nat} {v:Value} {xs:List Value} (hL:(OldA W :: L)[i]? = some (RowA T k v n xs)):w.ownsRow W.heap.size T k v n xs:=by
 obtain ⟨hg,Fs,h1,h2,h3⟩:=h
 have a:=h3 i _ hL
 have o:=h3 0 (OldA W) rfl
 obtain ⟨hx,hc | ⟨g,cap,cur,rfl,hb,hq⟩⟩:=a.1
 ·exact ⟨hx,.inl hc⟩
 ·refine ⟨hx,.inr ⟨g,cap,cur,rfl,?_,hq⟩⟩
  have hFg:=a.2 g rfl
  by_cases hlt:g < W.heap.size
  ·exact absurd (o.1 g hlt) (h2 i 0 g hi hFg)
  ·omega
theorem Sep.get_new {W w:World} {L:List Asn} (h:Sep W (OldA W :: L) w) (i:Nat) (hi:i≠0) {A:Asn} (hL:(OldA W :: L)[i]? = some A):∃ F,A.P F w∧∀ k,F k→New W w k:=by
 obtain ⟨hg,Fs,h1,h2,h3⟩:=h
 have o:=h3 0 (OldA W) rfl
 refine ⟨Fs i,h3 i A hL,fun k hk=>⟨?_,h1 i k hk⟩⟩
 by_cases hlt:k < W.heap.size
 ·exact absurd (o.1 k hlt) (h2 i 0 k hi hk)
 ·omega
end Sc
namespace Go.Proofs
open Go.RowKit Sc
def RowEA (g:Nat) (l:List Ext):Asn:=⟨fun F w=>F g∧RowE w g l,fun _ _ _ hs _ h=>⟨h.1,fun i hi=>by
 obtain ⟨a,b,c,d⟩:=h.2 i hi
 exact ⟨by rw [hs.cell h.1];exact a,by rw [hs.cell h.1];exact b,by rw [World.frozen?_of_block (hs g h.1)];exact c,by rw [World.frozen?_of_block (hs g h.1)];exact d⟩⟩⟩
abbrev OutEA (v:Value) (l:List Ext):Asn:=RowA 186 2 v l.length (flatE l)
theorem row_rowE {w:World} {B n g c:Nat} {l:List Ext} (hl:l.length=n) (h:w.ownsRow B 186 2 (.slice (some ⟨g,0,none⟩) n c) n (flatE l)):RowE w g l:=by
 intro i hi
 obtain ⟨g1,g2⟩:=flatE_get l i hi
 exact ⟨by rw [h.cellAt (i * 2) (by omega)];exact g1,by rw [h.cellAt (i * 2+1) (by omega)];exact g2,h.frozenAt _,h.frozenAt _⟩
theorem normE_nil:normE []=[]:=by simp [normE,joinL]
theorem flatE_set (a:List Ext) (o:Ext) (x:Int):(flatE (a++[o])).set (a.length * 2+1) (.int .i64 x)=flatE (a++[⟨o.first,x⟩]):=by
 rw [flatE_append,flatE_append,List.set_append_right _ _ (by rw [flatE_length];omega),flatE_length,show a.length * 2+1 - a.length * 2=1 by omega]
 rfl
def JoinSaid (l:List Ext) (w:World) (e:Ending) (w':World):Prop:=∃ v,e=.returned v∧w'.ownsRow w.heap.size 186 2 v l.length (flatE l)∧Below w.heap.size w w'
set_option maxRecDepth 100000 in
set_option maxHeartbeats 4000000 in
theorem joined_any (G:Nat→Prop) (v:Value) (l:List Ext) (w:World) (hv:ExtsAt G w v l) (hm:∀ e∈l,Oke e) (hl:l.length≤100000) :
  Calls Tryz.prog 324 #[v] w (JoinSaid (normE l) w):=by
 by_cases hnil:l=[]
 case pos =>
  subst hnil
  obtain ⟨p,c,rfl,h1,h2,h3,_⟩:=hv
  have hclone:Calls Tryz.prog 360 #[.slice p 0 c] w fun e w'=>∃ p' c',e=.returned (.slice p' 0 c')∧Hid (Below w.heap.size w w'):=by
   cases p with
   | none =>
    obtain rfl:=h3 rfl
    refine (cloneExt_nil w).mono ?_
    rintro e w' ⟨rfl,rfl⟩
    exact ⟨none,0,rfl,Below.refl _ _⟩
   | some a =>
    refine (cloneExt_some a 0 c [] w rfl (fun j u hj=>by cases hj) (fun u hu=>by cases hu) (by unfold Hid;omega)).mono ?_
    rintro e w' ⟨v',rfl,ho,hb⟩
    obtain ⟨_,⟨rfl,_⟩ | ⟨g,cap,_,rfl,_⟩⟩:=ho.out
    ·exact ⟨_,_,rfl,hb⟩
    ·exact ⟨_,_,rfl,hb⟩
  have HCLONE:=Lib.hid hclone
  clear hclone
  clear h1 h2 h3
  go_enter Tryz.func324,Tryz.ntmps324
  go_wp2_with fail
  go_step3
  go_wp2_with fail
  refine (HCLONE.out).mono ?_
  rintro e w1 ⟨p',c',rfl,hb1⟩
  go_wp2_with fail
  refine (sortExt_none p' c' _ _).mono ?_
  rintro e w2 ⟨rfl,rfl⟩
  go_wp2_with fail
  go_step3
  go_wp2_with fail
  go_loopw [2,12] (fun vo i wr=>vo=.slice none 0 0∧i=.int .i64 0∧wr=w2) (fun _ _ _=>0)
  case atStart=>exact ⟨rfl,rfl,rfl⟩
  case round =>
   obtain ⟨rfl,rfl,rfl⟩:=hrel
   go_wp2_with fail
   rw [Exit.noGoto_ret]
   go_ret
   refine ⟨.slice none 0 0,rfl,?_,hb1.out⟩
   rw [normE_nil]
   exact World.ownsRow_nil _ _ _ _
 case neg =>
  have hpos:=List.length_pos_iff.2 hnil
  obtain ⟨p,c,rfl,h1,h2,h3,h4⟩:=hv
  obtain ⟨b0,o0,rfl,_,_⟩:=h4 0 hpos
  have hnews:=extsAt_news (G:=G) (w:=w) (a:=⟨b0,o0,none⟩) (n:=l.length) (c:=c) (l:=l) ⟨_,c,rfl,h1,h2,h3,h4⟩
  have hcl:=cloneExt_some ⟨b0,o0,none⟩ l.length c (flatE l) w (flatE_length l) hnews (flatE_one l) (by unfold Hid;omega)
  have HM:=Lib.hid hm
  have HCL:=Lib.hid hcl
  clear hm hcl
  clear h1 h2 h3 h4 hnews hnil
  go_enter Tryz.func324,Tryz.ntmps324
  go_wp2_with fail
  go_step3
  go_wp2_with fail
  refine (HCL.out).mono ?_
  rintro e w1 ⟨v1,rfl,HO1,HB1⟩
  have hS1:=(Sep.start w).row_new HB1.out HO1.out
  obtain ⟨g,cg,rfl,hg1,hg2⟩:=HO1.out.form hpos
  have hR1:=row_rowE rfl HO1.out
  have HS1:=Lib.hid hS1
  have HR1:=Lib.hid hR1
  have HG1:=Lib.hid hg1
  have HG2:=Lib.hid hg2
  clear hS1 hR1 hg1 hg2
  go_wp2_with fail
  refine (sortExt_any g cg l w1 HR1.out HG2.out (by omega)).mono ?_
  rintro e w2 ⟨rfl,l',hp,hs,hc2,hR2⟩
  have hS2:Sep w [OldA w,RowEA g l'] w2:=by
   obtain ⟨F,GG,hF,_,_,hdF,_,K⟩:=HS1.out.at 1 rfl
   exact K w2 F (RowEA g l') (hc2.mono fun k _ hk=>by subst hk;exact hF.2 _ rfl) (fun k hk=>.inl hk) ⟨hF.2 g rfl,hR2⟩
  have hS3:=hS2.new (Below.refl _ _) (OutEA (.slice none 0 0) []) (F:=fun _=>False) (fun _ h=>h.elim) ⟨World.ownsRow_nil _ _ _ _,by simp [Value.ownBlock]⟩
  have hlen:=hp.length_eq
  have hm':∀ e∈l',Oke e:=fun e he=>HM.out e (hp.mem_iff.1 he)
  have hfin:joinL l'=normE l:=normE_eq (fun e he=>(HM.out e he).2.2.1) hp hs
  rw [← hlen] at hl hpos ⊢
  have HS3:=Lib.hid hS3
  have HM':=Lib.hid hm'
  have HFIN:=Lib.hid hfin
  have HS:=Lib.hid hs
  clear hS3 hm' hfin hs
  clear hS2 hc2 hR2 hp hlen
  go_wp2_with fail
  go_step3
  go_wp2_with fail
  go_loopw [2,12] (fun vo i wr=>∃ k:Nat,∃ po co,k≤l'.length∧i=.int .i64 k∧vo=.slice po (joinL (l'.take k)).length co∧Hid (Sep w [OldA w,RowEA g l',OutEA (.slice po (joinL (l'.take k)).length co) (joinL (l'.take k))] wr)) (fun _ i _=>l'.length - (intOf i).toNat)
  case atStart=>exact ⟨0,none,0,by omega,rfl,rfl,HS3.out⟩
  case round =>
   obtain ⟨k,po,co,hk,rfl,rfl,HS⟩:=hrel
   by_cases hlt:k < l'.length
   case neg =>
    obtain rfl:k=l'.length:=by omega
    obtain ⟨F,hF,_⟩:=HS.out.get 2 rfl
    rw [List.take_length,HFIN.out] at hF ⊢
    have hold:=HS.out.old
    have hown:=HS.out.row_mine 2 (by decide) rfl
    rw [List.take_length,HFIN.out] at hown
    have HOLD:=Lib.hid hold
    have HOWN:=Lib.hid hown
    clear hold hown
    clear hF
    go_wp2_with fail
    rw [Exit.noGoto_ret]
    go_ret
    refine ⟨_,rfl,?_,HOLD.out⟩
    exact HOWN.out
   case pos =>
    obtain ⟨F1,hF1,_⟩:=HS.out.get 1 rfl
    obtain ⟨hc0,hc1,_,_⟩:=hF1.2 k hlt
    have htk:=take_snoc l' k hlt
    have hme:=HM'.out _ (List.getElem_mem hlt)
    generalize l'[k]=e at hc0 hc1 htk hme
    have hoke:=joinL_oke (l'.take k) (fun e he=>HM'.out e (List.mem_of_mem_take he))
    have hjl:=joinL_len (l'.take k)
    rw [List.length_take] at hjl
    have hj2:joinL (l'.take (k+1))=joinStep (joinL (l'.take k)) e:=by rw [htk,joinL_snoc]
    generalize joinL (l'.take k)=out at *
    obtain ⟨b1,b2,b3,b4⟩:=hme
    have hw1:IntKind.i64.wrap (e.first+e.len)=e.first+e.len:=IntWalk.i64_in _ (by omega)
    have k0:(0:Int)≤(k:Int):=by omega
    have k1:(k:Int) < (l'.length:Int):=by omega
    have HTK:=Lib.hid htk
    have HJ2:=Lib.hid hj2
    clear htk hj2
    clear hF1
    have hba:=below_alloc wr (.cells #[.int .i64 e.first,.int .i64 e.len] 186)
    have hea:(wr.alloc (.cells #[.int .i64 e.first,.int .i64 e.len] 186)).cell? ⟨wr.heap.size,0,none⟩=some (.int .i64 e.first):=by rw [cell_row (heap_alloc_new wr _)];rfl
    have heb:(wr.alloc (.cells #[.int .i64 e.first,.int .i64 e.len] 186)).cell? ⟨wr.heap.size,1,none⟩=some (.int .i64 e.len):=by rw [cell_row (heap_alloc_new wr _)];rfl
    have hsa:wr.heap.size < (wr.alloc (.cells #[.int .i64 e.first,.int .i64 e.len] 186)).heap.size:=by simp
    have HBA:=Lib.hid hba
    have HSA:=Lib.hid hsa
    clear hba hsa
    by_cases hout:out=[]
    case pos =>
     subst hout
     go_wp2_with fail
     go_quiet (fail)
     have hSq:=HS.out.up (w':=(wr.alloc (.cells #[.int .i64 e.first,.int .i64 e.len] 186)).drewN nq) (below_drewN HBA.out _)
     have hqa:((wr.alloc (.cells #[.int .i64 e.first,.int .i64 e.len] 186)).drewN nq).cell? ⟨wr.heap.size,0,none⟩=some (.int .i64 e.first):=hea
     have hqb:((wr.alloc (.cells #[.int .i64 e.first,.int .i64 e.len] 186)).drewN nq).cell? ⟨wr.heap.size,1,none⟩=some (.int .i64 e.len):=heb
     generalize (wr.alloc (.cells #[.int .i64 e.first,.int .i64 e.len] 186)).drewN nq=wq at *
     have HSQ:=Lib.hid hSq
     clear hSq
     clear hea heb
     obtain ⟨FA,hFA,_⟩:=HSQ.out.get 2 rfl
     have hrowA:=hFA.1
     obtain ⟨iiA,hiiA,hizA,hiyA,hixA⟩:=info_parts infoExt
     have HROWA:=Lib.hid hrowA
     clear hFA hrowA
     go_wp2_with (at_builtin;refine wpList_append_lies _ rfl _ _ 390 rfl 0 186 iiA (.agg #[.int .i64 0,.int .i64 0]) 2 16 Tryz.underlying390 hiiA hizA hiyA hixA rfl (by decide) _ (0) ([]) rfl (HROWA.out.alloc _) ⟨wq.heap.size,0,none⟩ 1 1 [.int .i64 e.first,.int .i64 e.len] rfl rfl (World.news_of_block (cs:=#[.int .i64 e.first,.int .i64 e.len]) (heap_alloc_new wq _)) (by simp [Value.oneCell']) (by decide) (by unfold maxLen;omega) (by omega) (Nat.zero_le _) (wq.heap.size+1) (by simp) ?_;intro gA cA wA hownA hgrowA hatA hltA)
     have hSA:=HSQ.out.row_app 2 rfl (below_alloc _ _) hownA hgrowA hatA (by simp) hltA
     clear hownA hgrowA hatA hltA hiiA hizA hiyA hixA
     have HSA:=Lib.hid hSA
     clear hSA
     rw [joinStep_nil] at HJ2
     go_wp2_with fail
     go_roundw
     case rel =>
      refine ⟨k+1,_,cA,by omega,by go_num,by rw [HJ2.out];rfl,?_⟩
      unfold Hid
      rw [HJ2.out]
      exact HSA.out
     case measure=>simp [intOf];omega
    case neg =>
     obtain ⟨a,o,rfl⟩:=snoc_of hout
     obtain ⟨o1,o2,o3,o4⟩:=hoke o (by simp)
     have hL:(a++[o]).length=a.length+1:=by simp
     have hS':Sep w [OldA w,RowEA g l',RowA 186 2 (.slice po (a++[o]).length co) (a++[o]).length (flatE (a++[o]))] wr:=HS.out
     obtain ⟨F2,hF2,_⟩:=HS.out.get 2 rfl
     obtain ⟨g2,c2,he2,_⟩:=hF2.1.form (by omega)
     cases he2
     obtain ⟨hx1,_⟩:=HS.out.row_cell 2 rfl (a.length * 2) (by omega)
     obtain ⟨hx2,hfz⟩:=HS.out.row_cell 2 rfl (a.length * 2+1) (by omega)
     obtain ⟨ga,gb⟩:=flatE_get (a++[o]) a.length (by simp)
     rw [ga] at hx1
     rw [gb] at hx2
     simp only [List.getElem_concat_length] at hx1 hx2
     rw [hL] at hS' hjl ⊢
     rw [joinStep_snoc] at HJ2
     have hxa:=cell_up HBA.out hx1
     have hxb:=cell_up HBA.out hx2
     have hfa:(wr.alloc (.cells #[.int .i64 e.first,.int .i64 e.len] 186)).frozen? ⟨g2,a.length * 2+1,none⟩=false:=by
      rw [HBA.out.frozen (p:=⟨g2,a.length * 2+1,none⟩) (World.block_lt_of_cell? _ _ hx2)];exact hfz
     have hw2:IntKind.i64.wrap (o.first+o.len)=o.first+o.len:=IntWalk.i64_in _ (by omega)
     have hn1:((a.length:Nat):Int) < ((a.length+1:Nat):Int):=by omega
     have hn0:(0:Int)≤(a.length:Int):=by omega
     have HS':=Lib.hid hS'
     clear hS'
     clear hF2 hoke ga gb hx1 hx2 hfz
     by_cases hc:e.first≤o.first+o.len
     case pos =>
      rw [if_pos hc] at HJ2
      have hdc:decide (e.first≤o.first+o.len)=true:=decide_eq_true hc
      go_wp2_with fail
      go_quiet (fail)
      have hSq:=HS'.out.up (w':=(wr.alloc (.cells #[.int .i64 e.first,.int .i64 e.len] 186)).drewN nq) (below_drewN HBA.out _)
      generalize hqq:(wr.alloc (.cells #[.int .i64 e.first,.int .i64 e.len] 186)).drewN nq=wq at *
      have hqa:wq.cell? ⟨wr.heap.size,0,none⟩=some (.int .i64 e.first):=by rw [← hqq];exact hea
      have hqb:wq.cell? ⟨wr.heap.size,1,none⟩=some (.int .i64 e.len):=by rw [← hqq];exact heb
      have hqx:wq.cell? ⟨g2,a.length * 2,none⟩=some (.int .i64 o.first):=by rw [← hqq];exact hxa
      have hqy:wq.cell? ⟨g2,a.length * 2+1,none⟩=some (.int .i64 o.len):=by rw [← hqq];exact hxb
      have hqf:wq.frozen? ⟨g2,a.length * 2+1,none⟩=false:=by rw [← hqq];exact hfa
      have hw3:IntKind.i64.wrap (e.first+e.len - o.first)=e.first+e.len - o.first:=IntWalk.i64_in _ (by omega)
      have HSQ:=Lib.hid hSq
      have HQQ:=Lib.hid hqq
      clear hSq hqq
      clear hea heb hxa hxb hfa
      go_wp2_with fail
      go_region
      have hS8:=(HSQ.out.row_set 2 rfl (a.length * 2+1) (.int .i64 (max o.len (e.first+e.len - o.first)))).up (w':=(wq.setCell ⟨g2,a.length * 2+1,none⟩ (.int .i64 (max o.len (e.first+e.len - o.first)))).drew) (below_drewN (Below.refl _ _) 1)
      rw [flatE_set] at hS8
      have HS8:=Lib.hid hS8
      clear hS8
      go_wp2_with fail
      go_roundw
      case rel =>
       refine ⟨k+1,some ⟨g2,0,none⟩,co,by omega,by go_num,by rw [HJ2.out];simp,?_⟩
       unfold Hid
       rw [HJ2.out]
       have e1:(a++[(⟨o.first,max o.len (e.first+e.len - o.first)⟩:Ext)]).length=a.length+1:=by simp
       rw [e1]
       show Sep w [OldA w,RowEA g l',RowA 186 2 _ (a++[(⟨o.first,max o.len (e.first+e.len - o.first)⟩:Ext)]).length _] _
       rw [e1]
       exact HS8.out
      case measure=>simp [intOf];omega
     case neg =>
      rw [if_neg hc] at HJ2
      have hdc:decide (e.first≤o.first+o.len)=false:=decide_eq_false hc
      clear hc
      go_wp2_with fail
      go_quiet (fail)
      have hSq:=HS'.out.up (w':=(wr.alloc (.cells #[.int .i64 e.first,.int .i64 e.len] 186)).drewN nq) (below_drewN HBA.out _)
      generalize hqq:(wr.alloc (.cells #[.int .i64 e.first,.int .i64 e.len] 186)).drewN nq=wq at *
      have hqa:wq.cell? ⟨wr.heap.size,0,none⟩=some (.int .i64 e.first):=by rw [← hqq];exact hea
      have hqb:wq.cell? ⟨wr.heap.size,1,none⟩=some (.int .i64 e.len):=by rw [← hqq];exact heb
      have HSQ:=Lib.hid hSq
      have HQQ:=Lib.hid hqq
      clear hSq hqq
      clear hea heb hxa hxb hfa
      obtain ⟨FA,hFA,_⟩:=HSQ.out.get 2 rfl
      have hrowA:=hFA.1
      obtain ⟨iiA,hiiA,hizA,hiyA,hixA⟩:=info_parts infoExt
      have HROWA:=Lib.hid hrowA
      clear hFA hrowA
      go_wp2_with (at_builtin;refine wpList_append_lies _ rfl _ _ 390 rfl 0 186 iiA (.agg #[.int .i64 0,.int .i64 0]) 2 16 Tryz.underlying390 hiiA hizA hiyA hixA rfl (by decide) _ (a.length+1) (flatE (a++[o])) rfl (HROWA.out.alloc _) ⟨wq.heap.size,0,none⟩ 1 1 [.int .i64 e.first,.int .i64 e.len] rfl rfl (World.news_of_block (cs:=#[.int .i64 e.first,.int .i64 e.len]) (heap_alloc_new wq _)) (by simp [Value.oneCell']) (by decide) (by unfold maxLen;omega) (by omega) (Nat.zero_le _) (wq.heap.size+1) (by simp) ?_;intro gA cA wA hownA hgrowA hatA hltA)
      have hSA:=HSQ.out.row_app 2 rfl (below_alloc _ _) hownA hgrowA hatA (by simp) hltA
      clear hownA hgrowA hatA hltA hiiA hizA hiyA hixA
      have HSA:=Lib.hid hSA
      clear hSA
      go_wp2_with fail
      go_roundw
      case rel =>
       have e1:(a++[o]++[e]).length=a.length+1+1:=by simp
       have e2:flatE (a++[o]++[e])=flatE (a++[o])++[.int .i64 e.first,.int .i64 e.len]:=by rw [flatE_append];rfl
       refine ⟨k+1,_,cA,by omega,by go_num,by rw [HJ2.out,e1],?_⟩
       unfold Hid
       rw [HJ2.out,e1]
       show Sep w [OldA w,RowEA g l',RowA 186 2 _ (a++[o]++[e]).length (flatE (a++[o]++[e]))] _
       rw [e1,e2]
       exact HSA.out
      case measure=>simp [intOf];omega
end Go.Proofs
namespace Go.Proofs
open Go.RowKit Sc
structure SetIs (F:Nat→Prop) (w:World) (v:Value) (most:Int) (l:List Ext):Prop where
 out:∃ b sv,v=.pointer (some ⟨b,0,none⟩)∧F b∧w.heap[b]? = some (.cells #[.int .i64 most,sv] 392 (0,0))∧ExtsAt F w sv l
 dom:Dom F w
theorem SetIs.same {F:Nat→Prop} {w w':World} {v:Value} {most:Int} {l:List Ext} (h:SetIs F w v most l) (hs:Same F w w') (hz:w.heap.size≤w'.heap.size):SetIs F w' v most l:=by
 obtain ⟨⟨b,sv,h1,h2,h3,h4⟩,hd⟩:=h
 exact ⟨⟨b,sv,h1,h2,by rw [hs b h2];exact h3,h4.same hs⟩,hd.of_size hz⟩
theorem SetIs.up {F:Nat→Prop} {w w':World} {v:Value} {most:Int} {l:List Ext} (h:SetIs F w v most l) (hb:Below w.heap.size w w'):SetIs F w' v most l:=h.same (h.dom.same hb) hb.size
def SetA (v:Value) (most:Int) (l:List Ext):Asn:=⟨fun F w=>SetIs F w v most l,fun _ _ _ hs hz h=>h.same hs hz⟩
theorem SetIs.cells {F:Nat→Prop} {w:World} {v:Value} {most:Int} {l:List Ext} (h:SetIs F w v most l) :
  ∃ b p c,v=.pointer (some ⟨b,0,none⟩)∧F b∧b < w.heap.size∧w.cell? ⟨b,0,none⟩=some (.int .i64 most)∧w.cell? ⟨b,1,none⟩=some (.slice p l.length c)∧ExtsAt F w (.slice p l.length c) l:=by
 obtain ⟨⟨b,sv,h1,h2,h3,h4⟩,hd⟩:=h
 obtain ⟨p,c,rfl⟩:=extsAt_shape h4
 exact ⟨b,p,c,h1,h2,hd b h2,by rw [cell_row h3];rfl,by rw [cell_row h3];rfl,h4⟩
def SetNew (n:Int) (w:World) (e:Ending) (w':World):Prop:=∃ b:Nat,e=.returned (.pointer (some ⟨b,0,none⟩))∧SetIs (New w w') w' (.pointer (some ⟨b,0,none⟩)) n []∧Below w.heap.size w w'
theorem setNew_any (n:Int) (w:World):Calls Tryz.prog 264 #[.int .i64 n] w (SetNew n w):=by
 go_enter Tryz.func264,Tryz.ntmps264
 go_wp2
 go_ret
 exact ⟨w.heap.size,rfl,⟨⟨w.heap.size,.slice none 0 0,rfl,⟨Nat.le_refl _,by simp⟩,heap_alloc_new w _,SlAt.nil⟩,fun k hk=>hk.2⟩,below_alloc w _⟩
def ExtsSaid (l:List Ext) (w:World) (e:Ending) (w':World):Prop:=∃ p c,e=.returned (.slice p l.length c)∧ExtsAt (New w w') w' (.slice p l.length c) l∧Below w.heap.size w w'
theorem cloneExt_any (G:Nat→Prop) (v:Value) (l:List Ext) (w:World) (hv:ExtsAt G w v l) (hi:∀ e∈l,I64 e.first∧I64 e.len) (hl:l.length≤1000000) :
  Calls Tryz.prog 360 #[v] w (ExtsSaid l w):=by
 obtain ⟨p,c,rfl,h1,h2,h3,h4⟩:=hv
 cases p with
 | none =>
  obtain rfl:=h3 rfl
  obtain rfl:l=[]:=List.length_eq_zero_iff.1 (by omega)
  refine (cloneExt_nil w).mono ?_
  rintro e w' ⟨rfl,rfl⟩
  exact ⟨none,0,rfl,SlAt.nil,Below.refl _ _⟩
 | some a =>
  refine (cloneExt_some a l.length c (flatE l) w (flatE_length l) ?_ (flatE_one l) hl).mono ?_
  ·exact extsAt_news (G:=G) (w:=w) (a:=a) (n:=l.length) (c:=c) (l:=l) ⟨_,c,rfl,h1,h2,h3,h4⟩
  ·rintro e w' ⟨v',rfl,ho,hb⟩
   have:=row_extsAt (New w w') rfl hi (fun k a b=>⟨a,b⟩) ho.out
   obtain ⟨p',c',rfl⟩:=extsAt_shape this
   exact ⟨p',c',rfl,this,hb.out⟩
theorem extsAt_i64 {G:Nat→Prop} {w:World} {v:Value} {l:List Ext} (h:ExtsAt G w v l):∀ e∈l,I64 e.first∧I64 e.len:=by
 obtain ⟨p,c,rfl,_,_,_,h4⟩:=h
 intro e he
 obtain ⟨i,hi,rfl⟩:=List.getElem_of_mem he
 obtain ⟨_,_,_,_,_,_,q⟩:=h4 i hi
 exact q
theorem setExtents_any (F:Nat→Prop) (v:Value) (most:Int) (l:List Ext) (w:World) (h:SetIs F w v most l) (hl:l.length≤1000000) :
  Calls Tryz.prog 365 #[v] w (ExtsSaid l w):=by
 obtain ⟨b,p,c,rfl,_,hb,hc0,hc1,hx⟩:=h.cells
 have hcl:=cloneExt_any F _ l w hx (extsAt_i64 hx) hl
 have HCL:=Lib.hid hcl
 clear hcl
 clear hx
 go_enter Tryz.func365,Tryz.ntmps365
 go_wp2_with fail
 refine (HCL.out).mono ?_
 rintro e w1 ⟨p',c',rfl,hx1,hb1⟩
 have HX1:=Lib.hid hx1
 have HB1:=Lib.hid hb1
 clear hx1 hb1
 go_wp2
 go_ret
 exact ⟨p',c',rfl,HX1.out,HB1.out⟩
def cntE (l:List Ext):Int:=(l.map (·.len)).sum
theorem cntE_take (l:List Ext) (k:Nat) (h:k < l.length):cntE (l.take (k+1))=cntE (l.take k)+l[k].len:=by
 unfold cntE;rw [take_snoc l k h,List.map_append,List.sum_append];simp only [List.map_cons,List.map_nil,List.sum_cons,List.sum_nil];omega
theorem cntE_bd (l:List Ext) (h:∀ e∈l,Oke e):∀ k,0≤cntE (l.take k)∧cntE (l.take k)≤1048577 * l.length:=by
 have:∀ m:List Ext,(∀ e∈m,Oke e)→0≤cntE m∧cntE m≤1048577 * m.length:=by
  intro m
  induction m with
  | nil=>intro _;simp [cntE]
  | cons e m ih =>
   intro h
   have h1:=ih fun x hx=>h x (by simp [hx])
   have h2:=h e (by simp)
   unfold Oke at h2
   unfold cntE at *
   simp only [List.map_cons,List.sum_cons,List.length_cons]
   omega
 intro k
 have h1:=this (l.take k) fun e he=>h e (List.mem_of_mem_take he)
 rw [List.length_take] at h1
 have:min k l.length≤l.length:=Nat.min_le_right _ _
 omega
set_option maxHeartbeats 1000000 in
theorem countLoop_any (l:List Ext) (h:∀ e∈l,Oke e) (hl:l.length≤1000000) (v:Value) (w:World) (hv:Calls Tryz.prog 365 #[v] w (ExtsSaid l w)) :
  Calls Tryz.prog 364 #[v] w fun e w'=>e=.returned (.int .i64 (cntE l))∧Below w.heap.size w w':=by
 have HV:=Lib.hid hv
 have H:=Lib.hid h
 clear hv h
 go_enter Tryz.func364,Tryz.ntmps364
 go_wp2_with fail
 refine (HV.out).mono ?_
 rintro e w1 ⟨p,c,rfl,hx,hb1⟩
 obtain ⟨p',c',he,h1,h2,_,h4⟩:=hx
 cases he
 have H4:=Lib.hid h4
 have HB1:=Lib.hid hb1
 clear h4 hb1
 go_wp2_with fail
 go_loopw [2,8] (fun s i wr=>∃ k:Nat,k≤l.length∧i=.int .i64 k∧s=.int .i64 (cntE (l.take k))∧Hid (Below w1.heap.size w1 wr)) (fun _ i _=>l.length - (intOf i).toNat)
 case atStart=>exact ⟨0,by omega,rfl,by simp [cntE],Below.refl _ _⟩
 case round =>
  obtain ⟨k,hk,rfl,rfl,HB⟩:=hrel
  by_cases hlt:k < l.length
  ·obtain ⟨b,o,rfl,hb,hc0,hc1,_,_⟩:=H4.out k hlt
   have hc0':=cell_up HB.out hc0
   have hc1':=cell_up HB.out hc1
   have hsu:=cntE_take l k hlt
   have hbd:=cntE_bd l H.out k
   have hok:=H.out _ (List.getElem_mem hlt)
   unfold Oke at hok
   generalize l[k]=e at *
   generalize cntE (l.take k)=q at *
   have hb2:=Below.up HB.out (below_alloc wr (.cells #[.int .i64 e.first,.int .i64 e.len] 186))
   obtain ⟨hbd1,hbd2⟩:=hbd
   obtain ⟨ok1,ok2,ok3,ok4⟩:=hok
   have hq:q≤1048577 * 1000000:=by omega
   have hw1:IntKind.i64.wrap (q+e.len)=q+e.len:=IntWalk.i64_in _ (by omega)
   have HSU:=Lib.hid hsu
   have HB2:=Lib.hid hb2
   clear hsu hb2
   clear hc0 hc1 hbd2
   go_wp2_with fail
   go_roundw
   case rel=>exact ⟨k+1,by omega,by go_num,by rw [HSU.out],HB2.out⟩
   case measure=>simp [intOf];omega
  ·obtain rfl:k=l.length:=by omega
   have hb2:=Below.up HB1.out HB.out
   have HB2:=Lib.hid hb2
   clear hb2
   go_wp2
   go_ret
   refine ⟨?_,HB2.out⟩
   rw [List.take_length]
   rfl
theorem setCount_any (F:Nat→Prop) (v:Value) (most:Int) (l:List Ext) (w:World) (h:SetIs F w v most l) (ho:∀ e∈l,Oke e) (hl:l.length≤1000000) :
  Calls Tryz.prog 364 #[v] w fun e w'=>e=.returned (.int .i64 (cntE l))∧Below w.heap.size w w':=countLoop_any l ho hl v w (setExtents_any F v most l w h hl)
end Go.Proofs
namespace Sc
open Go Go.RowKit
section
variable {P:Program}
theorem run_append_nil (w:World) (t ty e:TypeId) (i:TypeInfo) (ht:P.underlying t=some (.slice e)) (hi:P.info? e=some i) (p:Option Addr) (n c:Nat) (hn:n≤c) :
  (Builtin.append_ #[t,t] ty #[.slice p n c,.slice none 0 0]).run P w=.ok (.slice p n c) w:=by
 cases p with
 | none=>simp [Builtin.append_,run_underlying ht,Go.sizeOf,typeInfo,hi,Builtin.lenOf,Builtin.firstCells,hn]
 | some a=>simp [Builtin.append_,run_underlying ht,Go.sizeOf,typeInfo,hi,Builtin.lenOf,Builtin.firstCells,hn,storeCells]
theorem run_append_any (w:World) (t ty:TypeId) (base:Nat) (e:TypeId) (i:TypeInfo) (z:Value) (size bytes:Nat) (ht:P.underlying t=some (.slice e)) (hi:P.info? e=some i) (hz:i.zero=some z)
  (hsize:i.size=size) (hby:i.bytes=bytes) (hzs:z.cells.size=size) (hsz:0 < size)
  (v:Value) (n:Nat) (xs:List Value) (hown:w.ownsRow base e size v n xs) (p:Option Addr) (m c:Nat) (hp:p=none→m=0∧c=0) (news:List Value) (hl:news.length=m * size)
  (hnews:∀ a,p=some a→∀ j u,news[j]? = some u→w.cell? (a.add j)=some u) (h1:∀ u∈news,u.oneCell'=true) (h63:n+m≤maxLen) (hbytes:(n+m) * bytes≤140737488355328) (hbase:base≤w.heap.size) :
  ∃ v' w',(Builtin.append_ #[t,t] ty #[v,.slice p m c]).run P w=.ok v' w'∧w'.ownsRow base e size v' (n+m) (xs++news)∧w.grownBy w' v.ownBlock∧(v'.ownBlock=v.ownBlock∨v'.ownBlock=some w.heap.size):=by
 cases p with
 | some a =>
  obtain ⟨v',w',h1,h2,h3,_,h5⟩:=run_append_own_at (P:=P) w base t ty e i z size bytes ht hi hz hsize hby hzs hsz v n xs hown a m c news hl (hnews a rfl) h1 h63 hbytes hbase
  exact ⟨v',w',h1,h2,h3,h5⟩
 | none =>
  obtain ⟨rfl,rfl⟩:=hp rfl
  have hnil:news=[]:=List.length_eq_zero_iff.1 (by omega)
  subst hnil
  obtain ⟨hx,hc | ⟨g,cap,cur,rfl,hb,hg,hnc,hcm,hcs,htake⟩⟩:=id hown
  ·obtain ⟨rfl,rfl⟩:=hc
   exact ⟨_,w,run_append_nil w t ty e i ht hi none 0 0 (Nat.le_refl _),by simpa using hown,⟨rfl,rfl,rfl,Nat.le_refl _,fun _ _ _=>rfl⟩,.inl rfl⟩
  ·exact ⟨_,w,run_append_nil w t ty e i ht hi _ n cap hnc,by simpa using hown,⟨rfl,rfl,rfl,Nat.le_refl _,fun _ _ _=>rfl⟩,.inl rfl⟩
end
end Sc
namespace Go.Proofs
open Go.RowKit Sc
def GrowSaid (w:World) (e:Ending) (w':World):Prop:=∃ v,e=.returned v∧w'.ownsRow w.heap.size 186 2 v 0 []∧Below w.heap.size w w'
set_option maxRecDepth 100000 in
set_option maxHeartbeats 1000000 in
theorem growExt_nil (n:Nat) (w:World) (hn:n≤1000000):Calls Tryz.prog 363 #[.slice none 0 0,.int .i64 n] w (GrowSaid w):=by
 obtain ⟨i0,hi,hz0,hz1,hz2⟩:=info_parts infoExt
 by_cases h0:n=0
 ·subst h0
  clear hi hz0 hz1 hz2
  go_enter Tryz.func363,Tryz.ntmps363
  go_wp2
  go_ret
  exact ⟨.slice none 0 0,rfl,World.ownsRow_nil _ _ _ _,Below.refl _ _⟩
 ·have hold:(Builtin.firstCells i0.size 0 (.slice none 0 0)).run Tryz.prog w.drew=.ok ([]:List Value).toArray w.drew:=by simp [Builtin.firstCells]
  have hrz:=Lib.run_append_grow_zeros (P:=Tryz.prog) w 390 3 390 186 i0 (.agg #[.int .i64 0,.int .i64 0]) .i64 .i64 Tryz.underlying390 Tryz.underlying3 hi hz0 none 0 0 [] hold n (by omega) (by omega) (by omega) (by omega) (by rw [hz2];omega) (growslice_fits (by omega) (by rw [hz2];omega))
  rw [Nat.zero_add] at hrz
  have hge:=grownCap_ge w n 0 186
  have hle:=grownCap_le_maxLen w n 0 186 (by unfold maxLen;omega)
  generalize grownCap w n 0 186=C at *
  have hcur:((([]:List Value).toArray++Builtin.zeroCells (Value.agg #[.int .i64 0,.int .i64 0]).cells n++Builtin.zeroCells (Value.agg #[.int .i64 0,.int .i64 0]).cells (C - n))).size=C * 2:=by
   simp [Builtin.zeroCells,Value.cells];omega
  generalize (([]:List Value).toArray++Builtin.zeroCells (Value.agg #[.int .i64 0,.int .i64 0]).cells n++Builtin.zeroCells (Value.agg #[.int .i64 0,.int .i64 0]).cells (C - n))=cur at *
  have hpos:0 < (n:Int):=by omega
  have hn':(n:Int)≤1000000:=by omega
  have HRZ:=Lib.hid hrz
  have HGE:=Lib.hid hge
  have HLE:=Lib.hid hle
  have HCUR:=Lib.hid hcur
  clear hge hle hcur
  clear hold hrz hi hz0 hz1 hz2 h0
  go_enter Tryz.func363,Tryz.ntmps363
  go_wp2_with (at_builtin;refine Lib.wpList_append_run _ rfl _ _ _ _ rfl _ _ rfl rfl _ _ HRZ.out ?_)
  all_goals
   go_ret
   refine ⟨.slice (some ⟨w.heap.size,0,none⟩) 0 C,rfl,?_,(below_drewN (Below.refl _ w) 1).alloc (Nat.le_refl _) _⟩
   exact World.ownsRow_made w.drew cur C (Nat.le_refl _) HLE.out HCUR.out
def part2 (l1 l2:List Ext) (k:Nat):List Ext:=if k=0 then [] else if k=1 then l1 else l1++l2
theorem part2_len (l1 l2:List Ext) (k:Nat):(part2 l1 l2 k).length≤l1.length+l2.length:=by
 unfold part2
 split
 ·simp
 ·split <;> simp
def RowSaid (l:List Ext) (w:World) (e:Ending) (w':World):Prop:=∃ v,e=.returned v∧Hid (w'.ownsRow w.heap.size 186 2 v l.length (flatE l))∧Hid (Below w.heap.size w w')
set_option maxRecDepth 100000 in
set_option maxHeartbeats 2000000 in
theorem concatExt_any (G:Nat→Prop) (rb:Nat) (p1 p2:Option Addr) (c1 c2:Nat) (l1 l2:List Ext) (w:World) (h0:w.cell? ⟨rb,0,none⟩=some (.slice p1 l1.length c1)) (h1:w.cell? ⟨rb,1,none⟩=some (.slice p2 l2.length c2))
  (e1:ExtsAt G w (.slice p1 l1.length c1) l1) (e2:ExtsAt G w (.slice p2 l2.length c2) l2) (n1:l1.length≤100000) (n2:l2.length≤100000) :
  Calls Tryz.prog 325 #[.slice (some ⟨rb,0,none⟩) 2 2] w (RowSaid (l1++l2) w):=by
 obtain ⟨i0,hi,hz0,hz1,hz2⟩:=info_parts infoExt
 have hsz:∀ k,(part2 l1 l2 k).length≤200000:=fun k=>by have:=part2_len l1 l2 k;omega
 have q0:(part2 l1 l2 0).length=0:=rfl
 have q1:(part2 l1 l2 1).length=l1.length:=rfl
 have q2:(part2 l1 l2 2).length=l1.length+l2.length:=by simp [part2]
 have HE1:=Lib.hid e1
 have HE2:=Lib.hid e2
 have HSZ:=Lib.hid hsz
 have HQ0:=Lib.hid q0
 have HQ1:=Lib.hid q1
 have HQ2:=Lib.hid q2
 have HI:=Lib.hid hi
 have HZ0:=Lib.hid hz0
 have HZ1:=Lib.hid hz1
 have HZ2:=Lib.hid hz2
 clear e1 e2 hsz q0 q1 q2 hi hz0 hz1 hz2
 go_enter Tryz.func325,Tryz.ntmps325
 go_wp2_with fail
 go_loopw [3,11] (fun s i wr=>∃ k:Nat,k≤2∧i=.int .i64 k∧s=.int .i64 ((part2 l1 l2 k).length:Nat)∧wr=w) (fun _ i _=>2 - (intOf i).toNat)
 case atStart=>exact ⟨0,by omega,rfl,rfl,rfl⟩
 case round =>
  obtain ⟨k,hk,rfl,rfl,hww⟩:=hrel
  rw [hww]
  clear hww
  rcases (show k=0∨k=1∨k=2 by omega) with rfl | rfl | rfl
  ·rw [HQ0.out]
   go_wp2_with fail
   go_roundw
   case rel=>exact ⟨1,by omega,by go_num,by rw [HQ1.out],by first | rfl | trivial⟩
   case measure=>simp [intOf]
  ·rw [HQ1.out]
   have hw1:IntKind.i64.wrap ((l1.length:Int)+(l2.length:Int))=(l1.length:Int)+(l2.length:Int):=IntWalk.i64_in _ (by omega)
   go_wp2_with fail
   go_roundw
   case rel=>exact ⟨2,by omega,by go_num,by rw [HQ2.out];go_num,by first | rfl | trivial⟩
   case measure=>simp [intOf]
  ·have hq2:=HSZ.out 2
   generalize hnn:(part2 l1 l2 2).length=N at *
   have HNN:=Lib.hid hnn
   clear hnn
   go_wp2_with fail
   refine (growExt_nil N _ (by omega)).mono ?_
   rintro e w1 ⟨v1,rfl,hown1,hb1⟩
   have h01:=cell_up hb1 h0
   have h11:=cell_up hb1 h1
   have HOWN1:=Lib.hid hown1
   have HB1:=Lib.hid hb1
   clear hown1 hb1
   clear hq2
   go_wp2_with fail
   go_loopw [6,27] (fun vo i wr=>∃ k:Nat,k≤2∧i=.int .i64 k∧Hid (wr.ownsRow w.heap.size 186 2 vo (part2 l1 l2 k).length (flatE (part2 l1 l2 k)))∧Hid (Below w.heap.size w wr)) (fun _ i _=>2 - (intOf i).toNat)
   case atStart=>exact ⟨0,by omega,rfl,HOWN1.out,HB1.out⟩
   case round =>
    obtain ⟨k,hk,rfl,HO,HB⟩:=hrel
    have hc0:=cell_up HB.out h0
    have hc1:=cell_up HB.out h1
    clear h01 h11
    rcases (show k=0∨k=1∨k=2 by omega) with rfl | rfl | rfl
    ·have hsrc:=ExtsAt.up HE1.out HB.out
     have hsh:=HE1.out
     obtain ⟨_,_,hh,_,_,hp3,_⟩:=hsh
     cases hh
     obtain ⟨v',w',hr,hown',hgrow,hat⟩:=run_append_any (P:=Tryz.prog) wr 390 390 w.heap.size 186 i0 (.agg #[.int .i64 0,.int .i64 0]) 2 16 Tryz.underlying390 HI.out HZ0.out HZ1.out HZ2.out rfl (by decide) u6 _ _ HO.out p1 l1.length c1 (fun e=>by subst e;have:=hp3 rfl;omega) (flatE l1) (flatE_length l1) (fun a e=>by subst e;exact extsAt_news hsrc) (flatE_one l1) (by rw [HQ0.out];unfold maxLen;omega) (by rw [HQ0.out];omega) HB.out.size
     rw [HQ0.out,Nat.zero_add] at hown'
     have hb':=HB.out.grown hgrow HB.out.size (fun j hj=>(HO.out.lt j hj).1)
     have HOWN':=Lib.hid hown'
     have HB':=Lib.hid hb'
     have HR:=Lib.hid hr
     clear hown' hb' hr
     clear hp3 hsrc hgrow hat
     go_wp2_with (at_builtin;refine Lib.wpList_append_run _ rfl _ _ _ _ rfl _ _ rfl rfl _ _ HR.out ?_)
     go_roundw
     case rel=>exact ⟨1,by omega,by go_num,HOWN'.out,HB'.out⟩
     case measure=>simp [intOf]
    ·have hsrc:=ExtsAt.up HE2.out HB.out
     have hsh:=HE2.out
     obtain ⟨_,_,hh,_,_,hp3,_⟩:=hsh
     cases hh
     obtain ⟨v',w',hr,hown',hgrow,hat⟩:=run_append_any (P:=Tryz.prog) wr 390 390 w.heap.size 186 i0 (.agg #[.int .i64 0,.int .i64 0]) 2 16 Tryz.underlying390 HI.out HZ0.out HZ1.out HZ2.out rfl (by decide) u6 _ _ HO.out p2 l2.length c2 (fun e=>by subst e;have:=hp3 rfl;omega) (flatE l2) (flatE_length l2) (fun a e=>by subst e;exact extsAt_news hsrc) (flatE_one l2) (by rw [HQ1.out];unfold maxLen;omega) (by rw [HQ1.out];omega) HB.out.size
     rw [HQ1.out,← HQ2.out] at hown'
     have hfl:flatE (part2 l1 l2 1)++flatE l2=flatE (part2 l1 l2 2):=by rw [← flatE_append];rfl
     rw [hfl] at hown'
     have hb':=HB.out.grown hgrow HB.out.size (fun j hj=>(HO.out.lt j hj).1)
     have HOWN':=Lib.hid hown'
     have HB':=Lib.hid hb'
     have HR:=Lib.hid hr
     clear hown' hb' hr
     clear hp3 hsrc hgrow hat hfl
     go_wp2_with (at_builtin;refine Lib.wpList_append_run _ rfl _ _ _ _ rfl _ _ rfl rfl _ _ HR.out ?_)
     go_roundw
     case rel=>exact ⟨2,by omega,by go_num,by unfold Hid;rw [HNN.out];exact HOWN'.out,HB'.out⟩
     case measure=>simp [intOf]
    ·go_wp2_with fail
     go_ret
     exact ⟨_,rfl,HO.out,HB.out⟩
end Go.Proofs
namespace Go.Proofs
open Go.RowKit Sc
theorem meetsC_any (x e:Ext) (b:Nat) (W:World) (h0:W.cell? ⟨b,0,none⟩=some (.int .i64 e.first)) (h1:W.cell? ⟨b,1,none⟩=some (.int .i64 e.len)) (hx:Sml x) (he:Sml e) :
  Calls Tryz.prog 408 #[extV x,.pointer (some ⟨b,0,none⟩)] W fun r w'=>r=.returned (.bool (meetB x e))∧Below W.heap.size W w':=by
 have hb0:=below_alloc W (.cells #[.int .i64 x.first,.int .i64 x.len] 186)
 have h0':=cell_up hb0 h0
 have h1':=cell_up hb0 h1
 have HB0:=Lib.hid hb0
 clear hb0
 clear h0 h1
 go_enter Tryz.func408,Tryz.ntmps408
 go_wp2_with fail
 refine (meet_any x e _ hx he).mono ?_
 rintro r w1 ⟨rfl,hb1⟩
 have hb2:=Below.up HB0.out hb1
 have HB1:=Lib.hid hb1
 have HB2:=Lib.hid hb2
 clear hb1 hb2
 go_wp2
 go_ret
 exact ⟨rfl,HB2.out⟩
def meetsB (l:List Ext) (e:Ext):Bool:=mayB e && l.any fun x=>meetB x e
set_option maxHeartbeats 400000 in
theorem setMeets_any (F:Nat→Prop) (v:Value) (most:Int) (l:List Ext) (e:Ext) (w:World) (h:SetIs F w v most l) (hs:∀ x∈l,Oke x) (i1:I64 e.first) (i2:I64 e.len) :
  Calls Tryz.prog 399 #[v,extV e] w fun r w'=>r=.returned (.bool (meetsB l e))∧Below w.heap.size w w':=by
 have hb0:=below_alloc w (.cells #[.int .i64 e.first,.int .i64 e.len] 186)
 have he0:(w.alloc (.cells #[.int .i64 e.first,.int .i64 e.len] 186)).cell? ⟨w.heap.size,0,none⟩=some (.int .i64 e.first):=by rw [cell_row (heap_alloc_new w _)];rfl
 have he1:(w.alloc (.cells #[.int .i64 e.first,.int .i64 e.len] 186)).cell? ⟨w.heap.size,1,none⟩=some (.int .i64 e.len):=by rw [cell_row (heap_alloc_new w _)];rfl
 obtain ⟨b,p,c,rfl,_,hb,hc0,hc1,hx⟩:=(h.up hb0).cells
 have HB0:=Lib.hid hb0
 have HX:=Lib.hid hx
 have HS:=Lib.hid hs
 clear hb0 hx hs
 clear h
 cases hq:mayB e with
 | false =>
  have hm:meetsB l e=false:=by unfold meetsB;rw [hq];rfl
  have HM:=Lib.hid hm
  have HQ:=Lib.hid hq
  clear hm hq
  clear he0 he1
  go_enter Tryz.func399,Tryz.ntmps399
  go_wp2_with fail
  refine (may_any e _ i1 i2).mono ?_
  rintro r w1 ⟨rfl,hb1⟩
  rw [HQ.out]
  have hb2:=Below.up HB0.out hb1
  have HB1:=Lib.hid hb1
  have HB2:=Lib.hid hb2
  clear hb1 hb2
  go_wp2
  go_ret
  exact ⟨congrArg boolRet HM.out.symm,HB2.out⟩
 | true =>
  have hm:meetsB l e=l.any fun x=>meetB x e:=by unfold meetsB;rw [hq];rfl
  have hsm:=mayB_sml hq
  have HM:=Lib.hid hm
  have HQ:=Lib.hid hq
  have HSM:=Lib.hid hsm
  clear hm hq hsm
  go_enter Tryz.func399,Tryz.ntmps399
  go_wp2_with fail
  refine (may_any e _ i1 i2).mono ?_
  rintro r w1 ⟨rfl,hb1⟩
  rw [HQ.out]
  have hc11:=cell_up hb1 hc1
  have hd0:=cell_up hb1 he0
  have hd1:=cell_up hb1 he1
  have hb2:=Below.up HB0.out hb1
  have hx1:=ExtsAt.up HX.out hb1
  have HB1:=Lib.hid hb1
  have HB2:=Lib.hid hb2
  have HX1:=Lib.hid hx1
  have HD0:=Lib.hid hd0
  have HD1:=Lib.hid hd1
  clear hb1 hb2 hx1 hd0 hd1
  clear hc0 hc1 he0 he1
  go_wp2_with fail
  refine (anyExt_any F _ l (fun x=>meetB x e) 408 #[.pointer (some ⟨w.heap.size,0,none⟩)] (by go_simp) _ HX1.out (fun i hi W hW=>meetsC_any l[i] e w.heap.size W (cell_up hW HD0.out) (cell_up hW HD1.out) (HS.out _ (List.getElem_mem hi)).sml HSM.out)).mono ?_
  rintro r w2 ⟨rfl,hb3⟩
  have hb4:=Below.up HB2.out hb3
  have HB3:=Lib.hid hb3
  have HB4:=Lib.hid hb4
  clear hb3 hb4
  go_wp2
  go_ret
  exact ⟨congrArg boolRet HM.out.symm,HB4.out⟩
def hasB (l:List Ext) (x:Int):Bool:=meetsB l ⟨x,1⟩
theorem setHas_any (F:Nat→Prop) (v:Value) (most:Int) (l:List Ext) (x:Int) (w:World) (h:SetIs F w v most l) (hs:∀ x∈l,Oke x) (i1:I64 x) :
  Calls Tryz.prog 385 #[v,.int .i64 x] w fun r w'=>r=.returned (.bool (hasB l x))∧Below w.heap.size w w':=by
 have hme:=setMeets_any F v most l ⟨x,1⟩ w h hs i1 (by unfold I64;simp only;omega)
 obtain ⟨b,p,c,rfl,_⟩:=h.cells
 have HME:=Lib.hid hme
 clear hme
 clear h
 go_enter Tryz.func385,Tryz.ntmps385
 go_wp2_with fail
 refine (HME.out).mono ?_
 rintro r w1 ⟨rfl,hb1⟩
 have HB1:=Lib.hid hb1
 clear hb1
 go_wp2
 go_ret
 exact ⟨rfl,HB1.out⟩
def addCode (most:Int) (l0 l:List Ext):Int:=if allB l=false then 1 else if l=[] then 0 else if most < ((normE (l0++l)).length:Int) then 7 else 0
def addNext (most:Int) (l0 l:List Ext):List Ext:=if addCode most l0 l=0 then normE (l0++l) else l0
theorem allB_mem {l:List Ext} (h:allB l=true):∀ e∈l,mayB e=true:=by unfold allB at h;rwa [List.all_eq_true] at h
def AddSaid (F:Nat→Prop) (v:Value) (most:Int) (l0 l:List Ext) (w:World) (r:Ending) (w':World):Prop :=
 r=.returned (.int .i64 (addCode most l0 l))∧Chg F w w'∧SetIs (fun k=>F k∨New w w' k) w' v most (addNext most l0 l)
theorem SetIs.more {F:Nat→Prop} {w w':World} {v:Value} {most:Int} {l:List Ext} (h:SetIs F w v most l) (hb:Below w.heap.size w w'):SetIs (fun k=>F k∨New w w' k) w' v most l:=by
 obtain ⟨⟨b,sv,h1,h2,h3,h4⟩,hd⟩:=h.up hb
 refine ⟨⟨b,sv,h1,.inl h2,h3,SlAt.mono h4 (fun _ h=>.inl h) (fun _ _ _ h=>h)⟩,fun k hk=>hk.elim (hd k) fun h=>h.2⟩
theorem normE_self {l:List Ext} (h:Canon l):normE (l++[])=l:=by
 rw [List.append_nil]
 exact normE_ext h.1 h fun _=>Iff.rfl
set_option maxRecDepth 100000 in
set_option maxHeartbeats 2000000 in
theorem setAdd_any (F G:Nat→Prop) (v lv:Value) (most:Int) (l0 l:List Ext) (w:World) (h:SetIs F w v most l0) (hl:ExtsAt G w lv l) (ho:∀ e∈l0,Oke e) (hc:Canon l0) (n0:l0.length≤50000) (n1:l.length≤50000) :
  Calls Tryz.prog 266 #[v,lv] w (AddSaid F v most l0 l w):=by
 have H:=Lib.hid hl
 have HS:=Lib.hid h
 obtain ⟨p,c,rfl⟩:=extsAt_shape hl
 obtain ⟨b,p0,c0,rfl,hFb,hb,hc0,hc1,hx⟩:=h.cells
 have hheap:=h.out
 clear hl
 cases hq:allB l with
 | false =>
  have hcode:addCode most l0 l=1:=by unfold addCode;rw [if_pos hq]
  have hnext:addNext most l0 l=l0:=by unfold addNext;rw [if_neg (by rw [hcode];decide)]
  have HQ:=Lib.hid hq
  have HCODE:=Lib.hid hcode
  have HNEXT:=Lib.hid hnext
  clear hq hcode hnext
  clear hx hheap
  go_enter Tryz.func266,Tryz.ntmps266
  go_wp2_with fail
  refine (all_any G _ l _ H.out).mono ?_
  rintro r w1 ⟨rfl,hb1⟩
  rw [HQ.out]
  have HB1:=Lib.hid hb1
  clear hb1
  go_wp2
  go_ret
  refine ⟨?_,Chg.of_below HB1.out (fun k h1 h2=>by omega),?_⟩
  ·rw [HCODE.out];rfl
  ·rw [HNEXT.out];exact HS.out.more HB1.out
 | true =>
  by_cases hn:l=[]
  ·subst hn
   have hcode:addCode most l0 []=0:=by unfold addCode;rw [if_neg (by rw [hq];decide),if_pos rfl]
   have hnext:addNext most l0 []=l0:=by unfold addNext;rw [if_pos hcode,normE_self hc]
   have HQ:=Lib.hid hq
   have HCODE:=Lib.hid hcode
   have HNEXT:=Lib.hid hnext
   clear hq hcode hnext
   clear hx hheap
   go_enter Tryz.func266,Tryz.ntmps266
   go_wp2_with fail
   refine (all_any G _ [] _ H.out).mono ?_
   rintro r w1 ⟨rfl,hb1⟩
   rw [HQ.out]
   have HB1:=Lib.hid hb1
   clear hb1
   go_wp2
   go_ret
   refine ⟨?_,Chg.of_below HB1.out (fun k h1 h2=>by omega),?_⟩
   ·rw [HCODE.out];rfl
   ·rw [HNEXT.out];exact HS.out.more HB1.out
  ·have hlen:((l.length:Nat):Int)≠0:=by have:=List.length_pos_iff.2 hn;omega
   have hl0:((l.length:Int) == 0)=false:=by rw [beq_eq_false_iff_ne];exact hlen
   have hall:∀ e∈l0++l,Oke e:=fun e he=>(List.mem_append.1 he).elim (ho e) fun h=>mayB_oke (allB_mem hq e h)
   have hcd:addCode most l0 l=if most < ((normE (l0++l)).length:Int) then 7 else 0:=by unfold addCode;rw [if_neg (by rw [hq];decide),if_neg hn]
   have HQ:=Lib.hid hq
   have HCD:=Lib.hid hcd
   have HALL:=Lib.hid hall
   have HX:=Lib.hid hx
   have HHEAP:=Lib.hid hheap
   clear hq hcd hall hx hheap
   clear hlen
   go_enter Tryz.func266,Tryz.ntmps266
   go_wp2_with fail
   refine (all_any G _ l _ H.out).mono ?_
   rintro r w1 ⟨rfl,hb1⟩
   rw [HQ.out]
   have hc11:=cell_up hb1 hc1
   have hc01:=cell_up hb1 hc0
   have hx1:=(ExtsAt.up HX.out hb1)
   have hl1:=ExtsAt.up H.out hb1
   have HB1:=Lib.hid hb1
   have HX1:=Lib.hid hx1
   have HL1:=Lib.hid hl1
   clear hb1 hx1 hl1
   clear hc0 hc1
   have hA:=below_alloc w1 (.cells #[.slice p0 l0.length c0,.slice p l.length c] 390)
   have hr0:(w1.alloc (.cells #[.slice p0 l0.length c0,.slice p l.length c] 390)).cell? ⟨w1.heap.size,0,none⟩=some (.slice p0 l0.length c0):=by rw [cell_row (heap_alloc_new w1 _)];rfl
   have hr1:(w1.alloc (.cells #[.slice p0 l0.length c0,.slice p l.length c] 390)).cell? ⟨w1.heap.size,1,none⟩=some (.slice p l.length c):=by rw [cell_row (heap_alloc_new w1 _)];rfl
   have hcon:=concatExt_any (fun _=>True) w1.heap.size p0 p c0 c l0 l _ hr0 hr1 (SlAt.mono (ExtsAt.up HX1.out hA) (fun _ _=>trivial) (fun _ _ _ h=>h)) (SlAt.mono (ExtsAt.up HL1.out hA) (fun _ _=>trivial) (fun _ _ _ h=>h)) (by omega) (by omega)
   have hB:=cell_up hA hc11
   have hC:=cell_up hA hc01
   have hD:=Below.up HB1.out hA
   have hlll:(l0++l).length≤100000:=by simp;omega
   generalize hll:l0++l=ll at *
   have HA:=Lib.hid hA
   have HCON:=Lib.hid hcon
   have HB:=Lib.hid hB
   have HC:=Lib.hid hC
   have HD:=Lib.hid hD
   have HLL:=Lib.hid hll
   clear hA hcon hB hC hD hll
   clear hr0 hr1 hc01
   go_wp2_with fail
   refine (HCON.out).mono ?_
   rintro r w2 ⟨v2,rfl,HO2,HB2⟩
   have hx2:=row_extsAt (fun _=>True) rfl (fun e he=>by have:=HALL.out e he;unfold Oke at this;unfold I64;omega) (fun _ _ _=>trivial) HO2.out
   obtain ⟨p2,c2,rfl⟩:=extsAt_shape hx2
   have hB2:=cell_up HB2.out HB.out
   have hC2:=cell_up HB2.out HC.out
   have hD2:=Below.up HD.out HB2.out
   have HX2:=Lib.hid hx2
   have HD2:=Lib.hid hD2
   clear hx2 hD2
   go_wp2_with fail
   refine (joined_any _ _ ll _ HX2.out HALL.out hlll).mono ?_
   rintro r w3 ⟨v3,rfl,ho3,hb3⟩
   have hnoke:=normE_oke HALL.out
   have hx3:=row_extsAt (New w w3) rfl (fun e he=>by have:=hnoke e he;unfold Oke at this;unfold I64;omega) (fun k h1 h2=>⟨by have:=HD2.out.size;omega,h2⟩) ho3
   have hD3:=Below.up HD2.out hb3
   have hB3:=cell_up hb3 hB2
   have hC3:=cell_up hb3 hC2
   generalize hxx:normE ll=x at *
   obtain ⟨p3,c3,rfl⟩:=extsAt_shape hx3
   have HX3:=Lib.hid hx3
   have HD3:=Lib.hid hD3
   have HNOKE:=Lib.hid hnoke
   have HXX:=Lib.hid hxx
   clear hx3 hD3 hnoke hxx
   clear ho3 hb3 hB2 hC2 hc11
   by_cases hbig:most < (x.length:Int)
   ·have hcode:addCode most l0 l=7:=by rw [HCD.out,if_pos hbig]
    have hnext:addNext most l0 l=l0:=by unfold addNext;rw [if_neg (by rw [hcode];decide)]
    have HCODE:=Lib.hid hcode
    have HNEXT:=Lib.hid hnext
    clear hcode hnext
    go_wp2_with fail
    go_ret
    refine ⟨?_,Chg.of_below HD3.out (fun k h1 h2=>by omega),?_⟩
    ·rw [HCODE.out];rfl
    ·rw [HNEXT.out];exact HS.out.more HD3.out
   ·have hcode:addCode most l0 l=0:=by rw [HCD.out,if_neg hbig]
    have hnext:addNext most l0 l=x:=by unfold addNext;rw [if_pos hcode,HLL.out,HXX.out]
    have hbig':(x.length:Int)≤most:=by omega
    obtain ⟨b',sv,he,_,hh,hsv⟩:=HHEAP.out
    cases he
    have hfz:w3.frozen? ⟨b,1,none⟩=false:=by rw [HD3.out.frozen (p:=⟨b,1,none⟩) hb];exact fz_row hh 1
    have hh3:w3.heap[b]? = some (.cells #[.int .i64 most,sv] 392 (0,0)):=by rw [HD3.out.block b hb];exact hh
    have HCODE:=Lib.hid hcode
    have HNEXT:=Lib.hid hnext
    have HH:=Lib.hid hh
    have HH3:=Lib.hid hh3
    have HSV:=Lib.hid hsv
    clear hcode hnext hh hh3 hsv
    clear hbig
    go_wp2_with fail
    go_ret
    have hdz:=HD3.out.size
    refine ⟨?_,?_,?_⟩
    ·rw [HCODE.out];rfl
    ·exact (Chg.of_below HD3.out (fun k h1 h2=>by omega)).trans (chg_set w3 b 1 _ hFb)
    ·rw [HNEXT.out]
     refine ⟨⟨b,.slice p3 x.length c3,rfl,.inl hFb,by rw [heap_set_same HH3.out];rfl,?_⟩,fun k hk=>?_⟩
     ·refine SlAt.mono (ExtsAt.same HX3.out (w':=w3.setCell ⟨b,1,none⟩ (.slice p3 x.length c3)) fun k hk=>?_) (fun k hk=>.inr ?_) (fun _ _ _ h=>h)
      ·exact Below.heap_setCell _ _ _ k (fun e=>by have:=hk.1;simp at e;omega)
      ·exact ⟨hk.1,by have:=hk.2;simpa [World.setCell] using this⟩
     ·rcases hk with hk | hk
      ·have:=HS.out.dom k hk
       simp [World.setCell];omega
      ·exact hk.2
end Go.Proofs
namespace Go.Proofs
open Go.RowKit Sc
def SetG (l:List Ext):Prop:=Canon l∧∀ e∈l,Oke e
theorem SetG.nil:SetG []:=⟨Canon.nil,by simp⟩
theorem addOke {l0 l:List Ext} (h:SetG l0) (ha:allB l=true):∀ e∈l0++l,Oke e:=fun e he=>(List.mem_append.1 he).elim (h.2 e) fun h=>mayB_oke (allB_mem ha e h)
theorem addCode_may {most:Int} {l0 l:List Ext} (h:addCode most l0 l=0):allB l=true:=by
 unfold addCode at h
 cases hq:allB l with
 | true=>rfl
 | false=>rw [if_pos hq] at h;cases h
theorem normE_good' {l:List Ext} (h:∀ e∈l,Oke e):SetG (normE l)∧(∀ x,cov (normE l) x↔cov l x)∧(normE l).length≤l.length:=by
 obtain ⟨h1,h2,h3,_⟩:=normE_good (fun e he=>(h e he).2.2.1)
 exact ⟨⟨h1,normE_oke h⟩,h2,h3⟩
theorem addNext_good {most:Int} {l0 l:List Ext} (h:SetG l0):SetG (addNext most l0 l):=by
 unfold addNext
 split
 ·rename_i hc
  exact (normE_good' (addOke h (addCode_may hc))).1
 ·exact h
theorem addNext_cov {most:Int} {l0 l:List Ext} (h:SetG l0) (hc:addCode most l0 l=0) (x:Int):cov (addNext most l0 l) x↔cov l0 x∨cov l x:=by
 unfold addNext
 rw [if_pos hc,(normE_good' (addOke h (addCode_may hc))).2.1,cov_append]
theorem addCode_is {most:Int} {l0 l m:List Ext} (_h:SetG l0) (ha:allB l=true) (hn:l≠[]) (hm:normE (l0++l)=m):addCode most l0 l=(if most < (m.length:Int) then 7 else 0)∧addNext most l0 l=if most < (m.length:Int) then l0 else m:=by
 have h1:addCode most l0 l=if most < (m.length:Int) then 7 else 0:=by unfold addCode;rw [if_neg (by rw [ha];decide),if_neg hn,hm]
 refine ⟨h1,?_⟩
 unfold addNext
 rw [h1,hm]
 by_cases hb:most < (m.length:Int)
 ·rw [if_pos hb,if_pos hb,if_neg (by decide)]
 ·rw [if_neg hb,if_neg hb,if_pos rfl]
theorem setNew_sep {W w:World} {L:List Asn} (h:Sep W L w) (n:Int) :
  Calls Tryz.prog 264 #[.int .i64 n] w fun e w'=>∃ b:Nat,e=.returned (.pointer (some ⟨b,0,none⟩))∧Hid (Sep W (L++[SetA (.pointer (some ⟨b,0,none⟩)) n []]) w'):=by
 refine (setNew_any n w).mono ?_
 rintro e w' ⟨b,rfl,hm,hb⟩
 exact ⟨b,rfl,h.new hb (SetA _ n []) (fun _ h=>h) hm⟩
theorem setAdd_sep {W w:World} {L:List Asn} (h:Sep W L w) (i:Nat) {v lv:Value} {most:Int} {l0:List Ext} (hi:L[i]? = some (SetA v most l0)) (l:List Ext) (hl:ExtsAt (fun _=>True) w lv l) (hg:SetG l0) (n0:l0.length≤50000) (n1:l.length≤50000) :
  Calls Tryz.prog 266 #[v,lv] w fun e w'=>e=.returned (.int .i64 (addCode most l0 l))∧Hid (Sep W (L.set i (SetA v most (addNext most l0 l))) w'):=by
 obtain ⟨F,G,hF,hR,hFG,hdF,hdG,K⟩:=h.at i hi
 refine (setAdd_any F _ v lv most l0 l w hF hl hg.2 hg.1 n0 n1).mono ?_
 rintro e w' ⟨rfl,hc,hm⟩
 exact ⟨rfl,K w' _ (SetA v most (addNext most l0 l)) hc (fun k hk=>hk) hm⟩
theorem exts_one (w:World) (a n:Int) (ha:I64 a) (hn:I64 n):ExtsAt (fun _=>True) (w.alloc (.cells #[.int .i64 a,.int .i64 n] 186)) (.slice (some ⟨w.heap.size,0,none⟩) 1 1) [⟨a,n⟩]:=by
 refine ⟨_,1,rfl,Nat.le_refl _,by omega,(by intro h;cases h),fun i hi=>?_⟩
 simp only [List.length_cons,List.length_nil] at hi
 obtain rfl:i=0:=by omega
 exact ⟨w.heap.size,0,rfl,trivial,by rw [cell_row (heap_alloc_new w _)];rfl,by rw [cell_row (heap_alloc_new w _)];rfl,ha,hn⟩
theorem i64_small {n:Int} (h:-1000000000≤n∧n≤1000000000):I64 n:=by unfold I64;omega
theorem setAdd_one {W w:World} {L:List Asn} (h:Hid (Sep W L w)) (i:Nat) {v:Value} {most:Int} {l0:List Ext} (hi:L[i]? = some (SetA v most l0)) (a n:Int) (ia:I64 a) (inn:I64 n) (hg:SetG l0) (n0:l0.length≤50000) :
  Calls Tryz.prog 266 #[v,.slice (some ⟨w.heap.size,0,none⟩) 1 1] (w.alloc (.cells #[.int .i64 a,.int .i64 n] 186)) fun e w'=>e=.returned (.int .i64 (addCode most l0 [⟨a,n⟩]))∧Hid (Sep W (L.set i (SetA v most (addNext most l0 [⟨a,n⟩]))) w') :=
 setAdd_sep (h.out.up (below_alloc w _)) i hi [⟨a,n⟩] (exts_one w a n ia inn) hg n0 (by simp)
theorem setAdd_at {W w:World} {L:List Asn} (h:Hid (Sep W L w)) (i:Nat) {v:Value} {most:Int} {l0:List Ext} (hi:L[i]? = some (SetA v most l0)) (a n:Int) (ia:I64 a) (inn:I64 n) (hg:SetG l0) (n0:l0.length≤50000) (g:Nat) (hgg:w.heap.size=g) :
  Calls Tryz.prog 266 #[v,.slice (some ⟨g,0,none⟩) 1 1] (w.alloc (.cells #[.int .i64 a,.int .i64 n] 186)) fun e w'=>e=.returned (.int .i64 (addCode most l0 [⟨a,n⟩]))∧Hid (Sep W (L.set i (SetA v most (addNext most l0 [⟨a,n⟩]))) w'):=by
 subst hgg
 exact setAdd_one h i hi a n ia inn hg n0
theorem setExtents_sep {W w:World} {L:List Asn} (h:Hid (Sep W L w)) (i:Nat) {v:Value} {most:Int} {l:List Ext} (hi:L[i]? = some (SetA v most l)) (hl:l.length≤1000000) :
  Calls Tryz.prog 365 #[v] w fun e w'=>∃ p c,e=.returned (.slice p l.length c)∧Hid (ExtsAt (New w w') w' (.slice p l.length c) l)∧Hid (Below w.heap.size w w')∧Hid (Sep W L w'):=by
 obtain ⟨F,hF,_⟩:=h.out.get i hi
 refine (setExtents_any F v most l w hF hl).mono ?_
 rintro e w' ⟨p,c,rfl,hx,hb⟩
 exact ⟨p,c,rfl,hx,hb,h.out.up hb⟩
end Go.Proofs
namespace Go.Proofs
open Go.RowKit Sc
def readR (D:Nat→Prop) (w:World) (cs:List Value) (x:Sc.Read):Prop:=∃ dv,cs=[.int .i64 x.lba,dv,.bool x.own]∧I64 x.lba∧BytesAt D w dv x.data
theorem readR_stable:RStable readR:=fun _ _ _ _ _ _ hd hs ⟨dv,h1,h2,h3⟩=>⟨dv,h1,h2,(h3.same hs).mono hd⟩
def ViewP (v mp bp:Value) (at_:Int) (sp:Value) (R:List Sc.Read) (F:Nat→Prop) (w:World):Prop :=
 ∃ b rv D,v=.pointer (some ⟨b,0,none⟩)∧F b∧w.heap[b]? = some (.cells #[mp,bp,.int .i64 at_,sp,rv] 250 (0,0))∧OutS 42 3 readR 0 w rv R D∧(∀ g,rv.ownBlock=some g→F g∧g≠b)∧(∀ q,D q→F q∧q≠b)
def ViewA (v mp bp:Value) (at_:Int) (sp:Value) (R:List Sc.Read):Asn:=⟨fun F w=>ViewP v mp bp at_ sp R F w,fun _ _ _ hs hz ⟨b,rv,D,h1,h2,h3,h4,h5,h6⟩ =>
 ⟨b,rv,D,h1,h2,(hs b h2).trans h3,h4.same readR_stable hs hz (fun g hg=>(h5 g hg).1) (fun q hq=>(h6 q hq).1),h5,h6⟩⟩
def DatumA (v:Value) (d:Bytes):Asn:=⟨fun F w=>BytesAt F w v d,fun _ _ _ hs _ h=>h.same hs⟩
theorem Sep.view_cells {W w:World} {L:List Asn} (h:Sep W L w) (i:Nat) {v mp bp sp:Value} {at_:Int} {R:List Sc.Read} (hi:L[i]? = some (ViewA v mp bp at_ sp R)) :
  ∃ b rv,v=.pointer (some ⟨b,0,none⟩)∧b < w.heap.size∧w.heap[b]? = some (.cells #[mp,bp,.int .i64 at_,sp,rv] 250 (0,0))∧(∃ p c,rv=.slice p R.length c):=by
 obtain ⟨F,⟨b,rv,D,h1,h2,h3,h4,_⟩,hd⟩:=h.get i hi
 obtain ⟨css,_,_,h5,_⟩:=h4
 refine ⟨b,rv,h1,hd b h2,h3,?_⟩
 obtain ⟨_,⟨rfl,hl⟩ | ⟨g,cap,_,rfl,_⟩⟩:=h5
 ·exact ⟨none,0,by rw [hl]⟩
 ·exact ⟨_,_,rfl⟩
theorem Sep.view_push {W w:World} {L:List Asn} (h:Sep W L w) (i j:Nat) (hij:i≠j) {b:Nat} {mp bp sp dv:Value} {at_:Int} {R:List Sc.Read} {d:Bytes} (hi:L[i]? = some (ViewA (.pointer (some ⟨b,0,none⟩)) mp bp at_ sp R)) (hj:L[j]? = some (DatumA dv d)) :
  ∃ (rv:Value) (css:List (List Value)),w.heap[b]? = some (.cells #[mp,bp,.int .i64 at_,sp,rv] 250 (0,0))∧b < w.heap.size∧w.ownsRow 0 42 3 rv R.length css.flatten∧rv.ownBlock≠some b ∧
   ∀ (w3:World) (g c:Nat) (n:Int) (own:Bool),I64 n →
    w3.ownsRow 0 42 3 (.slice (some ⟨g,0,none⟩) (R.length+1) c) (R.length+1) (css.flatten++[.int .i64 n,dv,.bool own])→(w.alloc (.cells #[.int .i64 n,dv,.bool own] 42)).grownBy w3 rv.ownBlock→(rv.ownBlock=some g∨g=w.heap.size+1)→g < w3.heap.size →
    Sep W ((L.set j TrueA).set i (ViewA (.pointer (some ⟨b,0,none⟩)) mp bp at_ sp (R++[⟨n,d,own⟩]))) (w3.setCell ⟨b,4,none⟩ (.slice (some ⟨g,0,none⟩) (R.length+1) c)):=by
 obtain ⟨F,F2,G,hA,hB,hF12,_,_,hdF,hdF2,_,K⟩:=h.both i j hij hi hj
 obtain ⟨b',rv,D,hv,hFb,hh,⟨css,q1,q2,q3,q4,q5⟩,ho,hD⟩:=hA
 cases hv
 refine ⟨rv,css,hh,hdF b hFb,q3,fun e=>(ho b e).2 rfl,fun w3 g c n own hn hown hg hat hlt=>?_⟩
 have hbl:=hdF b hFb
 have hb1:=below_alloc w (.cells #[.int .i64 n,dv,.bool own] 42)
 have hsz:(w.alloc (.cells #[.int .i64 n,dv,.bool own] 42)).heap.size=w.heap.size+1:=by simp
 have hsn:OutS 42 3 readR 0 w3 (.slice (some ⟨g,0,none⟩) (R.length+1) c) (R++[⟨n,d,own⟩]) (fun q=>D q∨F2 q):=by
  refine OutS.snoc (v:=rv) (w:=w.alloc (.cells #[.int .i64 n,dv,.bool own] 42)) (D3:=F2) readR_stable q1 q2 ?_ ?_ (cs:=[.int .i64 n,dv,.bool own]) (x:=⟨n,d,own⟩) rfl ⟨_,rfl,hn,BytesAt.up hB hb1⟩ ?_ hown hg (by rw [hsz];exact hat)
  ·exact fun a b c=>readR_stable _ _ _ _ _ _ (fun _ h=>h) (fun q hq=>hb1.block q (q5 q hq).2.1) (q4 a b c)
  ·exact fun q hq=>⟨Nat.zero_le _,by have:=(q5 q hq).2.1;omega,(q5 q hq).2.2⟩
  ·exact fun q hq=>⟨Nat.zero_le _,by have:=hdF2 q hq;omega,fun e=>hF12 q (ho q e).1 hq⟩
 have hgb:g≠b:=by
  rcases hat with h | h
  ·exact (ho g h).2
  ·omega
 have hbo:rv.ownBlock≠some b:=fun e=>(ho b e).2 rfl
 have hh3:w3.heap[b]? = some (.cells #[mp,bp,.int .i64 at_,sp,rv] 250 (0,0)):=by
  rw [hg.block b (by rw [hsz];omega) (fun e=>hbo e.symm),hb1.block b hbl];exact hh
 have hsame:Same (fun q=>q≠b) w3 (w3.setCell ⟨b,4,none⟩ (.slice (some ⟨g,0,none⟩) (R.length+1) c)):=fun q hq=>Below.heap_setCell _ _ _ q hq
 have hz4:(w3.setCell ⟨b,4,none⟩ (.slice (some ⟨g,0,none⟩) (R.length+1) c)).heap.size=w3.heap.size:=by simp [World.setCell]
 have hgz:=hg.size
 refine K _ (fun q=>(F q∨F2 q)∨New w (w3.setCell ⟨b,4,none⟩ (.slice (some ⟨g,0,none⟩) (R.length+1) c)) q) (ViewA (.pointer (some ⟨b,0,none⟩)) mp bp at_ sp (R++[⟨n,d,own⟩])) ?_ (fun q hq=>hq) ?_
 ·exact (Chg.after_up hb1 (chg_grown hg fun q hq=>.inl (ho q hq).1)).trans (chg_set w3 b 4 _ (.inl hFb))
 ·refine ⟨b,.slice (some ⟨g,0,none⟩) (R.length+1) c,fun q=>D q∨F2 q,rfl,.inl (.inl hFb),by rw [heap_set_same hh3];rfl,?_,?_,?_⟩
  ·have:=hsn.same (F:=fun q=>q≠b) readR_stable hsame (by rw [hz4];exact Nat.le_refl _) (fun q hq=>by
    obtain rfl:g=q:=by simpa [Value.ownBlock] using hq
    exact hgb) (fun q hq=>by
    rcases hq with hq | hq
    ·exact (hD q hq).2
    ·exact fun e=>hF12 b hFb (e ▸ hq))
   have hl:(R++[(⟨n,d,own⟩:Sc.Read)]).length=R.length+1:=by simp
   rw [← hl] at this ⊢
   exact this
  ·intro q hq
   obtain rfl:g=q:=by simpa [Value.ownBlock] using hq
   refine ⟨?_,hgb⟩
   rcases hat with h | h
   ·exact .inl (.inl (ho g h).1)
   ·exact .inr ⟨by omega,by rw [hz4];exact hlt⟩
  ·rintro q (hq | hq)
   ·exact ⟨.inl (.inl (hD q hq).1),(hD q hq).2⟩
   ·exact ⟨.inl (.inr hq),fun e=>hF12 b hFb (e ▸ hq)⟩
theorem viewNew_sep {W w:World} {L:List Asn} (h:Sep W L w) (m b:Nat) (t:Int) :
  Calls Tryz.prog 217 #[.pointer (some ⟨m,0,none⟩),.pointer (some ⟨b,0,none⟩),.int .i64 t] w fun e w'=>∃ s v:Nat,e=.returned (.pointer (some ⟨v,0,none⟩))∧Hid (Below w.heap.size w w') ∧
   Hid (Sep W (L++[SetA (.pointer (some ⟨s,0,none⟩)) 64 [],ViewA (.pointer (some ⟨v,0,none⟩)) (.pointer (some ⟨m,0,none⟩)) (.pointer (some ⟨b,0,none⟩)) t (.pointer (some ⟨s,0,none⟩)) []]) w'):=by
 have H:=Lib.hid h
 clear h
 go_enter Tryz.func217,Tryz.ntmps217
 go_wp2_with fail
 refine (setNew_any 64 w).mono ?_
 rintro e w1 ⟨s,rfl,hm,hb1⟩
 have hS1:=H.out.new hb1 (SetA _ 64 []) (fun _ h=>h) hm
 have hS2:=hS1.new (below_alloc w1 (.cells #[.pointer (some ⟨m,0,none⟩),.pointer (some ⟨b,0,none⟩),.int .i64 t,.pointer (some ⟨s,0,none⟩),.slice none 0 0] 250)) (ViewA (.pointer (some ⟨w1.heap.size,0,none⟩)) (.pointer (some ⟨m,0,none⟩)) (.pointer (some ⟨b,0,none⟩)) t (.pointer (some ⟨s,0,none⟩)) []) (F:=New w1 (w1.alloc (.cells #[.pointer (some ⟨m,0,none⟩),.pointer (some ⟨b,0,none⟩),.int .i64 t,.pointer (some ⟨s,0,none⟩),.slice none 0 0] 250))) (fun _ h=>h)
  ⟨w1.heap.size,.slice none 0 0,fun _=>False,rfl,⟨Nat.le_refl _,by simp⟩,heap_alloc_new w1 _,OutS.nil,by simp [Value.ownBlock],fun _ h=>h.elim⟩
 have hbb:=Below.up hb1 (below_alloc w1 (.cells #[.pointer (some ⟨m,0,none⟩),.pointer (some ⟨b,0,none⟩),.int .i64 t,.pointer (some ⟨s,0,none⟩),.slice none 0 0] 250))
 have HS2:=Lib.hid hS2
 have HBB:=Lib.hid hbb
 clear hS2 hbb
 clear hS1 hm hb1
 go_wp2
 go_ret
 refine ⟨s,w1.heap.size,rfl,HBB.out,?_⟩
 have:=HS2.out
 rw [List.append_assoc] at this
 exact this
end Go.Proofs
namespace Sc
open Go Go.RowKit Go.ChangeMaps Go.ChangeShapes Go.WideShapes Go.MapKept
def unp (x:MapEntry):Int × Value:=(Go.RowKit.intOf x.key,x.val)
structure Stepped (it:Nat) (w w':World):Prop where
 os:w'.os=w.os
 tape:w'.tape=w.tape
 output:w'.output=w.output
 size:w'.heap.size=w.heap.size
 block:∀ k,k≠it→w'.heap[k]? = w.heap[k]?
 cell:∀ a,w'.cell? a=w.cell? a
 frozen:∀ a,w'.frozen? a=w.frozen? a
theorem Stepped.chg {r:Nat} {w w':World} (h:Stepped r w w') {S:Nat→Prop} (hr:S r):Chg S w w' :=
 ⟨h.os,h.tape,h.output,by rw [h.size];exact Nat.le_refl _,fun k _ hk=>h.block k (fun e=>hk (e ▸ hr))⟩
theorem Stepped.below {r B:Nat} {w w':World} (h:Stepped r w w') (hr:B≤r):Below B w w' :=
 ⟨h.os,h.tape,h.output,by rw [h.size];exact Nat.le_refl _,fun k hk=>h.block k (by omega)⟩
def Ranges (w:World) (it r:Nat) (m left:List (Int × Value)):Prop :=
 ∃ es clock seen,w.heap[r]? = some (.map es clock)∧es.toList.map ent=m.map pr∧(m.map (·.1)).Nodup∧(∀ x∈es.toList,x.born < clock)∧(es.toList.map (·.born)).Nodup ∧
  w.heap[it]? = some (.mapIter (some r) clock seen clock)∧left=(leftOf es seen).toList.map unp
theorem Ranges.mapIs {w:World} {it r:Nat} {m left:List (Int × Value)} (h:Ranges w it r m left):MapIs w r m :=
 let ⟨es,c,_,h1,h2,h3,h4,h5,_⟩:=h;⟨es,c,h1,h2,h3,h4,h5⟩
theorem Ranges.same {w w':World} {it r:Nat} {m left:List (Int × Value)} (h:Ranges w it r m left) (h1:w'.heap[r]? = w.heap[r]?) (h2:w'.heap[it]? = w.heap[it]?):Ranges w' it r m left :=
 let ⟨es,c,sn,a1,a2,a3,a4,a5,a6,a7⟩:=h;⟨es,c,sn,h1.trans a1,a2,a3,a4,a5,h2.trans a6,a7⟩
theorem Ranges.lt {w:World} {it r:Nat} {m left:List (Int × Value)} (h:Ranges w it r m left):it < w.heap.size:=by
 obtain ⟨es,c,sn,a1,a2,a3,a4,a5,a6,a7⟩:=h
 exact (Array.getElem?_eq_some_iff.1 a6).1
theorem Ranges.up {w w':World} {it r:Nat} {m left:List (Int × Value)} (h:Ranges w it r m left) (hb:Below w.heap.size w w'):Ranges w' it r m left :=
 h.same (hb.block r h.mapIs.lt) (hb.block it h.lt)
theorem ent_unp {es:List MapEntry} {m:List (Int × Value)} (h:es.map ent=m.map pr):es.map unp=m:=by
 induction es generalizing m with
 | nil=>cases m with
  | nil=>rfl
  | cons a t=>simp at h
 | cons x t ih=>cases m with
  | nil=>simp at h
  | cons a l =>
   simp only [List.map_cons,List.cons.injEq] at h
   rw [List.map_cons,ih h.2]
   congr 1
   have h1:=h.1
   simp only [ent,pr,Prod.mk.injEq] at h1
   obtain ⟨a1,a2⟩:=a
   simp only [unp,h1.1,h1.2,Go.RowKit.intOf]
theorem ent_of_unp {es:List MapEntry} {m:List (Int × Value)} (h:es.map ent=m.map pr) {x:MapEntry} (hx:x∈es):x.key=.int .i64 (unp x).1∧x.val=(unp x).2∧unp x∈m:=by
 obtain ⟨n,v,hm,hk,hv⟩:=keys_of h x hx
 refine ⟨by simp [unp,hk,Go.RowKit.intOf],rfl,?_⟩
 have:unp x=(n,v):=by simp [unp,hk,hv,Go.RowKit.intOf]
 rw [this];exact hm
theorem filter_perm {l:List MapEntry} (hn:(l.map (·.born)).Nodup) {e:MapEntry} (he:e∈l):l.Perm (e :: l.filter (fun x=>!(x.born == e.born))):=by
 induction l with
 | nil=>cases he
 | cons a t ih =>
  simp only [List.map_cons,List.nodup_cons] at hn
  by_cases hae:a=e
  ·subst hae
   have hf:t.filter (fun x=>!(x.born == a.born))=t:=by
    rw [List.filter_eq_self]
    intro x hx
    have:x.born≠a.born:=fun e=>hn.1 (List.mem_map.2 ⟨x,hx,e⟩)
    simpa using this
   simp [hf]
  ·have ht:e∈t:=by
    rcases List.mem_cons.1 he with h | h
    ·exact absurd h.symm hae
    ·exact h
   have hb:a.born≠e.born:=fun h=>hn.1 (List.mem_map.2 ⟨e,ht,h.symm⟩)
   have hb':(!(a.born == e.born))=true:=by simpa using hb
   rw [List.filter_cons,if_pos hb']
   exact ((ih hn.2 ht).cons a).trans (List.Perm.swap e a _)
theorem sb_same {w:World} {b:Nat} {o:Obj} (h:b < w.heap.size):(setBlock w b o).heap[b]? = some o:=by simp [setBlock,h]
theorem sb_other {w:World} {b q:Nat} {o:Obj} (h:q≠b):(setBlock w b o).heap[q]? = w.heap[q]? := by
 have h':¬ b=q:=fun e=>h e.symm
 simp [setBlock,h']
section
variable {P:Program} {w:World} {t k e:TypeId} {it r:Nat} {m left:List (Int × Value)}
theorem MapIs.range (h:MapIs w r m) (ht:P.underlying t=some (.map k e)) :
  ∃ o,(Instr.range t (.map (some r))).run P w=.ok (.pointer (some ⟨w.heap.size,0,none⟩)) (w.alloc o)∧Ranges (w.alloc o) w.heap.size r m m:=by
 obtain ⟨es,clock,hb,hm,hn,hbo,hbn⟩:=h
 have hrl:=(Array.getElem?_eq_some_iff.1 hb).1
 refine ⟨_,run_range_map w t k e r es clock ht hb,es,clock,#[],by rw [heap_old hrl];exact hb,hm,hn,hbo,hbn,heap_new rfl,?_⟩
 have:leftOf es #[]=es:=by unfold leftOf;simp
 rw [this,ent_unp hm]
theorem Ranges.next (h:Ranges w it r m left) (ty:TypeId) :
  (left=[]∧(Instr.next (.pointer (some ⟨it,0,none⟩)) false ty).run P w=.ok (.tuple #[.bool false]) w) ∨
  ∃ n v left' w',left.Perm ((n,v) :: left')∧(n,v)∈m∧(Instr.next (.pointer (some ⟨it,0,none⟩)) false ty).run P w=.ok (.tuple #[.bool true,.int .i64 n,v]) w' ∧
   (Instr.entry (.pointer (some ⟨it,0,none⟩))).run P w'=.ok (.tuple #[.int .i64 n,v]) w'∧Ranges w' it r m left'∧Stepped it w w':=by
 obtain ⟨es,clock,seen,hb,hm,hn,hbo,hbn,hit,rfl⟩:=h
 rcases run_next_at (P:=P) w ty it r clock clock seen es clock hit hb hbo (Nat.le_refl _) with ⟨h0,hrun⟩ | ⟨x,hx,w1,hw1,hrun⟩
 ·left
  have:leftOf es seen=#[]:=Array.eq_empty_of_size_eq_zero h0
  rw [this]
  exact ⟨rfl,hrun⟩
 ·right
  have hxe:x∈es.toList:=by unfold leftOf at hx;simp at hx ⊢;exact hx.1
  obtain ⟨hk,hv,hmem⟩:=ent_of_unp hm hxe
  have hne:it≠r:=by intro e;rw [e,hb] at hit;cases hit
  have h1:w1.heap=w.heap:=by rcases hw1 with rfl | rfl <;> rfl
  have hit1:w1.heap[it]? = some (.mapIter (some r) clock seen clock):=by rw [h1];exact hit
  have hb2:(setBlock w1 it (.mapIter (some r) clock (seen.push x.born) clock)).heap[r]? = some (.map es clock):=by
   rw [sb_other (fun e=>hne e.symm),h1];exact hb
  have hi2:(setBlock w1 it (.mapIter (some r) clock (seen.push x.born) clock)).heap[it]? = some (.mapIter (some r) clock (seen.push x.born) clock):=sb_same (Array.getElem?_eq_some_iff.1 hit1).1
  rw [hk,hv] at hrun
  have hen:=run_entry_at (P:=P) _ it r clock seen es clock x hi2 hb2 hxe hbn
  rw [hk,hv] at hen
  have hoth:∀ q,q≠it→(setBlock w1 it (.mapIter (some r) clock (seen.push x.born) clock)).heap[q]? = w.heap[q]? := fun q hq=>by rw [sb_other hq,h1]
  refine ⟨(unp x).1,(unp x).2,(leftOf es (seen.push x.born)).toList.map unp,_,?_,hmem,hrun,hen,⟨es,clock,seen.push x.born,hb2,hm,hn,hbo,hbn,hi2,rfl⟩,?_⟩
  ·have hnd:((leftOf es seen).toList.map (·.born)).Nodup:=by
    unfold leftOf
    rw [Array.toList_filter]
    exact hbn.sublist (List.filter_sublist.map _)
   have hp:=(filter_perm hnd hx).map unp
   have hf:(leftOf es seen).toList.filter (fun y=>!(y.born == x.born))=(leftOf es (seen.push x.born)).toList:=by
    unfold leftOf
    rw [Array.toList_filter,Array.toList_filter,List.filter_filter]
    refine List.filter_congr fun y _=>?_
    rw [Bool.eq_iff_iff]
    simp [Array.mem_push,and_comm]
   rw [hf] at hp
   exact hp
  ·refine ⟨by rcases hw1 with rfl | rfl <;> rfl,by rcases hw1 with rfl | rfl <;> rfl,by rcases hw1 with rfl | rfl <;> rfl,by simp [setBlock,h1],hoth,fun a=>?_,fun a=>?_⟩
   ·by_cases ha:a.block=it
    ·simp [World.cell?,ha,hi2,hit]
    ·exact World.cell?_of_block (hoth _ ha)
   ·by_cases ha:a.block=it
    ·simp [World.frozen?,ha,hi2,hit]
    ·exact World.frozen?_of_block (hoth _ ha)
end
end Sc
namespace Go.Proofs
open Go.RowKit Sc
abbrev Vers:=List (Int × List Put)
structure ExtIs (F:Nat→Prop) (w:World) (v:Value) (blocks last:Int) (vs:Vers):Prop where
 out:∃ b r ml D,v=.pointer (some ⟨b,0,none⟩)∧F b∧F r∧w.heap[b]? = some (.cells #[.int .i64 blocks,.map (some r),.int .i64 last] 261 (0,0))∧MapIs w r ml ∧
  AL (fun u l=>OutS 267 2 putR 0 w u l D∧∀ g,u.ownBlock=some g→F g∧g≠b∧g≠r) ml vs ∧
  (∀ x∈ml,∀ y∈ml,x.1≠y.1→∀ g,x.2.ownBlock=some g→y.2.ownBlock≠some g)∧(∀ k,D k→F k∧k≠b∧k≠r)
 dom:Dom F w
theorem ExtIs.same {F:Nat→Prop} {w w':World} {v:Value} {blocks last:Int} {vs:Vers} (h:ExtIs F w v blocks last vs) (hs:Same F w w') (hz:w.heap.size≤w'.heap.size):ExtIs F w' v blocks last vs:=by
 obtain ⟨⟨b,r,ml,D,h1,h2,h3,h4,h5,h6,h7,h8⟩,hd⟩:=h
 exact ⟨⟨b,r,ml,D,h1,h2,h3,by rw [hs b h2];exact h4,h5.same hs h3,h6.imp fun _ _ ⟨a,c⟩=>⟨a.same putR_stable hs hz (fun g hg=>(c g hg).1) (fun k hk=>(h8 k hk).1),c⟩,h7,h8⟩,hd.of_size hz⟩
theorem ExtIs.up {F:Nat→Prop} {w w':World} {v:Value} {blocks last:Int} {vs:Vers} (h:ExtIs F w v blocks last vs) (hb:Below w.heap.size w w'):ExtIs F w' v blocks last vs:=h.same (h.dom.same hb) hb.size
def ExtA (v:Value) (blocks last:Int) (vs:Vers):Asn:=⟨fun F w=>ExtIs F w v blocks last vs,fun _ _ _ hs hz h=>h.same hs hz⟩
def atN:List Put→Int→Nat
 | [],_=>0
 | p :: l,t=>if 0 < atN l t then atN l t+1 else if p.lba≤t then 1 else 0
theorem atN_le:∀ (l:List Put) (t:Int),atN l t≤l.length
 | [],_=>Nat.le_refl _
 | p :: l,t=>by
  have:=atN_le l t
  simp only [atN,List.length_cons]
  split
  ·omega
  ·split <;> omega
theorem atN_above:∀ (l:List Put) (t:Int) (j:Nat) (h:j < l.length),atN l t≤j→t < l[j].lba
 | [],_,_,h,_=>absurd h (by simp)
 | p :: l,t,0,h,hj=>by
  simp only [atN] at hj
  split at hj
  ·omega
  ·split at hj
   ·omega
   ·simp only [List.getElem_cons_zero];omega
 | p :: l,t,j+1,h,hj=>by
  simp only [List.getElem_cons_succ]
  refine atN_above l t j (by simpa using h) ?_
  simp only [atN] at hj
  split at hj
  ·omega
  ·omega
theorem atN_at:∀ (l:List Put) (t:Int),0 < atN l t→∃ h:atN l t - 1 < l.length,l[atN l t - 1].lba≤t
 | [],_,h=>absurd h (by simp [atN])
 | p :: l,t,h=>by
  simp only [atN] at h ⊢
  by_cases h0:0 < atN l t
  ·obtain ⟨h1,h2⟩:=atN_at l t h0
   simp only [if_pos h0]
   refine ⟨by simp only [List.length_cons];omega,?_⟩
   have e:atN l t+1 - 1=(atN l t - 1)+1:=by omega
   simp only [e,List.getElem_cons_succ]
   exact h2
  ·simp only [if_neg h0] at h ⊢
   by_cases h1:p.lba≤t
   ·simp only [if_pos h1]
    exact ⟨by simp,by simpa using h1⟩
   ·simp only [if_neg h1] at h;omega
theorem atN_is {l:List Put} {t:Int} {m:Nat} (hm:m≤l.length) (ha:∀ j (h:j < l.length),m≤j→t < l[j].lba) (hb:m=0∨∃ h:m - 1 < l.length,l[m - 1].lba≤t):atN l t=m:=by
 have h1:=atN_le l t
 rcases Nat.lt_trichotomy (atN l t) m with h | h | h
 ·rcases hb with rfl | ⟨h2,hb⟩
  ·omega
  ·have:=atN_above l t (m - 1) h2 (by omega);omega
 ·exact h
 ·obtain ⟨h2,h3⟩:=atN_at l t (by omega)
  have:=ha _ h2 (by omega);omega
end Go.Proofs
namespace Go.Proofs
open Go.RowKit Sc
theorem ExtIs.cells {F:Nat→Prop} {w:World} {v:Value} {blocks last:Int} {vs:Vers} (h:ExtIs F w v blocks last vs) :
  ∃ b r ml,v=.pointer (some ⟨b,0,none⟩)∧b < w.heap.size∧w.cell? ⟨b,0,none⟩=some (.int .i64 blocks)∧w.cell? ⟨b,1,none⟩=some (.map (some r))∧w.cell? ⟨b,2,none⟩=some (.int .i64 last)∧MapIs w r ml ∧
   AL (fun u l=>PutsAt (Old w) w u l) ml vs:=by
 obtain ⟨⟨b,r,ml,D,h1,h2,h3,h4,h5,h6,h7,h8⟩,hd⟩:=h
 exact ⟨b,r,ml,h1,hd b h2,by rw [cell_row h4];rfl,by rw [cell_row h4];rfl,by rw [cell_row h4];rfl,h5,h6.imp fun _ _ ⟨a,_⟩=>a.puts fun _ _ h=>h⟩
def ExtNew (n:Int) (w:World) (e:Ending) (w':World):Prop:=∃ v,e=.returned (.tuple #[v,.int .i64 0])∧ExtIs (New w w') w' v n 0 []∧Below w.heap.size w w'
set_option maxHeartbeats 400000 in
theorem extNew_any (n:Int) (w:World) (h1:1≤n) (h2:n≤1048576):Calls Tryz.prog 140 #[.int .i64 n] w (ExtNew n w):=by
 have hmm:=@run_makeMap Tryz.prog
 go_enter Tryz.func140,Tryz.ntmps140
 go_wp2
 go_ret2
 have hm:=MapIs.made w
 refine ⟨_,rfl,⟨⟨w.heap.size+1,w.heap.size,[],fun _=>False,by simp,by simp [New],by simp [New];omega,heap_new (by simp),hm.same (G:=(· < w.heap.size+1)) (fun k hk=>heap_old (by simpa using hk)) (by simp),trivial,by simp,fun _ h=>h.elim⟩,fun k hk=>hk.2⟩,?_⟩
 exact ((Below.refl _ _).alloc (Nat.le_refl _) _).alloc (by simp) _
theorem extGone_any (F:Nat→Prop) (v:Value) (blocks last:Int) (vs:Vers) (w:World) (h:ExtIs F w v blocks last vs) (h1:1≤blocks):Calls Tryz.prog 164 #[v] w fun e w'=>e=.returned (.bool false)∧w=w':=by
 obtain ⟨b,r,ml,rfl,hb,hc0,_,_,_,_⟩:=h.cells
 have h0:(blocks == 0)=false:=by rw [beq_eq_false_iff_ne];omega
 go_enter Tryz.func164,Tryz.ntmps164
 go_wp2
 go_ret
 exact ⟨rfl,rfl⟩
theorem extBlocks_any (F:Nat→Prop) (v:Value) (blocks last:Int) (vs:Vers) (w:World) (h:ExtIs F w v blocks last vs):Calls Tryz.prog 216 #[v] w fun e w'=>e=.returned (.int .i64 blocks)∧w=w':=by
 obtain ⟨b,r,ml,rfl,hb,hc0,_,_,_,_⟩:=h.cells
 go_enter Tryz.func216,Tryz.ntmps216
 go_wp2
 go_ret
 exact ⟨rfl,rfl⟩
theorem extBlock_any (F:Nat→Prop) (v:Value) (blocks last:Int) (vs:Vers) (lba:Int) (w:World) (h:ExtIs F w v blocks last vs):Calls Tryz.prog 166 #[v,.int .i64 lba] w fun e w'=>e=.returned (.bool (blk blocks lba))∧w=w':=by
 have H:=Lib.hid h
 obtain ⟨b,r,ml,rfl,_⟩:=h.cells
 clear h
 by_cases h1:0≤lba
 ·by_cases h2:lba < blocks
  ·have hb:blk blocks lba=true:=by unfold blk;rw [decide_eq_true h1,decide_eq_true h2];rfl
   have HB:=Lib.hid hb
   clear hb
   go_enter Tryz.func166,Tryz.ntmps166
   go_wp2_with fail
   refine (extBlocks_any F _ _ _ _ _ H.out).mono ?_
   rintro e w1 ⟨rfl,rfl⟩
   go_wp2
   go_ret
   exact ⟨congrArg boolRet HB.out.symm,rfl⟩
  ·have hb:blk blocks lba=false:=by unfold blk;rw [decide_eq_false h2,Bool.and_false]
   have HB:=Lib.hid hb
   clear hb
   go_enter Tryz.func166,Tryz.ntmps166
   go_wp2_with fail
   refine (extBlocks_any F _ _ _ _ _ H.out).mono ?_
   rintro e w1 ⟨rfl,rfl⟩
   go_wp2
   go_ret
   exact ⟨congrArg boolRet (by rw [HB.out];simp;omega),rfl⟩
 ·have hb:blk blocks lba=false:=by unfold blk;rw [decide_eq_false h1,Bool.false_and]
  have h1':lba < 0:=by omega
  have HB:=Lib.hid hb
  clear hb
  clear h1
  go_enter Tryz.func166,Tryz.ntmps166
  go_wp2
  go_ret
  exact ⟨congrArg boolRet HB.out.symm,rfl⟩
def riseB (l:List Put):Bool:=decide (0 < l.length) && (List.range (l.length - 1)).all fun i=>decide ((l.map (·.lba)).getD i 0 < (l.map (·.lba)).getD (i+1) 0)
set_option maxHeartbeats 400000 in
theorem rise_any (G:Nat→Prop) (v:Value) (l:List Put) (w:World) (hG:Dom G w) (hv:PutsAt G w v l):Calls Tryz.prog 165 #[v] w fun e w'=>e=.returned (.bool (riseB l))∧Below w.heap.size w w':=by
 obtain ⟨p,c,rfl,h1,h2,h3,h4⟩:=hv
 have hgd:∀ i (h:i < l.length),(l.map (·.lba)).getD i 0=l[i].lba:=fun i h=>by simp [List.getD,h]
 have hno:∀ i,i+1 < l.length→(l.map (·.lba)).getD (i+1) 0≤(l.map (·.lba)).getD i 0→riseB l=false:=by
  intro i hi hle
  unfold riseB
  rw [Bool.and_eq_false_iff];right
  rw [List.all_eq_false]
  exact ⟨i,List.mem_range.2 (by omega),by simp;simpa using hle⟩
 have hyes:(∀ i,i+1 < l.length→(l.map (·.lba)).getD i 0 < (l.map (·.lba)).getD (i+1) 0)→riseB l=decide (0 < l.length):=by
  intro h
  unfold riseB
  have:((List.range (l.length - 1)).all fun i=>decide ((l.map (·.lba)).getD i 0 < (l.map (·.lba)).getD (i+1) 0))=true:=by
   rw [List.all_eq_true]
   intro i hi
   exact decide_eq_true (h i (by have:=List.mem_range.1 hi;omega))
  rw [this,Bool.and_true]
 have H4:=Lib.hid h4
 have HGD:=Lib.hid hgd
 have HNO:=Lib.hid hno
 have HYES:=Lib.hid hyes
 clear h4 hgd hno hyes
 clear h3
 go_enter Tryz.func165,Tryz.ntmps165
 go_wp2
 go_loopw [3] (fun i wr=>∃ k:Nat,1≤k∧(k≤l.length∨k=1)∧i=.int .i64 k∧Below w.heap.size w wr∧Hid (∀ i,i+1 < k→i+1 < l.length→(l.map (·.lba)).getD i 0 < (l.map (·.lba)).getD (i+1) 0)) (fun i _=>l.length - (intOf i).toNat)
 case atStart=>exact ⟨1,by omega,.inr rfl,rfl,Below.refl _ _,fun i hi=>by omega⟩
 case round =>
  obtain ⟨k,hk1,hk2,rfl,hbw,HA⟩:=hrel
  by_cases hlt:k < l.length
  ·obtain ⟨j,rfl⟩:∃ j,k=j+1:=⟨k - 1,by omega⟩
   obtain ⟨b,o,rfl,hb,hc1,_⟩:=H4.out (j+1) hlt
   obtain ⟨_,_,hp,hb',hc0,_⟩:=H4.out j (by omega)
   cases hp
   have hc1':=(hbw.cell (p:=⟨b,o+(j+1) * 2,none⟩) (hG b hb)).trans hc1
   have hc0':=(hbw.cell (p:=⟨b,o+j * 2,none⟩) (hG b hb)).trans hc0
   rw [← HGD.out (j+1) hlt] at hc1'
   rw [← HGD.out j (by omega)] at hc0'
   have hno:=HNO.out j hlt
   have ha:=HA.out
   have hst:(l.map (·.lba)).getD j 0 < (l.map (·.lba)).getD (j+1) 0→∀ i,i+1 < j+1+1→i+1 < l.length→(l.map (·.lba)).getD i 0 < (l.map (·.lba)).getD (i+1) 0:=by
    intro h i hi hi'
    by_cases e:i=j
    ·subst e;exact h
    ·exact ha i (by omega) hi'
   generalize (l.map (·.lba)).getD j 0=x at hc0' hno hst
   generalize (l.map (·.lba)).getD (j+1) 0=y at hc1' hno hst
   have hej:(((j+1:Nat):Int) - 1)=(j:Int):=by omega
   have hw1:IntKind.i64.wrap (((j+1:Nat):Int) - 1)=(j:Int):=by rw [hej];exact IntWalk.i64_in _ (by omega)
   have HNO:=Lib.hid hno
   have HST:=Lib.hid hst
   clear hno hst
   clear hc1 hc0 ha
   by_cases hle:y≤x
   ·go_wp2
    go_quiet (fail)
    go_wp2
    go_ret
    exact ⟨congrArg boolRet (HNO.out hle).symm,below_drewN hbw _⟩
   ·have hle2:x < y:=by omega
    clear hle
    go_wp2
    go_quiet (fail)
    go_wp2
    go_roundw
    case rel=>exact ⟨j+1+1,by omega,by omega,by go_num,below_drewN hbw _,HST.out hle2⟩
    case measure=>simp [intOf];omega
  ·have hy:=HYES.out (fun i hi=>HA.out i (by omega) hi)
   have HY:=Lib.hid hy
   clear hy
   go_wp2
   go_ret
   exact ⟨congrArg boolRet (by rw [HY.out]),hbw⟩
set_option maxRecDepth 100000 in
set_option maxHeartbeats 400000 in
theorem extAt_any (F:Nat→Prop) (v:Value) (blocks last:Int) (vs:Vers) (lba t:Int) (w:World) (h:ExtIs F w v blocks last vs) :
  Calls Tryz.prog 212 #[v,.int .i64 lba,.int .i64 t] w fun e w'=>e=.returned (.int .i64 ((atN ((alook vs lba).getD []) t:Int) - 1))∧w=w':=by
 obtain ⟨b,r,ml,rfl,hb,hc0,hc1,hc2,hm,ha⟩:=h.cells
 have hl:=hm.lookup (P:=Tryz.prog) Tryz.underlying259 Tryz.underlying3 (Tryz.zeroValue265 _) lba false
 have hval:∃ u l,(alook ml lba).getD (.slice none 0 0)=u∧(alook vs lba).getD []=l∧PutsAt (Old w) w u l:=by
  rcases ha.look lba with ⟨h1,h2⟩ | ⟨u,l,h1,h2,h3⟩
  ·exact ⟨_,_,by rw [h1];rfl,by rw [h2];rfl,SlAt.nil⟩
  ·exact ⟨u,l,by rw [h1];rfl,by rw [h2];rfl,h3⟩
 obtain ⟨u,l,hu,hvl,hp⟩:=hval
 simp only [hu,Bool.false_eq_true,if_false] at hl
 rw [hvl]
 obtain ⟨p,c,rfl,h1,h2,h3,h4⟩:=hp
 have H4:=Lib.hid h4
 clear h4
 clear hm ha h3 hu hvl h
 go_enter Tryz.func212,Tryz.ntmps212
 go_wp2
 go_step3
 go_wp2
 go_step3
 go_wp2
 go_loopg [8] l.length (fun gg i wr=>wr=w∧∃ m:Nat,m≤l.length∧m≤gg∧i=.int .i64 ((m:Int) - 1)∧Hid (∀ j (h:j < l.length),m≤j→t < l[j].lba))
 case atStart=>exact ⟨rfl,l.length,Nat.le_refl _,Nat.le_refl _,rfl,fun j hj hj'=>by omega⟩
 case round =>
  obtain ⟨rfl,m,hm,hg,rfl,HA⟩:=hrel
  cases m with
  | zero =>
   have hat:=atN_is (l:=l) (t:=t) (m:=0) (by omega) HA.out (.inl rfl)
   have HAT:=Lib.hid hat
   clear hat
   go_wp2
   rw [Exit.noGoto_ret]
   go_ret
   rw [HAT.out]
   exact ⟨rfl,rfl⟩
  | succ j =>
   have hj:j < l.length:=by omega
   obtain ⟨g,o,rfl,hg,hcg,_⟩:=H4.out j hj
   have hej:(((j+1:Nat):Int) - 1)=(j:Int):=by omega
   have hat:l[j].lba≤t→atN l t=j+1:=fun h=>atN_is (l:=l) (t:=t) (m:=j+1) (by omega) HA.out (.inr ⟨by omega,h⟩)
   have ha:=HA.out
   have hst:t < l[j].lba→∀ i (h:i < l.length),j≤i→t < l[i].lba:=by
    intro h i hi hji
    by_cases e:i=j
    ·subst e;exact h
    ·exact ha i hi (by omega)
   generalize l[j].lba=x at hcg hat hst
   have HAT:=Lib.hid hat
   have HST:=Lib.hid hst
   clear hat hst
   rw [hej]
   clear ha hej
   by_cases hle:x≤t
   ·go_wp2
    rw [Exit.noGoto_ret]
    go_ret
    rw [HAT.out hle]
    exact ⟨by simp,rfl⟩
   ·have hle2:t < x:=by omega
    clear hle
    go_wp2
    go_roundg j
    case measure=>omega
    case rel=>exact ⟨rfl,j,by omega,Nat.le_refl _,rfl,HST.out hle2⟩
end Go.Proofs
namespace Go.Proofs
open Go.RowKit Sc
def getV (vs:Vers) (lba t:Int):Bytes × Int :=
 let l:=(alook vs lba).getD []
 match l[atN l t - 1]? with
 | some p=>if atN l t=0 then (zeroB,0) else (p.data,p.lba)
 | none=>(zeroB,0)
def ExtGetSaid (blocks:Int) (vs:Vers) (lba t:Int) (w:World) (e:Ending) (w':World):Prop :=
 (blk blocks lba=false∧e=.returned (.tuple #[.slice none 0 0,.int .i64 0])∧Below w.heap.size w w') ∨
 (blk blocks lba=true∧∃ v,e=.returned (.tuple #[v,.int .i64 (getV vs lba t).2])∧BytesW (New w w') w' v (getV vs lba t).1∧Below w.heap.size w w')
set_option maxRecDepth 100000 in
set_option maxHeartbeats 1000000 in
theorem extGet_any (F:Nat→Prop) (v:Value) (blocks last:Int) (vs:Vers) (lba t:Int) (w:World) (h:ExtIs F w v blocks last vs) (hs:∀ k l,alook vs k=some l→∀ p∈l,p.data.length≤1000000) :
  Calls Tryz.prog 322 #[v,.int .i64 lba,.int .i64 t] w (ExtGetSaid blocks vs lba t w):=by
 have H:=Lib.hid h
 obtain ⟨b,r,ml,rfl,hb,hc0,hc1,hc2,hm,ha⟩:=h.cells
 clear h
 cases hq:blk blocks lba with
 | false =>
  have HQ:=Lib.hid hq
  clear hm ha hq
  go_enter Tryz.func322,Tryz.ntmps322
  go_wp2_with fail
  refine (extBlock_any F _ _ _ _ _ _ H.out).mono ?_
  rintro e w1 ⟨rfl,rfl⟩
  rw [HQ.out]
  go_wp2
  go_ret2
  exact .inl ⟨HQ.out,rfl,Below.refl _ _⟩
 | true =>
  have HQ:=Lib.hid hq
  have hl:=hm.lookup (P:=Tryz.prog) Tryz.underlying259 Tryz.underlying3 (Tryz.zeroValue265 _) lba false
  have hval:∃ u l,(alook ml lba).getD (.slice none 0 0)=u∧(alook vs lba).getD []=l∧PutsAt (Old w) w u l∧∀ p∈l,p.data.length≤1000000:=by
   rcases ha.look lba with ⟨h1,h2⟩ | ⟨u,l,h1,h2,h3⟩
   ·exact ⟨_,_,by rw [h1];rfl,by rw [h2];rfl,SlAt.nil,by simp⟩
   ·exact ⟨u,l,by rw [h1];rfl,by rw [h2];rfl,h3,hs _ _ h2⟩
  obtain ⟨u,l,hu,hvl,hp,hs40⟩:=hval
  simp only [hu,Bool.false_eq_true,if_false] at hl
  have hat:=extAt_any F _ _ _ _ lba t _ H.out
  rw [hvl] at hat
  have hgv:getV vs lba t=match l[atN l t - 1]? with
   | some p=>if atN l t=0 then (zeroB,0) else (p.data,p.lba)
   | none=>(zeroB,0):=by unfold getV;rw [hvl]
  have hle:=atN_le l t
  obtain ⟨p,c,rfl,h1,h2,h3,h4⟩:=hp
  have H4:=Lib.hid h4
  have HGV:=Lib.hid hgv
  have HAT:=Lib.hid hat
  clear h4 hgv hat
  clear hm ha hq h3 hu hvl hs
  cases hn:atN l t with
  | zero =>
   have hg2:getV vs lba t=(zeroB,0):=by
    rw [HGV.out,hn]
    split <;> rfl
   rw [hn] at HAT
   obtain ⟨i0,hi,hz0,hz1,hz2⟩:=info_parts infoU8
   have HG2:=Lib.hid hg2
   clear hg2
   clear hn hle
   go_enter Tryz.func322,Tryz.ntmps322
   go_wp2_with fail
   refine (extBlock_any F _ _ _ _ _ _ H.out).mono ?_
   rintro e w1 ⟨rfl,rfl⟩
   rw [HQ.out]
   go_wp2_with fail
   refine (HAT.out).mono ?_
   rintro e w1 ⟨rfl,rfl⟩
   go_wp2_with (at_make;refine wpList_make_full _ rfl _ _ 40 rfl w.heap.size 5 i0 (.int .u8 0) 1 Tryz.underlying40 hi hz0 hz1 _ _ _ _ 40 rfl rfl rfl rfl (by rw [hz2];omega) (by unfold maxLen;omega) (Nat.le_refl _) ?_;intro w0 hown0 hgrow0)
   go_ret2
   have hlt:=hown0.lt w.heap.size rfl
   refine .inr ⟨HQ.out,_,by rw [HG2.out];rfl,?_,(Below.refl _ _).grown hgrow0 (Nat.le_refl _) (fun j hj=>by cases hj)⟩
   rw [HG2.out]
   exact bytesW_row (B:=w.heap.size) (l:=zeroB) _ ⟨Nat.le_refl _,hlt.2⟩ (by decide) (Nat.le_refl _) (by omega) (by rw [made_u8] at hown0;exact hown0)
  | succ j =>
   have hj:j < l.length:=by omega
   have hg2:getV vs lba t=(l[j].data,l[j].lba):=by
    rw [HGV.out,hn]
    simp [hj]
   rw [hn] at HAT
   have hej:(((j+1:Nat):Int) - 1)=(j:Int):=by omega
   rw [hej] at HAT
   obtain ⟨g,o,rfl,hg,hct,hti,dv,hcd,hd⟩:=H4.out j hj
   have hd40:=hs40 _ (List.getElem_mem hj)
   generalize l[j]=x at hct hti hcd hd hd40 hg2
   have hd':=BytesAt.up hd (below_alloc w (.cells #[.int .i64 x.lba,dv] 267))
   obtain ⟨dp,dc,rfl⟩:=shape_of hd rfl
   have hjl:(j:Int) < (l.length:Int):=by omega
   have HG2:=Lib.hid hg2
   have HD':=Lib.hid hd'
   have HD40:=Lib.hid hd40
   clear hg2 hd' hd40
   clear hn hle hej hd hs40
   go_enter Tryz.func322,Tryz.ntmps322
   go_wp2_with fail
   refine (extBlock_any F _ _ _ _ _ _ H.out).mono ?_
   rintro e w1 ⟨rfl,rfl⟩
   rw [HQ.out]
   go_wp2_with fail
   refine (HAT.out).mono ?_
   rintro e w1 ⟨rfl,rfl⟩
   go_wp2_with fail
   go_region_held3 (fun W=>W.cell? ⟨w.heap.size,0,none⟩=some (.int .i64 x.lba)∧W.cell? ⟨w.heap.size,1,none⟩=some (.slice dp x.data.length dc))
    (first
      | go_keep
      | (go_split_ands
         exact ⟨cell_up hb3 (by assumption),cell_up hb3 (by assumption)⟩))
    ((first
      | (go_at_call 45;refine (clone_w (Old w) _ x.data _ (by exact BytesAt.up HD'.out (below_drewN (Below.refl _ _) 1)) HD40.out).mono ?_;rintro e w3 ⟨v3,rfl,hnv,hb3⟩)))
   have hz:=hb3.size
   simp at hz
   go_wp2
   go_ret2
   refine .inr ⟨HQ.out,_,by rw [HG2.out];rfl,?_,Below.up (below_drewN (below_alloc w _) 1) hb3⟩
   rw [HG2.out]
   exact BytesW.mono hnv fun q hq=>⟨by have:=hq.1;simp at this;omega,hq.2⟩
end Go.Proofs
