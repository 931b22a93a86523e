/- Arguments opened: what a reading says of memory, as lists. -/
import Derived.Test.YtcbgpeamondhmaaGreatDoorChecked
import Derived.Test.YtcbgpeamondhmaaGreatDoorTs14
import Derived.ProofKit
import Derived.Deep.Slices
namespace Go.Proofs
open Go.RowKit Sc Go.ChangeShapes Go.WideShapes
theorem list_of {α:Type} {p:Nat→α→Prop}:∀ n,(∀ i,i < n→∃ x,p i x)→∃ l:List α,l.length=n∧∀ i (h:i < l.length),p i l[i]
 | 0,_=>⟨[],rfl,fun i h=>absurd h (by simp)⟩
 | n+1,h=>by
  obtain ⟨l,hl,hp⟩:=list_of n (fun i hi=>h i (by omega))
  obtain ⟨x,hx⟩:=h n (by omega)
  refine ⟨l++[x],by simp [hl],fun i hi=>?_⟩
  by_cases hin:i < l.length
  ·rw [List.getElem_append_left hin];exact hp i hin
  ·have:i=n:=by simp at hi;omega
   subst this
   rw [List.getElem_append_right (by omega)]
   simp [hl,hx]
section
variable {H:Type} {enc:TypeId × Value→H} {P:Program} {w:World}
theorem open_sl {α:Type} {E:Elem α} {t e k fuel:Nat} {cs:List Value} {x:DataW H × List MemPlace} (ht:P.underlying t=some (.slice e)) (hk:P.cellsOf e=k) (hk0:0 < k)
  (h:DataW.trod enc P w 0 (fun _=>true) true fuel t cs=some x)
  (he:∀ n cs' y b o,cs'.length=k→(∀ j,j < k→w.cell? ⟨b,o+j,none⟩=cs'[j]?)→DataW.trod enc P w 0 (fun _=>true) true n e cs'=some y→∃ z,E w b o z) :
  ∃ v l,cs=[v]∧SlAt (Old w) k E w v l:=by
 rcases Deep.open_slice ht h with ⟨rfl,_⟩ | ⟨a,len,cap,m,n,D,Pl,rfl,_,hl,hm,hmm,_,hx⟩
 ·exact ⟨_,[],rfl,SlAt.nil⟩
 ·simp only [if_true] at hmm
  subst hmm
  rw [hk] at hx
  have hcell:∀ i,i < len→∃ cs' y,cs'.length=k∧(∀ j,j < k→w.cell? ((a.add (i * k)).add j)=cs'[j]?)∧DataW.trod enc P w 0 (fun _=>true) true n e cs'=some y:=by
   intro i hi
   obtain ⟨cs',h1,h2⟩:=hx i (by omega)
   obtain ⟨_,h3,h4⟩:=World.cells?_some h1
   exact ⟨cs',_,h3,h4,h2⟩
  have hspot:0 < len→a.spot=none:=by
   intro h0
   obtain ⟨cs',y,h1,h2,_⟩:=hcell 0 h0
   have:=h2 0 hk0
   rw [List.getElem?_eq_getElem (by omega)] at this
   have ha:(a.add (0 * k)).add 0=a:=by simp [Addr.add]
   rw [ha] at this
   unfold World.cell? at this
   split at this
   ·split at this
    ·cases this
    ·rename_i h;simpa using h
   ·cases this
  have hel:∀ i,i < len→∃ z,E w a.block (a.off+i * k) z∧a.block < w.heap.size:=by
   intro i hi
   obtain ⟨cs',y,h1,h2,h3⟩:=hcell i hi
   have hs:=hspot (by omega)
   obtain ⟨ab,ao,sp⟩:=a
   simp only at hs
   subst hs
   have hadd:∀ j,((⟨ab,ao,none⟩:Addr).add (i * k)).add j=⟨ab,ao+i * k+j,none⟩:=by
    intro j
    unfold Addr.add
    by_cases h1:i * k=0 <;> by_cases h2:j=0 <;> simp [h1,h2]
   have h2':∀ j,j < k→w.cell? ⟨ab,ao+i * k+j,none⟩=cs'[j]? := fun j hj=>by rw [← hadd j];exact h2 j hj
   obtain ⟨z,hz⟩:=he n cs' y ab (ao+i * k) h1 h2' h3
   refine ⟨z,hz,?_⟩
   have:=h2' 0 hk0
   rw [List.getElem?_eq_getElem (by omega)] at this
   exact World.block_lt_of_cell? w ⟨ab,ao+i * k+0,none⟩ this
  obtain ⟨l,hll,hlp⟩:=list_of (p:=fun i z=>E w a.block (a.off+i * k) z∧a.block < w.heap.size) len hel
  subst hll
  refine ⟨_,l,rfl,some a,m,rfl,hl,by unfold maxLen at hm;omega,(by intro hh;cases hh),fun i hi=>?_⟩
  have hs:=hspot (by omega)
  obtain ⟨ab,ao,sp⟩:=a
  simp only at hs
  subst hs
  exact ⟨ab,ao,rfl,(hlp i hi).2,(hlp i hi).1⟩
theorem len2 {α:Type}:∀ {l:List α},l.length=2→∃ a b,l=[a,b]
 | [a,b],_=>⟨a,b,rfl⟩
 | [],h=>by simp at h
 | [_],h=>by simp at h
 | _ :: _ :: _ :: _,h=>by simp at h
theorem mapM_each {α β:Type} {g:α→Option β}:∀ {l:List α} {r:List β},l.mapM g=some r→∀ f∈l,∃ y,g f=some y
 | [],_,_,f,hf=>by cases hf
 | a :: t,r,h,f,hf=>by
  simp only [List.mapM_cons,Option.bind_eq_bind,Option.bind_eq_some_iff] at h
  obtain ⟨y,hy,r',hr',_⟩:=h
  rcases List.mem_cons.1 hf with rfl | hf
  ·exact ⟨y,hy⟩
  ·exact mapM_each hr' f hf
theorem open_st {t:TypeId} {fs:Array Field} {fuel:Nat} {cs:List Value} {x:DataW H × List MemPlace} (ht:P.underlying t=some (.struct fs)) (h:DataW.trod enc P w 0 (fun _=>true) true fuel t cs=some x) :
  ∃ n,cs.length=P.cellsOf t∧∀ f∈fs.toList,∃ y,DataW.trod enc P w 0 (fun _=>true) true n f.type ((cs.drop f.offset).take (P.cellsOf f.type))=some y:=by
 cases fuel with
 | zero=>simp [DataW.trod] at h
 | succ n =>
  simp only [DataW.trod,ht] at h
  split at h
  ·rename_i hl
   obtain ⟨r,hr,_⟩:=Option.map_eq_some_iff.1 h
   exact ⟨n,hl,mapM_each hr⟩
  ·cases h
theorem trod_i64 {t:TypeId} {fuel:Nat} {v:Value} {x:DataW H × List MemPlace} (ht:P.underlying t=some (.int .i64)) (h:DataW.trod enc P w 0 (fun _=>true) true fuel t [v]=some x):∃ n,v=.int .i64 n∧I64 n:=by
 obtain ⟨n,hn,_,hw⟩:=DataW.trod_int ht h
 simp only [List.cons.injEq,and_true] at hn
 refine ⟨n,hn,?_⟩
 simp [Lit.wf,IntKind.min,IntKind.max,IntKind.signed,IntKind.bits] at hw
 unfold I64
 omega
theorem trod_byte {t:TypeId} {fuel:Nat} {v:Value} {x:DataW H × List MemPlace} (ht:P.underlying t=some (.int .u8)) (h:DataW.trod enc P w 0 (fun _=>true) true fuel t [v]=some x):∃ z:UInt8,v=.int .u8 (z.toNat:Int):=by
 obtain ⟨n,hn,_,hw⟩:=DataW.trod_int ht h
 simp only [List.cons.injEq,and_true] at hn
 simp [Lit.wf,IntKind.min,IntKind.max,IntKind.signed,IntKind.bits] at hw
 refine ⟨UInt8.ofNat n.toNat,?_⟩
 rw [hn]
 congr 1
 rw [UInt8.toNat_ofNat']
 omega
end
section
variable {H:Type} {enc:TypeId × Value→H} {w:World}
theorem open_bytes {fuel:Nat} {cs:List Value} {x:DataW H × List MemPlace} (h:DataW.trod enc Tryz.prog w 0 (fun _=>true) true fuel 40 cs=some x):∃ v l,cs=[v]∧BytesAt (Old w) w v l:=by
 refine open_sl (k:=1) Tryz.underlying40 (by kernel_rfl) (by omega) h fun n cs' y b o hl hc ht=>?_
 obtain ⟨c,rfl⟩:=List.length_eq_one_iff.1 hl
 obtain ⟨z,rfl⟩:=trod_byte Tryz.underlying5 ht
 refine ⟨z,?_⟩
 unfold byteE
 exact hc 0 (by omega)
theorem open_put {fuel:Nat} {cs:List Value} {x:DataW H × List MemPlace} (h:DataW.trod enc Tryz.prog w 0 (fun _=>true) true fuel 44 cs=some x) :
  ∃ n dv d,cs=[.int .i64 n,dv]∧I64 n∧BytesAt (Old w) w dv d:=by
 obtain ⟨m,hl,hf⟩:=open_st Tryz.underlying44 h
 have hcl:Tryz.prog.cellsOf 44=2:=by kernel_rfl
 rw [hcl] at hl
 obtain ⟨c0,c1,rfl⟩:=len2 hl
 obtain ⟨y0,h0⟩:=hf _ (List.mem_cons_self ..)
 obtain ⟨y1,h1⟩:=hf _ (List.mem_cons_of_mem _ (List.mem_cons_self ..))
 have k0:Tryz.prog.cellsOf 3=1:=by kernel_rfl
 have k1:Tryz.prog.cellsOf 40=1:=by kernel_rfl
 simp only [k0,k1,List.drop_zero,List.drop_succ_cons,List.take_succ_cons,List.take_zero] at h0 h1
 obtain ⟨n,rfl,hn⟩:=trod_i64 Tryz.underlying3 h0
 obtain ⟨dv,d,hc,hd⟩:=open_bytes h1
 cases hc
 exact ⟨n,_,d,rfl,hn,hd⟩
theorem open_puts {fuel:Nat} {cs:List Value} {x:DataW H × List MemPlace} (h:DataW.trod enc Tryz.prog w 0 (fun _=>true) true fuel 37 cs=some x):∃ v l,cs=[v]∧PutsAt (Old w) w v l:=by
 refine open_sl (k:=2) Tryz.underlying37 (by kernel_rfl) (by omega) h fun n cs' y b o hl hc ht=>?_
 obtain ⟨n,dv,d,rfl,hn,hd⟩:=open_put ht
 exact ⟨⟨n,d⟩,by first | (simp;done) | (have:=hc 0 (by omega);simpa using this),hn,dv,by first | (simp;done) | (have:=hc 1 (by omega);simpa using this),hd⟩
theorem open_tx {fuel:Nat} {cs:List Value} {x:DataW H × List MemPlace} (h:DataW.trod enc Tryz.prog w 0 (fun _=>true) true fuel 198 cs=some x) :
  ∃ n pv l,cs=[.int .i64 n,pv]∧I64 n∧PutsAt (Old w) w pv l:=by
 obtain ⟨m,hl,hf⟩:=open_st Tryz.underlying198 h
 have hcl:Tryz.prog.cellsOf 198=2:=by kernel_rfl
 rw [hcl] at hl
 obtain ⟨c0,c1,rfl⟩:=len2 hl
 obtain ⟨y0,h0⟩:=hf _ (List.mem_cons_self ..)
 obtain ⟨y1,h1⟩:=hf _ (List.mem_cons_of_mem _ (List.mem_cons_self ..))
 have k0:Tryz.prog.cellsOf 3=1:=by kernel_rfl
 have k1:Tryz.prog.cellsOf 37=1:=by kernel_rfl
 simp only [k0,k1,List.drop_zero,List.drop_succ_cons,List.take_succ_cons,List.take_zero] at h0 h1
 obtain ⟨n,rfl,hn⟩:=trod_i64 Tryz.underlying3 h0
 obtain ⟨dv,d,hc,hd⟩:=open_puts h1
 cases hc
 exact ⟨n,_,d,rfl,hn,hd⟩
theorem open_txs {fuel:Nat} {cs:List Value} {x:DataW H × List MemPlace} (h:DataW.trod enc Tryz.prog w 0 (fun _=>true) true fuel 110 cs=some x):∃ v l,cs=[v]∧TxsAt (Old w) w v l:=by
 refine open_sl (k:=2) Tryz.underlying110 (by kernel_rfl) (by omega) h fun n cs' y b o hl hc ht=>?_
 obtain ⟨n,dv,d,rfl,hn,hd⟩:=open_tx ht
 exact ⟨⟨n,d⟩,by first | (simp;done) | (have:=hc 0 (by omega);simpa using this),hn,dv,by first | (simp;done) | (have:=hc 1 (by omega);simpa using this),hd⟩
end
end Go.Proofs
