/- Texts of this claim, one behind the other: MgrG, MgrH, BufMgr, OutPush, Append, RegApp, Mgr10, CheckSep, Mgr11, Mgr12, Mgr13, CutInts, Mgr14, Ext10. -/
import Derived.Maps.AppendAt
import Derived.Deep.AppendLies
import Derived.Deep.RegionLaw
import Derived.BigQuiet
import Derived.Deep.QuietTactic
import Derived.Test.YtcbgpeamondhmaaGreatDoorTs5
namespace Go.Proofs
open Go.RowKit Sc
def setB (t:TxS):List Ext:=normE (singles (bufPuts t.buf))
def waitTx (s:MgS) (h:Int):Tx:=⟨(txOf s h).tm,bufPuts (txOf s h).buf⟩
def waitL (s:MgS):List Tx:=s.queue.map (waitTx s)
theorem waitL_len (s:MgS):(waitL s).length=s.queue.length:=List.length_map ..
def mayC (s:MgS) (t:TxS):Int:=if s.ro=true then 10 else if checkCode s.vs (waitL s) t.at' t.S (setB t)≠0 then checkCode s.vs (waitL s) t.at' t.S (setB t) else if 1099511627776≤s.given then 11 else 0
def cmCode (s:MgS) (n:Int):Int:=if openB s n=true then (if (txOf s n).buf.length=0 then 0 else mayC s (txOf s n)) else 5
def cmWait (s:MgS) (n:Int):MgS:={ setTx s n { txOf s n with st:=2,tm:=s.given+1 } with given:=s.given+1,queue:=s.queue++[n] }
def cmNext (s:MgS) (n:Int):MgS :=
 if openB s n=true then
  (if (txOf s n).buf.length=0 then endNext (setTx s n { txOf s n with tm:=(txOf s n).at' }) n 3 0
   else if mayC s (txOf s n)≠0 then endNext s n 4 (mayC s (txOf s n)) else cmWait s n)
 else s
def baCode (s:MgS):Int:=if 0 < s.out then 16 else if s.queue.length=0 then 14 else 0
def baNext (s:MgS):MgS:=if baCode s=0 then { s with out:=formN (waitL s) } else s
def doStep (code:Int) (s:MgS) (h:Int):MgS :=
 if code=0 then endNext { s with vs:=applyNext s.blocks s.last0 s.vs (waitTx s h),last0:=applyLast s.blocks s.last0 (waitTx s h),last:=(txOf s h).tm } h 3 0
 else endNext s h 4 code
def doneCode (s:MgS):Int:=if s.out=0 then 14 else 0
def doneNext (s:MgS) (code:Int):MgS :=
 if s.out=0 then s else { (s.queue.take s.out.toNat).foldl (doStep code) s with num:=if code=0 then s.num+1 else s.num,queue:=s.queue.drop s.out.toNat,out:=0 }
def ldCode (s:MgS) (l:List Put):Int:=if 0 < s.txs.length∨(s.base=0∧0 < l.length) then 1 else if l.length=0 then 0 else applyCode s.blocks s.last0 ⟨s.base,l⟩
def ldNext (s:MgS) (l:List Put):MgS:=if 0 < s.txs.length∨(s.base=0∧0 < l.length)∨l.length=0 then s else { s with vs:=applyNext s.blocks s.last0 s.vs ⟨s.base,l⟩,last0:=applyLast s.blocks s.last0 ⟨s.base,l⟩ }
def txAt (l:List TxS) (x:Int):TxS:=(l[(x - 1).toNat]?).getD default
theorem txOf_txAt (s:MgS) (x:Int):txOf s x=txAt s.txs x:=rfl
theorem txAt_set {l:List TxS} {h x:Int} (t:TxS) (h1:1≤h) (h2:h≤l.length) (hx:1≤x):txAt (l.set (h - 1).toNat t) x=if x=h then t else txAt l x:=by
 unfold txAt
 split
 ·rename_i e
  subst e
  rw [List.getElem?_set_self (by omega)];rfl
 ·rename_i e
  rw [List.getElem?_set_ne (by omega)]
theorem txAt_snoc {l:List TxS} {x:Int} (t:TxS) (hx:1≤x):txAt (l++[t]) x=if x=l.length+1 then t else txAt l x:=by
 unfold txAt
 split
 ·rename_i e
  subst e
  rw [show ((l.length:Int)+1 - 1).toNat=l.length by omega,List.getElem?_append_right (Nat.le_refl _)];simp
 ·rename_i e
  by_cases hl:x≤l.length
  ·rw [List.getElem?_append_left (by omega)]
  ·rw [List.getElem?_eq_none (by rw [List.length_append,List.length_singleton];omega),List.getElem?_eq_none (by omega)]
theorem txAt_mem {l:List TxS} {x:Int} (h1:1≤x) (h2:x≤l.length):txAt l x∈l:=by
 unfold txAt
 rw [List.getElem?_eq_getElem (by omega)]
 exact List.getElem_mem _
theorem openB_iff {s:MgS} {h:Int}:openB s h=true↔1≤h∧h≤s.txs.length∧(txAt s.txs h).st=1:=by
 by_cases hh:1≤h∧h≤s.txs.length
 ·obtain ⟨k,hk⟩:∃ k:Nat,h=(k:Int)+1:=⟨(h - 1).toNat,by omega⟩
  subst hk
  have hk:k < s.txs.length:=by omega
  rw [openB_at hk,beq_iff_eq]
  have:txAt s.txs ((k:Int)+1)=s.txs[k]:=by
   unfold txAt
   rw [show ((k:Int)+1 - 1).toNat=k by omega,List.getElem?_eq_getElem hk];rfl
  rw [this]
  exact ⟨fun h=>⟨by omega,by omega,h⟩,fun h=>h.2.2⟩
 ·rw [openB_no hh]
  exact ⟨fun h=>(by cases h),fun h=>absurd ⟨h.1,h.2.1⟩ hh⟩
theorem TxG.mono {blocks:Int} {n m:Nat} {t:TxS} (g:TxG blocks n t) (h:n≤m):TxG blocks m t:=⟨g.bg,g.bl,g.sg,g.sb,g.sl,by have:=g.rl;omega,g.rd⟩
theorem TxG.fresh (blocks a:Int) (n:Nat):TxG blocks n ⟨1,0,0,a,[],[],[]⟩:=⟨BufG.start _,by simp,SetG.nil,InB.nil _,by simp,by simp,by simp⟩
structure MgG (n:Nat) (s:MgS):Prop where
 b1:1≤s.blocks
 b2:s.blocks≤1048576
 ge:GoodE s.blocks s.last0 s.vs
 nv:nVers s.vs≤n
 kd:Keyed s.lastH s.tmb
 kn:(s.tmb.map (·.1)).Nodup
 k6:s.tmb.length≤16
 hh:s.lastH=s.txs.length
 hn:s.txs.length≤n
 tx:∀ t∈s.txs,TxG s.blocks n t
 ta:∀ t∈s.txs,0≤t.at'∧t.at'≤s.last
 qr:∀ h∈s.queue,1≤h∧h≤s.txs.length
 qp:∀ h∈s.queue,(txAt s.txs h).st=2∧0 < (txAt s.txs h).buf.length
 qd:s.queue.Nodup
 qs:∀ h:Int,1≤h→h≤s.txs.length→(txAt s.txs h).st=2→h∈s.queue
 qt:(s.queue.map fun h=>(txAt s.txs h).tm).Pairwise (· < ·)
 qb:∀ h∈s.queue,s.last < (txAt s.txs h).tm∧(txAt s.txs h).tm≤s.given
 o1:0≤s.out∧s.out≤s.queue.length
 lt:0≤s.base∧s.base≤s.last∧s.last≤s.given∧s.given≤1099511627776
 l0:s.last0≤s.last
 nm:0≤s.num∧s.num≤n
 bk:∀ h:Int,1≤h→h≤s.txs.length→alook s.tmb h=if (txAt s.txs h).st=1∨(txAt s.txs h).st=2 then some (txAt s.txs h).at' else none
theorem MgG.new {blocks last:Int} (h1:1≤blocks) (h2:blocks≤1048576) (h3:0≤last) (h4:last≤1099511627776):MgG 0 (mgNew blocks last) :=
 { b1:=h1,b2:=h2,ge:=GoodE.start _,nv:=Nat.le_refl _,kd:=⟨Int.le_refl _,by show (0:Int)≤1000000;omega,by simp [mgNew],by simp [mgNew]⟩,kn:=List.nodup_nil,k6:=by simp [mgNew],hh:=rfl,hn:=Nat.le_refl _,tx:=by simp [mgNew],ta:=by simp [mgNew],qr:=by simp [mgNew],qp:=by simp [mgNew],qd:=List.nodup_nil,
   qs:=fun h a b=>by simp [mgNew] at b;omega,qt:=by simp [mgNew],qb:=by simp [mgNew],o1:=by simp [mgNew],lt:=⟨h3,Int.le_refl _,Int.le_refl _,h4⟩,l0:=h3,nm:=by simp [mgNew],bk:=fun h a b=>by simp [mgNew] at b;omega }
theorem MgG.mono {n m:Nat} {s:MgS} (g:MgG n s) (h:n≤m):MgG m s :=
 { g with nv:=Nat.le_trans g.nv h,hn:=Nat.le_trans g.hn h,nm:=⟨g.nm.1,by have:=g.nm.2;omega⟩,tx:=fun t ht=>(g.tx t ht).mono h }
theorem MgG.turn {n m:Nat} {s:MgS} (g:MgG n s) (hm:n≤m) {h:Int} (ho:openB s h=true) (t:TxS) (h1:t.st=1) (h2:t.at'=(txOf s h).at') (h3:TxG s.blocks m t):MgG m (setTx s h t):=by
 obtain ⟨o1,o2,o3⟩:=openB_iff.1 ho
 have hat:∀ x,1≤x→txAt (setTx s h t).txs x=if x=h then t else txAt s.txs x:=fun x hx=>txAt_set t o1 o2 hx
 have hq:∀ x∈s.queue,txAt (setTx s h t).txs x=txAt s.txs x:=fun x hx=>by
  rw [hat x (g.qr x hx).1,if_neg]
  intro e
  subst e
  have:=(g.qp x hx).1
  omega
 have hl:(setTx s h t).txs.length=s.txs.length:=setTx_len ..
 refine { b1:=g.b1,b2:=g.b2,ge:=g.ge,nv:=Nat.le_trans g.nv hm,kd:=g.kd,kn:=g.kn,k6:=g.k6,hh:=by rw [hl];exact g.hh,hn:=by rw [hl];exact Nat.le_trans g.hn hm,tx:=fun x hx=>?_,ta:=fun x hx=>?_,qr:=fun x hx=>by rw [hl];exact g.qr x hx,qp:=fun x hx=>by rw [hq x hx];exact g.qp x hx,qd:=g.qd,qs:=fun x a b c=>?_,qt:=?_,qb:=fun x hx=>by rw [hq x hx];exact g.qb x hx,o1:=g.o1,lt:=g.lt,l0:=g.l0,nm:=⟨g.nm.1,by have:=g.nm.2;show s.num≤_;omega⟩,bk:=fun x a b=>?_ }
 ·rcases List.mem_or_eq_of_mem_set hx with hx | rfl
  ·exact (g.tx x hx).mono hm
  ·exact h3
 ·rcases List.mem_or_eq_of_mem_set hx with hx | rfl
  ·exact g.ta x hx
  ·rw [h2];exact g.ta _ (txAt_mem o1 o2)
 ·rw [hat x a] at c
  rw [hl] at b
  split at c
  ·omega
  ·exact g.qs x a b c
 ·show (s.queue.map fun h_1=>(txAt (setTx s h t).txs h_1).tm).Pairwise (· < ·)
  rw [List.map_congr_left fun x hx=>by rw [hq x hx]]
  exact g.qt
 ·rw [hat x a]
  rw [hl] at b
  show alook s.tmb x=_
  rw [g.bk x a b]
  by_cases e:x=h
  ·subst e
   rw [if_pos rfl,h1,h2,o3,txOf_txAt]
  ·rw [if_neg e]
theorem MgG.ends {n m:Nat} {s:MgS} (g:MgG n s) (hm:n≤m) {h st cd:Int} (o1:1≤h) (o2:h≤s.txs.length) (hst:st=3∨st=4) {rest:List Int} {o:Int} (hr:rest.Sublist s.queue) (hh:h ∉ rest) (hq2:∀ x∈s.queue,x≠h→x∈rest) (ho:0≤o∧o≤rest.length)
  {vs':Vers} {last0' last':Int} (ge':GoodE s.blocks last0' vs') (nv':nVers vs'≤m) (l1:s.last≤last') (l2:last0'≤last') (l3:last'≤s.given) (lq:∀ x∈rest,last' < (txAt s.txs x).tm) :
  MgG m { endNext { s with vs:=vs',last0:=last0',last:=last' } h st cd with queue:=rest,out:=o }:=by
 have hsub:=hr.subset
 have hl:(s.txs.set (h - 1).toNat (endTx (txAt s.txs h) st cd)).length=s.txs.length:=List.length_set ..
 have hat:∀ x,1≤x→txAt (s.txs.set (h - 1).toNat (endTx (txAt s.txs h) st cd)) x=if x=h then endTx (txAt s.txs h) st cd else txAt s.txs x:=fun x hx=>txAt_set _ o1 o2 hx
 have hq:∀ x∈rest,txAt (s.txs.set (h - 1).toNat (endTx (txAt s.txs h) st cd)) x=txAt s.txs x:=fun x hx=>by
  rw [hat x (g.qr x (hsub hx)).1,if_neg]
  rintro rfl
  exact hh hx
 have ht:=g.tx _ (txAt_mem o1 o2)
 refine { b1:=g.b1,b2:=g.b2,ge:=ge',nv:=nv',kd:=g.kd.del h,kn:=(g.kn.sublist ((adel_sublist _ _).map _)),k6:=Nat.le_trans (adel_sublist s.tmb h).length_le g.k6,hh:=by show s.lastH=_;rw [g.hh];exact congrArg _ hl.symm,hn:=by show (s.txs.set (h - 1).toNat (endTx (txAt s.txs h) st cd)).length≤m;rw [hl];exact Nat.le_trans g.hn hm,tx:=fun x hx=>?_,ta:=fun x hx=>?_,qr:=fun x hx=>?_,qp:=fun x hx=>?_,qd:=g.qd.sublist hr,qs:=fun x a b c=>?_,qt:=?_,qb:=fun x hx=>?_,o1:=ho,lt:=⟨g.lt.1,by have:=g.lt.2.1;show s.base≤last';omega,l3,g.lt.2.2.2⟩,l0:=l2,nm:=⟨g.nm.1,by have:=g.nm.2;show s.num≤_;omega⟩,bk:=fun x a b=>?_ }
 ·rcases List.mem_or_eq_of_mem_set hx with hx | rfl
  ·exact (g.tx x hx).mono hm
  ·exact ⟨ht.bg,ht.bl,ht.sg,ht.sb,ht.sl,Nat.le_trans ht.rl hm,ht.rd⟩
 ·show 0≤x.at'∧x.at'≤last'
  rcases List.mem_or_eq_of_mem_set hx with hx | rfl
  ·have:=g.ta x hx;omega
  ·have:=g.ta _ (txAt_mem o1 o2)
   show 0≤(txAt s.txs h).at'∧(txAt s.txs h).at'≤last'
   omega
 ·show 1≤x∧x≤(s.txs.set (h - 1).toNat (endTx (txAt s.txs h) st cd)).length
  rw [hl];exact g.qr x (hsub hx)
 ·show (txAt (s.txs.set (h - 1).toNat (endTx (txAt s.txs h) st cd)) x).st=2∧0 < (txAt (s.txs.set (h - 1).toNat (endTx (txAt s.txs h) st cd)) x).buf.length
  rw [hq x hx];exact g.qp x (hsub hx)
 ·change (txAt (s.txs.set (h - 1).toNat (endTx (txAt s.txs h) st cd)) x).st=2 at c
  change x≤(s.txs.set (h - 1).toNat (endTx (txAt s.txs h) st cd)).length at b
  show x∈rest
  rw [hl] at b
  rw [hat x a] at c
  split at c
  ·change st=2 at c;omega
  ·rename_i e
   exact hq2 x (g.qs x a b c) e
 ·show (rest.map fun h_1=>(txAt (s.txs.set (h - 1).toNat (endTx (txAt s.txs h) st cd)) h_1).tm).Pairwise (· < ·)
  rw [List.map_congr_left fun x hx=>by rw [hq x hx]]
  exact g.qt.sublist (hr.map _)
 ·show last' < (txAt (s.txs.set (h - 1).toNat (endTx (txAt s.txs h) st cd)) x).tm∧(txAt (s.txs.set (h - 1).toNat (endTx (txAt s.txs h) st cd)) x).tm≤s.given
  rw [hq x hx]
  exact ⟨lq x hx,(g.qb x (hsub hx)).2⟩
 ·change x≤(s.txs.set (h - 1).toNat (endTx (txAt s.txs h) st cd)).length at b
  show alook (adel s.tmb h) x=if (txAt (s.txs.set (h - 1).toNat (endTx (txAt s.txs h) st cd)) x).st=1∨(txAt (s.txs.set (h - 1).toNat (endTx (txAt s.txs h) st cd)) x).st=2 then some (txAt (s.txs.set (h - 1).toNat (endTx (txAt s.txs h) st cd)) x).at' else none
  rw [hl] at b
  rw [alook_adel g.kn,hat x a]
  by_cases e:x=h
  ·rw [if_pos e,if_pos e,if_neg]
   show ¬ (st=1∨st=2)
   omega
  ·rw [if_neg e,if_neg e]
   exact g.bk x a b
theorem MgG.begins {n:Nat} {s:MgS} (g:MgG n s) (hn:n < 1000000):MgG (n+1) (begNext s):=by
 unfold begNext
 split
 case isFalse=>exact g.mono (by omega)
 case isTrue hc =>
  have hlen:=g.hn
  have hhh:=g.hh
  have h16:s.tmb.length < 16:=by
   unfold begC OpenOk at hc
   split at hc
   ·cases hc
   ·split at hc
    ·cases hc
    ·omega
  have hat:∀ x,1≤x→txAt (s.txs++[⟨1,0,0,s.last,[],[],[]⟩]) x=if x=s.txs.length+1 then ⟨1,0,0,s.last,[],[],[]⟩ else txAt s.txs x:=fun x hx=>txAt_snoc _ hx
  have hl:(s.txs++[(⟨1,0,0,s.last,[],[],[]⟩:TxS)]).length=s.txs.length+1:=by simp
  have hq:∀ x∈s.queue,txAt (s.txs++[⟨1,0,0,s.last,[],[],[]⟩]) x=txAt s.txs x:=fun x hx=>by
   have:=g.qr x hx
   rw [hat x this.1,if_neg (by omega)]
  have hfr:=g.kd.fresh
  have hla:=g.lt
  refine { b1:=g.b1,b2:=g.b2,ge:=g.ge,nv:=by have:=g.nv;show nVers s.vs≤n+1;omega,kd:=g.kd.snoc (by omega) (by omega),kn:=?_,k6:=by show (s.tmb++[(s.lastH+1,s.last)]).length≤16;simp;omega,hh:=by show s.lastH+1=((s.txs++[(⟨1,0,0,s.last,[],[],[]⟩:TxS)]).length:Int);rw [hl];omega,hn:=by show (s.txs++[(⟨1,0,0,s.last,[],[],[]⟩:TxS)]).length≤n+1;rw [hl];omega,tx:=fun x hx=>?_,ta:=fun x hx=>?_,qr:=fun x hx=>?_,qp:=fun x hx=>?_,qd:=g.qd,qs:=fun x a b c=>?_,qt:=?_,qb:=fun x hx=>?_,o1:=g.o1,lt:=g.lt,l0:=g.l0,nm:=⟨g.nm.1,by have:=g.nm.2;show s.num≤_;omega⟩,bk:=fun x a b=>?_ }
  ·show ((s.tmb++[(s.lastH+1,s.last)]).map (·.1)).Nodup
   rw [List.map_append,List.nodup_append]
   refine ⟨g.kn,by simp,fun a ha b hb e=>?_⟩
   obtain ⟨y,hy,rfl⟩:=List.mem_map.1 ha
   simp at hb
   exact hfr y hy (e.trans hb)
  ·rcases List.mem_append.1 hx with hx | hx
   ·exact (g.tx x hx).mono (by omega)
   ·rw [List.mem_singleton] at hx;subst hx;exact TxG.fresh _ _ _
  ·rcases List.mem_append.1 hx with hx | hx
   ·exact g.ta x hx
   ·rw [List.mem_singleton] at hx;subst hx;exact ⟨by show 0≤s.last;omega,Int.le_refl _⟩
  ·show 1≤x∧x≤((s.txs++[(⟨1,0,0,s.last,[],[],[]⟩:TxS)]).length:Int)
   rw [hl]
   have:=g.qr x hx
   omega
  ·show (txAt (s.txs++[⟨1,0,0,s.last,[],[],[]⟩]) x).st=2∧0 < (txAt (s.txs++[⟨1,0,0,s.last,[],[],[]⟩]) x).buf.length
   rw [hq x hx];exact g.qp x hx
  ·change (txAt (s.txs++[⟨1,0,0,s.last,[],[],[]⟩]) x).st=2 at c
   change x≤((s.txs++[(⟨1,0,0,s.last,[],[],[]⟩:TxS)]).length:Int) at b
   rw [hl] at b
   rw [hat x a] at c
   split at c
   ·cases c
   ·exact g.qs x a (by omega) c
  ·show (s.queue.map fun h_1=>(txAt (s.txs++[⟨1,0,0,s.last,[],[],[]⟩]) h_1).tm).Pairwise (· < ·)
   rw [List.map_congr_left fun x hx=>by rw [hq x hx]]
   exact g.qt
  ·show s.last < (txAt (s.txs++[⟨1,0,0,s.last,[],[],[]⟩]) x).tm∧(txAt (s.txs++[⟨1,0,0,s.last,[],[],[]⟩]) x).tm≤s.given
   rw [hq x hx];exact g.qb x hx
  ·change x≤((s.txs++[(⟨1,0,0,s.last,[],[],[]⟩:TxS)]).length:Int) at b
   show alook (s.tmb++[(s.lastH+1,s.last)]) x=if (txAt (s.txs++[⟨1,0,0,s.last,[],[],[]⟩]) x).st=1∨(txAt (s.txs++[⟨1,0,0,s.last,[],[],[]⟩]) x).st=2 then some (txAt (s.txs++[⟨1,0,0,s.last,[],[],[]⟩]) x).at' else none
   rw [hl] at b
   rw [← aset_new hfr,alook_aset,hat x a]
   by_cases e:x=s.txs.length+1
   ·rw [if_pos (by omega),if_pos e];rfl
   ·rw [if_neg (by omega),if_neg e]
    exact g.bk x a (by omega)
end Go.Proofs
namespace Go.Proofs
open Go.RowKit Sc
theorem nVersA (vs:Vers) (k:Int) (l:List Put):nVers (aset vs k l)=nVers vs+l.length - ((alook vs k).getD []).length∧((alook vs k).getD []).length≤nVers vs:=by
 induction vs with
 | nil=>simp [aset,alook,nVers]
 | cons x t ih =>
  obtain ⟨n,y⟩:=x
  unfold nVers at *
  by_cases h:n=k
  ·subst h;simp [aset,alook];omega
  ·simp [aset,alook,h];omega
theorem nVersOne (time:Int) (vs:Vers) (p:Put):nVers (applyOne time vs p)=nVers vs+1:=by
 unfold applyOne
 obtain ⟨h1,h2⟩:=nVersA vs p.lba ((alook vs p.lba).getD []++[⟨time,p.data⟩])
 rw [List.length_append,List.length_singleton] at h1
 omega
theorem nVersVs (time:Int):∀ (l:List Put) (vs:Vers),nVers (applyVs time vs l)=nVers vs+l.length
 | [],vs=>rfl
 | p :: l,vs=>by
  show nVers (applyVs time (applyOne time vs p) l)=_
  rw [nVersVs time l,nVersOne];simp;omega
theorem nVersNext (blocks last:Int) (vs:Vers) (t:Tx):nVers (applyNext blocks last vs t)≤nVers vs+t.puts.length:=by
 unfold applyNext
 split
 ·rw [nVersVs];omega
 ·omega
theorem len_nVers {vs:Vers} {k:Int} {l:List Put} (h:alook vs k=some l):l.length≤nVers vs:=by
 have:=(nVersA vs k []).2
 rw [h] at this
 exact this
theorem alook_pruneM (h:Int) (k:Int):∀ vs:Vers,alook (pruneVs h vs) k=(alook vs k).map (pruneOne h)
 | []=>rfl
 | (n,l) :: vs=>by
  show (if n=k then some (pruneOne h l) else alook (pruneVs h vs) k)=_
  rw [alook_pruneM h k vs]
  simp only [alook]
  split <;> rfl
theorem nVers_prune (h:Int):∀ vs:Vers,nVers (pruneVs h vs)≤nVers vs
 | []=>Nat.le_refl _
 | x :: vs=>by
  have:=nVers_prune h vs
  show (pruneOne h x.2).length+nVers (pruneVs h vs)≤x.2.length+nVers vs
  have e:(pruneOne h x.2).length≤x.2.length:=by unfold pruneOne;rw [List.length_drop];omega
  omega
theorem GoodE.prune {blocks last:Int} {vs:Vers} (g:GoodE blocks last vs) (h:Int):GoodE blocks last (pruneVs h vs):=by
 have e:(pruneVs h vs).map (·.1)=vs.map (·.1):=by unfold pruneVs;rw [List.map_map];rfl
 refine ⟨by rw [e];exact g.nd,fun x hx=>?_,fun k l hl=>?_,g.l0⟩
 ·have hm:x.1∈vs.map (·.1):=by rw [← e];exact List.mem_map_of_mem hx
  obtain ⟨y,hy,hyx⟩:=List.mem_map.1 hm
  rw [← hyx];exact g.ks y hy
 ·rw [alook_pruneM] at hl
  obtain ⟨l2,h2,rfl⟩:=Option.map_eq_some_iff.1 hl
  obtain ⟨g1,g2,g3⟩:=g.ts k l2 h2
  have hs:(pruneOne h l2).Sublist l2:=List.drop_sublist _ _
  refine ⟨fun e=>?_,g2.sublist hs,fun p hp=>g3 p (hs.subset hp)⟩
  unfold pruneOne at e
  have h1:=atN_le l2 h
  have h3:0 < l2.length:=List.length_pos_iff.2 g1
  have:=congrArg List.length e
  rw [List.length_drop] at this
  simp at this
  omega
theorem addCode_len {most:Int} {l0 l:List Ext} (hn:l≠[]) (h:addCode most l0 l=0):((addNext most l0 l).length:Int)≤most:=by
 unfold addNext
 rw [if_pos h]
 unfold addCode at h
 by_cases ha:allB l=false
 ·rw [if_pos ha] at h;cases h
 ·rw [if_neg ha,if_neg hn] at h
  by_cases hm:most < ((normE (l0++l)).length:Int)
  ·rw [if_pos hm] at h;cases h
  ·omega
theorem openB_q {n:Nat} {s:MgS} (g:MgG n s) {h:Int} (ho:openB s h=true):h ∉ s.queue:=fun hq=>by
 have h1:=(openB_iff.1 ho).2.2
 have h2:=(g.qp h hq).1
 omega
theorem MgG.writes {n:Nat} {s:MgS} (g:MgG n s) (h:Int) (l:List Put):MgG n (wrNext s h l):=by
 unfold wrNext
 split
 case isFalse=>exact g
 case isTrue ho =>
  obtain ⟨o1,o2,o3⟩:=openB_iff.1 ho
  have ht:=g.tx _ (txAt_mem o1 o2)
  refine g.turn (Nat.le_refl _) ho _ o3 rfl ⟨ht.bg.next _,?_,ht.sg,ht.sb,ht.sl,ht.rl,ht.rd⟩
  have:=(bufNext_len (blocks:=s.blocks) (most:=16) (s:=(txAt s.txs h).buf) l).2 (by have:=ht.bl;omega)
  show (bufNext s.blocks 16 (txAt s.txs h).buf l).length≤16
  omega
theorem readCode_zero {blocks:Int} {S:List Ext} {e:Ext} (h:readCode blocks S e=0):1≤e.len∧e.len≤16∧0≤e.first∧e.first+e.len≤blocks∧addCode 64 S [e]=0:=by
 unfold readCode at h
 split at h
 ·cases h
 ·split at h
  ·cases h
  ·rename_i h1 h2
   split at h
   ·cases h
   ·rename_i h3
    unfold withinB at h2
    simp only [Bool.and_eq_false_iff,not_or,Bool.not_eq_false,decide_eq_true_eq] at h2
    refine ⟨by omega,by omega,by omega,by omega,?_⟩
    exact Classical.byContradiction fun hc=>h3 hc
theorem MgG.reads {n:Nat} {s:MgS} (g:MgG n s) (h:Int) (e:Ext):MgG (n+16) (rdNext s h e):=by
 unfold rdNext
 split
 case isFalse=>exact g.mono (by omega)
 case isTrue hc =>
  have ho:openB s h=true:=by
   unfold rdCode at hc
   split at hc
   ·assumption
   ·cases hc
  have hc':readCode s.blocks (txOf s h).S e=0:=by
   unfold rdCode at hc
   rwa [if_pos ho] at hc
  obtain ⟨o1,o2,o3⟩:=openB_iff.1 ho
  obtain ⟨r1,r2,r3,r4,r5⟩:=readCode_zero hc'
  have ht:=g.tx _ (txAt_mem o1 o2)
  refine g.turn (by omega) ho _ o3 rfl ⟨ht.bg,ht.bl,addNext_good ht.sg,ht.sb.add ht.sg (fun x hx=>by rw [List.mem_singleton] at hx;subst hx;omega),?_,?_,fun x hx=>?_⟩
  ·have:=addCode_len (by simp) r5
   show (addNext 64 (txAt s.txs h).S [e]).length≤64
   have h2:((addNext 64 (txAt s.txs h).S [e]).length:Int)≤64:=this
   omega
  ·show ((txAt s.txs h).R++readsV s.vs (txAt s.txs h).buf (txAt s.txs h).at' e.first e.len.toNat).length≤n+16
   rw [List.length_append,readsV_length]
   have:=ht.rl
   omega
  ·rcases List.mem_append.1 hx with hx | hx
   ·exact ht.rd x hx
   ·unfold readsV at hx
    obtain ⟨q,_,rfl⟩:=List.mem_map.1 hx
    exact blkV_length g.ge ht.bg _ _
theorem MgG.aborts {n:Nat} {s:MgS} (g:MgG n s) (h:Int):MgG n (abNext s h):=by
 unfold abNext
 split
 case isFalse=>exact g
 case isTrue ho =>
  obtain ⟨o1,o2,o3⟩:=openB_iff.1 ho
  exact g.ends (m:=n) (Nat.le_refl _) (st:=4) (cd:=0) o1 o2 (.inr rfl) (List.Sublist.refl _) (openB_q g ho) (fun x hx _=>hx) g.o1 g.ge g.nv (Int.le_refl _) g.l0 g.lt.2.2.1 (fun x hx=>(g.qb x hx).1)
theorem mayC_zero {s:MgS} {t:TxS} (h:mayC s t=0):s.ro=false∧checkCode s.vs (waitL s) t.at' t.S (setB t)=0∧s.given < 1099511627776:=by
 unfold mayC at h
 split at h
 ·cases h
 ·rename_i h1
  split at h
  ·rename_i h2;exact absurd h h2
  ·rename_i h2
   split at h
   ·cases h
   ·exact ⟨by simpa using h1,Classical.byContradiction fun hc=>h2 hc,by omega⟩
theorem MgG.waits {n:Nat} {s:MgS} (g:MgG n s) {h:Int} (ho:openB s h=true) (hb:0 < (txOf s h).buf.length) (hm:s.given < 1099511627776):MgG n (cmWait s h):=by
 obtain ⟨o1,o2,o3⟩:=openB_iff.1 ho
 have ht:=g.tx _ (txAt_mem o1 o2)
 have hnq:=openB_q g ho
 have hat:∀ x,1≤x→txAt (s.txs.set (h - 1).toNat { txAt s.txs h with st:=2,tm:=s.given+1 }) x=if x=h then { txAt s.txs h with st:=2,tm:=s.given+1 } else txAt s.txs x:=fun x hx=>txAt_set _ o1 o2 hx
 have hl:(s.txs.set (h - 1).toNat { txAt s.txs h with st:=2,tm:=s.given+1 }).length=s.txs.length:=List.length_set ..
 have hq:∀ x∈s.queue,txAt (s.txs.set (h - 1).toNat { txAt s.txs h with st:=2,tm:=s.given+1 }) x=txAt s.txs x:=fun x hx=>by
  rw [hat x (g.qr x hx).1,if_neg]
  rintro rfl
  exact hnq hx
 have hqh:txAt (s.txs.set (h - 1).toNat { txAt s.txs h with st:=2,tm:=s.given+1 }) h={ txAt s.txs h with st:=2,tm:=s.given+1 }:=by rw [hat h o1,if_pos rfl]
 have hla:=g.lt
 refine { b1:=g.b1,b2:=g.b2,ge:=g.ge,nv:=g.nv,kd:=g.kd,kn:=g.kn,k6:=g.k6,hh:=by show s.lastH=_;rw [g.hh];exact congrArg _ hl.symm,hn:=by show (s.txs.set (h - 1).toNat { txAt s.txs h with st:=2,tm:=s.given+1 }).length≤n;rw [hl];exact g.hn,tx:=fun x hx=>?_,ta:=fun x hx=>?_,qr:=fun x hx=>?_,qp:=fun x hx=>?_,qd:=?_,qs:=fun x a b c=>?_,qt:=?_,qb:=fun x hx=>?_,o1:=⟨g.o1.1,?_⟩,lt:=⟨hla.1,hla.2.1,by show s.last≤s.given+1;omega,by show s.given+1≤1099511627776;omega⟩,l0:=g.l0,nm:=g.nm,bk:=fun x a b=>?_ }
 ·rcases List.mem_or_eq_of_mem_set hx with hx | rfl
  ·exact g.tx x hx
  ·exact ⟨ht.bg,ht.bl,ht.sg,ht.sb,ht.sl,ht.rl,ht.rd⟩
 ·rcases List.mem_or_eq_of_mem_set hx with hx | rfl
  ·exact g.ta x hx
  ·have:=g.ta _ (txAt_mem o1 o2)
   exact this
 ·show 1≤x∧x≤((s.txs.set (h - 1).toNat { txAt s.txs h with st:=2,tm:=s.given+1 }).length:Int)
  rw [hl]
  rcases List.mem_append.1 hx with hx | hx
  ·exact g.qr x hx
  ·rw [List.mem_singleton] at hx;subst hx;exact ⟨o1,o2⟩
 ·show (txAt (s.txs.set (h - 1).toNat { txAt s.txs h with st:=2,tm:=s.given+1 }) x).st=2∧0 < (txAt (s.txs.set (h - 1).toNat { txAt s.txs h with st:=2,tm:=s.given+1 }) x).buf.length
  rcases List.mem_append.1 hx with hx | hx
  ·rw [hq x hx];exact g.qp x hx
  ·rw [List.mem_singleton] at hx;subst hx;rw [hqh];exact ⟨rfl,hb⟩
 ·show (s.queue++[h]).Nodup
  rw [List.nodup_append]
  exact ⟨g.qd,by simp,fun a ha b hb e=>by rw [List.mem_singleton] at hb;subst hb;subst e;exact hnq ha⟩
 ·change (txAt (s.txs.set (h - 1).toNat { txAt s.txs h with st:=2,tm:=s.given+1 }) x).st=2 at c
  change x≤((s.txs.set (h - 1).toNat { txAt s.txs h with st:=2,tm:=s.given+1 }).length:Int) at b
  show x∈s.queue++[h]
  rw [hl] at b
  rw [hat x a] at c
  split at c
  ·rename_i e;rw [e];simp
  ·exact List.mem_append_left _ (g.qs x a b c)
 ·show ((s.queue++[h]).map fun h_1=>(txAt (s.txs.set (h - 1).toNat { txAt s.txs h with st:=2,tm:=s.given+1 }) h_1).tm).Pairwise (· < ·)
  rw [List.map_append,List.map_congr_left fun x hx=>by rw [hq x hx]]
  rw [List.pairwise_append]
  refine ⟨g.qt,by simp,fun a ha b hb=>?_⟩
  simp only [List.map_cons,List.map_nil,List.mem_singleton] at hb
  subst hb
  obtain ⟨x,hx,rfl⟩:=List.mem_map.1 ha
  rw [hqh]
  have:=(g.qb x hx).2
  show (txAt s.txs x).tm < s.given+1
  omega
 ·show s.last < (txAt (s.txs.set (h - 1).toNat { txAt s.txs h with st:=2,tm:=s.given+1 }) x).tm∧(txAt (s.txs.set (h - 1).toNat { txAt s.txs h with st:=2,tm:=s.given+1 }) x).tm≤s.given+1
  rcases List.mem_append.1 hx with hx | hx
  ·rw [hq x hx];have:=g.qb x hx;omega
  ·rw [List.mem_singleton] at hx;subst hx;rw [hqh]
   show s.last < s.given+1∧s.given+1≤s.given+1
   omega
 ·show s.out≤((s.queue++[h]).length:Int)
  have:=g.o1.2
  rw [List.length_append];simp;omega
 ·change x≤((s.txs.set (h - 1).toNat { txAt s.txs h with st:=2,tm:=s.given+1 }).length:Int) at b
  show alook s.tmb x=if (txAt (s.txs.set (h - 1).toNat { txAt s.txs h with st:=2,tm:=s.given+1 }) x).st=1∨(txAt (s.txs.set (h - 1).toNat { txAt s.txs h with st:=2,tm:=s.given+1 }) x).st=2 then some (txAt (s.txs.set (h - 1).toNat { txAt s.txs h with st:=2,tm:=s.given+1 }) x).at' else none
  rw [hl] at b
  rw [hat x a]
  by_cases e:x=h
  ·subst e
   rw [if_pos rfl,if_pos (.inr rfl),g.bk x a b,if_pos (.inl o3)]
  ·rw [if_neg e];exact g.bk x a b
theorem MgG.commits {n:Nat} {s:MgS} (g:MgG n s) (h:Int):MgG n (cmNext s h):=by
 unfold cmNext
 split
 case isFalse=>exact g
 case isTrue ho =>
  obtain ⟨o1,o2,o3⟩:=openB_iff.1 ho
  split
  ·rename_i hb
   have ht:=g.tx _ (txAt_mem o1 o2)
   have g2:=g.turn (Nat.le_refl _) ho { txOf s h with tm:=(txOf s h).at' } o3 rfl ⟨ht.bg,ht.bl,ht.sg,ht.sb,ht.sl,ht.rl,ht.rd⟩
   have o2':h≤(setTx s h { txOf s h with tm:=(txOf s h).at' }).txs.length:=by rw [setTx_len];exact o2
   exact g2.ends (m:=n) (Nat.le_refl _) (st:=3) (cd:=0) o1 o2' (.inl rfl) (List.Sublist.refl _) (openB_q g ho) (fun x hx _=>hx) g2.o1 g2.ge g2.nv (Int.le_refl _) g2.l0 g2.lt.2.2.1 (fun x hx=>(g2.qb x hx).1)
  ·rename_i hb
   split
   ·exact g.ends (m:=n) (Nat.le_refl _) (st:=4) (cd:=mayC s (txOf s h)) o1 o2 (.inr rfl) (List.Sublist.refl _) (openB_q g ho) (fun x hx _=>hx) g.o1 g.ge g.nv (Int.le_refl _) g.l0 g.lt.2.2.1 (fun x hx=>(g.qb x hx).1)
   ·rename_i hm
    exact g.waits ho (by omega) (mayC_zero (Classical.byContradiction fun hc=>hm hc)).2.2
theorem MgG.batches {n:Nat} {s:MgS} (g:MgG n s):MgG n (baNext s):=by
 unfold baNext
 split
 ·have:=(formN_bd (waitL s)).1
  rw [waitL_len] at this
  exact { g with o1:=⟨by show (0:Int)≤(formN (waitL s):Int);omega,by show (formN (waitL s):Int)≤s.queue.length;omega⟩ }
 ·exact g
theorem MgG.prunes {n:Nat} {s:MgS} (g:MgG n s):MgG n (prNext s) :=
 { g with ge:=g.ge.prune _,nv:=Nat.le_trans (nVers_prune _ _) g.nv }
theorem MgG.reads_only {n:Nat} {s:MgS} (g:MgG n s) (b:Bool):MgG n { s with ro:=b }:={ g with }
theorem keysUp_len (l:List Int):(keysUp l).length=l.length:=by unfold keysUp;exact (List.mergeSort_perm _ _).length_eq
theorem MgG.step {n:Nat} {s:MgS} (g:MgG n s) (code:Int) {h:Int} {rest:List Int} (hq:s.queue=h :: rest):MgG (n+16) { doStep code s h with queue:=rest,out:=0 }:=by
 have hh:h∈s.queue:=by rw [hq];simp
 have hr:rest.Sublist s.queue:=by rw [hq];exact List.sublist_cons_self _ _
 obtain ⟨o1,o2⟩:=g.qr h hh
 have hnd:=g.qd
 rw [hq] at hnd
 have hnr:=(List.nodup_cons.1 hnd).1
 have hin:∀ x∈s.queue,x≠h→x∈rest:=fun x hx e=>by
  rw [hq] at hx
  exact (List.mem_cons.1 hx).resolve_left e
 have hla:=g.lt
 have hqb:=g.qb h hh
 unfold doStep
 split
 ·have ht:=g.tx _ (txAt_mem o1 o2)
  have hlen:(waitTx s h).puts.length≤16:=by
   show (bufPuts (txAt s.txs h).buf).length≤16
   rw [bufPuts_len];exact ht.bl
  have hpw:=g.qt
  rw [hq,List.map_cons,List.pairwise_cons] at hpw
  have hl0:=g.l0
  refine g.ends (m:=n+16) (by omega) (st:=3) (cd:=0) o1 o2 (.inl rfl) hr hnr hin ⟨Int.le_refl _,by omega⟩ (g.ge.next _) ?_ (last':=(txAt s.txs h).tm) (by omega) ?_ hqb.2 (fun x hx=>hpw.1 _ (List.mem_map_of_mem hx))
  ·have:=nVersNext s.blocks s.last0 s.vs (waitTx s h)
   have:=g.nv
   omega
  ·unfold applyLast
   split
   ·exact Int.le_refl _
   ·omega
 ·exact g.ends (m:=n+16) (by omega) (st:=4) (cd:=code) o1 o2 (.inr rfl) hr hnr hin ⟨Int.le_refl _,by omega⟩ g.ge (by have:=g.nv;omega) (Int.le_refl _) g.l0 hla.2.2.1 (fun x hx=>(g.qb x (hr.subset hx)).1)
theorem doStep_queue (code:Int) (s:MgS) (h:Int) (q:List Int) (o:Int):doStep code { s with queue:=q,out:=o } h={ doStep code s h with queue:=q,out:=o }:=by
 unfold doStep
 split <;> rfl
def doneTo (code:Int) (s:MgS) (j:Nat):MgS:=(s.queue.take j).foldl (doStep code) s
theorem doneTo_zero (code:Int) (s:MgS):doneTo code s 0=s:=by unfold doneTo;rw [List.take_zero];rfl
theorem doneTo_succ (code:Int) (s:MgS) {j:Nat} (hj:j < s.queue.length):doneTo code s (j+1)=doStep code (doneTo code s j) s.queue[j]:=by
 unfold doneTo
 rw [take_snoc _ _ hj,List.foldl_append];rfl
theorem doStep_same (code:Int) (s:MgS) (h:Int):(doStep code s h).queue=s.queue∧(doStep code s h).txs.length=s.txs.length∧(doStep code s h).blocks=s.blocks:=by
 unfold doStep
 split
 ·exact ⟨rfl,List.length_set ..,rfl⟩
 ·exact ⟨rfl,List.length_set ..,rfl⟩
theorem doneTo_same (code:Int) (s:MgS):∀ j,j≤s.queue.length→(doneTo code s j).queue=s.queue∧(doneTo code s j).txs.length=s.txs.length∧(doneTo code s j).blocks=s.blocks
 | 0,_=>by rw [doneTo_zero];exact ⟨rfl,rfl,rfl⟩
 | j+1,h=>by
  obtain ⟨h1,h2,h3⟩:=doneTo_same code s j (by omega)
  obtain ⟨k1,k2,k3⟩:=doStep_same code (doneTo code s j) s.queue[j]
  rw [doneTo_succ code s (by omega)]
  exact ⟨k1.trans h1,k2.trans h2,k3.trans h3⟩
theorem MgG.doneTo {n:Nat} {s:MgS} (g:MgG n s) (code:Int):∀ j,j≤s.queue.length→MgG (n+16 * j) { doneTo code s j with queue:=s.queue.drop j,out:=0 }
 | 0,_=>by
  rw [doneTo_zero]
  exact { g with o1:=⟨Int.le_refl _,by show (0:Int)≤_;omega⟩ }
 | j+1,h=>by
  have ih:=MgG.doneTo g code j (by omega)
  have hd:s.queue.drop j=s.queue[j] :: s.queue.drop (j+1):=List.drop_eq_getElem_cons (by omega)
  have:=ih.step code (h:=s.queue[j]) (rest:=s.queue.drop (j+1)) hd
  rw [doStep_queue] at this
  rw [doneTo_succ code s (by omega),show n+16 * (j+1)=n+16 * j+16 by omega]
  exact this
theorem doneTo_tx {n:Nat} {s:MgS} (g:MgG n s) (code:Int):∀ j,j≤s.queue.length→∀ x∈s.queue.drop j,txAt (doneTo code s j).txs x=txAt s.txs x
 | 0,_=>fun x _=>by rw [doneTo_zero]
 | j+1,h=>fun x hx=>by
  have hd:s.queue.drop j=s.queue[j] :: s.queue.drop (j+1):=List.drop_eq_getElem_cons (by omega)
  have hxd:x∈s.queue.drop j:=by rw [hd];exact List.mem_cons_of_mem _ hx
  have ih:=doneTo_tx g code j (by omega) x hxd
  have hnd:(s.queue.drop j).Nodup:=g.qd.sublist (List.drop_sublist _ _)
  rw [hd] at hnd
  have hne:x≠s.queue[j]:=fun e=>(List.nodup_cons.1 hnd).1 (e ▸ hx)
  have hl:=(doneTo_same code s j (by omega)).2.1
  obtain ⟨q1,q2⟩:=g.qr _ (List.getElem_mem (show j < s.queue.length by omega))
  have hx1:=(g.qr x (List.mem_of_mem_drop hx)).1
  rw [doneTo_succ code s (by omega),← ih]
  unfold doStep
  split
  ·exact (txAt_set _ q1 (by rw [hl];exact q2) hx1).trans (if_neg hne)
  ·exact (txAt_set _ q1 (by rw [hl];exact q2) hx1).trans (if_neg hne)
theorem MgG.dones {n:Nat} {s:MgS} (g:MgG n s) (code:Int) (h8:s.out≤8):MgG (n+128) (doneNext s code):=by
 unfold doneNext
 split
 ·exact g.mono (by omega)
 ·have ho:=g.o1
  have:=g.doneTo code s.out.toNat (by omega)
  have hm:=this.mono (show n+16 * s.out.toNat≤n+128 by omega)
  have hnum:=g.nm
  have h2:0≤(if code=0 then s.num+1 else s.num)∧(if code=0 then s.num+1 else s.num)≤((n+128:Nat):Int):=by split <;> omega
  exact { hm with nm:=h2 }
end Go.Proofs
namespace Go.Proofs
open Go.RowKit Sc
section
variable {W w:World} {L:List Asn}
theorem bufPutsM (h:Hid (Sep W L w)) (i:Nat) {v:Value} {blocks most:Int} {s:List (Int × Bytes)} (hi:L[i]? = some (BufA v blocks most s)) (hg:BufG blocks s) (hb:blocks≤1048576) (hl:s.length≤1000000) :
  Calls Tryz.prog 92 #[v] w fun e w'=>∃ p c,e=.returned (.slice p s.length c)∧Hid (PutsAt (New w w') w' (.slice p s.length c) (bufPuts s))∧Hid (Below w.heap.size w w'):=by
 obtain ⟨F,hF,_⟩:=h.out.get i hi
 refine (bufPuts_any F v blocks most s w hF (hg.i64 hb) hl hg.d40).mono ?_
 rintro e w' ⟨pv,rfl,hp,hb⟩
 obtain ⟨p,c,rfl⟩:=putsW_shape hp
 rw [bufPuts_len] at hp ⊢
 exact ⟨p,c,rfl,hp.puts,hb⟩
theorem bufLenM (h:Hid (Sep W L w)) (i:Nat) {v:Value} {blocks most:Int} {s:List (Int × Bytes)} (hi:L[i]? = some (BufA v blocks most s)) (hg:BufG blocks s) (hb:blocks≤1048576) (hl:s.length≤1000000) :
  Calls Tryz.prog 271 #[v] w fun e w'=>e=.returned (.int .i64 s.length)∧Hid (Below w.heap.size w w'):=by
 obtain ⟨F,hF,_⟩:=h.out.get i hi
 exact bufLen_any F v blocks most s w hF (hg.i64 hb) hl hg.d40
theorem putsBd {blocks:Int} {s:List (Int × Bytes)} (hg:BufG blocks s) (hb:blocks≤1048576):∀ p∈bufPuts s,0≤p.lba∧p.lba≤1048575:=fun p hp=>by
 obtain ⟨k,hk,rfl⟩:=List.mem_map.1 hp
 have hk':k∈s.map (·.1):=(List.mergeSort_perm _ _).subset hk
 obtain ⟨y,hy,rfl⟩:=List.mem_map.1 hk'
 have:=hg.ks y hy
 simp only;omega
theorem bufSetM (h:Hid (Sep W L w)) (i:Nat) {v:Value} {blocks most:Int} {s:List (Int × Bytes)} (hi:L[i]? = some (BufA v blocks most s)) (hg:BufG blocks s) (hb:blocks≤1048576) (hl:s.length≤40000) :
  Calls Tryz.prog 328 #[v] w fun e w'=>∃ b:Nat,e=.returned (.pointer (some ⟨b,0,none⟩))∧Hid (Below w.heap.size w w')∧Hid (Sep W (L++[SetA (.pointer (some ⟨b,0,none⟩)) (bufPuts s).length (normE (singles (bufPuts s)))]) w'):=by
 refine (bufSet_gen v (bufPuts s) w ((bufPutsM h i hi hg hb (by omega)).mono fun e w' ⟨p,c,h1,h2,h3⟩=>⟨_,h1,h2,h3⟩) (putsBd hg hb) (by rw [bufPuts_len];exact hl)).mono ?_
 rintro e w' ⟨b,rfl,hm,hb⟩
 exact ⟨b,rfl,hb,h.out.new hb (SetA _ _ _) (fun _ h=>h) hm⟩
end
end Go.Proofs
namespace Sc
open Go Go.RowKit
theorem OutS.push {P:Program} {α:Type} {T k:Nat} {R:(Nat→Prop)→World→List Value→α→Prop} (hR:RStable R) {B:Nat} {w:World} {v:Value} {l:List α} {D D3:Nat→Prop} (h:OutS T k R B w v l D)
  (t ty:TypeId) (i:TypeInfo) (z:Value) (bytes:Nat) (ht:P.underlying t=some (.slice T)) (hi:P.info? T=some i) (hz:i.zero=some z) (hsize:i.size=k) (hby:i.bytes=bytes) (hzs:z.cells.size=k) (hsz:0 < k)
  {cs:List Value} {x:α} (hcs:cs.length=k) (hx:R D3 w cs x) (h3:∀ b,D3 b→B≤b∧b < w.heap.size∧v.ownBlock≠some b) (ad:Addr) (c:Nat) (hc:∀ j u,cs[j]? = some u→w.cell? (ad.add j)=some u) (h1:∀ u∈cs,u.oneCell'=true)
  (h63:l.length+1≤maxLen) (hbytes:(l.length+1) * bytes≤140737488355328) (hbase:B≤w.heap.size) :
  ∃ g cap w',(Builtin.append_ #[t,t] ty #[v,.slice (some ad) 1 c]).run P w=.ok (.slice (some ⟨g,0,none⟩) (l.length+1) cap) w' ∧
   OutS T k R B w' (.slice (some ⟨g,0,none⟩) (l.length+1) cap) (l++[x]) (fun b=>D b∨D3 b)∧w.grownBy w' v.ownBlock∧(∀ b,v.ownBlock=some b→B≤b)∧l.length+1≤cap:=by
 obtain ⟨css,q1,q2,q3,q4,q5⟩:=h
 obtain ⟨v',w',hr,ho,hg,hn,hat⟩:=run_append_own_at (P:=P) w B t ty T i z k bytes ht hi hz hsize hby hzs hsz v l.length css.flatten q3 ad 1 c cs (by rw [hcs,Nat.one_mul]) hc h1 h63 hbytes hbase
 have hlt:=q3.lt
 obtain ⟨_,⟨rfl,h0⟩ | ⟨g,cap,cur,rfl,hrest⟩⟩:=ho
 ·exact absurd h0 (by omega)
 ·refine ⟨g,cap,w',hr,?_,hg,fun b hb=>(hlt b hb).1,hrest.2.2.1⟩
  refine OutS.snoc hR q1 q2 q4 q5 hcs hx h3 ⟨by assumption,.inr ⟨g,cap,cur,rfl,hrest⟩⟩ hg ?_
  rcases hat with e | e
  ·exact .inl e.symm
  ·refine .inr ?_
   simpa [Value.ownBlock] using e
def txR (D:Nat→Prop) (w:World) (cs:List Value) (x:Tx):Prop:=∃ pv,cs=[.int .i64 x.time,pv]∧I64 x.time∧PutsAt D w pv x.puts
theorem txR_stable:RStable txR:=fun _D _D' _w _w' _cs _x hd hs ⟨pv,h1,h2,h3⟩=>⟨pv,h1,h2,(h3.same hs).mono hd⟩
theorem OutS.txs {T:Nat} {B:Nat} {w:World} {v:Value} {l:List Tx} {D:Nat→Prop} {G:Nat→Prop} (h:OutS T 2 txR B w v l D) (hG:∀ b,B≤b→b < w.heap.size→G b):TxsAt G w v l:=by
 have hD:∀ b,D b→G b:=by obtain ⟨_,_,_,_,_,h5⟩:=h;exact fun b hb=>hG b (h5 b hb).1 (h5 b hb).2.1
 refine h.slAt hG fun b o cs x hl hc _ ⟨pv,he,hi,hd⟩=>?_
 subst he
 exact ⟨by first | (simp;done) | (have:=hc 0 (by omega);simpa using this),hi,pv,by first | (simp;done) | (have:=hc 1 (by omega);simpa using this),hd.mono hD⟩
end Sc
namespace Sc
open Go Go.RowKit
section
variable {P:Program} (w:World)
end
end Sc
namespace Sc
open Go Go.RowKit
theorem wp_append_run {P:Program} {w:World} {o:Oper} {a:Act} {K:Act→World→Prop} {Q:Exit→Act→World→Prop} (s x:Operand) (t:TypeId)
  (ho:o.op=.call { callee:=.builtin .append,args:=#[s,x],argTypes:=#[t,t] }) {v u:Value} (hs:a.eval s=v) (hx:a.eval x=u) {v':Value} {w':World}
  (hr:(Builtin.append_ #[t,t] o.type #[v,u]).run P w=.ok v' w') (h:K (a.put o.dst v') w'):Oper.wp P o a w K Q:=by
 unfold Oper.wp execOp
 simp only [ho,resolve,invoke,builtin,Sem.run_bind,Sem.run_pure,Result.andThen_ok,List.map_toArray,List.map_cons,List.map_nil,hs,hx,hr]
 exact h
end Sc
namespace Sc
open Go Go.RowKit
theorem wpList_append_run {P:Program} {w:World} {ops:Array Oper} {rest:List Oper} {o:Oper} {a:Act} {Q:Exit→Act→World→Prop} (hgd:o.guard=none) (s x:Operand) (t:TypeId)
  (ho:o.op=.call { callee:=.builtin .append,args:=#[s,x],argTypes:=#[t,t] }) {v u:Value} (hs:a.eval s=v) (hx:a.eval x=u) {v':Value} {w':World}
  (hr:(Builtin.append_ #[t,t] o.type #[v,u]).run P w=.ok v' w') (h:wpList P ops Q rest (a.put o.dst v') w'):wpList P ops Q (o :: rest) a w :=
 wpList_plain hgd fun _ hK=>wp_append_run s x t ho hs hx hr (hK _ _ h)
theorem Sep.row_push {P:Program} {W w:World} {L:List Asn} (h:Sep W L w) (i:Nat) {T k n:Nat} {v:Value} {xs:List Value} (hi:L[i]? = some (RowA T k v n xs))
  (t ty:TypeId) (ii:TypeInfo) (z:Value) (bytes:Nat) (ht:P.underlying t=some (.slice T)) (hii:P.info? T=some ii) (hz:ii.zero=some z) (hsize:ii.size=k) (hby:ii.bytes=bytes) (hzs:z.cells.size=k) (hsz:0 < k)
  {cs:Array Value} (hcs:cs.toList.length=k) (h1:∀ u∈cs.toList,u.oneCell'=true) (h63:n+1≤maxLen) (hbytes:(n+1) * bytes≤140737488355328) (B:Nat) (hB:w.heap.size=B) :
  ∃ g cap w',(Builtin.append_ #[t,t] ty #[v,.slice (some ⟨B,0,none⟩) 1 1]).run P (w.alloc (.cells cs T (0,0)))=.ok (.slice (some ⟨g,0,none⟩) (n+1) cap) w' ∧
   Sep W (L.set i (RowA T k (.slice (some ⟨g,0,none⟩) (n+1) cap) (n+1) (xs++cs.toList))) w':=by
 subst hB
 obtain ⟨F,hF,hdF⟩:=h.get i hi
 have hb:=below_alloc w (.cells cs T (0,0))
 have hown:(w.alloc (.cells cs T (0,0))).ownsRow 0 T k v n xs:=row_same (fun q hq=>hb.block q (hdF q hq)) hF.1 hF.2
 obtain ⟨v',w',hr,ho,hg,hn,hat⟩:=run_append_own_at (P:=P) (w.alloc (.cells cs T (0,0))) 0 t ty T ii z k bytes ht hii hz hsize hby hzs hsz v n xs hown ⟨w.heap.size,0,none⟩ 1 1 cs.toList (by rw [hcs,Nat.one_mul]) (World.news_of_block (cs:=cs) (heap_alloc_new w _)) h1 h63 hbytes (Nat.zero_le _)
 have hlt:=ho.lt
 obtain ⟨hx,⟨rfl,h0⟩ | ⟨g,cap,cur,rfl,hrest⟩⟩:=ho
 ·exact absurd h0 (by omega)
 ·refine ⟨g,cap,w',hr,h.row_app i hi hb ⟨hx,.inr ⟨g,cap,cur,rfl,hrest⟩⟩ hg (H:=w.heap.size+1) ?_ (by simp) (hlt g rfl).2⟩
  rcases hat with e | e
  ·exact .inl e.symm
  ·refine .inr ?_
   simpa [Value.ownBlock] using e
end Sc
namespace Go.Proofs
open Go.RowKit Sc
theorem infoTx:(Tryz.prog.info? 198).map (fun i=>(i.zero,i.size,i.bytes))=some (some (.agg #[.int .i64 0,.slice none 0 0]),2,32):=by kernel_rfl
section
variable {W w:World} {L:List Asn} {i:Nat} {c:MgC} {s:MgS}
theorem mgr_qcell (h:Sep W (OL L i (mgrItems c s)) w) {j:Nat} (hj:j < s.queue.length):∃ g cp,c.qv=.slice (some ⟨g,0,none⟩) s.queue.length cp∧w.cell? ⟨g,j,none⟩=some (.int .i64 s.queue[j]):=by
 have hi4:(OL L i (mgrItems c s))[L.length+4]? = some (RowA 3 1 c.qv s.queue.length (s.queue.map (Value.int .i64))):=OL_get.trans (items_head 4 (by omega))
 obtain ⟨F,hF,_⟩:=h.get (L.length+4) hi4
 obtain ⟨_,⟨e,hn⟩ | ⟨g,cap,cur,e,_⟩⟩:=hF.1
 ·omega
 ·refine ⟨g,cap,e,?_⟩
  have hc:=hF.1
  rw [e] at hc
  have:=hc.cellAt j (by omega)
  rw [this,List.getElem?_map,List.getElem?_eq_getElem hj];rfl
theorem tm_i64 {n:Nat} (g:MgG n s) {h:Int} (hh:h∈s.queue):I64 (txAt s.txs h).tm:=by
 have h1:=g.qb h hh
 have h2:=g.lt
 unfold I64;omega
set_option maxRecDepth 100000 in
set_option maxHeartbeats 4000000 in
theorem waiting_core (h:Hid (Sep W (OL L i (mgrItems c s)) w)) (hc:c.cs.length=s.txs.length) {n:Nat} (g:MgG n s) (hn:s.queue.length≤1000000) :
  Calls Tryz.prog 99 #[.pointer (some ⟨c.mb,0,none⟩)] w fun e w'=>∃ p cp,e=.returned (.slice p s.queue.length cp)∧s.queue.length≤cp∧Hid (TxsAt (New w w') w' (.slice p s.queue.length cp) (waitL s))∧Hid (Below w.heap.size w w'):=by
 obtain ⟨c0,c1,c2,c3,c4,c5,c6,c7,c8,c9⟩:=mgr_cells h.out
 obtain ⟨qp,qc,hq0,hql⟩:=mgr_queue h.out
 rw [hq0] at c3
 obtain ⟨ii,hii,hiz,hiy,hix⟩:=info_parts infoTx
 have HG:Hid (MgG n s):=g
 have HQ0:=Lib.hid hq0
 clear hq0 g c0 c1 c4 c5 c6 c7 c8 c9
 go_enter Tryz.func99,Tryz.ntmps99
 go_wp2_with fail
 go_loopw [2,11] (fun s2 s11 wr=>∃ k:Nat,∃ p cp D,k≤s.queue.length∧s11=.int .i64 k∧s2=.slice p k cp∧Hid (k≤cp)∧Hid (OutS 198 2 txR w.heap.size wr (.slice p k cp) ((waitL s).take k) D)∧Hid (Below w.heap.size w wr)) (fun _ s11 _=>s.queue.length - (intOf s11).toNat)
 case atStart=>exact ⟨0,_,_,_,by omega,by go_num,rfl,Nat.le_refl _,Lib.hid (by rw [List.take_zero];exact OutS.nil),Lib.hid (Below.refl _ _)⟩
 case round =>
  obtain ⟨k,op,oc,D,hk,rfl,rfl,HOC,HO,HB⟩:=hrel
  by_cases hlt:k < s.queue.length
  case neg =>
   obtain rfl:k=s.queue.length:=by omega
   have hO:=HO.out
   rw [List.take_of_length_le (by rw [waitL_len];exact Nat.le_refl _)] at hO
   have hfin:TxsAt (New w wr) wr (.slice op s.queue.length oc) (waitL s):=hO.txs fun b h1 h2=>⟨h1,h2⟩
   have HFIN:=Lib.hid hfin
   clear hfin
   clear hO
   go_wp2
   go_ret
   exact ⟨op,oc,rfl,HOC.out,HFIN,HB⟩
  case pos =>
   have hS:=h.out.up HB.out
   obtain ⟨gq,cq,hqv,hcell⟩:=mgr_qcell hS hlt
   rw [HQ0.out] at hqv
   cases hqv
   have hqm:=List.getElem_mem hlt
   obtain ⟨hq1,hq2⟩:=HG.out.qr _ hqm
   have hti:=tm_i64 HG.out hqm
   obtain ⟨q,hq⟩:∃ q:Nat,s.queue[k]=(q:Int)+1:=⟨(s.queue[k] - 1).toNat,by omega⟩
   have hqs:q < s.txs.length:=by omega
   have hqc:q < c.cs.length:=by omega
   have hl:=(mgr_map hS).lookup Tryz.underlying174 Tryz.underlying3 (Tryz.zeroValue170 wr) ((q:Int)+1) false
   rw [look_ml hqc] at hl
   simp only [Option.getD_some,Bool.false_eq_true,if_false] at hl
   have hcl:=(tx_cells hS hc hqs).1
   have t1:=hcl 1
   have t4:=hcl 4
   change _=some (Value.int .i64 s.txs[q].tm) at t1
   change _=some (Value.pointer (some ⟨(c.cs[q]).bb,0,none⟩)) at t4
   have m2:=cell_up HB.out c2
   have m3:=cell_up HB.out c3
   have htx:=HG.out.tx _ (List.getElem_mem hqs)
   have hwl:(waitL s).take (k+1)=(waitL s).take k++[⟨s.txs[q].tm,bufPuts s.txs[q].buf⟩]:=by
    rw [take_snoc _ _ (by rw [waitL_len];exact hlt)]
    congr 2
    unfold waitL
    rw [List.getElem_map]
    unfold waitTx
    rw [hq,txOf_at hqs]
   rw [hq] at hcell hti
   rw [← txOf_txAt,txOf_at hqs] at hti
   have hPU:=bufPutsM (w:=wr.drew) (hS.up (below_drewN (Below.refl wr.heap.size wr) 1)) (L.length+(5+(4 * q+1))) (OL_get.trans (items_tx hc hqs 1 (by omega))) htx.bg HG.out.b2 (by have:=htx.bl;omega)
   have hbl:(bufPuts s.txs[q].buf).length=s.txs[q].buf.length:=bufPuts_len _
   have htb:(c.cs[q]).tb < w.heap.size:=(Array.getElem?_eq_some_iff.1 (tx_heap h.out hc hqs)).1
   generalize (c.cs[q]).bb=bb at *
   generalize (c.cs[q]).tb=tb at *
   generalize s.txs[q].tm=tm at *
   generalize s.txs[q].buf=bf at *
   have HPU:=Lib.hid hPU
   have HWL:=Lib.hid hwl
   have HTI:=Lib.hid hti
   have HBL:=Lib.hid hbl
   clear hPU hwl hti hbl
   clear hS hcl htx hq hq1 hq2 hqm
   go_upto_region 5 with fail
   refine wp_regionG (fun W=>W.cell? ⟨tb,1,none⟩=some (.int .i64 tm)∧W.cell? ⟨tb,4,none⟩=some (.pointer (some ⟨bb,0,none⟩))) (n:=14) (by kernel_rfl) (by kernel_rfl) ?_
   refine wpG.tk 0 ?_
   refine wpG.tk 1 ?_
   refine wpG.tk 2 ?_
   refine wpG.tk 3 ?_
   refine wpG.tk 4 ?_ (hy:=by intro W hW;have hld0:=hW.1;go_simp;try with_reducible rfl)
   refine wpG.tk 5 ?_
   refine wpG.tk 6 ?_
   refine wpG.tk 7 ?_
   refine wpG.tk 8 ?_ (hy:=by intro W hW;have hld0:=hW.2;go_simp;try with_reducible rfl)
   refine wpG.alone 9 rfl (by kernel_rfl) (by kernel_rfl) (⟨t1,t4⟩) (fun K hK=>?_)
   go_simp
   go_at_call 92
   refine (HPU.out).mono ?_
   rintro e w2 ⟨pp,pc,rfl,HP2,HB2⟩
   have n1:=cell_up HB2.out t1
   have n4:=cell_up HB2.out t4
   try go_simp
   refine hK _ _ ?_
   clear hK K
   refine wpG.tk 10 ?_
   refine wpG.alone 11 rfl (by kernel_rfl) (by kernel_rfl) ⟨n1,n4⟩ (fun K hK=>?_)
   go_simp
   have hA:=heap_alloc_new w2 (.cells #[.int .i64 tm,.slice pp bf.length pc] 198)
   have hbA:=below_alloc w2 (.cells #[.int .i64 tm,.slice pp bf.length pc] 198)
   have hBA:Below wr.heap.size wr (w2.alloc (.cells #[.int .i64 tm,.slice pp bf.length pc] 198)):=Below.up (Below.up (below_drewN (Below.refl wr.heap.size wr) 1) HB2.out) hbA
   have htl:((waitL s).take k).length=k:=by rw [List.length_take,waitL_len];omega
   have hz2:wr.heap.size≤w2.heap.size:=(Below.up (below_drewN (Below.refl wr.heap.size wr) 1) HB2.out).size
   have hown:=(HO.out.own).choose_spec.lt
   have hp3:=PutsAt.up HP2.out hbA
   obtain ⟨gg,cap,w6,hr6,hO6,hg6,hlow,hcap⟩:=(HO.out.up txR_stable hBA).push (P:=Tryz.prog) txR_stable 110 110 ii _ 32 Tryz.underlying110 hii hiz hiy hix rfl (by decide) (D3:=New wr.drew w2) (cs:=[.int .i64 tm,.slice pp bf.length pc]) (x:=⟨tm,bufPuts bf⟩) rfl ⟨_,rfl,HTI.out,hp3⟩
    (fun b hb=>⟨by have:=hb.1;have:=HB.out.size;have e:wr.drew.heap.size=wr.heap.size:=rfl;omega,by have:=hb.2;have:=hbA.size;omega,fun e=>by have:=(hown b e).2;have:=hb.1;have e2:wr.drew.heap.size=wr.heap.size:=rfl;omega⟩) ⟨w2.heap.size,0,none⟩ 1 (World.news_of_block (cs:=#[.int .i64 tm,.slice pp bf.length pc]) hA) (by simp [Value.oneCell']) (by rw [htl];unfold maxLen;omega) (by rw [htl];omega) (by have:=HB.out.size;have:=hbA.size;omega)
   rw [htl] at hr6 hO6 hcap
   have hB6:Below w.heap.size w w6:=(Below.up HB.out hBA).grown hg6 (by have:=HB.out.size;have:=hBA.size;omega) hlow
   have z1:w6.cell? ⟨tb,1,none⟩=some (.int .i64 tm):=(World.cell?_of_block (hg6.block tb (by have:=HB.out.size;have:=hBA.size;omega) (fun e=>by have:=hlow tb e.symm;omega))).trans (cell_up hbA n1)
   have z4:w6.cell? ⟨tb,4,none⟩=some (.pointer (some ⟨bb,0,none⟩)):=(World.cell?_of_block (hg6.block tb (by have:=HB.out.size;have:=hBA.size;omega) (fun e=>by have:=hlow tb e.symm;omega))).trans (cell_up hbA n4)
   have a1:=cell_up hbA n1
   have a4:=cell_up hbA n4
   rw [← HWL.out] at hO6
   have HO6:=Lib.hid hO6
   have HB6:=Lib.hid hB6
   have HCAP:=Lib.hid hcap
   clear hO6 hB6 hcap
   clear hA hBA htl hz2 hown hp3 hg6 hlow hbA
   try go_simp
   refine hK _ _ ?_
   clear hK K
   refine wpG.alone 12 rfl (by kernel_rfl) (by kernel_rfl) ⟨a1,a4⟩ (fun K hK=>?_)
   refine wp_append_run (.tmp 21) (.tmp 32) 110 rfl rfl rfl hr6 ?_
   try go_simp
   refine hK _ _ ?_
   clear hK K
   refine wpG.tk 13 ?_
   refine wpG.done (by kernel_rfl) ⟨z1,z4⟩ ?_
   go_wp2_with fail
   go_roundw
   case rel=>exact ⟨k+1,_,_,_,by omega,by go_num,rfl,HCAP,HO6,HB6⟩
   case measure=>simp [intOf];omega
end
end Go.Proofs
namespace Go.Proofs
open Go.RowKit Sc
theorem check_sep {W w:World} {L:List Asn} (h:Hid (Sep W L w)) (im ir iw:Nat) {mv qv rv wv:Value} {blocks last m1 m2:Int} {vs:Vers} {r l:List Ext} {queue:List Tx} {G:Nat→Prop} (t:Int)
  (hm:L[im]? = some (ExtA mv blocks last vs)) (hr:L[ir]? = some (SetA rv m1 r)) (hl:L[iw]? = some (SetA wv m2 l)) (h1:1≤blocks) (hb:blocks≤1048576) (hg:GoodE blocks last vs) (hG:Dom G w) (hq:TxsAt G w qv queue) (gr:SetG r) (gl:SetG l) (nr:r.length≤1000000) (nl:l.length≤1000000) :
  Calls Tryz.prog 326 #[mv,qv,.int .i64 t,rv,wv] w fun e w'=>e=.returned (.int .i64 (checkCode vs queue t r l))∧Hid (Below w.heap.size w w')∧Hid (Sep W L w'):=by
 obtain ⟨F1,f1,_⟩:=h.out.get im hm
 obtain ⟨F2,f2,_⟩:=h.out.get ir hr
 obtain ⟨F3,f3,_⟩:=h.out.get iw hl
 refine (check_any F1 F2 F3 G mv qv rv wv blocks last t m1 m2 vs queue r l w f1 h1 hg hb hG hq f2 f3 gr gl nr nl).mono ?_
 rintro e w' ⟨rfl,hb⟩
 exact ⟨rfl,hb,h.out.up hb⟩
end Go.Proofs
namespace Go.Proofs
open Go.RowKit Sc
section
variable {W w:World} {L:List Asn} {i:Nat} {c:MgC} {s:MgS}
theorem setB_good {blocks:Int} {n:Nat} {t:TxS} (g:TxG blocks n t) (hb:blocks≤1048576):SetG (setB t)∧(setB t).length≤16:=by
 have h:=normE_good' (singles_oke (putsBd g.bg hb))
 refine ⟨h.1,Nat.le_trans h.2.2 ?_⟩
 unfold singles
 rw [List.length_map,bufPuts_len]
 exact g.bl
theorem TxsAt.mono {G G':Nat→Prop} {w:World} {v:Value} {l:List Tx} (h:TxsAt G w v l) (hg:∀ b,G b→G' b):TxsAt G' w v l :=
 SlAt.mono h hg fun _ _ _ ⟨h1,h2,v,h3,h4⟩=>⟨h1,h2,v,h3,PutsAt.mono h4 hg⟩
theorem app_get {α:Type} {L:List α} {A:α}:(L++[A])[L.length]? = some A:=by rw [List.getElem?_append_right (Nat.le_refl _),Nat.sub_self];rfl
theorem app_old {α:Type} {L:List α} {A B:α} {j:Nat} (h:L[j]? = some A):(L++[B])[j]? = some A:=by
 rw [List.getElem?_append_left (List.getElem?_eq_some_iff.1 h).1];exact h
set_option maxRecDepth 100000 in
set_option maxHeartbeats 4000000 in
theorem may_core (h:Hid (Sep W (OL L i (mgrItems c s)) w)) (hc:c.cs.length=s.txs.length) {n:Nat} (g:MgG n s) (hn:s.queue.length≤1000000) {k:Nat} (hks:k < s.txs.length) :
  Calls Tryz.prog 272 #[.pointer (some ⟨c.mb,0,none⟩),.pointer (some ⟨(c.cs[k]'(by omega)).tb,0,none⟩)] w fun e w'=>e=.returned (.int .i64 (mayC s s.txs[k]))∧Hid (Below w.heap.size w w'):=by
 have hkc:k < c.cs.length:=by omega
 obtain ⟨c0,c1,c2,c3,c4,c5,c6,c7,c8,c9⟩:=mgr_cells h.out
 have hcl:=(tx_cells h.out hc hks).1
 have t3:=hcl 3
 have t4:=hcl 4
 have t5:=hcl 5
 change _=some (Value.int .i64 s.txs[k].at') at t3
 change _=some (Value.pointer (some ⟨(c.cs[k]).bb,0,none⟩)) at t4
 change _=some (Value.pointer (some ⟨(c.cs[k]).vb,0,none⟩)) at t5
 have htx:=g.tx _ (List.getElem_mem hks)
 have HGD:=Lib.hid (setB_good htx g.b2)
 have HG:Hid (MgG n s):=g
 have HTX:Hid (TxG s.blocks n s.txs[k]):=htx
 clear hcl c1 c2 c3 c4 c5 c6 c7 g htx
 cases hro:s.ro with
 | true =>
  have HR:Hid (mayC s s.txs[k]=10):=if_pos hro
  rw [hro] at c9
  clear hro
  go_enter Tryz.func272,Tryz.ntmps272
  go_wp2
  go_ret
  exact ⟨by rw [HR.out];rfl,Below.refl _ _⟩
 | false =>
  have HR:Hid (mayC s s.txs[k]=if checkCode s.vs (waitL s) s.txs[k].at' s.txs[k].S (setB s.txs[k])≠0 then checkCode s.vs (waitL s) s.txs[k].at' s.txs[k].S (setB s.txs[k]) else if 1099511627776≤s.given then 11 else 0):=if_neg (by rw [hro];decide)
  rw [hro] at c9
  clear hro
  have hd:Hid (Sep W (OL L i (mgrItems c s)) w.drew):=h.out.up (below_drewN (Below.refl w.heap.size w) 1)
  have HB1:Hid (Below w.heap.size w w.drew):=below_drewN (Below.refl w.heap.size w) 1
  have HWT:=Lib.hid (waiting_core hd hc HG.out hn)
  go_enter Tryz.func272,Tryz.ntmps272
  go_wp2_with fail
  go_upto_region 3 with fail
  refine wp_regionG (fun W=>Below w.heap.size w W) (n:=22) (by kernel_rfl) (by kernel_rfl) ?_
  refine wpG.tk 0 ?_
  refine wpG.tk 1 ?_
  refine wpG.tk 2 ?_
  refine wpG.tk 3 ?_ (hy:=by intro W hW;have hld0:=cell_up hW c0;go_simp;try with_reducible rfl)
  refine wpG.tk 4 ?_
  refine wpG.tk 6 ?_
  refine wpG.tk 7 ?_
  refine wpG.tk 8 ?_
  refine wpG.tk 9 ?_ (hy:=by intro W hW;have hld0:=cell_up hW t3;go_simp;try with_reducible rfl)
  refine wpG.tk 10 ?_
  refine wpG.tk 11 ?_
  refine wpG.tk 12 ?_
  refine wpG.tk 13 ?_ (hy:=by intro W hW;have hld0:=cell_up hW t5;go_simp;try with_reducible rfl)
  refine wpG.tk 15 ?_
  refine wpG.tk 16 ?_
  refine wpG.tk 17 ?_
  refine wpG.tk 18 ?_ (hy:=by intro W hW;have hld0:=cell_up hW t4;go_simp;try with_reducible rfl)
  refine wpG.alone 5 rfl (by kernel_rfl) (by kernel_rfl) (HB1.out) (fun K hK=>?_)
  go_simp
  go_at_call 99
  refine (HWT.out).mono ?_
  rintro e w2 ⟨qp,qc,rfl,hqc,HTX2,HB2⟩
  have HS2:=Lib.hid (hd.out.up HB2.out)
  have HB02:=Lib.hid (Below.up HB1.out HB2.out)
  try go_simp
  refine hK _ _ ?_
  clear hK K
  refine wpG.alone 14 rfl (by kernel_rfl) (by kernel_rfl) (HB02.out) (fun K hK=>?_)
  go_simp
  go_at_call 327
  refine (viewSet_sep HS2 (L.length+(5+(4 * k+3))) (L.length+(5+(4 * k+2))) (OL_get.trans (items_tx hc hks 3 (by omega))) (OL_get.trans (items_tx hc hks 2 (by omega))) HTX.out.sg (HTX.out.sb.all HG.out.b2) HTX.out.sl).mono ?_
  rintro e w3 ⟨b1,rfl,HB3,HS3⟩
  have HB03:=Lib.hid (Below.up HB02.out HB3.out)
  try go_simp
  refine hK _ _ ?_
  clear hK K
  refine wpG.alone 19 rfl (by kernel_rfl) (by kernel_rfl) (HB03.out) (fun K hK=>?_)
  go_simp
  go_at_call 328
  refine (bufSetM HS3 (L.length+(5+(4 * k+1))) (app_old (OL_get.trans (items_tx hc hks 1 (by omega)))) HTX.out.bg HG.out.b2 (by have:=HTX.out.bl;omega)).mono ?_
  rintro e w4 ⟨b2,rfl,HB4,HS4⟩
  have HB04:=Lib.hid (Below.up HB03.out HB4.out)
  have HQ4:Hid (TxsAt (Old w4) w4 (.slice qp s.queue.length qc) (waitL s)):=Go.Proofs.TxsAt.mono (TxsAt.up (TxsAt.up HTX2.out HB3.out) HB4.out) fun q hq=>by
   have a1:=hq.2
   have a3:=HB3.out.size
   have a4:=HB4.out.size
   show q < w4.heap.size
   omega
  try go_simp
  refine hK _ _ ?_
  clear hK K
  refine wpG.alone 20 rfl (by kernel_rfl) (by kernel_rfl) (HB04.out) (fun K hK=>?_)
  go_simp
  go_at_call 326
  refine (check_sep HS4 (L.length+1) (OL L i (mgrItems c s)).length ((OL L i (mgrItems c s))++[SetA (.pointer (some ⟨b1,0,none⟩)) 64 s.txs[k].S]).length s.txs[k].at' (app_old (app_old (OL_get.trans (items_head 1 (by omega))))) (app_old app_get) app_get HG.out.b1 HG.out.b2 HG.out.ge (fun _ h=>h) HQ4.out HTX.out.sg HGD.out.1 (by have:=HTX.out.sl;omega) (by have h2:(normE (singles (bufPuts s.txs[k].buf))).length≤16:=HGD.out.2;omega)).mono ?_
  rintro e w5 ⟨rfl,HB5,HS5⟩
  have HB05:=Lib.hid (Below.up HB04.out HB5.out)
  try go_simp
  refine hK _ _ ?_
  clear hK K
  refine wpG.tk 21 ?_
  refine wpG.done (by kernel_rfl) HB05.out ?_
  have d8:=cell_up HB05.out c8
  change Hid (mayC s s.txs[k]=if checkCode s.vs (waitL s) s.txs[k].at' s.txs[k].S (normE (singles (bufPuts s.txs[k].buf)))≠0 then checkCode s.vs (waitL s) s.txs[k].at' s.txs[k].S (normE (singles (bufPuts s.txs[k].buf))) else if 1099511627776≤s.given then 11 else 0) at HR
  generalize checkCode s.vs (waitL s) s.txs[k].at' s.txs[k].S (normE (singles (bufPuts s.txs[k].buf)))=code at *
  by_cases hcd:code=0
  case neg =>
   have HR2:Hid (mayC s s.txs[k]=code):=by show _=_;rw [HR.out,if_pos hcd]
   have hcz:(code != 0)=true:=by rw [bne_iff_ne];exact hcd
   clear hcd
   go_wp2
   go_ret
   exact ⟨by rw [HR2.out];rfl,HB05⟩
  case pos =>
   subst hcd
   by_cases hgv:1099511627776≤s.given
   ·have HR2:Hid (mayC s s.txs[k]=11):=by show _=_;rw [HR.out,if_neg (by simp),if_pos hgv]
    go_wp2
    go_ret
    exact ⟨by rw [HR2.out];rfl,HB05⟩
   ·have HR2:Hid (mayC s s.txs[k]=0):=by show _=_;rw [HR.out,if_neg (by simp),if_neg hgv]
    go_wp2
    go_ret
    exact ⟨by rw [HR2.out];rfl,HB05⟩
end
end Go.Proofs
namespace Go.Proofs
open Go.RowKit Sc
theorem infoInt64:(Tryz.prog.info? 3).map (fun i=>(i.zero,i.size,i.bytes))=some (some (.int .i64 0),1,8):=by kernel_rfl
section
variable {W w:World} {L:List Asn} {i:Nat} {c:MgC} {s:MgS}
theorem cm_at {k:Nat} (hks:k < s.txs.length) (hst:s.txs[k].st=1):openB s ((k:Int)+1)=true:=by rw [openB_at hks,hst];rfl
theorem cm_wait_items {q:Value} {k:Nat} (hks:k < s.txs.length) {B R:Asn} (hB:B=BoxA c.mb (mgrRow { c with qv:=q } (cmWait s ((k:Int)+1))) 176) (hR:R=RowA 3 1 q (s.queue.length+1) (s.queue.map (Value.int .i64)++[.int .i64 ((k:Int)+1)])) :
  ((mgrItems c { s with given:=s.given+1,txs:=s.txs.set k { s.txs[k] with st:=2,tm:=s.given+1 } }).set 4 R).set 0 B=mgrItems { c with qv:=q } (cmWait s ((k:Int)+1)):=by
 subst hB
 subst hR
 have e:cmWait s ((k:Int)+1)={ s with given:=s.given+1,queue:=s.queue++[(k:Int)+1],txs:=s.txs.set k { s.txs[k] with st:=2,tm:=s.given+1 } }:=by
  unfold cmWait
  rw [txOf_at hks,setTx_at]
 rw [e]
 have e2:RowA 3 1 q (s.queue.length+1) (s.queue.map (Value.int .i64)++[.int .i64 ((k:Int)+1)])=RowA 3 1 q (s.queue++[(k:Int)+1]).length ((s.queue++[(k:Int)+1]).map (Value.int .i64)):=by simp
 rw [e2]
 rfl
set_option maxRecDepth 100000 in
set_option maxHeartbeats 4000000 in
theorem commit_core (h:Hid (Sep W (OL L i (mgrItems c s)) w)) (hc:c.cs.length=s.txs.length) {n:Nat} (g:MgG n s) (hn:s.queue.length≤1000000) (hd:Int) :
  Calls Tryz.prog 222 #[.pointer (some ⟨c.mb,0,none⟩),.int .i64 hd] w fun e w'=>e=.returned (.int .i64 (cmCode s hd))∧∃ q:Value,Hid (Sep W (OL L i (mgrItems { c with qv:=q } (cmNext s hd))) w'):=by
 have HG:Hid (MgG n s):=g
 clear g
 go_enter Tryz.func222,Tryz.ntmps222
 go_wp2_with fail
 refine (open_core h hc hd).mono ?_
 rintro e w1 ⟨rfl,⟨ho,rfl⟩ | ⟨k,hks,hkc,rfl,hst,rfl⟩⟩
 case inl =>
  have HO:Hid (cmCode s hd=5∧cmNext s hd=s):=⟨by unfold cmCode;rw [ho];rfl,by unfold cmNext;rw [ho];rfl⟩
  clear ho
  go_wp2
  go_ret
  exact ⟨by rw [HO.out.1];rfl,c.qv,by rw [HO.out.2];exact h⟩
 case inr =>
 have ho:=cm_at hks hst
 have htx:=HG.out.tx _ (List.getElem_mem hks)
 have hcl:=tx_cells h.out hc hks
 have t4:=hcl.1 4
 have t3:=hcl.1 3
 change _=some (Value.pointer (some ⟨(c.cs[k]).bb,0,none⟩)) at t4
 change _=some (Value.int .i64 s.txs[k].at') at t3
 have HLN:=Lib.hid (bufLenM h (L.length+(5+(4 * k+1))) (OL_get.trans (items_tx hc hks 1 (by omega))) htx.bg HG.out.b2 (by have:=htx.bl;omega))
 have HTX:Hid (TxG s.blocks n s.txs[k]):=htx
 have HO:Hid (openB s ((k:Int)+1)=true):=ho
 clear htx ho hcl
 go_wp2_with fail
 refine (HLN.out).mono ?_
 rintro e w2 ⟨rfl,HB2⟩
 have HS2:=Lib.hid (h.out.up HB2.out)
 have u3:=cell_up HB2.out t3
 clear HLN t3 t4
 by_cases hz:s.txs[k].buf.length=0
 case pos =>
  have HR:Hid (cmCode s ((k:Int)+1)=0∧cmNext s ((k:Int)+1)=endNext { s with txs:=s.txs.set k { s.txs[k] with tm:=s.txs[k].at' } } ((k:Int)+1) 3 0):=by
   refine ⟨?_,?_⟩
   ·unfold cmCode;rw [if_pos HO.out,txOf_at hks,if_pos hz]
   ·unfold cmNext;rw [if_pos HO.out,txOf_at hks,if_pos hz,setTx_at]
  have hcl2:=tx_cells HS2.out hc hks
  have f1:=hcl2.2 1
  have t1:=hcl2.1 1
  change _=some (Value.int .i64 s.txs[k].tm) at t1
  have hS3:=tx_store HS2.out hc hks 1 (Value.int .i64 s.txs[k].at') { s.txs[k] with tm:=s.txs[k].at' } rfl rfl rfl rfl rfl
  have hc3:c.cs.length=(s.txs.set k { s.txs[k] with tm:=s.txs[k].at' }).length:=by rw [List.length_set];exact hc
  have HE:=Lib.hid (end_core (Lib.hid hS3) hc3 (k:=k) (by simpa using hks) 3 0)
  clear hcl2 hS3
  rw [hz]
  clear hz
  go_wp2_with fail
  refine (HE.out).mono ?_
  rintro e w3 ⟨rfl,HS3⟩
  go_wp2
  go_ret
  exact ⟨by rw [HR.out.1];rfl,c.qv,by rw [HR.out.2];exact HS3⟩
 case neg =>
  have hzn:¬ ((s.txs[k].buf.length:Int)=0):=by omega
  have hzb:((s.txs[k].buf.length:Int) == 0)=false:=by rw [beq_eq_false_iff_ne];exact hzn
  have HR:Hid (cmCode s ((k:Int)+1)=mayC s s.txs[k]∧cmNext s ((k:Int)+1)=if mayC s s.txs[k]≠0 then endNext s ((k:Int)+1) 4 (mayC s s.txs[k]) else cmWait s ((k:Int)+1)):=by
   refine ⟨?_,?_⟩
   ·unfold cmCode;rw [if_pos HO.out,txOf_at hks,if_neg hz]
   ·unfold cmNext;rw [if_pos HO.out,txOf_at hks,if_neg hz]
  have HM:=Lib.hid (may_core HS2 hc HG.out hn hks)
  clear hz
  go_wp2_with fail
  refine (HM.out).mono ?_
  rintro e w3 ⟨rfl,HB3⟩
  have HS3:=Lib.hid (HS2.out.up HB3.out)
  clear HM u3 hzn hzb
  by_cases hm:mayC s s.txs[k]=0
  case neg =>
   have HR2:Hid (cmNext s ((k:Int)+1)=endNext s ((k:Int)+1) 4 (mayC s s.txs[k])):=by show _=_;rw [HR.out.2,if_pos hm]
   have HR1:Hid (cmCode s ((k:Int)+1)=mayC s s.txs[k]):=HR.out.1
   clear HR
   generalize mayC s s.txs[k]=code at *
   have hcz:(code != 0)=true:=by rw [bne_iff_ne];exact hm
   have HE:=Lib.hid (end_core HS3 hc hks 4 code)
   clear hm
   go_wp2_with fail
   refine (HE.out).mono ?_
   rintro e w4 ⟨rfl,HS4⟩
   go_wp2
   go_ret
   exact ⟨by rw [HR1.out];rfl,c.qv,by rw [HR2.out];exact HS4⟩
  case pos =>
   have HR2:Hid (cmNext s ((k:Int)+1)=cmWait s ((k:Int)+1)):=by show _=_;rw [HR.out.2,if_neg (by rw [hm];simp)]
   have HR1:Hid (cmCode s ((k:Int)+1)=0):=by show _=_;rw [HR.out.1,hm]
   have hgv:=(mayC_zero hm).2.2
   have hg0:0≤s.given:=by have:=HG.out.lt;omega
   rw [hm]
   clear HR hm
   obtain ⟨c0,_,_,c3,_,_,_,_,c8,_⟩:=mgr_cells HS3.out
   have f8:=mgr_free HS3.out 8
   have hS4:=mgr_store HS3.out 8 (.int .i64 (s.given+1)) { s with given:=s.given+1 } rfl rfl rfl rfl rfl rfl rfl rfl
   obtain ⟨_,_,_,_,_,_,_,_,d8,_⟩:=mgr_cells hS4
   have hcl4:=tx_cells hS4 hc hks
   have t0:=hcl4.1 0
   have t1:=hcl4.1 1
   change _=some (Value.int .i64 s.txs[k].st) at t0
   change _=some (Value.int .i64 s.txs[k].tm) at t1
   have f0:=hcl4.2 0
   have f1:=hcl4.2 1
   have hS5:=tx_store hS4 hc hks 0 (Value.int .i64 2) { s.txs[k] with st:=2 } rfl rfl rfl rfl rfl
   have hc5:c.cs.length=(s.txs.set k { s.txs[k] with st:=2 }).length:=by rw [List.length_set];exact hc
   have hS6:=tx_store hS5 hc5 (k:=k) (by simpa using hks) 1 (Value.int .i64 (s.given+1)) { s.txs[k] with st:=2,tm:=s.given+1 } (by simp [txRow]) (by simp) (by simp) (by simp) (by simp)
   simp only [List.set_set] at hS6
   obtain ⟨_,_,_,e3,_⟩:=mgr_cells hS6
   obtain ⟨qp,qc,hq0,hql⟩:=mgr_queue hS6
   obtain ⟨ii,hii,hiz,hiy,hix⟩:=info_parts infoInt64
   have hi4:(OL L i (mgrItems c { s with given:=s.given+1,txs:=s.txs.set k { s.txs[k] with st:=2,tm:=s.given+1 } }))[L.length+4]? = some (RowA 3 1 c.qv s.queue.length (s.queue.map (Value.int .i64))):=OL_get.trans (items_head 4 (by omega))
   have hz6:(((w3.setCell ⟨c.mb,8,none⟩ (.int .i64 (s.given+1))).setCell ⟨(c.cs[k]).tb,0,none⟩ (.int .i64 2)).setCell ⟨(c.cs[k]).tb,1,none⟩ (.int .i64 (s.given+1))).heap.size=w3.heap.size:=by simp [World.setCell]
   obtain ⟨gg,cap,w7,hr7,hS7⟩:=hS6.row_push (P:=Tryz.prog) (L.length+4) hi4 30 30 ii _ 8 Tryz.underlying30 hii hiz hiy hix rfl (by decide) (cs:=#[.int .i64 ((k:Int)+1)]) rfl (by simp [Value.oneCell']) (by unfold maxLen;omega) (by omega) w3.heap.size hz6
   rw [OL_set] at hS7
   have hi0:(OL L i ((mgrItems c { s with given:=s.given+1,txs:=s.txs.set k { s.txs[k] with st:=2,tm:=s.given+1 } }).set 4 (RowA 3 1 (.slice (some ⟨gg,0,none⟩) (s.queue.length+1) cap) (s.queue.length+1) (s.queue.map (Value.int .i64)++[.int .i64 ((k:Int)+1)]))))[L.length+0]? = some (BoxA c.mb (mgrRow c { s with given:=s.given+1,txs:=s.txs.set k { s.txs[k] with st:=2,tm:=s.given+1 } }) 176):=OL_get.trans rfl
   have hS8:=hS7.box_store (L.length+0) hi0 3 (.slice (some ⟨gg,0,none⟩) (s.queue.length+1) cap)
   rw [OL_set] at hS8
   have hS9:Sep W (OL L i (mgrItems { c with qv:=.slice (some ⟨gg,0,none⟩) (s.queue.length+1) cap } (cmWait s ((k:Int)+1)))) (w7.setCell ⟨c.mb,3,none⟩ (.slice (some ⟨gg,0,none⟩) (s.queue.length+1) cap)):=(cm_wait_items (c:=c) hks (q:=.slice (some ⟨gg,0,none⟩) (s.queue.length+1) cap) rfl rfl) ▸ hS8
   obtain ⟨F0,hF0,_⟩:=hS7.get (L.length+0) hi0
   have f3:w7.frozen? ⟨c.mb,3,none⟩=false:=frozen_row0 hF0.2 3
   have q3:w7.cell? ⟨c.mb,3,none⟩=some c.qv:=by rw [cell_row hF0.2];rfl
   have HFIN:=Lib.hid hS9
   clear hS4 hS5 hS6 hS7 hS8 hS9 hF0 hi0 hi4 hcl4
   rw [hq0] at c3 e3 hr7 q3
   have HQ0:=Lib.hid hq0
   clear hq0
   generalize (c.cs[k]).tb=tb at *
   go_wp2_with (at_builtin;refine wpList_append_run rfl _ _ 30 rfl rfl rfl hr7 ?_)
   go_ret
   exact ⟨by rw [HR1.out];rfl,.slice (some ⟨gg,0,none⟩) (s.queue.length+1) cap,by rw [HR2.out];exact HFIN⟩
end
end Go.Proofs
namespace Sc
open Go Go.RowKit
def TxsA (v:Value) (l:List Tx):Asn:=⟨fun F w=>TxsAt F w v l,fun _ _ _ hs _ h=>h.same hs⟩
end Sc
namespace Go.Proofs
open Go.RowKit Sc
theorem txCut_to (p:Option Addr) (n c j:Nat) (hj:j≤c) :
  ∃ A:Option Addr,(∀ W,(Instr.slice 110 (.slice p n c) none (some (.int .i64 (j:Int))) none).run Tryz.prog W=.ok (.slice A j c) W)∧(A=none→p=none)∧∀ b o,p=some ⟨b,o,none⟩→A=some ⟨b,o,none⟩:=by
 obtain ⟨i0,hi0,_⟩:=info_parts infoTx
 have hu:Tryz.prog.underlying 110=some (.slice (Tryz.prog.elem 110)):=by kernel_rfl
 have he:Tryz.prog.elem 110=198:=by kernel_rfl
 refine ⟨if c=0 then p else p.map (fun a=>a.add (0 * Tryz.prog.cellsOf 198)),fun W=>?_,fun h=>?_,fun b o h=>?_⟩
 ·rw [run_slice_h (P:=Tryz.prog) (w:=W) 110 _ n c hu .i64 (j:Int) (by omega) (by omega),he,run_sizeOf (P:=Tryz.prog) W hi0]
  simp only [Result.andThen,sliced,Nat.sub_zero,Int.toNat_natCast]
 ·split at h
  ·exact h
  ·exact Option.map_eq_none_iff.1 h
 ·subst h
  simp [Addr.add]
theorem TxsAt.take {G:Nat→Prop} {w:World} {p A:Option Addr} {c:Nat} {l:List Tx} (h:TxsAt G w (.slice p l.length c) l) (j:Nat) (hj:j≤l.length) (h1:A=none→p=none) (h2:∀ b o,p=some ⟨b,o,none⟩→A=some ⟨b,o,none⟩):TxsAt G w (.slice A j c) (l.take j):=by
 obtain ⟨p',c',e,a1,a2,a3,a4⟩:=h
 cases e
 have hl:(l.take j).length=j:=by rw [List.length_take];omega
 refine ⟨A,c,by rw [hl],by omega,a2,fun e=>?_,fun i hi=>?_⟩
 ·have:=a3 (h1 e)
  omega
 ·rw [hl] at hi
  obtain ⟨b,o,e,hg,hx⟩:=a4 i (by omega)
  rw [List.getElem_take]
  exact ⟨b,o,h2 b o e,hg,hx⟩
section
variable {W w:World} {L:List Asn} {i:Nat} {c:MgC} {s:MgS}
set_option maxRecDepth 100000 in
set_option maxHeartbeats 4000000 in
theorem batch_core (h:Hid (Sep W (OL L i (mgrItems c s)) w)) (hc:c.cs.length=s.txs.length) {n:Nat} (g:MgG n s) (hn:s.queue.length≤1000000) (hnn:n≤1000000) (hi:i < L.length) :
  Calls Tryz.prog 53 #[.pointer (some ⟨c.mb,0,none⟩)] w fun e w' =>
   (baCode s≠0∧e=.returned (.tuple #[.agg #[.int .i64 0,.slice none 0 0],.int .i64 (baCode s)])∧Hid (Sep W (OL L i (mgrItems c s)) w')) ∨
   (baCode s=0∧∃ p cp,e=.returned (.tuple #[.agg #[.int .i64 (s.num+1),.slice p (formN (waitL s)) cp],.int .i64 0]) ∧
     Hid (Sep W (OL (L++[TxsA (.slice p (formN (waitL s)) cp) ((waitL s).take (formN (waitL s)))]) i (mgrItems c (baNext s))) w')):=by
 have HG:Hid (MgG n s):=g
 have h':Hid (Sep W (OL (L++[BoxA w.heap.size #[.int .i64 0,.slice none 0 0] 112]) i (mgrItems c s)) (w.alloc (.cells #[.int .i64 0,.slice none 0 0] 112))):=h.out.boxed hi _ _
 obtain ⟨c0,_,_,c3,c4,c5,_⟩:=mgr_cells h'.out
 obtain ⟨qp,qc,hq0,hql⟩:=mgr_queue h'.out
 rw [hq0] at c3
 have HI:=Lib.hid hi
 have HU:=Lib.hid (h'.out.unbox hi)
 rw [List.append_nil] at HU
 clear g h hq0 hi
 by_cases ho:0 < s.out
 case pos =>
  have HC:Hid (baCode s=16):=if_pos ho
  go_enter Tryz.func53,Tryz.ntmps53
  go_wp2_with fail
  refine (gone_any c.mb c.m _ c0).mono ?_
  rintro e w1 ⟨rfl,rfl⟩
  go_wp2
  (try simp only [Exit.inBlock,Exit.then])
  refine ret_cell_tmp rfl (b:=w.heap.size) (t:=112) (fr:=(0,0)) rfl (cs:=#[.int .i64 0,.slice none 0 0]) ?_ (Tryz.underlying112) rfl (by kernel_rfl) rfl ?_
  ·exact heap_alloc_new w _
  ·exact .inl ⟨by rw [HC.out];decide,by rw [HC.out];rfl,HU⟩
 case neg =>
 by_cases hq:s.queue.length=0
 case pos =>
  have HC:Hid (baCode s=14):=by show _=_;unfold baCode;rw [if_neg ho,if_pos hq]
  have hqz:((s.queue.length:Int) == 0)=true:=by rw [beq_iff_eq];omega
  go_enter Tryz.func53,Tryz.ntmps53
  go_wp2_with fail
  refine (gone_any c.mb c.m _ c0).mono ?_
  rintro e w1 ⟨rfl,rfl⟩
  go_wp2
  (try simp only [Exit.inBlock,Exit.then])
  refine ret_cell_tmp rfl (b:=w.heap.size) (t:=112) (fr:=(0,0)) rfl (cs:=#[.int .i64 0,.slice none 0 0]) ?_ (Tryz.underlying112) rfl (by kernel_rfl) rfl ?_
  ·exact heap_alloc_new w _
  ·exact .inl ⟨by rw [HC.out];decide,by rw [HC.out];rfl,HU⟩
 case neg =>
  have HC:Hid (baCode s=0):=by show _=_;unfold baCode;rw [if_neg ho,if_neg hq]
  have hqz:((s.queue.length:Int) == 0)=false:=by rw [beq_eq_false_iff_ne];omega
  have HN:Hid (baNext s={ s with out:=formN (waitL s) }):=if_pos HC.out
  have hfb:=formN_bd (waitL s)
  rw [waitL_len] at hfb
  have HFB:=Lib.hid hfb
  have HWT:=Lib.hid (waiting_core h' hc HG.out hn)
  clear hfb hq
  go_enter Tryz.func53,Tryz.ntmps53
  go_wp2_with fail
  refine (gone_any c.mb c.m _ c0).mono ?_
  rintro e w1 ⟨rfl,rfl⟩
  go_wp2_with fail
  refine (HWT.out).mono ?_
  rintro e w2 ⟨p,cp,rfl,hcp,HT2,HB2⟩
  have hS2:=(h'.out.new HB2.out (TxsA (.slice p s.queue.length cp) (waitL s)) (fun _ h=>h) HT2.out).shift (by simp;have:=HI.out;omega)
  rw [List.append_assoc] at hS2
  have HS2:=Lib.hid hS2
  have HT3:Hid (TxsAt (Old w2) w2 (.slice p s.queue.length cp) (waitL s)):=Go.Proofs.TxsAt.mono HT2.out fun q hq=>hq.2
  clear hS2 c3 c4 c5 c0
  go_wp2_with fail
  refine (form_any (Old w2) _ (waitL s) w2 (fun _ h=>h) HT3.out).mono ?_
  rintro e w3 ⟨rfl,HB3⟩
  have HS3:=Lib.hid (HS2.out.up HB3.out)
  have f4:=mgr_free HS3.out 4
  obtain ⟨_,_,_,_,d4,d5,_⟩:=mgr_cells HS3.out
  have hS4:=mgr_store HS3.out 4 (.int .i64 (formN (waitL s))) { s with out:=formN (waitL s) } rfl rfl rfl rfl rfl rfl rfl rfl
  rw [← HN.out] at hS4
  obtain ⟨hnum0,hnum1⟩:=HG.out.nm
  have hnum2:s.num+1≤9223372036854775807:=by omega
  obtain ⟨A,hA1,hA2,hA3⟩:=txCut_to p s.queue.length cp (formN (waitL s)) (by have:=HFB.out;omega)
  have hS5:=hS4.up (below_drewN (Below.refl (w3.setCell ⟨c.mb,4,none⟩ (.int .i64 (formN (waitL s)))).heap.size (w3.setCell ⟨c.mb,4,none⟩ (.int .i64 (formN (waitL s))))) 1)
  obtain ⟨_,_,_,_,e4,e5,_⟩:=mgr_cells hS5
  have hbi:(OL (L++([BoxA w.heap.size #[.int .i64 0,.slice none 0 0] 112]++[TxsA (.slice p s.queue.length cp) (waitL s)])) i (mgrItems c (baNext s)))[L.length]? = some (BoxA w.heap.size #[.int .i64 0,.slice none 0 0] 112):=by
   rw [OL_old (by simp) (by have:=HI.out;omega),List.getElem?_append_right (Nat.le_refl _),Nat.sub_self];rfl
  have hti:(OL (L++([BoxA w.heap.size #[.int .i64 0,.slice none 0 0] 112]++[TxsA (.slice p s.queue.length cp) (waitL s)])) i (mgrItems c (baNext s)))[L.length+1]? = some (TxsA (.slice p s.queue.length cp) (waitL s)):=by
   rw [OL_old (by simp) (by have:=HI.out;omega),List.getElem?_append_right (by omega),show L.length+1 - L.length=1 by omega];rfl
  have hN4:(baNext s).out=(formN (waitL s):Int):=by rw [HN.out]
  have hN5:(baNext s).num=s.num:=by rw [HN.out]
  rw [hN4] at e4
  rw [hN5] at e5
  have HS5:=Lib.hid hS5
  have HS4:=Lib.hid hS4
  clear hS4 hS5
  obtain ⟨FB,hFB,_⟩:=HS3.out.get L.length (A:=BoxA w.heap.size #[.int .i64 0,.slice none 0 0] 112) (by rw [OL_old (by simp) (by have:=HI.out;omega),List.getElem?_append_right (Nat.le_refl _),Nat.sub_self];rfl)
  have bf0:w3.frozen? ⟨w.heap.size,0,none⟩=false:=frozen_row0 hFB.2 0
  have bf1:w3.frozen? ⟨w.heap.size,1,none⟩=false:=frozen_row0 hFB.2 1
  have bc0:w3.cell? ⟨w.heap.size,0,none⟩=some (.int .i64 0):=by rw [cell_row hFB.2];rfl
  have bc1:w3.cell? ⟨w.heap.size,1,none⟩=some (.slice none 0 0):=by rw [cell_row hFB.2];rfl
  clear hFB
  go_upto_region 9 with fail
  refine wp_regionG (fun W=>W.cell? ⟨c.mb,4,none⟩=some (.int .i64 (formN (waitL s)))∧W.cell? ⟨c.mb,5,none⟩=some (.int .i64 s.num)) (n:=14) (by kernel_rfl) (by kernel_rfl) ?_
  refine wpG.tk 0 ?_
  refine wpG.tk 1 ?_
  refine wpG.tk 2 ?_
  refine wpG.tk 3 ?_ (hy:=by intro W hW;have hld0:=hW.2;go_simp;try with_reducible rfl)
  refine wpG.tk 4 ?_
  refine wpG.tk 5 ?_
  refine wpG.tk 6 ?_
  refine wpG.tk 7 ?_
  refine wpG.tk 8 ?_
  refine wpG.tk 9 ?_ (hy:=by intro W hW;have hld0:=hW.1;go_simp;try with_reducible rfl)
  refine wpG.tk 10 ?_
  refine wpG.tk 11 ?_
  refine wpG.alone 12 rfl (by kernel_rfl) (by kernel_rfl) ⟨e4,e5⟩ (fun K hK=>?_)
  go_simp
  have hs6:=HS4.out.box_store L.length hbi 0 (.int .i64 (s.num+1))
  have hs7:=hs6.box_store L.length (List.getElem?_set_self (List.getElem?_eq_some_iff.1 hbi).1) 1 (.slice A (formN (waitL s)) cp)
  rw [List.set_set] at hs7
  have hs8:=hs7.up (below_drewN (Below.refl _ _) 1)
  have hs9:=hs8.imp (L.length+1) (A:=TxsA (.slice p s.queue.length cp) (waitL s)) (A':=TxsA (.slice A (formN (waitL s)) cp) ((waitL s).take (formN (waitL s)))) (by rw [List.getElem?_set_ne (by omega)];exact hti) fun F _ hF=>TxsAt.take (l:=waitL s) (by rw [waitL_len];exact hF) _ (formN_bd _).1 hA2 hA3
  have hle:((OL (L++([BoxA w.heap.size #[.int .i64 0,.slice none 0 0] 112]++[TxsA (.slice p s.queue.length cp) (waitL s)])) i (mgrItems c (baNext s))).set L.length (BoxA w.heap.size #[.int .i64 (s.num+1),.slice A (formN (waitL s)) cp] 112)).set (L.length+1) (TxsA (.slice A (formN (waitL s)) cp) ((waitL s).take (formN (waitL s))))=OL (L++(BoxA w.heap.size #[.int .i64 (s.num+1),.slice A (formN (waitL s)) cp] 112 :: [TxsA (.slice A (formN (waitL s)) cp) ((waitL s).take (formN (waitL s)))])) i (mgrItems c (baNext s)):=by
   unfold OL
   have hiL:=HI.out
   rw [List.set_append_left _ _ hiL,List.set_append_left _ _ hiL,List.append_assoc,List.append_assoc]
   have e0:(L.set i TrueA).length=L.length:=List.length_set ..
   rw [List.set_append_right _ _ (by rw [e0];exact Nat.le_refl _),List.set_append_right _ _ (by rw [e0];omega),e0,Nat.sub_self,show L.length+1 - L.length=1 by omega,List.append_assoc (L.set i TrueA)]
   rfl
  have hs10:Sep W (OL (L++(BoxA w.heap.size #[.int .i64 (s.num+1),.slice A (formN (waitL s)) cp] 112 :: [TxsA (.slice A (formN (waitL s)) cp) ((waitL s).take (formN (waitL s)))])) i (mgrItems c (baNext s))) _:=hle ▸ hs9
  have HBX:Hid (_∧_):=⟨hs10.box_at HI.out 0,hs10⟩
  obtain ⟨FX,hFX,_⟩:=hs10.get L.length (A:=BoxA w.heap.size #[.int .i64 (s.num+1),.slice A (formN (waitL s)) cp] 112) (by rw [OL_old (by simp) (by have:=HI.out;omega),List.getElem?_append_right (Nat.le_refl _),Nat.sub_self];rfl)
  have hheap:=hFX.2
  obtain ⟨_,_,_,_,g4,g5,_⟩:=mgr_cells hs10
  rw [hN4] at g4
  rw [hN5] at g5
  have HFIN:=Lib.hid (hs10.unbox HI.out)
  have HHP:=Lib.hid hheap
  have hwr:IntKind.i64.wrap (s.num+1)=s.num+1:=IntWalk.i64_in _ (by omega)
  rw [hwr]
  clear hs6 hs7 hs8 hs9 hle hs10 HBX hFX hheap hti hbi bc0 bc1 bf0 bf1 d4 d5 f4
  try go_simp
  refine hK _ _ ?_
  clear hK K
  refine wpG.tk 13 ?_
  refine wpG.done (by kernel_rfl) ⟨g4,g5⟩ ?_
  go_wp2
  (try simp only [Exit.inBlock,Exit.then])
  refine ret_cell_tmp rfl (b:=w.heap.size) (t:=112) (fr:=(0,0)) rfl (cs:=#[.int .i64 (s.num+1),.slice A (formN (waitL s)) cp]) ?_ (Tryz.underlying112) rfl (by kernel_rfl) rfl ?_
  ·exact HHP.out
  ·exact .inr ⟨HC.out,A,cp,rfl,HFIN⟩
end
end Go.Proofs
namespace Go.Proofs
open Go.RowKit Sc
theorem addr_add (g o j:Nat):(⟨g,o,none⟩:Addr).add j=⟨g,o+j,none⟩:=by unfold Addr.add;split <;> simp_all
theorem slice_to (g n c j:Nat) (hj:j≤c) (W:World) :
  (Instr.slice 30 (.slice (some ⟨g,0,none⟩) n c) none (some (.int .i64 (j:Int))) none).run Tryz.prog W=.ok (.slice (some ⟨g,0,none⟩) j c) W:=by
 obtain ⟨i0,hi0,_⟩:=info_parts infoInt
 have hu:Tryz.prog.underlying 30=some (.slice (Tryz.prog.elem 30)):=by kernel_rfl
 have he:Tryz.prog.elem 30=3:=by kernel_rfl
 rw [run_slice_h (P:=Tryz.prog) (w:=W) 30 _ n c hu .i64 (j:Int) (by omega) (by omega),he,run_sizeOf (P:=Tryz.prog) W hi0]
 simp only [Result.andThen,sliced,Option.map_some,addr_add,Nat.zero_mul,Nat.add_zero,ite_self,Nat.sub_zero,Int.toNat_natCast]
theorem slice_from (g n c j:Nat) (hn:j+1≤n) (hc:n≤c) :
  ∃ A:Addr,(∀ W,(Instr.slice 30 (.slice (some ⟨g,0,none⟩) n c) (some (.int .i64 ((j:Int)+1))) none none).run Tryz.prog W=.ok (.slice (some A) (n - (j+1)) (c - (j+1))) W)∧(n=j+1∨∀ i,A.add i=⟨g,j+1+i,none⟩):=by
 obtain ⟨i0,hi0,_⟩:=info_parts infoInt
 have hu:Tryz.prog.underlying 30=some (.slice (Tryz.prog.elem 30)):=by kernel_rfl
 have he:Tryz.prog.elem 30=3:=by kernel_rfl
 have hk:Tryz.prog.cellsOf 3=1:=by kernel_rfl
 have ht:((j:Int)+1).toNat=j+1:=by omega
 by_cases h:c=j+1
 ·refine ⟨⟨g,0,none⟩,fun W=>?_,.inl (by omega)⟩
  rw [run_slice_l (P:=Tryz.prog) (w:=W) 30 _ n c hu .i64 ((j:Int)+1) (by omega) (by omega),he,run_sizeOf (P:=Tryz.prog) W hi0]
  simp only [Result.andThen,sliced,ht,if_pos h]
 ·refine ⟨⟨g,j+1,none⟩,fun W=>?_,.inr fun i=>addr_add _ _ _⟩
  rw [run_slice_l (P:=Tryz.prog) (w:=W) 30 _ n c hu .i64 ((j:Int)+1) (by omega) (by omega),he,run_sizeOf (P:=Tryz.prog) W hi0]
  simp only [Result.andThen,sliced,ht,if_neg h,Option.map_some,addr_add,hk,Nat.mul_one,Nat.zero_add]
end Go.Proofs
namespace Go.Proofs
open Go.RowKit Sc
set_option maxHeartbeats 400000 in
theorem cloneI_some (a:Addr) (n c:Nat) (news:List Value) (w:World) (hlen:Hid (news.length=n * 1)) (hcell:Hid (∀ j u,news[j]? = some u→w.cell? (a.add j)=some u)) (hone:Hid (∀ u∈news,u.oneCell'=true)) (hn:Hid (n≤1000000)) :
  Calls Tryz.prog 104 #[.slice (some a) n c] w fun e w'=>∃ v',e=.returned v'∧Hid (w'.ownsRow w.heap.size 3 1 v' n news)∧Hid (Below w.heap.size w w'):=by
 obtain ⟨i0,hi,hz0,hz1,hz2⟩:=info_parts infoInt64
 have heq:=fun (W:World)=>Lib.run_eql_slice_nil (P:=Tryz.prog) W 30 3 (some a) n c 0 0 Tryz.underlying30
 go_enter Tryz.func104,Tryz.ntmps104
 go_wp2_with (at_builtin;refine wpList_append_own _ rfl _ _ 30 rfl w.heap.size 3 i0 (.int .i64 0) 1 8 Tryz.underlying30 hi hz0 hz1 hz2 rfl (by decide) _ 0 [] rfl (World.ownsRow_made w _ 0 (Nat.le_refl _) (by decide) rfl) a n c news rfl hlen.out (fun j u hj=>cell_alloc_old (hcell.out j u hj)) hone.out (by have:=hn.out;unfold maxLen;omega) (by have:=hn.out;omega) (by simp) ?_;intro v' w1 hown hgrow hnil)
 go_ret
 refine ⟨v',rfl,by unfold Hid;simpa using hown,?_⟩
 refine ((Below.refl _ _).alloc (Nat.le_refl _) _).grown hgrow (by simp) (fun k hk=>?_)
 cases hk;exact Nat.le_refl _
theorem doStep_more (code:Int) (s:MgS) (h:Int):(doStep code s h).num=s.num∧(doStep code s h).out=s.out:=by
 unfold doStep
 split <;> exact ⟨rfl,rfl⟩
theorem doneTo_more (code:Int) (s:MgS):∀ j,j≤s.queue.length→(doneTo code s j).num=s.num∧(doneTo code s j).out=s.out
 | 0,_=>by rw [doneTo_zero];exact ⟨rfl,rfl⟩
 | j+1,h=>by
  obtain ⟨h1,h2⟩:=doneTo_more code s j (by omega)
  obtain ⟨k1,k2⟩:=doStep_more code (doneTo code s j) s.queue[j]
  rw [doneTo_succ code s (by omega)]
  exact ⟨k1.trans h1,k2.trans h2⟩
def TxVA (b o:Nat) (pv:Nat→Value) (l:List Tx):Asn:=⟨fun F w=>F b∧∀ i (h:i < l.length),w.cell? ⟨b,o+i * 2,none⟩=some (.int .i64 l[i].time)∧w.cell? ⟨b,o+i * 2+1,none⟩=some (pv i)∧I64 l[i].time∧PutsAt F w (pv i) l[i].puts,
 fun F w w' hs _ h=>⟨h.1,fun i hi=>by
  obtain ⟨h1,h2,h3,h4⟩:=h.2 i hi
  exact ⟨by rw [hs.cell h.1];exact h1,by rw [hs.cell h.1];exact h2,h3,h4.same hs⟩⟩⟩
theorem TxsAt.told {F:Nat→Prop} {w:World} {A:Option Addr} {n c:Nat} {l:List Tx} (h:TxsAt F w (.slice A n c) l) (hl:0 < l.length):∃ b o pv,A=some ⟨b,o,none⟩∧(TxVA b o pv l).P F w:=by
 obtain ⟨p',c',e,_,_,_,a4⟩:=h
 cases e
 obtain ⟨b,o,rfl,hg,_⟩:=a4 0 hl
 have hx:∀ i,∃ v,∀ hi:i < l.length,w.cell? ⟨b,o+i * 2+1,none⟩=some v∧PutsAt F w v l[i].puts:=fun i=>by
  by_cases hi:i < l.length
  ·obtain ⟨b',o',e',_,_,_,v,h1,h2⟩:=a4 i hi
   cases e'
   exact ⟨v,fun _=>⟨h1,h2⟩⟩
  ·exact ⟨undef,fun h=>absurd h hi⟩
 obtain ⟨pv,hpv⟩:=Classical.axiomOfChoice hx
 refine ⟨b,o,pv,rfl,hg,fun i hi=>?_⟩
 obtain ⟨b',o',e',_,h1,h2,_⟩:=a4 i hi
 cases e'
 exact ⟨h1,(hpv i hi).1,h2,(hpv i hi).2⟩
section
variable {W w:World} {L:List Asn} {i:Nat} {c:MgC} {s:MgS}
theorem items_ext (last0':Int) (vs':Vers):(mgrItems c s).set 1 (ExtA (pt c.m) s.blocks last0' vs')=mgrItems c { s with last0:=last0',vs:=vs' }:=rfl
theorem queue_items {q:Value} {qu:List Int} {B R:Asn} (hB:B=BoxA c.mb (mgrRow { c with qv:=q } { s with queue:=qu }) 176) (hR:R=RowA 3 1 q qu.length (qu.map (Value.int .i64))) :
  ((mgrItems c s).set 4 R).set 0 B=mgrItems { c with qv:=q } { s with queue:=qu }:=by
 subst hB
 subst hR
 rfl
theorem ints_at {W w:World} {L:List Asn} {j g cap:Nat} {l:List Int} {n:Nat} (h:Sep W L w) (hj:L[j]? = some (RowA 3 1 (.slice (some ⟨g,0,none⟩) n cap) n (l.map (Value.int .i64)))) {k:Nat} (hk:k < n) (hl:l.length=n):w.cell? ⟨g,k,none⟩=some (.int .i64 (l[k]'(by omega))):=by
 have:=(h.row_cell j hj k (by omega)).1
 rw [this,List.getElem?_map,List.getElem?_eq_getElem (by omega)];rfl
set_option maxRecDepth 100000 in
set_option maxHeartbeats 8000000 in
theorem done_core (h:Hid (Sep W (OL L i (mgrItems c s)) w)) (hc:c.cs.length=s.txs.length) {n:Nat} (g:MgG n s) (hn:s.queue.length≤1000000) (hnn:n≤900000) (h8:s.out≤8) (hi:i < L.length) (code:Int) :
  Calls Tryz.prog 55 #[.pointer (some ⟨c.mb,0,none⟩),.int .i64 code] w fun e w'=>e=.returned (.int .i64 (doneCode s))∧∃ q:Value,Hid (Sep W (OL L i (mgrItems { c with qv:=q } (doneNext s code))) w'):=by
 have HG:Hid (MgG n s):=g
 have HI:=Lib.hid hi
 obtain ⟨c0,_,_,c3,c4,_⟩:=mgr_cells h.out
 obtain ⟨ho1,ho2⟩:=g.o1
 clear g hi
 by_cases ho:s.out=0
 case pos =>
  have HC:Hid (doneCode s=14∧doneNext s code=s):=⟨if_pos ho,if_pos ho⟩
  rw [ho] at c4
  go_enter Tryz.func55,Tryz.ntmps55
  go_wp2_with fail
  refine (gone_any c.mb c.m _ c0).mono ?_
  rintro e w1 ⟨rfl,rfl⟩
  go_wp2
  go_ret
  exact ⟨by rw [HC.out.1];rfl,c.qv,by rw [HC.out.2];exact h⟩
 case neg =>
 obtain ⟨j,hj⟩:∃ j:Nat,s.out=(j:Int)+1:=⟨(s.out - 1).toNat,by omega⟩
 have hjq:j+1≤s.queue.length:=by omega
 have hj8:j+1≤8:=by omega
 have hoz:(s.out == 0)=false:=by rw [beq_eq_false_iff_ne];exact ho
 have HC:Hid (doneCode s=0∧doneNext s code={ doneTo code s (j+1) with num:=if code=0 then s.num+1 else s.num,queue:=s.queue.drop (j+1),out:=0 }):=by
  have e:s.out.toNat=j+1:=by omega
  refine ⟨if_neg ho,?_⟩
  unfold doneNext doneTo
  rw [if_neg ho,e]
 rw [hj] at c4 hoz
 have HJ:=Lib.hid hj
 have hd:Hid (Sep W (OL L i (mgrItems c s)) w.drew):=h.out.up (below_drewN (Below.refl w.heap.size w) 1)
 have HWT:=Lib.hid (waiting_core hd hc HG.out hn)
 obtain ⟨d0,_,_,_,d4,_⟩:=mgr_cells hd.out
 rw [hj] at d4
 clear ho hj ho1 ho2
 go_enter Tryz.func55,Tryz.ntmps55
 go_wp2_with fail
 refine (gone_any c.mb c.m _ c0).mono ?_
 rintro e w1 ⟨rfl,rfl⟩
 go_upto_region 3 with fail
 refine wp_regionG (fun W=>W.cell? ⟨c.mb,4,none⟩=some (.int .i64 ((j:Int)+1))) (n:=8) (by kernel_rfl) (by kernel_rfl) ?_
 refine wpG.tk 0 ?_
 refine wpG.tk 2 ?_
 refine wpG.tk 3 ?_
 refine wpG.tk 4 ?_
 refine wpG.tk 5 ?_ (hy:=by intro W hW;have hld0:=hW;go_simp;try with_reducible rfl)
 refine wpG.alone 1 rfl (by kernel_rfl) (by kernel_rfl) (d4) (fun K hK=>?_)
 go_simp
 go_at_call 99
 refine (HWT.out).mono ?_
 rintro e w2 ⟨p,cp,rfl,hcp,HT2,HB2⟩
 have e4:=cell_up HB2.out d4
 obtain ⟨A,hA1,hA2,hA3⟩:=txCut_to p s.queue.length cp (j+1) (by omega)
 obtain ⟨xb,xo,pv,rfl,hxv⟩:=TxsAt.told (TxsAt.take (l:=waitL s) (by rw [waitL_len];exact HT2.out) (j+1) (by rw [waitL_len];omega) hA2 hA3) (by rw [List.length_take,waitL_len];omega)
 have hS2:=hd.out.new HB2.out (TxVA xb xo pv ((waitL s).take (j+1))) (fun _ h=>h) hxv
 have HS2:=Lib.hid (hS2.shift HI.out)
 have hA1':∀ W,(Instr.slice 110 (.slice p s.queue.length cp) none (some (.int .i64 ((j:Int)+1))) none).run Tryz.prog W=.ok (.slice (some ⟨xb,xo,none⟩) (j+1) cp) W:=hA1
 clear hS2 hA1 hA2 hA3 HWT d0 hxv
 try go_simp
 refine hK _ _ ?_
 clear hK K
 refine wpG.tk 6 ?_
 refine wpG.tk 7 ?_
 refine wpG.done (by kernel_rfl) e4 ?_
 have HS3:=Lib.hid (HS2.out.up (below_drewN (Below.refl w2.heap.size w2) 1))
 obtain ⟨_,_,_,g3,g4,_⟩:=mgr_cells HS3.out
 rw [HJ.out] at g4
 obtain ⟨gq,cq,hqv,_⟩:=mgr_qcell HS3.out (show 0 < s.queue.length by omega)
 rw [hqv] at g3
 have hqc:s.queue.length≤cq:=by
  obtain ⟨qp',cq',e',hle⟩:=mgr_queue HS3.out
  rw [hqv] at e'
  cases e'
  exact hle
 have hcut:∀ W,(Instr.slice 30 (.slice (some ⟨gq,0,none⟩) s.queue.length cq) none (some (.int .i64 ((j:Int)+1))) none).run Tryz.prog W=.ok (.slice (some ⟨gq,0,none⟩) (j+1) cq) W:=slice_to gq s.queue.length cq (j+1) (by omega)
 have hcl:=cloneI_some ⟨gq,0,none⟩ (j+1) cq ((s.queue.take (j+1)).map (Value.int .i64)) w2.drew (Lib.hid (by simp;omega)) (by
  refine Lib.hid fun q u hu=>?_
  rw [List.getElem?_map] at hu
  obtain ⟨x,hx,rfl⟩:=Option.map_eq_some_iff.1 hu
  rw [List.getElem?_take] at hx
  split at hx
  ·obtain ⟨hq1,hq2⟩:=List.getElem?_eq_some_iff.1 hx
   obtain ⟨g',c',e',hcell⟩:=mgr_qcell HS3.out hq1
   rw [hqv] at e'
   cases e'
   rw [addr_add,Nat.zero_add]
   exact hcell.trans (by rw [hq2])
  ·cases hx) (Lib.hid (by intro u hu;obtain ⟨x,_,rfl⟩:=List.mem_map.1 hu;rfl)) (Lib.hid (by omega))
 have HCL:=Lib.hid hcl
 clear hcl c0 c3 c4 d4 e4
 go_upto_region 4 with fail
 refine wp_regionG (fun W=>W.cell? ⟨c.mb,3,none⟩=some (.slice (some ⟨gq,0,none⟩) s.queue.length cq)∧W.cell? ⟨c.mb,4,none⟩=some (.int .i64 ((j:Int)+1))) (n:=12) (by kernel_rfl) (by kernel_rfl) ?_
 refine wpG.tk 0 ?_
 refine wpG.tk 1 ?_
 refine wpG.tk 2 ?_
 refine wpG.tk 3 ?_ (hy:=by intro W hW;have hld0:=hW.1;go_simp;try with_reducible rfl)
 refine wpG.tk 4 ?_
 refine wpG.tk 5 ?_
 refine wpG.tk 6 ?_
 refine wpG.tk 7 ?_ (hy:=by intro W hW;have hld0:=hW.2;go_simp;try with_reducible rfl)
 refine wpG.tk 8 ?_
 refine wpG.tk 11 ?_
 refine wpG.alone 9 rfl (by kernel_rfl) (by kernel_rfl) (⟨g3,g4⟩) (fun K hK=>?_)
 go_simp
 go_at_call 104
 refine (HCL.out).mono ?_
 rintro e w3 ⟨cv,rfl,HO3,HB3⟩
 have hS4:=(HS3.out.row_new HB3.out HO3.out).shift (by simp;have:=HI.out;omega)
 rw [List.append_assoc] at hS4
 obtain ⟨gc,cc,rfl⟩:∃ gc cc,cv=.slice (some ⟨gc,0,none⟩) (j+1) cc:=by
  obtain ⟨_,⟨_,h0⟩ | ⟨g',cap',_,e',_⟩⟩:=HO3.out
  ·omega
  ·exact ⟨g',cap',e'⟩
 have k3:=cell_up HB3.out g3
 have k4:=cell_up HB3.out g4
 have HS4:=Lib.hid hS4
 clear hS4 HCL g3 g4 HS3 HS2
 try go_simp
 refine hK _ _ ?_
 clear hK K
 refine wpG.tk 10 ?_
 refine wpG.done (by kernel_rfl) ⟨k3,k4⟩ ?_
 have hlt:(waitL s).length=s.queue.length:=waitL_len s
 have htk:(s.queue.take (j+1)).length=j+1:=by rw [List.length_take];omega
 go_wp2_with fail
 go_loopw [35] (fun s35 wr=>∃ m:Nat,m≤j+1∧s35=.int .i64 m∧Hid (Sep W (OL (L++([TxVA xb xo pv ((waitL s).take (j+1))]++[RowA 3 1 (.slice (some ⟨gc,0,none⟩) (j+1) cc) (j+1) ((s.queue.take (j+1)).map (Value.int .i64))])) i (mgrItems c (doneTo code s m))) wr)) (fun s35 _=>j+1 - (intOf s35).toNat)
 case atStart=>exact ⟨0,Nat.zero_le _,by go_num,by rw [doneTo_zero];exact HS4⟩
 case round =>
  obtain ⟨m,hm,rfl,HS⟩:=hrel
  clear HS4 k3 k4
  by_cases hlt2:m < j+1
  case neg =>
   obtain rfl:m=j+1:=by omega
   obtain ⟨y1,y2,y3⟩:=doneTo_same code s (j+1) (by omega)
   obtain ⟨y4,y5⟩:=doneTo_more code s (j+1) (by omega)
   obtain ⟨nm,hnm⟩:∃ nm:Int,nm=if code=0 then s.num+1 else s.num:=⟨_,rfl⟩
   have HFN:Hid (doneNext s code={ doneTo code s (j+1) with num:=nm,queue:=s.queue.drop (j+1),out:=0 }):=by show _=_;rw [HC.out.2,hnm]
   have HY:=Lib.hid y1
   have HY5:=Lib.hid y5
   have hnum:=HG.out.nm
   have hll:(L++([TxVA xb xo pv ((waitL s).take (j+1))]++[RowA 3 1 (.slice (some ⟨gc,0,none⟩) (j+1) cc) (j+1) ((s.queue.take (j+1)).map (Value.int .i64))])).length=L.length+2:=by simp
   have hcase:∃ wx,(code=0∧wx=wr.setCell ⟨c.mb,5,none⟩ (.int .i64 (s.num+1))∨code≠0∧wx=wr)∧Hid (Sep W (OL (L++([TxVA xb xo pv ((waitL s).take (j+1))]++[RowA 3 1 (.slice (some ⟨gc,0,none⟩) (j+1) cc) (j+1) ((s.queue.take (j+1)).map (Value.int .i64))])) i (mgrItems c { doneTo code s (j+1) with num:=nm })) wx):=by
    by_cases hcd:code=0
    ·refine ⟨_,.inl ⟨hcd,rfl⟩,?_⟩
     rw [if_pos hcd] at hnm
     have:=mgr_store HS.out 5 (.int .i64 (s.num+1)) { doneTo code s (j+1) with num:=nm } (by rw [hnm];rfl) rfl rfl rfl rfl rfl rfl rfl
     exact this
    ·refine ⟨_,.inr ⟨hcd,rfl⟩,?_⟩
     rw [if_neg hcd,← y4] at hnm
     rw [hnm]
     exact HS
   obtain ⟨wx,hwx,HSX⟩:=hcase
   obtain ⟨_,_,_,_,_,s5,_⟩:=mgr_cells HS.out
   rw [y4] at s5
   have f5:=mgr_free HS.out 5
   obtain ⟨_,_,_,x3,x4,_⟩:=mgr_cells HSX.out
   change wx.cell? ⟨c.mb,4,none⟩=some (.int .i64 (doneTo code s (j+1)).out) at x4
   rw [y5,HJ.out] at x4
   rw [hqv] at x3
   have hqc':s.queue.length≤cq:=hqc
   obtain ⟨A2,hcut2,hA2⟩:=slice_from gq s.queue.length cq j (by omega) hqc'
   have hcl2:=cloneI_some A2 (s.queue.length - (j+1)) (cq - (j+1)) ((s.queue.drop (j+1)).map (Value.int .i64)) wx.drew (Lib.hid (by simp)) (by
    refine Lib.hid fun q u hu=>?_
    rw [List.getElem?_map] at hu
    obtain ⟨x,hx,rfl⟩:=Option.map_eq_some_iff.1 hu
    rw [List.getElem?_drop] at hx
    obtain ⟨hq1,hq2⟩:=List.getElem?_eq_some_iff.1 hx
    have hSd:=HSX.out.up (below_drewN (Below.refl wx.heap.size wx) 1)
    obtain ⟨g',c',e',hcell⟩:=mgr_qcell hSd (j:=j+1+q) (by show _ < (doneTo code s (j+1)).queue.length;rw [HY.out];exact hq1)
    change c.qv=.slice (some ⟨g',0,none⟩) (doneTo code s (j+1)).queue.length c' at e'
    rw [hqv,HY.out] at e'
    cases e'
    rcases hA2 with h0 | hA2
    ·omega
    ·rw [hA2]
     refine hcell.trans ?_
     congr 2
     rw [← hq2]
     show (doneTo code s (j+1)).queue[j+1+q]'_=_
     simp only [HY.out]) (Lib.hid (by intro u hu;obtain ⟨x,_,rfl⟩:=List.mem_map.1 hu;rfl)) (Lib.hid (by omega))
   have HCL2:=Lib.hid hcl2
   have HSD:=Lib.hid (HSX.out.up (below_drewN (Below.refl wx.heap.size wx) 1))
   obtain ⟨_,_,_,v3,v4,_⟩:=mgr_cells HSD.out
   change _=some (Value.int .i64 (doneTo code s (j+1)).out) at v4
   rw [y5,HJ.out] at v4
   rw [hqv] at v3
   have HYL:=Lib.hid hll
   have v3':wx.drew.cell? ⟨c.mb,3,none⟩=some (.slice (some ⟨gq,0,none⟩) s.queue.length cq):=v3
   have v4':wx.drew.cell? ⟨c.mb,4,none⟩=some (.int .i64 ((j:Int)+1)):=v4
   have HFIN0:Hid (∀ w7 np nc,w7.ownsRow wx.drew.heap.size 3 1 (.slice np (s.queue.length - (j+1)) nc) (s.queue.length - (j+1)) ((s.queue.drop (j+1)).map (Value.int .i64))→Below wx.drew.heap.size wx.drew w7 →
     Sep W (OL (L++([TxVA xb xo pv ((waitL s).take (j+1))]++[RowA 3 1 (.slice (some ⟨gc,0,none⟩) (j+1) cc) (j+1) ((s.queue.take (j+1)).map (Value.int .i64))])) i (mgrItems { c with qv:=.slice np (s.queue.length - (j+1)) nc } { doneTo code s (j+1) with num:=nm,queue:=s.queue.drop (j+1) })) (w7.setCell ⟨c.mb,3,none⟩ (.slice np (s.queue.length - (j+1)) nc))):=fun w7 np nc ho hb=>by
    have hi4:(OL (L++([TxVA xb xo pv ((waitL s).take (j+1))]++[RowA 3 1 (.slice (some ⟨gc,0,none⟩) (j+1) cc) (j+1) ((s.queue.take (j+1)).map (Value.int .i64))])) i (mgrItems c { doneTo code s (j+1) with num:=nm }))[(L++([TxVA xb xo pv ((waitL s).take (j+1))]++[RowA 3 1 (.slice (some ⟨gc,0,none⟩) (j+1) cc) (j+1) ((s.queue.take (j+1)).map (Value.int .i64))])).length+4]? = some (RowA 3 1 c.qv (doneTo code s (j+1)).queue.length ((doneTo code s (j+1)).queue.map (Value.int .i64))):=OL_get.trans (items_head 4 (by omega))
    have hS8:=HSD.out.row_put _ hi4 hb ho
    rw [OL_set] at hS8
    have hS9:=hS8.box_store ((L++([TxVA xb xo pv ((waitL s).take (j+1))]++[RowA 3 1 (.slice (some ⟨gc,0,none⟩) (j+1) cc) (j+1) ((s.queue.take (j+1)).map (Value.int .i64))])).length+0) (b:=c.mb) (cs:=mgrRow c { doneTo code s (j+1) with num:=nm }) (T:=176) (OL_get.trans rfl) 3 (.slice np (s.queue.length - (j+1)) nc)
    rw [OL_set] at hS9
    exact (queue_items (c:=c) (s:={ doneTo code s (j+1) with num:=nm }) (q:=.slice np (s.queue.length - (j+1)) nc) (qu:=s.queue.drop (j+1)) rfl (by rw [List.length_drop])) ▸ hS9
   clear hcl2 hA2 hnm hqc' hll y1 y2 y3 y4 y5 HSX
   rcases hwx with ⟨hcd,hwx⟩ | ⟨hcd,hwx⟩
   ·have hcz:(code == 0)=true:=by rw [beq_iff_eq];exact hcd
    clear hcd
    obtain ⟨n0,n1⟩:=hnum
    have n2:s.num+1≤9223372036854775807:=by omega
    go_upto_region 15 with fail
    have hwr:IntKind.i64.wrap (s.num+1)=s.num+1:=IntWalk.i64_in _ (by omega)
    try rw [hwr]
    rw [← hwx]
    clear hwx
    go_region_law ((first
     | (go_simp
        go_at_call 104
        refine (HCL2.out).mono ?_
        rintro e w7 ⟨nv,rfl,HO7,HB7⟩
        obtain ⟨np,nc,rfl⟩:=ownsRow_shape HO7.out
        have r3:=cell_up HB7.out v3
        have fz:=mgr_free (HSD.out.up HB7.out) 3)))
    all_goals
     have HFQ:=Lib.hid (HFIN0.out w7 np nc HO7.out HB7.out)
     obtain ⟨_,_,_,_,t4,_⟩:=mgr_cells HFQ.out
     change _=some (Value.int .i64 (doneTo code s (j+1)).out) at t4
     rw [HY5.out,HJ.out] at t4
     have f4:=mgr_free HFQ.out 4
     have hlast:=mgr_store HFQ.out 4 (.int .i64 0) { doneTo code s (j+1) with num:=nm,queue:=s.queue.drop (j+1),out:=0 } rfl rfl rfl rfl rfl rfl rfl rfl
     have HLAST:=Lib.hid ((hlast.unbox HI.out).unbox HI.out)
     rw [List.append_nil] at HLAST
     clear hlast
     go_wp2
     go_ret
     exact ⟨by rw [HC.out.1];rfl,_,by rw [HFN.out];exact HLAST⟩
   ·have hcz:(code == 0)=false:=by rw [beq_eq_false_iff_ne];exact hcd
    clear hcd
    subst hwx
    go_upto_region 15 with fail
    go_region_law ((first
     | (go_simp
        go_at_call 104
        refine (HCL2.out).mono ?_
        rintro e w7 ⟨nv,rfl,HO7,HB7⟩
        obtain ⟨np,nc,rfl⟩:=ownsRow_shape HO7.out
        have r3:=cell_up HB7.out v3
        have fz:=mgr_free (HSD.out.up HB7.out) 3)))
    all_goals
     have HFQ:=Lib.hid (HFIN0.out w7 np nc HO7.out HB7.out)
     obtain ⟨_,_,_,_,t4,_⟩:=mgr_cells HFQ.out
     change _=some (Value.int .i64 (doneTo code s (j+1)).out) at t4
     rw [HY5.out,HJ.out] at t4
     have f4:=mgr_free HFQ.out 4
     have hlast:=mgr_store HFQ.out 4 (.int .i64 0) { doneTo code s (j+1) with num:=nm,queue:=s.queue.drop (j+1),out:=0 } rfl rfl rfl rfl rfl rfl rfl rfl
     have HLAST:=Lib.hid ((hlast.unbox HI.out).unbox HI.out)
     rw [List.append_nil] at HLAST
     clear hlast
     go_wp2
     go_ret
     exact ⟨by rw [HC.out.1];rfl,_,by rw [HFN.out];exact HLAST⟩
  case pos =>
   have hmq:m < s.queue.length:=by omega
   have hqm:=List.getElem_mem hmq
   obtain ⟨hq1,hq2⟩:=HG.out.qr _ hqm
   obtain ⟨q,hq⟩:∃ q:Nat,s.queue[m]=(q:Int)+1:=⟨(s.queue[m] - 1).toNat,by omega⟩
   obtain ⟨z1,z2,z3⟩:=doneTo_same code s m (by omega)
   have hcm:c.cs.length=(doneTo code s m).txs.length:=by rw [z2];exact hc
   have hqs:q < (doneTo code s m).txs.length:=by rw [z2];omega
   have hri:(OL (L++([TxVA xb xo pv ((waitL s).take (j+1))]++[RowA 3 1 (.slice (some ⟨gc,0,none⟩) (j+1) cc) (j+1) ((s.queue.take (j+1)).map (Value.int .i64))])) i (mgrItems c (doneTo code s m)))[L.length+1]? = some (RowA 3 1 (.slice (some ⟨gc,0,none⟩) (j+1) cc) (j+1) ((s.queue.take (j+1)).map (Value.int .i64))):=by
    rw [OL_old (by simp) (by have:=HI.out;omega),List.getElem?_append_right (by omega),show L.length+1 - L.length=1 by omega];rfl
   have hcell:=ints_at HS.out hri (k:=m) hlt2 htk
   rw [List.getElem_take,hq] at hcell
   have hsucc:=doneTo_succ code s hmq
   rw [hq] at hsucc
   clear hri
   by_cases hcd:code=0
   case neg =>
    have hcz:(code != 0)=true:=by rw [bne_iff_ne];exact hcd
    have HSU:Hid (doneTo code s (m+1)=endNext (doneTo code s m) ((q:Int)+1) 4 code):=by
     show _=_
     rw [hsucc]
     unfold doStep
     rw [if_neg hcd]
    have HE:=Lib.hid (end_core HS hcm hqs 4 code)
    clear hcd hsucc
    go_wp2_with fail
    refine (HE.out).mono ?_
    rintro e w5 ⟨rfl,HS5⟩
    rw [← HSU.out] at HS5
    go_wp2_with fail
    go_roundw
    case rel=>exact ⟨m+1,by omega,by go_num,HS5⟩
    case measure=>simp [intOf];omega
   case pos =>
    subst hcd
    have gm:=HG.out.doneTo 0 m (by omega)
    have hti:((waitL s).take (j+1))[m]'(by rw [List.length_take,waitL_len];omega)=waitTx (doneTo 0 s m) ((q:Int)+1):=by
     rw [List.getElem_take]
     unfold waitL
     rw [List.getElem_map,hq]
     have e:=doneTo_tx HG.out 0 m (by omega) ((q:Int)+1) (by rw [List.drop_eq_getElem_cons hmq,hq];simp)
     unfold waitTx
     rw [txOf_txAt,txOf_txAt,e]
    have hpl:(waitTx (doneTo 0 s m) ((q:Int)+1)).puts.length≤16:=by
     show (bufPuts (txAt (doneTo 0 s m).txs ((q:Int)+1)).buf).length≤16
     rw [bufPuts_len]
     exact (gm.tx _ (txAt_mem (by omega) (by show (q:Int)+1≤(doneTo 0 s m).txs.length;omega))).bl
    have HSU:Hid (doneTo 0 s (m+1)=endNext { doneTo 0 s m with vs:=applyNext (doneTo 0 s m).blocks (doneTo 0 s m).last0 (doneTo 0 s m).vs (waitTx (doneTo 0 s m) ((q:Int)+1)),last0:=applyLast (doneTo 0 s m).blocks (doneTo 0 s m).last0 (waitTx (doneTo 0 s m) ((q:Int)+1)),last:=(waitTx (doneTo 0 s m) ((q:Int)+1)).time } ((q:Int)+1) 3 0):=by
     show _=_
     rw [hsucc]
     unfold doStep
     rw [if_pos rfl];rfl
    have hll:(L++([TxVA xb xo pv ((waitL s).take (j+1))]++[RowA 3 1 (.slice (some ⟨gc,0,none⟩) (j+1) cc) (j+1) ((s.queue.take (j+1)).map (Value.int .i64))])).length=L.length+2:=by simp
    have hSd:=HS.out.up (below_drewN (Below.refl wr.heap.size wr) 1)
    have hxi:∀ S':MgS,(OL (L++([TxVA xb xo pv ((waitL s).take (j+1))]++[RowA 3 1 (.slice (some ⟨gc,0,none⟩) (j+1) cc) (j+1) ((s.queue.take (j+1)).map (Value.int .i64))])) i (mgrItems c S'))[L.length]? = some (TxVA xb xo pv ((waitL s).take (j+1))):=fun S'=>by
     rw [OL_old (by simp) (by have:=HI.out;omega),List.getElem?_append_right (Nat.le_refl _),Nat.sub_self];rfl
    have hmt:m < ((waitL s).take (j+1)).length:=by rw [List.length_take,waitL_len];omega
    obtain ⟨FX,hFX,_⟩:=hSd.get L.length (hxi _)
    obtain ⟨v0,v1,_,_⟩:=hFX.2 m hmt
    have hap:=extApply_sep hSd ((L++([TxVA xb xo pv ((waitL s).take (j+1))]++[RowA 3 1 (.slice (some ⟨gc,0,none⟩) (j+1) cc) (j+1) ((s.queue.take (j+1)).map (Value.int .i64))])).length+1) (tv:=.agg #[.int .i64 (waitTx (doneTo 0 s m) ((q:Int)+1)).time,pv m]) (OL_get.trans (items_head 1 (by omega))) gm.b1 (waitTx (doneTo 0 s m) ((q:Int)+1)) (fun G hR=>by
     obtain ⟨F',hF',hX⟩:=hR L.length (TxVA xb xo pv ((waitL s).take (j+1))) (by rw [hll];omega) (hxi _)
     obtain ⟨_,_,k3,k4⟩:=hX.2 m hmt
     rw [hti] at k3 k4
     exact ⟨pv m,rfl,k3,PutsAt.mono k4 hF'⟩)
     (fun k l hl=>by have h1:=len_nVers hl;have h2:=gm.nv;change nVers (doneTo 0 s m).vs≤_ at h2;omega) (by omega)
    rw [OL_set,items_ext] at hap
    obtain ⟨w0,_⟩:=mgr_cells hSd
    rw [hti] at v0
    have HAP:=Lib.hid hap
    have HTI:=Lib.hid hti
    have HXI:=Lib.hid hxi
    have HMT:=Lib.hid hmt
    clear hap hsucc hFX hti hxi gm hpl
    generalize hTT:waitTx (doneTo 0 s m) ((q:Int)+1)=T at *
    go_wp2_with fail
    go_upto_region 9 with fail
    refine wp_regionG (fun W=>W.cell? ⟨c.mb,0,none⟩=some (.pointer (some ⟨c.m,0,none⟩))∧W.cell? ⟨xb,xo+m * 2,none⟩=some (.int .i64 T.time)∧W.cell? ⟨xb,xo+m * 2+1,none⟩=some (pv m)) (n:=9) (by kernel_rfl) (by kernel_rfl) ?_
    refine wpG.tk 0 ?_
    refine wpG.tk 1 ?_
    refine wpG.tk 2 ?_
    refine wpG.tk 3 ?_ (hy:=by intro W hW;have hld0:=hW.1;go_simp;try with_reducible rfl)
    refine wpG.tk 4 ?_
    refine wpG.tk 5 ?_
    refine wpG.tk 6 ?_
    refine wpG.tk 7 ?_ (hy:=by intro W hW;have hld0:=hW.2.1;have hld1:=hW.2.2;go_simp;try with_reducible rfl)
    refine wpG.alone 8 rfl (by kernel_rfl) (by kernel_rfl) (⟨w0,v0,v1⟩) (fun K hK=>?_)
    go_simp
    go_at_call 106
    refine (HAP.out).mono ?_
    rintro e w5 ⟨rfl,hs5⟩
    have HS5:=Lib.hid hs5
    obtain ⟨g0,_,_,_,_,_,_,g7,_⟩:=mgr_cells HS5.out
    obtain ⟨FX,hFX,_⟩:=HS5.out.get L.length (HXI.out _)
    obtain ⟨y0,y1,_,_⟩:=hFX.2 m HMT.out
    rw [HTI.out] at y0
    have f7:=mgr_free HS5.out 7
    have hS6:=mgr_store HS5.out 7 (.int .i64 T.time) { doneTo 0 s m with vs:=applyNext (doneTo 0 s m).blocks (doneTo 0 s m).last0 (doneTo 0 s m).vs T,last0:=applyLast (doneTo 0 s m).blocks (doneTo 0 s m).last0 T,last:=T.time } rfl rfl rfl rfl rfl rfl rfl rfl
    have HE:=Lib.hid (end_core (Lib.hid hS6) hcm (k:=q) hqs 3 0)
    clear hs5 hFX hS6 HAP
    generalize applyCode (doneTo 0 s m).blocks (doneTo 0 s m).last0 T=acd
    try go_simp
    refine hK _ _ ?_
    clear hK K
    refine wpG.done (by kernel_rfl) ⟨g0,y0,y1⟩ ?_
    go_wp2_with fail
    refine (HE.out).mono ?_
    rintro e w6 ⟨rfl,HS6⟩
    rw [← HSU.out] at HS6
    go_wp2_with fail
    go_roundw
    case rel=>exact ⟨m+1,by omega,by go_num,HS6⟩
    case measure=>simp [intOf];omega
end
end Go.Proofs
namespace Go.Proofs
open Go.RowKit Sc
def lastD (l:List Put):Bytes:=((l.getLast?).map (·.data)).getD []
theorem lastD_get {l:List Put} {j:Nat} (h:l.length=j+1):lastD l=(l[j]'(by omega)).data:=by
 unfold lastD
 rw [List.getLast?_eq_getElem?,List.getElem?_eq_getElem (by omega)]
 simp [h]
def dumpV (vs:Vers):List Put:=(keysUp (vs.map (·.1))).map fun k=>⟨k,lastD ((alook vs k).getD [])⟩
def DumpSaid (vs:Vers) (w:World) (e:Ending) (w':World):Prop:=∃ v,e=.returned v∧PutsW (New w w') w' v (dumpV vs)∧Below w.heap.size w w'
set_option maxRecDepth 100000 in
set_option maxHeartbeats 2000000 in
theorem extDump_any (F:Nat→Prop) (v:Value) (blocks last:Int) (vs:Vers) (w:World) (h:ExtIs F w v blocks last vs) (h1:1≤blocks) (hi:∀ x∈vs,I64 x.1) (hl:vs.length≤1000000) (hne:∀ x∈vs,x.2≠[]) (h40:∀ k l,alook vs k=some l→∀ p∈l,p.data.length≤1000000) :
  Calls Tryz.prog 211 #[v] w (DumpSaid vs w):=by
 have H:=Lib.hid h
 obtain ⟨b,r,ml,rfl,hbl,hc0,hc1,hc2,h5,h6⟩:=h.cells
 obtain ⟨i0,hp0,hp1,hp2,hp3⟩:=info_parts infoPut
 have hkk:=AL.keys h6
 have hml:=al_len h6
 have hkeysV:=keysVer_any r w
 have H5:=Lib.hid h5
 have H6:=Lib.hid h6
 have HKK:=Lib.hid hkk
 have HI:=Lib.hid hi
 have H40:=Lib.hid h40
 have HL:=Lib.hid hl
 have HML:=Lib.hid hml
 have HNE:=Lib.hid hne
 have HC0:=Lib.hid hc0
 have HC2:=Lib.hid hc2
 clear h5 h6 hkk hi h40 hl hml hne hc0 hc2
 clear h
 go_enter Tryz.func211,Tryz.ntmps211
 go_wp2_with fail
 refine (extGone_any F _ _ _ _ _ H.out h1).mono ?_
 rintro e w1 ⟨rfl,rfl⟩
 go_wp2_with fail
 refine (keysVer_any r _).mono ?_
 rintro e w1 ⟨rfl,rfl⟩
 go_wp2_with fail
 refine (sortedVer_any r w.heap.size ml _ (H5.out.alloc _) (fun x hx=>?_) (by have:=HL.out;have:=HML.out;omega) (by simp) (by go_simp)).mono ?_
 ·have:x.1∈vs.map (·.1):=by rw [← HKK.out];exact List.mem_map.2 ⟨x,hx,rfl⟩
  obtain ⟨y,hy,he⟩:=List.mem_map.1 this
  rw [← he];exact HI.out y hy
 rintro e w2 ⟨kv,rfl,hrow,hb2⟩
 rw [HKK.out] at hrow
 have hlen:(keysUp (vs.map (·.1))).length=(vs.map (·.1)).length:=(List.mergeSort_perm _ _).length_eq
 rw [List.length_map] at hlen hrow
 have hb02:=Below.up (below_alloc w _) hb2
 have HLEN:=Lib.hid hlen
 have HROW:=Lib.hid hrow
 have HB02:=Lib.hid hb02
 clear hlen hrow hb02
 clear hb2
 have hki:∀ x∈keysUp (vs.map (·.1)),I64 x∧x∈vs.map (·.1):=by
  intro x hx
  have hx':x∈vs.map (·.1):=(List.mergeSort_perm _ _).subset hx
  obtain ⟨y,hy,he⟩:=List.mem_map.1 hx'
  exact ⟨by rw [← he];exact HI.out y hy,hx'⟩
 have HKI:=Lib.hid hki
 have hints:=intsAt_own (fun _=>True) HLEN.out (fun x hx=>(hki x hx).1) (fun _ _ _=>trivial) HROW.out
 obtain ⟨kp,kc,rfl,hk1,hk2,hk3,hk4⟩:=hints
 rw [HLEN.out] at hk1 ⊢
 have HK4:=Lib.hid hk4
 have hc12:=cell_up HB02.out hc1
 have HAL:=Lib.hid (show (dumpV vs).length=vs.length by unfold dumpV;rw [List.length_map];exact HLEN.out)
 clear hk3 hk4 hki
 go_wp2_with fail
 go_loopw [2,15] (fun out i wr=>∃ k:Nat,∃ D,k≤vs.length∧i=.int .i64 k∧Hid (OutS 44 2 putRW w2.heap.size wr out ((dumpV vs).take k) D)∧Below w2.heap.size w2 wr) (fun _ i _=>vs.length - (intOf i).toNat)
 case atStart=>exact ⟨0,_,by omega,rfl,OutS.nil,Below.refl _ _⟩
 case round =>
  obtain ⟨k,D,hk,rfl,hout,hbk⟩:=hrel
  by_cases hlt:k < vs.length
  ·obtain ⟨g,o,rfl,_,hck,_⟩:=HK4.out k (by rw [HLEN.out];exact hlt)
   rw [Nat.mul_one] at hck
   have hckr:=cell_up hbk hck
   have hc1r:=cell_up hbk hc12
   have hmem:=(HKI.out _ (List.getElem_mem (show k < (keysUp (vs.map (·.1))).length by rw [HLEN.out];exact hlt)))
   have htk:(dumpV vs).take (k+1)=(dumpV vs).take k++[⟨(keysUp (vs.map (·.1)))[k]'(by rw [HLEN.out];exact hlt),lastD ((alook vs ((keysUp (vs.map (·.1)))[k]'(by rw [HLEN.out];exact hlt))).getD [])⟩]:=by
    rw [take_snoc _ k (by rw [HAL.out];exact hlt)]
    simp [dumpV]
   have hbwr:=Below.up HB02.out hbk
   have hmr:=H5.out.up hbwr
   generalize (keysUp (vs.map (·.1)))[k]'(by rw [HLEN.out];exact hlt)=key at hckr hmem htk
   have hlk:=hmr.lookup (P:=Tryz.prog) Tryz.underlying259 Tryz.underlying3 (Tryz.zeroValue265 _) key false
   have hdat:∃ u l,alook ml key=some u∧alook vs key=some l∧PutsAt (Old w) w u l:=by
    rcases H6.out.look key with ⟨h,_⟩ | h
    ·exfalso
     rw [← HKK.out] at hmem
     obtain ⟨x,hx,he⟩:=List.mem_map.1 hmem.2
     exact alook_none.1 h x hx he
    ·exact h
   obtain ⟨u,l,hd1,hd2,hd3⟩:=hdat
   rw [hd1] at hlk
   rw [hd2] at htk
   simp only [Option.getD_some,Bool.false_eq_true,if_false] at hlk htk
   have hln:=List.length_pos_iff.2 (HNE.out _ (alook_in hd2))
   simp only at hln
   obtain ⟨j,hj⟩:∃ j,l.length=j+1:=⟨l.length - 1,by omega⟩
   have hdl:(lastD l).length≤1000000:=by rw [lastD_get hj];exact H40.out _ _ hd2 _ (List.getElem_mem _)
   obtain ⟨p,c,rfl,p1,p2,_,p4⟩:=hd3
   obtain ⟨gq,oq,rfl,e1,e2,e3,dv,hcd,hd3⟩:=p4 j (by omega)
   rw [← lastD_get hj] at hd3
   rw [hj] at hlk
   have hcdr:=cell_up hbwr hcd
   generalize lastD l=d at *
   obtain ⟨dp,dc,rfl⟩:=shape_of hd3 rfl
   have hd3':=hd3.up hbwr
   have hmem':=hmem.1
   have hej:(((j+1:Nat):Int) - 1)=(j:Int):=by omega
   have hw2:IntKind.i64.wrap (((j+1:Nat):Int) - 1)=(j:Int):=by rw [hej];exact IntWalk.i64_in _ (by omega)
   have hj1:(j:Int) < ((j+1:Nat):Int):=by omega
   have hjb:(j:Int)≤9223372036854775806:=by omega
   have hzr:=hbk.size
   have HOUT:=hout
   have HTK:=Lib.hid htk
   have HDL:=Lib.hid hdl
   have HBK:=Lib.hid hbk
   have HD3':=Lib.hid hd3'
   clear htk hdl hbk hd3'
   clear hd1 hd2 hd3 hmr hbwr hout hck hmem p4 hln e1 e2 e3 hj p1 p2 hcd
   go_wp2_with fail
   refine (clone_w (Old w) _ d _ HD3'.out HDL.out).mono ?_
   rintro e w3 ⟨v3,rfl,hnv,hb3⟩
   obtain ⟨np,nc,rfl⟩:=shape_of hnv.bytes rfl
   have hzw3:=hb3.size
   have hownlt:∀ q,Value.ownBlock u2=some q→w2.heap.size≤q∧q < wr.heap.size:=by obtain ⟨xs,hx⟩:=HOUT.out.own;exact fun q hq=>hx.lt q hq
   obtain ⟨css,q1,q2,q3,q4,q5⟩:=(HOUT.out.up putRW_stable hb3).up putRW_stable (below_alloc w3 (.cells #[.int .i64 key,.slice np d.length nc] 44))
   have HQ1:=Lib.hid q1
   have HQ2:=Lib.hid q2
   have HQ4:=Lib.hid q4
   have HQ5:=Lib.hid q5
   have HNV:=Lib.hid hnv
   have HB3:=Lib.hid hb3
   have HOWNLT:=Lib.hid hownlt
   clear q1 q2 q4 q5 hnv hb3 hownlt
   generalize hll:((dumpV vs).take k).length=ll at q3
   have hll2:ll≤1000000:=by have:=HL.out;rw [← hll,List.length_take,HAL.out];omega
   have HLL:=Lib.hid hll
   have HLL2:=Lib.hid hll2
   clear hll hll2
   go_wp2_with (at_builtin;refine wpList_append_lies _ rfl _ _ 37 rfl w2.heap.size 44 i0 (.agg #[.int .i64 0,.slice none 0 0]) 2 32 Tryz.underlying37 hp0 hp1 hp2 hp3 rfl (by decide) _ ll css.flatten rfl q3 ⟨w3.heap.size,0,none⟩ 1 1 [.int .i64 key,.slice np d.length nc] rfl rfl (World.news_of_block (cs:=#[.int .i64 key,.slice np d.length nc]) (heap_alloc_new w3 _)) (by simp [Value.oneCell']) (by decide) (by have:=HLL2.out;unfold maxLen;omega) (by have:=HLL2.out;omega) (by simp;omega) (w3.heap.size+1) (by simp) ?_;intro gg cap w5 hown5 hgrow5 hat5 hlt5)
   go_roundw
   case rel =>
    refine ⟨k+1,fun b=>D b∨New wr w3 b,by omega,by go_num,?_,?_⟩
    ·unfold Hid
     rw [HTK.out]
     have hll:=HLL.out
     subst hll
     have hg:w3.heap.size+1=(w3.alloc (.cells #[.int .i64 key,.slice np d.length nc] 44)).heap.size:=by simp
     refine OutS.snoc (v:=u2) (D3:=New wr w3) putRW_stable HQ1.out HQ2.out HQ4.out HQ5.out (cs:=[.int .i64 key,.slice np d.length nc]) (x:=⟨key,d⟩) rfl ⟨_,rfl,hmem',HNV.out.up (below_alloc _ _)⟩ (fun q hq=>?_) hown5 hgrow5 (hg ▸ hat5)
     have h1:=hq.1
     have h2:=hq.2
     exact ⟨by omega,by simp;omega,fun e=>by have:=(HOWNLT.out q e).2;omega⟩
    ·have hb1:Below w2.heap.size w2 (w3.alloc (.cells #[.int .i64 key,.slice np d.length nc] 44)):=(HBK.out.trans (HB3.out.mono (by omega))).trans ((below_alloc _ _).mono (by omega))
     exact hb1.grown hgrow5 (by simp;omega) (fun q hq=>(HOWNLT.out q hq).1)
   case measure=>simp [intOf];omega
  ·have hkl:k=vs.length:=by omega
   have HK2:=Lib.hid hkl
   have HBK:=Lib.hid hbk
   clear hkl hbk
   go_wp2_with fail
   go_ret
   have hwz:w.heap.size≤w2.heap.size:=by have:=HB02.out.size;omega
   refine ⟨_,rfl,?_,HB02.out.trans (HBK.out.mono hwz)⟩
   have:=hout.out
   rw [List.take_of_length_le (by rw [HAL.out];have:=HK2.out;omega)] at this
   exact this.putsW fun b h1 h2=>⟨by omega,h2⟩
end Go.Proofs
