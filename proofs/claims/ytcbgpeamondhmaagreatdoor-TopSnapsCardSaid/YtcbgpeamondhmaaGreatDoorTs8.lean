/- Texts of this claim, one behind the other: TopP, Batch1, ORow, Zdev, Zdev2, WaitW, ReadsW, Mgr16, Zdev3, Zdev4, Zdev5. -/
import Derived.Deep.CutRange
import Derived.ArgAppend
import Derived.Maps.AppendAt
import Derived.Test.YtcbgpeamondhmaaGreatDoorTs7
namespace Go.Proofs
open Go.RowKit Sc
def wantO (s:MgS) (O:List Int) (T k:Int):Bytes:=(lastW ((O.filter fun x=>decide ((txAt s.txs x).tm≤T)).map fun x=>bufPuts (txAt s.txs x).buf) k).getD zeroB
theorem wantO_same {s s':MgS} {O:List Int} (h:∀ x∈O,txAt s'.txs x=txAt s.txs x) (T k:Int):wantO s' O T k=wantO s O T k:=by
 unfold wantO
 have e1:(O.filter fun x=>decide ((txAt s'.txs x).tm≤T))=O.filter fun x=>decide ((txAt s.txs x).tm≤T):=List.filter_congr fun x hx=>by rw [h x hx]
 rw [e1,List.map_congr_left (g:=fun x=>bufPuts (txAt s.txs x).buf) fun x hx=>by rw [h x (List.mem_filter.1 hx).1]]
theorem wantO_snoc {s s':MgS} {O:List Int} (h:∀ x∈O,txAt s'.txs x=txAt s.txs x) {n:Int} {T:Int} (hn:T < (txAt s'.txs n).tm) (k:Int):wantO s' (O++[n]) T k=wantO s O T k:=by
 rw [← wantO_same h T k]
 unfold wantO
 rw [List.filter_append,List.filter_cons_of_neg (by rw [decide_eq_true_eq];omega),List.filter_nil,List.append_nil]
theorem wantO_all {s:MgS} {O:List Int} {T:Int} (h:∀ x∈O,(txAt s.txs x).tm≤T) (k:Int):wantO s O T k=(lastW (O.map fun x=>bufPuts (txAt s.txs x).buf) k).getD zeroB:=by
 unfold wantO
 rw [List.filter_eq_self.2 fun x hx=>decide_eq_true (h x hx)]
def OwnK (b:List (Int × Bytes)) (k:Int):Prop:=∃ x∈b,x.1=k
theorem ownK_look {b:List (Int × Bytes)} {k:Int}:OwnK b k↔(alook b k).isSome=true:=by
 constructor
 ·rintro ⟨x,hx,rfl⟩
  cases hq:alook b x.1 with
  | none=>exact absurd rfl (alook_none.1 hq x hx)
  | some d=>rfl
 ·intro h
  obtain ⟨d,hd⟩:=Option.isSome_iff_exists.1 h
  exact ⟨_,alook_in hd,rfl⟩
theorem ownK_puts {b:List (Int × Bytes)} {k:Int} (h:OwnK b k):∃ p∈bufPuts b,p.lba=k:=by
 obtain ⟨x,hx,rfl⟩:=h
 exact ⟨⟨x.1,(alook b x.1).getD []⟩,List.mem_map.2 ⟨x.1,(List.mergeSort_perm _ _).mem_iff.2 (List.mem_map.2 ⟨x,hx,rfl⟩),rfl⟩,rfl⟩
theorem ownK_set {b:List (Int × Bytes)} {k n:Int} {d:Bytes} (h:OwnK b k):OwnK (aset b n d) k:=by
 rw [ownK_look] at *
 rw [alook_aset]
 split
 ·rfl
 ·exact h
theorem ownK_to {k:Int}:∀ (l:List Put) {b:List (Int × Bytes)},OwnK b k→OwnK (putsTo b l) k
 | [],_,h=>h
 | p :: l,b,h=>ownK_to l (b:=aset b p.lba p.data) (ownK_set h)
structure TpJ (s:MgS) (O:List Int):Prop where
 j:RpJ s O
 vw:∀ x:Int,1≤x→x≤s.txs.length→(txAt s.txs x).st=1→∀ k,(getV s.vs k (txAt s.txs x).at').1=wantO s O (txAt s.txs x).at' k
 rd:∀ x:Int,1≤x→x≤s.txs.length→∀ r∈(txAt s.txs x).R,r.own=false→r.data=wantO s O (txAt s.txs x).at' r.lba
 ow:∀ x:Int,1≤x→x≤s.txs.length→∀ r∈(txAt s.txs x).R,r.own=true→OwnK (txAt s.txs x).buf r.lba
def Kin (t t':TxS):Prop:=t'.at'=t.at'∧t'.buf=t.buf∧t'.R=t.R∧(t'.st=1→t.st=1)
theorem Kin.refl (t:TxS):Kin t t:=⟨rfl,rfl,rfl,fun h=>h⟩
theorem TpJ.kin {s s':MgS} {O:List Int} (h:TpJ s O) (j':RpJ s' O) (hl:s'.txs.length=s.txs.length) (hO:∀ x∈O,txAt s'.txs x=txAt s.txs x) (hk:∀ x:Int,1≤x→x≤s.txs.length→Kin (txAt s.txs x) (txAt s'.txs x))
  (hv:∀ x:Int,1≤x→x≤s.txs.length→(txAt s.txs x).st=1→∀ k,(getV s'.vs k (txAt s.txs x).at').1=(getV s.vs k (txAt s.txs x).at').1):TpJ s' O:=by
 refine ⟨j',fun x h1 h2 hst k=>?_,fun x h1 h2 r hr ho=>?_,fun x h1 h2 r hr ho=>?_⟩
 ·rw [hl] at h2
  obtain ⟨a1,a2,a3,a4⟩:=hk x h1 h2
  rw [a1,wantO_same hO,hv x h1 h2 (a4 hst) k]
  exact h.vw x h1 h2 (a4 hst) k
 ·rw [hl] at h2
  obtain ⟨a1,a2,a3,a4⟩:=hk x h1 h2
  rw [a3] at hr
  rw [a1,wantO_same hO]
  exact h.rd x h1 h2 r hr ho
 ·rw [hl] at h2
  obtain ⟨a1,a2,a3,a4⟩:=hk x h1 h2
  rw [a3] at hr
  rw [a2]
  exact h.ow x h1 h2 r hr ho
theorem rpj_notO {s:MgS} {O:List Int} (h:RpJ s O) {n:Int} (hd:¬ isDone (txAt s.txs n)) {x:Int} (hx:x∈O):1≤x∧x≠n:=by
 obtain ⟨a1,_,a3⟩:=(h.mem x).1 hx
 exact ⟨a1,fun e=>hd (e ▸ a3)⟩
theorem getV_last {blocks last:Int} {vs:Vers} (g:GoodE blocks last vs) {T:Int} (h:last≤T) (k:Int):(getV vs k T).1=(lastO ((alook vs k).getD [])).getD zeroB:=by
 rw [getV_of (t:=T) rfl]
 cases hq:alook vs k with
 | none=>rfl
 | some l =>
  obtain ⟨g1,g2,g3⟩:=g.ts k l hq
  have h0:=List.length_pos_iff.2 g1
  have ha:atN l T=l.length:=by
   refine atN_is (Nat.le_refl _) (fun j hj hj'=>by omega) (.inr ⟨by show l.length - 1 < l.length;omega,?_⟩)
   have:=(g3 _ (List.getElem_mem (show l.length - 1 < l.length by omega))).2.2
   show (l[l.length - 1]).lba≤T
   omega
  show (match l[atN l T - 1]? with | some p=>if atN l T=0 then (zeroB,0) else (p.data,p.lba) | none=>(zeroB,0)).1=(lastO l).getD zeroB
  rw [ha,← List.getLast?_eq_getElem?]
  unfold lastO
  cases hg:l.getLast? with
  | none=>rfl
  | some p =>
   show (if l.length=0 then (zeroB,(0:Int)) else (p.data,p.lba)).1=p.data
   rw [if_neg (by omega)]
section
variable {N:Nat} {s:MgS} {O:List Int}
theorem TpJ.start (blocks last:Int):TpJ (mgNew blocks last) []:=by
 have h0:∀ x:Int,1≤x→¬ x≤((mgNew blocks last).txs.length:Int):=fun x h1 h2=>by simp [mgNew] at h2;omega
 exact ⟨RpJ.start _ _,fun x h1 h2=>absurd h2 (h0 x h1),fun x h1 h2=>absurd h2 (h0 x h1),fun x h1 h2=>absurd h2 (h0 x h1)⟩
theorem TpJ.begins (h:TpJ s O) (g:MgG N s):TpJ (begNext s) O:=by
 have j':=h.j.begins g
 by_cases hc:s.tmb.length < 16
 ·obtain ⟨_,_,e⟩:=beg_okR g hc
  obtain ⟨_,t2,t3,t4⟩:=beg_tx g hc
  have hO:∀ x∈O,txAt (begNext s).txs x=txAt s.txs x:=fun x hx=>by
   obtain ⟨a1,a2,_⟩:=(h.j.mem x).1 hx
   exact t3 x a1 a2
  have hv:(begNext s).vs=s.vs:=by rw [e]
  refine ⟨j',fun x h1 h2 hst k=>?_,fun x h1 h2 r hr ho=>?_,fun x h1 h2 r hr ho=>?_⟩
  ·rw [t4] at h2
   by_cases hx:x≤s.txs.length
   ·rw [t3 x h1 hx] at hst ⊢
    rw [hv,wantO_same hO]
    exact h.vw x h1 hx hst k
   ·obtain rfl:x=s.txs.length+1:=by omega
    rw [t2,hv,wantO_same hO]
    show (getV s.vs k s.last).1=wantO s O s.last k
    rw [wantO_all h.j.le,getV_last g.ge g.l0,h.j.vs k]
  ·rw [t4] at h2
   by_cases hx:x≤s.txs.length
   ·rw [t3 x h1 hx] at hr ⊢
    rw [wantO_same hO]
    exact h.rd x h1 hx r hr ho
   ·obtain rfl:x=s.txs.length+1:=by omega
    rw [t2] at hr
    simp at hr
  ·rw [t4] at h2
   by_cases hx:x≤s.txs.length
   ·rw [t3 x h1 hx] at hr ⊢
    exact h.ow x h1 hx r hr ho
   ·obtain rfl:x=s.txs.length+1:=by omega
    rw [t2] at hr
    simp at hr
 ·obtain ⟨_,_,e⟩:=beg_fullR g (by omega)
  rw [e];exact h
theorem TpJ.same (h:TpJ s O) {s':MgS} (e1:s'.txs=s.txs) (e2:s'.vs=s.vs) (e3:s'.last=s.last):TpJ s' O :=
 h.kin (h.j.same e1 e2 e3) (by rw [e1]) (fun x _=>by rw [e1]) (fun x _ _=>by rw [e1];exact Kin.refl _) (fun x _ _ _ k=>by rw [e2])
theorem TpJ.turn (h:TpJ s O) {n:Int} (ho:openB s n=true) {s':MgS} (j':RpJ s' O) (hl:s'.txs.length=s.txs.length) (hf:∀ x:Int,1≤x→x≠n→txAt s'.txs x=txAt s.txs x) (hv:s'.vs=s.vs) (ha:(txAt s'.txs n).at'=(txAt s.txs n).at')
  (hr:∀ r∈(txAt s'.txs n).R,r.own=false→r.data=wantO s O (txAt s.txs n).at' r.lba) (hw:∀ r∈(txAt s'.txs n).R,r.own=true→OwnK (txAt s'.txs n).buf r.lba):TpJ s' O:=by
 obtain ⟨o1,o2,o3⟩:=open_notDone ho
 have ost:=(openB_iff.1 ho).2.2
 have hO:∀ x∈O,txAt s'.txs x=txAt s.txs x:=fun x hx=>by
  obtain ⟨a1,a2⟩:=rpj_notO h.j o3 hx
  exact hf x a1 a2
 refine ⟨j',fun x h1 h2 hst k=>?_,fun x h1 h2 r hrr hro=>?_,fun x h1 h2 r hrr hro=>?_⟩
 ·rw [hl] at h2
  by_cases hx:x=n
  ·subst hx
   rw [ha,wantO_same hO,hv]
   exact h.vw x h1 h2 ost k
  ·rw [hf x h1 hx] at hst ⊢
   rw [wantO_same hO,hv]
   exact h.vw x h1 h2 hst k
 ·rw [hl] at h2
  by_cases hx:x=n
  ·subst hx
   rw [ha,wantO_same hO]
   exact hr r hrr hro
  ·rw [hf x h1 hx] at hrr ⊢
   rw [wantO_same hO]
   exact h.rd x h1 h2 r hrr hro
 ·rw [hl] at h2
  by_cases hx:x=n
  ·subst hx
   exact hw r hrr hro
  ·rw [hf x h1 hx] at hrr ⊢
   exact h.ow x h1 h2 r hrr hro
theorem TpJ.writes (h:TpJ s O) (n:Int) (l:List Put):TpJ (wrNext s n l) O:=by
 by_cases ho:openB s n=true
 ·obtain ⟨o1,o2,_⟩:=openB_iff.1 ho
  have hn:txAt (wrNext s n l).txs n={ txAt s.txs n with buf:=bufNext s.blocks 16 (txAt s.txs n).buf l }:=by
   unfold wrNext
   rw [if_pos ho]
   show txAt (s.txs.set (n - 1).toNat _) n=_
   rw [txAt_set _ o1 o2 o1,if_pos rfl];rfl
  refine h.turn ho (h.j.writes n l) (wr_len n l) (fun x h1 hx=>wr_frame n l h1 hx) (by rw [wr_same]) (by rw [hn]) (fun r hr hro=>?_) (fun r hr hro=>?_)
  ·rw [hn] at hr
   exact h.rd n o1 o2 r hr hro
  ·rw [hn] at hr ⊢
   have:=h.ow n o1 o2 r hr hro
   show OwnK (bufNext s.blocks 16 (txAt s.txs n).buf l) r.lba
   unfold bufNext
   split
   ·exact ownK_to l this
   ·exact this
 ·rw [show wrNext s n l=s by unfold wrNext;rw [if_neg ho]]
  exact h
theorem TpJ.reads (h:TpJ s O) (n:Int) (e:Ext):TpJ (rdNext s n e) O:=by
 by_cases hc:rdCode s n e=0
 ·have ho:openB s n=true:=by
   unfold rdCode at hc
   split at hc
   ·assumption
   ·omega
  obtain ⟨o1,o2,o3⟩:=openB_iff.1 ho
  have hn:txAt (rdNext s n e).txs n=rdTx s (txAt s.txs n) e:=by
   unfold rdNext
   rw [if_pos hc]
   show txAt (s.txs.set (n - 1).toNat _) n=_
   rw [txAt_set _ o1 o2 o1,if_pos rfl];rfl
  have hR:∀ r∈(txAt (rdNext s n e).txs n).R,r∈(txAt s.txs n).R∨∃ k:Int,r=⟨k,blkV s.vs (txAt s.txs n).buf (txAt s.txs n).at' k,(alook (txAt s.txs n).buf k).isSome⟩:=fun r hr=>by
   rw [hn] at hr
   rcases List.mem_append.1 (show r∈(txAt s.txs n).R++readsV s.vs (txAt s.txs n).buf (txAt s.txs n).at' e.first e.len.toNat from hr) with hr | hr
   ·exact .inl hr
   ·obtain ⟨i,_,rfl⟩:=List.mem_map.1 hr
    exact .inr ⟨e.first+i,rfl⟩
  refine h.turn ho (h.j.reads n e) (rd_len n e) (fun x h1 hx=>?_) (by rw [rd_same]) (by rw [hn];rfl) (fun r hr hro=>?_) (fun r hr hro=>?_)
  ·unfold rdNext
   rw [if_pos hc]
   exact setTx_frame _ o1 o2 h1 hx
  ·rcases hR r hr with hr | ⟨k,rfl⟩
   ·exact h.rd n o1 o2 r hr hro
   ·have hno:alook (txAt s.txs n).buf k=none:=by
     cases hq:alook (txAt s.txs n).buf k with
     | none=>rfl
     | some d=>rw [hq] at hro;cases hro
    show (alook (txAt s.txs n).buf k).getD (getV s.vs k (txAt s.txs n).at').1=_
    rw [hno]
    exact h.vw n o1 o2 o3 k
  ·rw [show (txAt (rdNext s n e).txs n).buf=(txAt s.txs n).buf by rw [hn];rfl]
   rcases hR r hr with hr | ⟨k,rfl⟩
   ·exact h.ow n o1 o2 r hr hro
   ·exact ownK_look.2 hro
 ·rw [show rdNext s n e=s by unfold rdNext;rw [if_neg hc]]
  exact h
theorem kin_end {t:TxS} {st cd:Int} (h:st≠1):Kin t (endTx t st cd):=⟨rfl,rfl,rfl,fun e=>absurd e h⟩
theorem TpJ.ends (h:TpJ s O) {n:Int} (h1:1≤n) (h2:n≤s.txs.length) (hd:¬ isDone (txAt s.txs n)) {st cd:Int} (hs:st≠1) (hst:st≠3∨(txAt s.txs n).buf.length=0):TpJ (endNext s n st cd) O:=by
 obtain ⟨e1,e2,e3⟩:=end_tx (s:=s) (h:=n) (st:=st) (cd:=cd) h1 h2
 refine h.kin (h.j.ends h1 h2 hd hst) e3 (fun x hx=>?_) (fun x x1 x2=>?_) (fun x x1 x2 _ k=>rfl)
 ·obtain ⟨a1,a2⟩:=rpj_notO h.j hd hx
  exact e2 x a1 a2
 ·by_cases hx:x=n
  ·subst hx
   rw [e1];exact kin_end hs
  ·rw [e2 x x1 hx];exact Kin.refl _
theorem TpJ.aborts (h:TpJ s O) (n:Int):TpJ (abNext s n) O:=by
 unfold abNext
 by_cases ho:openB s n=true
 ·rw [if_pos ho]
  obtain ⟨h1,h2,h3⟩:=open_notDone ho
  exact h.ends h1 h2 h3 (by omega) (.inl (by omega))
 ·rw [if_neg ho];exact h
theorem TpJ.commits (h:TpJ s O) (n:Int):TpJ (cmNext s n) O:=by
 by_cases ho:openB s n=true
 ·obtain ⟨h1,h2,h3⟩:=open_notDone ho
  have hv:(cmNext s n).vs=s.vs:=by rw [(cm_same n).1]
  have hkin:Kin (txAt s.txs n) (txAt (cmNext s n).txs n):=by
   unfold cmNext
   rw [if_pos ho]
   split
   ·rw [(end_tx (s:=setTx s n { txOf s n with tm:=(txOf s n).at' }) (st:=3) (cd:=0) h1 (by rw [setTx_len];exact h2)).1]
    have ha:txAt (setTx s n { txOf s n with tm:=(txOf s n).at' }).txs n={ txOf s n with tm:=(txOf s n).at' }:=by
     show txAt (s.txs.set (n - 1).toNat _) n=_
     rw [txAt_set _ h1 h2 h1,if_pos rfl]
    rw [ha]
    exact ⟨rfl,rfl,rfl,fun e=>absurd e (by show ¬ (3:Int)=1;omega)⟩
   ·split
    ·rw [(end_tx (st:=4) h1 h2).1]
     exact kin_end (by omega)
    ·rw [(wait_tx ho).1]
     exact ⟨rfl,rfl,rfl,fun e=>absurd e (by show ¬ (2:Int)=1;omega)⟩
  refine h.kin (h.j.commits n) (cmNext_len s n) (fun x hx=>?_) (fun x x1 x2=>?_) (fun x x1 x2 _ k=>by rw [hv])
  ·obtain ⟨a1,a2⟩:=rpj_notO h.j h3 hx
   exact cm_frame n a1 a2
  ·by_cases hx:x=n
   ·subst hx;exact hkin
   ·rw [cm_frame n x1 hx];exact Kin.refl _
 ·rw [show cmNext s n=s by unfold cmNext;rw [if_neg ho]]
  exact h
theorem TpJ.batches (h:TpJ s O):TpJ (baNext s) O:=by
 unfold baNext
 split
 ·exact h.same rfl rfl rfl
 ·exact h
theorem TpJ.ro (h:TpJ s O) (q:Bool):TpJ { s with ro:=q } O:=h.same rfl rfl rfl
theorem TpJ.prunes (h:TpJ s O) (g:MgG N s):TpJ (prNext s) O:=by
 refine h.kin h.j.prunes rfl (fun _ _=>rfl) (fun x _ _=>Kin.refl _) (fun x h1 h2 hst k=>?_)
 obtain ⟨_,p2,_⟩:=lowOf_leB (s.tmb.map (fun x:Int × Int=>x.2)) s.last
 have hb:=g.bk x h1 h2
 rw [if_pos (.inl hst)] at hb
 have hle:prH s≤(txAt s.txs x).at':=p2 _ (List.mem_map.2 ⟨_,alook_in hb,rfl⟩)
 show (getV (pruneVs (prH s) s.vs) k (txAt s.txs x).at').1=_
 rw [pn_getV_prune s.vs k hle]
theorem TpJ.stepTo (h:TpJ s O) (g:MgG N s) (code:Int) {n:Int} (hn:n∈s.queue):TpJ (doStep code s n) (if code=0 then O++[n] else O):=by
 obtain ⟨o1,o2⟩:=g.qr n hn
 obtain ⟨q1,q2⟩:=g.qp n hn
 obtain ⟨b1,b2⟩:=g.qb n hn
 have hnd:¬ isDone (txAt s.txs n):=fun hh=>by have:=hh.1;omega
 have j':=h.j.stepTo g code hn
 have hc:=wait_code g hn
 by_cases h0:code=0
 ·rw [if_pos h0] at j' ⊢
  have hds:doStep code s n=endNext { s with vs:=applyNext s.blocks s.last0 s.vs (waitTx s n),last0:=applyLast s.blocks s.last0 (waitTx s n),last:=(txOf s n).tm } n 3 0:=by unfold doStep;rw [if_pos h0]
  rw [hds] at j' ⊢
  obtain ⟨e1,e2,e3⟩:=end_tx (s:={ s with vs:=applyNext s.blocks s.last0 s.vs (waitTx s n),last0:=applyLast s.blocks s.last0 (waitTx s n),last:=(txOf s n).tm }) (h:=n) (st:=3) (cd:=0) o1 o2
  have hv:(endNext { s with vs:=applyNext s.blocks s.last0 s.vs (waitTx s n),last0:=applyLast s.blocks s.last0 (waitTx s n),last:=(txOf s n).tm } n 3 0).vs=applyVs (waitTx s n).time s.vs (waitTx s n).puts:=by
   show applyNext s.blocks s.last0 s.vs (waitTx s n)=_
   unfold applyNext
   rw [if_pos hc]
  generalize endNext { s with vs:=applyNext s.blocks s.last0 s.vs (waitTx s n),last0:=applyLast s.blocks s.last0 (waitTx s n),last:=(txOf s n).tm } n 3 0=s' at *
  change txAt s'.txs n=endTx (txAt s.txs n) 3 0 at e1
  change ∀ x:Int,1≤x→x≠n→txAt s'.txs x=txAt s.txs x at e2
  change s'.txs.length=s.txs.length at e3
  have htm:(txAt s'.txs n).tm=(txAt s.txs n).tm:=by rw [e1];rfl
  have hO:∀ x∈O,txAt s'.txs x=txAt s.txs x:=fun x hx=>by
   obtain ⟨a1,a2⟩:=rpj_notO h.j hnd hx
   exact e2 x a1 a2
  have hw:∀ x:Int,1≤x→x≤s.txs.length→∀ k,wantO s' (O++[n]) (txAt s.txs x).at' k=wantO s O (txAt s.txs x).at' k:=fun x x1 x2 k=>by
   refine wantO_snoc hO ?_ k
   have:=(g.ta _ (txAt_mem x1 x2)).2
   rw [htm];omega
  have hkin:∀ x:Int,1≤x→x≤s.txs.length→Kin (txAt s.txs x) (txAt s'.txs x):=fun x x1 x2=>by
   by_cases hx:x=n
   ·subst hx;rw [e1];exact kin_end (by omega)
   ·rw [e2 x x1 hx];exact Kin.refl _
  refine ⟨j',fun x x1 x2 hst k=>?_,fun x x1 x2 r hr hro=>?_,fun x x1 x2 r hr hro=>?_⟩
  ·rw [e3] at x2
   obtain ⟨a1,a2,a3,a4⟩:=hkin x x1 x2
   rw [a1,hw x x1 x2,hv]
   have hla:=(g.ta _ (txAt_mem x1 x2)).2
   have htw:(waitTx s n).time=(txAt s.txs n).tm:=rfl
   rw [(getV_apply g.ge hc k (txAt s.txs x).at').1 (.inl (by rw [htw];omega))]
   exact h.vw x x1 x2 (a4 hst) k
  ·rw [e3] at x2
   obtain ⟨a1,a2,a3,a4⟩:=hkin x x1 x2
   rw [a3] at hr
   rw [a1,hw x x1 x2]
   exact h.rd x x1 x2 r hr hro
  ·rw [e3] at x2
   obtain ⟨a1,a2,a3,a4⟩:=hkin x x1 x2
   rw [a3] at hr
   rw [a2]
   exact h.ow x x1 x2 r hr hro
 ·rw [if_neg h0]
  unfold doStep
  rw [if_neg h0]
  exact h.ends o1 o2 hnd (by omega) (.inl (by omega))
theorem TpJ.doneTo (h:TpJ s O) (g:MgG N s) (code:Int):∀ j,j≤s.queue.length→∃ O',TpJ (Go.Proofs.doneTo code s j) O'
 | 0,_=>⟨O,by rw [doneTo_zero];exact h⟩
 | j+1,hj=>by
  obtain ⟨O1,h1⟩:=TpJ.doneTo h g code j (by omega)
  have g1:=g.doneTo code j (by omega)
  have h2:TpJ { Go.Proofs.doneTo code s j with queue:=s.queue.drop j,out:=0 } O1:=h1.same rfl rfl rfl
  have h3:=h2.stepTo g1 code (n:=s.queue[j]) (by
   show s.queue[j]∈s.queue.drop j
   rw [List.drop_eq_getElem_cons (by omega)]
   exact List.mem_cons_self ..)
  refine ⟨if code=0 then O1++[s.queue[j]] else O1,?_⟩
  rw [doneTo_succ code s (by omega)]
  refine h3.same ?_ ?_ ?_
  ·unfold doStep;split <;> rfl
  ·unfold doStep;split <;> rfl
  ·unfold doStep;split <;> rfl
theorem TpJ.dones (h:TpJ s O) (g:MgG N s) (code:Int):∃ O',TpJ (doneNext s code) O':=by
 by_cases h0:s.out=0
 ·exact ⟨O,by unfold doneNext;rw [if_pos h0];exact h⟩
 ·obtain ⟨o1,o2⟩:=g.o1
  obtain ⟨O1,h1⟩:=h.doneTo g code s.out.toNat (by omega)
  refine ⟨O1,?_⟩
  have e:doneNext s code={ Go.Proofs.doneTo code s s.out.toNat with num:=if code=0 then s.num+1 else s.num,queue:=s.queue.drop s.out.toNat,out:=0 }:=by
   unfold doneNext Go.Proofs.doneTo
   rw [if_neg h0]
  rw [e]
  exact h1.same rfl rfl rfl
end
end Go.Proofs
namespace Go.Proofs
open Go.RowKit Sc
def blocksTo (l:List Tx) (k:Nat):Nat:=1+((l.take k).map fun t=>t.puts.length).sum
def blocksN (l:List Tx):Nat:=blocksTo l l.length
theorem blocksTo_succ (l:List Tx) {k:Nat} (h:k < l.length):blocksTo l (k+1)=blocksTo l k+l[k].puts.length:=by
 unfold blocksTo
 rw [take_snoc l k h,List.map_append,List.sum_append]
 simp;omega
theorem blocksTo_le {l:List Tx} {m:Nat} (h:∀ t∈l,t.puts.length≤m):∀ k,k≤l.length→blocksTo l k≤1+m * k
 | 0,_=>by simp [blocksTo]
 | k+1,hk=>by
  have:=blocksTo_le h k (by omega)
  have:=h _ (List.getElem_mem (show k < l.length by omega))
  rw [blocksTo_succ l (by omega),Nat.mul_add]
  omega
theorem blocks_any (G:Nat→Prop) (v:Value) (num:Int) (l:List Tx) (w:World) (hG:Dom G w) (hl:TxsAt G w v l) (h16:∀ t∈l,t.puts.length≤16) (hn:l.length≤1000) :
  Calls Tryz.prog 224 #[.agg #[.int .i64 num,v]] w fun e w'=>e=.returned (.int .i64 (blocksN l))∧Hid (Below w.heap.size w w'):=by
 obtain ⟨p,c,rfl,h1,h2,h3,h4⟩:=hl
 have H4:=Lib.hid h4
 have HG:=Lib.hid hG
 have H16:=Lib.hid h16
 have HBX:=Lib.hid (below_alloc w (.cells #[.int .i64 num,.slice p l.length c] 112 (0,0)))
 clear h4 hG h16
 go_enter Tryz.func224,Tryz.ntmps224
 go_wp2_with fail
 go_loopw [3,9] (fun s3 s9 wr=>∃ k P:Nat,k≤l.length∧s9=.int .i64 k∧s3=.int .i64 P∧P≤100000∧Hid (P=blocksTo l k)∧Hid (Below w.heap.size w wr)) (fun _ s9 _=>l.length - (intOf s9).toNat)
 case atStart=>exact ⟨0,1,Nat.zero_le _,by go_num,by go_num,by omega,rfl,HBX⟩
 case round =>
  obtain ⟨k,P,hk,rfl,rfl,hP,HP,HB⟩:=hrel
  by_cases hlt:k < l.length
  case neg =>
   obtain rfl:k=l.length:=by omega
   go_wp2_with fail
   go_ret
   exact ⟨by rw [HP.out];rfl,HB⟩
  case pos =>
   obtain ⟨b,o,rfl,_,c0,_,pv,c1,hp⟩:=H4.out k hlt
   replace c0:=cell_up HB.out c0
   replace c1:=cell_up HB.out c1
   obtain ⟨pp,pc,rfl,p1,p2,-⟩:=hp
   have hm:=H16.out _ (List.getElem_mem hlt)
   have HST:=Lib.hid (blocksTo_succ l hlt)
   have HLE:=Lib.hid (blocksTo_le H16.out k hk)
   generalize l[k].puts.length=m at *
   generalize l[k].time=tm at *
   have hle2:P+m≤100000:=by have:=HP.out;have:=HLE.out;omega
   have HBA:=Lib.hid (Below.up HB.out (below_alloc wr (.cells #[.int .i64 tm,.slice pp m pc] 198)))
   have HPM:Hid (P+m=blocksTo l (k+1)):=by show _=_;rw [HST.out,HP.out]
   go_wp2_with fail
   go_roundw
   case rel=>exact ⟨k+1,P+m,by omega,by go_num,by go_num,hle2,HPM,HBA⟩
   case measure=>simp [intOf];omega
def PutOk (p:Put):Prop:=0≤p.lba∧p.lba≤1048576∧p.data.length=40
theorem put_yes (x:Put) (dp:Option Addr) (dc:Nat) (w:World) (h:PutOk x):Calls Tryz.prog 226 #[.agg #[.int .i64 x.lba,.slice dp x.data.length dc]] w fun e w'=>e=.returned (.bool true)∧Hid (Below w.heap.size w w'):=by
 obtain ⟨h0,h1,h2⟩:=h
 rw [h2]
 generalize x.lba=lb at *
 clear h2
 have HB:=Lib.hid (below_alloc w (.cells #[.int .i64 lb,.slice dp 40 dc] 44 (0,0)))
 go_enter Tryz.func226,Tryz.ntmps226
 go_wp2_with fail
 go_ret
 exact ⟨rfl,HB⟩
theorem checkC_no (G:Nat→Prop) (x:Put) (ev:Value) (W:World) (he:putV G W ev x) (h:PutOk x):Calls Tryz.prog 225 #[ev] W fun e w'=>e=.returned (.bool false)∧Below W.heap.size W w':=by
 obtain ⟨dv,rfl,hi,hd⟩:=he
 obtain ⟨dp,dc,rfl⟩:=shape_of hd rfl
 have HB:=Lib.hid (below_alloc W (.cells #[.int .i64 x.lba,.slice dp x.data.length dc] 44 (0,0)))
 have HP:=Lib.hid (put_yes x dp dc (W.alloc (.cells #[.int .i64 x.lba,.slice dp x.data.length dc] 44 (0,0))) h)
 generalize x.data.length=m at *
 generalize x.lba=lb at *
 clear hi hd h
 go_enter Tryz.func225,Tryz.ntmps225
 go_wp2_with fail
 refine (HP.out).mono ?_
 rintro e w1 ⟨rfl,hb1⟩
 go_wp2_with fail
 go_ret
 exact ⟨rfl,Below.up HB.out hb1.out⟩
theorem noPut_any (G:Nat→Prop) (v:Value) (l:List Put) (w:World) (hG:Dom G w) (hv:PutsAt G w v l) (hp:∀ p∈l,PutOk p) :
  Calls Tryz.prog 167 #[v,.func (.func 225) #[] #[]] w fun e w'=>e=.returned (.bool false)∧Below w.heap.size w w':=by
 refine (anyPut_any G v l (fun _=>false) 225 #[] (by go_simp) w hG hv fun i hi W ev hb hev=>checkC_no G _ ev W hev (hp _ (List.getElem_mem hi))).mono ?_
 rintro e w' ⟨rfl,hb⟩
 exact ⟨by simp,hb⟩
def CheckOk (l:List Tx) (c:Int):Prop:=(c=0∨c=1)∧((∀ k (h:k+1 < l.length),l[k+1].time - (l[k]'(by omega)).time≤65535)→c=0)
structure BatOk (num:Int) (l:List Tx):Prop where
 n1:1≤num
 n2:num≤1099511627776
 l1:1≤l.length
 l8:l.length≤8
 oo:ordFrom 0 l=true
 b33:blocksN l≤33
 tm:∀ t∈l,0≤t.time∧t.time≤1099511627776
 p16:∀ t∈l,t.puts.length≤16
 po:∀ t∈l,∀ p∈t.puts,PutOk p
set_option maxRecDepth 100000 in
set_option maxHeartbeats 4000000 in
theorem check_ok (G:Nat→Prop) (v:Value) (num:Int) (l:List Tx) (w:World) (hG:Dom G w) (hl:TxsAt G w v l) (h:BatOk num l) :
  Calls Tryz.prog 161 #[.agg #[.int .i64 num,v]] w fun e w'=>(∃ c:Int,e=.returned (.int .i64 c)∧CheckOk l c)∧Hid (Below w.heap.size w w'):=by
 obtain ⟨p,c,rfl,h1,h2,h3,h4⟩:=hl
 have hba:=below_alloc w (.cells #[.int .i64 num,.slice p l.length c] 112 (0,0))
 have hnw:=heap_alloc_new w (.cells #[.int .i64 num,.slice p l.length c] 112 (0,0))
 obtain ⟨wa,hwa⟩:∃ wa,w.alloc (.cells #[.int .i64 num,.slice p l.length c] 112 (0,0))=wa:=⟨_,rfl⟩
 rw [hwa] at hba hnw
 obtain ⟨B,hB⟩:∃ B,w.heap.size=B:=⟨_,rfl⟩
 rw [hB] at hnw
 have b0:wa.cell? ⟨B,0,none⟩=some (.int .i64 num):=by rw [cell_row hnw];rfl
 have b1:wa.cell? ⟨B,1,none⟩=some (.slice p l.length c):=by rw [cell_row hnw];rfl
 have hla:TxsAt G wa (.slice p l.length c) l:=TxsAt.up ⟨p,c,rfl,h1,h2,h3,h4⟩ hba
 have HOR:=Lib.hid (fun W (hb:Below wa.heap.size wa W)=>order_any G _ l W ((hG.below hba).below hb) (hla.up hb))
 have HBL:=Lib.hid (fun W (hb:Below wa.heap.size wa W)=>blocks_any G _ num l W ((hG.below hba).below hb) (hla.up hb) h.p16 (by have:=h.l8;omega))
 have HBA:=Lib.hid hba
 have HG:=Lib.hid hG
 have H4:=Lib.hid h4
 have HOK:=Lib.hid h
 have hn1:=h.n1
 have hn2:=h.n2
 have hl1:=h.l1
 have hl8:=h.l8
 have hoo:=h.oo
 have hn1':¬ num < 1:=by omega
 have hn2':¬ 1099511627776 < num:=by omega
 have hl1':((l.length:Int) == 0)=false:=by rw [beq_eq_false_iff_ne];omega
 have hl8':¬ (8:Int) < (l.length:Int):=by omega
 have h33:(blocksN l:Int)≤33:=by have:=h.b33;omega
 clear hba hnw hla h4 h h3 hG
 go_enter Tryz.func161,Tryz.ntmps161
 go_wp2_with fail
 try rw [hwa]
 try rw [hB]
 refine (HOR.out _ (Below.refl _ _)).mono ?_
 rintro e w1 ⟨rfl,hb1⟩
 rw [hoo]
 have k0:=cell_up hb1 b0
 have k1:=cell_up hb1 b1
 have HB1:=Lib.hid hb1
 clear hb1
 go_wp2_with fail
 refine (HBL.out _ HB1.out).mono ?_
 rintro e w2 ⟨rfl,hb2⟩
 generalize hbn:(blocksN l:Int)=bn at *
 have h33':¬ (33:Int) < bn:=by omega
 clear hbn h33
 have m1:=cell_up hb2.out k1
 have HB2:=Lib.hid (Below.up HB1.out hb2.out)
 clear hb2 k0 k1 b0 HB1 HOR HBL
 go_wp2_with fail
 go_loopw [39] (fun s39 wr=>∃ k:Nat,k≤l.length∧s39=.int .i64 k∧Hid (∀ j (h:j+1 < l.length),j+1 < k→l[j+1].time - (l[j]'(by omega)).time≤65535)∧Hid (Below wa.heap.size wa wr)) (fun s39 _=>l.length - (intOf s39).toNat)
 case atStart=>exact ⟨0,Nat.zero_le _,by go_num,fun j _ hj=>absurd hj (by omega),HB2⟩
 case round =>
  obtain ⟨k,hk,rfl,HST,HB⟩:=hrel
  clear HB2
  by_cases hlt:k < l.length
  case neg =>
   have HFIN:Hid (CheckOk l 0):=⟨.inl rfl,fun _=>rfl⟩
   go_wp2_with fail
   go_ret
   exact ⟨⟨0,rfl,HFIN.out⟩,Lib.hid (Below.up HBA.out HB.out)⟩
  case pos =>
   obtain ⟨b,o,rfl,hGb,c0,ci,pv,c1,hp⟩:=H4.out k hlt
   have hbw:=Below.up HBA.out HB.out
   replace c0:=cell_up hbw c0
   replace c1:=cell_up hbw c1
   have hpk:=HOK.out.p16 _ (List.getElem_mem hlt)
   have htk:=HOK.out.tm _ (List.getElem_mem hlt)
   have hpo:=HOK.out.po _ (List.getElem_mem hlt)
   obtain ⟨pp,pc,rfl,p1,p2,p3,p4⟩:=hp
   have hpu:PutsAt G wr (.slice pp l[k].puts.length pc) l[k].puts:=PutsAt.up ⟨pp,pc,rfl,p1,p2,p3,p4⟩ hbw
   have hPV:0 < k→∃ tq:Int,wr.cell? ⟨b,o+(k - 1) * 2,none⟩=some (.int .i64 tq)∧0≤tq∧tq≤1099511627776∧tq=(l[k - 1]'(by omega)).time:=fun h0=>by
    obtain ⟨b',o',e',_,q0,_⟩:=H4.out (k - 1) (by omega)
    cases e'
    have:=HOK.out.tm _ (List.getElem_mem (show k - 1 < l.length by omega))
    exact ⟨_,cell_up hbw q0,this.1,this.2,rfl⟩
   obtain ⟨wx,hwx⟩:∃ wx,wr.alloc (.cells #[.int .i64 l[k].time,.slice pp l[k].puts.length pc] 198 (0,0))=wx:=⟨_,rfl⟩
   obtain ⟨D,hD⟩:∃ D,wr.heap.size=D:=⟨_,rfl⟩
   have hba2:=below_alloc wr (.cells #[.int .i64 l[k].time,.slice pp l[k].puts.length pc] 198 (0,0))
   have hnw2:=heap_alloc_new wr (.cells #[.int .i64 l[k].time,.slice pp l[k].puts.length pc] 198 (0,0))
   rw [hwx] at hba2 hnw2
   rw [hD] at hnw2
   have hbx:Below wr.heap.size wr wx.drew:=Below.up hba2 (below_drewN (Below.refl wx.heap.size wx) 1)
   have HNO:=Lib.hid (fun W (hb:Below wx.drew.heap.size wx.drew W)=>noPut_any G _ l[k].puts W (((HG.out.below hbw).below hbx).below hb) ((hpu.up hbx).up hb) hpo)
   have HBX:=Lib.hid (Below.up HB.out hbx)
   have d0:wx.drew.cell? ⟨D,0,none⟩=some (.int .i64 l[k].time):=(cell_row (w:=wx.drew) hnw2 0).trans rfl
   have d1:wx.drew.cell? ⟨D,1,none⟩=some (.slice pp l[k].puts.length pc):=(cell_row (w:=wx.drew) hnw2 1).trans rfl
   have m2:=cell_up (Below.up HB.out hbx) b1
   have HPV:=Lib.hid hPV
   have HTK:Hid (∀ q:Int,q=l[k].time→∀ (h:0 < k),q - (l[k - 1]'(by omega)).time≤65535→∀ j (h:j+1 < l.length),j+1 < k+1→l[j+1].time - (l[j]'(by omega)).time≤65535):=fun q hq h0 hle j hj hjk=>by
    by_cases hj2:j+1 < k
    ·exact HST.out j hj hj2
    ·obtain rfl:k=j+1:=by omega
     rw [hq] at hle
     exact hle
   have HBAD:Hid (∀ q:Int,q=l[k].time→∀ (h:0 < k),65535 < q - (l[k - 1]'(by omega)).time→CheckOk l 1):=fun q hq h0 hgt=>⟨.inr rfl,fun hall=>by
    obtain ⟨j,rfl⟩:∃ j,k=j+1:=⟨k - 1,by omega⟩
    have:=hall j hlt
    rw [hq] at hgt
    have e:(l[j+1 - 1]'(by omega)).time=(l[j]'(by omega)).time:=rfl
    omega⟩
   have HBW:Hid (Below w.heap.size w wr):=hbw
   clear hbw hbx hba2 hpu p3 p4 hPV hpo ci
   generalize l[k].puts.length=m at *
   generalize htm:l[k].time=tm at *
   have HTM:=Lib.hid htm.symm
   clear htm hnw2
   have hm16:¬ (16:Int) < (m:Int):=by omega
   by_cases h0:k=0
   case pos =>
    subst h0
    rw [Nat.zero_mul,Nat.add_zero] at c0 c1
    have HZ:Hid (∀ j (h:j+1 < l.length),j+1 < 0+1→l[j+1].time - (l[j]'(by omega)).time≤65535):=fun j _ hj=>absurd hj (by omega)
    go_upto_region 6 with fail
    try rw [hwx]
    try rw [hD]
    refine wp_regionG (fun W=>Below wx.drew.heap.size wx.drew W) (n:=26) (by kernel_rfl) (by kernel_rfl) ?_
    clear hwx hD
    generalize wx.drew=wd at *
    refine wpG.tk 0 ?_
    refine wpG.tk 1 ?_
    refine wpG.tk 2 ?_
    refine wpG.sk 3 ?_
    refine wpG.sk 4 ?_
    refine wpG.sk 5 ?_
    refine wpG.sk 6 ?_
    refine wpG.sk 7 ?_
    refine wpG.sk 8 ?_
    refine wpG.sk 9 ?_
    refine wpG.sk 10 ?_
    refine wpG.sk 11 ?_
    refine wpG.sk 12 ?_
    refine wpG.sk 13 ?_
    refine wpG.tk 14 ?_
    refine wpG.tk 15 ?_
    refine wpG.tk 16 ?_
    refine wpG.tk 17 ?_ (hy:=by intro W hW;have hld0:=cell_up hW d1;go_simp;try with_reducible rfl)
    refine wpG.tk 18 ?_
    refine wpG.tk 19 ?_
    refine wpG.tk 20 ?_
    refine wpG.tk 21 ?_
    refine wpG.tk 22 ?_
    refine wpG.tk 23 ?_ (hy:=by intro W hW;have hld0:=cell_up hW d1;go_simp;try with_reducible rfl)
    refine wpG.alone 24 rfl (by kernel_rfl) (by kernel_rfl) (Below.refl _ _) (fun K hK=>?_)
    go_simp
    go_at_call 167
    refine (HNO.out _ (Below.refl _ _)).mono ?_
    rintro e w4 ⟨rfl,hb4⟩
    have HB4:=Lib.hid (Below.up HBX.out hb4)
    try go_simp
    refine hK _ _ ?_
    clear hK K
    refine wpG.tk 25 ?_
    refine wpG.done (by kernel_rfl) hb4 ?_
    go_wp2_with fail
    go_roundw
    case rel=>exact ⟨0+1,by omega,by go_num,HZ,HB4⟩
    case measure=>simp [intOf];omega
   case neg =>
    obtain ⟨tq,hq,hq0,hq1,hqe⟩:=HPV.out (by omega)
    have HC1:Hid (65535 < tm - tq→CheckOk l 1):=fun hh=>HBAD.out tm rfl (by omega) (by rw [← hqe];exact hh)
    have HZ1:Hid (tm - tq≤65535→∀ j (h:j+1 < l.length),j+1 < k+1→l[j+1].time - (l[j]'(by omega)).time≤65535):=fun hh=>HTK.out tm rfl (by omega) (by rw [← hqe];exact hh)
    clear hqe
    have q0:wx.drew.cell? ⟨b,o+(k - 1) * 2,none⟩=some (.int .i64 tq):=by
     have:=cell_up (Below.up (below_alloc wr (.cells #[.int .i64 tm,.slice pp m pc] 198 (0,0))) (below_drewN (Below.refl _ _) 1)) hq
     rw [hwx] at this
     exact this
    have hk0:0 < k:=by omega
    have hkd:decide (0 < k)=true:=decide_eq_true hk0
    have hwr:IntKind.i64.wrap (tm - tq)=tm - tq:=IntWalk.i64_in _ (by omega)
    obtain ⟨qk,hqk⟩:∃ qk,k - 1=qk:=⟨_,rfl⟩
    have hkw:IntKind.i64.wrap ((k:Int) - 1)=(qk:Int):=by rw [IntWalk.i64_in _ (by omega)];omega
    have hql:(qk:Int) < (l.length:Int):=by omega
    rw [hqk] at q0
    obtain ⟨df,hdf⟩:∃ df,tm - tq=df:=⟨_,rfl⟩
    rw [hdf] at hwr
    by_cases hbad:65535 < df
    case pos =>
     have hbd:decide (65535 < df)=true:=decide_eq_true hbad
     go_upto_region 6 with fail
     try rw [hwx]
     try rw [hD]
     refine wp_regionG (fun W=>Below wx.drew.heap.size wx.drew W) (n:=26) (by kernel_rfl) (by kernel_rfl) ?_
     clear hwx hD
     generalize wx.drew=wd at *
     refine wpG.tk 0 ?_
     refine wpG.tk 1 ?_
     refine wpG.tk 2 ?_
     refine wpG.tk 3 ?_
     refine wpG.tk 4 ?_ (hy:=by intro W hW;have hld0:=cell_up hW d0;go_simp;try with_reducible rfl)
     refine wpG.tk 5 ?_
     refine wpG.tk 6 ?_ (hy:=by intro W hW;have hld0:=cell_up hW m2;go_simp;try with_reducible rfl)
     refine wpG.tk 7 ?_
     refine wpG.tk 8 ?_
     refine wpG.tk 9 ?_
     refine wpG.tk 10 ?_
     refine wpG.tk 11 ?_ (hy:=by intro W hW;have hld0:=cell_up hW q0;go_simp;try with_reducible rfl)
     refine wpG.tk 12 ?_
     refine wpG.tk 13 ?_
     refine wpG.tk 14 ?_
     refine wpG.tk 15 ?_
     refine wpG.sk 16 ?_
     refine wpG.sk 17 ?_
     refine wpG.sk 18 ?_
     refine wpG.sk 19 ?_
     refine wpG.tk 20 ?_
     refine wpG.tk 21 ?_
     refine wpG.sk 22 ?_
     refine wpG.sk 23 ?_
     refine wpG.sk 24 ?_
     refine wpG.tk 25 ?_
     refine wpG.done (by kernel_rfl) (Below.refl _ _) ?_
     go_wp2_with fail
     go_ret
     exact ⟨⟨1,rfl,HC1.out (by rw [hdf];exact hbad)⟩,by first | exact Lib.hid (Below.up HBA.out HBX.out) | (rw [← hB];exact Lib.hid (Below.up HBA.out HBX.out))⟩
    case neg =>
     have hbd:decide (65535 < df)=false:=decide_eq_false hbad
     go_upto_region 6 with fail
     try rw [hwx]
     try rw [hD]
     refine wp_regionG (fun W=>Below wx.drew.heap.size wx.drew W) (n:=26) (by kernel_rfl) (by kernel_rfl) ?_
     clear hwx hD
     generalize wx.drew=wd at *
     refine wpG.tk 0 ?_
     refine wpG.tk 1 ?_
     refine wpG.tk 2 ?_
     refine wpG.tk 3 ?_
     refine wpG.tk 4 ?_ (hy:=by intro W hW;have hld0:=cell_up hW d0;go_simp;try with_reducible rfl)
     refine wpG.tk 5 ?_
     refine wpG.tk 6 ?_ (hy:=by intro W hW;have hld0:=cell_up hW m2;go_simp;try with_reducible rfl)
     refine wpG.tk 7 ?_
     refine wpG.tk 8 ?_
     refine wpG.tk 9 ?_
     refine wpG.tk 10 ?_
     refine wpG.tk 11 ?_ (hy:=by intro W hW;have hld0:=cell_up hW q0;go_simp;try with_reducible rfl)
     refine wpG.tk 12 ?_
     refine wpG.tk 13 ?_
     refine wpG.tk 14 ?_
     refine wpG.tk 15 ?_
     refine wpG.tk 16 ?_
     refine wpG.tk 17 ?_ (hy:=by intro W hW;have hld0:=cell_up hW d1;go_simp;try with_reducible rfl)
     refine wpG.tk 18 ?_
     refine wpG.tk 19 ?_
     refine wpG.tk 20 ?_
     refine wpG.tk 21 ?_
     refine wpG.tk 22 ?_
     refine wpG.tk 23 ?_ (hy:=by intro W hW;have hld0:=cell_up hW d1;go_simp;try with_reducible rfl)
     refine wpG.alone 24 rfl (by kernel_rfl) (by kernel_rfl) (Below.refl _ _) (fun K hK=>?_)
     go_simp
     go_at_call 167
     refine (HNO.out _ (Below.refl _ _)).mono ?_
     rintro e w4 ⟨rfl,hb4⟩
     have HB4:=Lib.hid (Below.up HBX.out hb4)
     try go_simp
     refine hK _ _ ?_
     clear hK K
     refine wpG.tk 25 ?_
     refine wpG.done (by kernel_rfl) hb4 ?_
     go_wp2_with fail
     go_roundw
     case rel=>exact ⟨k+1,by omega,by go_num,HZ1.out (by rw [hdf];omega),HB4⟩
     case measure=>simp [intOf];omega
end Go.Proofs
namespace Sc
open Go Go.RowKit
theorem chg_cells (b:Nat) {S:Nat→Prop} (hb:S b):∀ (vs:List Value) (o:Nat) (w:World),Chg S w (w.setCells b o vs)
 | [],_,w=>Chg.refl S w
 | v :: vs,o,w=>(chg_set w b o v hb).trans (chg_cells b hb vs (o+1) (w.setCell ⟨b,o,none⟩ v))
theorem addr_addO (g o j:Nat):(⟨g,o,none⟩:Addr).add j=⟨g,o+j,none⟩:=by unfold Addr.add;split <;> simp_all
theorem addr_add0 (g j:Nat):(⟨g,0,none⟩:Addr).add j=⟨g,0+j,none⟩:=addr_addO g 0 j
theorem cell_old {w w':World} (hb:Below w.heap.size w w') {g o:Nat} {u:Value} (_hg:g < w.heap.size) (h:w.cell? ⟨g,o,none⟩=some u):w'.cell? ⟨g,o,none⟩=some u:=cell_up hb h
def ORowP (k:Nat) (v:Value) (n:Nat) (xs:List Value) (F:Foot) (w:World):Prop :=
 xs.length=n * k∧((v=.slice none 0 0∧n=0)∨∃ g o cap,v=.slice (some ⟨g,o,none⟩) n cap∧F g∧n≤cap∧cap≤maxLen ∧
  (∀ j,j < cap * k→(w.cell? ⟨g,o+j,none⟩).isSome=true∧w.frozen? ⟨g,o+j,none⟩=false)∧∀ j u,xs[j]? = some u→w.cell? ⟨g,o+j,none⟩=some u)
def ORowA (k:Nat) (v:Value) (n:Nat) (xs:List Value):Asn:=⟨fun F w=>ORowP k v n xs F w,fun F w w' hs _ ⟨h1,h2⟩=>⟨h1,h2.imp id fun ⟨g,o,cap,e,hF,q1,q2,q3,q4⟩ =>
 ⟨g,o,cap,e,hF,q1,q2,fun j hj=>⟨by rw [hs.cell hF];exact (q3 j hj).1,by rw [World.frozen?_of_block (w:=w) (hs g hF)];exact (q3 j hj).2⟩,fun j u hu=>by rw [hs.cell hF];exact q4 j u hu⟩⟩⟩
theorem orow_nil (k:Nat) (F:Foot) (w:World):ORowP k (.slice none 0 0) 0 [] F w:=⟨by simp,.inl ⟨rfl,rfl⟩⟩
theorem orow_own {B T k n:Nat} {v:Value} {xs:List Value} {w:World} {F:Foot} (h:w.ownsRow B T k v n xs) (hF:∀ g,v.ownBlock=some g→F g):ORowP k v n xs F w:=by
 refine ⟨h.1,h.2.imp id ?_⟩
 rintro ⟨g,cap,cur,rfl,hb,hg,hnc,hcm,hcs,htake⟩
 refine ⟨g,0,cap,rfl,hF g rfl,hnc,hcm,fun j hj=>⟨?_,?_⟩,fun j u hu=>?_⟩
 ·rw [cell_row hg,Nat.zero_add,Array.getElem?_eq_getElem (by omega)];rfl
 ·rw [fz_row hg]
 ·have:=h.cells (g:=g) rfl j u hu
  rwa [addr_add0] at this
theorem ORowP.cell {k n j:Nat} {v u:Value} {xs:List Value} {F:Foot} {w:World} {g o cap:Nat} (h:ORowP k v n xs F w) (e:v=.slice (some ⟨g,o,none⟩) n cap) (hu:xs[j]? = some u):w.cell? ⟨g,o+j,none⟩=some u:=by
 obtain ⟨_,⟨rfl,_⟩ | ⟨g',o',cap',rfl,_,_,_,_,q4⟩⟩:=h
 ·cases e
 ·cases e
  exact q4 j u hu
theorem ORowP.shape {k n:Nat} {v:Value} {xs:List Value} {F:Foot} {w:World} (h:ORowP k v n xs F w):∃ p cap,v=.slice p n cap∧n≤cap∧(p=none→n=0∧cap=0):=by
 obtain ⟨_,⟨rfl,rfl⟩ | ⟨g,o,cap,rfl,_,q1,_,_,_⟩⟩:=h
 ·exact ⟨none,0,rfl,Nat.le_refl _,fun _=>⟨rfl,rfl⟩⟩
 ·exact ⟨_,cap,rfl,q1,fun e=>by cases e⟩
theorem ORowP.base {k n:Nat} {v:Value} {xs:List Value} {F:Foot} {w:World} (h:ORowP k v n xs F w) (h0:0 < n):∃ g o cap,v=.slice (some ⟨g,o,none⟩) n cap∧n≤cap∧cap≤maxLen:=by
 obtain ⟨_,⟨rfl,rfl⟩ | ⟨g,o,cap,rfl,_,q1,q2,_,_⟩⟩:=h
 ·omega
 ·exact ⟨g,o,cap,rfl,q1,q2⟩
theorem ORowP.tail {k n g o cap:Nat} {xs:List Value} {F:Foot} {w:World} (h:ORowP k (.slice (some ⟨g,o,none⟩) (n+1) cap) (n+1) xs F w):ORowP k (.slice (some ⟨g,o+k,none⟩) n (cap - 1)) n (xs.drop k) F w:=by
 obtain ⟨h1,⟨e,_⟩ | ⟨g',o',cap',e,hF,q1,q2,q3,q4⟩⟩:=h
 ·cases e
 ·cases e
  refine ⟨by rw [List.length_drop,h1,Nat.add_mul];omega,.inr ⟨g,o+k,cap - 1,rfl,hF,by omega,by omega,fun j hj=>?_,fun j u hu=>?_⟩⟩
  ·have:=q3 (k+j) (by
    obtain ⟨c,rfl⟩:∃ c,cap=c+1:=⟨cap - 1,by omega⟩
    rw [Nat.add_sub_cancel] at hj
    rw [Nat.add_mul];omega)
   rwa [← Nat.add_assoc] at this
  ·rw [List.getElem?_drop] at hu
   have:=q4 (k+j) u hu
   rwa [← Nat.add_assoc] at this
theorem Sep.orow_tail {W w:World} {L:List Asn} (h:Sep W L w) (i:Nat) {k n g o cap:Nat} {xs:List Value} (hi:L[i]? = some (ORowA k (.slice (some ⟨g,o,none⟩) (n+1) cap) (n+1) xs)):Sep W (L.set i (ORowA k (.slice (some ⟨g,o+k,none⟩) n (cap - 1)) n (xs.drop k))) w :=
 h.imp i hi fun _ _ hP=>ORowP.tail hP
theorem Sep.orow_push {P:Program} {W w w2:World} {L:List Asn} (h:Sep W L w) (i:Nat) {k n:Nat} {v:Value} {xs:List Value} (hi:L[i]? = some (ORowA k v n xs)) (hb:Below w.heap.size w w2) (t ty e:TypeId) (i0:TypeInfo) (z:Value) (bytes:Nat)
  (ht:P.underlying t=some (.slice e)) (hi0:P.info? e=some i0) (hz:i0.zero=some z) (hsize:i0.size=k) (hby:i0.bytes=bytes) (hzs:z.cells.size=k) (hsz:0 < k)
  (ad:Addr) (m c:Nat) (news:List Value) (hl:news.length=m * k) (hnews:∀ j u,news[j]? = some u→w2.cell? (ad.add j)=some u) (h1:∀ u∈news,u.oneCell'=true) (hm:0 < m) (h63:n+m≤maxLen) (hbytes:(n+m) * bytes≤140737488355328) :
  ∃ v' w',(Builtin.append_ #[t,t] ty #[v,.slice (some ad) m c]).run P w2=.ok v' w'∧Sep W (L.set i (ORowA k v' (n+m) (xs++news))) w':=by
 obtain ⟨F,G,hP,_,_,hdF,_,K⟩:=h.at i hi
 have hbz:=hb.size
 obtain ⟨hxl,⟨rfl,rfl⟩ | ⟨g,o,cap,rfl,hF,q1,q2,q3,q4⟩⟩:=hP
 ·obtain rfl:xs=[]:=List.length_eq_zero_iff.1 (by omega)
  obtain ⟨v',w',hr,ho,hg,_⟩:=run_append_own (P:=P) w2 w2.heap.size t ty e i0 z k bytes ht hi0 hz hsize hby hzs hsz _ 0 [] (World.ownsRow_nil w2 w2.heap.size e k) ad m c news hl hnews h1 h63 hbytes (Nat.le_refl _)
  refine ⟨v',w',hr,K w' (fun q=>F q∨New w w' q) _ (Chg.after_up hb (chg_grown hg fun q hq=>by simp [Value.ownBlock] at hq)) (fun q hq=>hq) (orow_own ho fun q hq=>?_)⟩
  have:=ho.lt q hq
  exact .inr ⟨by omega,this.2⟩
 ·subst hsize
  by_cases hroom:n+m≤cap
  ·have hg2:∀ j,w2.cell? ⟨g,j,none⟩=w.cell? ⟨g,j,none⟩:=fun j=>World.cell?_of_block (hb.block g (hdF g hF))
   have hf2:∀ j,w2.frozen? ⟨g,j,none⟩=w.frozen? ⟨g,j,none⟩:=fun j=>World.frozen?_of_block (hb.block g (hdF g hF))
   have hin:∀ j,j < news.length→n * i0.size+j < cap * i0.size:=fun j hj=>by
    have:(n+m) * i0.size≤cap * i0.size:=Nat.mul_le_mul_right _ hroom
    rw [Nat.add_mul] at this
    omega
   have hr:=run_append_room_cells (P:=P) w2 t ty e i0 ht hi0 g o n cap ad m c news hl hnews h1 hroom (fun j hj=>by rw [hg2,Nat.add_assoc];exact (q3 _ (hin j hj)).1) (fun j hj=>by rw [hf2,Nat.add_assoc];exact (q3 _ (hin j hj)).2)
   have hsome:∀ j,j < news.length→(w2.cell? ⟨g,o+n * i0.size+j,none⟩).isSome=true:=fun j hj=>by rw [hg2,Nat.add_assoc];exact (q3 _ (hin j hj)).1
   refine ⟨_,_,hr,K _ F _ (Chg.after_up hb (chg_cells g hF news _ w2)) (fun q hq=>.inl hq) ⟨by rw [List.length_append,hxl,hl,Nat.add_mul],.inr ⟨g,o,cap,rfl,hF,hroom,q2,fun j hj=>⟨?_,?_⟩,fun j u hu=>?_⟩⟩⟩
   ·by_cases hjn:n * i0.size≤j∧j < n * i0.size+news.length
    ·have:=World.cell?_setCells_in g news (o+n * i0.size) w2 hsome (j - n * i0.size) (by omega)
     rw [show o+n * i0.size+(j - n * i0.size)=o+j by omega] at this
     rw [this];rfl
    ·rw [World.cell?_setCells_out g _ _ _ _ (fun _ _=>by show o+j < _∨_≤o+j;omega),hg2]
     exact (q3 j hj).1
   ·rw [World.frozen?_setCells,hf2]
    exact (q3 j hj).2
   ·by_cases hjn:j < n * i0.size
    ·rw [List.getElem?_append_left (by omega)] at hu
     rw [World.cell?_setCells_out g _ _ _ _ (fun _ _=>.inl (by show o+j < _;omega)),hg2]
     exact q4 j u hu
    ·rw [List.getElem?_append_right (by omega),hxl] at hu
     have hjl:=(List.getElem?_eq_some_iff.1 hu).1
     have:=World.cell?_setCells_in g news (o+n * i0.size) w2 hsome (j - n * i0.size) hjl
     rw [show o+n * i0.size+(j - n * i0.size)=o+j by omega] at this
     rw [this]
     rw [List.getElem?_eq_getElem hjl] at hu
     exact hu
  ·obtain ⟨v',w',hr,ho,hg⟩:=run_append_arg_grows (P:=P) w2 t ty e i0 z i0.size bytes ht hi0 hz rfl hby hzs hsz ⟨g,o,none⟩ n cap xs hxl (fun j u hu=>by
    rw [addr_addO]
    exact cell_old hb (hdF g hF) (q4 j u hu)) ad m c news hl hnews (by omega) h63 hbytes
   refine ⟨v',w',hr,K w' (fun q=>F q∨New w w' q) _ (Chg.after_up hb (chg_grown hg fun q hq=>by cases hq)) (fun q hq=>hq) (orow_own ho fun q hq=>?_)⟩
   have:=ho.lt q hq
   exact .inr ⟨by omega,this.2⟩
end Sc
namespace Go.Proofs
open Go.RowKit Sc
def ZoneA (z n:Nat):Asn:=⟨fun F w=>∃ p c gd xs,F z∧w.heap[z]? = some (.cells #[.slice p n c,.int .i64 gd] 142 (0,0))∧w.ownsRow 0 40 1 (.slice p n c) n xs∧∀ g,(Value.slice p n c).ownBlock=some g→F g∧g≠z,
 fun _ _ _ hs _ ⟨p,c,gd,xs,h1,h2,h3,h4⟩=>⟨p,c,gd,xs,h1,(hs z h1).trans h2,row_same hs h3 (fun g hg=>(h4 g hg).1),h4⟩⟩
def devRow (r cap:Nat) (ops reads left:Int):Array Value:=#[.int .i64 8,.int .i64 96,.slice (some ⟨r,0,none⟩) 8 cap,.int .i64 ops,.int .i64 reads,.bool false,.int .i64 left,.bool false]
def DevBoxA (d r cap:Nat):Asn:=⟨fun F w=>∃ ops reads left:Int,(BoxA d (devRow r cap ops reads left) 138).P F w,fun _ _ _ hs hz ⟨a,b,c,h⟩=>⟨a,b,c,(BoxA d (devRow r cap a b c) 138).loc _ _ _ hs hz h⟩⟩
structure DvC where
 d:Nat
 r:Nat
 cap:Nat
 zb:List Nat
def devItems (c:DvC) (zs:List Nat):List Asn:=DevBoxA c.d c.r c.cap :: RowA 139 1 (.slice (some ⟨c.r,0,none⟩) 8 c.cap) 8 (c.zb.map pt) :: List.zipWith ZoneA c.zb zs
structure DvOk (c:DvC) (zs:List Nat):Prop where
 b8:c.zb.length=8
 z8:zs.length=8
def DevA (v:Value) (zs:List Nat):Asn:=⟨fun F w=>∃ c:DvC,v=pt c.d∧DvOk c zs∧(StarA (devItems c zs)).P F w,fun F w w' hs hz ⟨c,h1,h2,h3⟩=>⟨c,h1,h2,(StarA (devItems c zs)).loc F w w' hs hz h3⟩⟩
theorem DevA.opened {W w:World} {L:List Asn} (h:Sep W L w) (i:Nat) {d:Nat} {zs:List Nat} (hi:L[i]? = some (DevA (pt d) zs)):∃ c:DvC,c.d=d∧DvOk c zs∧Sep W (OL L i (devItems c zs)) w∧i < L.length:=by
 obtain ⟨F,G,⟨c,h1,h2,h3⟩,_,_,_,_,K⟩:=h.at i hi
 have hil:=(List.getElem?_eq_some_iff.1 hi).1
 have:=K w F (StarA (devItems c zs)) (Chg.refl _ _) (fun k hk=>.inl hk) h3
 have:=this.openStar i (List.getElem?_set_self hil)
 rw [OL_again] at this
 refine ⟨c,?_,h2,this,hil⟩
 simp only [Value.pointer.injEq,Option.some.injEq,Addr.mk.injEq] at h1
 exact h1.1.symm
theorem DevA.closed {W w:World} {L:List Asn} {i:Nat} {c:DvC} {zs:List Nat} (h:Sep W (OL L i (devItems c zs)) w) (hi:i < L.length) (hc:DvOk c zs):Sep W (L.set i (DevA (pt c.d) zs)) w:=by
 have h1:=h.closeStar hi
 have h2:=h1.imp i (A:=StarA (devItems c zs)) (A':=DevA (pt c.d) zs) (List.getElem?_set_self hi) fun F _ hP=>⟨c,rfl,hc,hP⟩
 rw [List.set_set] at h2
 exact h2
section
variable {W w:World} {L:List Asn} {i:Nat} {c:DvC} {zs:List Nat}
theorem dev_box (h:Sep W (OL L i (devItems c zs)) w):∃ ops reads left:Int,w.heap[c.d]? = some (.cells (devRow c.r c.cap ops reads left) 138 (0,0)):=by
 obtain ⟨F,⟨a,b,l,hF⟩,_⟩:=h.get (L.length+0) (A:=DevBoxA c.d c.r c.cap) (OL_get.trans rfl)
 exact ⟨a,b,l,hF.2⟩
theorem dev_row (h:Sep W (OL L i (devItems c zs)) w) (hc:DvOk c zs) {k:Nat} (hk:k < 8):w.cell? ⟨c.r,k,none⟩=some (pt (c.zb[k]'(by rw [hc.b8];exact hk))):=by
 obtain ⟨F,hF,_⟩:=h.get (L.length+1) (A:=RowA 139 1 (.slice (some ⟨c.r,0,none⟩) 8 c.cap) 8 (c.zb.map pt)) (OL_get.trans rfl)
 rw [hF.1.cellAt k (by omega),List.getElem?_map,List.getElem?_eq_getElem (by rw [hc.b8];exact hk)];rfl
theorem dev_zget (hc:DvOk c zs) {k:Nat} (hk:k < 8):(devItems c zs)[k+2]? = some (ZoneA (c.zb[k]'(by rw [hc.b8];exact hk)) (zs[k]'(by rw [hc.z8];exact hk))):=by
 have hb:=hc.b8
 have hz:=hc.z8
 show (List.zipWith ZoneA c.zb zs)[k]? = _
 rw [List.getElem?_eq_getElem (by rw [List.length_zipWith];omega),List.getElem_zipWith]
theorem dev_zset (hc:DvOk c zs) {k:Nat} (hk:k < 8) (n:Nat):(devItems c zs).set (k+2) (ZoneA (c.zb[k]'(by rw [hc.b8];exact hk)) n)=devItems c (zs.set k n):=by
 have hb:=hc.b8
 have hz:=hc.z8
 show _ :: _ :: (List.zipWith ZoneA c.zb zs).set k _=_ :: _ :: List.zipWith ZoneA c.zb (zs.set k n)
 congr 2
 refine List.ext_getElem (by simp) fun j h1 h2=>?_
 rw [List.getElem_set]
 simp only [List.getElem_zipWith,List.getElem_set]
 split
 ·rename_i e;subst e;rfl
 ·rfl
theorem DvOk.set (hc:DvOk c zs) (k n:Nat):DvOk c (zs.set k n):=⟨hc.b8,by rw [List.length_set];exact hc.z8⟩
theorem dev_begin (h:Hid (Sep W (OL L i (devItems c zs)) w)):Calls Tryz.prog 152 #[pt c.d] w fun e w'=>e=.returned (.bool true)∧Hid (Sep W (OL L i (devItems c zs)) w'):=by
 obtain ⟨F,G,⟨a,b,l,hF⟩,_,_,_,_,K⟩:=h.out.at (L.length+0) (A:=DevBoxA c.d c.r c.cap) (OL_get.trans rfl)
 have hs0:=K w F (BoxA c.d (devRow c.r c.cap a b l) 138) (Chg.refl _ _) (fun k hk=>.inl hk) hF
 have hh:=hF.2
 have c3:w.cell? ⟨c.d,3,none⟩=some (.int .i64 a):=by rw [cell_row hh];rfl
 have c5:w.cell? ⟨c.d,5,none⟩=some (.bool false):=by rw [cell_row hh];rfl
 have c7:w.cell? ⟨c.d,7,none⟩=some (.bool false):=by rw [cell_row hh];rfl
 have f3:=fz_row hh 3
 have f7:=fz_row hh 7
 have hset:(L.length+0) < (OL L i (devItems c zs)).length:=by rw [OL_len];unfold devItems;simp
 have hs1:=hs0.box_store (L.length+0) (List.getElem?_set_self hset) 3 (.int .i64 (wrap64 (a+1)))
 have hs2:=hs1.box_store (L.length+0) (List.getElem?_set_self (by rw [List.length_set];exact hset)) 7 (.bool false)
 have hs3:=hs2.imp (L.length+0) (A:=_) (A':=DevBoxA c.d c.r c.cap) (List.getElem?_set_self (by rw [List.length_set,List.length_set];exact hset)) fun F _ hP=>⟨wrap64 (a+1),b,l,hP⟩
 rw [List.set_set,List.set_set,List.set_set,set_same (OL_get.trans rfl)] at hs3
 have HS:=Lib.hid hs3
 clear h K hs0 hs1 hs2 hs3 hF hh hset
 go_enter Tryz.func152,Tryz.ntmps152
 go_wp2_with fail
 go_ret
 exact ⟨rfl,HS.out⟩
theorem dev_gone (h:Sep W (OL L i (devItems c zs)) w):Calls Tryz.prog 131 #[pt c.d] w fun e w'=>e=.returned (.bool false)∧w=w':=by
 obtain ⟨a,b,l,hh⟩:=dev_box h
 have c2:w.cell? ⟨c.d,2,none⟩=some (.slice (some ⟨c.r,0,none⟩) 8 c.cap):=by rw [cell_row hh];rfl
 clear hh h
 go_enter Tryz.func131,Tryz.ntmps131
 go_wp2_with fail
 go_ret
 exact ⟨rfl,rfl⟩
theorem dev_at (h:Sep W (OL L i (devItems c zs)) w) (hc:DvOk c zs) {k:Nat} (hk:k < 8):Calls Tryz.prog 151 #[pt c.d,.int .i64 k] w fun e w'=>e=.returned (pt (c.zb[k]'(by rw [hc.b8];exact hk)))∧w=w':=by
 obtain ⟨a,b,l,hh⟩:=dev_box h
 have c2:w.cell? ⟨c.d,2,none⟩=some (.slice (some ⟨c.r,0,none⟩) 8 c.cap):=by rw [cell_row hh];rfl
 have cr:=dev_row h hc hk
 have HG:=Lib.hid (dev_gone h)
 have hk0:¬ (k:Int) < 0:=by omega
 have hk8:¬ (8:Int)≤(k:Int):=by omega
 have hk8':(k:Int) < 8:=by omega
 generalize (c.zb[k]'(by rw [hc.b8];exact hk))=z at *
 clear hh h
 go_enter Tryz.func151,Tryz.ntmps151
 go_wp2_with fail
 refine (HG.out).mono ?_
 rintro e w1 ⟨rfl,rfl⟩
 go_wp2_with fail
 go_ret
 exact ⟨rfl,rfl⟩
end
end Go.Proofs
namespace Go.Proofs
open Go.RowKit Sc
theorem infoRowD:(Tryz.prog.info? 40).map (fun i=>(i.zero,i.size,i.bytes))=some (some (.slice none 0 0),1,24):=by kernel_rfl
theorem Sep.zone_push {W w:World} {L:List Asn} (h:Sep W L w) (j:Nat) {z n:Nat} (hj:L[j]? = some (ZoneA z n)) (v:Value) (hv1:v.oneCell'=true) (hn:n≤1000000) :
  ∃ p cc gd,w.heap[z]? = some (.cells #[.slice p n cc,.int .i64 gd] 142 (0,0))∧z < w.heap.size∧∃ g cap w',(Builtin.append_ #[140,140] 140 #[.slice p n cc,.slice (some ⟨w.heap.size,0,none⟩) 1 1]).run Tryz.prog (w.alloc (.cells #[v] 40 (0,0)))=.ok (.slice (some ⟨g,0,none⟩) (n+1) cap) w' ∧
   w'.heap[z]? = some (.cells #[.slice p n cc,.int .i64 gd] 142 (0,0))∧Sep W (L.set j (ZoneA z (n+1))) (w'.setCell ⟨z,0,none⟩ (.slice (some ⟨g,0,none⟩) (n+1) cap)):=by
 obtain ⟨F,G,⟨p,cc,gd,xs,h1,h2,h3,h4⟩,_,_,hdF,_,K⟩:=h.at j hj
 obtain ⟨i0,hi,hz0,hz1,hz2⟩:=info_parts infoRowD
 have hb:=below_alloc w (.cells #[v] 40 (0,0))
 have hown:(w.alloc (.cells #[v] 40 (0,0))).ownsRow 0 40 1 (.slice p n cc) n xs:=row_same (fun q hq=>hb.block q (hdF q hq)) h3 (fun g hg=>(h4 g hg).1)
 have hsz:(w.alloc (.cells #[v] 40 (0,0))).heap.size=w.heap.size+1:=by simp
 have hzlt:=hdF z h1
 obtain ⟨v',w',hr,ho,hg,_,hat⟩:=run_append_own_at (P:=Tryz.prog) (w.alloc (.cells #[v] 40 (0,0))) 0 140 140 40 i0 _ 1 24 Tryz.underlying140 hi hz0 hz1 hz2 rfl (by decide) (.slice p n cc) n xs hown ⟨w.heap.size,0,none⟩ 1 1 [v] rfl (World.news_of_block (cs:=#[v]) (heap_alloc_new w _)) (by simpa using hv1) (by unfold maxLen;omega) (by omega) (Nat.zero_le _)
 have hlt:=ho.lt
 have hgs:=hg.size
 refine ⟨p,cc,gd,h2,hzlt,?_⟩
 obtain ⟨hx,⟨rfl,h0⟩ | ⟨g,cap,cur,rfl,hrest⟩⟩:=ho
 ·exact absurd h0 (by omega)
 ·have hat':(Value.slice p n cc).ownBlock=some g∨g=w.heap.size+1:=by
   rcases hat with e | e
   ·exact .inl e.symm
   ·refine .inr ?_
    rw [← hsz]
    simpa [Value.ownBlock] using e
  have hgz:g≠z:=by
   rcases hat' with e | e
   ·exact (h4 g e).2
   ·omega
  have hwz:w'.heap[z]? = some (.cells #[.slice p n cc,.int .i64 gd] 142 (0,0)):=by
   rw [hg.block z (by omega) (fun e=>(h4 z e.symm).2 rfl),heap_old hzlt]
   exact h2
  have hss:(w'.setCell ⟨z,0,none⟩ (.slice (some ⟨g,0,none⟩) (n+1) cap)).heap.size=w'.heap.size:=by simp [World.setCell]
  have hgF:F g∨(w.heap.size≤g∧g < w'.heap.size):=by
   rcases hat' with e | e
   ·exact .inl (h4 g e).1
   ·exact .inr ⟨by omega,(hlt g rfl).2⟩
  refine ⟨g,cap,w',hr,hwz,K _ (fun q=>F q∨New w (w'.setCell ⟨z,0,none⟩ (.slice (some ⟨g,0,none⟩) (n+1) cap)) q) (ZoneA z (n+1)) ((Chg.after_up hb (chg_grown hg fun q hq=>(h4 q hq).1)).trans (chg_set w' z 0 _ h1)) (fun q hq=>hq) ⟨some ⟨g,0,none⟩,cap,gd,xs++[v],.inl h1,?_,?_,?_⟩⟩
  ·exact Go.heap_setCell_same w' z 0 #[.slice p n cc,.int .i64 gd] 142 (.slice (some ⟨g,0,none⟩) (n+1) cap) hwz
  ·exact row_same (F:=fun q=>q=g) (fun q hq=>Below.heap_setCell _ _ _ q (by rw [show q=g from hq];exact hgz)) ⟨hx,.inr ⟨g,cap,cur,rfl,hrest⟩⟩ (fun q hq=>by
    have:g=q:=by simpa [Value.ownBlock] using hq
    exact this.symm)
  ·intro q hq
   obtain rfl:g=q:=by simpa [Value.ownBlock] using hq
   refine ⟨?_,hgz⟩
   rcases hgF with e | e
   ·exact .inl e
   ·exact .inr ⟨e.1,by rw [hss];exact e.2⟩
theorem zone_told {W w:World} {L:List Asn} (h:Sep W L w) (j:Nat) {z n:Nat} (hj:L[j]? = some (ZoneA z n)):∃ p cc gd,w.heap[z]? = some (.cells #[.slice p n cc,.int .i64 gd] 142 (0,0)):=by
 obtain ⟨F,⟨p,cc,gd,xs,_,h2,_⟩,_⟩:=h.get j hj
 exact ⟨p,cc,gd,h2⟩
set_option maxRecDepth 100000 in
set_option maxHeartbeats 4000000 in
theorem devAppend {W w:World} {L:List Asn} (h:Hid (Sep W L w)) (i:Nat) {d:Nat} {zs:List Nat} (hi:L[i]? = some (DevA (pt d) zs)) {k n:Nat} (hk:k < 8) (hn:zs[k]? = some n) (hroom:n < 96) (pp:Option Addr) (pc:Nat) (p:Bytes) (hp:∀ G w',Sc.Rest L i G w'→BytesAt G w' (.slice pp 64 pc) p) (hl:p.length=64) :
  Calls Tryz.prog 102 #[pt d,.int .i64 k,.slice pp 64 pc] w fun e w'=>e=.returned (.tuple #[.int .i64 n,.int .i64 0])∧Hid (Sep W (L.set i (DevA (pt d) (zs.set k (n+1)))) w'):=by
 obtain ⟨c,rfl,hc,hS,hil⟩:=DevA.opened h.out i hi
 have hkz:k < zs.length:=by rw [hc.z8];exact hk
 have hkb:k < c.zb.length:=by rw [hc.b8];exact hk
 have hzk:zs[k]=n:=by rw [List.getElem?_eq_getElem hkz] at hn;exact Option.some.inj hn
 have hzi:(OL L i (devItems c zs))[L.length+(k+2)]? = some (ZoneA c.zb[k] n):=by rw [OL_get,dev_zget hc hk,hzk]
 have HAT:=Lib.hid (dev_at hS hc hk)
 have HBG:=Lib.hid (dev_begin (Lib.hid hS))
 have hcl:(OL L i (devItems c zs)).set (L.length+(k+2)) (ZoneA c.zb[k] (n+1))=OL L i (devItems c (zs.set k (n+1))):=by rw [OL_set,dev_zset hc hk]
 generalize c.zb[k]=z at *
 have HZI:=Lib.hid hzi
 have HIL:=Lib.hid hil
 have HC:=Lib.hid hc
 have HP:=Lib.hid hp
 have HL:=Lib.hid hl
 have HCL:=Lib.hid hcl
 clear h hi hzi hil hS hc hn hzk hp hl hcl
 go_enter Tryz.func102,Tryz.ntmps102
 go_wp2_with fail
 refine (HAT.out).mono ?_
 rintro e w1 ⟨rfl,rfl⟩
 go_wp2_with fail
 refine (HBG.out).mono ?_
 rintro e w2 ⟨rfl,HS2⟩
 clear HAT HBG
 go_upto_region 8 with fail
 have HD2:Hid (Sep W (OL L i (devItems c zs)) w2.drew):=HS2.out.up (below_drewN (Below.refl w2.heap.size w2) 1)
 obtain ⟨op,rd,lf,hdh⟩:=dev_box HD2.out
 obtain ⟨bp,bc,gd,hzh⟩:=zone_told HD2.out _ HZI.out
 have d1:w2.drew.cell? ⟨c.d,1,none⟩=some (.int .i64 96):=by rw [cell_row hdh];rfl
 have z0:w2.drew.cell? ⟨z,0,none⟩=some (.slice bp n bc):=by rw [cell_row hzh];rfl
 have hnn:¬ (96:Int)≤(n:Int):=by omega
 have hnd:decide ((96:Int)≤(n:Int))=false:=by simpa using hnn
 clear HS2 hdh hzh
 refine wp_regionG (fun W=>W.cell? ⟨c.d,1,none⟩=some (.int .i64 96)∧W.cell? ⟨z,0,none⟩=some (.slice bp n bc)) (n:=12) (by kernel_rfl) (by kernel_rfl) ?_
 generalize w2.drew=w3 at *
 refine wpG.tk 0 ?_
 refine wpG.tk 1 ?_
 refine wpG.tk 2 ?_
 refine wpG.tk 3 ?_ (hy:=by intro W hW;have hld0:=hW.2;go_simp;try with_reducible rfl)
 refine wpG.tk 4 ?_
 refine wpG.tk 5 ?_
 refine wpG.tk 6 ?_
 refine wpG.tk 7 ?_
 refine wpG.tk 8 ?_
 refine wpG.tk 9 ?_ (hy:=by intro W hW;have hld0:=hW.1;go_simp;try with_reducible rfl)
 refine wpG.tk 10 ?_
 refine wpG.tk 11 ?_
 refine wpG.done (by kernel_rfl) ⟨d1,z0⟩ ?_
 clear d1 z0
 go_upto_region 10 with fail
 have HD3:Hid (Sep W (OL L i (devItems c zs)) w3.drew):=HD2.out.up (below_drewN (Below.refl w3.heap.size w3) 1)
 obtain ⟨bp3,bc3,gd3,hzh3⟩:=zone_told HD3.out _ HZI.out
 have y0:w3.drew.cell? ⟨z,0,none⟩=some (.slice bp3 n bc3):=by rw [cell_row hzh3];rfl
 obtain ⟨_,G3,_,hR3,_⟩:=HD3.out.at (L.length+0) (A:=DevBoxA c.d c.r c.cap) (OL_get.trans rfl)
 have hpb:=HP.out G3 w3.drew (Rest_OL hR3)
 have HCO:=Lib.hid (clone_w G3 (.slice pp 64 pc) p w3.drew hpb (by have:=HL.out;omega))
 clear HD2 hzh3 hR3 hpb hnn hnd
 refine wp_regionH (fun W=>W.cell? ⟨z,0,none⟩=some (.slice bp3 n bc3)) (n:=12) (by kernel_rfl) (by kernel_rfl) ?_
 generalize w3.drew=w4 at *
 refine wpH.tk 0 ?_
 refine wpH.tk 1 ?_
 refine wpH.tk 2 ?_
 refine wpH.tk 3 ?_
 refine wpH.tk 4 ?_ (hy:=by intro W hW;have hld0:=hW;go_simp;try with_reducible rfl)
 refine wpH.tk 5 ?_
 refine wpH.alone 6 rfl (by kernel_rfl) (by kernel_rfl) y0 (fun K hK=>?_)
 go_simp
 go_at_call 45
 refine (HCO.out).mono ?_
 rintro e w5 ⟨v,rfl,hv5,hb5⟩
 obtain ⟨vp,vc,rfl⟩:=shape_of hv5.bytes HL.out
 have hs5:=HD3.out.up hb5
 have y5:=cell_up hb5 y0
 obtain ⟨bp6,bc6,gd6,hz6,hzl6,g6,cap6,w6,hr6,hz6',hS6⟩:=Go.Proofs.Sep.zone_push hs5 _ HZI.out (.slice vp 64 vc) rfl (by omega)
 have e6:Value.slice bp6 n bc6=.slice bp3 n bc3:=by
  have:=cell_row hz6 0
  rw [y5] at this
  exact (Option.some.inj this).symm
 rw [e6] at hr6 hz6'
 rw [HCL.out] at hS6
 have y7:=cell_up (below_alloc w5 (.cells #[.slice vp 64 vc] 40 (0,0))) y5
 have y8:w6.cell? ⟨z,0,none⟩=some (.slice bp3 n bc3):=by rw [cell_row hz6'];rfl
 have f8:=frozen_row0 hz6' 0
 have HS6:=Lib.hid hS6
 clear hS6 hs5 HCO hv5 hb5 hz6 hz6' hzl6 e6
 try go_simp
 refine hK _ _ ?_
 clear hK K
 refine wpH.alone 7 rfl (by kernel_rfl) (by kernel_rfl) y5 (fun K hK=>?_)
 go_simp
 try go_simp
 refine hK _ _ ?_
 clear hK K
 refine wpH.alone 8 rfl (by kernel_rfl) (by kernel_rfl) y7 (fun K hK=>?_)
 refine wp_append_run (v:=.slice bp3 n bc3) (u:=.slice (some ⟨w5.heap.size,0,none⟩) 1 1) (.tmp 39) (.tmp 42) 140 rfl ?_ ?_ hr6 ?_
 ·go_simp
 ·go_simp
 try go_simp
 refine hK _ _ ?_
 clear hK K
 refine wpH.tk 9 ?_
 refine wpH.tk 10 ?_
 refine wpH.alone 11 rfl (by kernel_rfl) (by kernel_rfl) y8 (fun K hK=>?_)
 go_simp
 try go_simp
 refine hK _ _ ?_
 clear hK K
 refine wpH.done (by kernel_rfl) (by kernel_rfl) ?_
 obtain ⟨bp9,bc9,gd9,hz9⟩:=zone_told HS6.out (L.length+(k+2)) (z:=z) (n:=n+1) (by rw [← HCL.out];exact List.getElem?_set_self (List.getElem?_eq_some_iff.1 HZI.out).1)
 have u0:=cell_row hz9 0
 change _=some (Value.slice bp9 (n+1) bc9) at u0
 have HFIN:=Lib.hid (DevA.closed HS6.out HIL.out (HC.out.set k (n+1)))
 have hwz:IntKind.i64.wrap (((n+1:Nat):Int) - 1)=(n:Int):=by rw [IntWalk.i64_in _ (by omega)];omega
 clear hr6 y0 y5 y7 y8 f8 hz9 HS6 HD3
 generalize w6.setCell ⟨z,0,none⟩ (.slice (some ⟨g6,0,none⟩) (n+1) cap6)=w9 at *
 go_wp2_with fail
 go_ret2
 exact ⟨rfl,HFIN.out⟩
end Go.Proofs
namespace Sc
open Go Go.RowKit
theorem putW_stable (G:Nat→Prop):Stable G (putW G):=fun w w' b o x hs hb ⟨h1,h2,h3,v,h4,h5⟩=>⟨by rw [hs.cell hb];exact h1,h2,by rw [World.frozen?_of_block (w:=w) (hs b hb)];exact h3,v,by rw [hs.cell hb];exact h4,h5.same hs⟩
theorem PutsW.same {G:Nat→Prop} {w w':World} {v:Value} {l:List Put} (h:PutsW G w v l) (hs:Same G w w'):PutsW G w' v l:=SlAt.same h hs (putW_stable G)
def PutsWA (v:Value) (l:List Put):Asn:=⟨fun F w=>PutsW F w v l,fun _ _ _ hs _ h=>h.same hs⟩
end Sc
namespace Go.Proofs
open Go.RowKit Sc
section
variable {W w:World} {L:List Asn}
theorem bufPutsW (h:Hid (Sep W L w)) (i:Nat) {v:Value} {blocks most:Int} {s:List (Int × Bytes)} (hi:L[i]? = some (BufA v blocks most s)) (hg:BufG blocks s) (hb:blocks≤1048576) (hl:s.length≤1000000) :
  Calls Tryz.prog 92 #[v] w fun e w'=>∃ p c,e=.returned (.slice p s.length c)∧Hid (PutsW (New w w') w' (.slice p s.length c) (bufPuts s))∧Hid (Below w.heap.size w w'):=by
 obtain ⟨F,hF,_⟩:=h.out.get i hi
 refine (bufPuts_any F v blocks most s w hF (hg.i64 hb) hl hg.d40).mono ?_
 rintro e w' ⟨pv,rfl,hp,hb⟩
 obtain ⟨p,c,rfl⟩:=putsW_shape hp
 rw [bufPuts_len] at hp ⊢
 exact ⟨p,c,rfl,hp,hb⟩
end
section
variable {W w:World} {L:List Asn} {i:Nat} {c:MgC} {s:MgS}
end
section
variable {W w:World} {L:List Asn} {i:Nat} {c:MgC} {s:MgS}
end
end Go.Proofs
namespace Go.Proofs
open Go.RowKit Sc
def readW (G:Nat→Prop):Elem Sc.Read:=fun w b o x=>w.cell? ⟨b,o,none⟩=some (.int .i64 x.lba)∧I64 x.lba∧(∃ v,w.cell? ⟨b,o+1,none⟩=some v∧BytesW G w v x.data)∧w.cell? ⟨b,o+2,none⟩=some (.bool x.own)
theorem readW_stable (G:Nat→Prop):Stable G (readW G):=fun w w' b o x hs hb ⟨h1,h2,⟨v,h3,h4⟩,h5⟩ =>
 ⟨by rw [hs.cell hb];exact h1,h2,⟨v,by rw [hs.cell hb];exact h3,h4.same hs⟩,by rw [hs.cell hb];exact h5⟩
def ReadsW (G:Nat→Prop):World→Value→List Sc.Read→Prop:=SlAt G 3 (readW G)
def ReadsWA (v:Value) (l:List Sc.Read):Asn:=⟨fun F w=>ReadsW F w v l,fun F _ _ hs _ h=>SlAt.same h hs (readW_stable F)⟩
def readRW (D:Nat→Prop) (w:World) (cs:List Value) (x:Sc.Read):Prop:=∃ dv,cs=[.int .i64 x.lba,dv,.bool x.own]∧I64 x.lba∧BytesW D w dv x.data
theorem readRW_stable:RStable readRW:=fun _ _ _ _ _ _ hd hs ⟨dv,h1,h2,h3⟩=>⟨dv,h1,h2,(h3.same hs).mono hd⟩
theorem OutS.readsAtV {T:Nat} {B:Nat} {w:World} {v:Value} {l:List Sc.Read} {D:Nat→Prop} {G:Nat→Prop} (h:OutS T 3 readR B w v l D) (hG:∀ b,B≤b→b < w.heap.size→G b):ReadsAt G w v l:=by
 have hD:∀ b,D b→G b:=by obtain ⟨_,_,_,_,_,h5⟩:=h;exact fun b hb=>hG b (h5 b hb).1 (h5 b hb).2.1
 refine h.slAt hG fun b o cs x hl hc _ ⟨dv,he,hi,hd⟩=>?_
 subst he
 exact ⟨hc 0 (by omega),hi,⟨dv,hc 1 (by omega),hd.mono hD⟩,hc 2 (by omega)⟩
theorem OutS.readsW {T:Nat} {B:Nat} {w:World} {v:Value} {l:List Sc.Read} {D:Nat→Prop} {G:Nat→Prop} (h:OutS T 3 readRW B w v l D) (hG:∀ b,B≤b→b < w.heap.size→G b):ReadsW G w v l:=by
 have hD:∀ b,D b→G b:=by obtain ⟨_,_,_,_,_,h5⟩:=h;exact fun b hb=>hG b (h5 b hb).1 (h5 b hb).2.1
 refine h.slAt hG fun b o cs x hl hc _ ⟨dv,he,hi,hd⟩=>?_
 subst he
 exact ⟨hc 0 (by omega),hi,⟨dv,hc 1 (by omega),hd.mono hD⟩,hc 2 (by omega)⟩
theorem below_setW {B b i:Nat} (w:World) (v:Value) (hb:B≤b):Below B w (w.setCell ⟨b,i,none⟩ v) :=
 ⟨by simp [World.setCell],by simp [World.setCell],by simp [World.setCell],by simp [World.setCell],fun k hk=>Below.heap_setCell _ _ _ k (show k≠b by omega)⟩
set_option maxRecDepth 100000 in
set_option maxHeartbeats 2000000 in
theorem viewReads_w {b:Nat} {mp bp sp rv:Value} {t:Int} {R:List Sc.Read} {G:Nat→Prop} (w:World) (hh:w.heap[b]? = some (.cells #[mp,bp,.int .i64 t,sp,rv] 250 (0,0))) (hr:ReadsAt G w rv R) (hd:∀ x∈R,x.data.length≤1000) (hR:R.length≤1000000) :
  Calls Tryz.prog 91 #[.pointer (some ⟨b,0,none⟩)] w fun e w'=>∃ p c,e=.returned (.slice p R.length c)∧Hid (ReadsW (New w w') w' (.slice p R.length c) R)∧Hid (Below w.heap.size w w'):=by
 obtain ⟨rp,rc,rfl,h1,h2,h3,h4⟩:=hr
 have hc4:w.cell? ⟨b,4,none⟩=some (.slice rp R.length rc):=by rw [cell_row hh];rfl
 obtain ⟨ir,hr0,hr1,hr2,hr3⟩:=info_parts infoRead
 have H4:=Lib.hid h4
 have HH:=Lib.hid hh
 have HD:=Lib.hid hd
 have HR:=Lib.hid hR
 clear h4 hh hd hR
 clear h1 h2 h3
 go_enter Tryz.func91,Tryz.ntmps91
 go_wp2_with fail
 go_loopw [2,12] (fun out i wr=>∃ k:Nat,∃ p c D,k≤R.length∧i=.int .i64 k∧out=.slice p k c∧Hid (OutS 42 3 readRW w.heap.size wr (.slice p k c) (R.take k) D)∧Hid (Below w.heap.size w wr)) (fun _ i _=>R.length - (intOf i).toNat)
 case atStart=>exact ⟨0,_,_,_,by omega,rfl,rfl,Lib.hid (by rw [List.take_zero];exact OutS.nil),Lib.hid (Below.refl _ _)⟩
 case round =>
  obtain ⟨k,op,oc,D,hk,rfl,rfl,HO,HB⟩:=hrel
  by_cases hlt:k < R.length
  case pos =>
   obtain ⟨g,o,rfl,_,hx1,hxi,⟨dv,hx2,hxd⟩,hx3⟩:=H4.out k hlt
   have htk:R.take (k+1)=R.take k++[R[k]]:=take_snoc _ _ hlt
   have hdl:R[k].data.length≤1000:=HD.out _ (List.getElem_mem hlt)
   have hy1:=cell_up HB.out hx1
   have hy2:=cell_up HB.out hx2
   have hy3:=cell_up HB.out hx3
   obtain ⟨dp,dc,rfl⟩:=shape_of hxd rfl
   generalize R[k]=x at *
   have HTK:=Lib.hid htk
   have HDL:=Lib.hid hdl
   have HXD:=Lib.hid hxd
   have HXI:=Lib.hid hxi
   clear htk hdl hxd hxi
   clear hx1 hx2 hx3
   go_wp2_with fail
   have hbA:=below_alloc wr (.cells #[.int .i64 x.lba,.slice dp x.data.length dc,.bool x.own] 42)
   have hzA:(wr.alloc (.cells #[.int .i64 x.lba,.slice dp x.data.length dc,.bool x.own] 42)).heap.size=wr.heap.size+1:=by simp
   have hhA:=heap_alloc_new wr (.cells #[.int .i64 x.lba,.slice dp x.data.length dc,.bool x.own] 42)
   have hcl:=clone_w G _ x.data (wr.alloc (.cells #[.int .i64 x.lba,.slice dp x.data.length dc,.bool x.own] 42)) (BytesAt.up (BytesAt.up HXD.out HB.out) hbA) (by have:=HDL.out;omega)
   refine hcl.mono ?_
   rintro e w3 ⟨nv,rfl,hnd,hb3⟩
   obtain ⟨np,nc,rfl⟩:=shape_of hnd.bytes rfl
   have hh3:=(hb3.block wr.heap.size (by omega)).trans hhA
   have hB3:Below wr.heap.size wr w3:=Below.up hbA hb3
   generalize hwA:wr.alloc (.cells #[.int .i64 x.lba,.slice dp x.data.length dc,.bool x.own] 42)=wA at *
   have hq0:w3.cell? ⟨wr.heap.size,0,none⟩=some (.int .i64 x.lba):=by rw [cell_row hh3];rfl
   have hq1:w3.cell? ⟨wr.heap.size,1,none⟩=some (.slice dp x.data.length dc):=by rw [cell_row hh3];rfl
   have hq2:w3.cell? ⟨wr.heap.size,2,none⟩=some (.bool x.own):=by rw [cell_row hh3];rfl
   have hqz:w3.frozen? ⟨wr.heap.size,1,none⟩=false:=fz_row hh3 1
   have hB4:Below wr.heap.size wr (w3.setCell ⟨wr.heap.size,1,none⟩ (.slice np x.data.length nc)):=hB3.trans (below_setW w3 _ (Nat.le_refl _))
   have hz4:(w3.setCell ⟨wr.heap.size,1,none⟩ (.slice np x.data.length nc)).heap.size=w3.heap.size:=by simp [World.setCell]
   have hn4:BytesW (New wA w3) (w3.setCell ⟨wr.heap.size,1,none⟩ (.slice np x.data.length nc)) (.slice np x.data.length nc) x.data:=BytesW.same hnd fun q hq=>Below.heap_setCell _ _ _ q (show q≠wr.heap.size by have:=hq.1;omega)
   have hlk:(R.take k).length=k:=by rw [List.length_take];omega
   have hb5:=below_alloc (w3.setCell ⟨wr.heap.size,1,none⟩ (.slice np x.data.length nc)) (.cells #[.int .i64 x.lba,.slice np x.data.length nc,.bool x.own] 42)
   obtain ⟨css,q1,q2,q3,q4,q5⟩:=HO.out.up readRW_stable (Below.up hB4 (hb5.mono (by omega)))
   rw [hlk] at q3
   have hown0:=q3.lt
   have HQ1:=Lib.hid q1
   have HQ2:=Lib.hid q2
   have HQ4:=Lib.hid q4
   have HQ5:=Lib.hid q5
   have HN4:=Lib.hid hn4
   have HB4:=Lib.hid hB4
   have HLK:=Lib.hid hlk
   have HB5:=Lib.hid hb5
   have HWA:=Lib.hid hwA
   have HOWN0:=Lib.hid hown0
   have HZ4:=Lib.hid hz4
   have HZA:=Lib.hid hzA
   clear q1 q2 q4 q5 hn4 hB4 hlk hb5 hwA hown0 hz4 hzA
   clear hcl hnd hb3 hB3 hhA hbA hh3
   have hkR:=HR.out
   go_wp2_with (at_builtin;(refine wpList_append_lies _ rfl _ _ 36 rfl w.heap.size 42 ir (.agg #[.int .i64 0,.slice none 0 0,.bool false]) 3 40 Tryz.underlying36 hr0 hr1 hr2 hr3 rfl (by decide) _ k css.flatten rfl q3 ⟨w3.heap.size,0,none⟩ 1 1 [.int .i64 x.lba,.slice np x.data.length nc,.bool x.own] rfl rfl (World.news_of_block (cs:=#[.int .i64 x.lba,.slice np x.data.length nc,.bool x.own]) (by rw [← HZ4.out];exact heap_alloc_new _ _)) (by simp [Value.oneCell']) (by decide) (by unfold maxLen;omega) (by omega) (by have:=HB.out.size;have:=HB4.out.size;have:=HZ4.out;simp;omega) (w3.heap.size+1) (by simp [World.setCell]) ?_);intro gg cap w6 hown6 hgrow6 hat6 hlt6)
   go_roundw
   case rel =>
    refine ⟨k+1,_,_,fun b=>D b∨New wA w3 b,by omega,by go_num,rfl,?_,?_⟩
    ·have hs:OutS 42 3 readRW w.heap.size w6 (.slice (some ⟨gg,0,none⟩) ((R.take k).length+1) cap) (R.take k++[x]) (fun b=>D b∨New wA w3 b):=by
      refine OutS.snoc (v:=.slice op k oc) (D3:=New wA w3) readRW_stable HQ1.out HQ2.out HQ4.out HQ5.out (cs:=[.int .i64 x.lba,.slice np x.data.length nc,.bool x.own]) (x:=x) rfl ⟨_,rfl,HXI.out,HN4.out.up (below_alloc _ _)⟩ (fun q hq=>?_) (by rw [HLK.out];exact hown6) hgrow6 (hat6.imp id fun h=>by rw [h];simp [World.setCell])
      have h1:=hq.1
      have h2:=hq.2
      have h3:=HB.out.size
      have h4:=HZA.out
      refine ⟨by omega,by simp [World.setCell];omega,fun e=>?_⟩
      have h5:=(HO.out.own).choose_spec.lt q e
      omega
     rw [HLK.out] at hs
     unfold Hid
     rw [HTK.out]
     exact hs
    ·have hb6:=Below.up HB.out (Below.up HB4.out (HB5.out.mono (by have:=HB4.out.size;omega)))
     exact hb6.grown hgrow6 (by have:=HB.out.size;have:=HB4.out.size;have:=HZ4.out;simp;omega) (fun q hq=>(HOWN0.out q hq).1)
   case measure=>simp [intOf];omega
  case neg =>
   obtain rfl:k=R.length:=by omega
   have hOr:=HO.out
   rw [List.take_length] at hOr
   have hfin:ReadsW (New w wr) wr (.slice op R.length oc) R:=OutS.readsW hOr fun q h1 h2=>⟨h1,h2⟩
   have HFIN:=Lib.hid hfin
   clear hfin
   clear hOr
   go_wp2_with fail
   go_ret
   exact ⟨op,oc,rfl,HFIN,HB⟩
theorem viewReads_sepW {W w:World} {L:List Asn} (h:Hid (Sep W L w)) (i:Nat) {v:Nat} {mp bp sp:Value} {t:Int} {R:List Sc.Read} (hi:L[i]? = some (ViewA (.pointer (some ⟨v,0,none⟩)) mp bp t sp R)) (hd:∀ x∈R,x.data.length≤1000) (hR:R.length≤1000000) :
  Calls Tryz.prog 91 #[.pointer (some ⟨v,0,none⟩)] w fun e w'=>∃ p c,e=.returned (.slice p R.length c)∧Hid (ReadsW (New w w') w' (.slice p R.length c) R)∧Hid (Below w.heap.size w w'):=by
 obtain ⟨F,hF,_⟩:=h.out.get i hi
 obtain ⟨b,rv,D,hv,hFb,hh,hO,_,_⟩:=hF
 cases hv
 exact viewReads_w w hh (OutS.readsAtV (G:=fun _=>True) hO fun _ _ _=>trivial) hd hR
end Go.Proofs
namespace Go.Proofs
open Go.RowKit Sc
theorem ret_cell_one {P:Program} {fn:Func} {R:Ending→World→Prop} {a:Act} {w:World} {p:Tmp} {ty t:TypeId} {b:Nat} {cs:Array Value} {fr:Nat × Nat} {d:TypeDesc}
  (h:fn.results=#[.cell p ty]) (hp:a.tmps.getD p undef=.pointer (some ⟨b,0,none⟩)) (hg:w.heap[b]? = some (.cells cs t fr))
  (hu:P.underlying ty=some d) (hd:(match d with | .struct _ | .array _ _=>true | _=>false)=true) (hi:(P.info? ty).map (·.size)=some cs.size) (hf:a.defers=[])
  (hR:R (.returned (.agg cs)) w):bodyPost P fn R .ret a w :=
 ⟨hf,_,results_cell_row h a.tmps w b t cs fr d hp hg hu hd hi,hR⟩
theorem box_fill7 {W w:World} {L:List Asn} {i b:Nat} {u0 u1 u2 u3 u4 u5 u6:Value} {T:TypeId} (h:Sep W L w) (hi:L[i]? = some (BoxA b #[u0,u1,u2,u3,u4,u5,u6] T)) (v0 v1 v2 v3 v4 v5 v6:Value) :
  Sep W (L.set i (BoxA b #[v0,v1,v2,v3,v4,v5,v6] T)) (((((((w.setCell ⟨b,0,none⟩ v0).setCell ⟨b,1,none⟩ v1).setCell ⟨b,2,none⟩ v2).setCell ⟨b,3,none⟩ v3).setCell ⟨b,4,none⟩ v4).setCell ⟨b,5,none⟩ v5).setCell ⟨b,6,none⟩ v6):=by
 have hil:=(List.getElem?_eq_some_iff.1 hi).1
 have key:∀ {w:World} {cs:Array Value} (_:Sep W (L.set i (BoxA b cs T)) w) (j:Nat) (v:Value),Sep W (L.set i (BoxA b (cs.setIfInBounds j v) T)) (w.setCell ⟨b,j,none⟩ v):=fun hs j v=>by
  have:=hs.box_store i (List.getElem?_set_self hil) j v
  rwa [List.set_set] at this
 have h0:Sep W (L.set i (BoxA b #[u0,u1,u2,u3,u4,u5,u6] T)) w:=by rw [set_same hi];exact h
 have h1:Sep W (L.set i (BoxA b #[v0,u1,u2,u3,u4,u5,u6] T)) (w.setCell ⟨b,0,none⟩ v0):=key h0 0 v0
 have h2:Sep W (L.set i (BoxA b #[v0,v1,u2,u3,u4,u5,u6] T)) ((w.setCell ⟨b,0,none⟩ v0).setCell ⟨b,1,none⟩ v1):=key h1 1 v1
 have h3:Sep W (L.set i (BoxA b #[v0,v1,v2,u3,u4,u5,u6] T)) (((w.setCell ⟨b,0,none⟩ v0).setCell ⟨b,1,none⟩ v1).setCell ⟨b,2,none⟩ v2):=key h2 2 v2
 have h4:Sep W (L.set i (BoxA b #[v0,v1,v2,v3,u4,u5,u6] T)) ((((w.setCell ⟨b,0,none⟩ v0).setCell ⟨b,1,none⟩ v1).setCell ⟨b,2,none⟩ v2).setCell ⟨b,3,none⟩ v3):=key h3 3 v3
 have h5:Sep W (L.set i (BoxA b #[v0,v1,v2,v3,v4,u5,u6] T)) (((((w.setCell ⟨b,0,none⟩ v0).setCell ⟨b,1,none⟩ v1).setCell ⟨b,2,none⟩ v2).setCell ⟨b,3,none⟩ v3).setCell ⟨b,4,none⟩ v4):=key h4 4 v4
 have h6:Sep W (L.set i (BoxA b #[v0,v1,v2,v3,v4,v5,u6] T)) ((((((w.setCell ⟨b,0,none⟩ v0).setCell ⟨b,1,none⟩ v1).setCell ⟨b,2,none⟩ v2).setCell ⟨b,3,none⟩ v3).setCell ⟨b,4,none⟩ v4).setCell ⟨b,5,none⟩ v5):=key h5 5 v5
 have h7:Sep W (L.set i (BoxA b #[v0,v1,v2,v3,v4,v5,v6] T)) (((((((w.setCell ⟨b,0,none⟩ v0).setCell ⟨b,1,none⟩ v1).setCell ⟨b,2,none⟩ v2).setCell ⟨b,3,none⟩ v3).setCell ⟨b,4,none⟩ v4).setCell ⟨b,5,none⟩ v5).setCell ⟨b,6,none⟩ v6):=key h6 6 v6
 exact h7
def histV (t:TxS) (rp pp:Option Addr) (rc pc:Nat):Value:=.agg #[.int .i64 t.st,.int .i64 t.at',.int .i64 t.tm,.int .i64 0,.int .i64 0,.slice rp t.R.length rc,.slice pp t.buf.length pc]
section
variable {W w:World} {L:List Asn} {i:Nat} {c:MgC} {s:MgS}
set_option maxRecDepth 100000 in
set_option maxHeartbeats 4000000 in
theorem history_core (h:Hid (Sep W (OL L i (mgrItems c s)) w)) (hc:c.cs.length=s.txs.length) {n:Nat} (g:MgG n s) (hn:n≤1000000) (hi:i < L.length) {k:Nat} (hks:k < s.txs.length) :
  Calls Tryz.prog 47 #[.pointer (some ⟨c.mb,0,none⟩),.int .i64 ((k:Int)+1)] w fun e w'=>∃ rp rc pp pc,e=.returned (histV s.txs[k] rp pp rc pc) ∧
   Hid (Sep W (OL (L++[ReadsWA (.slice rp s.txs[k].R.length rc) s.txs[k].R,PutsWA (.slice pp s.txs[k].buf.length pc) (bufPuts s.txs[k].buf)]) i (mgrItems c s)) w'):=by
 have h':Hid (Sep W (OL (L++[BoxA w.heap.size #[.int .i64 0,.int .i64 0,.int .i64 0,.int .i64 0,.int .i64 0,.slice none 0 0,.slice none 0 0] 39]) i (mgrItems c s)) (w.alloc (.cells #[.int .i64 0,.int .i64 0,.int .i64 0,.int .i64 0,.int .i64 0,.slice none 0 0,.slice none 0 0] 39))):=h.out.boxed hi _ _
 obtain ⟨c0,_,c2,_⟩:=mgr_cells h'.out
 have hkc:k < c.cs.length:=by omega
 have hl:=(mgr_map h'.out).lookup Tryz.underlying174 Tryz.underlying3 (Tryz.zeroValue170 (w.alloc (.cells #[.int .i64 0,.int .i64 0,.int .i64 0,.int .i64 0,.int .i64 0,.slice none 0 0,.slice none 0 0] 39))) ((k:Int)+1) true
 rw [look_ml hkc] at hl
 simp only [Option.getD_some,Option.isSome_some,if_true] at hl
 have htg:=g.tx _ (List.getElem_mem hks)
 have hlL:(L++[BoxA w.heap.size #[.int .i64 0,.int .i64 0,.int .i64 0,.int .i64 0,.int .i64 0,.slice none 0 0,.slice none 0 0] 39]).length=L.length+1:=by simp
 have hd:=h'.out.up (below_drewN (Below.refl (w.alloc (.cells #[.int .i64 0,.int .i64 0,.int .i64 0,.int .i64 0,.int .i64 0,.slice none 0 0,.slice none 0 0] 39)).heap.size (w.alloc (.cells #[.int .i64 0,.int .i64 0,.int .i64 0,.int .i64 0,.int .i64 0,.slice none 0 0,.slice none 0 0] 39))) 1)
 have hcl:=(tx_cells hd hc hks).1
 have t0:=hcl 0
 have t1:=hcl 1
 have t3:=hcl 3
 have t4:=hcl 4
 have t5:=hcl 5
 change _=some (Value.int .i64 s.txs[k].st) at t0
 change _=some (Value.int .i64 s.txs[k].tm) at t1
 change _=some (Value.int .i64 s.txs[k].at') at t3
 change _=some (Value.pointer (some ⟨(c.cs[k]).bb,0,none⟩)) at t4
 change _=some (Value.pointer (some ⟨(c.cs[k]).vb,0,none⟩)) at t5
 have hrd:=viewReads_sepW (Lib.hid hd) (L.length+1+(5+(4 * k+3))) (by rw [← hlL];exact OL_get.trans (items_tx hc hks 3 (by omega))) (fun x hx=>by have:=htg.rd x hx;omega) (by have:=htg.rl;omega)
 have HTG:=Lib.hid htg
 have HD:=Lib.hid hd
 have HG:Hid (MgG n s):=g
 have HI:=Lib.hid hi
 have HRD:=Lib.hid hrd
 have HCL:=Lib.hid hcl
 clear hrd hcl
 clear htg hd g h hi
 go_enter Tryz.func47,Tryz.ntmps47
 go_wp2_with fail
 refine (gone_any c.mb c.m _ c0).mono ?_
 rintro e w1 ⟨rfl,rfl⟩
 clear c0
 generalize hW1:w.alloc (.cells #[.int .i64 0,.int .i64 0,.int .i64 0,.int .i64 0,.int .i64 0,.slice none 0 0,.slice none 0 0] 39)=w1 at *
 generalize hwz:w.heap.size=wz at *
 generalize htb:(c.cs[k]).tb=tb at *
 go_upto_region 6 with fail
 refine wp_regionG (fun W=>W.cell? ⟨tb,0,none⟩=some (.int .i64 s.txs[k].st)∧W.cell? ⟨tb,3,none⟩=some (.int .i64 s.txs[k].at')∧W.cell? ⟨tb,1,none⟩=some (.int .i64 s.txs[k].tm)∧W.cell? ⟨tb,5,none⟩=some (.pointer (some ⟨(c.cs[k]).vb,0,none⟩))∧W.cell? ⟨tb,4,none⟩=some (.pointer (some ⟨(c.cs[k]).bb,0,none⟩))) (n:=24) (by kernel_rfl) (by kernel_rfl) ?_
 refine wpG.tk 0 ?_
 refine wpG.tk 1 ?_
 refine wpG.tk 2 ?_
 refine wpG.tk 3 ?_ (hy:=by intro W hW;have hld0:=hW.1;go_simp;try with_reducible rfl)
 refine wpG.tk 4 ?_
 refine wpG.tk 5 ?_
 refine wpG.tk 6 ?_
 refine wpG.tk 7 ?_ (hy:=by intro W hW;have hld0:=hW.2.1;go_simp;try with_reducible rfl)
 refine wpG.tk 8 ?_
 refine wpG.tk 9 ?_
 refine wpG.tk 10 ?_
 refine wpG.tk 11 ?_ (hy:=by intro W hW;have hld0:=hW.2.2.1;go_simp;try with_reducible rfl)
 refine wpG.tk 12 ?_
 refine wpG.tk 13 ?_
 refine wpG.tk 14 ?_
 refine wpG.tk 15 ?_ (hy:=by intro W hW;have hld0:=hW.2.2.2.1;go_simp;try with_reducible rfl)
 refine wpG.tk 17 ?_
 refine wpG.tk 18 ?_
 refine wpG.tk 19 ?_
 refine wpG.tk 20 ?_ (hy:=by intro W hW;have hld0:=hW.2.2.2.2;go_simp;try with_reducible rfl)
 refine wpG.alone 16 rfl (by kernel_rfl) (by kernel_rfl) (⟨t0,t3,t1,t5,t4⟩) (fun K hK=>?_)
 go_simp
 go_at_call 91
 refine (HRD.out).mono ?_
 rintro e w2 ⟨rp,rc,rfl,HR2,HB2⟩
 have n0:=cell_up HB2.out t0
 have n1:=cell_up HB2.out t1
 have n3:=cell_up HB2.out t3
 have n4:=cell_up HB2.out t4
 have n5:=cell_up HB2.out t5
 have hs2:=(HD.out.new HB2.out (ReadsWA (.slice rp s.txs[k].R.length rc) s.txs[k].R) (fun _ h=>h) HR2.out).shift (by simp;have:=HI.out;omega)
 have hpu:=bufPutsW (Lib.hid hs2) (L.length+1+1+(5+(4 * k+1))) (by rw [← hlL,← List.length_singleton (a:=ReadsWA (.slice rp s.txs[k].R.length rc) s.txs[k].R),← List.length_append];exact OL_get.trans (items_tx hc hks 1 (by omega))) HTG.out.bg HG.out.b2 (by have:=HTG.out.bl;omega)
 have HPU:=Lib.hid hpu
 have HS2:=Lib.hid hs2
 clear hpu hs2 t0 t1 t3 t4 t5
 try go_simp
 refine hK _ _ ?_
 clear hK K
 refine wpG.alone 21 rfl (by kernel_rfl) (by kernel_rfl) (⟨n0,n3,n1,n5,n4⟩) (fun K hK=>?_)
 go_simp
 go_at_call 92
 refine (HPU.out).mono ?_
 rintro e w3 ⟨pp,pc,rfl,HP3,HB3⟩
 have m0:=cell_up HB3.out n0
 have m1:=cell_up HB3.out n1
 have m3:=cell_up HB3.out n3
 have m4:=cell_up HB3.out n4
 have m5:=cell_up HB3.out n5
 have hs3:=(HS2.out.new HB3.out (PutsWA (.slice pp s.txs[k].buf.length pc) (bufPuts s.txs[k].buf)) (fun _ h=>h) HP3.out).shift (by simp;have:=HI.out;omega)
 rw [List.append_assoc,List.append_assoc] at hs3
 have hbi:(OL (L++([BoxA wz #[.int .i64 0,.int .i64 0,.int .i64 0,.int .i64 0,.int .i64 0,.slice none 0 0,.slice none 0 0] 39]++([ReadsWA (.slice rp s.txs[k].R.length rc) s.txs[k].R]++[PutsWA (.slice pp s.txs[k].buf.length pc) (bufPuts s.txs[k].buf)]))) i (mgrItems c s))[L.length]? = some (BoxA wz #[.int .i64 0,.int .i64 0,.int .i64 0,.int .i64 0,.int .i64 0,.slice none 0 0,.slice none 0 0] 39):=by
  rw [OL_old (by simp) (by have:=HI.out;omega),List.getElem?_append_right (Nat.le_refl _),Nat.sub_self];rfl
 obtain ⟨FB,hFB,_⟩:=hs3.get L.length hbi
 have bf0:w3.frozen? ⟨wz,0,none⟩=false:=frozen_row0 hFB.2 0
 have bf1:w3.frozen? ⟨wz,1,none⟩=false:=frozen_row0 hFB.2 1
 have bf2:w3.frozen? ⟨wz,2,none⟩=false:=frozen_row0 hFB.2 2
 have bf3:w3.frozen? ⟨wz,3,none⟩=false:=frozen_row0 hFB.2 3
 have bf4:w3.frozen? ⟨wz,4,none⟩=false:=frozen_row0 hFB.2 4
 have bf5:w3.frozen? ⟨wz,5,none⟩=false:=frozen_row0 hFB.2 5
 have bf6:w3.frozen? ⟨wz,6,none⟩=false:=frozen_row0 hFB.2 6
 have bc0:w3.cell? ⟨wz,0,none⟩=some (.int .i64 0):=by rw [cell_row hFB.2];rfl
 have bc1:w3.cell? ⟨wz,1,none⟩=some (.int .i64 0):=by rw [cell_row hFB.2];rfl
 have bc2:w3.cell? ⟨wz,2,none⟩=some (.int .i64 0):=by rw [cell_row hFB.2];rfl
 have bc3:w3.cell? ⟨wz,3,none⟩=some (.int .i64 0):=by rw [cell_row hFB.2];rfl
 have bc4:w3.cell? ⟨wz,4,none⟩=some (.int .i64 0):=by rw [cell_row hFB.2];rfl
 have bc5:w3.cell? ⟨wz,5,none⟩=some (.slice none 0 0):=by rw [cell_row hFB.2];rfl
 have bc6:w3.cell? ⟨wz,6,none⟩=some (.slice none 0 0):=by rw [cell_row hFB.2];rfl
 have hs4:=box_fill7 hs3 hbi (.int .i64 s.txs[k].st) (.int .i64 s.txs[k].at') (.int .i64 s.txs[k].tm) (.int .i64 0) (.int .i64 0) (.slice rp s.txs[k].R.length rc) (.slice pp s.txs[k].buf.length pc)
 have hle:(OL (L++([BoxA wz #[.int .i64 0,.int .i64 0,.int .i64 0,.int .i64 0,.int .i64 0,.slice none 0 0,.slice none 0 0] 39]++([ReadsWA (.slice rp s.txs[k].R.length rc) s.txs[k].R]++[PutsWA (.slice pp s.txs[k].buf.length pc) (bufPuts s.txs[k].buf)]))) i (mgrItems c s)).set L.length (BoxA wz #[.int .i64 s.txs[k].st,.int .i64 s.txs[k].at',.int .i64 s.txs[k].tm,.int .i64 0,.int .i64 0,.slice rp s.txs[k].R.length rc,.slice pp s.txs[k].buf.length pc] 39) =
   OL (L++(BoxA wz #[.int .i64 s.txs[k].st,.int .i64 s.txs[k].at',.int .i64 s.txs[k].tm,.int .i64 0,.int .i64 0,.slice rp s.txs[k].R.length rc,.slice pp s.txs[k].buf.length pc] 39 :: [ReadsWA (.slice rp s.txs[k].R.length rc) s.txs[k].R,PutsWA (.slice pp s.txs[k].buf.length pc) (bufPuts s.txs[k].buf)])) i (mgrItems c s):=by
  unfold OL
  have hiL:=HI.out
  rw [List.set_append_left _ _ hiL,List.set_append_left _ _ hiL,List.append_assoc,List.append_assoc]
  have e0:(L.set i TrueA).length=L.length:=List.length_set ..
  rw [List.set_append_right _ _ (by rw [e0];exact Nat.le_refl _),e0,Nat.sub_self,List.append_assoc (L.set i TrueA)]
  rfl
 have hs5:=hle ▸ hs4
 have hz:=hs5.box_at HI.out 0
 obtain ⟨FX,hFX,_⟩:=hs5.get L.length (A:=BoxA wz #[.int .i64 s.txs[k].st,.int .i64 s.txs[k].at',.int .i64 s.txs[k].tm,.int .i64 0,.int .i64 0,.slice rp s.txs[k].R.length rc,.slice pp s.txs[k].buf.length pc] 39) (by rw [OL_old (by simp) (by have:=HI.out;omega),List.getElem?_append_right (Nat.le_refl _),Nat.sub_self];rfl)
 have HHP:=Lib.hid hFX.2
 have hcx:=(tx_cells hs5 hc hks).1
 rw [htb] at hcx
 have z0:=hcx 0
 have z1:=hcx 1
 have z3:=hcx 3
 have z4:=hcx 4
 have z5:=hcx 5
 change _=some (Value.int .i64 s.txs[k].st) at z0
 change _=some (Value.int .i64 s.txs[k].tm) at z1
 change _=some (Value.int .i64 s.txs[k].at') at z3
 change _=some (Value.pointer (some ⟨(c.cs[k]).bb,0,none⟩)) at z4
 change _=some (Value.pointer (some ⟨(c.cs[k]).vb,0,none⟩)) at z5
 have HFIN:=Lib.hid (hs5.unbox HI.out)
 clear hs3 hs4 hs5 hle hbi hFB hFX hcx hz n0 n1 n3 n4 n5 HCL
 try go_simp
 refine hK _ _ ?_
 clear hK K
 refine wpG.tk 22 ?_
 refine wpG.alone 23 rfl (by kernel_rfl) (by kernel_rfl) ⟨m0,m3,m1,m5,m4⟩ (fun K hK=>?_)
 go_simp
 try go_simp
 refine hK _ _ ?_
 clear hK K
 refine wpG.done (by kernel_rfl) ⟨z0,z3,z1,z5,z4⟩ ?_
 go_wp2
 (try simp only [Exit.inBlock,Exit.then])
 refine ret_cell_one rfl (b:=wz) (t:=39) (fr:=(0,0)) rfl (cs:=#[.int .i64 s.txs[k].st,.int .i64 s.txs[k].at',.int .i64 s.txs[k].tm,.int .i64 0,.int .i64 0,.slice rp s.txs[k].R.length rc,.slice pp s.txs[k].buf.length pc]) ?_ (Tryz.underlying39) rfl (by kernel_rfl) rfl ?_
 ·exact HHP.out
 ·exact ⟨rp,rc,pp,pc,rfl,HFIN⟩
end
theorem mgHistory_sep {W w:World} {L:List Asn} (h:Hid (Sep W L w)) (i:Nat) {b:Nat} {s:MgS} (hi:L[i]? = some (MgrA (pt b) s)) {n:Nat} (g:MgG n s) (hn:n≤1000000) {hd:Int} (h1:1≤hd) (h2:hd≤s.txs.length) :
  Calls Tryz.prog 47 #[.pointer (some ⟨b,0,none⟩),.int .i64 hd] w fun e w'=>∃ rp rc pp pc,e=.returned (histV (txAt s.txs hd) rp pp rc pc) ∧
   Hid (Sep W ((L++[ReadsWA (.slice rp (txAt s.txs hd).R.length rc) (txAt s.txs hd).R,PutsWA (.slice pp (txAt s.txs hd).buf.length pc) (bufPuts (txAt s.txs hd).buf)]).set i (MgrA (pt b) s)) w'):=by
 obtain ⟨c,rfl,hc,hS,hil⟩:=MgrA.open' h i hi
 obtain ⟨k,rfl⟩:∃ k:Nat,hd=(k:Int)+1:=⟨(hd - 1).toNat,by omega⟩
 have hks:k < s.txs.length:=by omega
 have e:txAt s.txs ((k:Int)+1)=s.txs[k]:=by rw [← txOf_txAt,txOf_at hks]
 rw [e]
 refine (history_core hS hc g hn hil hks).mono ?_
 rintro r w' ⟨rp,rc,pp,pc,rfl,hS'⟩
 exact ⟨rp,rc,pp,pc,rfl,MgrA.closed hS'.out (by simp;omega) hc⟩
end Go.Proofs
namespace Go.Proofs
open Go.RowKit Sc
theorem zone_pair {w:World} {z T:Nat} {a b:Value} (h:w.heap[z]? = some (.cells #[a,b] T (0,0))) (u v:Value):((w.setCell ⟨z,0,none⟩ u).setCell ⟨z,1,none⟩ v).heap[z]? = some (.cells #[u,v] T (0,0)) :=
 Go.heap_setCell_same _ z 1 #[u,b] T v (Go.heap_setCell_same w z 0 #[a,b] T u h)
theorem Sep.zone_clear {W w:World} {L:List Asn} (h:Sep W L w) (j:Nat) {z n:Nat} (hj:L[j]? = some (ZoneA z n)):Sep W (L.set j (ZoneA z 0)) ((w.setCell ⟨z,0,none⟩ (.slice none 0 0)).setCell ⟨z,1,none⟩ (.int .i64 0)):=by
 obtain ⟨F,G,⟨p,cc,gd,xs,h1,h2,h3,h4⟩,_,_,hdF,_,K⟩:=h.at j hj
 exact K _ F (ZoneA z 0) ((chg_set w z 0 _ h1).trans (chg_set _ z 1 _ h1)) (fun k hk=>.inl hk) ⟨none,0,0,[],h1,zone_pair h2 _ _,World.ownsRow_nil _ _ _ _,fun g hg=>by simp [Value.ownBlock] at hg⟩
theorem Sep.zone_good {W w:World} {L:List Asn} (h:Sep W L w) (j:Nat) {z n:Nat} (hj:L[j]? = some (ZoneA z n)) (x:Int):Sep W L (w.setCell ⟨z,1,none⟩ (.int .i64 x)):=by
 obtain ⟨F,G,⟨p,cc,gd,xs,h1,h2,h3,h4⟩,_,_,hdF,_,K⟩:=h.at j hj
 have hs:=K (w.setCell ⟨z,1,none⟩ (.int .i64 x)) F (ZoneA z n) (chg_set w z 1 _ h1) (fun k hk=>.inl hk) ⟨p,cc,x,xs,h1,Go.heap_setCell_same w z 1 #[.slice p n cc,.int .i64 gd] _ (.int .i64 x) h2,row_same (F:=fun q=>F q∧q≠z) (fun q hq=>Below.heap_setCell _ _ _ q hq.2) h3 (fun g hg=>h4 g hg),h4⟩
 rw [set_same hj] at hs
 exact hs
section
variable {W w:World} {L:List Asn}
set_option maxRecDepth 100000 in
theorem devGeometry (h:Hid (Sep W L w)) (i:Nat) {d:Nat} {zs:List Nat} (hi:L[i]? = some (DevA (pt d) zs)) :
  Calls Tryz.prog 72 #[pt d] w fun e w'=>e=.returned (.agg #[.int .i64 8,.int .i64 96])∧Hid (Below w.heap.size w w'):=by
 obtain ⟨c,rfl,hc,hS,hil⟩:=DevA.opened h.out i hi
 have hba:=below_alloc w (.cells #[.int .i64 0,.int .i64 0] 62 (0,0))
 have hS1:=hS.up hba
 obtain ⟨a,b,l,hh⟩:=dev_box hS1
 have HG:=Lib.hid (dev_gone hS1)
 have hnw:=heap_alloc_new w (.cells #[.int .i64 0,.int .i64 0] 62 (0,0))
 have d0:(w.alloc (.cells #[.int .i64 0,.int .i64 0] 62 (0,0))).cell? ⟨c.d,0,none⟩=some (.int .i64 8):=by rw [cell_row hh];rfl
 have d1:(w.alloc (.cells #[.int .i64 0,.int .i64 0] 62 (0,0))).cell? ⟨c.d,1,none⟩=some (.int .i64 96):=by rw [cell_row hh];rfl
 have HNW:=Lib.hid hnw
 clear h hi hS hba hS1 hh hnw hc hil
 go_enter Tryz.func72,Tryz.ntmps72
 go_wp2_with fail
 refine (HG.out).mono ?_
 rintro e w1 ⟨rfl,rfl⟩
 clear HG
 go_wp2_with fail
 (try simp only [Exit.inBlock,Exit.then])
 refine ret_cell_one rfl (b:=w.heap.size) (t:=62) (fr:=(0,0)) rfl (cs:=#[.int .i64 8,.int .i64 96]) (heap_alloc_new w _) (Tryz.underlying62) rfl (by kernel_rfl) rfl ⟨rfl,Lib.hid (below_alloc w _)⟩
theorem devPointer (h:Hid (Sep W L w)) (i:Nat) {d:Nat} {zs:List Nat} (hi:L[i]? = some (DevA (pt d) zs)) {k n:Nat} (hk:k < 8) (hn:zs[k]? = some n) :
  Calls Tryz.prog 86 #[pt d,.int .i64 k] w fun e w'=>e=.returned (.tuple #[.int .i64 n,.int .i64 0])∧w=w':=by
 obtain ⟨c,rfl,hc,hS,hil⟩:=DevA.opened h.out i hi
 have hkz:k < zs.length:=by rw [hc.z8];exact hk
 have hkb:k < c.zb.length:=by rw [hc.b8];exact hk
 have hzk:zs[k]=n:=by rw [List.getElem?_eq_getElem hkz] at hn;exact Option.some.inj hn
 obtain ⟨bp,bc,gd,hzh⟩:=zone_told hS (L.length+(k+2)) (z:=c.zb[k]) (n:=n) (by rw [OL_get,dev_zget hc hk,hzk])
 have z0:w.cell? ⟨c.zb[k],0,none⟩=some (.slice bp n bc):=by rw [cell_row hzh];rfl
 have HAT:=Lib.hid (dev_at hS hc hk)
 generalize c.zb[k]=z at *
 clear h hi hS hzk hn hzh hc hil
 go_enter Tryz.func86,Tryz.ntmps86
 go_wp2_with fail
 refine (HAT.out).mono ?_
 rintro e w1 ⟨rfl,rfl⟩
 go_wp2_with fail
 go_ret2
 exact ⟨rfl,rfl⟩
set_option maxRecDepth 100000 in
theorem devReset (h:Hid (Sep W L w)) (i:Nat) {d:Nat} {zs:List Nat} (hi:L[i]? = some (DevA (pt d) zs)) {k:Nat} (hk:k < 8) :
  Calls Tryz.prog 87 #[pt d,.int .i64 k] w fun e w'=>e=.returned (.int .i64 0)∧Hid (Sep W (L.set i (DevA (pt d) (zs.set k 0))) w'):=by
 obtain ⟨c,rfl,hc,hS,hil⟩:=DevA.opened h.out i hi
 have hkz:k < zs.length:=by rw [hc.z8];exact hk
 have hkb:k < c.zb.length:=by rw [hc.b8];exact hk
 have hzi:(OL L i (devItems c zs))[L.length+(k+2)]? = some (ZoneA c.zb[k] zs[k]):=by rw [OL_get,dev_zget hc hk]
 have HAT:=Lib.hid (dev_at hS hc hk)
 have HBG:=Lib.hid (dev_begin (Lib.hid hS))
 have hcl:(OL L i (devItems c zs)).set (L.length+(k+2)) (ZoneA c.zb[k] 0)=OL L i (devItems c (zs.set k 0)):=by rw [OL_set,dev_zset hc hk]
 generalize c.zb[k]=z at *
 generalize zs[k]=n at *
 have HZI:=Lib.hid hzi
 have HIL:=Lib.hid hil
 have HC:=Lib.hid hc
 have HCL:=Lib.hid hcl
 clear h hi hzi hil hS hc hcl
 go_enter Tryz.func87,Tryz.ntmps87
 go_wp2_with fail
 refine (HAT.out).mono ?_
 rintro e w1 ⟨rfl,rfl⟩
 go_wp2_with fail
 refine (HBG.out).mono ?_
 rintro e w2 ⟨rfl,HS2⟩
 clear HAT HBG
 obtain ⟨bp,bc,gd,hzh⟩:=zone_told HS2.out _ HZI.out
 have z0:w2.cell? ⟨z,0,none⟩=some (.slice bp n bc):=by rw [cell_row hzh];rfl
 have z1:w2.cell? ⟨z,1,none⟩=some (.int .i64 gd):=by rw [cell_row hzh];rfl
 have f0:=frozen_row0 hzh 0
 have f1:=frozen_row0 hzh 1
 have hs9:=Go.Proofs.Sep.zone_clear HS2.out _ HZI.out
 rw [HCL.out] at hs9
 have HFIN:=Lib.hid (DevA.closed hs9 HIL.out (HC.out.set k 0))
 clear hs9 hzh
 go_wp2_with fail
 go_ret
 exact ⟨rfl,HFIN.out⟩
set_option maxRecDepth 100000 in
set_option maxHeartbeats 1000000 in
theorem devFlush (h:Hid (Sep W L w)) (i:Nat) {d:Nat} {zs:List Nat} (hi:L[i]? = some (DevA (pt d) zs)) :
  Calls Tryz.prog 103 #[pt d] w fun e w'=>e=.returned (.int .i64 0)∧Hid (Sep W L w'):=by
 obtain ⟨c,rfl,hc,hS,hil⟩:=DevA.opened h.out i hi
 have HG:=Lib.hid (dev_gone hS)
 have HBG:=Lib.hid (dev_begin (Lib.hid hS))
 have HIL:=Lib.hid hil
 have HI:=Lib.hid hi
 have HC:=Lib.hid hc
 clear h hi hil hS hc
 go_enter Tryz.func103,Tryz.ntmps103
 go_wp2_with fail
 refine (HG.out).mono ?_
 rintro e w1 ⟨rfl,rfl⟩
 go_wp2_with fail
 refine (HBG.out).mono ?_
 rintro e w2 ⟨rfl,HS2⟩
 clear HG HBG
 obtain ⟨a,b,l,hh⟩:=dev_box HS2.out
 have d2:w2.cell? ⟨c.d,2,none⟩=some (.slice (some ⟨c.r,0,none⟩) 8 c.cap):=by rw [cell_row hh];rfl
 clear hh
 go_wp2_with fail
 clear d2
 go_loopw [17] (fun s17 wr=>∃ k:Nat,k≤8∧s17=.int .i64 (k:Int)∧Hid (Sep W (OL L i (devItems c zs)) wr)) (fun s17 _=>8 - (intOf s17).toNat)
 case atStart=>exact ⟨0,by omega,by go_num,HS2⟩
 case round =>
  obtain ⟨k,hk,rfl,HS⟩:=hrel
  clear HS2
  by_cases hlt:k < 8
  case neg =>
   obtain rfl:k=8:=by omega
   go_wp2_with fail
   go_ret
   have hs9:=DevA.closed HS.out HIL.out HC.out
   rw [set_same HI.out] at hs9
   exact ⟨rfl,hs9⟩
  case pos =>
   have hk8:(k:Int) < 8:=by omega
   have cr:=dev_row HS.out HC.out hlt
   have hkz:k < zs.length:=by rw [HC.out.z8];exact hlt
   have hkb:k < c.zb.length:=by rw [HC.out.b8];exact hlt
   have hzi:(OL L i (devItems c zs))[L.length+(k+2)]? = some (ZoneA c.zb[k] zs[k]):=by rw [OL_get,dev_zget HC.out hlt]
   generalize c.zb[k]=z at *
   generalize zs[k]=n at *
   obtain ⟨bp,bc,gd,hzh⟩:=zone_told HS.out _ hzi
   have z0:wr.cell? ⟨z,0,none⟩=some (.slice bp n bc):=by rw [cell_row hzh];rfl
   have z1:wr.cell? ⟨z,1,none⟩=some (.int .i64 gd):=by rw [cell_row hzh];rfl
   have f1:=frozen_row0 hzh 1
   have HS3:=Lib.hid (Go.Proofs.Sep.zone_good HS.out _ hzi n)
   clear hzh hzi HS
   go_wp2_with fail
   go_roundw
   case rel=>exact ⟨k+1,by omega,by go_num,HS3⟩
   case measure=>simp [intOf];omega
end
end Go.Proofs
namespace Go.Proofs
open Go.RowKit Sc
theorem Sep.boxT {W w:World} {L:List Asn} (h:Sep W L w) (cs:Array Value) (T:TypeId):Sep W (L++[BoxA w.heap.size cs T]) (w.alloc (.cells cs T (0,0))) :=
 h.new (below_alloc w _) (BoxA w.heap.size cs T) (F:=New w (w.alloc (.cells cs T (0,0)))) (fun _ h=>h) ⟨⟨Nat.le_refl _,by simp⟩,heap_alloc_new w _⟩
abbrev gLeast:Value:=.agg #[.int .i64 8,.int .i64 96]
theorem may_least (w:World):Calls Tryz.prog 130 #[gLeast] w fun e w'=>e=.returned (.bool true)∧Hid (Below w.heap.size w w'):=by
 go_enter Tryz.func130,Tryz.ntmps130
 go_wp2_with fail
 go_ret
 exact ⟨rfl,below_alloc w _⟩
abbrev lLeast:Value:=.agg #[.int .i64 0,.int .i64 3,.int .i64 6,.int .i64 7]
theorem fill4 {w:World} {z T:Nat} {a0 a1 a2 a3:Value} (h:w.heap[z]? = some (.cells #[a0,a1,a2,a3] T (0,0))) (b0 b1 b2 b3:Value):((((w.setCell ⟨z,0,none⟩ b0).setCell ⟨z,1,none⟩ b1).setCell ⟨z,2,none⟩ b2).setCell ⟨z,3,none⟩ b3).heap[z]? = some (.cells #[b0,b1,b2,b3] T (0,0)) :=
 Go.heap_setCell_same _ z 3 #[b0,b1,b2,a3] T b3 (Go.heap_setCell_same _ z 2 #[b0,b1,a2,a3] T b2 (Go.heap_setCell_same _ z 1 #[b0,a1,a2,a3] T b1 (Go.heap_setCell_same w z 0 #[a0,a1,a2,a3] T b0 h)))
set_option maxRecDepth 100000 in
set_option maxHeartbeats 1000000 in
theorem split_least (w:World):Calls Tryz.prog 71 #[gLeast] w fun e w'=>e=.returned (.tuple #[lLeast,.int .i64 0])∧Hid (Below w.heap.size w w'):=by
 have hs0:=Go.Proofs.Sep.boxT (Go.Proofs.Sep.boxT (Sep.start w) #[.int .i64 8,.int .i64 96] 62) #[.int .i64 0,.int .i64 0,.int .i64 0,.int .i64 0] 115
 obtain ⟨B1,hB1⟩:∃ B,(w.alloc (.cells #[.int .i64 8,.int .i64 96] 62 (0,0))).heap.size=B:=⟨_,rfl⟩
 have hB2:w.heap.size+1=B1:=by rw [← hB1];simp
 rw [hB1] at hs0
 have HS0:=Lib.hid hs0
 clear hs0 hB1
 go_enter Tryz.func71,Tryz.ntmps71
 go_wp2_with fail
 refine (may_least _).mono ?_
 rintro e w1 ⟨rfl,hb1⟩
 have hs1:=HS0.out.up hb1.out
 obtain ⟨F0,hF0,_⟩:=hs1.get 1 rfl
 obtain ⟨F1,hF1,_⟩:=hs1.get 2 rfl
 have p0:w1.cell? ⟨w.heap.size,0,none⟩=some (.int .i64 8):=by rw [cell_row hF0.2];rfl
 have hh:=hF1.2
 have q0:w1.cell? ⟨B1,0,none⟩=some (.int .i64 0):=by rw [cell_row hh];rfl
 have q1:w1.cell? ⟨B1,1,none⟩=some (.int .i64 0):=by rw [cell_row hh];rfl
 have q2:w1.cell? ⟨B1,2,none⟩=some (.int .i64 0):=by rw [cell_row hh];rfl
 have q3:w1.cell? ⟨B1,3,none⟩=some (.int .i64 0):=by rw [cell_row hh];rfl
 have f0:=frozen_row0 hh 0
 have f1:=frozen_row0 hh 1
 have f2:=frozen_row0 hh 2
 have f3:=frozen_row0 hh 3
 have HF:=Lib.hid (fill4 hh (.int .i64 0) (.int .i64 3) (.int .i64 6) (.int .i64 7))
 have hb9:=hs1.old
 have HB:=Lib.hid hb9
 have hx:=fun (x:World) (j:Nat) (v:Value)=>below_setW (B:=w.heap.size) (b:=B1) (i:=j) x v (by omega)
 have HX:=Lib.hid hx
 clear hs1 hF0 hF1 hh hb1 HS0 hb9 hx
 go_wp2_with fail
 (try simp only [Exit.inBlock,Exit.then])
 refine ret_cell_tmp rfl (b:=B1) (t:=115) (fr:=(0,0)) rfl (cs:=#[.int .i64 0,.int .i64 3,.int .i64 6,.int .i64 7]) HF.out (Tryz.underlying115) rfl (by kernel_rfl) rfl ?_
 refine ⟨rfl,Lib.hid ?_⟩
 exact HB.out.trans ((HX.out _ _ _).trans ((HX.out _ _ _).trans ((HX.out _ _ _).trans (HX.out _ _ _))))
set_option maxRecDepth 100000 in
set_option maxHeartbeats 1000000 in
theorem capacity_least (w:World):Calls Tryz.prog 81 #[gLeast] w fun e w'=>e=.returned (.int .i64 258)∧Hid (Below w.heap.size w w'):=by
 have hba:=below_alloc w (.cells #[.int .i64 8,.int .i64 96] 62 (0,0))
 have hnw:=heap_alloc_new w (.cells #[.int .i64 8,.int .i64 96] 62 (0,0))
 go_enter Tryz.func81,Tryz.ntmps81
 go_wp2_with fail
 refine (split_least _).mono ?_
 rintro e w1 ⟨rfl,hb1⟩
 have hz1:=hb1.out.size
 have e0:=hb1.out.block w.heap.size (by simp)
 rw [hnw] at e0
 have p0:w1.cell? ⟨w.heap.size,1,none⟩=some (.int .i64 96):=by rw [cell_row e0];rfl
 have p1:=cell_up (below_alloc w1 (.cells #[.int .i64 0,.int .i64 3,.int .i64 6,.int .i64 7] 115 (0,0))) p0
 have hb2:=(hba.trans (hb1.out.mono (by simp))).trans ((below_alloc w1 (.cells #[.int .i64 0,.int .i64 3,.int .i64 6,.int .i64 7] 115 (0,0))).mono (by simp at hz1;omega))
 have HB:=Lib.hid hb2
 clear hb1 hnw hba e0 hz1 hb2
 go_wp2_with fail
 go_ret
 exact ⟨rfl,HB.out⟩
end Go.Proofs
namespace Go.Proofs
open Go.RowKit Sc
theorem infoZoneP:(Tryz.prog.info? 139).map (fun i=>(i.zero,i.size,i.bytes))=some (some (.pointer none),1,8):=by kernel_rfl
def dnRow (p:Option Addr) (k c:Nat):Array Value:=#[.int .i64 8,.int .i64 96,.slice p k c,.int .i64 0,.int .i64 0,.bool false,.int .i64 0,.bool false]
def dnItems (d:Nat) (p:Option Addr) (c:Nat) (zb:List Nat):List Asn:=BoxA d (dnRow p zb.length c) 138 :: RowA 139 1 (.slice p zb.length c) zb.length (zb.map pt) :: zb.map fun z=>ZoneA z 0
theorem dn_box {L':List Asn} {i d:Nat} {p:Option Addr} {c:Nat} {zb:List Nat} {W w:World} (h:Sep W (OL L' i (dnItems d p c zb)) w):w.heap[d]? = some (.cells (dnRow p zb.length c) 138 (0,0)):=by
 obtain ⟨F,hF,_⟩:=h.get (L'.length+0) (A:=BoxA d (dnRow p zb.length c) 138) (OL_get.trans rfl)
 exact hF.2
theorem dn_zip:∀ zb:List Nat,(zb.map fun z=>ZoneA z 0)=List.zipWith ZoneA zb (List.replicate zb.length 0)
 | []=>rfl
 | z :: t=>by
  rw [List.map_cons,List.length_cons,List.replicate_succ,List.zipWith_cons_cons,dn_zip t]
set_option maxRecDepth 100000 in
set_option maxHeartbeats 4000000 in
theorem devNew {W w:World} {L:List Asn} (h:Hid (Sep W L w)):Calls Tryz.prog 38 #[gLeast] w fun e w'=>∃ d:Nat,e=.returned (.tuple #[pt d,.int .i64 0])∧Hid (Sep W (L++[DevA (pt d) (List.replicate 8 0)]) w'):=by
 have h1:=h.out.new (Below.refl _ _) TrueA (F:=fun _=>False) (fun _ h=>h.elim) trivial
 have h2:=h1.up (below_alloc w (.cells #[.int .i64 8,.int .i64 96] 62 (0,0)))
 obtain ⟨w1,hw1⟩:∃ w1,w.alloc (.cells #[.int .i64 8,.int .i64 96] 62 (0,0))=w1:=⟨_,rfl⟩
 rw [hw1] at h2
 have hg:=heap_alloc_new w (.cells #[.int .i64 8,.int .i64 96] 62 (0,0))
 rw [hw1] at hg
 have g0:w1.cell? ⟨w.heap.size,0,none⟩=some (.int .i64 8):=by rw [cell_row hg];rfl
 have g1:w1.cell? ⟨w.heap.size,1,none⟩=some (.int .i64 96):=by rw [cell_row hg];rfl
 have h3:=Go.Proofs.Sep.boxT h2 (dnRow none 0 0) 138
 have h4:=h3.new (Below.refl _ _) (RowA 139 1 (.slice none 0 0) 0 []) (F:=fun _=>False) (fun _ h=>h.elim) ⟨World.ownsRow_nil _ _ _ _,by simp [Value.ownBlock]⟩
 obtain ⟨d,hd⟩:∃ d,w1.heap.size=d:=⟨_,rfl⟩
 obtain ⟨M,hM⟩:∃ M,L++[TrueA]=M:=⟨_,rfl⟩
 obtain ⟨w2,hw2⟩:∃ w2,w1.alloc (.cells (dnRow none 0 0) 138 (0,0))=w2:=⟨_,rfl⟩
 have hMi:M.set L.length TrueA=M:=by rw [← hM];exact set_same (by rw [List.getElem?_append_right (Nat.le_refl _),Nat.sub_self];rfl)
 rw [hd,hM,hw2,List.append_assoc,← hMi] at h4
 have HS:Hid (Sep W (OL M L.length (dnItems d none 0 [])) w2):=h4
 have HD:=Lib.hid hd
 have HM:=Lib.hid hM
 clear h h1 h2 h3 h4 hg hM hMi
 have g2:=cell_up (below_alloc w1 (.cells (dnRow none 0 0) 138 (0,0))) g0
 rw [hw2] at g2
 have hw2':w1.alloc (.cells #[.int .i64 8,.int .i64 96,.slice none 0 0,.int .i64 0,.int .i64 0,.bool false,.int .i64 0,.bool false] 138 (0,0))=w2:=hw2
 clear hw2
 go_enter Tryz.func38,Tryz.ntmps38
 go_upto_region 4 with fail
 clear g0 g1 hw1 hw2' hd
 go_wp2_with fail
 clear g2
 go_loopw [28] (fun s28 wr=>∃ k:Nat,∃ p c,∃ zb:List Nat,k≤8∧s28=.int .i64 (k:Int)∧Hid (zb.length=k)∧Hid (Sep W (OL M L.length (dnItems d p c zb)) wr)) (fun s28 _=>8 - (intOf s28).toNat)
 case atStart=>exact ⟨0,none,0,[],by omega,by go_num,rfl,HS⟩
 case round =>
  obtain ⟨k,p,c,zb,hk,rfl,HZ,HS2⟩:=hrel
  clear HS
  have hh:=dn_box HS2.out
  rw [HZ.out] at hh
  have d2:wr.cell? ⟨d,2,none⟩=some (.slice p k c):=by rw [cell_row hh];rfl
  by_cases hlt:k < 8
  case pos =>
   have hk8:(k:Int) < 8:=by omega
   have hs3:=HS2.out.new (below_alloc wr (.cells #[.slice none 0 0,.int .i64 0] 142 (0,0))) (ZoneA wr.heap.size 0) (F:=New wr (wr.alloc (.cells #[.slice none 0 0,.int .i64 0] 142 (0,0)))) (fun _ h=>h) ⟨none,0,0,[],⟨Nat.le_refl _,by simp⟩,heap_alloc_new wr _,World.ownsRow_nil _ _ _ _,fun g hg=>by simp [Value.ownBlock] at hg⟩
   rw [OL_app] at hs3
   obtain ⟨ii,hii,hiz,hiy,hix⟩:=info_parts infoZoneP
   have hz3:(wr.alloc (.cells #[.slice none 0 0,.int .i64 0] 142 (0,0))).heap.size=wr.heap.size+1:=by simp
   obtain ⟨gg,cap,w4,hr4,hs4⟩:=hs3.row_push (P:=Tryz.prog) (M.length+1) (T:=139) (k:=1) (n:=zb.length) (v:=.slice p zb.length c) (xs:=zb.map pt) (OL_get.trans rfl) 136 136 ii _ 8 Tryz.underlying136 hii hiz hiy hix rfl (by decide) (cs:=#[.pointer (some ⟨wr.heap.size,0,none⟩)]) rfl (by simp [Value.oneCell']) (by have:=HZ.out;unfold maxLen;omega) (by have:=HZ.out;omega) (wr.heap.size+1) hz3
   rw [OL_set] at hs4
   obtain ⟨F4,hF4,_⟩:=hs4.get (M.length+0) (A:=BoxA d (dnRow p zb.length c) 138) (OL_get.trans rfl)
   have hh4:=hF4.2
   rw [HZ.out] at hh4 hr4
   have e2:w4.cell? ⟨d,2,none⟩=some (.slice p k c):=by rw [cell_row hh4];rfl
   have f2:=frozen_row0 hh4 2
   have hs5:=hs4.box_store (M.length+0) (b:=d) (cs:=dnRow p zb.length c) (T:=138) (OL_get.trans rfl) 2 (.slice (some ⟨gg,0,none⟩) (k+1) cap)
   rw [OL_set] at hs5
   have hs6:Sep W (OL M L.length (dnItems d (some ⟨gg,0,none⟩) cap (zb++[wr.heap.size]))) (w4.setCell ⟨d,2,none⟩ (.slice (some ⟨gg,0,none⟩) (k+1) cap)):=by
    have hl:(zb++[wr.heap.size]).length=k+1:=by rw [List.length_append,HZ.out];rfl
    unfold dnItems
    rw [hl,List.map_append,List.map_append]
    have:=hs5
    rw [HZ.out] at this
    exact this
   have HS6:=Lib.hid hs6
   have HZ6:Hid ((zb++[wr.heap.size]).length=k+1):=by show _=_;rw [List.length_append,HZ.out];rfl
   clear hs3 hs4 hs5 hs6 hF4 hh4 hh hii hiz hiy hix hz3
   go_wp2_with (at_builtin;refine wpList_append_run rfl _ _ 136 rfl rfl rfl hr4 ?_)
   go_roundw
   case rel=>exact ⟨k+1,_,_,_,by omega,by go_num,HZ6,HS6⟩
   case measure=>simp [intOf];omega
  case neg =>
   obtain rfl:k=8:=by omega
   obtain ⟨F1,hF1,_⟩:=HS2.out.get (M.length+1) (A:=RowA 139 1 (.slice p zb.length c) zb.length (zb.map pt)) (OL_get.trans rfl)
   have hrow:=hF1.1
   rw [HZ.out] at hrow
   obtain ⟨g,c',hv⟩:∃ g c',Value.slice p 8 c=.slice (some ⟨g,0,none⟩) 8 c':=by
    obtain ⟨_,⟨_,h0⟩ | ⟨g,cap,cur,e,_⟩⟩:=hrow
    ·omega
    ·exact ⟨g,cap,e⟩
   cases hv
   have hs3:=HS2.out.imp (M.length+0) (A:=BoxA d (dnRow (some ⟨g,0,none⟩) zb.length c) 138) (A':=DevBoxA d g c) (OL_get.trans rfl) fun F _ hP=>⟨0,0,0,by rw [HZ.out] at hP;exact hP⟩
   rw [OL_set] at hs3
   have hs4:Sep W (OL M L.length (devItems ⟨d,g,c,zb⟩ (List.replicate 8 0))) wr:=by
    unfold devItems
    have:=hs3
    unfold dnItems at this
    rw [dn_zip,HZ.out] at this
    exact this
   have hs5:=DevA.closed hs4 (by rw [← HM.out];simp) ⟨HZ.out,by simp⟩
   have HFIN:Hid (Sep W (L++[DevA (pt d) (List.replicate 8 0)]) wr):=by
    have e:M.set L.length (DevA (pt d) (List.replicate 8 0))=L++[DevA (pt d) (List.replicate 8 0)]:=by
     rw [← HM.out,List.set_append_right _ _ (Nat.le_refl _),Nat.sub_self];rfl
    rw [← e]
    exact hs5
   clear hs3 hs4 hs5 hrow hF1 hh d2
   go_wp2_with fail
   go_ret2
   exact ⟨d,rfl,HFIN⟩
end Go.Proofs
