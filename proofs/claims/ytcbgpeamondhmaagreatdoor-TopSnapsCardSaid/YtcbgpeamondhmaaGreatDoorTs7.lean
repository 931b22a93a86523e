/- Texts of this claim, one behind the other: MgrSep, Mgr15, TxnP, TxnQ, Times23P, Many23P, Clash23P, Fails23P, Frame23, Readers23P, R20P, TopR. -/
import Derived.Test.YtcbgpeamondhmaaGreatDoorTs6
namespace Go.Proofs
open Go.RowKit Sc
section
variable {W w:World} {L:List Asn}
theorem MgrA.open' (h:Hid (Sep W L w)) (i:Nat) {b:Nat} {s:MgS} (hi:L[i]? = some (MgrA (pt b) s)):∃ c:MgC,c.mb=b∧c.cs.length=s.txs.length∧Hid (Sep W (OL L i (mgrItems c s)) w)∧i < L.length:=by
 obtain ⟨c,hv,hc,hS⟩:=MgrA.opened h.out i hi
 refine ⟨c,?_,hc,hS,(List.getElem?_eq_some_iff.1 hi).1⟩
 simp only [Value.pointer.injEq,Option.some.injEq,Addr.mk.injEq] at hv
 exact hv.1.symm
theorem mgBegin_sep (h:Hid (Sep W L w)) (i:Nat) {b:Nat} {s:MgS} (hi:L[i]? = some (MgrA (pt b) s)) {n:Nat} (g:MgG n s) :
  Calls Tryz.prog 155 #[.pointer (some ⟨b,0,none⟩)] w fun e w'=>e=.returned (.tuple #[.int .i64 (begH s),.int .i64 (begC s)])∧Hid (Sep W (L.set i (MgrA (pt b) (begNext s))) w'):=by
 obtain ⟨c,rfl,hc,hS,hil⟩:=MgrA.open' h i hi
 refine (begin_core hS hc g.kd g.b1 g.b2 g.hh).mono ?_
 rintro e w' ⟨rfl,c',hmb,hc',hS'⟩
 have:=MgrA.closed hS'.out hil hc'
 rw [hmb] at this
 exact ⟨rfl,this⟩
theorem mgWrite_sep (h:Hid (Sep W L w)) (i:Nat) {b:Nat} {s:MgS} (hi:L[i]? = some (MgrA (pt b) s)) {n:Nat} (g:MgG n s) (hd:Int) (lv:Value) (l:List Put) (hl:∀ G,Sc.Rest L i G w→PutsAt G w lv l) (n1:l.length≤1000000) :
  Calls Tryz.prog 157 #[.pointer (some ⟨b,0,none⟩),.int .i64 hd,lv] w fun e w'=>e=.returned (.int .i64 (wrCode s hd l))∧Hid (Sep W (L.set i (MgrA (pt b) (wrNext s hd l))) w'):=by
 obtain ⟨c,rfl,hc,hS,hil⟩:=MgrA.open' h i hi
 refine (write_core hS hc hd lv l hl (fun t ht=>by have:=(g.tx t ht).bl;omega) n1).mono ?_
 rintro e w' ⟨rfl,hS'⟩
 refine ⟨rfl,MgrA.closed hS'.out hil ?_⟩
 rw [hc]
 unfold wrNext
 split
 ·exact (setTx_len ..).symm
 ·rfl
theorem mgRead_sep (h:Hid (Sep W L w)) (i:Nat) {b:Nat} {s:MgS} (hi:L[i]? = some (MgrA (pt b) s)) {n:Nat} (g:MgG n s) (hn:n≤1000000) (hd:Int) (e:Ext) (i1:I64 e.first) (i2:I64 e.len) :
  Calls Tryz.prog 156 #[.pointer (some ⟨b,0,none⟩),.int .i64 hd,.agg #[.int .i64 e.first,.int .i64 e.len]] w fun r w' =>
   (rdCode s hd e≠0∧r=.returned (.tuple #[.slice none 0 0,.int .i64 (rdCode s hd e)])∧Hid (Sep W L w')) ∨
   (rdCode s hd e=0∧∃ g o cp,r=.returned (.tuple #[.slice (some ⟨g,o,none⟩) (40 * e.len.toNat) cp,.int .i64 0]) ∧
     Hid (Sep W ((L++[BytesWA (.slice (some ⟨g,o,none⟩) (40 * e.len.toNat) cp) (rdOut s hd e)]).set i (MgrA (pt b) (rdNext s hd e))) w')):=by
 obtain ⟨c,rfl,hc,hS,hil⟩:=MgrA.open' h i hi
 refine (mread_core hS hc hd e g.ge g.b2 hn g.tx i1 i2 hil).mono ?_
 rintro r w' (⟨h1,rfl,hS'⟩ | ⟨h1,gg,o,cp,rfl,hS'⟩)
 ·refine .inl ⟨h1,rfl,?_⟩
  have:=MgrA.closed hS'.out hil hc
  rwa [set_same hi] at this
 ·refine .inr ⟨h1,gg,o,cp,rfl,MgrA.closed hS'.out (by simp;omega) ?_⟩
  rw [hc]
  unfold rdNext
  rw [if_pos h1]
  exact (setTx_len ..).symm
theorem mgAbort_sep (h:Hid (Sep W L w)) (i:Nat) {b:Nat} {s:MgS} (hi:L[i]? = some (MgrA (pt b) s)) (hd:Int) :
  Calls Tryz.prog 158 #[.pointer (some ⟨b,0,none⟩),.int .i64 hd] w fun e w'=>e=.returned (.int .i64 (abCode s hd))∧Hid (Sep W (L.set i (MgrA (pt b) (abNext s hd))) w'):=by
 obtain ⟨c,rfl,hc,hS,hil⟩:=MgrA.open' h i hi
 refine (abort_core hS hc hd).mono ?_
 rintro e w' ⟨rfl,hS'⟩
 refine ⟨rfl,MgrA.closed hS'.out hil ?_⟩
 rw [hc]
 unfold abNext
 split
 ·exact (setTx_len ..).symm
 ·rfl
theorem mgResult_sep (h:Hid (Sep W L w)) (i:Nat) {b:Nat} {s:MgS} (hi:L[i]? = some (MgrA (pt b) s)) (hd:Int) :
  Calls Tryz.prog 221 #[.pointer (some ⟨b,0,none⟩),.int .i64 hd] w fun e w'=>e=.returned (.tuple #[.int .i64 (resOf s hd).1,.int .i64 (resOf s hd).2.1,.int .i64 (resOf s hd).2.2])∧Hid (Sep W L w'):=by
 obtain ⟨c,rfl,hc,hS,hil⟩:=MgrA.open' h i hi
 refine (result_core hS hc hd).mono ?_
 rintro e w' ⟨rfl,hb⟩
 exact ⟨rfl,h.out.up hb⟩
theorem mgLast_sep (h:Hid (Sep W L w)) (i:Nat) {b:Nat} {s:MgS} (hi:L[i]? = some (MgrA (pt b) s)) :
  Calls Tryz.prog 148 #[.pointer (some ⟨b,0,none⟩)] w fun e w'=>e=.returned (.int .i64 s.last)∧w'=w:=by
 obtain ⟨c,rfl,hc,hS,hil⟩:=MgrA.open' h i hi
 exact last_core hS
theorem mgQueue_sep (h:Hid (Sep W L w)) (i:Nat) {b:Nat} {s:MgS} (hi:L[i]? = some (MgrA (pt b) s)) :
  Calls Tryz.prog 191 #[.pointer (some ⟨b,0,none⟩)] w fun e w'=>e=.returned (.int .i64 s.queue.length)∧w'=w:=by
 obtain ⟨c,rfl,hc,hS,hil⟩:=MgrA.open' h i hi
 exact queue_core hS
theorem mgOpen_sep (h:Hid (Sep W L w)) (i:Nat) {b:Nat} {s:MgS} (hi:L[i]? = some (MgrA (pt b) s)) {n:Nat} (g:MgG n s) :
  Calls Tryz.prog 190 #[.pointer (some ⟨b,0,none⟩)] w fun e w'=>e=.returned (.int .i64 s.tmb.length)∧Hid (Sep W L w'):=by
 obtain ⟨c,rfl,hc,hS,hil⟩:=MgrA.open' h i hi
 refine (count_core hS g.kd.ln).mono ?_
 rintro e w' ⟨rfl,hb⟩
 exact ⟨rfl,h.out.up hb⟩
theorem mgReadOnly_sep (h:Hid (Sep W L w)) (i:Nat) {b:Nat} {s:MgS} (hi:L[i]? = some (MgrA (pt b) s)) (q:Bool) :
  Calls Tryz.prog 89 #[.pointer (some ⟨b,0,none⟩),.bool q] w fun e w'=>e=.returned (.tuple #[])∧Hid (Sep W (L.set i (MgrA (pt b) { s with ro:=q })) w'):=by
 obtain ⟨c,rfl,hc,hS,hil⟩:=MgrA.open' h i hi
 refine (readOnly_core hS q).mono ?_
 rintro e w' ⟨rfl,hS'⟩
 exact ⟨rfl,MgrA.closed hS'.out hil hc⟩
theorem mgPrune_sep (h:Hid (Sep W L w)) (i:Nat) {b:Nat} {s:MgS} (hi:L[i]? = some (MgrA (pt b) s)) {n:Nat} (g:MgG n s) (hn:n≤1000000) :
  Calls Tryz.prog 88 #[.pointer (some ⟨b,0,none⟩)] w fun e w'=>e=.returned (.int .i64 ((nVers s.vs - nVers (pruneVs (prH s) s.vs):Nat):Int))∧Hid (Sep W (L.set i (MgrA (pt b) (prNext s))) w'):=by
 obtain ⟨c,rfl,hc,hS,hil⟩:=MgrA.open' h i hi
 refine (prune_core hS g.b1 g.ge.nd (by have:=g.nv;omega)).mono ?_
 rintro e w' ⟨rfl,hS'⟩
 exact ⟨rfl,MgrA.closed hS'.out hil hc⟩
end
end Go.Proofs
namespace Go.Proofs
open Go.RowKit Sc
theorem vs_len {vs:Vers} (h:∀ x∈vs,x.2≠[]):vs.length≤nVers vs:=by
 induction vs with
 | nil=>simp
 | cons x t ih =>
  have h1:=ih fun y hy=>h y (List.mem_cons_of_mem _ hy)
  have h2:=List.length_pos_iff.2 (h x (by simp))
  show t.length+1≤x.2.length+nVers t
  omega
section
variable {W w:World} {L:List Asn} {i:Nat} {c:MgC} {s:MgS}
set_option maxRecDepth 100000 in
set_option maxHeartbeats 2000000 in
theorem dump_core (h:Hid (Sep W (OL L i (mgrItems c s)) w)) {n:Nat} (g:MgG n s) (hn:n≤1000000) :
  Calls Tryz.prog 149 #[.pointer (some ⟨c.mb,0,none⟩)] w fun e w'=>∃ p cp,e=.returned (.slice p (dumpV s.vs).length cp)∧Hid (PutsW (New w w') w' (.slice p (dumpV s.vs).length cp) (dumpV s.vs))∧Hid (Below w.heap.size w w'):=by
 obtain ⟨c0,_⟩:=mgr_cells h.out
 obtain ⟨F,hF,_⟩:=h.out.get (L.length+1) (OL_get.trans (items_head 1 (by omega)))
 have hne:=good_ne g.ge
 have HK:=Lib.hid (extDump_any F (pt c.m) s.blocks s.last0 s.vs w hF g.b1 (fun x hx=>(good_key g.ge g.b2 x hx).1) (by have:=vs_len hne;have:=g.nv;omega) hne g.ge.d40)
 clear hF hne
 go_enter Tryz.func149,Tryz.ntmps149
 go_wp2_with fail
 refine (gone_any c.mb c.m _ c0).mono ?_
 rintro e w1 ⟨rfl,rfl⟩
 go_wp2_with fail
 refine (HK.out).mono ?_
 rintro e w2 ⟨v,rfl,hp,hb⟩
 obtain ⟨p,cp,rfl⟩:=putsW_shape hp
 have HP:=Lib.hid hp
 have HB:=Lib.hid hb
 clear hp hb
 go_wp2
 go_ret
 exact ⟨p,cp,rfl,HP,HB⟩
theorem ml_len (cs:List TxC):(mlOf cs).length=cs.length:=by unfold mlOf;simp
set_option maxRecDepth 100000 in
set_option maxHeartbeats 4000000 in
theorem load_core (h:Hid (Sep W (OL L i (mgrItems c s)) w)) (hc:c.cs.length=s.txs.length) {n:Nat} (g:MgG n s) (hn:n≤1000000) (lv:Value) (l:List Put) (hl:∀ G w',Sc.Rest L i G w'→PutsAt G w' lv l) (n1:l.length≤1000000) :
  Calls Tryz.prog 82 #[.pointer (some ⟨c.mb,0,none⟩),lv] w fun e w'=>e=.returned (.int .i64 (ldCode s l))∧Hid (Sep W (OL L i (mgrItems c (ldNext s l))) w'):=by
 have hsh:∃ p cp,lv=.slice p l.length cp:=by
  obtain ⟨F,G,_,hR,_⟩:=h.out.at (L.length+0) (OL_get.trans (items_head 0 (by omega)))
  obtain ⟨p,cp,e,_⟩:=hl G w (Rest_OL hR)
  exact ⟨p,cp,e⟩
 obtain ⟨lp,lc,rfl⟩:=hsh
 obtain ⟨c0,_,c2,_,_,_,c6,_⟩:=mgr_cells h.out
 have hlen:=fun ty=>(mgr_map h.out).len (P:=Tryz.prog) Tryz.underlying174 ty
 rw [ml_len,hc] at hlen
 have HG:Hid (MgG n s):=g
 have HL:=Lib.hid hl
 have h6:(s.base == 0)=decide (s.base=0):=by by_cases e:s.base=0 <;> simp [e]
 clear g hl
 by_cases ht:0 < s.txs.length
 case pos =>
  have HC:Hid (ldCode s l=1∧ldNext s l=s):=⟨if_pos (.inl ht),if_pos (.inl ht)⟩
  have ht':(0:Int) < (s.txs.length:Int):=by omega
  go_enter Tryz.func82,Tryz.ntmps82
  go_wp2_with fail
  refine (gone_any c.mb c.m _ c0).mono ?_
  rintro e w1 ⟨rfl,rfl⟩
  go_wp2
  go_ret
  exact ⟨by rw [HC.out.1];rfl,by rw [HC.out.2];exact h⟩
 case neg =>
 have ht':¬ (0:Int) < (s.txs.length:Int):=by omega
 by_cases hb:s.base=0∧0 < l.length
 case pos =>
  have HC:Hid (ldCode s l=1∧ldNext s l=s):=⟨if_pos (.inr hb),if_pos (.inr (.inl hb))⟩
  have hb1:(s.base == 0)=true:=by rw [h6,decide_eq_true hb.1]
  have hb2:(0:Int) < (l.length:Int):=by omega
  clear h6
  go_enter Tryz.func82,Tryz.ntmps82
  go_wp2_with fail
  refine (gone_any c.mb c.m _ c0).mono ?_
  rintro e w1 ⟨rfl,rfl⟩
  go_wp2
  go_ret
  exact ⟨by rw [HC.out.1];rfl,by rw [HC.out.2];exact h⟩
 case neg =>
 by_cases hl0:l.length=0
 case pos =>
  have HC:Hid (ldCode s l=0∧ldNext s l=s):=by
   refine ⟨?_,if_pos (.inr (.inr hl0))⟩
   unfold ldCode
   rw [if_neg (by omega),if_pos hl0]
  have hb2:¬ (0:Int) < (l.length:Int):=by omega
  have hb3:((l.length:Int) == 0)=true:=by rw [beq_iff_eq];omega
  by_cases hb1:s.base=0
  ·rw [hb1] at c6
   clear hb h6 hb1
   go_enter Tryz.func82,Tryz.ntmps82
   go_wp2_with fail
   refine (gone_any c.mb c.m _ c0).mono ?_
   rintro e w1 ⟨rfl,rfl⟩
   go_wp2
   go_ret
   exact ⟨by rw [HC.out.1];rfl,by rw [HC.out.2];exact h⟩
  ·have hb1':(s.base == 0)=false:=by rw [beq_eq_false_iff_ne];exact hb1
   clear hb h6 hb1
   go_enter Tryz.func82,Tryz.ntmps82
   go_wp2_with fail
   refine (gone_any c.mb c.m _ c0).mono ?_
   rintro e w1 ⟨rfl,rfl⟩
   go_wp2
   go_ret
   exact ⟨by rw [HC.out.1];rfl,by rw [HC.out.2];exact h⟩
 case neg =>
  have hb1:s.base≠0:=fun e=>hb ⟨e,by omega⟩
  have HC:Hid (ldCode s l=applyCode s.blocks s.last0 ⟨s.base,l⟩∧ldNext s l={ s with vs:=applyNext s.blocks s.last0 s.vs ⟨s.base,l⟩,last0:=applyLast s.blocks s.last0 ⟨s.base,l⟩ }):=by
   refine ⟨?_,if_neg (by omega)⟩
   unfold ldCode
   rw [if_neg (by omega),if_neg hl0]
  have hb1':(s.base == 0)=false:=by rw [beq_eq_false_iff_ne];exact hb1
  have hb2:(0:Int) < (l.length:Int):=by omega
  have hb3:((l.length:Int) == 0)=false:=by rw [beq_eq_false_iff_ne];omega
  have hi64:I64 s.base:=by have:=HG.out.lt;unfold I64;omega
  have hSd:=h.out.up (below_drewN (Below.refl w.heap.size w) 1)
  have hap:=extApply_sep hSd (L.length+1) (tv:=.agg #[.int .i64 s.base,.slice lp l.length lc]) (OL_get.trans (items_head 1 (by omega))) HG.out.b1 ⟨s.base,l⟩ (fun G hR=>⟨_,rfl,hi64,HL.out G _ (Rest_OL hR)⟩)
   (fun k l hl=>by have h1:=len_nVers hl;have h2:=HG.out.nv;omega) n1
  rw [OL_set,items_ext] at hap
  obtain ⟨d0,_,_,_,_,_,d6,_⟩:=mgr_cells hSd
  have HAP:=Lib.hid hap
  clear hb h6 hb1 hl0 hSd hap
  go_enter Tryz.func82,Tryz.ntmps82
  go_wp2_with fail
  refine (gone_any c.mb c.m _ c0).mono ?_
  rintro e w1 ⟨rfl,rfl⟩
  go_upto_region 5 with fail
  refine wp_regionG (fun W=>W.cell? ⟨c.mb,0,none⟩=some (.pointer (some ⟨c.m,0,none⟩))∧W.cell? ⟨c.mb,6,none⟩=some (.int .i64 s.base)) (n:=12) (by kernel_rfl) (by kernel_rfl) ?_
  refine wpG.tk 0 ?_
  refine wpG.tk 1 ?_
  refine wpG.tk 2 ?_
  refine wpG.tk 3 ?_ (hy:=by intro W hW;have hld0:=hW.1;go_simp;try with_reducible rfl)
  refine wpG.tk 4 ?_
  refine wpG.tk 5 ?_
  refine wpG.tk 6 ?_
  refine wpG.tk 7 ?_ (hy:=by intro W hW;have hld0:=hW.2;go_simp;try with_reducible rfl)
  refine wpG.tk 8 ?_
  refine wpG.tk 9 ?_
  refine wpG.alone 10 rfl (by kernel_rfl) (by kernel_rfl) (⟨d0,d6⟩) (fun K hK=>?_)
  go_simp
  go_at_call 106
  refine (HAP.out).mono ?_
  rintro e w5 ⟨rfl,hs5⟩
  have HS5:=Lib.hid hs5
  obtain ⟨g0,_,_,_,_,_,g6,_⟩:=mgr_cells HS5.out
  have HC1:Hid (ldCode s l=applyCode s.blocks s.last0 ⟨s.base,l⟩):=HC.out.1
  clear hs5 HAP
  generalize applyCode s.blocks s.last0 ⟨s.base,l⟩=acd at *
  try go_simp
  refine hK _ _ ?_
  clear hK K
  refine wpG.tk 11 ?_
  refine wpG.done (by kernel_rfl) ⟨g0,g6⟩ ?_
  go_wp2
  go_ret
  exact ⟨by rw [HC1.out];rfl,by rw [HC.out.2];exact HS5⟩
theorem ldNext_txs (s:MgS) (l:List Put):(ldNext s l).txs=s.txs:=by unfold ldNext;split <;> rfl
theorem cmNext_len (s:MgS) (h:Int):(cmNext s h).txs.length=s.txs.length:=by
 unfold cmNext
 split
 ·split
  ·exact (setTx_len ..).trans (setTx_len ..)
  ·split
   ·exact setTx_len ..
   ·exact setTx_len ..
 ·rfl
theorem baNext_txs (s:MgS):(baNext s).txs=s.txs:=by unfold baNext;split <;> rfl
theorem doneNext_len {n:Nat} {s:MgS} (g:MgG n s) (code:Int):(doneNext s code).txs.length=s.txs.length:=by
 unfold doneNext
 split
 ·rfl
 ·have:=g.o1
  exact (doneTo_same code s s.out.toNat (by omega)).2.1
end
section
variable {W w:World} {L:List Asn}
theorem mgCommit_sep (h:Hid (Sep W L w)) (i:Nat) {b:Nat} {s:MgS} (hi:L[i]? = some (MgrA (pt b) s)) {n:Nat} (g:MgG n s) (hn:s.queue.length≤1000000) (hd:Int) :
  Calls Tryz.prog 222 #[.pointer (some ⟨b,0,none⟩),.int .i64 hd] w fun e w'=>e=.returned (.int .i64 (cmCode s hd))∧Hid (Sep W (L.set i (MgrA (pt b) (cmNext s hd))) w'):=by
 obtain ⟨c,rfl,hc,hS,hil⟩:=MgrA.open' h i hi
 refine (commit_core hS hc g hn hd).mono ?_
 rintro e w' ⟨rfl,q,hS'⟩
 exact ⟨rfl,MgrA.closed (c:={ c with qv:=q }) hS'.out hil (hc.trans (cmNext_len s hd).symm)⟩
theorem mgBatch_sep (h:Hid (Sep W L w)) (i:Nat) {b:Nat} {s:MgS} (hi:L[i]? = some (MgrA (pt b) s)) {n:Nat} (g:MgG n s) (hn:s.queue.length≤1000000) (hnn:n≤1000000) :
  Calls Tryz.prog 53 #[.pointer (some ⟨b,0,none⟩)] w fun e w' =>
   (baCode s≠0∧e=.returned (.tuple #[.agg #[.int .i64 0,.slice none 0 0],.int .i64 (baCode s)])∧Hid (Sep W L w')) ∨
   (baCode s=0∧∃ p cp,e=.returned (.tuple #[.agg #[.int .i64 (s.num+1),.slice p (formN (waitL s)) cp],.int .i64 0]) ∧
     Hid (Sep W ((L++[TxsA (.slice p (formN (waitL s)) cp) ((waitL s).take (formN (waitL s)))]).set i (MgrA (pt b) (baNext s))) w')):=by
 obtain ⟨c,rfl,hc,hS,hil⟩:=MgrA.open' h i hi
 refine (batch_core hS hc g hn hnn hil).mono ?_
 rintro e w' (⟨h1,rfl,hS'⟩ | ⟨h1,p,cp,rfl,hS'⟩)
 ·refine .inl ⟨h1,rfl,?_⟩
  have:=MgrA.closed hS'.out hil hc
  rwa [set_same hi] at this
 ·exact .inr ⟨h1,p,cp,rfl,MgrA.closed hS'.out (by simp;omega) (by rw [baNext_txs];exact hc)⟩
theorem mgDone_sep (h:Hid (Sep W L w)) (i:Nat) {b:Nat} {s:MgS} (hi:L[i]? = some (MgrA (pt b) s)) {n:Nat} (g:MgG n s) (hn:s.queue.length≤1000000) (hnn:n≤900000) (h8:s.out≤8) (code:Int) :
  Calls Tryz.prog 55 #[.pointer (some ⟨b,0,none⟩),.int .i64 code] w fun e w'=>e=.returned (.int .i64 (doneCode s))∧Hid (Sep W (L.set i (MgrA (pt b) (doneNext s code))) w'):=by
 obtain ⟨c,rfl,hc,hS,hil⟩:=MgrA.open' h i hi
 refine (done_core hS hc g hn hnn h8 hil code).mono ?_
 rintro e w' ⟨rfl,q,hS'⟩
 exact ⟨rfl,MgrA.closed (c:={ c with qv:=q }) hS'.out hil (hc.trans (doneNext_len g code).symm)⟩
theorem mgDump_sep (h:Hid (Sep W L w)) (i:Nat) {b:Nat} {s:MgS} (hi:L[i]? = some (MgrA (pt b) s)) {n:Nat} (g:MgG n s) (hn:n≤1000000) :
  Calls Tryz.prog 149 #[.pointer (some ⟨b,0,none⟩)] w fun e w'=>∃ p cp,e=.returned (.slice p (dumpV s.vs).length cp)∧Hid (PutsW (New w w') w' (.slice p (dumpV s.vs).length cp) (dumpV s.vs))∧Hid (Below w.heap.size w w'):=by
 obtain ⟨c,rfl,hc,hS,hil⟩:=MgrA.open' h i hi
 exact dump_core hS g hn
theorem mgLoad_sep (h:Hid (Sep W L w)) (i:Nat) {b:Nat} {s:MgS} (hi:L[i]? = some (MgrA (pt b) s)) {n:Nat} (g:MgG n s) (hn:n≤1000000) (lv:Value) (l:List Put) (hl:∀ G w',Sc.Rest L i G w'→PutsAt G w' lv l) (n1:l.length≤1000000) :
  Calls Tryz.prog 82 #[.pointer (some ⟨b,0,none⟩),lv] w fun e w'=>e=.returned (.int .i64 (ldCode s l))∧Hid (Sep W (L.set i (MgrA (pt b) (ldNext s l))) w'):=by
 obtain ⟨c,rfl,hc,hS,hil⟩:=MgrA.open' h i hi
 refine (load_core hS hc g hn lv l hl n1).mono ?_
 rintro e w' ⟨rfl,hS'⟩
 exact ⟨rfl,MgrA.closed hS'.out hil (by rw [ldNext_txs];exact hc)⟩
end
end Go.Proofs
namespace Go.Proofs
open Go.RowKit Sc
theorem beg_ok {n:Nat} {s:MgS} (g:MgG n s) (h:s.tmb.length < 16):begC s=0∧begH s=s.txs.length+1∧begNext s={ s with lastH:=s.lastH+1,tmb:=s.tmb++[(s.lastH+1,s.last)],txs:=s.txs++[⟨1,0,0,s.last,[],[],[]⟩] }:=by
 have hl:=g.lt
 have hc:begC s=0:=by
  unfold begC OpenOk
  rw [if_neg (by omega),if_neg (by omega)]
 refine ⟨hc,?_,if_pos hc⟩
 unfold begH
 rw [if_pos hc,g.hh]
theorem buf_one {blocks most:Int} {s:List (Int × Bytes)} {k:Int} {d:Bytes} (h1:0≤k∧k < blocks) (h2:d.length=40) (h3:(s.length:Int) < most):bufCode blocks most s [⟨k,d⟩]=0∧bufNext blocks most s [⟨k,d⟩]=aset s k d:=by
 have hc:bufCode blocks most s [⟨k,d⟩]=0:=by
  unfold bufCode
  have e1:([⟨k,d⟩]:List Put).any (outB blocks)=false:=by
   show (outB blocks ⟨k,d⟩ || false)=false
   unfold outB
   rw [decide_eq_false (show ¬ k < 0 by omega),decide_eq_false (show ¬ blocks≤k by omega)];rfl
  have e2:([⟨k,d⟩]:List Put).any len40=false:=by
   show (len40 ⟨k,d⟩ || false)=false
   unfold len40
   rw [decide_eq_true h2];rfl
  have e3:twiceB [(⟨k,d⟩:Put)]=false:=twiceB_no.2 (by simp)
  have e4:freshN s [(⟨k,d⟩:Put)]≤1:=by unfold freshN;exact List.length_filter_le _ _
  rw [if_neg (by simp),e1,e2,e3]
  simp only [Bool.false_eq_true,if_false]
  rw [if_neg (by omega)]
 refine ⟨hc,?_⟩
 unfold bufNext
 rw [if_pos hc];rfl
theorem wr_one {s:MgS} {h k:Int} {d:Bytes} (ho:openB s h=true) (h1:0≤k∧k < s.blocks) (h2:d.length=40) (h3:(txOf s h).buf.length < 16):wrCode s h [⟨k,d⟩]=0∧wrNext s h [⟨k,d⟩]=setTx s h { txOf s h with buf:=aset (txOf s h).buf k d }:=by
 obtain ⟨e1,e2⟩:=buf_one (most:=16) h1 h2 (s:=(txOf s h).buf) (by omega)
 unfold wrCode wrNext
 rw [if_pos ho,if_pos ho,e1,e2]
 exact ⟨rfl,rfl⟩
theorem check_free {vs:Vers} {queue:List Tx} {t:Int} {r l:List Ext} (h1:∀ x∈r++l,wrB vs x t=false) (h2:∀ q∈queue,∀ p∈q.puts,hasB r p.lba=false∧hasB l p.lba=false):checkCode vs queue t r l=0:=by
 unfold checkCode
 split
 ·rfl
 ·have key:∀ m,(∀ x∈m,wrB vs x t=false)→(∀ q∈queue,∀ p∈q.puts,hasB m p.lba=false)→hitsB vs queue t m=false:=fun m a b=>by
   unfold hitsB
   rw [Bool.or_eq_false_iff]
   refine ⟨List.any_eq_false.2 fun x hx=>by rw [a x hx];simp,List.any_eq_false.2 fun q hq=>?_⟩
   unfold againstB
   rw [Bool.not_eq_true,List.any_eq_false]
   exact fun p hp=>by rw [b q hq p hp];simp
  rw [key r (fun x hx=>h1 x (List.mem_append_left _ hx)) (fun q hq p hp=>(h2 q hq p hp).1),key l (fun x hx=>h1 x (List.mem_append_right _ hx)) (fun q hq p hp=>(h2 q hq p hp).2)]
  rfl
theorem wrB_nil (x:Ext) (t:Int):wrB [] x t=false:=by
 unfold wrB writtenB
 simp
theorem check_none (t:Int) (r l:List Ext):checkCode [] [] t r l=0:=check_free (fun x _=>wrB_nil x t) (by simp)
theorem cm_ok {s:MgS} {h:Int} (ho:openB s h=true) (hb:0 < (txOf s h).buf.length) (hm:mayC s (txOf s h)=0):cmCode s h=0∧cmNext s h=cmWait s h:=by
 unfold cmCode cmNext
 rw [if_pos ho,if_pos ho,if_neg (by omega),if_neg (by omega),if_neg (by rw [hm];simp)]
 exact ⟨hm,rfl⟩
theorem may_ok {s:MgS} {t:TxS} (hr:s.ro=false) (hc:checkCode s.vs (waitL s) t.at' t.S (setB t)=0) (hg:s.given < 1099511627776):mayC s t=0:=by
 unfold mayC
 rw [if_neg (by rw [hr];decide),if_neg (by rw [hc];simp),if_neg (by omega)]
theorem ba_ok {s:MgS} (h1:s.out=0) (h2:0 < s.queue.length):baCode s=0∧baNext s={ s with out:=formN (waitL s) }:=by
 have:baCode s=0:=by unfold baCode;rw [if_neg (by omega),if_neg (by omega)]
 exact ⟨this,if_pos this⟩
end Go.Proofs
namespace Go.Proofs
open Go.RowKit Sc
theorem bufPuts_one (k:Int) (d:Bytes):bufPuts [(k,d)]=[⟨k,d⟩]:=by
 have:keysUp [k]=[k]:=by unfold keysUp;simp
 unfold bufPuts
 simp [this,alook]
theorem beg_tx {n:Nat} {s:MgS} (g:MgG n s) (h:s.tmb.length < 16):openB (begNext s) (s.txs.length+1)=true∧txAt (begNext s).txs (s.txs.length+1)=⟨1,0,0,s.last,[],[],[]⟩∧(∀ x:Int,1≤x→x≤s.txs.length→txAt (begNext s).txs x=txAt s.txs x)∧(begNext s).txs.length=s.txs.length+1:=by
 rw [(beg_ok g h).2.2]
 have hat:∀ x:Int,1≤x→txAt (s.txs++[(⟨1,0,0,s.last,[],[],[]⟩:TxS)]) x=if x=s.txs.length+1 then (⟨1,0,0,s.last,[],[],[]⟩:TxS) else txAt s.txs x:=fun x hx=>txAt_snoc _ hx
 have e:=hat (s.txs.length+1) (by omega)
 rw [if_pos rfl] at e
 refine ⟨openB_iff.2 ⟨by omega,?_,?_⟩,e,fun x a b=>?_,by simp⟩
 ·show (s.txs.length:Int)+1≤((s.txs++[(⟨1,0,0,s.last,[],[],[]⟩:TxS)]).length:Int)
  simp
 ·show (txAt (s.txs++[⟨1,0,0,s.last,[],[],[]⟩]) (s.txs.length+1)).st=1
  rw [e]
 ·show txAt (s.txs++[⟨1,0,0,s.last,[],[],[]⟩]) x=_
  rw [hat x a,if_neg (by omega)]
theorem setTx_at' {s:MgS} {h:Int} (t:TxS) (h1:1≤h) (h2:h≤s.txs.length) {x:Int} (hx:1≤x):txAt (setTx s h t).txs x=if x=h then t else txAt s.txs x:=txAt_set t h1 h2 hx
theorem wait_tx {s:MgS} {h:Int} (ho:openB s h=true):txAt (cmWait s h).txs h={ txAt s.txs h with st:=2,tm:=s.given+1 }∧(∀ x:Int,1≤x→x≠h→txAt (cmWait s h).txs x=txAt s.txs x)∧(cmWait s h).txs.length=s.txs.length:=by
 obtain ⟨o1,o2,o3⟩:=openB_iff.1 ho
 have hat:=fun {x:Int} hx=>setTx_at' (s:=s) (h:=h) { txAt s.txs h with st:=2,tm:=s.given+1 } o1 o2 (x:=x) hx
 have eh:=hat o1
 rw [if_pos rfl] at eh
 exact ⟨eh,fun x a b=>by have:=hat a;rw [if_neg b] at this;exact this,setTx_len ..⟩
theorem end_tx {s:MgS} {h st cd:Int} (o1:1≤h) (o2:h≤s.txs.length):txAt (endNext s h st cd).txs h=endTx (txAt s.txs h) st cd∧(∀ x:Int,1≤x→x≠h→txAt (endNext s h st cd).txs x=txAt s.txs x)∧(endNext s h st cd).txs.length=s.txs.length:=by
 have hat:=fun {x:Int} hx=>setTx_at' (s:=s) (h:=h) (endTx (txAt s.txs h) st cd) o1 o2 (x:=x) hx
 have eh:=hat o1
 rw [if_pos rfl] at eh
 exact ⟨eh,fun x a b=>by have:=hat a;rw [if_neg b] at this;exact this,setTx_len ..⟩
theorem res_at {s:MgS} {h:Int} (h1:1≤h) (h2:h≤s.txs.length):resOf s h=((txAt s.txs h).st,(txAt s.txs h).tm,(txAt s.txs h).cd):=by
 unfold resOf
 rw [if_pos ⟨h1,h2⟩];rfl
end Go.Proofs
namespace Go.Proofs
open Go.RowKit Sc
end Go.Proofs
namespace Go.Proofs
open Go.RowKit Sc
end Go.Proofs
namespace Go.Proofs
open Go.RowKit Sc
section
variable {a b c d:Int} {R1 R2:List Sc.Read} {d1 d2:Bytes}
end
end Go.Proofs
namespace Go.Proofs
open Go.RowKit Sc
end Go.Proofs
namespace Go.Proofs
open Go.RowKit Sc
section
variable {s:MgS} {n:Nat}
theorem setTx_frame {h x:Int} (t:TxS) (o1:1≤h) (o2:h≤s.txs.length) (hx:1≤x) (hne:x≠h):txAt (setTx s h t).txs x=txAt s.txs x:=by rw [setTx_at' t o1 o2 hx,if_neg hne]
theorem rd_len (h:Int) (e:Ext):(rdNext s h e).txs.length=s.txs.length:=by unfold rdNext;split;exact setTx_len ..;rfl
theorem rd_same (h:Int) (e:Ext):(rdNext s h e)={ s with txs:=(rdNext s h e).txs }:=by unfold rdNext;split <;> rfl
theorem wr_len (h:Int) (l:List Put):(wrNext s h l).txs.length=s.txs.length:=by unfold wrNext;split;exact setTx_len ..;rfl
theorem wr_frame (h:Int) (l:List Put) {x:Int} (hx:1≤x) (hne:x≠h):txAt (wrNext s h l).txs x=txAt s.txs x:=by
 unfold wrNext
 split
 case isFalse=>rfl
 case isTrue ho =>
  obtain ⟨o1,o2,o3⟩:=openB_iff.1 ho
  exact setTx_frame _ o1 o2 hx hne
theorem wr_same (h:Int) (l:List Put):(wrNext s h l)={ s with txs:=(wrNext s h l).txs }:=by unfold wrNext;split <;> rfl
theorem ab_len (h:Int):(abNext s h).txs.length=s.txs.length:=by unfold abNext;split;exact setTx_len ..;rfl
theorem cm_frame (h:Int) {x:Int} (hx:1≤x) (hne:x≠h):txAt (cmNext s h).txs x=txAt s.txs x:=by
 unfold cmNext
 split
 case isFalse=>rfl
 case isTrue ho =>
  obtain ⟨o1,o2,o3⟩:=openB_iff.1 ho
  split
  ·rw [(end_tx (s:=setTx s h { txOf s h with tm:=(txOf s h).at' }) o1 (by rw [setTx_len];exact o2)).2.1 x hx hne]
   exact setTx_frame _ o1 o2 hx hne
  ·split
   ·exact (end_tx o1 o2).2.1 x hx hne
   ·exact (wait_tx ho).2.1 x hx hne
theorem cm_same (h:Int):(cmNext s h)={ s with txs:=(cmNext s h).txs,tmb:=(cmNext s h).tmb,given:=(cmNext s h).given,queue:=(cmNext s h).queue }∧((cmNext s h).given=s.given∨(cmNext s h).given=s.given+1):=by
 unfold cmNext
 split
 ·split
  ·exact ⟨rfl,.inl rfl⟩
  ·split
   ·exact ⟨rfl,.inl rfl⟩
   ·exact ⟨rfl,.inr rfl⟩
 ·exact ⟨rfl,.inl rfl⟩
end
end Go.Proofs
namespace Go.Proofs
open Go.RowKit Sc
section
variable {N k:Nat} {s:MgS}
theorem MgG.qlen16 (g:MgG N s):s.queue.length≤16:=by
 have h:∀ x∈s.queue,x∈s.tmb.map (·.1):=fun x hx=>by
  obtain ⟨q1,q2⟩:=g.qr x hx
  have:=g.bk x q1 q2
  rw [if_pos (.inr (g.qp x hx).1)] at this
  exact List.mem_map.2 ⟨_,alook_in this,rfl⟩
 have:=List.Nodup.length_le_of_subset g.qd h
 rw [List.length_map] at this
 have:=g.k6
 omega
end
end Go.Proofs
namespace Go.Proofs
open Go.RowKit Sc
def wroteH (h:Hist):Bool:=decide (h.state=3) && decide (0 < h.puts.length)
def wroteAt (l:List Hist) (i:Nat):Bool:=(l[i]?).any wroteH
def timeAt (l:List Hist) (i:Nat):Int:=((l[i]?).map (·.time)).getD 0
def ordIdx (l:List Hist):List Nat:=(List.range l.length).filter (wroteAt l)
def ordLe (l:List Hist) (i j:Nat):Bool:=decide (timeAt l i < timeAt l j∨(timeAt l i=timeAt l j∧i≤j))
def ordI (l:List Hist):List Nat:=(ordIdx l).mergeSort (ordLe l)
theorem ordLe_trans (l:List Hist) (a b c:Nat) (h1:ordLe l a b=true) (h2:ordLe l b c=true):ordLe l a c=true:=by
 unfold ordLe at *;simp only [decide_eq_true_eq] at *;omega
theorem ordLe_total (l:List Hist) (a b:Nat):(ordLe l a b || ordLe l b a)=true:=by
 unfold ordLe;simp only [Bool.or_eq_true,decide_eq_true_eq];omega
theorem ordI_perm (l:List Hist):(ordI l).Perm (ordIdx l):=List.mergeSort_perm _ _
theorem ordI_pairwise (l:List Hist):(ordI l).Pairwise (fun i j=>ordLe l i j=true):=List.pairwise_mergeSort (ordLe_trans l) (ordLe_total l) _
theorem ordI_unique {l:List Hist} {o:List Nat} (hp:o.Perm (ordIdx l)) (hs:o.Pairwise (fun i j=>ordLe l i j=true)):o=ordI l:=by
 refine List.Perm.eq_of_pairwise (le:=fun i j:Nat=>ordLe l i j=true) (fun x y _ _ h1 h2=>?_) hs (ordI_pairwise l) (hp.trans (ordI_perm l).symm)
 unfold ordLe at h1 h2;simp only [decide_eq_true_eq] at h1 h2;omega
theorem ordIdx_sorted (l:List Hist):(ordIdx l).Pairwise (· < ·):=List.pairwise_lt_range.filter _
theorem ordIdx_nodup (l:List Hist):(ordIdx l).Nodup:=(ordIdx_sorted l).imp (fun h=>by omega)
theorem mem_ordIdx {l:List Hist} {i:Nat}:i∈ordIdx l↔∃ h:i < l.length,wroteH l[i]=true:=by
 unfold ordIdx
 rw [List.mem_filter,List.mem_range]
 unfold wroteAt
 constructor
 ·rintro ⟨h,h2⟩
  rw [List.getElem?_eq_getElem h] at h2
  exact ⟨h,h2⟩
 ·rintro ⟨h,h2⟩
  refine ⟨h,?_⟩
  rw [List.getElem?_eq_getElem h]
  exact h2
theorem mem_ordI {l:List Hist} {i:Nat}:i∈ordI l↔∃ h:i < l.length,wroteH l[i]=true:=(ordI_perm l).mem_iff.trans mem_ordIdx
theorem timeAt_lt {l:List Hist} {i:Nat} (h:i < l.length):timeAt l i=l[i].time:=by unfold timeAt;rw [List.getElem?_eq_getElem h];rfl
def hist0:Hist:=⟨0,0,0,0,0,[],[]⟩
def vN (i:Nat):Value:=.int .i64 (i:Int)
structure OrdTo (l:List Hist) (k:Nat) (o:List Nat):Prop where
 perm:o.Perm ((List.range k).filter (wroteAt l))
 sorted:o.Pairwise (fun i j=>ordLe l i j=true)
theorem OrdTo.start (l:List Hist):OrdTo l 0 []:=⟨List.Perm.refl _,List.Pairwise.nil⟩
theorem OrdTo.lt {l:List Hist} {k:Nat} {o:List Nat} (h:OrdTo l k o):∀ i∈o,i < k:=fun i hi=>by
 have:=h.perm.mem_iff.1 hi
 simpa using (List.mem_filter.1 this).1
theorem OrdTo.skip {l:List Hist} {k:Nat} {o:List Nat} (h:OrdTo l k o) (hw:wroteAt l k=false):OrdTo l (k+1) o:=by
 refine ⟨?_,h.sorted⟩
 rw [List.range_succ,List.filter_append]
 simpa [hw] using h.perm
theorem OrdTo.put {l:List Hist} {k:Nat} {o:List Nat} (h:OrdTo l k o) (hw:wroteAt l k=true) {a:Nat} (ha:a≤o.length)
  (c1:a=0∨timeAt l (o.getD (a - 1) 0)≤timeAt l k) (c2:∀ j,a≤j→∀ hj:j < o.length,timeAt l k < timeAt l o[j]):OrdTo l (k+1) (o.take a++k :: o.drop a):=by
 refine ⟨?_,?_⟩
 ·rw [List.range_succ,List.filter_append]
  have e:[k].filter (wroteAt l)=[k]:=by simp [hw]
  rw [e]
  refine List.perm_middle.trans ?_
  rw [List.take_append_drop]
  exact (List.perm_append_singleton k o).symm.trans (h.perm.append_right [k])
 ·have hs:=h.sorted
  have hs':(o.take a++o.drop a).Pairwise (fun i j=>ordLe l i j=true):=by rw [List.take_append_drop];exact hs
  rw [List.pairwise_append] at hs' ⊢
  obtain ⟨s1,s2,s3⟩:=hs'
  refine ⟨s1,List.pairwise_cons.2 ⟨fun j hj=>?_,s2⟩,fun i hi j hj=>?_⟩
  ·obtain ⟨q,hq,rfl⟩:=List.getElem_of_mem hj
   rw [List.getElem_drop]
   have hq':a+q < o.length:=by rw [List.length_drop] at hq;omega
   have:=c2 (a+q) (by omega) hq'
   unfold ordLe;rw [decide_eq_true_eq];exact Or.inl this
  ·rcases List.mem_cons.1 hj with rfl | hj
   ·obtain ⟨q,hq,rfl⟩:=List.getElem_of_mem hi
    rw [List.getElem_take]
    have hq':q < a∧q < o.length:=by rw [List.length_take] at hq;omega
    have hlt:o[q] < j:=h.lt _ (List.getElem_mem hq'.2)
    have h1:timeAt l (o.getD (a - 1) 0)≤timeAt l j:=c1.resolve_left (by omega)
    have e1:o.getD (a - 1) 0=o[a - 1]'(by omega):=by simp [show a - 1 < o.length by omega]
    rw [e1] at h1
    have h2:timeAt l o[q]≤timeAt l (o[a - 1]'(by omega)):=by
     rcases Nat.lt_or_ge q (a - 1) with hh | hh
     ·have:=List.pairwise_iff_getElem.1 hs q (a - 1) hq'.2 (by omega) hh
      unfold ordLe at this;rw [decide_eq_true_eq] at this;omega
     ·have hqa:q=a - 1:=by omega
      subst hqa;exact Int.le_refl _
    unfold ordLe;rw [decide_eq_true_eq];omega
   ·exact s3 i hi j hj
theorem OrdTo.done {l:List Hist} {o:List Nat} (h:OrdTo l l.length o):o=ordI l:=ordI_unique h.perm h.sorted
theorem shift_get (os:List Nat) (q g:Nat) (h:q < os.length):((os.take (q+1)++g :: os.drop (q+1)).map vN)[q]? = some (vN (os[q])):=by
 rw [List.getElem?_map,List.getElem?_append_left (by rw [List.length_take];omega),List.getElem?_take,if_pos (by omega),List.getElem?_eq_getElem h];rfl
theorem shift_set (os:List Nat) (q g:Nat) (h:q < os.length):((os.take (q+1)++g :: os.drop (q+1)).map vN).set (q+1) (vN (os[q]))=(os.take q++os[q] :: os.drop q).map vN:=by
 rw [← List.map_set]
 congr 1
 rw [List.set_append_right _ _ (by rw [List.length_take];omega)]
 have e:q+1 - (os.take (q+1)).length=0:=by rw [List.length_take];omega
 rw [e,List.set_cons_zero,List.take_succ_eq_append_getElem h,List.append_assoc,List.drop_eq_getElem_cons h]
 rfl
theorem end_set (os:List Nat) (a g k:Nat) (h:a≤os.length):((os.take a++g :: os.drop a).map vN).set a (vN k)=(os.take a++k :: os.drop a).map vN:=by
 rw [← List.map_set]
 congr 1
 rw [List.set_append_right _ _ (by rw [List.length_take];omega)]
 have e:a - (os.take a).length=0:=by rw [List.length_take];omega
 rw [e,List.set_cons_zero]
theorem put_len (os:List Nat) (a k:Nat) (h:a≤os.length):(os.take a++k :: os.drop a).length=os.length+1:=by
 rw [List.length_append,List.length_take,List.length_cons,List.length_drop];omega
theorem first_row (os:List Nat):os.map vN++[.int .i64 0]=(os.take os.length++0 :: os.drop os.length).map vN:=by
 rw [List.take_length,List.drop_length,List.map_append];rfl
end Go.Proofs
namespace Go.Proofs
open Go.RowKit Sc
def putG (t:Int) (ps:List Put) (k:Int):List Put:=(ps.filter fun p=>p.lba == k).map fun p=>⟨t,p.data⟩
theorem putG_append (t:Int) (a b:List Put) (k:Int):putG t (a++b) k=putG t a k++putG t b k:=by unfold putG;rw [List.filter_append,List.map_append]
theorem putG_none {t:Int} {ps:List Put} {k:Int} (h:∀ p∈ps,p.lba≠k):putG t ps k=[]:=by
 unfold putG
 rw [List.filter_eq_nil_iff.2 fun v hv=>by simpa using h v hv];rfl
theorem putG_one {t:Int}:∀ {ps:List Put} {p:Put},(ps.map (·.lba)).Nodup→p∈ps→putG t ps p.lba=[⟨t,p.data⟩]
 | [],_,_,h=>by cases h
 | q :: ps,p,hn,h=>by
  rw [List.map_cons,List.nodup_cons] at hn
  rcases List.mem_cons.1 h with rfl | hp
  ·have e:putG t (p :: ps) p.lba=putG t [p] p.lba++putG t ps p.lba:=putG_append t [p] ps p.lba
   rw [e,putG_none fun r hr e=>hn.1 (List.mem_map.2 ⟨r,hr,e⟩)]
   unfold putG;simp
  ·have e:putG t (q :: ps) p.lba=putG t [q] p.lba++putG t ps p.lba:=putG_append t [q] ps p.lba
   rw [e,putG_one hn.2 hp,putG_none fun r hr e2=>hn.1 (List.mem_map.2 ⟨p,hp,by rw [← e2,List.mem_singleton.1 hr]⟩)]
   rfl
theorem sn_keys {m:List Int} (hn:m.Nodup):(keysUp m).Pairwise (· < ·):=by
 have h1:(keysUp m).Pairwise (fun a b=>decide (a≤b)=true):=List.pairwise_mergeSort (fun a b c h1 h2=>by simp at *;omega) (fun a b=>by simp;omega) m
 have h2:(keysUp m).Nodup:=(List.mergeSort_perm m _).nodup_iff.2 hn
 have h3:=h1.and h2
 exact h3.imp fun {a b} h=>by
  have:=of_decide_eq_true h.1
  have:=h.2
  omega
theorem sn_asc {s:List (Int × Bytes)} (hn:(s.map (·.1)).Nodup):(bufPuts s).Pairwise fun p q=>p.lba < q.lba:=by
 unfold bufPuts
 rw [List.pairwise_map]
 exact sn_keys hn
theorem sn_put {blocks:Int} {s:List (Int × Bytes)} (hg:BufG blocks s) {p:Put} (hp:p∈bufPuts s):0≤p.lba∧p.lba < blocks∧p.data.length=40:=by
 obtain ⟨k,hk,rfl⟩:=List.mem_map.1 hp
 have hk':k∈s.map (·.1):=(List.mergeSort_perm _ _).subset hk
 obtain ⟨y,hy,rfl⟩:=List.mem_map.1 hk'
 have h1:=hg.ks y hy
 have h2:alook s y.1=some y.2:=alook_mem hg.nd hy
 exact ⟨h1.1,h1.2.1,by show ((alook s y.1).getD []).length=40;rw [h2];exact h1.2.2⟩
theorem sn_rise {l:List Put} (h:l.Pairwise fun p q=>p.lba < q.lba) (h0:0 < l.length):riseB l=true:=by
 unfold riseB
 rw [Bool.and_eq_true,decide_eq_true_eq,List.all_eq_true]
 refine ⟨h0,fun i hi=>?_⟩
 have hi:=List.mem_range.1 hi
 rw [decide_eq_true_eq]
 have e1:=lbaAt_get (show i < l.length by omega)
 have e2:=lbaAt_get (show i+1 < l.length by omega)
 unfold lbaAt at e1 e2
 rw [← e1,← e2]
 rw [List.pairwise_iff_getElem] at h
 exact h i (i+1) (by omega) (by omega) (by omega)
theorem sn_apply {blocks last:Int} {t:Tx} (h1:last < t.time) (h2:t.time≤1099511627776) (h3:t.puts.Pairwise fun p q=>p.lba < q.lba) (h4:∀ p∈t.puts,0≤p.lba∧p.lba < blocks∧p.data.length=40) (h5:0 < t.puts.length):applyCode blocks last t=0:=by
 unfold applyCode
 have hb:∀ i,i < t.puts.length→blk blocks (lbaAt t.puts i)=true:=fun i hi=>by
  rw [← lbaAt_get hi]
  have:=h4 _ (List.getElem_mem hi)
  unfold blk
  rw [decide_eq_true this.1,decide_eq_true this.2.1];rfl
 rw [if_neg (by omega),if_neg (by rw [sn_rise h3 h5];decide),if_neg (by rw [hb 0 h5,hb _ (by omega)];simp),if_neg]
 rw [Bool.not_eq_true,List.any_eq_false]
 intro p hp
 simp [(h4 p hp).2.2]
theorem sn_wait {N:Nat} {s:MgS} (g:MgG N s) {h:Int} (hq:h∈s.queue):(waitTx s h).puts.Pairwise (fun p q=>p.lba < q.lba)∧(∀ p∈(waitTx s h).puts,0≤p.lba∧p.lba < s.blocks∧p.data.length=40)∧0 < (waitTx s h).puts.length:=by
 obtain ⟨q1,q2⟩:=g.qr h hq
 have htg:=g.tx _ (txAt_mem q1 q2)
 refine ⟨sn_asc htg.bg.nd,fun p hp=>sn_put htg.bg hp,?_⟩
 show 0 < (bufPuts (txAt s.txs h).buf).length
 rw [bufPuts_len]
 exact (g.qp h hq).2
theorem lowOf_leB (l:List Int):∀ now,lowOf now l≤now∧(∀ x∈l,lowOf now l≤x)∧(lowOf now l=now∨lowOf now l∈l):=by
 induction l with
 | nil=>exact fun now=>⟨Int.le_refl _,by simp,.inl rfl⟩
 | cons a t ih =>
  intro now
  obtain ⟨h1,h2,h3⟩:=ih (min now a)
  show lowOf (min now a) t≤now∧(∀ x∈a :: t,lowOf (min now a) t≤x)∧(lowOf (min now a) t=now∨lowOf (min now a) t∈a :: t)
  refine ⟨by omega,fun x hx=>?_,?_⟩
  ·rcases List.mem_cons.1 hx with rfl | hx
   ·omega
   ·exact h2 x hx
  ·rcases h3 with h3 | h3
   ·by_cases hna:now≤a
    ·left;omega
    ·right;exact List.mem_cons.2 (.inl (by omega))
   ·exact .inr (List.mem_cons_of_mem _ h3)
theorem pn_atN_mono (l:List Put) {h t:Int} (ht:h≤t):atN l h≤atN l t:=by
 by_cases h0:0 < atN l h
 ·obtain ⟨h1,h2⟩:=atN_at l h h0
  by_cases hc:atN l h≤atN l t
  ·exact hc
  ·have:=atN_above l t (atN l h - 1) h1 (by omega);omega
 ·omega
theorem pn_atN_prune (l:List Put) {h t:Int} (ht:h≤t):atN (pruneOne h l) t=atN l t - (atN l h - 1):=by
 unfold pruneOne
 have hm:=pn_atN_mono l ht
 have hle:=atN_le l t
 refine atN_is (by rw [List.length_drop];omega) (fun j hj hj'=>?_) ?_
 ·rw [List.getElem_drop]
  exact atN_above l t _ (by rw [List.length_drop] at hj;omega) (by omega)
 ·by_cases h0:atN l t=0
  ·exact .inl (by omega)
  ·obtain ⟨h1,h2⟩:=atN_at l t (by omega)
   refine .inr ⟨by rw [List.length_drop];omega,?_⟩
   rw [List.getElem_drop]
   have:atN l h - 1+(atN l t - (atN l h - 1) - 1)=atN l t - 1:=by omega
   simp only [this]
   exact h2
theorem pn_getV_prune (vs:Vers) (k:Int) {h t:Int} (ht:h≤t):getV (pruneVs h vs) k t=getV vs k t:=by
 have hg:(alook (pruneVs h vs) k).getD []=pruneOne h ((alook vs k).getD []):=by
  rw [alook_pruneM]
  cases alook vs k with
  | none=>simp [pruneOne]
  | some l=>rfl
 rw [getV_of hg,getV_of (vs:=vs) rfl,pn_atN_prune _ ht]
 generalize (alook vs k).getD []=l
 have hm:=pn_atN_mono l ht
 have hle:=atN_le l t
 by_cases h0:atN l t=0
 ·simp only [h0,Nat.zero_sub,if_true]
  split <;> split <;> rfl
 ·unfold pruneOne
  rw [List.getElem?_drop,show atN l h - 1+(atN l t - (atN l h - 1) - 1)=atN l t - 1 by omega]
  rw [List.getElem?_eq_getElem (by omega)]
  simp only
  rw [if_neg (by omega),if_neg h0]
def lastO (l:List Put):Option Bytes:=(l.getLast?).map (·.data)
def lastW (rows:List (List Put)) (k:Int):Option Bytes:=((rows.flatten.filter fun p=>p.lba == k).getLast?).map (·.data)
def isDone (t:TxS):Prop:=t.st=3∧0 < t.buf.length
structure RpJ (s:MgS) (O:List Int):Prop where
 mem:∀ x:Int,x∈O↔1≤x∧x≤s.txs.length∧isDone (txAt s.txs x)
 tms:(O.map fun x=>(txAt s.txs x).tm).Pairwise (· < ·)
 le:∀ x∈O,(txAt s.txs x).tm≤s.last
 vs:∀ k,lastO ((alook s.vs k).getD [])=lastW (O.map fun x=>bufPuts (txAt s.txs x).buf) k
theorem RpJ.frame {s s':MgS} {O:List Int} (h:RpJ s O) (hv:∀ k,lastO ((alook s'.vs k).getD [])=lastO ((alook s.vs k).getD [])) (hl:s.last≤s'.last) (hn:s.txs.length≤s'.txs.length) (hO:∀ x∈O,txAt s'.txs x=txAt s.txs x) (hN:∀ x:Int,1≤x→x≤s'.txs.length→x ∉ O→¬ isDone (txAt s'.txs x)):RpJ s' O:=by
 have e1:(O.map fun x=>(txAt s'.txs x).tm)=O.map fun x=>(txAt s.txs x).tm:=List.map_congr_left fun x hx=>by rw [hO x hx]
 have e2:(O.map fun x=>bufPuts (txAt s'.txs x).buf)=O.map fun x=>bufPuts (txAt s.txs x).buf:=List.map_congr_left fun x hx=>by rw [hO x hx]
 refine ⟨fun x=>⟨fun hx=>?_,fun ⟨h1,h2,h3⟩=>?_⟩,by rw [e1];exact h.tms,fun x hx=>?_,fun k=>by rw [hv,e2];exact h.vs k⟩
 ·obtain ⟨a1,a2,a3⟩:=(h.mem x).1 hx
  exact ⟨a1,by omega,by rw [hO x hx];exact a3⟩
 ·by_cases hx:x∈O
  ·exact hx
  ·exact absurd h3 (hN x h1 h2 hx)
 ·rw [hO x hx]
  have:=h.le x hx
  omega
theorem beg_okR {n:Nat} {s:MgS} (g:MgG n s) (h:s.tmb.length < 16):begC s=0∧begH s=s.txs.length+1∧begNext s={ s with lastH:=s.lastH+1,tmb:=s.tmb++[(s.lastH+1,s.last)],txs:=s.txs++[⟨1,0,0,s.last,[],[],[]⟩] }:=by
 have hl:=g.lt
 have hc:begC s=0:=by
  unfold begC OpenOk
  rw [if_neg (by omega),if_neg (by omega)]
 refine ⟨hc,?_,if_pos hc⟩
 unfold begH
 rw [if_pos hc,g.hh]
theorem beg_fullR {n:Nat} {s:MgS} (g:MgG n s) (h:16≤s.tmb.length):begC s=6∧begH s=0∧begNext s=s:=by
 have hl:=g.lt
 have hc:begC s=6:=by
  unfold begC OpenOk
  rw [if_neg (by omega),if_pos (by omega)]
 refine ⟨hc,?_,?_⟩
 ·unfold begH;rw [if_neg (by omega)]
 ·unfold begNext;rw [if_neg (by omega)]
theorem RpJ.turn {s:MgS} {O:List Int} (h:RpJ s O) {n:Int} (h1:1≤n) (h2:n≤s.txs.length) (hd:¬ isDone (txAt s.txs n)) (t:TxS) (ht:¬ isDone t) {s':MgS} (e1:s'.txs=s.txs.set (n - 1).toNat t) (e2:s'.vs=s.vs) (e3:s'.last=s.last):RpJ s' O:=by
 have key:∀ x:Int,1≤x→txAt s'.txs x=if x=n then t else txAt s.txs x:=fun x hx=>by rw [e1];exact txAt_set t h1 h2 hx
 refine h.frame (fun k=>by rw [e2]) (by rw [e3];exact Int.le_refl _) (by rw [e1,List.length_set];exact Nat.le_refl _) (fun x hx=>?_) (fun x hx1 hx2 hx=>?_)
 ·obtain ⟨a1,a2,a3⟩:=(h.mem x).1 hx
  rw [key x a1,if_neg]
  intro e
  subst e
  exact hd a3
 ·rw [key x hx1]
  split
  ·exact ht
  ·rw [e1,List.length_set] at hx2
   exact fun hh=>hx ((h.mem x).2 ⟨hx1,hx2,hh⟩)
theorem RpJ.start (blocks last:Int):RpJ (mgNew blocks last) []:=⟨fun x=>by simp [mgNew];intro a b;omega,List.Pairwise.nil,fun x hx=>by simp at hx,fun k=>rfl⟩
theorem open_notDone {s:MgS} {n:Int} (ho:openB s n=true):1≤n∧n≤s.txs.length∧¬ isDone (txAt s.txs n):=by
 obtain ⟨o1,o2,o3⟩:=openB_iff.1 ho
 exact ⟨o1,o2,fun h=>by have:=h.1;omega⟩
theorem RpJ.ends {s:MgS} {O:List Int} (h:RpJ s O) {n:Int} (h1:1≤n) (h2:n≤s.txs.length) (hd:¬ isDone (txAt s.txs n)) {st cd:Int} (hst:st≠3∨(txAt s.txs n).buf.length=0):RpJ (endNext s n st cd) O:=by
 refine h.turn h1 h2 hd (endTx (txOf s n) st cd) ?_ rfl rfl rfl
 rintro ⟨a,b⟩
 rcases hst with e | e
 ·exact e a
 ·have:0 < (txAt s.txs n).buf.length:=b
  omega
theorem RpJ.same {s s':MgS} {O:List Int} (h:RpJ s O) (e1:s'.txs=s.txs) (e2:s'.vs=s.vs) (e3:s'.last=s.last):RpJ s' O:=by
 refine ⟨fun x=>by rw [e1];exact h.mem x,by rw [e1];exact h.tms,by rw [e1,e3];exact h.le,by rw [e1,e2];exact h.vs⟩
theorem RpJ.begins {s:MgS} {O:List Int} (h:RpJ s O) {N:Nat} (g:MgG N s):RpJ (begNext s) O:=by
 by_cases hc:s.tmb.length < 16
 ·obtain ⟨_,_,e⟩:=beg_okR g hc
  rw [e]
  have key:∀ x:Int,1≤x→txAt (s.txs++[(⟨1,0,0,s.last,[],[],[]⟩:TxS)]) x=if x≤s.txs.length then txAt s.txs x else if x=s.txs.length+1 then ⟨1,0,0,s.last,[],[],[]⟩ else default:=fun x hx=>by
   unfold txAt
   by_cases hl:x≤s.txs.length
   ·rw [if_pos hl,List.getElem?_append_left (by omega)]
   ·rw [if_neg hl,List.getElem?_append_right (by omega)]
    by_cases he:x=s.txs.length+1
    ·rw [if_pos he,show (x - 1).toNat - s.txs.length=0 by omega];rfl
    ·rw [if_neg he,List.getElem?_eq_none (by simp;omega)];rfl
  refine h.frame (fun k=>rfl) (Int.le_refl _) (by simp) (fun x hx=>?_) (fun x hx1 hx2 hx=>?_)
  ·obtain ⟨a1,a2,a3⟩:=(h.mem x).1 hx
   exact (key x a1).trans (if_pos a2)
  ·rw [show txAt ({ s with lastH:=s.lastH+1,tmb:=s.tmb++[(s.lastH+1,s.last)],txs:=s.txs++[⟨1,0,0,s.last,[],[],[]⟩] }:MgS).txs x=_ from key x hx1]
   split
   ·rename_i hl
    exact fun hh=>hx ((h.mem x).2 ⟨hx1,hl,hh⟩)
   ·split
    ·exact fun hh=>by have:=hh.1;simp at this
    ·exact fun hh=>by have:=hh.2;simp [show (default:TxS).buf=[] from rfl] at this
 ·obtain ⟨_,_,e⟩:=beg_fullR g (by omega)
  rw [e];exact h
theorem RpJ.writes {s:MgS} {O:List Int} (h:RpJ s O) (n:Int) (l:List Put):RpJ (wrNext s n l) O:=by
 unfold wrNext
 by_cases ho:openB s n=true
 ·rw [if_pos ho]
  obtain ⟨h1,h2,h3⟩:=open_notDone ho
  refine h.turn h1 h2 h3 _ ?_ rfl rfl rfl
  rintro ⟨a,_⟩
  have:=(openB_iff.1 ho).2.2
  have e:(txAt s.txs n).st=3:=a
  omega
 ·rw [if_neg ho];exact h
theorem RpJ.reads {s:MgS} {O:List Int} (h:RpJ s O) (n:Int) (e:Ext):RpJ (rdNext s n e) O:=by
 unfold rdNext
 by_cases hc:rdCode s n e=0
 ·rw [if_pos hc]
  have ho:openB s n=true:=by
   unfold rdCode at hc
   split at hc
   ·assumption
   ·omega
  obtain ⟨h1,h2,h3⟩:=open_notDone ho
  refine h.turn h1 h2 h3 _ ?_ rfl rfl rfl
  rintro ⟨a,_⟩
  have:=(openB_iff.1 ho).2.2
  have e:(txAt s.txs n).st=3:=a
  omega
 ·rw [if_neg hc];exact h
theorem RpJ.aborts {s:MgS} {O:List Int} (h:RpJ s O) (n:Int):RpJ (abNext s n) O:=by
 unfold abNext
 by_cases ho:openB s n=true
 ·rw [if_pos ho]
  obtain ⟨h1,h2,h3⟩:=open_notDone ho
  exact h.ends h1 h2 h3 (.inl (by omega))
 ·rw [if_neg ho];exact h
theorem RpJ.prunes {s:MgS} {O:List Int} (h:RpJ s O):RpJ (prNext s) O:=by
 refine h.frame (fun k=>?_) (Int.le_refl _) (Nat.le_refl _) (fun _ _=>rfl) (fun x h1 h2 hx hh=>hx ((h.mem x).2 ⟨h1,h2,hh⟩))
 show lastO ((alook (pruneVs (prH s) s.vs) k).getD [])=_
 rw [alook_pruneM]
 cases alook s.vs k with
 | none=>rfl
 | some l =>
  show lastO (pruneOne _ l)=lastO l
  unfold lastO pruneOne
  have hle:=atN_le l (prH s)
  by_cases hl:l=[]
  ·subst hl;simp
  ·have hp:0 < l.length:=List.length_pos_iff.2 hl
   rw [List.getLast?_drop,if_neg (by omega)]
theorem RpJ.commits {s:MgS} {O:List Int} (h:RpJ s O) (n:Int):RpJ (cmNext s n) O:=by
 unfold cmNext
 by_cases ho:openB s n=true
 ·rw [if_pos ho]
  obtain ⟨h1,h2,h3⟩:=open_notDone ho
  by_cases hb:(txOf s n).buf.length=0
  ·rw [if_pos hb]
   have ht:RpJ (setTx s n { txOf s n with tm:=(txOf s n).at' }) O:=by
    refine h.turn h1 h2 h3 _ ?_ rfl rfl rfl
    rintro ⟨_,b⟩
    have b':0 < (txOf s n).buf.length:=b
    omega
   have hl:(setTx s n { txOf s n with tm:=(txOf s n).at' }).txs.length=s.txs.length:=setTx_len ..
   have ha:txAt (setTx s n { txOf s n with tm:=(txOf s n).at' }).txs n={ txOf s n with tm:=(txOf s n).at' }:=by
    rw [show (setTx s n { txOf s n with tm:=(txOf s n).at' }).txs=s.txs.set (n - 1).toNat { txOf s n with tm:=(txOf s n).at' } from rfl,txAt_set _ h1 h2 h1,if_pos rfl]
   refine ht.ends h1 (by rw [hl];exact h2) ?_ (.inr ?_)
   ·rw [ha]
    rintro ⟨_,b⟩
    have b':0 < (txOf s n).buf.length:=b
    omega
   ·rw [ha];exact hb
  ·rw [if_neg hb]
   by_cases hm:mayC s (txOf s n)≠0
   ·rw [if_pos hm]
    exact h.ends h1 h2 h3 (.inl (by omega))
   ·rw [if_neg hm]
    refine h.turn h1 h2 h3 { txOf s n with st:=2,tm:=s.given+1 } ?_ rfl rfl rfl
    rintro ⟨a,_⟩
    have a':(2:Int)=3:=a
    omega
 ·rw [if_neg ho];exact h
theorem look_next {blocks last:Int} {vs:Vers} {t:Tx} (hc:applyCode blocks last t=0) (k:Int):(alook (applyNext blocks last vs t) k).getD []=(alook vs k).getD []++putG t.time t.puts k:=by
 unfold applyNext
 rw [if_pos hc]
 have hr:=riseB_pairwise (code_zero hc).2.2.1
 have hn:=pairwise_nodup hr
 by_cases hk:∃ p∈t.puts,p.lba=k
 ·obtain ⟨p,hp,rfl⟩:=hk
  rw [applyVs_mine _ _ _ p hn hp,putG_one hn hp];rfl
 ·have hno:∀ p∈t.puts,p.lba≠k:=fun p hp e=>hk ⟨p,hp,e⟩
  rw [applyVs_other _ _ _ k hno,putG_none hno,List.append_nil]
theorem last_snoc {l:List Put} {R:List (List Put)} {ps:List Put} {t k:Int} (h:lastO l=lastW R k):lastO (l++putG t ps k)=lastW (R++[ps]) k:=by
 unfold lastO lastW at *
 rw [List.getLast?_append,List.flatten_append,List.filter_append,List.getLast?_append]
 have e:[ps].flatten=ps:=by simp
 rw [e]
 unfold putG
 rw [List.getLast?_map]
 cases hq:(ps.filter fun p=>p.lba == k).getLast? with
 | none=>simpa using h
 | some q=>simp
theorem wait_code {N:Nat} {s:MgS} (g:MgG N s) {n:Int} (hn:n∈s.queue):applyCode s.blocks s.last0 (waitTx s n)=0:=by
 obtain ⟨b1,b2⟩:=g.qb n hn
 obtain ⟨w1,w2,w3⟩:=sn_wait g hn
 have hl0:=g.l0
 have hlt:=g.lt
 have htm:(waitTx s n).time=(txAt s.txs n).tm:=rfl
 exact sn_apply (by rw [htm];omega) (by rw [htm];omega) w1 w2 w3
theorem RpJ.stepTo {N:Nat} {s:MgS} {O:List Int} (h:RpJ s O) (g:MgG N s) (code:Int) {n:Int} (hn:n∈s.queue):RpJ (doStep code s n) (if code=0 then O++[n] else O):=by
 obtain ⟨o1,o2⟩:=g.qr n hn
 obtain ⟨q1,q2⟩:=g.qp n hn
 obtain ⟨b1,b2⟩:=g.qb n hn
 have hnd:¬ isDone (txAt s.txs n):=fun hh=>by have:=hh.1;omega
 have hc:=wait_code g hn
 unfold doStep
 by_cases h0:code=0
 ·rw [if_pos h0,if_pos h0]
  have key:∀ x:Int,1≤x→txAt (s.txs.set (n - 1).toNat (endTx (txAt s.txs n) 3 0)) x=if x=n then endTx (txAt s.txs n) 3 0 else txAt s.txs x:=fun x hx=>txAt_set _ o1 o2 hx
  have hO:∀ x∈O,txAt (s.txs.set (n - 1).toNat (endTx (txAt s.txs n) 3 0)) x=txAt s.txs x:=fun x hx=>by
   obtain ⟨a1,a2,a3⟩:=(h.mem x).1 hx
   rw [key x a1,if_neg]
   intro e
   subst e
   exact hnd a3
  have hnn:txAt (s.txs.set (n - 1).toNat (endTx (txAt s.txs n) 3 0)) n=endTx (txAt s.txs n) 3 0:=by rw [key n o1,if_pos rfl]
  refine ⟨fun x=>?_,?_,fun x hx=>?_,fun k=>?_⟩
  ·show x∈O++[n]↔1≤x∧x≤(s.txs.set (n - 1).toNat (endTx (txAt s.txs n) 3 0)).length∧isDone (txAt (s.txs.set (n - 1).toNat (endTx (txAt s.txs n) 3 0)) x)
   rw [List.length_set]
   constructor
   ·intro hx
    rcases List.mem_append.1 hx with hx | hx
    ·obtain ⟨a1,a2,a3⟩:=(h.mem x).1 hx
     exact ⟨a1,a2,by rw [hO x hx];exact a3⟩
    ·rw [List.mem_singleton] at hx
     subst hx
     exact ⟨o1,o2,by rw [hnn];exact ⟨rfl,q2⟩⟩
   ·rintro ⟨a1,a2,a3⟩
    by_cases e:x=n
    ·subst e;simp
    ·rw [key x a1,if_neg e] at a3
     exact List.mem_append_left _ ((h.mem x).2 ⟨a1,a2,a3⟩)
  ·show ((O++[n]).map fun x=>(txAt (s.txs.set (n - 1).toNat (endTx (txAt s.txs n) 3 0)) x).tm).Pairwise (· < ·)
   rw [List.map_append,List.map_congr_left (g:=fun x=>(txAt s.txs x).tm) fun x hx=>by rw [hO x hx]]
   refine List.pairwise_append.2 ⟨h.tms,by simp,fun y hy z hz=>?_⟩
   obtain ⟨x,hx,rfl⟩:=List.mem_map.1 hy
   simp only [List.map_cons,List.map_nil,List.mem_singleton] at hz
   subst hz
   rw [hnn]
   have:=h.le x hx
   show (txAt s.txs x).tm < (txAt s.txs n).tm
   omega
  ·show (txAt (s.txs.set (n - 1).toNat (endTx (txAt s.txs n) 3 0)) x).tm≤(txAt s.txs n).tm
   rcases List.mem_append.1 hx with hx | hx
   ·rw [hO x hx]
    have:=h.le x hx
    omega
   ·rw [List.mem_singleton] at hx
    subst hx
    rw [hnn]
    exact Int.le_refl _
  ·show lastO ((alook (applyNext s.blocks s.last0 s.vs (waitTx s n)) k).getD [])=lastW ((O++[n]).map fun x=>bufPuts (txAt (s.txs.set (n - 1).toNat (endTx (txAt s.txs n) 3 0)) x).buf) k
   rw [look_next hc,List.map_append,List.map_congr_left (g:=fun x=>bufPuts (txAt s.txs x).buf) fun x hx=>by rw [hO x hx]]
   have e:([n].map fun x=>bufPuts (txAt (s.txs.set (n - 1).toNat (endTx (txAt s.txs n) 3 0)) x).buf)=[(waitTx s n).puts]:=by
    simp only [List.map_cons,List.map_nil,hnn]
    rfl
   rw [e]
   exact last_snoc (h.vs k)
 ·rw [if_neg h0,if_neg h0]
  exact h.ends o1 o2 hnd (.inl (by omega))
def histOf (t:TxS):Hist:=⟨t.st,t.at',t.tm,0,0,t.R,bufPuts t.buf⟩
def hsL (s:MgS) (n:Nat):List Hist:=(List.range n).map fun i:Nat=>histOf (txAt s.txs ((i:Int)+1))
theorem hsL_len (s:MgS) (n:Nat):(hsL s n).length=n:=by simp [hsL]
theorem hsL_get (s:MgS) {n i:Nat} (h':i < (hsL s n).length):(hsL s n)[i]=histOf (txAt s.txs ((i:Int)+1)):=by simp [hsL]
theorem wrote_done (t:TxS):wroteH (histOf t)=true↔isDone t:=by
 have h:=bufPuts_len t.buf
 unfold wroteH histOf isDone
 simp only [Bool.and_eq_true,decide_eq_true_eq,h]
theorem txAt_far {l:List TxS} {x:Int} (h:(l.length:Int) < x):txAt l x=default:=by
 unfold txAt
 rw [List.getElem?_eq_none (by omega)];rfl
theorem RpJ.pos {s:MgS} {O:List Int} (h:RpJ s O) {n:Nat} (hn:s.txs.length≤n) {x:Int} (hx:x∈O):1≤x∧(x - 1).toNat < n∧(((x - 1).toNat:Nat):Int)+1=x∧isDone (txAt s.txs x):=by
 obtain ⟨a1,a2,a3⟩:=(h.mem x).1 hx
 exact ⟨a1,by omega,by omega,a3⟩
theorem RpJ.time {s:MgS} {O:List Int} (h:RpJ s O) {n:Nat} (hn:s.txs.length≤n) {x:Int} (hx:x∈O):timeAt (hsL s n) (x - 1).toNat=(txAt s.txs x).tm:=by
 obtain ⟨_,a2,a3,_⟩:=h.pos hn hx
 have hl:(x - 1).toNat < (hsL s n).length:=by rw [hsL_len];exact a2
 rw [timeAt_lt hl,hsL_get s hl,a3];rfl
theorem RpJ.ordI {s:MgS} {O:List Int} (h:RpJ s O) {n:Nat} (hn:s.txs.length≤n):(O.map fun x=>(x - 1).toNat)=Go.Proofs.ordI (hsL s n):=by
 have ht:=List.pairwise_map.1 h.tms
 refine ordI_unique ?_ ?_
 ·refine (List.perm_ext_iff_of_nodup ?_ (ordIdx_nodup _)).2 fun i=>?_
  ·unfold List.Nodup
   rw [List.pairwise_map]
   refine (List.Pairwise.and_mem.1 ht).imp ?_
   rintro x y ⟨hx,hy,hlt⟩ e
   obtain ⟨a1,_,a3,_⟩:=h.pos hn hx
   obtain ⟨b1,_,b3,_⟩:=h.pos hn hy
   have:x=y:=by omega
   subst this
   omega
  ·rw [List.mem_map,mem_ordIdx]
   constructor
   ·rintro ⟨x,hx,rfl⟩
    obtain ⟨_,a2,a3,a4⟩:=h.pos hn hx
    have hl:(x - 1).toNat < (hsL s n).length:=by rw [hsL_len];exact a2
    refine ⟨hl,?_⟩
    rw [hsL_get s hl,a3]
    exact (wrote_done _).2 a4
   ·rintro ⟨hl,hw⟩
    rw [hsL_get s hl] at hw
    have hd:=(wrote_done _).1 hw
    have hi:(i:Int)+1≤s.txs.length:=by
     refine Int.not_lt.1 fun hlt=>?_
     rw [txAt_far hlt] at hd
     have:=hd.2
     simp [show (default:TxS).buf=[] from rfl] at this
    exact ⟨(i:Int)+1,(h.mem _).2 ⟨by omega,hi,hd⟩,by omega⟩
 ·rw [List.pairwise_map]
  refine (List.Pairwise.and_mem.1 ht).imp ?_
  rintro x y ⟨hx,hy,hlt⟩
  unfold ordLe
  rw [decide_eq_true_eq,h.time hn hx,h.time hn hy]
  exact .inl hlt
end Go.Proofs
