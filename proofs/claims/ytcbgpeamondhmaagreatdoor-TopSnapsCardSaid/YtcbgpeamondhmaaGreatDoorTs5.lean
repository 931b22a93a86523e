/- Texts of this claim, one behind the other: Mgr7, Ext8, Ext9, Mgr8, ZoomN, SepApp, Read15, ViewSet, Mgr9, Wbuf3, Wbuf4, Order16, Check16, Form17. -/
import Derived.BigQuiet
import Derived.Test.YtcbgpeamondhmaaGreatDoorTs4
namespace Sc
open Go Go.RowKit
theorem Sep.front {W:World} {L M:List Asn} {w:World} (h:Sep W (L++M) w):Sep W L w:=by
 have:=h.take L.length
 rwa [List.take_left' rfl] at this
theorem Sep.sub {W:World} {L L':List Asn} {w:World} (h:Sep W L w) (f:Nat→Nat) (hf:∀ i j,i < L'.length→j < L'.length→f i=f j→i=j) (hM:∀ i (A:Asn),L'[i]? = some A→L[f i]? = some A):Sep W L' w:=by
 obtain ⟨hg,Fs,h1,h2,h3⟩:=h
 refine ⟨hg,fun i k=>i < L'.length∧Fs (f i) k,fun i k hk=>h1 _ k hk.2,fun i j k hij hk hk'=>h2 _ _ k (fun e=>hij (hf i j hk.1 hk'.1 e)) hk.2 hk'.2,fun i B hB=>?_⟩
 have hi:=(List.getElem?_eq_some_iff.1 hB).1
 have e:(fun k=>i < L'.length∧Fs (f i) k)=Fs (f i):=by funext k;simp [hi]
 show B.P (fun k=>i < L'.length∧Fs (f i) k) w
 rw [e]
 exact h3 _ B (hM i B hB)
theorem Sep.rot4 {W:World} {M:List Asn} {a b c d:Asn} {w:World} (h:Sep W (M++[a,b,c,d]) w):Sep W (M++[d,a,b,c]) w:=by
 refine h.sub (fun i=>if i < M.length then i else if i=M.length then M.length+3 else i - 1) ?_ ?_
 ·intro i j hi hj
  rw [List.length_append] at hi hj
  simp only [List.length_cons,List.length_nil] at hi hj
  intro he
  split at he <;> split at he <;> (try split at he) <;> (try split at he) <;> omega
 ·intro i A hA
  by_cases hi:i < M.length
  ·rw [List.getElem?_append_left hi] at hA
   simp only [hi,if_true]
   rw [List.getElem?_append_left hi];exact hA
  ·obtain ⟨j,rfl⟩:∃ j,i=M.length+j:=⟨i - M.length,by omega⟩
   rw [List.getElem?_append_right (by omega),Nat.add_sub_cancel_left] at hA
   simp only [hi,if_false]
   match j with
   | 0=>simpa using hA
   | 1=>rw [if_neg (by omega),List.getElem?_append_right (by omega),show M.length+1 - 1 - M.length=0 by omega];exact hA
   | 2=>rw [if_neg (by omega),List.getElem?_append_right (by omega),show M.length+2 - 1 - M.length=1 by omega];exact hA
   | 3=>rw [if_neg (by omega),List.getElem?_append_right (by omega),show M.length+3 - 1 - M.length=2 by omega];exact hA
   | j+4=>cases hA
end Sc
namespace Go.Proofs
open Go.RowKit Sc
def begC (s:MgS):Int:=OpenOk 16 s.tmb s.last
def begH (s:MgS):Int:=if begC s=0 then s.lastH+1 else 0
def begNext (s:MgS):MgS:=if begC s=0 then { s with lastH:=s.lastH+1,tmb:=s.tmb++[(s.lastH+1,s.last)],txs:=s.txs++[⟨1,0,0,s.last,[],[],[]⟩] } else s
theorem ml_add (cs:List TxC) (x:TxC):mlOf (cs++[x])=aset (mlOf cs) ((cs.length:Int)+1) (pt x.tb):=by
 rw [aset_new (by
  intro y hy e
  obtain ⟨q,hq,rfl⟩:=List.mem_map.1 hy
  have:=List.mem_range.1 hq
  simp only at e
  omega)]
 unfold mlOf
 rw [List.length_append,List.length_singleton,List.range_succ,List.map_append]
 congr 1
 ·apply List.map_congr_left
  intro q hq
  have:=List.mem_range.1 hq
  rw [List.getElem?_append_left this]
 ·simp
section
variable {W w:World} {L:List Asn} {i:Nat} {c:MgC} {s:MgS}
theorem items_add (hc:c.cs.length=s.txs.length) (x:TxC) (t:TxS):(mgrItems c s++txItems c.m s.blocks x t).set 3 (MapA c.r (aset (mlOf c.cs) ((c.cs.length:Int)+1) (pt x.tb)))=mgrItems { c with cs:=c.cs++[x] } { s with txs:=s.txs++[t] }:=by
 have e:txList { c with cs:=c.cs++[x] } { s with txs:=s.txs++[t] }=txList c s++[txItems c.m s.blocks x t]:=by
  unfold txList
  rw [List.zipWith_append hc];rfl
 unfold mgrItems
 rw [e,List.flatten_append,← ml_add]
 simp [mgrHead,mgrRow]
set_option maxRecDepth 100000 in
set_option maxHeartbeats 2000000 in
theorem begin_core (h:Hid (Sep W (OL L i (mgrItems c s)) w)) (hc:c.cs.length=s.txs.length) (hk:Keyed s.lastH s.tmb) (h1:1≤s.blocks) (h2:s.blocks≤1048576) (hH:s.lastH=s.txs.length) :
  Calls Tryz.prog 155 #[.pointer (some ⟨c.mb,0,none⟩)] w fun e w'=>e=.returned (.tuple #[.int .i64 (begH s),.int .i64 (begC s)])∧∃ c':MgC,c'.mb=c.mb∧c'.cs.length=(begNext s).txs.length∧Hid (Sep W (OL L i (mgrItems c' (begNext s))) w'):=by
 have hd:=h.out.up (below_drewN (Below.refl w.heap.size w) 1)
 have HB:=Lib.hid (bookOpen_sep hd (L.length+2) (v:=pt c.bk) (most:=16) (last:=s.lastH) (tm:=s.tmb) (OL_get.trans (items_head 2 (by omega))) hk s.last)
 obtain ⟨c0,c1,_⟩:=mgr_cells h.out
 obtain ⟨d0,d1,_,_,_,_,_,d7,_⟩:=mgr_cells hd
 clear hd
 have HH:=Lib.hid hH
 clear hH
 go_enter Tryz.func155,Tryz.ntmps155
 go_wp2_with fail
 refine (gone_any c.mb c.m _ c0).mono ?_
 rintro e w1 ⟨rfl,rfl⟩
 clear c0 c1
 go_upto_region 3 with fail
 refine wp_regionG (fun W=>W.cell? ⟨c.mb,1,none⟩=some (.pointer (some ⟨c.bk,0,none⟩))∧W.cell? ⟨c.mb,7,none⟩=some (.int .i64 s.last)) (n:=14) (by kernel_rfl) (by kernel_rfl) ?_
 refine wpG.tk 0 ?_
 refine wpG.tk 1 ?_
 refine wpG.tk 2 ?_
 refine wpG.tk 3 ?_ (hy:=by intro W hW;have hld0:=hW.1;go_simp;try with_reducible rfl)
 refine wpG.tk 4 ?_
 refine wpG.tk 5 ?_
 refine wpG.tk 6 ?_
 refine wpG.tk 7 ?_ (hy:=by intro W hW;have hld0:=hW.2;go_simp;try with_reducible rfl)
 refine wpG.alone 8 rfl (by kernel_rfl) (by kernel_rfl) (⟨d1,d7⟩) (fun K hK=>?_)
 go_simp
 go_at_call 214
 refine (HB.out).mono ?_
 rintro e w2 ⟨rfl,hs2⟩
 rw [OL_set,items_book] at hs2
 have HS2:=Lib.hid hs2
 clear hs2
 obtain ⟨_,g1,_,_,_,_,_,g7,_⟩:=mgr_cells HS2.out
 try go_simp
 refine hK _ _ ?_
 clear hK K
 refine wpG.tk 9 ?_
 refine wpG.tk 10 ?_
 refine wpG.tk 11 ?_
 refine wpG.tk 12 ?_
 refine wpG.tk 13 ?_
 refine wpG.done (by kernel_rfl) ⟨g1,g7⟩ ?_
 have HC:Hid (begC s=OpenOk 16 s.tmb s.last):=Lib.hid rfl
 by_cases hO:OpenOk 16 s.tmb s.last=0
 case neg =>
  have hs3:=HS2.out
  simp only [openLast,openTm,hO,if_false] at hs3 ⊢
  have HS3:=Lib.hid hs3
  have HN:Hid (begH s=0∧begNext s=s):=Lib.hid ⟨if_neg hO,if_neg hO⟩
  clear hs3 HS2
  generalize hcode:OpenOk 16 s.tmb s.last=code at *
  clear hcode
  go_wp2_with fail
  go_ret2
  exact ⟨by rw [HN.out.1,HC.out];rfl,c,rfl,by rw [HN.out.2];exact hc,by rw [HN.out.2];exact HS3⟩
 case pos =>
  have hs3:=HS2.out
  simp only [openLast,openTm,hO,if_true] at hs3 ⊢
  have HN:Hid (begC s=0∧begH s=s.lastH+1∧begNext s={ s with lastH:=s.lastH+1,tmb:=s.tmb++[(s.lastH+1,s.last)],txs:=s.txs++[⟨1,0,0,s.last,[],[],[]⟩] }):=Lib.hid ⟨hO,if_pos hO,if_pos hO⟩
  obtain ⟨F,hF,_⟩:=hs3.get (L.length+1) (OL_get.trans (items_head 1 (by omega)))
  have HBL:=Lib.hid (extBlocks_any F _ _ _ _ w2 hF)
  have HNB:=Lib.hid (bufNew_sep hs3 s.blocks 16 h1 h2 (by omega))
  obtain ⟨g0,g1,g2,_,_,_,_,g7,_⟩:=mgr_cells HS2.out
  clear hs3 HS2 hF HB
  go_wp2_with fail
  refine (HBL.out).mono ?_
  rintro e w3 ⟨rfl,rfl⟩
  go_wp2_with fail
  refine (HNB.out).mono ?_
  rintro e w4 ⟨bb,rfl,hs4⟩
  have hs5:=hs4.out.up (below_drewN (Below.refl w4.heap.size w4) 1)
  obtain ⟨k0,_,k2,_,_,_,_,k7,_⟩:=mgr_cells hs5.front
  have HVN:=Lib.hid (viewNew_sep hs5 c.m bb s.last)
  clear hs4 hs5 d0 d1 d7 g0 g1 g2 g7
  go_upto_region 7 with fail
  refine wp_regionG (fun W=>W.cell? ⟨c.mb,0,none⟩=some (.pointer (some ⟨c.m,0,none⟩))∧W.cell? ⟨c.mb,2,none⟩=some (.map (some c.r))∧W.cell? ⟨c.mb,7,none⟩=some (.int .i64 s.last)) (n:=23) (by kernel_rfl) (by kernel_rfl) ?_
  refine wpG.tk 0 ?_
  refine wpG.tk 1 ?_
  refine wpG.tk 2 ?_
  refine wpG.tk 3 ?_ (hy:=by intro W hW;have hld0:=hW.2.1;go_simp;try with_reducible rfl)
  refine wpG.tk 4 ?_
  refine wpG.tk 5 ?_
  refine wpG.tk 6 ?_
  refine wpG.tk 7 ?_
  refine wpG.tk 8 ?_ (hy:=by intro W hW;have hld0:=hW.2.2;go_simp;try with_reducible rfl)
  refine wpG.tk 9 ?_
  refine wpG.tk 10 ?_
  refine wpG.tk 11 ?_
  refine wpG.tk 12 ?_
  refine wpG.tk 13 ?_ (hy:=by intro W hW;have hld0:=hW.1;go_simp;try with_reducible rfl)
  refine wpG.tk 14 ?_
  refine wpG.tk 15 ?_
  refine wpG.tk 16 ?_
  refine wpG.tk 17 ?_
  refine wpG.tk 18 ?_ (hy:=by intro W hW;have hld0:=hW.2.2;go_simp;try with_reducible rfl)
  refine wpG.alone 19 rfl (by kernel_rfl) (by kernel_rfl) (⟨k0,k2,k7⟩) (fun K hK=>?_)
  go_simp
  go_at_call 217
  refine (HVN.out).mono ?_
  rintro e w5 ⟨sb,vb,rfl,hb5,hs5⟩
  try go_simp
  refine hK _ _ ?_
  clear hK K
  refine wpG.tk 20 ?_
  have m0:=cell_up hb5.out k0
  have m2:=cell_up hb5.out k2
  have m7:=cell_up hb5.out k7
  refine wpG.alone 21 rfl (by kernel_rfl) (by kernel_rfl) ⟨m0,m2,m7⟩ (fun K hK=>?_)
  go_simp
  have hs6:=hs5.out.new (below_alloc w5 (.cells #[.int .i64 1,.int .i64 0,.int .i64 0,.int .i64 s.last,pt bb,pt vb] 180)) (BoxA w5.heap.size #[.int .i64 1,.int .i64 0,.int .i64 0,.int .i64 s.last,pt bb,pt vb] 180) (F:=New w5 (w5.alloc (.cells #[.int .i64 1,.int .i64 0,.int .i64 0,.int .i64 s.last,pt bb,pt vb] 180))) (fun _ h=>h) ⟨⟨Nat.le_refl _,by simp⟩,heap_alloc_new w5 _⟩
  rw [List.append_assoc,List.append_assoc] at hs6
  have hs7:=hs6.rot4
  rw [OL_app] at hs7
  have e3:(OL L i (mgrItems c { s with lastH:=s.lastH+1,tmb:=s.tmb++[(s.lastH+1,s.last)] } ++ txItems c.m s.blocks ⟨w5.heap.size,bb,sb,vb⟩ ⟨1,0,0,s.last,[],[],[]⟩))[L.length+3]? = some (MapA c.r (mlOf c.cs)):=OL_get.trans rfl
  obtain ⟨F,G,hF,_,_,_,_,KK⟩:=Sep.at hs7 (L.length+3) e3
  obtain ⟨w7,hu,hm7,hT⟩:=hF.2.update (P:=Tryz.prog) Tryz.underlying174 Tryz.underlying3 (s.lastH+1) (pt w5.heap.size)
  have hs8:=KK w7 F (MapA c.r (aset (mlOf c.cs) (s.lastH+1) (pt w5.heap.size))) (hT.chg (S:=F) hF.1) (fun k hk=>.inl hk) ⟨hF.1,hm7⟩
  have n0:w7.cell? ⟨c.mb,0,none⟩=some (.pointer (some ⟨c.m,0,none⟩)):=(hT.cell _).trans (cell_up (below_alloc w5 _) m0)
  have n2:w7.cell? ⟨c.mb,2,none⟩=some (.map (some c.r)):=(hT.cell _).trans (cell_up (below_alloc w5 _) m2)
  have n7:w7.cell? ⟨c.mb,7,none⟩=some (.int .i64 s.last):=(hT.cell _).trans (cell_up (below_alloc w5 _) m7)
  have HS8:=Lib.hid hs8
  clear hs6 hs7 hs8 KK hF hT hm7 e3
  try go_simp
  refine hK _ _ ?_
  clear hK K
  refine wpG.alone 22 rfl (by kernel_rfl) (by kernel_rfl) ⟨cell_up (below_alloc w5 _) m0,cell_up (below_alloc w5 _) m2,cell_up (below_alloc w5 _) m7⟩ (fun K hK=>?_)
  go_simp
  try go_simp
  refine hK _ _ ?_
  clear hK K
  refine wpG.done (by kernel_rfl) ⟨n0,n2,n7⟩ ?_
  go_wp2
  go_ret2
  refine ⟨by rw [HN.out.1,HN.out.2.1];rfl,{ c with cs:=c.cs++[⟨w5.heap.size,bb,sb,vb⟩] },rfl,by rw [HN.out.2.2];simp [hc],?_⟩
  rw [HN.out.2.2]
  have hs9:Sep W (OL L i ((mgrItems c { s with lastH:=s.lastH+1,tmb:=s.tmb++[(s.lastH+1,s.last)] } ++ txItems c.m s.blocks ⟨w5.heap.size,bb,sb,vb⟩ ⟨1,0,0,s.last,[],[],[]⟩).set 3 (MapA c.r (aset (mlOf c.cs) (s.lastH+1) (pt w5.heap.size))))) w7:=by
   have hs:=HS8.out
   rw [OL_set] at hs
   exact hs
  have hl:s.lastH=(c.cs.length:Int):=by rw [HH.out,hc]
  have e9:=items_add (c:=c) (s:={ s with lastH:=s.lastH+1,tmb:=s.tmb++[(s.lastH+1,s.last)] }) hc ⟨w5.heap.size,bb,sb,vb⟩ ⟨1,0,0,s.last,[],[],[]⟩
  rw [← hl] at e9
  exact Lib.hid (e9 ▸ hs9)
end
end Go.Proofs
namespace Go.Proofs
open Go.RowKit Sc
def lastT (l:List Put):Int:=((l.getLast?).map (·.lba)).getD 0
def hitB (a n t:Int) (x:Int × List Put):Bool:=decide (a≤x.1) && decide (x.1 - a < n) && decide (t < lastT x.2)
def writtenB (vs:Vers) (a n t:Int):Bool:=vs.any (hitB a n t)
theorem lastT_get {l:List Put} {j:Nat} (h:l.length=j+1):lastT l=(l[j]'(by omega)).lba:=by
 unfold lastT
 rw [List.getLast?_eq_getElem?,List.getElem?_eq_getElem (by omega)]
 simp [h]
set_option maxRecDepth 100000 in
set_option maxHeartbeats 2000000 in
theorem extWritten_any (F:Nat→Prop) (v:Value) (blocks last:Int) (vs:Vers) (a n t:Int) (w:World) (h:ExtIs F w v blocks last vs) (h1:1≤blocks) (hne:∀ x∈vs,x.2≠[]) (hk:∀ x∈vs,I64 x.1∧0≤x.1)
  (ha:0≤a) (ha2:a≤1048576) (hn:1≤n) (hn2:n≤1048577 - a) (hn3:n≤1048576) :
  Calls Tryz.prog 366 #[v,.agg #[.int .i64 a,.int .i64 n],.int .i64 t] w fun e w'=>e=.returned (.bool (writtenB vs a n t))∧Below w.heap.size w w':=by
 have hb0:=below_alloc w (.cells #[.int .i64 a,.int .i64 n] 186)
 have hb00:Below w.heap.size (w.alloc (.cells #[.int .i64 a,.int .i64 n] 186)) (w.alloc (.cells #[.int .i64 a,.int .i64 n] 186)):=Below.refl _ _
 have hca:(w.alloc (.cells #[.int .i64 a,.int .i64 n] 186)).cell? ⟨w.heap.size,0,none⟩=some (.int .i64 a):=by rw [cell_row (heap_alloc_new w _)];rfl
 have hcn:(w.alloc (.cells #[.int .i64 a,.int .i64 n] 186)).cell? ⟨w.heap.size,1,none⟩=some (.int .i64 n):=by rw [cell_row (heap_alloc_new w _)];rfl
 have hz0:(w.alloc (.cells #[.int .i64 a,.int .i64 n] 186)).heap.size=w.heap.size+1:=by simp
 have H:=Lib.hid (h.up hb0)
 obtain ⟨b,r,ml,rfl,hb,hc0,hc1,hc2,hm,hal⟩:=(h.up hb0).cells
 obtain ⟨o,hrg,hR⟩:=hm.range (P:=Tryz.prog) Tryz.underlying259
 have HR:=Lib.hid hR
 have HAL:=Lib.hid hal
 have HB0:=Lib.hid hb0
 have HNE:=Lib.hid hne
 have HK:=Lib.hid hk
 have HCA:=Lib.hid hca
 have HCN:=Lib.hid hcn
 have HZ0:=Lib.hid hz0
 clear hb0 hne hk hca hcn hz0
 clear h hR hm hal
 have hw1:IntKind.i64.wrap (1048577 - a)=1048577 - a:=IntWalk.i64_in _ (by omega)
 go_enter Tryz.func366,Tryz.ntmps366
 go_wp2_with fail
 refine (extGone_any F _ _ _ _ _ H.out h1).mono ?_
 rintro e w1 ⟨rfl,rfl⟩
 go_wp2_with fail
 go_loopg [6] ml.length (fun gg s1 wr=>∃ left,left.length≤gg∧s1=.bool false∧Ranges wr (w.heap.size+1) r ml left∧Hid (Below (w.heap.size+1) (w.alloc (.cells #[.int .i64 a,.int .i64 n] 186)) wr) ∧
  Hid (∀ i (h:i < ml.length) (h':i < vs.length),ml[i]∈left∨hitB a n t vs[i]=false))
 case atStart=>exact ⟨ml,Nat.le_refl _,rfl,by simpa using HR.out,by unfold Hid;simpa using below_alloc (w.alloc (.cells #[.int .i64 a,.int .i64 n] 186)) o,fun i h h'=>.inl (List.getElem_mem h)⟩
 case round =>
  obtain ⟨left,hg,rfl,hR,hbw,hall⟩:=hrel
  have hca':=(hbw.out.cell (p:=⟨w.heap.size,0,none⟩) (by simp only;omega)).trans HCA.out
  have hcn':=(hbw.out.cell (p:=⟨w.heap.size,1,none⟩) (by simp only;omega)).trans HCN.out
  rcases hR.next (P:=Tryz.prog) 0 with ⟨rfl,hn⟩ | ⟨n0,v,left',w',hp,hmem,hnx,hen,hR',hst⟩
  ·have hfin:writtenB vs a n t=false:=by
    unfold writtenB
    rw [List.any_eq_false]
    intro x hx
    obtain ⟨i,hi,rfl⟩:=List.getElem_of_mem hx
    have hi':i < ml.length:=by rw [al_len HAL.out];exact hi
    rcases hall.out i hi' hi with h | h
    ·cases h
    ·rw [h];decide
   have hbe:Below w.heap.size w wr:=HB0.out.trans (hbw.out.mono (by omega))
   have HFIN:=Lib.hid hfin
   have HBE:=Lib.hid hbe
   clear hfin hbe
   clear hR hrg
   go_wp2
   go_ret
   refine ⟨?_,HBE.out⟩
   rw [HFIN.out]
   rfl
  ·obtain ⟨i,hi,hie⟩:=List.getElem_of_mem hmem
   have hi':i < vs.length:=by rw [← al_len HAL.out];exact hi
   obtain ⟨hkey,hputs⟩:=All2.get HAL.out i hi hi'
   have hne1:=HNE.out _ (List.getElem_mem hi')
   obtain ⟨hki,hk0⟩:=HK.out _ (List.getElem_mem hi')
   rw [hie] at hkey hputs
   simp only at hkey hputs
   have hvs:∃ x,vs[i]=x∧x∈vs:=⟨_,rfl,List.getElem_mem hi'⟩
   obtain ⟨x,hx,hxm⟩:=hvs
   rw [hx] at hkey hputs hne1 hki hk0
   obtain ⟨xk,xl⟩:=x
   simp only at hkey hputs hne1 hki hk0
   subst hkey
   obtain ⟨p,c,rfl,p1,p2,p3,p4⟩:=hputs
   obtain ⟨j,hj⟩:∃ j,xl.length=j+1:=⟨xl.length - 1,by have:=List.length_pos_iff.2 hne1;omega⟩
   obtain ⟨gq,oq,rfl,hgq,hct,_⟩:=p4 j (by omega)
   have hlt:=lastT_get hj
   rw [← hlt] at hct
   have hgq':gq < w.heap.size+1:=by have:=HZ0.out;unfold Old at hgq;omega
   have hct2:w'.cell? ⟨gq,oq+j * 2,none⟩=some (.int .i64 (lastT xl)):=(hst.cell _).trans ((hbw.out.cell (p:=⟨gq,oq+j * 2,none⟩) hgq').trans hct)
   have hca2:w'.cell? ⟨w.heap.size,0,none⟩=some (.int .i64 a):=(hst.cell _).trans hca'
   have hcn2:w'.cell? ⟨w.heap.size,1,none⟩=some (.int .i64 n):=(hst.cell _).trans hcn'
   have hej:(((j+1:Nat):Int) - 1)=(j:Int):=by omega
   have hw2:IntKind.i64.wrap (((j+1:Nat):Int) - 1)=(j:Int):=by rw [hej];exact IntWalk.i64_in _ (by omega)
   have hw3:IntKind.i64.wrap (n0 - a)=n0 - a:=IntWalk.i64_in _ (by unfold I64 at hki;omega)
   have hb':Below (w.heap.size+1) (w.alloc (.cells #[.int .i64 a,.int .i64 n] 186)) w':=hbw.out.trans (hst.below (Nat.le_refl _))
   have hbe:Below w.heap.size w w':=HB0.out.trans (hb'.mono (by omega))
   have hl:=hp.length_eq
   rw [List.length_cons] at hl
   have hmiss:hitB a n t (n0,xl)=false→∀ i (h:i < ml.length) (h':i < vs.length),ml[i]∈left'∨hitB a n t vs[i]=false:=by
    intro hh q hq hq'
    rcases hall.out q hq hq' with hm | hm
    ·rcases List.mem_cons.1 (hp.mem_iff.1 hm) with he | he
     ·right
      have hnd:=(HR.out.mapIs)
      obtain ⟨_,_,_,_,hnd,_⟩:=hnd
      have:q=i:=by
       have e1:(ml.map (·.1))[q]? = (ml.map (·.1))[i]? := by
        rw [List.getElem?_map,List.getElem?_map,List.getElem?_eq_getElem hq,List.getElem?_eq_getElem hi,he,hie]
       exact (List.getElem?_inj (by simpa using hq) hnd).1 e1
      subst this
      rw [hx];exact hh
     ·exact .inl he
    ·exact .inr hm
   have hhit:hitB a n t (n0,xl)=true→writtenB vs a n t=true:=fun hh=>by
    unfold writtenB
    rw [List.any_eq_true]
    exact ⟨_,hxm,hh⟩
   have hval:hitB a n t (n0,xl)=(decide (a≤n0) && decide (n0 - a < n) && decide (t < lastT xl)):=rfl
   rw [hj] at hnx hen
   generalize lastT xl=lt at hct2 hval
   have hj1:(j:Int) < ((j+1:Nat):Int):=by omega
   have HB':=Lib.hid hb'
   have HBE:=Lib.hid hbe
   have HR':=Lib.hid hR'
   have HG:=Lib.hid hg
   have HL:=Lib.hid hl
   have HMISS:=Lib.hid hmiss
   have HHIT:=Lib.hid hhit
   have HVAL:=Lib.hid hval
   have HXM:=Lib.hid hxm
   have HIE:=Lib.hid hie
   have HX:=Lib.hid hx
   have HP4:=Lib.hid p4
   clear hb' hbe hR' hg hl hmiss hhit hval hxm hie hx p4
   by_cases c1:a≤n0
   case neg =>
    have hh:=HMISS.out (by rw [HVAL.out,decide_eq_false c1];rfl)
    have c1':n0 < a:=by omega
    have HH:=Lib.hid hh
    clear hh
    clear c1
    go_wp2
    go_roundg left'.length
    case measure=>have:=HL.out;have:=HG.out;omega
    case rel=>exact ⟨left',Nat.le_refl _,rfl,HR'.out,HB'.out,HH.out⟩
   case pos =>
    by_cases c2:n0 - a < n
    case neg =>
     have hh:=HMISS.out (by rw [HVAL.out,decide_eq_false c2,Bool.and_false];rfl)
     have c2':n≤n0 - a:=by omega
     have HH:=Lib.hid hh
     clear hh
     clear c2
     go_wp2
     go_roundg left'.length
     case measure=>have:=HL.out;have:=HG.out;omega
     case rel=>exact ⟨left',Nat.le_refl _,rfl,HR'.out,HB'.out,HH.out⟩
    case pos =>
     by_cases c3:t < lt
     case neg =>
      have hh:=HMISS.out (by rw [HVAL.out,decide_eq_false c3,Bool.and_false])
      have c3':lt≤t:=by omega
      have HH:=Lib.hid hh
      clear hh
      clear c3
      go_wp2
      go_roundg left'.length
      case measure=>have:=HL.out;have:=HG.out;omega
      case rel=>exact ⟨left',Nat.le_refl _,rfl,HR'.out,HB'.out,HH.out⟩
     case pos =>
      have hh:=HHIT.out (by rw [HVAL.out,decide_eq_true c1,decide_eq_true c2,decide_eq_true c3];rfl)
      have HH:=Lib.hid hh
      clear hh
      go_wp2
      go_ret
      refine ⟨?_,HBE.out⟩
      rw [HH.out]
      rfl
end Go.Proofs
namespace Go.Proofs
open Go.RowKit Sc
set_option maxHeartbeats 400000 in
theorem cloneVer_some (a:Addr) (n c:Nat) (news:List Value) (w:World) (hlen:Hid (news.length=n * 2)) (hcell:Hid (∀ j u,news[j]? = some u→w.cell? (a.add j)=some u)) (hone:Hid (∀ u∈news,u.oneCell'=true)) (hn:Hid (n≤1000000)) :
  Calls Tryz.prog 213 #[.slice (some a) n c] w fun e w'=>∃ v',e=.returned v'∧Hid (w'.ownsRow w.heap.size 267 2 v' n news)∧Hid (Below w.heap.size w w'):=by
 obtain ⟨i0,hi,hz0,hz1,hz2⟩:=info_parts infoVer
 have heq:=fun (W:World)=>Lib.run_eql_slice_nil (P:=Tryz.prog) W 265 267 (some a) n c 0 0 Tryz.underlying265
 go_enter Tryz.func213,Tryz.ntmps213
 go_wp2_with (at_builtin;refine wpList_append_own _ rfl _ _ 265 rfl w.heap.size 267 i0 (.agg #[.int .i64 0,.slice none 0 0]) 2 32 Tryz.underlying265 hi hz0 hz1 hz2 rfl (by decide) _ 0 [] rfl (World.ownsRow_made w _ 0 (Nat.le_refl _) (by decide) rfl) a n c news rfl hlen.out (fun j u hj=>cell_alloc_old (hcell.out j u hj)) hone.out (by have:=hn.out;unfold maxLen;omega) (by have:=hn.out;omega) (by simp) ?_;intro v' w1 hown hgrow hnil)
 go_ret
 refine ⟨v',rfl,by unfold Hid;simpa using hown,?_⟩
 refine ((Below.refl _ _).alloc (Nat.le_refl _) _).grown hgrow (by simp) (fun k hk=>?_)
 cases hk;exact Nat.le_refl _
def pruneOne (h:Int) (l:List Put):List Put:=l.drop (atN l h - 1)
def pruneVs (h:Int) (vs:Vers):Vers:=vs.map fun x=>(x.1,pruneOne h x.2)
theorem nVers_set (vs:Vers) (k:Int) (l:List Put):nVers (aset vs k l)=nVers vs+l.length - ((alook vs k).getD []).length∧((alook vs k).getD []).length≤nVers vs:=by
 induction vs with
 | nil=>simp [aset,alook,nVers]
 | cons x t ih =>
  obtain ⟨n,y⟩:=x
  unfold nVers at *
  by_cases h:n=k
  ·subst h;simp [aset,alook];omega
  ·simp [aset,alook,h];omega
theorem al_ext {α:Type}:∀ {a b:List (Int × α)},a.map (·.1)=b.map (·.1)→(b.map (·.1)).Nodup→(∀ x∈b,alook a x.1=some x.2)→a=b
 | [],[],_,_,_=>rfl
 | (k,x) :: a,(k',y) :: b,h1,h2,h3=>by
  simp only [List.map_cons,List.cons.injEq] at h1
  obtain ⟨rfl,h1⟩:=h1
  simp only [List.map_cons,List.nodup_cons] at h2
  have hx:x=y:=by
   have:=h3 (k,y) (by simp)
   simpa [alook] using this
  rw [hx,al_ext h1 h2.2 (fun z hz=>?_)]
  have:=h3 z (by simp [hz])
  have hne:k≠z.1:=fun e=>h2.1 (e ▸ List.mem_map.2 ⟨z,hz,rfl⟩)
  simpa [alook,hne] using this
 | [],_ :: _,h,_,_=>by simp at h
 | _ :: _,[],h,_,_=>by simp at h
theorem grownBy_refl (w:World) (row:Option Nat):w.grownBy w row:=⟨rfl,rfl,rfl,Nat.le_refl _,fun _ _ _=>rfl⟩
theorem ExtB.wider {F F':Nat→Prop} {w:World} {b r:Nat} {ml:List (Int × Value)} {D:Nat→Prop} {blocks last:Int} {vs:Vers} (q:ExtB F w b r ml D blocks last vs) (up:∀ k,F k→F' k) (hd:Dom F' w):ExtB F' w b r ml D blocks last vs :=
 ⟨up _ q.fb,up _ q.fr,q.hb,q.hm,q.ha.imp fun _ _ ⟨a,c⟩=>⟨a,fun g hg=>⟨up _ (c g hg).1,(c g hg).2⟩⟩,q.ho,fun k hk=>⟨up _ (q.hD k hk).1,(q.hD k hk).2⟩,hd⟩
theorem ExtB.same {F:Nat→Prop} {w w':World} {b r:Nat} {ml:List (Int × Value)} {D:Nat→Prop} {blocks last:Int} {vs:Vers} (h:ExtB F w b r ml D blocks last vs) (hs:Same F w w') (hz:w.heap.size≤w'.heap.size):ExtB F w' b r ml D blocks last vs :=
 ⟨h.fb,h.fr,by rw [hs b h.fb];exact h.hb,h.hm.same hs h.fr,h.ha.imp fun _ _ ⟨a,c⟩=>⟨a.same putR_stable hs hz (fun g hg=>(c g hg).1) (fun k hk=>(h.hD k hk).1),c⟩,h.ho,h.hD,h.dom.of_size hz⟩
def Pruned (h:Int) (vs vs':Vers) (left:List (Int × Value)):Prop :=
 vs'.map (·.1)=vs.map (·.1)∧∀ k l,alook vs k=some l→(k∈left.map (·.1)→alook vs' k=some l)∧(k ∉ left.map (·.1)→alook vs' k=some (pruneOne h l))
theorem Pruned.fin {h:Int} {vs vs':Vers} (hp:Pruned h vs vs' []) (hn:(vs.map (·.1)).Nodup):vs'=pruneVs h vs:=by
 refine al_ext ?_ ?_ fun x hx=>?_
 ·rw [hp.1];unfold pruneVs;simp [Function.comp_def]
 ·unfold pruneVs;simpa [Function.comp_def] using hn
 ·unfold pruneVs at hx
  obtain ⟨y,hy,rfl⟩:=List.mem_map.1 hx
  exact (hp.2 y.1 y.2 (alook_mem hn hy)).2 (by simp)
theorem Pruned.keep {h:Int} {vs vs':Vers} {n0:Int} {v:Value} {left left':List (Int × Value)} (hp:Pruned h vs vs' left) (hperm:left.Perm ((n0,v) :: left')) (_hnd:(left.map (·.1)).Nodup) {l:List Put} (hl:(alook vs' n0).getD []=l) (hq:atN l h≤1):Pruned h vs vs' left':=by
 have hm:=(hperm.map (·.1))
 refine ⟨hp.1,fun k l1 hk=>?_⟩
 obtain ⟨h1,h2⟩:=hp.2 k l1 hk
 have hmem:∀ k,k∈left.map (·.1)↔k=n0∨k∈left'.map (·.1):=fun k=>by rw [hm.mem_iff];simp
 refine ⟨fun hin=>h1 ((hmem k).2 (.inr hin)),fun hout=>?_⟩
 by_cases e:k=n0
 ·subst e
  have:=h1 ((hmem k).2 (.inl rfl))
  rw [this] at hl
  simp only [Option.getD_some] at hl
  subst hl
  rw [this]
  unfold pruneOne
  rw [show atN l1 h - 1=0 by omega];rfl
 ·exact h2 (fun hin=>by rcases (hmem k).1 hin with h' | h' <;> contradiction)
theorem Pruned.cut {h:Int} {vs vs':Vers} {n0:Int} {v:Value} {left left':List (Int × Value)} (hp:Pruned h vs vs' left) (hperm:left.Perm ((n0,v) :: left')) (hnd:(left.map (·.1)).Nodup) (hin0:n0∈vs'.map (·.1)) {l:List Put} (hl:(alook vs' n0).getD []=l) :
  Pruned h vs (aset vs' n0 (pruneOne h l)) left':=by
 have hm:=(hperm.map (·.1))
 rw [hm.nodup_iff,List.map_cons,List.nodup_cons] at hnd
 have hmem:∀ k,k∈left.map (·.1)↔k=n0∨k∈left'.map (·.1):=fun k=>by rw [hm.mem_iff];simp
 refine ⟨by rw [keys_aset,if_pos hin0,hp.1],fun k l1 hk=>?_⟩
 obtain ⟨h1,h2⟩:=hp.2 k l1 hk
 rw [alook_aset]
 by_cases e:k=n0
 ·subst e
  rw [if_pos rfl]
  have:=h1 ((hmem k).2 (.inl rfl))
  rw [this] at hl
  simp only [Option.getD_some] at hl
  subst hl
  exact ⟨fun hin=>absurd hin hnd.1,fun _=>rfl⟩
 ·rw [if_neg e]
  refine ⟨fun hin=>h1 ((hmem k).2 (.inr hin)),fun hout=>h2 (fun hin=>by rcases (hmem k).1 hin with h' | h' <;> contradiction)⟩
def PruneSaid (F:Nat→Prop) (v:Value) (blocks last:Int) (vs:Vers) (h:Int) (w:World) (e:Ending) (w':World):Prop :=
 e=.returned (.int .i64 ((nVers vs - nVers (pruneVs h vs):Nat):Int))∧nVers (pruneVs h vs)≤nVers vs∧Chg F w w'∧ExtIs (fun k=>F k∨New w w' k) w' v blocks last (pruneVs h vs)
set_option maxRecDepth 100000 in
set_option maxHeartbeats 4000000 in
theorem extPrune_any (F:Nat→Prop) (v:Value) (blocks last:Int) (vs:Vers) (h:Int) (w:World) (hx:ExtIs F w v blocks last vs) (h1:1≤blocks) (hnd:(vs.map (·.1)).Nodup) (hn:nVers vs≤1000000) :
  Calls Tryz.prog 153 #[v,.int .i64 h] w (PruneSaid F v blocks last vs h w):=by
 have H:=Lib.hid hx
 obtain ⟨b,r,ml,D,rfl,hB⟩:=hx.parts
 have hbl:=hB.dom b hB.fb
 have hc1:w.cell? ⟨b,1,none⟩=some (.map (some r)):=by rw [cell_row hB.hb];rfl
 obtain ⟨o,hrg,hR⟩:=hB.hm.range (P:=Tryz.prog) Tryz.underlying259
 have HR:=Lib.hid hR
 have hB1:=(hB.up (below_alloc w o)).wider (F':=fun q=>F q∨(w.heap.size < q∧q < (w.alloc o).heap.size)) (fun _ h=>.inl h) (fun k hk=>hk.elim (fun hf=>by have:=hB.dom k hf;simp;omega) (fun h=>h.2))
 have hFd:=hB.dom
 have hbb:=hB.hb
 have hF0:F b:=hB.fb
 have hmn:ml.map (·.1)=vs.map (·.1):=AL.keys hB.ha
 have HB1:=Lib.hid hB1
 have HND:=Lib.hid hnd
 have HN:=Lib.hid hn
 have HFD:=Lib.hid hFd
 have HBB:=Lib.hid hbb
 have HF0:=Lib.hid hF0
 have HMN:=Lib.hid hmn
 clear hB1 hnd hn hFd hbb hF0 hmn
 clear hx hR hB
 go_enter Tryz.func153,Tryz.ntmps153
 go_wp2_with fail
 refine (extGone_any F _ _ _ _ _ H.out h1).mono ?_
 rintro e w1 ⟨rfl,rfl⟩
 go_wp2_with fail
 go_loopg [4] ml.length (fun gg s4 wr=>∃ left ml' vs' D',left.length≤gg∧s4=.int .i64 ((nVers vs - nVers vs':Nat):Int)∧Ranges wr w.heap.size r ml' left∧Hid (ExtB (fun q=>F q∨(w.heap.size < q∧q < wr.heap.size)) wr b r ml' D' blocks last vs')∧Hid (Chg F w wr)∧Hid (nVers vs'≤nVers vs∧w.heap.size < wr.heap.size)∧Hid (Pruned h vs vs' left)∧Hid ((left.map (·.1)).Nodup))
 case atStart =>
  refine ⟨ml,ml,vs,D,Nat.le_refl _,by simp,HR.out,HB1.out,(Chg.refl F w).then_up (below_alloc w o),⟨Nat.le_refl _,by simp⟩,⟨rfl,fun k l hk=>⟨fun _=>hk,fun hk'=>?_⟩⟩,by unfold Hid;rw [HMN.out];exact HND.out⟩
  exact absurd (by rw [HMN.out];exact List.mem_map.2 ⟨_,alook_in hk,rfl⟩) hk'
 case round =>
  obtain ⟨left,ml',vs',D',hg,rfl,hR,HB,HC,HV,HP,HLN⟩:=hrel
  rcases hR.next (P:=Tryz.prog) 0 with ⟨rfl,hnx⟩ | ⟨n0,v,left',w',hp,hmem,hnx,hen,hR',hst⟩
  ·have hfin:=HP.out.fin HND.out
   subst hfin
   clear hR hrg
   go_wp2
   go_ret
   refine ⟨?_,HV.out.1,HC.out,?_⟩
   ·first | rfl | (simp;done) | trace_state
   ·exact (HB.out.wider (fun k hk=>hk.imp id fun h=>⟨by omega,h.2⟩) (fun k hk=>hk.elim (fun hf=>by have:=HFD.out k hf;have:=HV.out.2;omega) (fun h=>h.2))).is
  ·have hF0':=HF0.out
   have hB':=HB.out.same (w':=w') (fun q hq=>hst.block q (fun e=>hq.elim (fun hf=>by have:=HFD.out q hf;omega) (fun h=>by have:=h.1;omega))) (by rw [hst.size];exact Nat.le_refl _)
   rw [← hst.size] at hB'
   have hext:=hB'.is
   obtain ⟨u,l,hu,hl,hout,hown,hud⟩:=hB'.look n0
   have hnd':(ml'.map (·.1)).Nodup:=by obtain ⟨_,_,_,_,hq,_⟩:=hR'.mapIs;exact hq
   have hv:alook ml' n0=some v:=alook_mem hnd' hmem
   have huv:v=u:=by rw [hv] at hu;exact hu
   subst huv
   have hin0:n0∈vs'.map (·.1):=by rw [← AL.keys hB'.ha];exact List.mem_map.2 ⟨_,hmem,rfl⟩
   have hat:=extAt_any _ _ _ _ _ n0 h w' hext
   rw [hl] at hat
   have hcell:w'.cell? ⟨b,1,none⟩=some (.map (some r)):=by rw [cell_row hB'.hb];rfl
   have hlen:=hp.length_eq
   rw [List.length_cons] at hlen
   have hln':(left'.map (·.1)).Nodup∧∀ x∈left',x.1≠n0:=by
    have:=HLN.out
    rw [(hp.map (·.1)).nodup_iff,List.map_cons,List.nodup_cons] at this
    exact ⟨this.2,fun x hx e=>this.1 (e ▸ List.mem_map.2 ⟨x,hx,rfl⟩)⟩
   have hc':Chg F w w':=HC.out.trans' (hst.chg (S:=fun q=>q=w.heap.size) rfl) (fun i hi e=>by omega)
   have hz':w.heap.size < w'.heap.size:=by rw [hst.size];exact HV.out.2
   have hatle:=atN_le l h
   obtain ⟨hns1,hns2⟩:=nVers_set vs' n0 (pruneOne h l)
   rw [hl] at hns1 hns2
   have hlm:l.length≤1000000:=by have:=HV.out.1;have:=HN.out;omega
   have hnv:=HV.out.1
   by_cases hq:atN l h≤1
   case pos =>
    have hkeep:=HP.out.keep hp HLN.out hl hq
    have hq0:((atN l h:Int) - 1)≤0:=by omega
    generalize ((atN l h:Int) - 1)=iv at hat hq0
    have HB':=Lib.hid hB'
    have HAT:=Lib.hid hat
    have HLEN:=Lib.hid hlen
    have HLN':=Lib.hid hln'
    have HC':=Lib.hid hc'
    have HZ':=Lib.hid hz'
    have HKEEP:=Lib.hid hkeep
    have HG:=Lib.hid hg
    have HNV:=Lib.hid hnv
    clear hB' hat hlen hln' hc' hz' hkeep hg hnv
    clear hst hmem hrg hu hl hout hown hud hnd' hv hin0 hatle hns1 hns2 hlm hR hext hp
    go_wp2_with fail
    refine (HAT.out).mono ?_
    rintro e w7 ⟨rfl,rfl⟩
    go_wp2_with fail
    go_roundg left'.length
    case measure=>have:=HLEN.out;have:=HG.out;omega
    case rel=>exact ⟨left',ml',vs',D',Nat.le_refl _,rfl,hR',HB'.out,HC'.out,⟨HNV.out,HZ'.out⟩,HKEEP.out,HLN'.out.1⟩
   case neg =>
    obtain ⟨j,hj⟩:∃ j,atN l h=j+1:=⟨atN l h - 1,by omega⟩
    have hj1:1≤j:=by omega
    have hjl:j < l.length:=by omega
    have hmem0:=Lib.hid hmem
    have hcut:=HP.out.cut hp HLN.out hin0 hl
    have hpo:pruneOne h l=l.drop j:=by unfold pruneOne;rw [hj];rfl
    rw [hpo] at hcut hns1
    rw [List.length_drop] at hns1
    rw [hj,show (((j+1:Nat):Int) - 1)=(j:Int) by omega] at hat
    obtain ⟨css,q1,q2,q3,q4,q5⟩:=hout
    obtain ⟨gq,cq,rfl,_,hgq⟩:=q3.form (by omega)
    have hcq:l.length≤cq∧cq≤9223372036854775807:=by
     obtain ⟨_,⟨hno,_⟩ | ⟨_,_,_,he,_,_,a1,a2,_⟩⟩:=q3
     ·cases hno
     ·cases he;unfold maxLen at a2;omega
    have hfl:css.flatten.length=l.length * 2:=q3.1
    have hnl:((css.flatten.drop (j * 2))).length=(l.length - j) * 2:=by rw [List.length_drop,hfl];omega
    have hnc:∀ i u,(css.flatten.drop (j * 2))[i]? = some u→w'.cell? ((⟨gq,j * 2,none⟩:Addr).add i)=some u:=by
     intro i u hi
     rw [List.getElem?_drop] at hi
     have hlt:=(List.getElem?_eq_some_iff.1 hi).1
     rw [addr_plus,q3.cellAt (j * 2+i) (by rw [← hfl];exact hlt)]
     exact hi
    have hone:∀ u∈css.flatten.drop (j * 2),u.oneCell'=true:=by
     intro u hu
     obtain ⟨cs,hcs,hu⟩:=List.mem_flatten.1 (List.mem_of_mem_drop hu)
     obtain ⟨i,hi,rfl⟩:=List.getElem_of_mem hcs
     obtain ⟨dv,e1,e2,e3⟩:=q4 i hi (by omega)
     rw [e1] at hu
     obtain ⟨_,_,rfl,_⟩:=e3
     simp at hu
     rcases hu with rfl | rfl <;> rfl
    have hflt:(css.drop j).flatten=css.flatten.drop (j * 2):=flatten_drop css q2 j
    have hslice:=cut_from (P:=Tryz.prog) (t:=265) (e:=267) (k:=2) (by kernel_rfl) (by kernel_rfl) (by kernel_rfl) (info_parts infoVer).choose_spec.1 gq 0 l.length cq j (by omega) (by omega)
    have hgl:gq < w'.heap.size:=hgq
    have hjI:(0:Int) < (j:Int):=by omega
    have hlj:l.length - j≤1000000:=by omega
    have hcl:=fun (W:World) (hW:Below w'.heap.size w' W)=>cloneVer_some ⟨gq,j * 2,none⟩ (l.length - j) (cq - j) (css.flatten.drop (j * 2)) W hnl (fun i u hi=>by have:=hnc i u hi;rw [addr_plus] at this ⊢;exact cell_up hW this) hone hlj
    obtain ⟨qv,hqv⟩:∃ q,nVers vs - nVers vs'=q:=⟨_,rfl⟩
    have hqs:nVers vs - nVers (aset vs' n0 (l.drop j))=qv+j∧nVers (aset vs' n0 (l.drop j))≤nVers vs:=by omega
    have hq2:qv+j≤1000000:=by have:=HN.out;omega
    have hput:=fun (w7 w8:World) (v':Value) (gg:Nat)=>hB'.put (w4:=w7) (w5:=w7) (w6:=w8) (k:=n0) (v':=v') (gg:=gg) (l':=l.drop j) (D5:=D') hown hud
    rw [hqv]
    have hbb':b < w'.heap.size:=hB'.dom b hB'.fb
    have HB':=Lib.hid hB'
    have HAT:=Lib.hid hat
    have HLEN:=Lib.hid hlen
    have HLN':=Lib.hid hln'
    have HC':=Lib.hid hc'
    have HZ':=Lib.hid hz'
    have HCUT:=Lib.hid hcut
    have HG:=Lib.hid hg
    have HNV:=Lib.hid hnv
    have HQ1:=Lib.hid q1
    have HQ2:=Lib.hid q2
    have HQ3:=Lib.hid q3
    have HQ4:=Lib.hid q4
    have HQ5:=Lib.hid q5
    have HNC:=Lib.hid hnc
    have HONE:=Lib.hid hone
    have HNL:=Lib.hid hnl
    have HFLT:=Lib.hid hflt
    have HCL:=Lib.hid hcl
    have HQS:=Lib.hid hqs
    have HQV:=Lib.hid hqv
    have HPUT:=Lib.hid hput
    have HOWN:=Lib.hid hown
    have HUD:=Lib.hid hud
    clear hB' hat hlen hln' hc' hz' hcut hg hnv q1 q2 q3 q4 q5 hnc hone hnl hflt hcl hqs hqv hput hown hud
    clear hst hmem hrg hu hl hnd' hv hin0 hatle hns1 hns2 hlm hR hext hp hq hj hpo hfl
    go_wp2_with fail
    refine (HAT.out).mono ?_
    rintro e w7 ⟨rfl,rfl⟩
    go_wp2_with fail
    go_region_held3 (fun W=>W.cell? ⟨b,1,none⟩=some (.map (some r)))
     (first
       | go_keep
       | exact cell_up hb8 (by assumption)
       | exact (hT9.cell _).trans (by assumption))
     ((first
       | (go_at_call 213
          refine (HCL.out _ (by exact below_drewN (Below.refl _ _) 1)).mono ?_
          rintro e w8 ⟨v8,rfl,HO8,HB8⟩
          have hb8:=HB8.out
          have hR8:=hR'.up (Below.up (below_drewN (Below.refl _ w') 1) hb8)
          obtain ⟨w9,hu9,hR9,hT9⟩:=hR8.update (P:=Tryz.prog) Tryz.underlying259 Tryz.underlying3 n0 v8 ⟨_,hmem0.out⟩ HLN'.out.2)))
    all_goals
     have hb78:Below w'.heap.size w' w8:=Below.up (below_drewN (Below.refl _ w') 1) hb8
     have hO8:=HO8.out
     obtain ⟨gg,cg,rfl,hgg,hgg2⟩:=hO8.form (by omega)
     have hgg':w'.heap.size≤gg:=hgg
     rw [← HFLT.out] at hO8
     have hdl:(css.drop j).length=(l.drop j).length:=by rw [List.length_drop,List.length_drop,HQ1.out]
     have hll:l.length - j=(l.drop j).length:=by rw [List.length_drop]
     have hDlt:∀ q,D' q→q < w'.heap.size:=fun q hq=>(HQ5.out q hq).2.1
     have hn8:OutS 267 2 putR 0 w8 (.slice (some ⟨gg,0,none⟩) (l.length - j) cg) (l.drop j) D':=by
      refine ⟨css.drop j,hdl,fun cs hcs=>HQ2.out cs (List.mem_of_mem_drop hcs),?_,fun i a c=>?_,fun q hq=>⟨Nat.zero_le _,by have:=hDlt q hq;have:=hb78.size;omega,fun e=>?_⟩⟩
      ·rw [← hll];exact ownsRow_lower' hO8 (Nat.zero_le _)
      ·rw [List.getElem_drop,List.getElem_drop]
       exact putR_stable _ _ _ _ _ _ (fun _ h=>h) (fun q hq=>hb78.block q (hDlt q hq)) (HQ4.out (j+i) (by rw [List.length_drop] at a;omega) (by rw [List.length_drop] at c;omega))
      ·have e':gg=q:=by simpa [Value.ownBlock] using e
       have:=hDlt q hq;omega
     have hput:=HPUT.out w8 w9 (.slice (some ⟨gg,0,none⟩) (l.length - j) cg) gg (fun g hg hd=>(HQ5.out g hd).2.2 hg) hb78 (grownBy_refl w8 _) rfl (.inr hgg') hgg2 hn8 (fun q h=>.inl h) (fun q h=>h) hR9.mapIs hT9
     obtain ⟨hp1,hp2⟩:=hput
     have hz9:=hp2.size
     have hB9:=hp1.wider (F':=fun q=>F q∨(w.heap.size < q∧q < w9.heap.size)) (fun q hq=>by
      rcases hq with (h | h) | h
      ·exact .inl h
      ·exact .inr ⟨h.1,by omega⟩
      ·exact .inr ⟨by have:=h.1;have:=HZ'.out;omega,h.2⟩) (fun k hk=>hk.elim (fun hf=>by have:=HFD.out k hf;have:=HZ'.out;omega) (fun h=>h.2))
     have hc9:Chg F w w9:=HC'.out.trans' hp2 (fun i hi h=>h.elim id fun h=>by have:=h.1;omega)
     have hz99:w.heap.size < w9.heap.size:=by have:=HZ'.out;omega
     have HB9:=Lib.hid hB9
     have HC9:=Lib.hid hc9
     have HZ99:=Lib.hid hz99
     clear hB9 hc9 hz99
     clear hp1 hp2 hn8 hR8 hT9 hb78 hO8 hu9 hDlt hll hdl hgg hgg2 hgg'
     go_wp2_with fail
     go_roundg left'.length
     case measure=>have:=HLEN.out;have:=HG.out;omega
     case rel=>exact ⟨left',_,_,D',Nat.le_refl _,by rw [HQS.out.1];go_num,hR9,HB9.out,HC9.out,⟨HQS.out.2,HZ99.out⟩,HCUT.out,HLN'.out.1⟩
end Go.Proofs
namespace Go.Proofs
open Go.RowKit Sc
def prH (s:MgS):Int:=lowOf s.last (s.tmb.map (fun x:Int × Int=>x.2))
def prNext (s:MgS):MgS:={ s with vs:=pruneVs (prH s) s.vs }
section
variable {W w:World} {L:List Asn} {i:Nat} {c:MgC} {s:MgS}
theorem items_vs (vs:Vers):(mgrItems c s).set 1 (ExtA (pt c.m) s.blocks s.last0 vs)=mgrItems c { s with vs:=vs }:=rfl
set_option maxRecDepth 100000 in
set_option maxHeartbeats 2000000 in
theorem prune_core (h:Hid (Sep W (OL L i (mgrItems c s)) w)) (h1:1≤s.blocks) (hnd:(s.vs.map (·.1)).Nodup) (hn:nVers s.vs≤1000000) :
  Calls Tryz.prog 88 #[.pointer (some ⟨c.mb,0,none⟩)] w fun e w'=>e=.returned (.int .i64 ((nVers s.vs - nVers (pruneVs (prH s) s.vs):Nat):Int))∧Hid (Sep W (OL L i (mgrItems c (prNext s))) w'):=by
 obtain ⟨c0,c1,_,_,_,_,_,c7,_⟩:=mgr_cells h.out
 have HND:=Lib.hid hnd
 have HNN:=Lib.hid hn
 clear hnd hn
 go_enter Tryz.func88,Tryz.ntmps88
 go_wp2_with fail
 refine (gone_any c.mb c.m _ c0).mono ?_
 rintro e w1 ⟨rfl,rfl⟩
 go_upto_region 3 with fail
 have hd:=h.out.up (below_drewN (Below.refl w.heap.size w) 1)
 obtain ⟨d0,d1,_,_,_,_,_,d7,_⟩:=mgr_cells hd
 obtain ⟨F,hF,_⟩:=hd.get (L.length+2) (OL_get.trans (items_head 2 (by omega)))
 have HLO:=Lib.hid (bookLow_any F (pt c.bk) 16 s.lastH s.tmb s.last _ hF)
 have HD:=Lib.hid hd
 clear c0 c1 c7 hd hF
 refine wp_regionG (fun W=>W.cell? ⟨c.mb,0,none⟩=some (.pointer (some ⟨c.m,0,none⟩))∧W.cell? ⟨c.mb,1,none⟩=some (.pointer (some ⟨c.bk,0,none⟩))∧W.cell? ⟨c.mb,7,none⟩=some (.int .i64 s.last)) (n:=15) (by kernel_rfl) (by kernel_rfl) ?_
 refine wpG.tk 0 ?_
 refine wpG.tk 1 ?_
 refine wpG.tk 2 ?_
 refine wpG.tk 3 ?_ (hy:=by intro W hW;have hld0:=hW.1;go_simp;try with_reducible rfl)
 refine wpG.tk 4 ?_
 refine wpG.tk 5 ?_
 refine wpG.tk 6 ?_
 refine wpG.tk 7 ?_ (hy:=by intro W hW;have hld0:=hW.2.1;go_simp;try with_reducible rfl)
 refine wpG.tk 8 ?_
 refine wpG.tk 9 ?_
 refine wpG.tk 10 ?_
 refine wpG.tk 11 ?_ (hy:=by intro W hW;have hld0:=hW.2.2;go_simp;try with_reducible rfl)
 refine wpG.alone 12 rfl (by kernel_rfl) (by kernel_rfl) (⟨d0,d1,d7⟩) (fun K hK=>?_)
 go_simp
 go_at_call 154
 refine (HLO.out).mono ?_
 rintro e w2 ⟨rfl,hb2⟩
 try go_simp
 refine hK _ _ ?_
 clear hK K
 have hs2:=HD.out.up hb2
 have m0:=cell_up hb2 d0
 have m1:=cell_up hb2 d1
 have m7:=cell_up hb2 d7
 obtain ⟨F2,G2,hF2,_,_,_,_,KK⟩:=Sep.at hs2 (L.length+1) (OL_get.trans (items_head 1 (by omega)))
 have HP:=Lib.hid (extPrune_any F2 (pt c.m) s.blocks s.last0 s.vs (lowOf s.last (s.tmb.map (fun x:Int × Int=>x.2))) w2 hF2 h1 HND.out HNN.out)
 have HKK:=Lib.hid KK
 clear KK hF2 hs2
 refine wpG.alone 13 rfl (by kernel_rfl) (by kernel_rfl) (⟨m0,m1,m7⟩) (fun K hK=>?_)
 go_simp
 go_at_call 153
 refine (HP.out).mono ?_
 rintro e w3 ⟨rfl,hle,hch,hx⟩
 have hs3:=HKK.out w3 _ (ExtA (pt c.m) s.blocks s.last0 (pruneVs (lowOf s.last (s.tmb.map (fun x:Int × Int=>x.2))) s.vs)) hch (fun k hk=>hk) hx
 rw [OL_set,items_vs] at hs3
 obtain ⟨n0,n1,_,_,_,_,_,n7,_⟩:=mgr_cells hs3
 have HS3:=Lib.hid hs3
 clear hs3 hch hx hle
 try go_simp
 refine hK _ _ ?_
 clear hK K
 refine wpG.tk 14 ?_
 refine wpG.done (by kernel_rfl) ⟨n0,n1,n7⟩ ?_
 go_wp2
 go_ret
 exact ⟨rfl,HS3⟩
end
end Go.Proofs
namespace Sc
open Go Go.RowKit
theorem setAll_length:∀ (is:List Nat) (L Bs:List Asn),(setAll L is Bs).length=L.length
 | [],L,[]=>rfl
 | a :: is,L,B :: Bs=>by
  show (setAll (L.set a B) is Bs).length=_
  rw [setAll_length is (L.set a B) Bs,List.length_set]
 | [],_,_ :: _=>rfl
 | _ :: _,_,[]=>rfl
theorem setAll_self {L As:List Asn} {is:List Nat} (hn:is.Nodup) (hl:is.length=As.length) (hA:∀ j (hj:j < is.length),L[is[j]]? = some (As[j]'(by omega))):setAll L is As=L:=by
 apply List.ext_getElem?
 intro i
 rw [setAll_get is L As i hn hl fun j hj=>by
  obtain ⟨q,hq,rfl⟩:=List.mem_iff_getElem.1 hj
  exact (List.getElem?_eq_some_iff.1 (hA q hq)).1]
 split
 ·rename_i hi
  have hlt:=List.idxOf_lt_length_iff.2 hi
  have:=hA _ hlt
  rw [List.getElem_idxOf hlt] at this
  rw [this,List.getElem?_eq_getElem (by omega)]
 ·rfl
theorem Sep.zoomN {W w:World} {L:List Asn} (h:Sep W L w) (is:List Nat) (As:List Asn) (hn:is.Nodup) (hl:is.length=As.length) (hA:∀ j (hj:j < is.length),L[is[j]]? = some (As[j]'(by omega))) :
  ∃ Z:Asn,Sep w (Z :: As) w∧∀ w' Bs Cs,Bs.length=As.length→Sep w (Z :: (Bs++Cs)) w'→Sep W (setAll L is Bs++Cs) w':=by
 obtain ⟨hg,Fs,h1,h2,h3⟩:=h
 have hb:∀ j∈is,j < L.length:=fun j hj=>by
  obtain ⟨q,hq,rfl⟩:=List.mem_iff_getElem.1 hj
  exact (List.getElem?_eq_some_iff.1 (hA q hq)).1
 let S:Foot:=fun k=>∃ j,∃ hj:j < is.length,Fs (is[j]) k
 refine ⟨FrameA w S,⟨Grow.refl w,fun i k=>if i=0 then k < w.heap.size∧¬ S k else if hi:i - 1 < is.length then Fs (is[i - 1]) k else False,?_,?_,?_⟩,?_⟩
 ·intro i k hk
  by_cases h0:i=0
  ·simp only [h0,if_true] at hk;exact hk.1
  ·simp only [h0,if_false] at hk
   split at hk
   ·exact h1 _ k hk
   ·exact hk.elim
 ·intro i j k hij hk hk'
  by_cases hi:i=0 <;> by_cases hj:j=0
  ·omega
  ·simp only [hi,if_true,hj,if_false] at hk hk'
   split at hk'
   ·exact hk.2 ⟨_,_,hk'⟩
   ·exact hk'
  ·simp only [hj,if_true,hi,if_false] at hk hk'
   split at hk
   ·exact hk'.2 ⟨_,_,hk⟩
   ·exact hk
  ·simp only [hi,hj,if_false] at hk hk'
   split at hk
   ·split at hk'
    ·rename_i q1 q2
     refine h2 _ _ k (fun e=>?_) hk hk'
     have:=(List.getElem_inj hn).1 e
     omega
    ·exact hk'
   ·exact hk
 ·intro i A hi
  cases i with
  | zero =>
   cases hi
   exact ⟨fun k hk hs=>by simp only [if_true];exact ⟨hk,hs⟩,Same.refl _ _⟩
  | succ i =>
   rw [List.getElem?_cons_succ] at hi
   obtain ⟨hlt,rfl⟩:=List.getElem?_eq_some_iff.1 hi
   have hil:i < is.length:=by omega
   simp only [Nat.add_one_ne_zero,if_false,Nat.add_sub_cancel,hil,dif_pos]
   exact h3 _ _ (hA i hil)
 ·intro w' Bs Cs hBl ⟨hg',Gs,k1,k2,k3⟩
  have k0:=k3 0 _ rfl
  have kz:w.heap.size≤w'.heap.size:=hg'.size
  have hFs:∀ i,i ∉ is→∀ k,Fs i k→Gs 0 k∧w'.heap[k]? = w.heap[k]? := fun i hi k hk=>by
   have hns:¬ S k:=fun ⟨j,hj,hj'⟩=>h2 _ _ k (fun e=>hi (by rw [← e];exact List.getElem_mem hj)) hj' hk
   exact ⟨k0.1 k (h1 i k hk) hns,k0.2 k ⟨h1 i k hk,hns⟩⟩
  let ix:Nat→Nat:=fun i=>if i∈is then is.idxOf i+1 else is.length+1+(i - L.length)
  have hix:∀ i j,(i∈is∨L.length≤i)→(j∈is∨L.length≤j)→ix i=ix j→i=j:=by
   intro i j hi hj he
   by_cases mi:i∈is <;> by_cases mj:j∈is
   ·simp only [ix,mi,mj,if_true] at he
    have g1:=List.getElem_idxOf (List.idxOf_lt_length_iff.2 mi)
    have g2:=List.getElem_idxOf (List.idxOf_lt_length_iff.2 mj)
    have e':is.idxOf i=is.idxOf j:=by omega
    rw [← g1,← g2]
    simp only [e']
   ·simp only [ix,mi,mj,if_true,if_false] at he
    have:=List.idxOf_lt_length_iff.2 mi
    omega
   ·simp only [ix,mi,mj,if_true,if_false] at he
    have:=List.idxOf_lt_length_iff.2 mj
    omega
   ·simp only [ix,mi,mj,if_false] at he
    have h1:=hi.resolve_left mi
    have h2:=hj.resolve_left mj
    omega
  have hpos:∀ i,ix i≠0:=fun i=>by simp only [ix];split <;> omega
  refine ⟨hg.trans hg',fun i=>if i∈is∨L.length≤i then Gs (ix i) else Fs i,?_,?_,?_⟩
  ·intro i k hk
   by_cases hi:i∈is∨L.length≤i
   ·simp only [hi,if_true] at hk;exact k1 _ k hk
   ·simp only [hi,if_false] at hk;exact Nat.lt_of_lt_of_le (h1 i k hk) kz
  ·intro i j k hij hk hk'
   by_cases hi:i∈is∨L.length≤i <;> by_cases hj:j∈is∨L.length≤j
   ·simp only [hi,hj,if_true] at hk hk'
    exact k2 _ _ k (fun e=>hij (hix i j hi hj e)) hk hk'
   ·simp only [hi,hj,if_true,if_false] at hk hk'
    exact k2 _ 0 k (hpos i) hk (hFs j (fun e=>hj (.inl e)) k hk').1
   ·simp only [hi,hj,if_true,if_false] at hk hk'
    exact k2 _ 0 k (hpos j) hk' (hFs i (fun e=>hi (.inl e)) k hk).1
   ·simp only [hi,hj,if_false] at hk hk'
    exact h2 i j k hij hk hk'
  ·intro i A hA'
   have hsl:(setAll L is Bs).length=L.length:=setAll_length is L Bs
   by_cases hL:i < L.length
   ·rw [List.getElem?_append_left (by omega),setAll_get is L Bs i hn (by omega) hb] at hA'
    by_cases hi:i∈is
    ·have hc:i∈is∨L.length≤i:=.inl hi
     simp only [hi,if_true] at hA'
     simp only [hc,if_true]
     have hlt:=List.idxOf_lt_length_iff.2 hi
     refine k3 (ix i) A ?_
     simp only [ix,hi,if_true]
     rw [List.getElem?_cons_succ,List.getElem?_append_left (by omega)]
     exact hA'
    ·have hc:¬ (i∈is∨L.length≤i):=fun h=>h.elim hi (by omega)
     simp only [hi,if_false] at hA'
     simp only [hc,if_false]
     exact A.loc _ _ _ (fun k hk=>(hFs i hi k hk).2) kz (h3 i A hA')
   ·have hi:i ∉ is:=fun h=>hL (hb i h)
    have hc:i∈is∨L.length≤i:=.inr (by omega)
    rw [List.getElem?_append_right (by omega),hsl] at hA'
    simp only [hc,if_true]
    refine k3 (ix i) A ?_
    simp only [ix,hi,if_false]
    rw [show is.length+1+(i - L.length)=(is.length+(i - L.length))+1 by omega,List.getElem?_cons_succ,List.getElem?_append_right (by omega),show is.length+(i - L.length) - Bs.length=i - L.length by omega]
    exact hA'
end Sc
namespace Sc
open Go Go.RowKit
theorem Sep.append {W w w':World} {L M:List Asn} (h:Sep W L w) (h2:Sep w (OldA w :: M) w'):Sep W (L++M) w':=by
 have hb:=h2.old
 obtain ⟨hg,Fs,h1,h3,h4⟩:=h
 obtain ⟨hg',Gs,k1,k3,k4⟩:=h2
 have k0:∀ k,k < w.heap.size→Gs 0 k:=(k4 0 (OldA w) rfl).1
 have kn:∀ j k,Gs (j+1) k→w.heap.size≤k:=fun j k hk=>by
  by_cases hlt:k < w.heap.size
  ·exact absurd hk (k3 0 (j+1) k (by omega) (k0 k hlt))
  ·omega
 refine ⟨hg.trans (below_grow hb),fun i=>if i < L.length then Fs i else Gs (i - L.length+1),?_,?_,?_⟩
 ·intro i k hk
  by_cases hi:i < L.length
  ·simp only [hi,if_true] at hk;exact Nat.lt_of_lt_of_le (h1 i k hk) hb.size
  ·simp only [hi,if_false] at hk;exact k1 _ k hk
 ·intro i j k hij hk hk'
  by_cases hi:i < L.length <;> by_cases hj:j < L.length
  ·simp only [hi,hj,if_true] at hk hk';exact h3 i j k hij hk hk'
  ·simp only [hi,hj,if_true,if_false] at hk hk'
   have:=h1 i k hk;have:=kn _ k hk';omega
  ·simp only [hi,hj,if_true,if_false] at hk hk'
   have:=h1 j k hk';have:=kn _ k hk;omega
  ·simp only [hi,hj,if_false] at hk hk'
   exact k3 _ _ k (by omega) hk hk'
 ·intro i A hA
  by_cases hi:i < L.length
  ·rw [List.getElem?_append_left hi] at hA
   simp only [hi,if_true]
   exact A.loc _ _ _ (fun k hk=>hb.block k (h1 i k hk)) hb.size (h4 i A hA)
  ·rw [List.getElem?_append_right (by omega)] at hA
   simp only [hi,if_false]
   exact k4 (i - L.length+1) A (by rw [List.getElem?_cons_succ];exact hA)
end Sc
namespace Go.Proofs
open Go.RowKit Sc
end Go.Proofs
namespace Go.Proofs
open Go.RowKit Sc
def ptr (b:Nat):Value:=.pointer (some ⟨b,0,none⟩)
theorem viewRead_sep {W w:World} {L:List Asn} (h:Hid (Sep W L w)) (im ib is iv:Nat) {m b sb v:Nat} {blocks last b2 most t:Int} {vs:Vers} {s:List (Int × Bytes)} {S:List Ext} {R:List Sc.Read} (hn:[im,ib,is,iv].Nodup)
  (hm:L[im]? = some (ExtA (.pointer (some ⟨m,0,none⟩)) blocks last vs)) (hb:L[ib]? = some (BufA (.pointer (some ⟨b,0,none⟩)) b2 most s)) (hs':L[is]? = some (SetA (.pointer (some ⟨sb,0,none⟩)) 64 S))
  (hv:L[iv]? = some (ViewA (.pointer (some ⟨v,0,none⟩)) (.pointer (some ⟨m,0,none⟩)) (.pointer (some ⟨b,0,none⟩)) t (.pointer (some ⟨sb,0,none⟩)) R))
  (hg:GoodE blocks last vs) (hbl:blocks≤1048576) (hs:BufG b2 s) (hS:SetG S) (nS:S.length≤50000) (nR:R.length≤1000000) (e:Ext) (i1:I64 e.first) (i2:I64 e.len) :
  Calls Tryz.prog 219 #[.pointer (some ⟨v,0,none⟩),.agg #[.int .i64 e.first,.int .i64 e.len]] w fun r w' =>
   (readCode blocks S e≠0∧r=.returned (.tuple #[.slice none 0 0,.int .i64 (readCode blocks S e)])∧Hid (Sep W L w')) ∨
   (readCode blocks S e=0∧∃ g o c,r=.returned (.tuple #[.slice (some ⟨g,o,none⟩) (40 * e.len.toNat) c,.int .i64 0]) ∧
     Hid (Sep W (setAll L [im,ib,is,iv] [ExtA (.pointer (some ⟨m,0,none⟩)) blocks last vs,BufA (.pointer (some ⟨b,0,none⟩)) b2 most s,SetA (.pointer (some ⟨sb,0,none⟩)) 64 (addNext 64 S [e]),ViewA (.pointer (some ⟨v,0,none⟩)) (.pointer (some ⟨m,0,none⟩)) (.pointer (some ⟨b,0,none⟩)) t (.pointer (some ⟨sb,0,none⟩)) (R++readsV vs s t e.first e.len.toNat)] ++
      [BytesWA (.slice (some ⟨g,o,none⟩) (40 * e.len.toNat) c) (rowsF (fun i:Nat=>blkV vs s t (e.first+i)) e.len.toNat)]) w')):=by
 have hA:∀ j (hj:j < [im,ib,is,iv].length),L[[im,ib,is,iv][j]]? = some ([ExtA (.pointer (some ⟨m,0,none⟩)) blocks last vs,BufA (.pointer (some ⟨b,0,none⟩)) b2 most s,SetA (.pointer (some ⟨sb,0,none⟩)) 64 S,ViewA (.pointer (some ⟨v,0,none⟩)) (.pointer (some ⟨m,0,none⟩)) (.pointer (some ⟨b,0,none⟩)) t (.pointer (some ⟨sb,0,none⟩)) R][j]'(by simpa using hj)):=by
  intro j hj
  simp only [List.length_cons,List.length_nil] at hj
  rcases (show j=0∨j=1∨j=2∨j=3 by omega) with rfl | rfl | rfl | rfl
  ·exact hm
  ·exact hb
  ·exact hs'
  ·exact hv
 obtain ⟨Z,hZ,hback⟩:=h.out.zoomN [im,ib,is,iv] [ExtA (.pointer (some ⟨m,0,none⟩)) blocks last vs,BufA (.pointer (some ⟨b,0,none⟩)) b2 most s,SetA (.pointer (some ⟨sb,0,none⟩)) 64 S,ViewA (.pointer (some ⟨v,0,none⟩)) (.pointer (some ⟨m,0,none⟩)) (.pointer (some ⟨b,0,none⟩)) t (.pointer (some ⟨sb,0,none⟩)) R] hn rfl hA
 refine (viewRead_core (h:=hZ) hg hbl hs hS nS nR e i1 i2).mono ?_
 rintro r w' (⟨h1,h2,h3⟩ | ⟨h1,g,o,c,h2,h3⟩)
 ·refine .inl ⟨h1,h2,?_⟩
  have:=hback w' [ExtA (.pointer (some ⟨m,0,none⟩)) blocks last vs,BufA (.pointer (some ⟨b,0,none⟩)) b2 most s,SetA (.pointer (some ⟨sb,0,none⟩)) 64 S,ViewA (.pointer (some ⟨v,0,none⟩)) (.pointer (some ⟨m,0,none⟩)) (.pointer (some ⟨b,0,none⟩)) t (.pointer (some ⟨sb,0,none⟩)) R] [] rfl h3.out
  rw [List.append_nil,setAll_self hn rfl hA] at this
  exact this
 ·exact .inr ⟨h1,g,o,c,h2,hback w' [_,_,_,_] [_] rfl h3.out⟩
end Go.Proofs
namespace Go.Proofs
open Go.RowKit Sc
def InB (blocks:Int) (S:List Ext):Prop:=∀ e∈S,0≤e.first∧1≤e.len∧e.first+e.len≤blocks
theorem InB.nil (blocks:Int):InB blocks []:=by simp [InB]
theorem InB.all {blocks:Int} {S:List Ext} (h:InB blocks S) (hb:blocks≤1048576):allB S=true:=by
 unfold allB
 rw [List.all_eq_true]
 intro e he
 have:=h e he
 exact mayB_iff.2 (by omega)
theorem addNext_self {S:List Ext} (hS:SetG S) (ha:allB S=true) (hl:S.length≤64):addNext 64 [] S=S:=by
 by_cases hn:S=[]
 ·subst hn
  have h0:addCode 64 [] []=0:=by unfold addCode;simp [allB]
  unfold addNext
  rw [if_pos h0,List.nil_append]
  exact normE_ext (by simp) Canon.nil fun _=>Iff.rfl
 ·have e:normE ([]++S)=S:=normE_ext (by simpa using hS.1.1) hS.1 fun _=>by rw [List.nil_append]
  have h:=(addCode_is (most:=64) SetG.nil ha hn e).2
  rw [h,if_neg (by omega)]
theorem InB.of_cov {blocks:Int} {S:List Ext} (hc:Canon S) (h:∀ x,cov S x→0≤x∧x < blocks):InB blocks S:=fun e he=>by
 have h1:=hc.1 e he
 have a:=h e.first (cov_mem he (by omega))
 have b:=h (e.first+e.len - 1) (cov_mem he (by omega))
 omega
theorem InB.cov {blocks:Int} {S:List Ext} (h:InB blocks S) {x:Int} (hx:cov S x):0≤x∧x < blocks:=by
 obtain ⟨e,he,h1,h2⟩:=hx
 have:=h e he
 omega
theorem InB.add {blocks most:Int} {S l:List Ext} (hS:SetG S) (h:InB blocks S) (hl:InB blocks l):InB blocks (addNext most S l):=by
 by_cases hc:addCode most S l=0
 ·exact InB.of_cov (addNext_good hS).1 fun x hx=>((addNext_cov hS hc x).1 hx).elim (fun a=>h.cov a) (fun a=>hl.cov a)
 ·unfold addNext
  rw [if_neg hc];exact h
set_option maxRecDepth 100000 in
set_option maxHeartbeats 1000000 in
theorem viewSet_sep {W w:World} {L:List Asn} (h:Hid (Sep W L w)) (iv is:Nat) {v sb:Nat} {mp bp:Value} {t:Int} {S:List Ext} {R:List Sc.Read} (hv:L[iv]? = some (ViewA (.pointer (some ⟨v,0,none⟩)) mp bp t (.pointer (some ⟨sb,0,none⟩)) R)) (hs:L[is]? = some (SetA (.pointer (some ⟨sb,0,none⟩)) 64 S))
  (hg:SetG S) (ha:allB S=true) (hl:S.length≤64):Calls Tryz.prog 327 #[.pointer (some ⟨v,0,none⟩)] w fun e w'=>∃ b:Nat,e=.returned (.pointer (some ⟨b,0,none⟩))∧Hid (Below w.heap.size w w')∧Hid (Sep W (L++[SetA (.pointer (some ⟨b,0,none⟩)) 64 S]) w'):=by
 have hN:=addNext_self hg ha hl
 obtain ⟨F,hF,_⟩:=h.out.get iv hv
 obtain ⟨b,rv,D,hb,_,hh,_,_,_⟩:=hF
 cases hb
 have hc3:w.cell? ⟨v,3,none⟩=some (.pointer (some ⟨sb,0,none⟩)):=by rw [cell_row hh];rfl
 have HIS:Hid (is < L.length):=(List.getElem?_eq_some_iff.1 hs).1
 have HN:=Lib.hid hN
 have HS:=Lib.hid hs
 have HG:=Lib.hid hg
 clear hN hs hg
 clear hh hv
 go_enter Tryz.func327,Tryz.ntmps327
 go_wp2_with fail
 refine (setNew_any 64 w).mono ?_
 rintro e w1 ⟨s,rfl,hm,hb1⟩
 have hS1:=h.out.new hb1 (SetA _ 64 []) (fun _ h=>h) hm
 have hold:=(Sep.start w).new hb1 (SetA (.pointer (some ⟨s,0,none⟩)) 64 []) (fun _ h=>h) hm
 have hc3':=cell_up hb1 hc3
 have HS1:=Lib.hid hS1
 have HB1:=Lib.hid hb1
 have HOLD:=Lib.hid hold
 clear hS1 hb1 hold
 clear hm hc3
 go_wp2_with fail
 refine (setExtents_sep HS1.out is (by rw [List.getElem?_append_left HIS.out];exact HS.out) (by omega)).mono ?_
 rintro e w2 ⟨p,cp,rfl,HX,HB2,HS2⟩
 have hold2:=HOLD.out.up HB2.out
 have HX2:Hid (ExtsAt (fun _=>True) w2 (.slice p S.length cp) S):=SlAt.mono HX.out (fun _ _=>trivial) (fun _ _ _ h=>h)
 have HOLD2:=Lib.hid hold2
 clear hold2
 go_wp2_with fail
 refine (setAdd_sep HOLD2.out 1 rfl S HX2.out SetG.nil (by simp) (by omega)).mono ?_
 rintro e w3 ⟨rfl,HS3⟩
 rw [HN.out] at HS3
 have hfin:=h.out.append HS3.out
 have hol3:=HS3.out.old
 generalize addCode 64 [] S=cd
 have HFIN:=Lib.hid hfin
 have HOL3:=Lib.hid hol3
 clear hfin hol3
 go_wp2
 go_ret
 exact ⟨s,rfl,HOL3.out,HFIN.out⟩
end Go.Proofs
namespace Sc
open Go Go.RowKit
theorem set_same {α:Type} {L:List α} {i:Nat} {A:α} (h:L[i]? = some A):L.set i A=L:=by
 obtain ⟨hl,he⟩:=List.getElem?_eq_some_iff.1 h
 rw [← he];exact List.set_getElem_self hl
theorem Sep.shift {W w:World} {L Ls Cs:List Asn} {i:Nat} (h:Sep W (OL L i Ls++Cs) w) (hi:i < L.length):Sep W (OL (L++Cs) i Ls) w:=by
 refine h.sub (fun j=>if j < L.length then j else if j < L.length+Cs.length then j+Ls.length else j - Cs.length) ?_ ?_
 ·intro a b _ _ he
  rw [show (OL (L++Cs) i Ls).length=L.length+Cs.length+Ls.length by rw [OL_len,List.length_append]] at *
  split at he <;> split at he <;> (try split at he) <;> (try split at he) <;> omega
 ·intro j A hA
  have hj:=(List.getElem?_eq_some_iff.1 hA).1
  rw [OL_len,List.length_append] at hj
  by_cases h1:j < L.length
  ·simp only [h1,if_true]
   rw [List.getElem?_append_left (by rw [OL_len];omega)]
   by_cases hji:j=i
   ·subst hji
    unfold OL at hA ⊢
    rw [List.getElem?_append_left (by rw [List.length_set];exact h1),List.getElem?_set_self h1]
    rw [List.getElem?_append_left (by rw [List.length_set,List.length_append];omega),List.getElem?_set_self (by rw [List.length_append];omega)] at hA
    exact hA
   ·rw [OL_old h1 hji]
    rw [OL_old (by rw [List.length_append];omega) hji,List.getElem?_append_left h1] at hA
    exact hA
  ·simp only [h1,if_false]
   by_cases h2:j < L.length+Cs.length
   ·simp only [h2,if_true]
    rw [List.getElem?_append_right (by rw [OL_len];omega),OL_len,show j+Ls.length - (L.length+Ls.length)=j - L.length by omega]
    rw [OL_old (by rw [List.length_append];omega) (by omega),List.getElem?_append_right (by omega)] at hA
    exact hA
   ·simp only [h2,if_false]
    obtain ⟨q,rfl⟩:∃ q,j=(L++Cs).length+q:=⟨j - (L++Cs).length,by rw [List.length_append];omega⟩
    rw [OL_get] at hA
    rw [List.length_append] at hj ⊢
    rw [List.getElem?_append_left (by rw [OL_len];omega),show L.length+Cs.length+q - Cs.length=L.length+q by omega,OL_get]
    exact hA
theorem Sep.unbox {W w:World} {L Ls Cs:List Asn} {B:Asn} {i:Nat} (h:Sep W (OL (L++B :: Cs) i Ls) w) (hi:i < L.length):Sep W (OL (L++Cs) i Ls) w:=by
 have:=h.erase L.length
 have e:(OL (L++B :: Cs) i Ls).eraseIdx L.length=OL (L++Cs) i Ls:=by
  unfold OL
  rw [List.set_append_left _ _ hi,List.set_append_left _ _ hi,List.append_assoc,List.eraseIdx_append_of_length_le (by rw [List.length_set];exact Nat.le_refl _),List.length_set,Nat.sub_self,List.append_assoc]
  rfl
 rwa [e] at this
theorem Sep.boxed {W w:World} {L Ls:List Asn} {i:Nat} (h:Sep W (OL L i Ls) w) (hi:i < L.length) (cs:Array Value) (T:TypeId):Sep W (OL (L++[BoxA w.heap.size cs T]) i Ls) (w.alloc (.cells cs T (0,0))) :=
 (h.new (below_alloc w _) (BoxA w.heap.size cs T) (F:=New w (w.alloc (.cells cs T (0,0)))) (fun _ h=>h) ⟨⟨Nat.le_refl _,by simp⟩,heap_alloc_new w _⟩).shift hi
theorem Sep.box_at {W w:World} {L Ls Cs:List Asn} {i b:Nat} {cs:Array Value} {T:TypeId} (h:Sep W (OL (L++BoxA b cs T :: Cs) i Ls) w) (hi:i < L.length) (j:Nat):w.cell? ⟨b,j,none⟩=cs[j]? := by
 obtain ⟨F,hF,_⟩:=h.get L.length (A:=BoxA b cs T) (by
  rw [OL_old (by simp) (by omega),List.getElem?_append_right (Nat.le_refl _),Nat.sub_self];rfl)
 rw [cell_row hF.2]
end Sc
namespace Go.Proofs
open Go.RowKit Sc
structure TxG (blocks:Int) (n:Nat) (t:TxS):Prop where
 bg:BufG blocks t.buf
 bl:t.buf.length≤16
 sg:SetG t.S
 sb:InB blocks t.S
 sl:t.S.length≤64
 rl:t.R.length≤n
 rd:∀ x∈t.R,x.data.length=40
def rdCode (s:MgS) (n:Int) (e:Ext):Int:=if openB s n=true then readCode s.blocks (txOf s n).S e else 5
def rdTx (s:MgS) (t:TxS) (e:Ext):TxS:={ t with S:=addNext 64 t.S [e],R:=t.R++readsV s.vs t.buf t.at' e.first e.len.toNat }
def rdNext (s:MgS) (n:Int) (e:Ext):MgS:=if rdCode s n e=0 then setTx s n (rdTx s (txOf s n) e) else s
def rdOut (s:MgS) (n:Int) (e:Ext):Bytes:=rowsF (fun i:Nat=>blkV s.vs (txOf s n).buf (txOf s n).at' (e.first+i)) e.len.toNat
section
variable {W w:World} {L:List Asn} {i:Nat} {c:MgC} {s:MgS}
theorem items_read (hc:c.cs.length=s.txs.length) {k:Nat} (hk:k < s.txs.length) (S:List Ext) (R:List Sc.Read) :
  setAll (OL L i (mgrItems c s)) [L.length+1,L.length+(5+(4 * k+1)),L.length+(5+(4 * k+2)),L.length+(5+(4 * k+3))]
   [ExtA (pt c.m) s.blocks s.last0 s.vs,BufA (pt (c.cs[k]'(by omega)).bb) s.blocks 16 s.txs[k].buf,SetA (pt (c.cs[k]'(by omega)).sb) 64 S,ViewA (pt (c.cs[k]'(by omega)).vb) (pt c.m) (pt (c.cs[k]'(by omega)).bb) s.txs[k].at' (pt (c.cs[k]'(by omega)).sb) R] =
  OL L i (mgrItems c { s with txs:=s.txs.set k { s.txs[k] with S:=S,R:=R } }):=by
 have hks:k < (s.txs.set k { s.txs[k] with S:=S }).length:=by rw [List.length_set];exact hk
 have hc1:c.cs.length=(s.txs.set k { s.txs[k] with S:=S }).length:=by rw [List.length_set];exact hc
 unfold setAll
 rw [OL_set,set_same (items_head 1 (by omega))]
 unfold setAll
 rw [OL_set,set_same (items_tx hc hk 1 (by omega))]
 unfold setAll
 rw [OL_set,items_upd hc hk { s.txs[k] with S:=S } 2 (by omega) _ rfl]
 unfold setAll
 rw [OL_set]
 have h3:=items_upd (c:=c) (s:={ s with txs:=s.txs.set k { s.txs[k] with S:=S } }) hc1 (k:=k) hks { s.txs[k] with S:=S,R:=R } 3 (by omega) (ViewA (pt (c.cs[k]'(by omega)).vb) (pt c.m) (pt (c.cs[k]'(by omega)).bb) s.txs[k].at' (pt (c.cs[k]'(by omega)).sb) R) (by
  simp only [List.getElem_set_self];rfl)
 rw [h3]
 simp only [List.set_set]
 unfold setAll
 rfl
set_option maxRecDepth 100000 in
set_option maxHeartbeats 2000000 in
theorem mread_core (h:Hid (Sep W (OL L i (mgrItems c s)) w)) (hc:c.cs.length=s.txs.length) (n:Int) (e:Ext) (hg:GoodE s.blocks s.last0 s.vs) (hb:s.blocks≤1048576) {N:Nat} (hN:N≤1000000) (hx:∀ t∈s.txs,TxG s.blocks N t) (i1:I64 e.first) (i2:I64 e.len) (hi:i < L.length) :
  Calls Tryz.prog 156 #[.pointer (some ⟨c.mb,0,none⟩),.int .i64 n,.agg #[.int .i64 e.first,.int .i64 e.len]] w fun r w' =>
   (rdCode s n e≠0∧r=.returned (.tuple #[.slice none 0 0,.int .i64 (rdCode s n e)])∧Hid (Sep W (OL L i (mgrItems c s)) w')) ∨
   (rdCode s n e=0∧∃ g o cp,r=.returned (.tuple #[.slice (some ⟨g,o,none⟩) (40 * e.len.toNat) cp,.int .i64 0]) ∧
     Hid (Sep W (OL (L++[BytesWA (.slice (some ⟨g,o,none⟩) (40 * e.len.toNat) cp) (rdOut s n e)]) i (mgrItems c (rdNext s n e))) w')):=by
 have HX:=Lib.hid hx
 have h':Hid (Sep W (OL (L++[BoxA w.heap.size #[.int .i64 e.first,.int .i64 e.len] 186]) i (mgrItems c s)) (w.alloc (.cells #[.int .i64 e.first,.int .i64 e.len] 186))):=h.out.boxed hi _ _
 have e0:=h'.out.box_at hi 0
 have e1:=h'.out.box_at hi 1
 change _=some (Value.int .i64 e.first) at e0
 change _=some (Value.int .i64 e.len) at e1
 clear hx h
 go_enter Tryz.func156,Tryz.ntmps156
 go_wp2_with fail
 refine (open_core h' hc n).mono ?_
 rintro r w1 ⟨rfl,⟨ho,rfl⟩ | ⟨k,hks,hkc,rfl,hst,rfl⟩⟩
 ·have HO:Hid (rdCode s n e=5):=by show _=_;unfold rdCode;rw [ho];rfl
  have HS:=Lib.hid (h'.out.unbox hi)
  rw [List.append_nil] at HS
  clear ho h'
  go_wp2
  go_ret2
  exact .inl ⟨by rw [HO.out];decide,by rw [HO.out];rfl,HS⟩
 ·have ho:openB s ((k:Int)+1)=true:=by rw [openB_at hks,hst];rfl
  have ht:=HX.out _ (List.getElem_mem hks)
  have hrc:rdCode s ((k:Int)+1) e=readCode s.blocks s.txs[k].S e:=by unfold rdCode;rw [ho,txOf_at hks];rfl
  have hd:=h'.out.up (below_drewN (Below.refl (w.alloc (.cells #[.int .i64 e.first,.int .i64 e.len] 186)).heap.size (w.alloc (.cells #[.int .i64 e.first,.int .i64 e.len] 186))) 1)
  have t5:=(tx_cells hd hc hks).1 5
  change _=some (Value.pointer (some ⟨(c.cs[k]).vb,0,none⟩)) at t5
  have f0:=hd.box_at hi 0
  have f1:=hd.box_at hi 1
  change _=some (Value.int .i64 e.first) at f0
  change _=some (Value.int .i64 e.len) at f1
  have hlL:(L++[BoxA w.heap.size #[.int .i64 e.first,.int .i64 e.len] 186]).length=L.length+1:=by simp
  have hw:=viewRead_sep (Lib.hid hd) (L.length+1+1) (L.length+1+(5+(4 * k+1))) (L.length+1+(5+(4 * k+2))) (L.length+1+(5+(4 * k+3))) (by simp;omega) (by rw [← hlL];exact OL_get.trans (items_head 1 (by omega))) (by rw [← hlL];exact OL_get.trans (items_tx hc hks 1 (by omega))) (by rw [← hlL];exact OL_get.trans (items_tx hc hks 2 (by omega))) (by rw [← hlL];exact OL_get.trans (items_tx hc hks 3 (by omega)))
   hg hb ht.bg ht.sg (by have:=ht.sl;omega) (by have:=ht.rl;omega) e i1 i2
  have hrn:readCode s.blocks s.txs[k].S e=0→rdNext s ((k:Int)+1) e={ s with txs:=s.txs.set k (rdTx s s.txs[k] e) }:=fun h0=>by
   unfold rdNext
   rw [hrc,if_pos h0,setTx_at,txOf_at hks]
  have hro:rdOut s ((k:Int)+1) e=rowsF (fun i:Nat=>blkV s.vs s.txs[k].buf s.txs[k].at' (e.first+i)) e.len.toNat:=by unfold rdOut;rw [txOf_at hks]
  have hir:=items_read (L:=L++[BoxA w.heap.size #[.int .i64 e.first,.int .i64 e.len] 186]) (i:=i) hc hks (addNext 64 s.txs[k].S [e]) (s.txs[k].R++readsV s.vs s.txs[k].buf s.txs[k].at' e.first e.len.toNat)
  rw [hlL] at hir
  rw [hir] at hw
  have HW:=Lib.hid hw
  have HRC:=Lib.hid hrc
  have HRN:=Lib.hid hrn
  have HRO:=Lib.hid hro
  clear hw hrc hrn hro
  clear ho hst ht hd e0 e1 hir h'
  go_upto_region 4 with fail
  refine wp_regionG (fun W=>W.cell? ⟨(c.cs[k]).tb,5,none⟩=some (.pointer (some ⟨(c.cs[k]).vb,0,none⟩))∧W.cell? ⟨w.heap.size,0,none⟩=some (.int .i64 e.first)∧W.cell? ⟨w.heap.size,1,none⟩=some (.int .i64 e.len)) (n:=10) (by kernel_rfl) (by kernel_rfl) ?_
  refine wpG.tk 0 ?_
  refine wpG.tk 1 ?_
  refine wpG.tk 2 ?_
  refine wpG.tk 3 ?_ (hy:=by intro W hW;have hld0:=hW.1;go_simp;try with_reducible rfl)
  refine wpG.tk 4 ?_ (hy:=by intro W hW;have hld0:=hW.2.1;have hld1:=hW.2.2;go_simp;try with_reducible rfl)
  refine wpG.alone 5 rfl (by kernel_rfl) (by kernel_rfl) ⟨t5,f0,f1⟩ (fun K hK=>?_)
  go_simp
  go_at_call 219
  refine (HW.out).mono ?_
  rintro r w2 (⟨hno,rfl,HS2⟩ | ⟨h0,g,o,cp,rfl,HS2⟩)
  ·have q5:=(tx_cells HS2.out hc hks).1 5
   change _=some (Value.pointer (some ⟨(c.cs[k]).vb,0,none⟩)) at q5
   have q0:=HS2.out.box_at hi 0
   have q1:=HS2.out.box_at hi 1
   change _=some (Value.int .i64 e.first) at q0
   change _=some (Value.int .i64 e.len) at q1
   have HS:=Lib.hid (HS2.out.unbox hi)
   rw [List.append_nil] at HS
   have HNO:=Lib.hid hno
   clear hno
   try go_simp
   refine hK _ _ ?_
   clear hK K
   refine wpG.tk 6 ?_
   refine wpG.tk 7 ?_
   refine wpG.tk 8 ?_
   refine wpG.tk 9 ?_
   refine wpG.done (by kernel_rfl) ⟨q5,q0,q1⟩ ?_
   go_wp2
   go_ret2
   exact .inl ⟨by rw [HRC.out];exact HNO.out,by rw [HRC.out];rfl,HS⟩
  ·have hs3:=HS2.out.shift (by simp;omega)
   rw [List.append_assoc] at hs3
   have hc3:c.cs.length=(s.txs.set k { s.txs[k] with S:=addNext 64 s.txs[k].S [e],R:=s.txs[k].R++readsV s.vs s.txs[k].buf s.txs[k].at' e.first e.len.toNat }).length:=by rw [List.length_set];exact hc
   have q5:=(tx_cells hs3 hc3 (k:=k) (by simpa using hks)).1 5
   change _=some (Value.pointer (some ⟨(c.cs[k]).vb,0,none⟩)) at q5
   have q0:=hs3.box_at hi 0
   have q1:=hs3.box_at hi 1
   change _=some (Value.int .i64 e.first) at q0
   change _=some (Value.int .i64 e.len) at q1
   have HS:=Lib.hid (hs3.unbox hi)
   have H0:=Lib.hid h0
   clear h0 hs3 HS2
   try go_simp
   refine hK _ _ ?_
   clear hK K
   refine wpG.tk 6 ?_
   refine wpG.tk 7 ?_
   refine wpG.tk 8 ?_
   refine wpG.tk 9 ?_
   refine wpG.done (by kernel_rfl) ⟨q5,q0,q1⟩ ?_
   go_wp2
   go_ret2
   refine .inr ⟨by rw [HRC.out];exact H0.out,g,o,cp,rfl,?_⟩
   rw [HRN.out H0.out,HRO.out]
   exact HS
end
end Go.Proofs
namespace Go.Proofs
open Go.RowKit Sc
def bufPuts (s:List (Int × Bytes)):List Put:=(keysUp (s.map (·.1))).map fun k=>⟨k,(alook s k).getD []⟩
def PutsSaid (s:List (Int × Bytes)) (w:World) (e:Ending) (w':World):Prop:=∃ v,e=.returned v∧PutsW (New w w') w' v (bufPuts s)∧Below w.heap.size w w'
set_option maxRecDepth 100000 in
set_option maxHeartbeats 2000000 in
theorem bufPuts_any (F:Nat→Prop) (v:Value) (blocks most:Int) (vs:List (Int × Bytes)) (w:World) (h:BufIs F w v blocks most vs) (hi:∀ x∈vs,I64 x.1) (hl:vs.length≤1000000) (h40:∀ x∈vs,x.2.length≤1000000) :
  Calls Tryz.prog 92 #[v] w (PutsSaid vs w):=by
 obtain ⟨b,r,ml,rfl,_,_,_,hbl,hc0,hc2,hc1,h5,h6⟩:=h.cells
 obtain ⟨i0,hp0,hp1,hp2,hp3⟩:=info_parts infoPut
 have hkk:=AL.keys h6
 have hml:=All2.length h6
 have H5:=Lib.hid h5
 have H6:=Lib.hid h6
 have HKK:=Lib.hid hkk
 have HI:=Lib.hid hi
 have H40:=Lib.hid h40
 have HL:=Lib.hid hl
 have HML:=Lib.hid hml
 have HC0:=Lib.hid hc0
 have HC2:=Lib.hid hc2
 clear h5 h6 hkk hi h40 hl hml hc0 hc2
 clear h
 go_enter Tryz.func92,Tryz.ntmps92
 go_wp2_with fail
 refine (keysDat_any r _).mono ?_
 rintro e w1 ⟨rfl,rfl⟩
 go_wp2_with fail
 refine (sortedDat_any r w.heap.size ml _ (H5.out.alloc _) (fun x hx=>?_) (by have:=HL.out;have:=HML.out;omega) (by simp) (by go_simp)).mono ?_
 ·have:x.1∈vs.map (·.1):=by rw [← HKK.out];exact List.mem_map.2 ⟨x,hx,rfl⟩
  obtain ⟨y,hy,he⟩:=List.mem_map.1 this
  rw [← he];exact HI.out y hy
 rintro e w2 ⟨kv,rfl,hrow,hb2⟩
 rw [HKK.out] at hrow
 have hlen:(keysUp (vs.map (·.1))).length=(vs.map (·.1)).length:=(List.mergeSort_perm _ _).length_eq
 rw [List.length_map] at hlen hrow
 have hb02:=Below.up (below_alloc w _) hb2
 have HLEN:=Lib.hid hlen
 have HROW:=Lib.hid hrow
 have HB02:=Lib.hid hb02
 clear hlen hrow hb02
 clear hb2
 have hki:∀ x∈keysUp (vs.map (·.1)),I64 x∧x∈vs.map (·.1):=by
  intro x hx
  have hx':x∈vs.map (·.1):=(List.mergeSort_perm _ _).subset hx
  obtain ⟨y,hy,he⟩:=List.mem_map.1 hx'
  exact ⟨by rw [← he];exact HI.out y hy,hx'⟩
 have HKI:=Lib.hid hki
 have hints:=intsAt_own (fun _=>True) HLEN.out (fun x hx=>(hki x hx).1) (fun _ _ _=>trivial) HROW.out
 obtain ⟨kp,kc,rfl,hk1,hk2,hk3,hk4⟩:=hints
 rw [HLEN.out] at hk1 ⊢
 have HK4:=Lib.hid hk4
 have hc12:=cell_up HB02.out hc1
 have HAL:=Lib.hid (show (bufPuts vs).length=vs.length by unfold bufPuts;rw [List.length_map];exact HLEN.out)
 clear hk3 hk4 hki
 go_wp2_with fail
 go_loopw [2,14] (fun out i wr=>∃ k:Nat,∃ D,k≤vs.length∧i=.int .i64 k∧Hid (OutS 44 2 putRW w2.heap.size wr out ((bufPuts vs).take k) D)∧Below w2.heap.size w2 wr) (fun _ i _=>vs.length - (intOf i).toNat)
 case atStart=>exact ⟨0,_,by omega,rfl,OutS.nil,Below.refl _ _⟩
 case round =>
  obtain ⟨k,D,hk,rfl,hout,hbk⟩:=hrel
  by_cases hlt:k < vs.length
  ·obtain ⟨g,o,rfl,_,hck,_⟩:=HK4.out k (by rw [HLEN.out];exact hlt)
   rw [Nat.mul_one] at hck
   have hckr:=cell_up hbk hck
   have hc1r:=cell_up hbk hc12
   have hmem:=(HKI.out _ (List.getElem_mem (show k < (keysUp (vs.map (·.1))).length by rw [HLEN.out];exact hlt)))
   have htk:(bufPuts vs).take (k+1)=(bufPuts vs).take k++[⟨(keysUp (vs.map (·.1)))[k]'(by rw [HLEN.out];exact hlt),(alook vs ((keysUp (vs.map (·.1)))[k]'(by rw [HLEN.out];exact hlt))).getD []⟩]:=by
    rw [take_snoc _ k (by rw [HAL.out];exact hlt)]
    simp [bufPuts]
   have hbwr:=Below.up HB02.out hbk
   have hmr:=H5.out.up hbwr
   generalize (keysUp (vs.map (·.1)))[k]'(by rw [HLEN.out];exact hlt)=key at hckr hmem htk
   have hlk:=hmr.lookup (P:=Tryz.prog) Tryz.underlying160 Tryz.underlying3 (Tryz.zeroValue40 _) key false
   have hdat:∃ u d,alook ml key=some u∧alook vs key=some d∧BytesAt (fun k=>F k∧k≠b∧k≠r) w u d:=by
    rcases H6.out.look key with ⟨h,_⟩ | h
    ·exfalso
     rw [← HKK.out] at hmem
     obtain ⟨x,hx,he⟩:=List.mem_map.1 hmem.2
     exact alook_none.1 h x hx he
    ·exact h
   obtain ⟨u,d,hd1,hd2,hd3⟩:=hdat
   rw [hd1] at hlk
   rw [hd2] at htk
   simp only [Option.getD_some,Bool.false_eq_true,if_false] at hlk htk
   have hdl:d.length≤1000000:=H40.out _ (alook_in hd2)
   obtain ⟨dp,dc,rfl⟩:=shape_of hd3 rfl
   have hd3':=hd3.up hbwr
   have hmem':=hmem.1
   have hzr:=hbk.size
   have HOUT:=hout
   have HTK:=Lib.hid htk
   have HDL:=Lib.hid hdl
   have HBK:=Lib.hid hbk
   have HD3':=Lib.hid hd3'
   clear htk hdl hbk hd3'
   clear hd1 hd2 hd3 hmr hbwr hout hck hmem
   go_wp2_with fail
   refine (clone_w _ _ d _ HD3'.out HDL.out).mono ?_
   rintro e w3 ⟨v3,rfl,hnv,hb3⟩
   obtain ⟨np,nc,rfl⟩:=shape_of hnv.bytes rfl
   have hzw3:=hb3.size
   have hownlt:∀ q,Value.ownBlock u2=some q→w2.heap.size≤q∧q < wr.heap.size:=by obtain ⟨xs,hx⟩:=HOUT.out.own;exact fun q hq=>hx.lt q hq
   obtain ⟨css,q1,q2,q3,q4,q5⟩:=(HOUT.out.up putRW_stable hb3).up putRW_stable (below_alloc w3 (.cells #[.int .i64 key,.slice np d.length nc] 44))
   have HQ1:=Lib.hid q1
   have HQ2:=Lib.hid q2
   have HQ4:=Lib.hid q4
   have HQ5:=Lib.hid q5
   have HNV:=Lib.hid hnv
   have HB3:=Lib.hid hb3
   have HOWNLT:=Lib.hid hownlt
   clear q1 q2 q4 q5 hnv hb3 hownlt
   generalize hll:((bufPuts vs).take k).length=ll at q3
   have hll2:ll≤1000000:=by have:=HL.out;rw [← hll,List.length_take,HAL.out];omega
   have HLL:=Lib.hid hll
   have HLL2:=Lib.hid hll2
   clear hll hll2
   go_wp2_with (at_builtin;refine wpList_append_lies _ rfl _ _ 37 rfl w2.heap.size 44 i0 (.agg #[.int .i64 0,.slice none 0 0]) 2 32 Tryz.underlying37 hp0 hp1 hp2 hp3 rfl (by decide) _ ll css.flatten rfl q3 ⟨w3.heap.size,0,none⟩ 1 1 [.int .i64 key,.slice np d.length nc] rfl rfl (World.news_of_block (cs:=#[.int .i64 key,.slice np d.length nc]) (heap_alloc_new w3 _)) (by simp [Value.oneCell']) (by decide) (by have:=HLL2.out;unfold maxLen;omega) (by have:=HLL2.out;omega) (by simp;omega) (w3.heap.size+1) (by simp) ?_;intro gg cap w5 hown5 hgrow5 hat5 hlt5)
   go_roundw
   case rel =>
    refine ⟨k+1,fun b=>D b∨New wr w3 b,by omega,by go_num,?_,?_⟩
    ·unfold Hid
     rw [HTK.out]
     have hll:=HLL.out
     subst hll
     have hg:w3.heap.size+1=(w3.alloc (.cells #[.int .i64 key,.slice np d.length nc] 44)).heap.size:=by simp
     refine OutS.snoc (v:=u2) (D3:=New wr w3) putRW_stable HQ1.out HQ2.out HQ4.out HQ5.out (cs:=[.int .i64 key,.slice np d.length nc]) (x:=⟨key,d⟩) rfl ⟨_,rfl,hmem',HNV.out.up (below_alloc _ _)⟩ (fun q hq=>?_) hown5 hgrow5 (hg ▸ hat5)
     have h1:=hq.1
     have h2:=hq.2
     exact ⟨by omega,by simp;omega,fun e=>by have:=(HOWNLT.out q e).2;omega⟩
    ·have hb1:Below w2.heap.size w2 (w3.alloc (.cells #[.int .i64 key,.slice np d.length nc] 44)):=(HBK.out.trans (HB3.out.mono (by omega))).trans ((below_alloc _ _).mono (by omega))
     exact hb1.grown hgrow5 (by simp;omega) (fun q hq=>(HOWNLT.out q hq).1)
   case measure=>simp [intOf];omega
  ·have hkl:k=vs.length:=by omega
   have HK2:=Lib.hid hkl
   have HBK:=Lib.hid hbk
   clear hkl hbk
   go_wp2_with fail
   go_ret
   have hwz:w.heap.size≤w2.heap.size:=by have:=HB02.out.size;omega
   refine ⟨_,rfl,?_,HB02.out.trans (HBK.out.mono hwz)⟩
   have:=hout.out
   rw [List.take_of_length_le (by rw [HAL.out];have:=HK2.out;omega)] at this
   exact this.putsW fun b h1 h2=>⟨by omega,h2⟩
end Go.Proofs
namespace Go.Proofs
open Go.RowKit Sc
theorem bufPuts_len (s:List (Int × Bytes)):(bufPuts s).length=s.length:=by
 unfold bufPuts keysUp
 rw [List.length_map,(List.mergeSort_perm _ _).length_eq,List.length_map]
theorem putsW_shape {G:Nat→Prop} {w:World} {v:Value} {l:List Put} (h:PutsW G w v l):∃ p c,v=.slice p l.length c:=by
 obtain ⟨p,c,rfl,_⟩:=h;exact ⟨p,c,rfl⟩
theorem bufLen_any (F:Nat→Prop) (v:Value) (blocks most:Int) (s:List (Int × Bytes)) (w:World) (h:BufIs F w v blocks most s) (hi:∀ x∈s,I64 x.1) (hl:s.length≤1000000) (h40:∀ x∈s,x.2.length≤1000000) :
  Calls Tryz.prog 271 #[v] w fun e w'=>e=.returned (.int .i64 s.length)∧Below w.heap.size w w':=by
 have hP:=bufPuts_any F v blocks most s w h hi hl h40
 have HP:=Lib.hid hP
 clear hP
 go_enter Tryz.func271,Tryz.ntmps271
 go_wp2_with fail
 refine (HP.out).mono ?_
 rintro e w1 ⟨pv,rfl,hpv,hb1⟩
 obtain ⟨p,c,rfl⟩:=putsW_shape hpv
 rw [bufPuts_len]
 have HPV:=Lib.hid hpv
 have HB1:=Lib.hid hb1
 clear hpv hb1
 go_wp2_with fail
 go_ret
 exact ⟨rfl,HB1.out⟩
def singles (l:List Put):List Ext:=l.map fun p=>⟨p.lba,1⟩
theorem singles_oke {l:List Put} (h:∀ p∈l,0≤p.lba∧p.lba≤1048575):∀ e∈singles l,Oke e:=fun e he=>by
 obtain ⟨p,hp,rfl⟩:=List.mem_map.1 he
 have:=h p hp
 unfold Oke;simp only;omega
theorem singles_step {most:Int} {l:List Put} {k:Nat} (h:∀ p∈l,0≤p.lba∧p.lba≤1048575) (hk:k < l.length) (hm:(l.length:Int)≤most) :
  addCode most (normE (singles (l.take k))) [⟨l[k].lba,1⟩]=0∧addNext most (normE (singles (l.take k))) [⟨l[k].lba,1⟩]=normE (singles (l.take (k+1)))∧SetG (normE (singles (l.take k)))∧(normE (singles (l.take k))).length≤k:=by
 have ho:=singles_oke (l:=l.take k) fun p hp=>h p (List.mem_of_mem_take hp)
 obtain ⟨g1,g2,g3⟩:=normE_good' ho
 have hlen:(singles (l.take k)).length≤k:=by unfold singles;rw [List.length_map,List.length_take];omega
 have hpk:=h _ (List.getElem_mem hk)
 have ha:allB [(⟨l[k].lba,1⟩:Ext)]=true:=by
  unfold allB
  simp only [List.all_cons,List.all_nil,Bool.and_true]
  exact mayB_iff.2 (by simp only;omega)
 have hs:singles (l.take (k+1))=singles (l.take k)++[⟨l[k].lba,1⟩]:=by unfold singles;rw [take_snoc l k hk,List.map_append];rfl
 have hn:normE (normE (singles (l.take k))++[⟨l[k].lba,1⟩])=normE (singles (l.take (k+1))):=by
  obtain ⟨k1,k2,_⟩:=normE_good' (singles_oke (l:=l.take (k+1)) fun p hp=>h p (List.mem_of_mem_take hp))
  refine normE_ext (fun e he=>?_) k1.1 fun x=>?_
  ·rcases List.mem_append.1 he with he | he
   ·exact g1.1.1 e he
   ·rw [List.mem_singleton] at he;rw [he];exact Int.le_refl 1
  ·rw [k2,hs,cov_append,cov_append,g2]
 have hlen2:=(normE_good' (addOke g1 ha)).2.2
 rw [hn,List.length_append,List.length_singleton] at hlen2
 obtain ⟨h1,h2⟩:=addCode_is (most:=most) g1 ha (by simp) hn
 rw [if_neg (by omega)] at h1 h2
 exact ⟨h1,h2,g1,by omega⟩
def BufSetSaid (l:List Put) (w:World) (e:Ending) (w':World):Prop:=∃ b:Nat,e=.returned (.pointer (some ⟨b,0,none⟩))∧SetIs (New w w') w' (.pointer (some ⟨b,0,none⟩)) l.length (normE (singles l))∧Below w.heap.size w w'
def PutsA (v:Value) (l:List Put):Asn:=⟨fun F w=>PutsAt F w v l,fun _ _ _ hs _ h=>h.same hs⟩
set_option maxRecDepth 100000 in
set_option maxHeartbeats 2000000 in
theorem bufSet_gen (v:Value) (l:List Put) (w:World) (hP:Calls Tryz.prog 92 #[v] w fun e w'=>∃ pv,e=.returned pv∧Hid (PutsAt (New w w') w' pv l)∧Hid (Below w.heap.size w w')) (hl:∀ p∈l,0≤p.lba∧p.lba≤1048575) (hn:l.length≤40000) :
  Calls Tryz.prog 328 #[v] w (BufSetSaid l w):=by
 have HP:=Lib.hid hP
 have HL:=Lib.hid hl
 clear hP hl
 go_enter Tryz.func328,Tryz.ntmps328
 go_wp2_with fail
 refine (HP.out).mono ?_
 rintro e w1 ⟨pv,rfl,HPV,HB1⟩
 have hS1:=(Sep.start w).new HB1.out (PutsA pv l) (fun _ h=>h) HPV.out
 obtain ⟨p,c,rfl,_,_,_,_⟩:=HPV.out
 have HS1:=Lib.hid hS1
 clear hS1
 go_wp2_with fail
 refine (setNew_sep HS1.out l.length).mono ?_
 rintro e w2 ⟨b,rfl,HS2⟩
 go_wp2_with fail
 go_loopw [14] (fun i wr=>∃ k:Nat,k≤l.length∧i=.int .i64 k∧Hid (Sep w [OldA w,PutsA (.slice p l.length c) l,SetA (.pointer (some ⟨b,0,none⟩)) l.length (normE (singles (l.take k)))] wr)) (fun i _=>l.length - (intOf i).toNat)
 case atStart=>exact ⟨0,by omega,rfl,by rw [List.take_zero,show singles []=[] from rfl,normE_nil];exact HS2⟩
 case round =>
  obtain ⟨k,hk,rfl,HS⟩:=hrel
  by_cases hlt:k < l.length
  case neg =>
   obtain rfl:k=l.length:=by omega
   have hold:=HS.out.old
   obtain ⟨F,hF,hFN⟩:=HS.out.get_new 2 (by decide) rfl
   rw [List.take_length] at hF
   have HOLD:=Lib.hid hold
   have HF:=Lib.hid hF
   have HFN:=Lib.hid hFN
   clear hold hF hFN
   go_wp2_with fail
   go_ret
   refine ⟨b,rfl,?_,HOLD.out⟩
   obtain ⟨⟨b',sv,h1,h2,h3,h4⟩,hd⟩:=HF.out
   exact ⟨⟨b',sv,h1,HFN.out _ h2,h3,SlAt.mono h4 HFN.out (fun _ _ _ h=>h)⟩,fun k hk=>hk.2⟩
  case pos =>
   obtain ⟨F1,hF1,_⟩:=HS.out.get 1 rfl
   obtain ⟨p',c',he,_,_,_,h4⟩:=hF1
   cases he
   obtain ⟨g,o,rfl,_,hca,hci,dv,hcb,hd⟩:=h4 k hlt
   obtain ⟨hc1,hn1,hg1,hl1⟩:=singles_step HL.out hlt (Int.le_refl _)
   obtain ⟨dp,dc,rfl⟩:=shape_of hd rfl
   generalize l[k]=x at *
   have hba:=below_alloc wr (.cells #[.int .i64 x.lba,.slice dp x.data.length dc] 44)
   have hka:(wr.alloc (.cells #[.int .i64 x.lba,.slice dp x.data.length dc] 44)).cell? ⟨wr.heap.size,0,none⟩=some (.int .i64 x.lba):=by rw [cell_row (heap_alloc_new wr _)];rfl
   have hSa:=HS.out.up hba
   have HSA:=Lib.hid hSa
   have HC1:=Lib.hid hc1
   have HN1:=Lib.hid hn1
   have HG1:=Lib.hid hg1
   have HL1:=Lib.hid hl1
   have HCI:=Lib.hid hci
   clear hSa hc1 hn1 hg1 hl1 hci
   clear h4 hba hd
   go_wp2_with fail
   refine (setAdd_at HSA 2 rfl x.lba 1 HCI.out (i64_small (by omega)) HG1.out (by have:=HL1.out;omega) (wr.heap.size+1) (by simp)).mono ?_
   rintro e w3 ⟨rfl,HS3⟩
   rw [HC1.out]
   rw [HN1.out] at HS3
   go_wp2_with fail
   go_roundw
   case rel=>exact ⟨k+1,by omega,by go_num,HS3⟩
   case measure=>simp [intOf];omega
end Go.Proofs
namespace Go.Proofs
open Go.RowKit Sc
def ordFrom (last:Int):List Tx→Bool
 | []=>true
 | t :: l=>decide (last < t.time) && decide (t.time≤1099511627776) && riseB t.puts && ordFrom t.time l
theorem riseB_ge {l:List Put} {j:Nat} (h:j+1 < l.length) (hle:(l.map (·.lba)).getD (j+1) 0≤(l.map (·.lba)).getD j 0):riseB l=false:=by
 unfold riseB
 rw [Bool.and_eq_false_iff];right
 rw [List.all_eq_false]
 exact ⟨j,List.mem_range.2 (by omega),by simp;simpa using hle⟩
theorem riseB_all {l:List Put} (h0:0 < l.length) (h:∀ i,i+1 < l.length→(l.map (·.lba)).getD i 0 < (l.map (·.lba)).getD (i+1) 0):riseB l=true:=by
 unfold riseB
 rw [Bool.and_eq_true,decide_eq_true_eq,List.all_eq_true]
 exact ⟨h0,fun i hi=>decide_eq_true (h i (by have:=List.mem_range.1 hi;omega))⟩
theorem riseB_empty {l:List Put} (h:l.length=0):riseB l=false:=by
 unfold riseB
 rw [decide_eq_false (by omega),Bool.false_and]
set_option maxRecDepth 100000 in
set_option maxHeartbeats 2000000 in
theorem order_any (G:Nat→Prop) (v:Value) (l:List Tx) (w:World) (hG:Dom G w) (hv:TxsAt G w v l):Calls Tryz.prog 223 #[v] w fun e w'=>e=.returned (.bool (ordFrom 0 l))∧Below w.heap.size w w':=by
 obtain ⟨p,c,rfl,h1,h2,h3,h4⟩:=hv
 have H4:=Lib.hid h4
 clear h4
 clear h3
 go_enter Tryz.func223,Tryz.ntmps223
 go_wp2_with fail
 go_loopw [3,9] (fun lv i wr=>∃ k:Nat,∃ last:Int,k≤l.length∧i=.int .i64 k∧lv=.int .i64 last∧Hid (ordFrom 0 l=ordFrom last (l.drop k))∧Hid (Below w.heap.size w wr)) (fun _ i _=>l.length - (intOf i).toNat)
 case atStart=>exact ⟨0,0,by omega,rfl,rfl,rfl,Below.refl _ _⟩
 case round =>
  obtain ⟨k,last,hk,rfl,rfl,HO,HB⟩:=hrel
  by_cases hlt:k < l.length
  case neg =>
   obtain rfl:k=l.length:=by omega
   have ho:=HO.out
   rw [List.drop_length] at ho
   have ho':ordFrom 0 l=true:=ho
   have HO:=Lib.hid ho
   have HO':=Lib.hid ho'
   clear ho ho'
   go_wp2_with fail
   go_ret
   exact ⟨congrArg boolRet HO'.out.symm,HB.out⟩
  case pos =>
   obtain ⟨g,o,rfl,hg,hte⟩:=H4.out k hlt
   obtain ⟨pv,hct,hcp,⟨_,he,hti,hpu⟩,_⟩:=txE_txAt hte
   cases he
   obtain ⟨pp,pc,rfl,q1,q2,_,q4⟩:=hpu
   have hct':=(HB.out.cell (p:=⟨g,o+k * 2,none⟩) (hG g hg)).trans hct
   have hcp':=(HB.out.cell (p:=⟨g,o+k * 2+1,none⟩) (hG g hg)).trans hcp
   have ho:=HO.out
   rw [List.drop_eq_getElem_cons hlt] at ho
   generalize l[k]=t at *
   have hstep:ordFrom last (t :: l.drop (k+1))=(decide (last < t.time) && decide (t.time≤1099511627776) && riseB t.puts && ordFrom t.time (l.drop (k+1))):=rfl
   rw [hstep] at ho
   have hba:=below_alloc wr (.cells #[.int .i64 t.time,.slice pp t.puts.length pc] 198)
   have hka:(wr.alloc (.cells #[.int .i64 t.time,.slice pp t.puts.length pc] 198)).cell? ⟨wr.heap.size,0,none⟩=some (.int .i64 t.time):=by rw [cell_row (heap_alloc_new wr _)];rfl
   have hkb:(wr.alloc (.cells #[.int .i64 t.time,.slice pp t.puts.length pc] 198)).cell? ⟨wr.heap.size,1,none⟩=some (.slice pp t.puts.length pc):=by rw [cell_row (heap_alloc_new wr _)];rfl
   have hwa:=Below.up HB.out hba
   have HQ4:=Lib.hid q4
   have HBA:=Lib.hid hba
   have HWA:=Lib.hid hwa
   clear q4 hba hwa
   clear hstep hct hcp hte
   by_cases c1:last < t.time
   case neg =>
    rw [decide_eq_false c1,Bool.false_and,Bool.false_and,Bool.false_and] at ho
    have c1':t.time≤last:=by omega
    have HO:=Lib.hid ho
    clear ho
    clear c1
    go_wp2_with fail
    go_ret
    exact ⟨congrArg boolRet HO.out.symm,HWA.out⟩
   by_cases c2:t.time≤1099511627776
   case neg =>
    rw [decide_eq_false c2,Bool.and_false,Bool.false_and,Bool.false_and] at ho
    have c2':1099511627776 < t.time:=by omega
    have HO:=Lib.hid ho
    clear ho
    clear c2
    go_wp2_with fail
    go_ret
    exact ⟨congrArg boolRet HO.out.symm,HWA.out⟩
   rw [decide_eq_true c1,decide_eq_true c2,Bool.true_and,Bool.true_and] at ho
   by_cases hz:t.puts.length=0
   case pos =>
    rw [riseB_empty hz,Bool.false_and] at ho
    have hz0:((t.puts.length:Int) == 0)=true:=by rw [beq_iff_eq];omega
    have HO:=Lib.hid ho
    have HZ:=Lib.hid hz
    clear ho hz
    go_wp2_with fail
    go_ret
    exact ⟨congrArg boolRet HO.out.symm,HWA.out⟩
   case neg =>
    have hz0:((t.puts.length:Int) == 0)=false:=by rw [beq_eq_false_iff_ne];omega
    have hpos:1≤t.puts.length:=by omega
    have hgd:∀ i (h:i < t.puts.length),(t.puts.map (·.lba)).getD i 0=t.puts[i].lba:=fun i h=>by simp [List.getD,h]
    have hge:=fun j=>riseB_ge (l:=t.puts) (j:=j)
    have hal:=riseB_all (l:=t.puts) (by omega)
    have HO:=Lib.hid ho
    have HGD:=Lib.hid hgd
    have HGE:=Lib.hid hge
    have HAL:=Lib.hid hal
    clear ho hgd hge hal
    obtain ⟨W4,rfl⟩:∃ W4:World,W4=wr:=⟨_,rfl⟩
    go_wp2_with fail
    go_loopw [6] (fun jv wr=>∃ m:Nat,1≤m∧m≤t.puts.length∧jv=.int .i64 m∧Hid (Below (W4.alloc (.cells #[.int .i64 t.time,.slice pp t.puts.length pc] 198)).heap.size (W4.alloc (.cells #[.int .i64 t.time,.slice pp t.puts.length pc] 198)) wr)∧Hid (∀ i,i+1 < m→(t.puts.map (·.lba)).getD i 0 < (t.puts.map (·.lba)).getD (i+1) 0)) (fun jv _=>t.puts.length - (intOf jv).toNat)
    case atStart=>exact ⟨1,by omega,by omega,rfl,Below.refl _ _,fun i hi=>by omega⟩
    case round =>
     obtain ⟨m,hm1,hm2,rfl,HB2,HA⟩:=hrel
     have hkb':=cell_up HB2.out hkb
     have hbe:=Below.up HWA.out HB2.out
     by_cases hlt2:m < t.puts.length
     case neg =>
      obtain rfl:m=t.puts.length:=by omega
      have ho:=HO.out
      rw [HAL.out HA.out,Bool.true_and] at ho
      have HO:=Lib.hid ho
      have HBE:=Lib.hid hbe
      clear ho hbe
      go_wp2_with fail
      go_roundw
      case rel=>exact ⟨k+1,t.time,by omega,by go_num,rfl,HO.out,HBE.out⟩
      case measure=>simp [intOf];omega
     case pos =>
      obtain ⟨j,rfl⟩:∃ j,m=j+1:=⟨m - 1,by omega⟩
      obtain ⟨b1,o1,rfl,hb1,hc1,_⟩:=HQ4.out (j+1) hlt2
      obtain ⟨_,_,hp,_,hc0,_⟩:=HQ4.out j (by omega)
      cases hp
      have hc1':=(hbe.cell (p:=⟨b1,o1+(j+1) * 2,none⟩) (hG b1 hb1)).trans hc1
      have hc0':=(hbe.cell (p:=⟨b1,o1+j * 2,none⟩) (hG b1 hb1)).trans hc0
      rw [← HGD.out (j+1) hlt2] at hc1'
      rw [← HGD.out j (by omega)] at hc0'
      have hno:=HGE.out j hlt2
      have ha:=HA.out
      have hst:(t.puts.map (·.lba)).getD j 0 < (t.puts.map (·.lba)).getD (j+1) 0→∀ i,i+1 < j+1+1→(t.puts.map (·.lba)).getD i 0 < (t.puts.map (·.lba)).getD (i+1) 0:=by
       intro h i hi
       by_cases e:i=j
       ·subst e;exact h
       ·exact ha i (by omega)
      have ho:=HO.out
      generalize (t.puts.map (·.lba)).getD j 0=x at hc0' hno hst
      generalize (t.puts.map (·.lba)).getD (j+1) 0=y at hc1' hno hst
      have hej:(((j+1:Nat):Int) - 1)=(j:Int):=by omega
      have hw1:IntKind.i64.wrap (((j+1:Nat):Int) - 1)=(j:Int):=by rw [hej];exact IntWalk.i64_in _ (by omega)
      have HNO:=Lib.hid hno
      have HST:=Lib.hid hst
      have HO:=Lib.hid ho
      have HBE:=Lib.hid hbe
      clear hno hst ho hbe
      clear hc1 hc0 ha
      by_cases hle:y≤x
      ·have hf:=HO.out
       rw [HNO.out hle,Bool.false_and] at hf
       have HF:=Lib.hid hf
       clear hf
       go_wp2
       go_quiet (fail)
       go_wp2
       go_ret
       exact ⟨congrArg boolRet HF.out.symm,below_drewN HBE.out _⟩
      ·have hle2:x < y:=by omega
       clear hle
       go_wp2
       go_quiet (fail)
       go_wp2
       go_roundw
       case rel=>exact ⟨j+1+1,by omega,by omega,by go_num,below_drewN HB2.out _,HST.out hle2⟩
       case measure=>simp [intOf];omega
end Go.Proofs
namespace Go.Proofs
open Go.RowKit Sc
theorem extWritten_big (F:Nat→Prop) (v:Value) (blocks last:Int) (vs:Vers) (a n t:Int) (w:World) (h:ExtIs F w v blocks last vs) (h1:1≤blocks) (ha:0≤a) (ha2:a≤1048576) (hn:1048576 < n) (hn2:n≤1048577 - a) :
  Calls Tryz.prog 366 #[v,.agg #[.int .i64 a,.int .i64 n],.int .i64 t] w fun e w'=>e=.returned (.bool false)∧Below w.heap.size w w':=by
 have hb0:=below_alloc w (.cells #[.int .i64 a,.int .i64 n] 186)
 have hw1:IntKind.i64.wrap (1048577 - a)=1048577 - a:=IntWalk.i64_in _ (by omega)
 have H:=Lib.hid (h.up hb0)
 obtain ⟨b,r,ml,rfl,hb,_⟩:=(h.up hb0).cells
 have HB0:=Lib.hid hb0
 clear hb0
 clear h
 go_enter Tryz.func366,Tryz.ntmps366
 go_wp2_with fail
 refine (extGone_any F _ _ _ _ _ H.out h1).mono ?_
 rintro e w1 ⟨rfl,rfl⟩
 go_wp2
 go_ret
 exact ⟨rfl,HB0.out⟩
def wrB (vs:Vers) (x:Ext) (t:Int):Bool:=decide (x.len≤1048576) && writtenB vs x.first x.len t
theorem extWritten_oke (F:Nat→Prop) (v:Value) (blocks last:Int) (vs:Vers) (x:Ext) (t:Int) (w:World) (h:ExtIs F w v blocks last vs) (h1:1≤blocks) (hne:∀ x∈vs,x.2≠[]) (hk:∀ x∈vs,I64 x.1∧0≤x.1) (hx:Oke x) :
  Calls Tryz.prog 366 #[v,.agg #[.int .i64 x.first,.int .i64 x.len],.int .i64 t] w fun e w'=>e=.returned (.bool (wrB vs x t))∧Below w.heap.size w w':=by
 obtain ⟨o1,o2,o3,o4⟩:=hx
 unfold wrB
 by_cases hl:x.len≤1048576
 ·rw [decide_eq_true hl,Bool.true_and]
  exact extWritten_any F v blocks last vs x.first x.len t w h h1 hne hk o1 o2 o3 (by omega) hl
 ·rw [decide_eq_false hl,Bool.false_and]
  exact extWritten_big F v blocks last vs x.first x.len t w h h1 o1 o2 (by omega) (by omega)
theorem good_ne {blocks last:Int} {vs:Vers} (h:GoodE blocks last vs):∀ x∈vs,x.2≠[]:=fun x hx=>(h.ts x.1 x.2 (alook_mem h.nd hx)).1
theorem good_key {blocks last:Int} {vs:Vers} (h:GoodE blocks last vs) (hb:blocks≤1048576):∀ x∈vs,I64 x.1∧0≤x.1:=fun x hx=>by have:=h.ks x hx;unfold I64;omega
def againstB (l:List Ext) (t:Tx):Bool:=t.puts.any fun p=>hasB l p.lba
theorem againstC_any (G F:Nat→Prop) (x:Put) (ev:Value) (bx b:Nat) (most:Int) (l:List Ext) (W:World) (he:putV G W ev x) (h0:W.cell? ⟨bx,0,none⟩=some (.pointer (some ⟨b,0,none⟩))) (hs:SetIs F W (.pointer (some ⟨b,0,none⟩)) most l) (ho:∀ e∈l,Oke e) :
  Calls Tryz.prog 384 #[ev,.pointer (some ⟨bx,0,none⟩)] W fun e w'=>e=.returned (.bool (hasB l x.lba))∧Below W.heap.size W w':=by
 obtain ⟨dv,rfl,hi,hd⟩:=he
 obtain ⟨dp,dc,rfl⟩:=shape_of hd rfl
 have hb0:=below_alloc W (.cells #[.int .i64 x.lba,.slice dp x.data.length dc] 44)
 have hk0:(W.alloc (.cells #[.int .i64 x.lba,.slice dp x.data.length dc] 44)).cell? ⟨W.heap.size,0,none⟩=some (.int .i64 x.lba):=by rw [cell_row (heap_alloc_new W _)];rfl
 have h0':=cell_up hb0 h0
 have hs':=hs.up hb0
 have hhas:=setHas_any F _ most l x.lba _ hs' ho hi
 have HB0:=Lib.hid hb0
 have HS':=Lib.hid hs'
 have HHAS:=Lib.hid hhas
 have HI:=Lib.hid hi
 clear hb0 hs' hhas hi
 clear h0 hd hs
 go_enter Tryz.func384,Tryz.ntmps384
 go_wp2_with fail
 refine (HHAS.out).mono ?_
 rintro e w1 ⟨rfl,hb1⟩
 have hb2:=Below.up HB0.out hb1
 have HB1:=Lib.hid hb1
 have HB2:=Lib.hid hb2
 clear hb1 hb2
 go_wp2
 go_ret
 exact ⟨rfl,HB2.out⟩
theorem against_any (G F:Nat→Prop) (t:Tx) (tv:Value) (v:Value) (most:Int) (l:List Ext) (w:World) (hG:Dom G w) (ht:TxAt G w tv t) (hs:SetIs F w v most l) (ho:∀ e∈l,Oke e) :
  Calls Tryz.prog 367 #[tv,v] w fun e w'=>e=.returned (.bool (againstB l t))∧Below w.heap.size w w':=by
 obtain ⟨pv,rfl,hti,hp⟩:=ht
 obtain ⟨pp,pc,rfl⟩:∃ pp pc,pv=.slice pp t.puts.length pc:=by obtain ⟨p,c,rfl,_⟩:=hp;exact ⟨p,c,rfl⟩
 obtain ⟨b,p,c,rfl,_⟩:=hs.cells
 have hb0:Below w.heap.size w ((w.alloc (.cells #[.int .i64 t.time,.slice pp t.puts.length pc] 198)).alloc (.cells #[.pointer (some ⟨b,0,none⟩)] 248)):=Below.up (below_alloc w _) (below_alloc _ _)
 obtain ⟨W,hW⟩:∃ W,(w.alloc (.cells #[.int .i64 t.time,.slice pp t.puts.length pc] 198)).alloc (.cells #[.pointer (some ⟨b,0,none⟩)] 248)=W:=⟨_,rfl⟩
 have hk1:W.cell? ⟨w.heap.size,1,none⟩=some (.slice pp t.puts.length pc):=by
  rw [← hW]
  refine cell_up (below_alloc _ _) ?_
  rw [cell_row (heap_alloc_new w _)];rfl
 have hk2:W.cell? ⟨w.heap.size+1,0,none⟩=some (.pointer (some ⟨b,0,none⟩)):=by
  rw [← hW]
  have:=heap_alloc_new (w.alloc (.cells #[.int .i64 t.time,.slice pp t.puts.length pc] 198)) (.cells #[.pointer (some ⟨b,0,none⟩)] 248)
  rw [show (w.alloc (.cells #[.int .i64 t.time,.slice pp t.puts.length pc] 198)).heap.size=w.heap.size+1 by simp] at this
  rw [cell_row this];rfl
 rw [hW] at hb0
 have hpW:=PutsAt.up hp hb0
 have hsW:=hs.up hb0
 have hGW:=hG.below hb0
 have hdef:againstB l t=t.puts.any fun p=>hasB l p.lba:=rfl
 have HB0:=Lib.hid hb0
 have HPW:=Lib.hid hpW
 have HSW:=Lib.hid hsW
 have HGW:=Lib.hid hGW
 have HO:=Lib.hid ho
 have HDEF:=Lib.hid hdef
 have HW:=Lib.hid hW
 have HK2:=Lib.hid hk2
 clear hb0 hpW hsW hGW ho hdef hW hk2
 clear hp hs hG
 go_enter Tryz.func367,Tryz.ntmps367
 go_upto_region 1 with fail
 rw [HW.out]
 have hk2:=HK2.out
 go_wp2_with fail
 refine (anyPut_any G _ t.puts (fun p=>hasB l p.lba) 384 #[.pointer (some ⟨w.heap.size+1,0,none⟩)] (by go_simp) _ HGW.out HPW.out (fun i hi W' ev hb hev=>againstC_any G F _ ev _ b most l W' hev (cell_up hb HK2.out) (HSW.out.up hb) HO.out)).mono ?_
 rintro e w1 ⟨rfl,hb1⟩
 have hb2:=Below.up HB0.out hb1
 have HB1:=Lib.hid hb1
 have HB2:=Lib.hid hb2
 clear hb1 hb2
 go_wp2
 go_ret
 exact ⟨congrArg boolRet HDEF.out.symm,HB2.out⟩
def hitsB (vs:Vers) (queue:List Tx) (t:Int) (l:List Ext):Bool:=(l.any fun x=>wrB vs x t) || queue.any fun q=>againstB l q
def checkCode (vs:Vers) (queue:List Tx) (t:Int) (r wr:List Ext):Int:=if cntE wr=0 then 0 else if hitsB vs queue t r || hitsB vs queue t wr then 8 else 0
theorem idx0 (p q:Option Addr) (w:World):(Instr.index 439 (.agg #[.pointer p,.pointer q]) (.int .i64 0)).run Tryz.prog w=.ok (.pointer p) w:=by kernel_rfl
theorem idx1 (p q:Option Addr) (w:World):(Instr.index 439 (.agg #[.pointer p,.pointer q]) (.int .i64 1)).run Tryz.prog w=.ok (.pointer q) w:=by kernel_rfl
theorem any_take_next {α:Type} {p:α→Bool} {l:List α} {k:Nat} (h:(l.take k).any p=false) (hk:k < l.length) (hp:p l[k]=false):(l.take (k+1)).any p=false:=by
 rw [take_snoc l k hk,List.any_append,h]
 simp [hp]
theorem any_hit {α:Type} {p:α→Bool} {l:List α} {k:Nat} (hk:k < l.length) (hp:p l[k]=true):l.any p=true:=List.any_eq_true.2 ⟨_,List.getElem_mem hk,hp⟩
set_option maxRecDepth 100000 in
set_option maxHeartbeats 3000000 in
theorem check_any (Fm Fr Fw G:Nat→Prop) (mv qv rv wv:Value) (blocks last t m1 m2:Int) (vs:Vers) (queue:List Tx) (r l:List Ext) (w:World) (hm:ExtIs Fm w mv blocks last vs) (h1:1≤blocks) (hg:GoodE blocks last vs) (hb:blocks≤1048576)
  (hG:Dom G w) (hq:TxsAt G w qv queue) (hr:SetIs Fr w rv m1 r) (hl:SetIs Fw w wv m2 l) (gr:SetG r) (gl:SetG l) (nr:r.length≤1000000) (nl:l.length≤1000000) :
  Calls Tryz.prog 326 #[mv,qv,.int .i64 t,rv,wv] w fun e w'=>e=.returned (.int .i64 (checkCode vs queue t r l))∧Below w.heap.size w w':=by
 have hcnt:=setCount_any Fw wv m2 l w hl gl.2 nl
 have hne:=good_ne hg
 have hk:=good_key hg hb
 obtain ⟨qp,qc,rfl⟩:∃ qp qc,qv=.slice qp queue.length qc:=by obtain ⟨p,c,rfl,_⟩:=hq;exact ⟨p,c,rfl⟩
 obtain ⟨br,_,_,rfl,_⟩:=hr.cells
 obtain ⟨bw,_,_,rfl,_⟩:=hl.cells
 obtain ⟨bm,_,_,rfl,_⟩:=hm.cells
 have hdef:checkCode vs queue t r l=if cntE l=0 then 0 else if hitsB vs queue t r || hitsB vs queue t l then 8 else 0:=rfl
 have HCNT:=Lib.hid hcnt
 have HNE:=Lib.hid hne
 have HK:=Lib.hid hk
 have HM:=Lib.hid hm
 have HQ:=Lib.hid hq
 have HR:=Lib.hid hr
 have HL:=Lib.hid hl
 have HGR:=Lib.hid gr
 have HGL:=Lib.hid gl
 have HG:=Lib.hid hG
 clear hcnt hne hk hm hq hr hl gr gl hG
 clear hg
 by_cases hc0:cntE l=0
 case pos =>
  rw [if_pos hc0] at hdef
  have HDEF:=Lib.hid hdef
  clear hdef
  go_enter Tryz.func326,Tryz.ntmps326
  go_wp2_with fail
  try (go_step3;go_wp2_with fail)
  refine (HCNT.out).mono ?_
  rintro e w1 ⟨rfl,hb1⟩
  rw [hc0]
  have HB1:=Lib.hid hb1
  clear hb1
  go_wp2
  try rw [Exit.noGoto_ret]
  go_ret
  rw [HDEF.out]
  exact ⟨rfl,HB1.out⟩
 case neg =>
  rw [if_neg hc0] at hdef
  have hc0':(cntE l == 0)=false:=by rw [beq_eq_false_iff_ne];exact hc0
  have HDEF:=Lib.hid hdef
  clear hdef
  go_enter Tryz.func326,Tryz.ntmps326
  go_wp2_with fail
  try (go_step3;go_wp2_with fail)
  refine (HCNT.out).mono ?_
  rintro e w1 ⟨rfl,hb1⟩
  generalize cntE l=cn at *
  have HB1:=Lib.hid hb1
  clear hb1
  go_wp2_with fail
  try (go_step3;go_wp2_with fail)
  have hi0:=fun W=>idx0 (some ⟨br,0,none⟩) (some ⟨bw,0,none⟩) W
  have hi1:=fun W=>idx1 (some ⟨br,0,none⟩) (some ⟨bw,0,none⟩) W
  go_loopw [11,24] (fun ev i wr=>∃ k:Int,0≤k∧k≤2∧ev=.int .i64 0∧i=.int .i64 k∧Hid (Below w.heap.size w wr)∧Hid (1≤k→hitsB vs queue t r=false)∧Hid (2≤k→hitsB vs queue t l=false)) (fun _ i _=>2 - (intOf i).toNat)
  case atStart=>exact ⟨0,by omega,by omega,rfl,rfl,HB1.out,fun h=>absurd h (by omega),fun h=>absurd h (by omega)⟩
  case round =>
   obtain ⟨k,hk0,hk2,rfl,rfl,HB,HH1,HH2⟩:=hrel
   rcases (show k=0∨k=1∨k=2 by omega) with rfl | rfl | rfl
   case inr.inr =>
    have hd:=HDEF.out
    rw [HH1.out (by omega),HH2.out (by omega)] at hd
    simp only [Bool.or_false,Bool.false_eq_true,if_false] at hd
    have HD:=Lib.hid hd
    clear hd
    go_wp2_with fail
    try rw [Exit.noGoto_ret]
    go_ret
    rw [HD.out]
    exact ⟨rfl,HB.out⟩
   case' inl =>
    have hset0:=HR.out.up HB.out
    have hhit0:hitsB vs queue t r=true→checkCode vs queue t r l=8:=fun h=>by rw [HDEF.out,h];rfl
    obtain ⟨kn,hkn,hkn0,hkn2,hmiss0⟩:∃ kn:Int,IntKind.i64.wrap ((0:Int)+1)=kn∧0≤kn∧kn≤2∧(hitsB vs queue t r=false→(1≤kn→hitsB vs queue t r=false)∧(2≤kn→hitsB vs queue t l=false)):=⟨1,by rw [IntWalk.i64_in _ (by omega)];rfl,by omega,by omega,fun h=>⟨fun _=>h,fun h=>absurd h (by omega)⟩⟩
    have hke:kn=1:=by rw [IntWalk.i64_in _ (by omega)] at hkn;omega
    obtain ⟨X,F,most,hset,hgs,hns,hhit,hmiss⟩:∃ X F most,SetIs F wr (.pointer (some ⟨br,0,none⟩)) most X∧SetG X∧X.length≤1000000∧(hitsB vs queue t X=true→checkCode vs queue t r l=8)∧(hitsB vs queue t X=false→(1≤kn→hitsB vs queue t r=false)∧(2≤kn→hitsB vs queue t l=false)):=⟨r,Fr,m1,hset0,HGR.out,nr,hhit0,hmiss0⟩
    have HKN0:=Lib.hid hkn0
    have HKN2:=Lib.hid hkn2
    have HKE:=Lib.hid hke
    have HKN:=Lib.hid hkn
    clear hkn0 hkn2 hke hkn
    clear hset0 hhit0 hmiss0
   case' inr.inl =>
    have hset0:=HL.out.up HB.out
    have hhit0:hitsB vs queue t l=true→checkCode vs queue t r l=8:=fun h=>by rw [HDEF.out,h,Bool.or_true];rfl
    obtain ⟨kn,hkn,hkn0,hkn2,hmiss0⟩:∃ kn:Int,IntKind.i64.wrap ((1:Int)+1)=kn∧0≤kn∧kn≤2∧(hitsB vs queue t l=false→(1≤kn→hitsB vs queue t r=false)∧(2≤kn→hitsB vs queue t l=false)):=⟨2,by rw [IntWalk.i64_in _ (by omega)];rfl,by omega,by omega,fun h=>⟨fun _=>HH1.out (by omega),fun _=>h⟩⟩
    have hke:kn=2:=by rw [IntWalk.i64_in _ (by omega)] at hkn;omega
    obtain ⟨X,F,most,hset,hgs,hns,hhit,hmiss⟩:∃ X F most,SetIs F wr (.pointer (some ⟨bw,0,none⟩)) most X∧SetG X∧X.length≤1000000∧(hitsB vs queue t X=true→checkCode vs queue t r l=8)∧(hitsB vs queue t X=false→(1≤kn→hitsB vs queue t r=false)∧(2≤kn→hitsB vs queue t l=false)):=⟨l,Fw,m2,hset0,HGL.out,nl,hhit0,hmiss0⟩
    have HKN0:=Lib.hid hkn0
    have HKN2:=Lib.hid hkn2
    have HKE:=Lib.hid hke
    have HKN:=Lib.hid hkn
    clear hkn0 hkn2 hke hkn
    clear hset0 hhit0 hmiss0
   all_goals
    have hext:=setExtents_any _ _ _ _ _ hset hns
    have HSET:=Lib.hid hset
    have HGS:=Lib.hid hgs
    have HHIT:=Lib.hid hhit
    have HMISS:=Lib.hid hmiss
    have HEXT:=Lib.hid hext
    clear hset hgs hhit hmiss hext
    go_wp2_with fail
    refine (HEXT.out).mono ?_
    rintro e w2 ⟨p2,c2,rfl,hx2,hb2⟩
    have hb02:=Below.up HB.out hb2
    have HX2:=Lib.hid hx2
    have HB2:=Lib.hid hb2
    have HB02:=Lib.hid hb02
    clear hx2 hb2 hb02
    obtain ⟨W2,rfl⟩:∃ W2:World,W2=w2:=⟨_,rfl⟩
    go_wp2_with fail
    go_loopw [11,30] (fun ev j wr=>∃ m:Nat,m≤X.length∧ev=.int .i64 0∧j=.int .i64 m∧Hid (Below w.heap.size w wr)∧Hid (Below W2.heap.size W2 wr)∧Hid ((X.take m).any (fun x=>wrB vs x t)=false)) (fun _ j _=>X.length - (intOf j).toNat)
    case atStart=>exact ⟨0,by omega,rfl,rfl,HB02.out,Below.refl _ _,rfl⟩
    case round =>
     obtain ⟨m,hm2,rfl,rfl,HBA,HBB,HN⟩:=hrel
     by_cases hlt:m < X.length
     case pos =>
      obtain ⟨p',c',he',_,_,_,h4⟩:=ExtsAt.up HX2.out HBB.out
      cases he'
      obtain ⟨g,o,rfl,_,hca,hcb,hia,hib⟩:=h4 m hlt
      have hok:=HGS.out.2 _ (List.getElem_mem hlt)
      have hnx:=any_take_next (p:=fun x=>wrB vs x t) HN.out hlt
      have hht:=any_hit (p:=fun x=>wrB vs x t) hlt
      generalize X[m]=x at *
      have hba:=below_alloc wr (.cells #[.int .i64 x.first,.int .i64 x.len] 186)
      have hwt:=extWritten_oke Fm _ blocks last vs x t _ ((HM.out.up HBA.out).up hba) h1 HNE.out HK.out hok
      have hbA:=Below.up HBA.out hba
      have hbB:=Below.up HBB.out hba
      have hmI:(m:Int) < (X.length:Int):=by omega
      have hmw:IntKind.i64.wrap ((m:Int)+1)=((m+1:Nat):Int):=by rw [IntWalk.i64_in _ (by omega)];omega
      have HWT:=Lib.hid hwt
      have HBA:=Lib.hid hbA
      have HBB:=Lib.hid hbB
      have HNX:=Lib.hid hnx
      have HHT:=Lib.hid hht
      have HOK:=Lib.hid hok
      have HIA:=Lib.hid hia
      have HIB:=Lib.hid hib
      clear hwt hbA hbB hnx hht hok hia hib
      clear h4 hba
      go_wp2_with fail
      refine (HWT.out).mono ?_
      rintro e w3 ⟨rfl,hb3⟩
      have hbA3:=Below.up HBA.out hb3
      have hbB3:=Below.up HBB.out hb3
      have HB3:=Lib.hid hb3
      have HBA3:=Lib.hid hbA3
      have HBB3:=Lib.hid hbB3
      clear hb3 hbA3 hbB3
      cases hq:wrB vs x t with
      | true =>
       have hcode:=HHIT.out (by unfold hitsB;rw [HHT.out hq,Bool.true_or])
       have HCODE:=Lib.hid hcode
       have HQ:=Lib.hid hq
       clear hcode hq
       go_wp2_with fail
       try rw [Exit.noGoto_ret]
       go_ret
       rw [HCODE.out]
       exact ⟨rfl,HBA3.out⟩
      | false =>
       have hnx:=HNX.out hq
       have HNX:=Lib.hid hnx
       have HQ:=Lib.hid hq
       clear hnx hq
       go_wp2_with fail
       go_roundw
       case rel=>exact ⟨m+1,by omega,rfl,by go_num,HBA3.out,HBB3.out,HNX.out⟩
       case measure=>simp [intOf];omega
     case neg =>
      have hnw:=HN.out
      rw [show m=X.length by omega,List.take_length] at hnw
      have HNW:=Lib.hid hnw
      clear hnw
      obtain ⟨W4,rfl⟩:∃ W4:World,W4=wr:=⟨_,rfl⟩
      go_wp2_with fail
      clear hlt hm2
      go_loopw [11,41] (fun ev j wr=>∃ m:Nat,m≤queue.length∧ev=.int .i64 0∧j=.int .i64 m∧Hid (Below w.heap.size w wr)∧Hid (Below W2.heap.size W2 wr)∧Hid ((queue.take m).any (fun q=>againstB X q)=false)) (fun _ j _=>queue.length - (intOf j).toNat)
      case atStart=>exact ⟨0,by omega,rfl,rfl,HBA.out,HBB.out,rfl⟩
      case round =>
       obtain ⟨m,hm2,rfl,rfl,HBA,HBB,HN⟩:=hrel
       by_cases hlt:m < queue.length
       case pos =>
        have hqs:=TxsAt.same HQ.out (HG.out.same HBA.out)
        obtain ⟨p',c',he',_,_,_,h4⟩:=hqs
        cases he'
        obtain ⟨g,o,rfl,_,hte⟩:=h4 m hlt
        obtain ⟨pv,hct,hcp,htx,hone⟩:=txE_txAt hte
        have hnx:=any_take_next (p:=fun q=>againstB X q) HN.out hlt
        have hht:=any_hit (p:=fun q=>againstB X q) hlt
        generalize queue[m]=q at *
        obtain ⟨pv',hpv,hti,hpp⟩:=htx
        cases hpv
        obtain ⟨pp,pc,rfl⟩:∃ pp pc,pv=.slice pp q.puts.length pc:=by obtain ⟨p,c,rfl,_⟩:=hpp;exact ⟨p,c,rfl⟩
        have hba:=below_alloc wr (.cells #[.int .i64 q.time,.slice pp q.puts.length pc] 198)
        have hag:=against_any G F q (.agg #[.int .i64 q.time,.slice pp q.puts.length pc]) _ most X _ ((HG.out.below HBA.out).below hba) (TxAt.same ⟨_,rfl,hti,hpp⟩ (Dom.same (HG.out.below HBA.out) hba)) (((HSET.out.up HB2.out).up HBB.out).up hba) HGS.out.2
        have hbA:=Below.up HBA.out hba
        have hbB:=Below.up HBB.out hba
        have hmI:(m:Int) < (queue.length:Int):=by omega
        have hmw:IntKind.i64.wrap ((m:Int)+1)=((m+1:Nat):Int):=by rw [IntWalk.i64_in _ (by omega)];omega
        have HAG:=Lib.hid hag
        have HBA:=Lib.hid hbA
        have HBB:=Lib.hid hbB
        have HNX:=Lib.hid hnx
        have HHT:=Lib.hid hht
        have HTI:=Lib.hid hti
        have HPP:=Lib.hid hpp
        clear hag hbA hbB hnx hht hti hpp
        clear h4 hba hte
        go_wp2_with fail
        refine (HAG.out).mono ?_
        rintro e w3 ⟨rfl,hb3⟩
        have hbA3:=Below.up HBA.out hb3
        have hbB3:=Below.up HBB.out hb3
        have HB3:=Lib.hid hb3
        have HBA3:=Lib.hid hbA3
        have HBB3:=Lib.hid hbB3
        clear hb3 hbA3 hbB3
        cases hq:againstB X q with
        | true =>
         have hcode:=HHIT.out (by unfold hitsB;rw [HHT.out hq,Bool.or_true])
         have HCODE:=Lib.hid hcode
         have HQ:=Lib.hid hq
         clear hcode hq
         go_wp2_with fail
         try rw [Exit.noGoto_ret]
         go_ret
         rw [HCODE.out]
         exact ⟨rfl,HBA3.out⟩
        | false =>
         have hnx:=HNX.out hq
         have HNX:=Lib.hid hnx
         have HQ:=Lib.hid hq
         clear hnx hq
         go_wp2_with fail
         go_roundw
         case rel=>exact ⟨m+1,by omega,rfl,by go_num,HBA3.out,HBB3.out,HNX.out⟩
         case measure=>simp [intOf];omega
       case neg =>
        have hnq:=HN.out
        rw [show m=queue.length by omega,List.take_length] at hnq
        have hmm:=HMISS.out (by unfold hitsB;rw [HNW.out,hnq];rfl)
        have HNQ:=Lib.hid hnq
        have HMM:=Lib.hid hmm
        clear hnq hmm
        go_wp2_with fail
        obtain rfl:=HKE.out
        go_roundw
        case rel=>exact ⟨_,HKN0.out,HKN2.out,rfl,rfl,HBA.out,HMM.out.1,HMM.out.2⟩
        case measure=>(simp [intOf];try omega)
end Go.Proofs
namespace Go.Proofs
open Go.RowKit Sc
def formGo:Nat→Nat→List Tx→Nat
 | n,_,[]=>n
 | n,p,t :: ts=>if 8≤n∨(0 < n∧32 < p+t.puts.length) then n else formGo (n+1) (p+t.puts.length) ts
def formN (l:List Tx):Nat:=formGo 0 0 l
theorem formGo_bd:∀ (l:List Tx) (n p:Nat),n≤8→n≤formGo n p l∧formGo n p l≤n+l.length∧formGo n p l≤8
 | [],n,p,h=>⟨Nat.le_refl _,Nat.le_refl _,h⟩
 | t :: ts,n,p,h=>by
  unfold formGo
  split
  ·rename_i hc
   simp only [List.length_cons]
   omega
  ·rename_i hc
   have:=formGo_bd ts (n+1) (p+t.puts.length) (by omega)
   simp only [List.length_cons]
   omega
theorem formN_bd (l:List Tx):formN l≤l.length∧formN l≤8:=by
 have:=formGo_bd l 0 0 (by omega)
 unfold formN;omega
theorem formN_pos {l:List Tx} (h:0 < l.length):0 < formN l:=by
 cases l with
 | nil=>simp at h
 | cons t ts =>
  unfold formN formGo
  rw [if_neg (by omega)]
  have:=formGo_bd ts (0+1) (0+t.puts.length) (by omega)
  omega
theorem formGo_stop {k P:Nat} {l:List Tx} (hk:k < l.length) (h:8≤k∨(0 < k∧32 < P+l[k].puts.length)):formGo k P (l.drop k)=k:=by
 rw [List.drop_eq_getElem_cons hk]
 unfold formGo
 rw [if_pos h]
theorem formGo_on {k P:Nat} {l:List Tx} (hk:k < l.length) (h:¬ (8≤k∨(0 < k∧32 < P+l[k].puts.length))):formGo k P (l.drop k)=formGo (k+1) (P+l[k].puts.length) (l.drop (k+1)):=by
 rw [List.drop_eq_getElem_cons hk]
 conv=>lhs;unfold formGo
 rw [if_neg h]
set_option maxRecDepth 100000 in
set_option maxHeartbeats 2000000 in
theorem form_any (G:Nat→Prop) (v:Value) (l:List Tx) (w:World) (hG:Dom G w) (hl:TxsAt G w v l) :
  Calls Tryz.prog 100 #[v] w fun e w'=>e=.returned (.int .i64 (formN l))∧Hid (Below w.heap.size w w'):=by
 obtain ⟨p,c,rfl,h1,h2,h3,h4⟩:=hl
 have H4:=Lib.hid h4
 have HG:=Lib.hid hG
 clear h4 hG
 go_enter Tryz.func100,Tryz.ntmps100
 go_wp2_with fail
 go_loopw [2,3,8] (fun s2 s3 s8 wr=>∃ k P:Nat,k≤l.length∧k≤8∧s8=.int .i64 k∧s2=.int .i64 k∧s3=.int .i64 P∧P≤9223372036854775807∧Hid (k=0→P=0)∧Hid (formGo 0 0 l=formGo k P (l.drop k))∧Hid (Below w.heap.size w wr)) (fun _ _ s8 _=>l.length - (intOf s8).toNat)
 case atStart=>exact ⟨0,0,Nat.zero_le _,by omega,by go_num,by go_num,by go_num,by omega,fun _=>rfl,rfl,Below.refl _ _⟩
 case round =>
  obtain ⟨k,P,hk,hk8,rfl,rfl,rfl,hP,HP0,HF,HB⟩:=hrel
  by_cases hlt:k < l.length
  case neg =>
   have HFN:Hid (formN l=k):=by
    show _=_
    unfold formN
    rw [HF.out,List.drop_eq_nil_of_le (by omega)];rfl
   go_wp2
   go_ret
   exact ⟨by rw [HFN.out];rfl,HB⟩
  case pos =>
   obtain ⟨b,o,rfl,_,c0,_,pv,c1,hp⟩:=H4.out k hlt
   replace c0:=cell_up HB.out c0
   replace c1:=cell_up HB.out c1
   obtain ⟨pp,pc,rfl,p1,p2,-⟩:=hp
   have HST:=Lib.hid (formGo_stop (P:=P) hlt)
   have HON:=Lib.hid (formGo_on (P:=P) hlt)
   generalize l[k].puts.length=m at *
   generalize l[k].time=tm at *
   have HBA:=Lib.hid (Below.up HB.out (below_alloc wr (.cells #[.int .i64 tm,.slice pp m pc] 198)))
   by_cases h8:k=8
   case pos =>
    subst h8
    have HFN:Hid (formN l=8):=by show _=_;unfold formN;rw [HF.out];exact HST.out (.inl (by omega))
    go_wp2
    go_ret
    exact ⟨by rw [HFN.out];rfl,HBA⟩
   case neg =>
    by_cases h0:k=0
    case pos =>
     subst h0
     simp only [Nat.zero_mul,Nat.add_zero] at c0 c1
     obtain rfl:P=0:=HP0.out rfl
     have HFK:=Lib.hid (HON.out (by omega))
     go_wp2_with fail
     go_roundw
     case rel=>exact ⟨1,0+m,by omega,by omega,by go_num,by go_num,by go_num,by omega,fun h=>absurd h (by omega),by show _=_;rw [HF.out,HFK.out],HBA⟩
     case measure=>simp [intOf];omega
    case neg =>
     by_cases hm:32 < P+m
     case pos =>
      have HFN:Hid (formN l=k):=by show _=_;unfold formN;rw [HF.out];exact HST.out (.inr ⟨by omega,hm⟩)
      have hgt:((32:Int) - (P:Int) < (m:Int)):=by omega
      have hk0:(0:Int) < (k:Int):=by omega
      go_wp2
      go_ret
      exact ⟨by rw [HFN.out];rfl,HBA⟩
     case neg =>
      have HFK:=Lib.hid (HON.out (by omega))
      have hgt:¬ ((32:Int) - (P:Int) < (m:Int)):=by omega
      have hk0:(0:Int) < (k:Int):=by omega
      go_wp2_with fail
      go_roundw
      case rel=>exact ⟨k+1,P+m,by omega,by omega,by go_num,by go_num,by go_num,by omega,fun h=>absurd h (by omega),by show _=_;rw [HF.out,HFK.out],HBA⟩
      case measure=>simp [intOf];omega
end Go.Proofs
