/- Texts of this claim, one behind the other: Sched12b, Sched12c, Sched12d, Sched13, Sched14, Sched15, Sched16, Sched17, Sched18, Sched19, TopI, TopL, Sched20, Top1, Top2. -/
import Derived.Test.YtcbgpeamondhmaaGreatDoorTs11
namespace Go.Proofs
open Go.RowKit Sc
section
variable {W w:World} {L T:List Asn} {x p d st:Nat} {s:SdS} {c:SdC}
set_option maxRecDepth 100000 in
set_option maxHeartbeats 800000 in
theorem sdCall3 (h:Hid (Sep W (OL L x (sdItems p d st c s++T)) w)) (hc:SdOk c s) (hxl:x < L.length) {ist jm m sl pos num:Nat} {S:MgS} (hist:L[ist]? = some (StoreB st d m sl pos num)) (hjm:L[jm]? = some (MgrA (pt m) S)) (h1:ist≠x) (h2:jm≠x) (h3:ist≠jm) {N:Nat} (g:MgG N S) (hN:N≤1000000) (hql:S.queue.length≤1000000) (i:Nat) (hi:i < 8) (j bk:Nat) (hbk:c.bb[j]? = some bk)
  (o0 o1 o2 o3:Int) (io2:I64 o2) (io3:I64 o3) (lp:Option Addr) (lc:Nat) (pl:List Put) (hpl:pl.length≤1000000) (hm:(.slice lp pl.length lc,pl)∈c.ps) (a0 a1 a2 a3:Int) (hk3:o0=3) :
  Calls Tryz.prog 51 #[pt p,.pointer (some ⟨p,2+i * 4,none⟩),pt bk,.agg #[.int .i64 o0,.int .i64 o1,.int .i64 o2,.int .i64 o3,.slice lp pl.length lc],ansV a0 a1 a2 a3 (.slice none 0 0)] w (CallPost W L T x p d st m jm c (callDo s S i j ⟨o0,o1,o2,o3,pl⟩)):=by
 unfold ansV
 have hil:=(List.getElem?_eq_some_iff.1 hist).1
 have hml:=(List.getElem?_eq_some_iff.1 hjm).1
 have hj:j < s.bg.length:=by rw [← hc.bl];exact (List.getElem?_eq_some_iff.1 hbk).1
 have hs0:=Go.Proofs.Sep.boxT h.out #[.int .i64 o0,.int .i64 o1,.int .i64 o2,.int .i64 o3,.slice lp pl.length lc] 49
 have hs1:=Go.Proofs.Sep.boxT hs0 #[.int .i64 a0,.int .i64 a1,.int .i64 a2,.int .i64 a3,.slice none 0 0] 54
 have hs2:=Go.Proofs.Sep.boxT hs1 #[.int .i64 0,.int .i64 0,.int .i64 0,.int .i64 0,.slice none 0 0] 54
 have hz0:(w.alloc (.cells #[.int .i64 o0,.int .i64 o1,.int .i64 o2,.int .i64 o3,.slice lp pl.length lc] 49 (0,0))).heap.size=w.heap.size+1:=by simp
 have hz:((w.alloc (.cells #[.int .i64 o0,.int .i64 o1,.int .i64 o2,.int .i64 o3,.slice lp pl.length lc] 49 (0,0))).alloc (.cells #[.int .i64 a0,.int .i64 a1,.int .i64 a2,.int .i64 a3,.slice none 0 0] 54 (0,0))).heap.size=w.heap.size+1+1:=by simp
 rw [hz0,hz,List.append_assoc,List.append_assoc,OL_app,List.append_assoc] at hs2
 obtain ⟨wa,hwa⟩:∃ wa,((w.alloc (.cells #[.int .i64 o0,.int .i64 o1,.int .i64 o2,.int .i64 o3,.slice lp pl.length lc] 49 (0,0))).alloc (.cells #[.int .i64 a0,.int .i64 a1,.int .i64 a2,.int .i64 a3,.slice none 0 0] 54 (0,0))).alloc (.cells #[.int .i64 0,.int .i64 0,.int .i64 0,.int .i64 0,.slice none 0 0] 54 (0,0))=wa:=⟨_,rfl⟩
 obtain ⟨O,hO⟩:∃ O,w.heap.size=O:=⟨_,rfl⟩
 obtain ⟨B,hB⟩:∃ B,O+1=B:=⟨_,rfl⟩
 obtain ⟨R,hR⟩:∃ R,B+1=R:=⟨_,rfl⟩
 rw [hwa,hO,hB,hR] at hs2
 have HS2:Hid (Sep W (OL L x (sdItems p d st c s++(T++([BoxA O #[.int .i64 o0,.int .i64 o1,.int .i64 o2,.int .i64 o3,.slice lp pl.length lc] 49,BoxA B #[.int .i64 a0,.int .i64 a1,.int .i64 a2,.int .i64 a3,.slice none 0 0] 54,BoxA R #[.int .i64 0,.int .i64 0,.int .i64 0,.int .i64 0,.slice none 0 0] 54]++[])))) wa):=hs2
 have hc8:=hc.toSd8
 have HC:=Lib.hid hc
 have HG:Hid (MgG N S):=g
 have HBK:=Lib.hid hbk
 have HST:Hid (L[ist]? = some (StoreB st d m sl pos num)):=hist
 have HMG:Hid (L[jm]? = some (MgrA (pt m) S)):=hjm
 have HN1:=Lib.hid h1
 have HN2:=Lib.hid h2
 have HN3:=Lib.hid h3
 have HJ:=Lib.hid hj
 have HM:=Lib.hid hm
 obtain ⟨bh,hbh⟩:∃ bh,bgH s j=bh:=⟨_,rfl⟩
 have HBH:=Lib.hid hbh
 obtain ⟨⟨e0,e1,e2,e3,e4⟩,_⟩:=box5 HS2.out (sdC_box hc8).1
 clear hs0 hs1 hs2 hz0 hz h hist hjm hc g h1 h2 h3 hbk hj hbh hm
 go_enter Tryz.func51,Tryz.ntmps51
 subst hk3
 have HSd:Hid (Sep W (OL L x (sdItems p d st c s++(T++([BoxA O #[.int .i64 3,.int .i64 o1,.int .i64 o2,.int .i64 o3,.slice lp pl.length lc] 49,BoxA B #[.int .i64 a0,.int .i64 a1,.int .i64 a2,.int .i64 a3,.slice none 0 0] 54,BoxA R #[.int .i64 0,.int .i64 0,.int .i64 0,.int .i64 0,.slice none 0 0] 54]++[])))) wa.drew):=HS2.out.up (below_drewN (Below.refl wa.heap.size wa) 1)
 obtain ⟨q1,q2,_,_,d4,_⟩:=sdC_facts HSd.out HC.out HBK.out
 rw [HBH.out] at q2
 have HWR:=Lib.hid (stWrite HSd.out ist (by rw [sdT_old hil HN1.out];exact HST.out) (.int .i64 bh) (.slice lp pl.length lc) (mgWrite_sep HSd jm (by rw [sdT_old hml HN2.out];exact HMG.out) HG.out bh (.slice lp pl.length lc) pl (fun G hR=>sdT_put HC.out HM.out hml hR) hpl) (fun e w' h=>⟨_,h.1⟩))
 go_upto_region 5 with fail
 try rw [hwa]
 try rw [hO]
 try rw [hB]
 try rw [hR]
 clear hwa hO hB hR HS2 e0 e1 e2 e3 e4
 refine wp_regionG (fun W=>W.cell? ⟨p,1,none⟩=some (pt st)∧W.cell? ⟨bk,0,none⟩=some (.int .i64 bh)∧W.cell? ⟨O,4,none⟩=some (.slice lp pl.length lc)) (n:=13) (by kernel_rfl) (by kernel_rfl) ?_
 generalize wa.drew=wd at *
 refine wpG.tk 0 ?_
 refine wpG.tk 1 ?_
 refine wpG.tk 2 ?_
 refine wpG.tk 3 ?_ (hy:=by intro W hW;have hld0:=hW.1;go_simp;try with_reducible rfl)
 refine wpG.tk 4 ?_
 refine wpG.tk 5 ?_
 refine wpG.tk 6 ?_
 refine wpG.tk 7 ?_ (hy:=by intro W hW;have hld0:=hW.2.1;go_simp;try with_reducible rfl)
 refine wpG.tk 8 ?_
 refine wpG.tk 9 ?_ (hy:=by intro W hW;have hld0:=hW.2.2;go_simp;try with_reducible rfl)
 refine wpG.alone 10 rfl (by kernel_rfl) (by kernel_rfl) ⟨q1,q2,d4⟩ (fun K hK=>?_)
 go_simp
 go_at_call 96
 refine (HWR.out).mono ?_
 rintro e w3 ⟨rfl,hS3⟩
 have hs3:=hS3.out
 rw [OL_setOld hml HN2.out] at hs3
 obtain ⟨cd,hcd⟩:∃ cd,wrCode S bh pl=cd:=⟨_,rfl⟩
 rw [hcd]
 obtain ⟨L1,hL1⟩:∃ L1,L.set jm (MgrA (pt m) (wrNext S bh pl))=L1:=⟨_,rfl⟩
 obtain ⟨S1,hS1⟩:∃ S1,wrNext S bh pl=S1:=⟨_,rfl⟩
 rw [hL1] at hs3
 have HLM:Hid (L.set jm (MgrA (pt m) S1)=L1):=by show _=_;rw [← hL1,hS1]
 have HT:Hid (callDo s S i j ⟨3,o1,o2,o3,pl⟩=(s,S1,true)):=by
  show _=_
  unfold callDo
  rw [if_neg (show ¬ (3:Int)=2 by decide),if_pos rfl,HBH.out]
  show (s,wrNext S bh pl,true)=_
  rw [hS1]
 have HX1:Hid (x < L1.length):=by show _ < _;rw [← hL1,List.length_set];exact hxl
 obtain ⟨r1,r2,_,_,r3,v1,_,f1,_⟩:=sdC_facts hs3 HC.out HBK.out
 rw [HBH.out] at r2
 have hs4:=hs3.box_store _ (sdC_box hc8).2.1 1 (.int .i64 cd)
 rw [(sdC_set hc8 _).1] at hs4
 obtain ⟨m1,m2,m3⟩:_∧_∧_:=⟨(sdC_facts hs4 HC.out HBK.out).1,(sdC_facts hs4 HC.out HBK.out).2.1,(sdC_facts hs4 HC.out HBK.out).2.2.2.2.1⟩
 rw [HBH.out] at m2
 obtain ⟨dp,dn,dc,bs,HDL,HS9⟩:∃ dp dn dc,∃ bs:Bytes,Hid (bs.length=dn∧dn≤1000000)∧Hid (Sep W (OL L1 x (sdItems p d st c s++(T++([BoxA O #[.int .i64 3,.int .i64 o1,.int .i64 o2,.int .i64 o3,.slice lp pl.length lc] 49,BoxA B #[.int .i64 a0,.int .i64 cd,.int .i64 a2,.int .i64 a3,.slice dp dn dc] 54,BoxA R #[.int .i64 0,.int .i64 0,.int .i64 0,.int .i64 0,.slice none 0 0] 54]++[BytesWA (.slice dp dn dc) bs])))) (w3.setCell ⟨B,1,none⟩ (.int .i64 cd))):=⟨none,0,0,[],⟨rfl,by omega⟩,sdC_nil hs4⟩
 clear hs3 hs4 hS3 HWR HSd hL1 hS1 q1 q2 d4 hcd
 try go_simp
 refine hK _ _ ?_
 clear hK K
 refine wpG.tk 11 ?_
 refine wpG.alone 12 rfl (by kernel_rfl) (by kernel_rfl) ⟨r1,r2,r3⟩ (fun K hK=>?_)
 go_simp
 try go_simp
 refine hK _ _ ?_
 clear hK K
 refine wpG.done (by kernel_rfl) ⟨m1,m2,m3⟩ ?_
 clear r1 r2 r3 v1 f1 m1 m2 m3
 generalize w3.setCell ⟨B,1,none⟩ (.int .i64 cd)=w9 at *
 obtain ⟨s1,hs1⟩:∃ s1,s=s1:=⟨_,rfl⟩
 rw [hs1] at HS9
 have HT1:Hid (callDo s S i j ⟨3,o1,o2,o3,pl⟩=(s1,S1,true)):=by rw [← hs1];exact HT
 have hd8:Sd8 c s1:=by rw [← hs1];exact hc8
 clear hs1 HT hN
 go_upto_region 12 with fail
 all_goals
  obtain ⟨⟨b0,b1,b2,b3,b4⟩,_⟩:=box5 HS9.out (sdC_box hd8).2.1
  obtain ⟨⟨y0,y1,y2,y3,y4⟩,⟨f0,f1,f2,f3,f4⟩⟩:=box5 HS9.out (sdC_box hd8).2.2
  have hs10:=box_fill5 HS9.out (sdC_box hd8).2.2 (.int .i64 a0) (.int .i64 cd) (.int .i64 a2) (.int .i64 a3) (.slice dp dn dc)
  rw [(sdC_set hd8 _).2] at hs10
  obtain ⟨F,hF,_⟩:=hs10.get _ (sdC_box hd8).2.2
  have HF:=Lib.hid hF.2
  have HS10:=Lib.hid (sdC_drop hs10)
  clear hs10 hF HS9
  go_wp2_with fail
  (try simp only [Exit.inBlock,Exit.then])
  refine ret_cell_two rfl (b:=R) (t:=54) (fr:=(0,0)) rfl (cs:=#[.int .i64 a0,.int .i64 cd,.int .i64 a2,.int .i64 a3,.slice dp dn dc]) HF.out (Tryz.underlying54) rfl (by kernel_rfl) rfl rfl (CallPost.of HT1.out HLM.out HDL.out HS10.out)
set_option maxRecDepth 100000 in
set_option maxHeartbeats 800000 in
theorem sdCallN (h:Hid (Sep W (OL L x (sdItems p d st c s++T)) w)) (hc:SdOk c s) (hxl:x < L.length) {ist jm m sl pos num:Nat} {S:MgS} (hist:L[ist]? = some (StoreB st d m sl pos num)) (hjm:L[jm]? = some (MgrA (pt m) S)) (h1:ist≠x) (h2:jm≠x) (h3:ist≠jm) {N:Nat} (g:MgG N S) (hN:N≤1000000) (hql:S.queue.length≤1000000) (i:Nat) (hi:i < 8) (j bk:Nat) (hbk:c.bb[j]? = some bk)
  (o0 o1 o2 o3:Int) (io2:I64 o2) (io3:I64 o3) (lp:Option Addr) (lc:Nat) (pl:List Put) (hpl:pl.length≤1000000) (hm:(.slice lp pl.length lc,pl)∈c.ps) (a0 a1 a2 a3:Int) (hk2:¬ o0=2) (hk3:¬ o0=3) (hk5:¬ o0=5) (hk4:¬ o0=4) :
  Calls Tryz.prog 51 #[pt p,.pointer (some ⟨p,2+i * 4,none⟩),pt bk,.agg #[.int .i64 o0,.int .i64 o1,.int .i64 o2,.int .i64 o3,.slice lp pl.length lc],ansV a0 a1 a2 a3 (.slice none 0 0)] w (CallPost W L T x p d st m jm c (callDo s S i j ⟨o0,o1,o2,o3,pl⟩)):=by
 unfold ansV
 have hil:=(List.getElem?_eq_some_iff.1 hist).1
 have hml:=(List.getElem?_eq_some_iff.1 hjm).1
 have hj:j < s.bg.length:=by rw [← hc.bl];exact (List.getElem?_eq_some_iff.1 hbk).1
 have hs0:=Go.Proofs.Sep.boxT h.out #[.int .i64 o0,.int .i64 o1,.int .i64 o2,.int .i64 o3,.slice lp pl.length lc] 49
 have hs1:=Go.Proofs.Sep.boxT hs0 #[.int .i64 a0,.int .i64 a1,.int .i64 a2,.int .i64 a3,.slice none 0 0] 54
 have hs2:=Go.Proofs.Sep.boxT hs1 #[.int .i64 0,.int .i64 0,.int .i64 0,.int .i64 0,.slice none 0 0] 54
 have hz0:(w.alloc (.cells #[.int .i64 o0,.int .i64 o1,.int .i64 o2,.int .i64 o3,.slice lp pl.length lc] 49 (0,0))).heap.size=w.heap.size+1:=by simp
 have hz:((w.alloc (.cells #[.int .i64 o0,.int .i64 o1,.int .i64 o2,.int .i64 o3,.slice lp pl.length lc] 49 (0,0))).alloc (.cells #[.int .i64 a0,.int .i64 a1,.int .i64 a2,.int .i64 a3,.slice none 0 0] 54 (0,0))).heap.size=w.heap.size+1+1:=by simp
 rw [hz0,hz,List.append_assoc,List.append_assoc,OL_app,List.append_assoc] at hs2
 obtain ⟨wa,hwa⟩:∃ wa,((w.alloc (.cells #[.int .i64 o0,.int .i64 o1,.int .i64 o2,.int .i64 o3,.slice lp pl.length lc] 49 (0,0))).alloc (.cells #[.int .i64 a0,.int .i64 a1,.int .i64 a2,.int .i64 a3,.slice none 0 0] 54 (0,0))).alloc (.cells #[.int .i64 0,.int .i64 0,.int .i64 0,.int .i64 0,.slice none 0 0] 54 (0,0))=wa:=⟨_,rfl⟩
 obtain ⟨O,hO⟩:∃ O,w.heap.size=O:=⟨_,rfl⟩
 obtain ⟨B,hB⟩:∃ B,O+1=B:=⟨_,rfl⟩
 obtain ⟨R,hR⟩:∃ R,B+1=R:=⟨_,rfl⟩
 rw [hwa,hO,hB,hR] at hs2
 have HS2:Hid (Sep W (OL L x (sdItems p d st c s++(T++([BoxA O #[.int .i64 o0,.int .i64 o1,.int .i64 o2,.int .i64 o3,.slice lp pl.length lc] 49,BoxA B #[.int .i64 a0,.int .i64 a1,.int .i64 a2,.int .i64 a3,.slice none 0 0] 54,BoxA R #[.int .i64 0,.int .i64 0,.int .i64 0,.int .i64 0,.slice none 0 0] 54]++[])))) wa):=hs2
 have hc8:=hc.toSd8
 have HC:=Lib.hid hc
 have HG:Hid (MgG N S):=g
 have HBK:=Lib.hid hbk
 have HST:Hid (L[ist]? = some (StoreB st d m sl pos num)):=hist
 have HMG:Hid (L[jm]? = some (MgrA (pt m) S)):=hjm
 have HN1:=Lib.hid h1
 have HN2:=Lib.hid h2
 have HN3:=Lib.hid h3
 have HJ:=Lib.hid hj
 have HM:=Lib.hid hm
 obtain ⟨bh,hbh⟩:∃ bh,bgH s j=bh:=⟨_,rfl⟩
 have HBH:=Lib.hid hbh
 obtain ⟨⟨e0,e1,e2,e3,e4⟩,_⟩:=box5 HS2.out (sdC_box hc8).1
 clear hs0 hs1 hs2 hz0 hz h hist hjm hc g h1 h2 h3 hbk hj hbh hm
 go_enter Tryz.func51,Tryz.ntmps51
 go_upto_region 12 with fail
 try rw [hwa]
 try rw [hO]
 try rw [hB]
 try rw [hR]
 clear hwa hO hB hR e0 e1 e2 e3 e4
 generalize wa=w9 at *
 obtain ⟨dp,dn,dc,bs,HDL,HS9'⟩:∃ dp dn dc,∃ bs:Bytes,Hid (bs.length=dn∧dn≤1000000)∧Hid (Sep W (OL L x (sdItems p d st c s++(T++([BoxA O #[.int .i64 o0,.int .i64 o1,.int .i64 o2,.int .i64 o3,.slice lp pl.length lc] 49,BoxA B #[.int .i64 a0,.int .i64 a1,.int .i64 a2,.int .i64 a3,.slice dp dn dc] 54,BoxA R #[.int .i64 0,.int .i64 0,.int .i64 0,.int .i64 0,.slice none 0 0] 54]++[BytesWA (.slice dp dn dc) bs])))) w9):=⟨none,0,0,[],⟨rfl,by omega⟩,sdC_nil HS2.out⟩
 obtain ⟨cd,hcd⟩:∃ cd,a1=cd:=⟨_,rfl⟩
 rw [hcd] at HS9'
 have HS9:=HS9'
 obtain ⟨L1,hL1⟩:∃ L1,L=L1:=⟨_,rfl⟩
 obtain ⟨S1,hS1⟩:∃ S1,S=S1:=⟨_,rfl⟩
 obtain ⟨s1,hs1⟩:∃ s1,s=s1:=⟨_,rfl⟩
 rw [hs1,hL1] at HS9
 have HLM:Hid (L.set jm (MgrA (pt m) S1)=L1):=by show _=_;rw [← hS1,← hL1,set_same HMG.out]
 have HT1:Hid (callDo s S i j ⟨o0,o1,o2,o3,pl⟩=(s1,S1,true)):=by
  show _=_
  unfold callDo
  rw [if_neg hk2,if_neg hk3,if_neg hk5,if_neg hk4,← hs1,← hS1]
 have hd8:Sd8 c s1:=by rw [← hs1];exact hc8
 clear HS2 HS9' hs1 hS1 hL1 hN hcd
 all_goals
  obtain ⟨⟨b0,b1,b2,b3,b4⟩,_⟩:=box5 HS9.out (sdC_box hd8).2.1
  obtain ⟨⟨y0,y1,y2,y3,y4⟩,⟨f0,f1,f2,f3,f4⟩⟩:=box5 HS9.out (sdC_box hd8).2.2
  have hs10:=box_fill5 HS9.out (sdC_box hd8).2.2 (.int .i64 a0) (.int .i64 cd) (.int .i64 a2) (.int .i64 a3) (.slice dp dn dc)
  rw [(sdC_set hd8 _).2] at hs10
  obtain ⟨F,hF,_⟩:=hs10.get _ (sdC_box hd8).2.2
  have HF:=Lib.hid hF.2
  have HS10:=Lib.hid (sdC_drop hs10)
  clear hs10 hF HS9
  go_wp2_with fail
  (try simp only [Exit.inBlock,Exit.then])
  refine ret_cell_two rfl (b:=R) (t:=54) (fr:=(0,0)) rfl (cs:=#[.int .i64 a0,.int .i64 cd,.int .i64 a2,.int .i64 a3,.slice dp dn dc]) HF.out (Tryz.underlying54) rfl (by kernel_rfl) rfl rfl (CallPost.of HT1.out HLM.out HDL.out HS10.out)
end
end Go.Proofs
namespace Go.Proofs
open Go.RowKit Sc
section
variable {W w:World} {L T:List Asn} {x p d st:Nat} {s:SdS} {c:SdC}
set_option maxRecDepth 100000 in
set_option maxHeartbeats 800000 in
theorem sdCall5 (h:Hid (Sep W (OL L x (sdItems p d st c s++T)) w)) (hc:SdOk c s) (hxl:x < L.length) {ist jm m sl pos num:Nat} {S:MgS} (hist:L[ist]? = some (StoreB st d m sl pos num)) (hjm:L[jm]? = some (MgrA (pt m) S)) (h1:ist≠x) (h2:jm≠x) (h3:ist≠jm) {N:Nat} (g:MgG N S) (hN:N≤1000000) (hql:S.queue.length≤1000000) (i:Nat) (hi:i < 8) (j bk:Nat) (hbk:c.bb[j]? = some bk)
  (o0 o1 o2 o3:Int) (io2:I64 o2) (io3:I64 o3) (lp:Option Addr) (lc:Nat) (pl:List Put) (hpl:pl.length≤1000000) (hm:(.slice lp pl.length lc,pl)∈c.ps) (a0 a1 a2 a3:Int) (hk5:o0=5) :
  Calls Tryz.prog 51 #[pt p,.pointer (some ⟨p,2+i * 4,none⟩),pt bk,.agg #[.int .i64 o0,.int .i64 o1,.int .i64 o2,.int .i64 o3,.slice lp pl.length lc],ansV a0 a1 a2 a3 (.slice none 0 0)] w (CallPost W L T x p d st m jm c (callDo s S i j ⟨o0,o1,o2,o3,pl⟩)):=by
 unfold ansV
 have hil:=(List.getElem?_eq_some_iff.1 hist).1
 have hml:=(List.getElem?_eq_some_iff.1 hjm).1
 have hj:j < s.bg.length:=by rw [← hc.bl];exact (List.getElem?_eq_some_iff.1 hbk).1
 have hs0:=Go.Proofs.Sep.boxT h.out #[.int .i64 o0,.int .i64 o1,.int .i64 o2,.int .i64 o3,.slice lp pl.length lc] 49
 have hs1:=Go.Proofs.Sep.boxT hs0 #[.int .i64 a0,.int .i64 a1,.int .i64 a2,.int .i64 a3,.slice none 0 0] 54
 have hs2:=Go.Proofs.Sep.boxT hs1 #[.int .i64 0,.int .i64 0,.int .i64 0,.int .i64 0,.slice none 0 0] 54
 have hz0:(w.alloc (.cells #[.int .i64 o0,.int .i64 o1,.int .i64 o2,.int .i64 o3,.slice lp pl.length lc] 49 (0,0))).heap.size=w.heap.size+1:=by simp
 have hz:((w.alloc (.cells #[.int .i64 o0,.int .i64 o1,.int .i64 o2,.int .i64 o3,.slice lp pl.length lc] 49 (0,0))).alloc (.cells #[.int .i64 a0,.int .i64 a1,.int .i64 a2,.int .i64 a3,.slice none 0 0] 54 (0,0))).heap.size=w.heap.size+1+1:=by simp
 rw [hz0,hz,List.append_assoc,List.append_assoc,OL_app,List.append_assoc] at hs2
 obtain ⟨wa,hwa⟩:∃ wa,((w.alloc (.cells #[.int .i64 o0,.int .i64 o1,.int .i64 o2,.int .i64 o3,.slice lp pl.length lc] 49 (0,0))).alloc (.cells #[.int .i64 a0,.int .i64 a1,.int .i64 a2,.int .i64 a3,.slice none 0 0] 54 (0,0))).alloc (.cells #[.int .i64 0,.int .i64 0,.int .i64 0,.int .i64 0,.slice none 0 0] 54 (0,0))=wa:=⟨_,rfl⟩
 obtain ⟨O,hO⟩:∃ O,w.heap.size=O:=⟨_,rfl⟩
 obtain ⟨B,hB⟩:∃ B,O+1=B:=⟨_,rfl⟩
 obtain ⟨R,hR⟩:∃ R,B+1=R:=⟨_,rfl⟩
 rw [hwa,hO,hB,hR] at hs2
 have HS2:Hid (Sep W (OL L x (sdItems p d st c s++(T++([BoxA O #[.int .i64 o0,.int .i64 o1,.int .i64 o2,.int .i64 o3,.slice lp pl.length lc] 49,BoxA B #[.int .i64 a0,.int .i64 a1,.int .i64 a2,.int .i64 a3,.slice none 0 0] 54,BoxA R #[.int .i64 0,.int .i64 0,.int .i64 0,.int .i64 0,.slice none 0 0] 54]++[])))) wa):=hs2
 have hc8:=hc.toSd8
 have HC:=Lib.hid hc
 have HG:Hid (MgG N S):=g
 have HBK:=Lib.hid hbk
 have HST:Hid (L[ist]? = some (StoreB st d m sl pos num)):=hist
 have HMG:Hid (L[jm]? = some (MgrA (pt m) S)):=hjm
 have HN1:=Lib.hid h1
 have HN2:=Lib.hid h2
 have HN3:=Lib.hid h3
 have HJ:=Lib.hid hj
 have HM:=Lib.hid hm
 obtain ⟨bh,hbh⟩:∃ bh,bgH s j=bh:=⟨_,rfl⟩
 have HBH:=Lib.hid hbh
 obtain ⟨⟨e0,e1,e2,e3,e4⟩,_⟩:=box5 HS2.out (sdC_box hc8).1
 clear hs0 hs1 hs2 hz0 hz h hist hjm hc g h1 h2 h3 hbk hj hbh hm
 go_enter Tryz.func51,Tryz.ntmps51
 subst hk5
 have HSd:Hid (Sep W (OL L x (sdItems p d st c s++(T++([BoxA O #[.int .i64 5,.int .i64 o1,.int .i64 o2,.int .i64 o3,.slice lp pl.length lc] 49,BoxA B #[.int .i64 a0,.int .i64 a1,.int .i64 a2,.int .i64 a3,.slice none 0 0] 54,BoxA R #[.int .i64 0,.int .i64 0,.int .i64 0,.int .i64 0,.slice none 0 0] 54]++[])))) wa.drew):=HS2.out.up (below_drewN (Below.refl wa.heap.size wa) 1)
 obtain ⟨q1,q2,_⟩:=sdC_facts HSd.out HC.out HBK.out
 rw [HBH.out] at q2
 have HAB:=Lib.hid (stAbort HSd.out ist (by rw [sdT_old hil HN1.out];exact HST.out) (.int .i64 bh) (mgAbort_sep HSd jm (by rw [sdT_old hml HN2.out];exact HMG.out) bh) (fun e w' h=>⟨_,h.1⟩))
 go_upto_region 7 with fail
 try rw [hwa]
 try rw [hO]
 try rw [hB]
 try rw [hR]
 clear hwa hO hB hR HS2 e0 e1 e2 e3 e4
 refine wp_regionG (fun W=>W.cell? ⟨p,1,none⟩=some (pt st)∧W.cell? ⟨bk,0,none⟩=some (.int .i64 bh)) (n:=11) (by kernel_rfl) (by kernel_rfl) ?_
 generalize wa.drew=wd at *
 refine wpG.tk 0 ?_
 refine wpG.tk 1 ?_
 refine wpG.tk 2 ?_
 refine wpG.tk 3 ?_ (hy:=by intro W hW;have hld0:=hW.1;go_simp;try with_reducible rfl)
 refine wpG.tk 4 ?_
 refine wpG.tk 5 ?_
 refine wpG.tk 6 ?_
 refine wpG.tk 7 ?_ (hy:=by intro W hW;have hld0:=hW.2;go_simp;try with_reducible rfl)
 refine wpG.alone 8 rfl (by kernel_rfl) (by kernel_rfl) ⟨q1,q2⟩ (fun K hK=>?_)
 go_simp
 go_at_call 97
 refine (HAB.out).mono ?_
 rintro e w3 ⟨rfl,hS3⟩
 have hs3:=hS3.out
 rw [OL_setOld hml HN2.out] at hs3
 obtain ⟨cd,hcd⟩:∃ cd,abCode S bh=cd:=⟨_,rfl⟩
 rw [hcd]
 obtain ⟨L1,hL1⟩:∃ L1,L.set jm (MgrA (pt m) (abNext S bh))=L1:=⟨_,rfl⟩
 obtain ⟨S1,hS1⟩:∃ S1,abNext S bh=S1:=⟨_,rfl⟩
 rw [hL1] at hs3
 have HLM:Hid (L.set jm (MgrA (pt m) S1)=L1):=by show _=_;rw [← hL1,hS1]
 have HT:Hid (callDo s S i j ⟨5,o1,o2,o3,pl⟩=(if cd=0 then setEn s j else s,S1,true)):=by
  show _=_
  unfold callDo
  rw [if_neg (show ¬ (5:Int)=2 by decide),if_neg (show ¬ (5:Int)=3 by decide),if_pos rfl,HBH.out,hcd,hS1]
 have HX1:Hid (x < L1.length):=by show _ < _;rw [← hL1,List.length_set];exact hxl
 obtain ⟨r1,r2,_,_,_,v1,_,f1,_⟩:=sdC_facts hs3 HC.out HBK.out
 rw [HBH.out] at r2
 have hs4:=hs3.box_store _ (sdC_box hc8).2.1 1 (.int .i64 cd)
 rw [(sdC_set hc8 _).1] at hs4
 obtain ⟨m1,m2⟩:_∧_:=⟨(sdC_facts hs4 HC.out HBK.out).1,(sdC_facts hs4 HC.out HBK.out).2.1⟩
 rw [HBH.out] at m2
 obtain ⟨dp,dn,dc,bs,HDL,HS8⟩:∃ dp dn dc,∃ bs:Bytes,Hid (bs.length=dn∧dn≤1000000)∧Hid (Sep W (OL L1 x (sdItems p d st c s++(T++([BoxA O #[.int .i64 5,.int .i64 o1,.int .i64 o2,.int .i64 o3,.slice lp pl.length lc] 49,BoxA B #[.int .i64 a0,.int .i64 cd,.int .i64 a2,.int .i64 a3,.slice dp dn dc] 54,BoxA R #[.int .i64 0,.int .i64 0,.int .i64 0,.int .i64 0,.slice none 0 0] 54]++[BytesWA (.slice dp dn dc) bs])))) (w3.setCell ⟨B,1,none⟩ (.int .i64 cd))):=⟨none,0,0,[],⟨rfl,by omega⟩,sdC_nil hs4⟩
 clear hs3 hs4 hS3 HAB HSd hL1 hS1 q1 q2 hcd
 try go_simp
 refine hK _ _ ?_
 clear hK K
 refine wpG.tk 9 ?_
 refine wpG.alone 10 rfl (by kernel_rfl) (by kernel_rfl) ⟨r1,r2⟩ (fun K hK=>?_)
 go_simp
 try go_simp
 refine hK _ _ ?_
 clear hK K
 refine wpG.done (by kernel_rfl) ⟨m1,m2⟩ ?_
 clear r1 r2 v1 f1 m1 m2
 generalize w3.setCell ⟨B,1,none⟩ (.int .i64 cd)=w8 at *
 obtain ⟨_,_,⟨en,g3⟩,gf,g4⟩:=sdFacts HS8.out HC.out HBK.out
 obtain ⟨_,_,_,_,_,v1,_⟩:=sdC_facts HS8.out HC.out HBK.out
 by_cases hcd0:cd=0
 case' pos =>
  have HS9:=Lib.hid (sdT_en HS8.out HC.out HBK.out)
  have HT1:Hid (callDo s S i j ⟨5,o1,o2,o3,pl⟩=(setEn s j,S1,true)):=by show _=_;rw [HT.out,if_pos hcd0]
  obtain ⟨s1,hs1⟩:∃ s1,setEn s j=s1:=⟨_,rfl⟩
  rw [hs1] at HS9 HT1
  have hd8:Sd8 c s1:=by rw [← hs1];exact (sdOk_en HC.out HJ.out).toSd8
  go_upto_region 12 with fail
  clear g3 gf g4 v1 HS8 HT hs1 hN hcd0
  generalize w8.setCell ⟨bk,2,none⟩ (.int .i64 s.ev)=w9 at *
 case' neg =>
  have HT1:Hid (callDo s S i j ⟨5,o1,o2,o3,pl⟩=(s,S1,true)):=by show _=_;rw [HT.out,if_neg hcd0]
  obtain ⟨s1,hs1⟩:∃ s1,s=s1:=⟨_,rfl⟩
  have HT2:Hid (callDo s S i j ⟨5,o1,o2,o3,pl⟩=(s1,S1,true)):=by rw [← hs1];exact HT1
  have HS9:Hid _:=HS8
  rw [hs1] at HS9
  have hd8:Sd8 c s1:=by rw [← hs1];exact hc8
  go_upto_region 12 with fail
  clear g3 gf g4 v1 HS8 HT HT1 hs1 hN
  have HT1:=HT2
  clear HT2
  generalize w8=w9 at *
 all_goals
  obtain ⟨⟨b0,b1,b2,b3,b4⟩,_⟩:=box5 HS9.out (sdC_box hd8).2.1
  obtain ⟨⟨y0,y1,y2,y3,y4⟩,⟨f0,f1,f2,f3,f4⟩⟩:=box5 HS9.out (sdC_box hd8).2.2
  have hs10:=box_fill5 HS9.out (sdC_box hd8).2.2 (.int .i64 a0) (.int .i64 cd) (.int .i64 a2) (.int .i64 a3) (.slice dp dn dc)
  rw [(sdC_set hd8 _).2] at hs10
  obtain ⟨F,hF,_⟩:=hs10.get _ (sdC_box hd8).2.2
  have HF:=Lib.hid hF.2
  have HS10:=Lib.hid (sdC_drop hs10)
  clear hs10 hF HS9
  go_wp2_with fail
  (try simp only [Exit.inBlock,Exit.then])
  refine ret_cell_two rfl (b:=R) (t:=54) (fr:=(0,0)) rfl (cs:=#[.int .i64 a0,.int .i64 cd,.int .i64 a2,.int .i64 a3,.slice dp dn dc]) HF.out (Tryz.underlying54) rfl (by kernel_rfl) rfl rfl (CallPost.of HT1.out HLM.out HDL.out HS10.out)
end
end Go.Proofs
namespace Go.Proofs
open Go.RowKit Sc
section
variable {W w:World} {L T:List Asn} {x p d st:Nat} {s:SdS} {c:SdC}
set_option maxRecDepth 100000 in
set_option maxHeartbeats 800000 in
theorem sdCall4 (h:Hid (Sep W (OL L x (sdItems p d st c s++T)) w)) (hc:SdOk c s) (hxl:x < L.length) {ist jm m sl pos num:Nat} {S:MgS} (hist:L[ist]? = some (StoreB st d m sl pos num)) (hjm:L[jm]? = some (MgrA (pt m) S)) (h1:ist≠x) (h2:jm≠x) (h3:ist≠jm) {N:Nat} (g:MgG N S) (hN:N≤1000000) (hql:S.queue.length≤1000000) (i:Nat) (hi:i < 8) (j bk:Nat) (hbk:c.bb[j]? = some bk)
  (o0 o1 o2 o3:Int) (io2:I64 o2) (io3:I64 o3) (lp:Option Addr) (lc:Nat) (pl:List Put) (hpl:pl.length≤1000000) (hm:(.slice lp pl.length lc,pl)∈c.ps) (a0 a1 a2 a3:Int) (hk4:o0=4) :
  Calls Tryz.prog 51 #[pt p,.pointer (some ⟨p,2+i * 4,none⟩),pt bk,.agg #[.int .i64 o0,.int .i64 o1,.int .i64 o2,.int .i64 o3,.slice lp pl.length lc],ansV a0 a1 a2 a3 (.slice none 0 0)] w (CallPost W L T x p d st m jm c (callDo s S i j ⟨o0,o1,o2,o3,pl⟩)):=by
 unfold ansV
 have hil:=(List.getElem?_eq_some_iff.1 hist).1
 have hml:=(List.getElem?_eq_some_iff.1 hjm).1
 have hj:j < s.bg.length:=by rw [← hc.bl];exact (List.getElem?_eq_some_iff.1 hbk).1
 have hs0:=Go.Proofs.Sep.boxT h.out #[.int .i64 o0,.int .i64 o1,.int .i64 o2,.int .i64 o3,.slice lp pl.length lc] 49
 have hs1:=Go.Proofs.Sep.boxT hs0 #[.int .i64 a0,.int .i64 a1,.int .i64 a2,.int .i64 a3,.slice none 0 0] 54
 have hs2:=Go.Proofs.Sep.boxT hs1 #[.int .i64 0,.int .i64 0,.int .i64 0,.int .i64 0,.slice none 0 0] 54
 have hz0:(w.alloc (.cells #[.int .i64 o0,.int .i64 o1,.int .i64 o2,.int .i64 o3,.slice lp pl.length lc] 49 (0,0))).heap.size=w.heap.size+1:=by simp
 have hz:((w.alloc (.cells #[.int .i64 o0,.int .i64 o1,.int .i64 o2,.int .i64 o3,.slice lp pl.length lc] 49 (0,0))).alloc (.cells #[.int .i64 a0,.int .i64 a1,.int .i64 a2,.int .i64 a3,.slice none 0 0] 54 (0,0))).heap.size=w.heap.size+1+1:=by simp
 rw [hz0,hz,List.append_assoc,List.append_assoc,OL_app,List.append_assoc] at hs2
 obtain ⟨wa,hwa⟩:∃ wa,((w.alloc (.cells #[.int .i64 o0,.int .i64 o1,.int .i64 o2,.int .i64 o3,.slice lp pl.length lc] 49 (0,0))).alloc (.cells #[.int .i64 a0,.int .i64 a1,.int .i64 a2,.int .i64 a3,.slice none 0 0] 54 (0,0))).alloc (.cells #[.int .i64 0,.int .i64 0,.int .i64 0,.int .i64 0,.slice none 0 0] 54 (0,0))=wa:=⟨_,rfl⟩
 obtain ⟨O,hO⟩:∃ O,w.heap.size=O:=⟨_,rfl⟩
 obtain ⟨B,hB⟩:∃ B,O+1=B:=⟨_,rfl⟩
 obtain ⟨R,hR⟩:∃ R,B+1=R:=⟨_,rfl⟩
 rw [hwa,hO,hB,hR] at hs2
 have HS2:Hid (Sep W (OL L x (sdItems p d st c s++(T++([BoxA O #[.int .i64 o0,.int .i64 o1,.int .i64 o2,.int .i64 o3,.slice lp pl.length lc] 49,BoxA B #[.int .i64 a0,.int .i64 a1,.int .i64 a2,.int .i64 a3,.slice none 0 0] 54,BoxA R #[.int .i64 0,.int .i64 0,.int .i64 0,.int .i64 0,.slice none 0 0] 54]++[])))) wa):=hs2
 have hc8:=hc.toSd8
 have HC:=Lib.hid hc
 have HG:Hid (MgG N S):=g
 have HBK:=Lib.hid hbk
 have HST:Hid (L[ist]? = some (StoreB st d m sl pos num)):=hist
 have HMG:Hid (L[jm]? = some (MgrA (pt m) S)):=hjm
 have HN1:=Lib.hid h1
 have HN2:=Lib.hid h2
 have HN3:=Lib.hid h3
 have HJ:=Lib.hid hj
 have HM:=Lib.hid hm
 obtain ⟨bh,hbh⟩:∃ bh,bgH s j=bh:=⟨_,rfl⟩
 have HBH:=Lib.hid hbh
 obtain ⟨⟨e0,e1,e2,e3,e4⟩,_⟩:=box5 HS2.out (sdC_box hc8).1
 clear hs0 hs1 hs2 hz0 hz h hist hjm hc g h1 h2 h3 hbk hj hbh hm
 go_enter Tryz.func51,Tryz.ntmps51
 subst hk4
 obtain ⟨⟨u0,u1,u2,u3,u4⟩,_⟩:=box5 HS2.out (sdC_box hc8).2.1
 go_wp2_with fail
 refine (sdCommit HS2 HC.out hxl HST.out HMG.out HN1.out HN2.out HN3.out HG.out hql i hi j bk HBK.out a0 a1 a2 a3).mono ?_
 rintro e w3 ⟨okv,b0,b1,b2,b3,HOK,rfl,HS3⟩
 obtain ⟨rr,hrr⟩:∃ r,comDo s S i j=r:=⟨_,rfl⟩
 rw [hrr] at HOK HS3
 have hd8:Sd8 c rr.1:=by rw [← hrr];exact sd8_com hc8
 have HT:Hid (callDo s S i j ⟨4,o1,o2,o3,pl⟩=rr):=by
  show _=_
  unfold callDo
  rw [if_neg (show ¬ (4:Int)=2 by decide),if_neg (show ¬ (4:Int)=3 by decide),if_neg (show ¬ (4:Int)=5 by decide),if_pos rfl,hrr]
 have hs4:=sdC_nil HS3.out
 try rw [hwa]
 try rw [hO]
 try rw [hB]
 try rw [hR]
 clear hwa hO hB hR HS2 hrr e0 e1 e2 e3 e4 hN HS3 u0 u1 u2 u3 u4
 obtain ⟨L1,hL1⟩:∃ L1,L.set jm (MgrA (pt m) rr.2.1)=L1:=⟨_,rfl⟩
 rw [hL1] at hs4
 have HLM:=Lib.hid hL1
 have hs4':Sep W (OL L1 x (sdItems p d st c rr.1++(T++([BoxA O #[.int .i64 4,.int .i64 o1,.int .i64 o2,.int .i64 o3,.slice lp pl.length lc] 49,BoxA B #[.int .i64 a0,.int .i64 a1,.int .i64 a2,.int .i64 a3,.slice none 0 0] 54,BoxA R #[.int .i64 0,.int .i64 0,.int .i64 0,.int .i64 0,.slice none 0 0] 54]++[BytesWA (.slice none 0 0) []])))) w3:=by
  exact hs4
 obtain ⟨⟨y0,y1,y2,y3,y4⟩,⟨f0,f1,f2,f3,f4⟩⟩:=box5 hs4' (sdC_box hd8).2.2
 have hs10:=box_fill5 hs4' (sdC_box hd8).2.2 (.int .i64 b0) (.int .i64 b1) (.int .i64 b2) (.int .i64 b3) (.slice none 0 0)
 rw [(sdC_set hd8 _).2] at hs10
 obtain ⟨F,hF,_⟩:=hs10.get _ (sdC_box hd8).2.2
 have HF:=Lib.hid hF.2
 have HS10:=Lib.hid (sdC_drop hs10)
 clear hs10 hF hs4 hs4' hL1
 unfold ansV
 go_wp2_with fail
 (try simp only [Exit.inBlock,Exit.then])
 refine ret_cell_two rfl (b:=R) (t:=54) (fr:=(0,0)) rfl (cs:=#[.int .i64 b0,.int .i64 b1,.int .i64 b2,.int .i64 b3,.slice none 0 0]) HF.out (Tryz.underlying54) rfl (by kernel_rfl) rfl rfl (CallPost.of (s1:=rr.1) (S1:=rr.2.1) (by rw [HT.out,HOK.out]) HLM.out ⟨rfl,by omega⟩ HS10.out)
end
end Go.Proofs
namespace Go.Proofs
open Go.RowKit Sc
section
variable {W w:World} {L T:List Asn} {x p d st:Nat} {s:SdS} {c:SdC}
theorem sdCall (h:Hid (Sep W (OL L x (sdItems p d st c s++T)) w)) (hc:SdOk c s) (hxl:x < L.length) {ist jm m sl pos num:Nat} {S:MgS} (hist:L[ist]? = some (StoreB st d m sl pos num)) (hjm:L[jm]? = some (MgrA (pt m) S)) (h1:ist≠x) (h2:jm≠x) (h3:ist≠jm) {N:Nat} (g:MgG N S) (hN:N≤1000000) (hql:S.queue.length≤1000000) (i:Nat) (hi:i < 8) (j bk:Nat) (hbk:c.bb[j]? = some bk)
  (o0 o1 o2 o3:Int) (io2:I64 o2) (io3:I64 o3) (lp:Option Addr) (lc:Nat) (pl:List Put) (hpl:pl.length≤1000000) (hm:(.slice lp pl.length lc,pl)∈c.ps) (a0 a1 a2 a3:Int) :
  Calls Tryz.prog 51 #[pt p,.pointer (some ⟨p,2+i * 4,none⟩),pt bk,.agg #[.int .i64 o0,.int .i64 o1,.int .i64 o2,.int .i64 o3,.slice lp pl.length lc],ansV a0 a1 a2 a3 (.slice none 0 0)] w (CallPost W L T x p d st m jm c (callDo s S i j ⟨o0,o1,o2,o3,pl⟩)):=by
 by_cases hk2:o0=2
 ·exact sdCall2 h hc hxl hist hjm h1 h2 h3 g hN hql i hi j bk hbk o0 o1 o2 o3 io2 io3 lp lc pl hpl hm a0 a1 a2 a3 hk2
 by_cases hk3:o0=3
 ·exact sdCall3 h hc hxl hist hjm h1 h2 h3 g hN hql i hi j bk hbk o0 o1 o2 o3 io2 io3 lp lc pl hpl hm a0 a1 a2 a3 hk3
 by_cases hk5:o0=5
 ·exact sdCall5 h hc hxl hist hjm h1 h2 h3 g hN hql i hi j bk hbk o0 o1 o2 o3 io2 io3 lp lc pl hpl hm a0 a1 a2 a3 hk5
 by_cases hk4:o0=4
 ·exact sdCall4 h hc hxl hist hjm h1 h2 h3 g hN hql i hi j bk hbk o0 o1 o2 o3 io2 io3 lp lc pl hpl hm a0 a1 a2 a3 hk4
 exact sdCallN h hc hxl hist hjm h1 h2 h3 g hN hql i hi j bk hbk o0 o1 o2 o3 io2 io3 lp lc pl hpl hm a0 a1 a2 a3 hk2 hk3 hk5 hk4
end
end Go.Proofs
namespace Go.Proofs
open Go.RowKit Sc
theorem Sep.reix {W w:World} {L L':List Asn} (h:Sep W L w) (f:Nat→Nat) (hf:∀ i j,i < L'.length→j < L'.length→f i=f j→i=j) (hg:∀ i A,L'[i]? = some A→L[f i]? = some A):Sep W L' w:=by
 obtain ⟨hw,Fs,h1,h2,h3⟩:=h
 refine ⟨hw,fun i k=>i < L'.length∧Fs (f i) k,fun i k hk=>h1 _ _ hk.2,fun i j k hij hi hj=>h2 (f i) (f j) k (fun e=>hij (hf i j hi.1 hj.1 e)) hi.2 hj.2,fun i A hi=>?_⟩
 have hil:=(List.getElem?_eq_some_iff.1 hi).1
 have e:(fun k=>i < L'.length∧Fs (f i) k)=Fs (f i):=by funext k;exact propext ⟨fun h=>h.2,fun h=>⟨hil,h⟩⟩
 show A.P (fun k=>i < L'.length∧Fs (f i) k) w
 rw [e]
 exact h3 _ A (hg i A hi)
def swapIx (a b c i:Nat):Nat:=if i < a then i else if i < a+c then i+b else i - c
theorem swapIx_inj {a b c i j:Nat} (hi:i < a+(c+b)) (hj:j < a+(c+b)) (e:swapIx a b c i=swapIx a b c j):i=j:=by
 unfold swapIx at e
 by_cases h1:i < a
 ·rw [if_pos h1] at e
  by_cases h2:j < a
  ·rw [if_pos h2] at e;exact e
  ·rw [if_neg h2] at e
   by_cases h3:j < a+c
   ·rw [if_pos h3] at e;omega
   ·rw [if_neg h3] at e;omega
 ·rw [if_neg h1] at e
  by_cases h4:i < a+c
  ·rw [if_pos h4] at e
   by_cases h2:j < a
   ·rw [if_pos h2] at e;omega
   ·rw [if_neg h2] at e
    by_cases h3:j < a+c
    ·rw [if_pos h3] at e;omega
    ·rw [if_neg h3] at e;omega
  ·rw [if_neg h4] at e
   by_cases h2:j < a
   ·rw [if_pos h2] at e;omega
   ·rw [if_neg h2] at e
    by_cases h3:j < a+c
    ·rw [if_pos h3] at e;omega
    ·rw [if_neg h3] at e;omega
theorem Sep.swap {W w:World} (A B C:List Asn) (h:Sep W (A++(B++C)) w):Sep W (A++(C++B)) w:=by
 refine Go.Proofs.Sep.reix h (swapIx A.length B.length C.length) (fun i j hi hj=>?_) (fun i X hi=>?_)
 ·simp only [List.length_append] at hi hj
  exact swapIx_inj hi hj
 ·have hil:=(List.getElem?_eq_some_iff.1 hi).1
  simp only [List.length_append] at hil
  unfold swapIx
  by_cases hia:i < A.length
  ·rw [if_pos hia]
   rw [List.getElem?_append_left hia] at hi ⊢
   exact hi
  ·rw [if_neg hia]
   rw [List.getElem?_append_right (by omega)] at hi
   by_cases hic:i < A.length+C.length
   ·rw [if_pos hic]
    rw [List.getElem?_append_left (by omega)] at hi
    rw [List.getElem?_append_right (by omega),List.getElem?_append_right (by omega),show i+B.length - A.length - B.length=i - A.length by omega]
    exact hi
   ·rw [if_neg hic]
    rw [List.getElem?_append_right (by omega)] at hi
    rw [List.getElem?_append_right (by omega),List.getElem?_append_left (by omega),show i - C.length - A.length=i - A.length - C.length by omega]
    exact hi
def bgJ (s:SdS) (i:Nat) (hd:Int):Option Nat :=
 if 0≤hd∧hd < ((s.cl[i]?.map fun q=>q.bs.length).getD 0:Nat) then (s.cl[i]?.bind fun q=>q.bs[hd.toNat]?) else none
def opDo (s:SdS) (S:MgS) (i:Nat) (o:OpS):SdS × MgS × Bool :=
 if o.kind=1 then (begSd s S i,begNext S,true)
 else if 2≤o.kind∧o.kind≤5 then (match bgJ s i o.h with | none=>(s,S,true) | some j=>callDo s S i j o)
 else (s,S,true)
def DoPost (W:World) (L T:List Asn) (x p d st m jm:Nat) (r:SdS × MgS × Bool) (e:Ending) (w':World):Prop:=∃ ok b0 b1 b2 b3 dp dn dc,∃ l:Bytes,∃ c:SdC,Hid (ok=r.2.2)∧e=.returned (.tuple #[ansV b0 b1 b2 b3 (.slice dp dn dc),.bool ok])∧Hid (l.length=dn∧dn≤1000000)∧Hid (SdOk c r.1) ∧
 Hid (Sep W (OL (L.set jm (MgrA (pt m) r.2.1)) x (sdItems p d st c r.1++(T++[BytesWA (.slice dp dn dc) l]))) w')
section
variable {W w:World} {L T E:List Asn} {x p d st:Nat} {s:SdS} {c:SdC}
theorem OL_in {L Ls T:List Asn} {x:Nat} (hx:x < L.length) (h:Sep W (OL L x (Ls++T)) w):Sep W (OL (L++T) x Ls) w:=by
 have e:OL (L++T) x Ls=L.set x TrueA++(T++Ls):=by unfold OL;rw [List.set_append_left _ _ hx,List.append_assoc]
 rw [e]
 exact Go.Proofs.Sep.swap _ _ _ h
theorem OL_out {L Ls T:List Asn} {x:Nat} (hx:x < L.length) (h:Sep W (OL (L++T) x Ls) w):Sep W (OL L x (Ls++T)) w:=by
 have e:OL (L++T) x Ls=L.set x TrueA++(T++Ls):=by unfold OL;rw [List.set_append_left _ _ hx,List.append_assoc]
 rw [e] at h
 exact Go.Proofs.Sep.swap _ _ _ h
theorem bgBlk_eq (c:SdC) (s:SdS) (i:Nat) (hd:Int):bgBlk c s i hd=(bgJ s i hd).bind fun j=>(c.bb[j]?).map fun b=>(j,b):=by
 unfold bgBlk bgJ
 split
 ·rfl
 ·rfl
theorem bgJ_none (hc:SdOk c s) {i:Nat} (hi:i < 8) {hd:Int} (h:bgBlk c s i hd=none):bgJ s i hd=none:=by
 rw [bgBlk_eq] at h
 cases hj:bgJ s i hd with
 | none=>rfl
 | some j =>
  exfalso
  rw [hj] at h
  have hsi:i < s.cl.length:=by rw [hc.s8];exact hi
  have hlt:j < s.bg.length:=by
   unfold bgJ at hj
   split at hj
   ·rw [List.getElem?_eq_getElem hsi] at hj
    obtain ⟨hq,e⟩:=List.getElem?_eq_some_iff.1 (show s.cl[i].bs[hd.toNat]? = some j from hj)
    have:=((hc.cl i (by rw [hc.c8];exact hi) hsi).bm _ hq).1
    rw [e] at this;exact this
   ·cases hj
  have h2:((c.bb[j]?).map fun b=>(j,b))=none:=h
  rw [List.getElem?_eq_getElem (by rw [hc.bl];exact hlt)] at h2
  cases h2
theorem bgJ_some {i:Nat} {hd:Int} {j b:Nat} (h:bgBlk c s i hd=some (j,b)):bgJ s i hd=some j∧c.bb[j]? = some b:=by
 rw [bgBlk_eq] at h
 cases hj:bgJ s i hd with
 | none=>rw [hj] at h;cases h
 | some j' =>
  rw [hj] at h
  have h2:((c.bb[j']?).map fun b=>(j',b))=some (j,b):=h
  cases hb:c.bb[j']? with
  | none=>rw [hb] at h2;cases h2
  | some b'=>rw [hb] at h2;cases h2;exact ⟨rfl,hb⟩
theorem sdOk_com (hc:SdOk c s) {i j:Nat} {S:MgS} (hj:j < s.bg.length):SdOk c (comDo s S i j).1:=by
 unfold comDo askDo
 repeat' split
 all_goals first | exact hc | exact sdOk_en hc hj
theorem sdOk_call (hc:SdOk c s) {i j:Nat} {S:MgS} {o:OpS} (hj:j < s.bg.length):SdOk c (callDo s S i j o).1:=by
 unfold callDo
 repeat' split
 all_goals first | exact hc | exact sdOk_en hc hj | exact sdOk_com hc hj
theorem sdAtT (h:Sep W (OL L x (sdItems p d st c s++T)) w) (hxl:x < L.length) (hc:SdOk c s) {i:Nat} (hi:i < 8) (hd:Int) :
  Calls Tryz.prog 50 #[.pointer (some ⟨p,2+i * 4,none⟩),.int .i64 hd] w fun e w'=>w=w' ∧
   ((bgJ s i hd=none∧e=.returned (.pointer none))∨∃ j b,Hid (bgJ s i hd=some j∧c.bb[j]? = some b)∧e=.returned (pt b)):=by
 refine (sdAt (OL_in hxl h) hc hi hd).mono ?_
 rintro e w' ⟨rfl,⟨h1,rfl⟩ | ⟨j,b,h1,rfl⟩⟩
 ·exact ⟨rfl,.inl ⟨bgJ_none hc hi h1,rfl⟩⟩
 ·exact ⟨rfl,.inr ⟨j,b,bgJ_some h1,rfl⟩⟩
theorem sdBeginT (h:Sep W (OL L x (sdItems p d st c s++T)) w) (hc:SdOk c s) (hxl:x < L.length) {ist jm m sl pos num:Nat} {S:MgS} (hist:L[ist]? = some (StoreB st d m sl pos num)) (hjm:L[jm]? = some (MgrA (pt m) S)) (h1:ist≠x) (h2:jm≠x) (h3:ist≠jm) {N:Nat} (g:MgG N S) (i:Nat) (hi:i < 8) (hbn:s.bg.length≤100000) (a0 a1 a2 a3:Int) :
  Calls Tryz.prog 49 #[pt p,.pointer (some ⟨p,2+i * 4,none⟩),ansV a0 a1 a2 a3 (.slice none 0 0)] w fun e w'=>∃ b1 b2 b3 c',e=.returned (ansV a0 b1 b2 b3 (.slice none 0 0))∧Hid (SdOk c' (begSd s S i))∧Hid (Sep W (OL (L.set jm (MgrA (pt m) (begNext S))) x (sdItems p d st c' (begSd s S i)++T)) w'):=by
 have hil:=(List.getElem?_eq_some_iff.1 hist).1
 have hml:=(List.getElem?_eq_some_iff.1 hjm).1
 have hx2:x < (L++T).length:=by rw [List.length_append];omega
 have hs:=SchA.closed (OL_in hxl h) hx2 hc
 have hget:∀ k,k < L.length→k≠x→((L++T).set x (SchA p d st s))[k]? = L[k]? := fun k hk hne=>by
  rw [List.getElem?_set_ne (Ne.symm hne),List.getElem?_append_left hk]
 refine (sdBegin hs (List.getElem?_set_self hx2) (by rw [hget _ hil h1];exact hist) (by rw [hget _ hml h2];exact hjm) h1 h2 h3 g i hi hbn a0 a1 a2 a3).mono ?_
 rintro e w' ⟨⟨b1,b2,b3,rfl⟩,hS⟩
 obtain ⟨c',hc',hS',_⟩:=SchA.opened hS.out (List.getElem?_set_self (by rw [List.length_set,List.length_set];exact hx2))
 refine ⟨b1,b2,b3,c',rfl,hc',?_⟩
 rw [OL_again] at hS'
 have e:((L++T).set x (SchA p d st s)).set jm (MgrA (pt m) (begNext S))=(L.set jm (MgrA (pt m) (begNext S))++T).set x (SchA p d st s):=by
  rw [List.set_comm _ _ (Ne.symm h2),List.set_append_left _ _ hml]
 rw [e,OL_again] at hS'
 exact OL_out (by rw [List.length_set];exact hxl) hS'
end
end Go.Proofs
namespace Go.Proofs
open Go.RowKit Sc
section
variable {W w:World} {L T:List Asn} {x p d st:Nat} {s:SdS} {c:SdC}
theorem DoPost.of {w':World} {m jm:Nat} {r:SdS × MgS × Bool} {s1:SdS} {S1:MgS} {ok:Bool} {L1:List Asn} {c1:SdC} (HT:r=(s1,S1,ok)) (HL:L.set jm (MgrA (pt m) S1)=L1) (hc:SdOk c1 s1) {b0 b1 b2 b3:Int} {dp:Option Addr} {dn dc:Nat} {bs:Bytes} (HDL:bs.length=dn∧dn≤1000000) (h:Sep W (OL L1 x (sdItems p d st c1 s1++(T++[BytesWA (.slice dp dn dc) bs]))) w'):DoPost W L T x p d st m jm r (.returned (.tuple #[.agg #[.int .i64 b0,.int .i64 b1,.int .i64 b2,.int .i64 b3,.slice dp dn dc],.bool ok])) w':=by
 subst HT
 refine ⟨ok,b0,b1,b2,b3,dp,dn,dc,bs,c1,rfl,rfl,HDL,hc,?_⟩
 show Sep _ _ _
 rw [HL]
 exact h
theorem sdB_drop2 {X Y Z:Asn} (h:Sep W (OL L x (sdItems p d st c s++(T++([X,Y]++[Z])))) w):Sep W (OL L x (sdItems p d st c s++(T++[Z]))) w:=by
 have e:∀ Q:List Asn,OL L x (sdItems p d st c s++(T++Q))=(L.set x TrueA++sdItems p d st c s++T)++Q:=fun Q=>by unfold OL;simp only [List.append_assoc]
 rw [e] at h ⊢
 exact Go.Proofs.Sep.drop1 (Go.Proofs.Sep.drop1 h)
theorem sdB_box2 (hc:Sd8 c s) {X Y Z:Asn}:(OL L x (sdItems p d st c s++(T++([X,Y]++[Z]))))[L.length+(36+T.length)]? = some X∧(OL L x (sdItems p d st c s++(T++([X,Y]++[Z]))))[L.length+(36+(T.length+1))]? = some Y:=by
 have hl:=sd_len (p:=p) (d:=d) (st:=st) hc
 rw [sdT_ix hc hl,sdT_ix hc hl]
 exact ⟨(three_ix T X Y Z []).1,(three_ix T X Y Z []).2.1⟩
theorem sdB_set2 (hc:Sd8 c s) {X Y Z:Asn} (V:Asn):(OL L x (sdItems p d st c s++(T++([X,Y]++[Z])))).set (L.length+(36+(T.length+1))) V=OL L x (sdItems p d st c s++(T++([X,V]++[Z]))):=by
 have hl:=sd_len (p:=p) (d:=d) (st:=st) hc
 rw [sdT_setT hl]
 exact congrArg (fun q=>OL L x (sdItems p d st c s++q)) (three_set T X Y Z V []).1
theorem sdB_nil {X Y:Asn} (h:Sep W (OL L x (sdItems p d st c s++(T++[X,Y]))) w):Sep W (OL L x (sdItems p d st c s++(T++([X,Y]++[BytesWA (.slice none 0 0) []])))) w:=by
 have h1:=h.new (Below.refl _ _) (BytesWA (.slice none 0 0) []) (F:=fun _=>False) (fun _ h=>h.elim) SlAt.nil
 rw [OL_app,List.append_assoc,List.append_assoc] at h1
 exact h1
theorem sdB_assoc {X Y Z:Asn} (h:Sep W (OL L x (sdItems p d st c s++((T++[X,Y])++[Z]))) w):Sep W (OL L x (sdItems p d st c s++(T++([X,Y]++[Z])))) w:=by
 rw [List.append_assoc] at h;exact h
theorem sdB_fin {X Z:Asn} {R:Nat} {u0 u1 u2 u3 u4:Value} {A:TypeId} (h:Sep W (OL L x (sdItems p d st c s++(T++([X,BoxA R #[u0,u1,u2,u3,u4] A]++[Z])))) w) (hc:Sd8 c s) (v0 v1 v2 v3 v4:Value) :
  Hid (((((((w.setCell ⟨R,0,none⟩ v0).setCell ⟨R,1,none⟩ v1).setCell ⟨R,2,none⟩ v2).setCell ⟨R,3,none⟩ v3).setCell ⟨R,4,none⟩ v4)).heap[R]? = some (.cells #[v0,v1,v2,v3,v4] A (0,0))) ∧
  Hid (Sep W (OL L x (sdItems p d st c s++(T++[Z]))) (((((w.setCell ⟨R,0,none⟩ v0).setCell ⟨R,1,none⟩ v1).setCell ⟨R,2,none⟩ v2).setCell ⟨R,3,none⟩ v3).setCell ⟨R,4,none⟩ v4)):=by
 have hs10:=box_fill5 h (sdB_box2 hc).2 v0 v1 v2 v3 v4
 rw [sdB_set2 hc _] at hs10
 obtain ⟨F,hF,_⟩:=hs10.get _ (sdB_box2 hc).2
 exact ⟨hF.2,sdB_drop2 hs10⟩
set_option maxRecDepth 100000 in
set_option maxHeartbeats 2000000 in
theorem sdDo (h:Hid (Sep W (OL L x (sdItems p d st c s++T)) w)) (hc:SdOk c s) (hxl:x < L.length) {ist jm m sl pos num:Nat} {S:MgS} (hist:L[ist]? = some (StoreB st d m sl pos num)) (hjm:L[jm]? = some (MgrA (pt m) S)) (h1:ist≠x) (h2:jm≠x) (h3:ist≠jm) {N:Nat} (g:MgG N S) (hN:N≤1000000) (hql:S.queue.length≤1000000) (i:Nat) (hi:i < 8) (hbn:s.bg.length≤100000)
  (o0 o1 o2 o3:Int) (io2:I64 o2) (io3:I64 o3) (lp:Option Addr) (lc:Nat) (pl:List Put) (hpl:pl.length≤1000000) (hm:(.slice lp pl.length lc,pl)∈c.ps) :
  Calls Tryz.prog 31 #[pt p,.pointer (some ⟨p,2+i * 4,none⟩),.agg #[.int .i64 o0,.int .i64 o1,.int .i64 o2,.int .i64 o3,.slice lp pl.length lc]] w (DoPost W L T x p d st m jm (opDo s S i ⟨o0,o1,o2,o3,pl⟩)):=by
 have hs0:=Go.Proofs.Sep.boxT h.out #[.int .i64 o0,.int .i64 o1,.int .i64 o2,.int .i64 o3,.slice lp pl.length lc] 49
 have hs2:=Go.Proofs.Sep.boxT hs0 #[.int .i64 0,.int .i64 0,.int .i64 0,.int .i64 0,.slice none 0 0] 54
 have hz0:(w.alloc (.cells #[.int .i64 o0,.int .i64 o1,.int .i64 o2,.int .i64 o3,.slice lp pl.length lc] 49 (0,0))).heap.size=w.heap.size+1:=by simp
 rw [hz0,List.append_assoc,OL_app,List.append_assoc] at hs2
 obtain ⟨wa,hwa⟩:∃ wa,(w.alloc (.cells #[.int .i64 o0,.int .i64 o1,.int .i64 o2,.int .i64 o3,.slice lp pl.length lc] 49 (0,0))).alloc (.cells #[.int .i64 0,.int .i64 0,.int .i64 0,.int .i64 0,.slice none 0 0] 54 (0,0))=wa:=⟨_,rfl⟩
 obtain ⟨O,hO⟩:∃ O,w.heap.size=O:=⟨_,rfl⟩
 obtain ⟨R,hR⟩:∃ R,O+1=R:=⟨_,rfl⟩
 rw [hwa,hO,hR] at hs2
 have HS2:Hid (Sep W (OL L x (sdItems p d st c s++(T++[BoxA O #[.int .i64 o0,.int .i64 o1,.int .i64 o2,.int .i64 o3,.slice lp pl.length lc] 49,BoxA R #[.int .i64 0,.int .i64 0,.int .i64 0,.int .i64 0,.slice none 0 0] 54]))) wa):=hs2
 have hc8:=hc.toSd8
 have HC:=Lib.hid hc
 have HG:Hid (MgG N S):=g
 have HST:Hid (L[ist]? = some (StoreB st d m sl pos num)):=hist
 have HMG:Hid (L[jm]? = some (MgrA (pt m) S)):=hjm
 have HN1:=Lib.hid h1
 have HN2:=Lib.hid h2
 have HN3:=Lib.hid h3
 have HM:=Lib.hid hm
 have hml:=(List.getElem?_eq_some_iff.1 hjm).1
 obtain ⟨⟨e0,e1,e2,e3,e4⟩,_⟩:=box5 HS2.out (sdB_box hc8).1
 obtain ⟨⟨y0,y1,y2,y3,y4⟩,⟨f0,f1,f2,f3,f4⟩⟩:=box5 HS2.out (sdB_box hc8).2
 have hs10:=box_fill5 HS2.out (sdB_box hc8).2 (.int .i64 o0) (.int .i64 0) (.int .i64 o1) (.int .i64 0) (.slice none 0 0)
 rw [(sdB_set hc8 _).2] at hs10
 have HS3:=Lib.hid hs10
 clear hs0 hs2 hs10 hz0 h hist hjm hc g h1 h2 h3 hm HS2
 go_enter Tryz.func31,Tryz.ntmps31
 go_wp2_with fail
 go_step3
 go_upto_region 2 with fail
 try rw [hwa]
 try rw [hO]
 try rw [hR]
 clear hwa hO hR e0 e1 e2 e3 e4 y0 y1 y2 y3 y4 f0 f1 f2 f3 f4
 generalize ((((wa.setCell ⟨R,0,none⟩ (.int .i64 o0)).setCell ⟨R,1,none⟩ (.int .i64 0)).setCell ⟨R,2,none⟩ (.int .i64 o1)).setCell ⟨R,3,none⟩ (.int .i64 0)).setCell ⟨R,4,none⟩ (.slice none 0 0)=w1 at *
 obtain ⟨⟨e0,e1,e2,e3,e4⟩,_⟩:=box5 HS3.out (sdB_box hc8).1
 obtain ⟨⟨y0,y1,y2,y3,y4⟩,⟨f0,f1,f2,f3,f4⟩⟩:=box5 HS3.out (sdB_box hc8).2
 by_cases hk1:o0=1
 case' pos =>
  subst hk1
  go_wp2_with fail
  refine (sdBeginT HS3.out HC.out hxl HST.out HMG.out HN1.out HN2.out HN3.out HG.out i hi hbn 1 0 o1 0).mono ?_
  rintro e w3 ⟨b1,b2,b3,c',rfl,HC1,HS4⟩
  have hd8:=HC1.out.toSd8
  have hs5:=sdB_nil HS4.out
  obtain ⟨HF,HS10⟩:=sdB_fin hs5 hd8 (.int .i64 1) (.int .i64 b1) (.int .i64 b2) (.int .i64 b3) (.slice none 0 0)
  clear e0 e1 e2 e3 e4 y0 y1 y2 y3 y4 f0 f1 f2 f3 f4 HS3 HS4
  obtain ⟨_,⟨f0,f1,f2,f3,f4⟩⟩:=box5 hs5 (sdB_box2 hd8).2
  clear hs5
  have HT:Hid (opDo s S i ⟨1,o1,o2,o3,pl⟩=(begSd s S i,begNext S,true)):=by show _=_;unfold opDo;rw [if_pos rfl]
  unfold ansV
  go_wp2_with fail
  (try simp only [Exit.inBlock,Exit.then])
  refine ret_cell_two rfl (b:=R) (t:=54) (fr:=(0,0)) rfl (cs:=#[.int .i64 1,.int .i64 b1,.int .i64 b2,.int .i64 b3,.slice none 0 0]) HF.out (Tryz.underlying54) rfl (by kernel_rfl) rfl rfl (DoPost.of HT.out rfl HC1.out ⟨rfl,by omega⟩ HS10.out)
 case' neg =>
  go_wp2_with fail
  refine (sdAtT HS3.out hxl HC.out hi o1).mono ?_
  rintro e w3 ⟨rfl,hh⟩
  by_cases hk:2≤o0∧o0≤5
  case' pos =>
   have hk4:o0=2∨o0=3∨o0=4∨o0=5:=by omega
   rcases hh with ⟨hn,rfl⟩ | ⟨j,b,HJ,rfl⟩
   case' inl =>
    have HT:Hid (opDo s S i ⟨o0,o1,o2,o3,pl⟩=(s,S,true)):=by
     show _=_
     unfold opDo
     rw [if_neg hk1,if_pos hk]
     show (match bgJ s i o1 with | none=>_ | some j=>_)=_
     rw [hn]
    have hs4:=HS3.out.box_store _ (sdB_box hc8).2 1 (.int .i64 5)
    rw [(sdB_set hc8 _).2] at hs4
    have HS4:Hid (Sep W (OL L x (sdItems p d st c s++(T++[BoxA O #[.int .i64 o0,.int .i64 o1,.int .i64 o2,.int .i64 o3,.slice lp pl.length lc] 49,BoxA R #[.int .i64 o0,.int .i64 5,.int .i64 o1,.int .i64 0,.slice none 0 0] 54]))) (w1.setCell ⟨R,1,none⟩ (.int .i64 5))):=hs4
    clear hs4 hn HS3 hk hk1
    obtain ⟨kd,HKD⟩:∃ kd,Hid (kd=o0):=⟨_,rfl⟩
    rcases hk4 with rfl | rfl | rfl | rfl
    all_goals
     go_wp2_with fail
     go_step3
     go_upto_region 14 with fail
     clear e0 e1 e2 e3 e4 y0 y1 y2 y3 y4 f0 f1 f2 f3 f4
     generalize w1.setCell ⟨R,1,none⟩ (.int .i64 5)=w4 at *
     have hs5:=sdB_nil HS4.out
     obtain ⟨⟨y0,y1,y2,y3,y4⟩,⟨f0,f1,f2,f3,f4⟩⟩:=box5 hs5 (sdB_box2 hc8).2
     obtain ⟨HF,HS10⟩:=sdB_fin hs5 hc8 (.int .i64 kd) (.int .i64 5) (.int .i64 o1) (.int .i64 0) (.slice none 0 0)
     obtain rfl:=HKD.out
     clear hs5
     go_wp2_with fail
     (try simp only [Exit.inBlock,Exit.then,Exit.noGoto])
     refine ret_cell_two rfl (b:=R) (t:=54) (fr:=(0,0)) rfl (cs:=_) HF.out (Tryz.underlying54) rfl (by kernel_rfl) rfl rfl (DoPost.of HT.out (set_same HMG.out) HC.out ⟨rfl,by omega⟩ HS10.out)
   case' inr =>
    have HT:Hid (opDo s S i ⟨o0,o1,o2,o3,pl⟩=callDo s S i j ⟨o0,o1,o2,o3,pl⟩):=by
     show _=_
     unfold opDo
     rw [if_neg hk1,if_pos hk]
     show (match bgJ s i o1 with | none=>_ | some j=>_)=_
     rw [HJ.out.1]
    have HCL:=Lib.hid (sdCall HS3.out HC.out hxl HST.out HMG.out HN1.out HN2.out HN3.out HG.out hN hql i hi j b HJ.out.2 o0 o1 o2 o3 io2 io3 lp lc pl hpl HM.out o0 0 o1 0)
    obtain ⟨rr,hrr⟩:∃ r,callDo s S i j ⟨o0,o1,o2,o3,pl⟩=r:=⟨_,rfl⟩
    have HOK1:Hid (SdOk c rr.1):=by show SdOk _ _;rw [← hrr];exact sdOk_call HC.out (by rw [← HC.out.bl];exact (List.getElem?_eq_some_iff.1 HJ.out.2).1)
    rw [hrr] at HCL HT
    clear hk hk1 hrr
    rcases hk4 with rfl | rfl | rfl | rfl
    all_goals
     go_wp2_with fail
     go_step3
     go_wp2_with fail
     refine (HCL.out).mono ?_
     rintro e w3 ⟨ok,b0,b1,b2,b3,dp,dn,dc,bs,HOK,rfl,HDL,HS4⟩
     have hd8:=HOK1.out.toSd8
     have hs6:=sdB_assoc HS4.out
     clear HCL HS3 e0 e1 e2 e3 e4 y0 y1 y2 y3 y4 f0 f1 f2 f3 f4
     obtain ⟨_,⟨f0,f1,f2,f3,f4⟩⟩:=box5 hs6 (sdB_box2 hd8).2
     obtain ⟨HF,HS10⟩:=sdB_fin hs6 hd8 (.int .i64 b0) (.int .i64 b1) (.int .i64 b2) (.int .i64 b3) (.slice dp dn dc)
     clear hs6 HS4
     unfold ansV
     go_wp2_with fail
     (try simp only [Exit.inBlock,Exit.then,Exit.noGoto])
     refine ret_cell_two rfl (b:=R) (t:=54) (fr:=(0,0)) rfl (cs:=#[.int .i64 b0,.int .i64 b1,.int .i64 b2,.int .i64 b3,.slice dp dn dc]) HF.out (Tryz.underlying54) rfl (by kernel_rfl) rfl rfl (DoPost.of (s1:=rr.1) (S1:=rr.2.1) (by rw [HT.out,HOK.out]) rfl HOK1.out HDL.out HS10.out)
  case' neg =>
   have HT:Hid (opDo s S i ⟨o0,o1,o2,o3,pl⟩=(s,S,true)):=by
    show _=_
    unfold opDo
    rw [if_neg hk1,if_neg hk]
   have hs4:=HS3.out.box_store _ (sdB_box hc8).2 1 (.int .i64 1)
   rw [(sdB_set hc8 _).2] at hs4
   have HS4:Hid (Sep W (OL L x (sdItems p d st c s++(T++[BoxA O #[.int .i64 o0,.int .i64 o1,.int .i64 o2,.int .i64 o3,.slice lp pl.length lc] 49,BoxA R #[.int .i64 o0,.int .i64 1,.int .i64 o1,.int .i64 0,.slice none 0 0] 54]))) (w1.setCell ⟨R,1,none⟩ (.int .i64 1))):=hs4
   have k2:¬ o0=2:=by omega
   have k3:¬ o0=3:=by omega
   have k4:¬ o0=4:=by omega
   have k5:¬ o0=5:=by omega
   clear hs4 HS3 hk
   rcases hh with ⟨_,rfl⟩ | ⟨j,b,_,rfl⟩
   all_goals
    go_wp2_with fail
    go_step3
    go_upto_region 14 with fail
    clear e0 e1 e2 e3 e4 y0 y1 y2 y3 y4 f0 f1 f2 f3 f4
    generalize w1.setCell ⟨R,1,none⟩ (.int .i64 1)=w4 at *
    have hs5:=sdB_nil HS4.out
    obtain ⟨⟨y0,y1,y2,y3,y4⟩,⟨f0,f1,f2,f3,f4⟩⟩:=box5 hs5 (sdB_box2 hc8).2
    obtain ⟨HF,HS10⟩:=sdB_fin hs5 hc8 (.int .i64 o0) (.int .i64 1) (.int .i64 o1) (.int .i64 0) (.slice none 0 0)
    clear hs5
    go_wp2_with fail
    (try simp only [Exit.inBlock,Exit.then,Exit.noGoto])
    refine ret_cell_two rfl (b:=R) (t:=54) (fr:=(0,0)) rfl (cs:=#[.int .i64 o0,.int .i64 1,.int .i64 o1,.int .i64 0,.slice none 0 0]) HF.out (Tryz.underlying54) rfl (by kernel_rfl) rfl rfl (DoPost.of HT.out (set_same HMG.out) HC.out ⟨rfl,by omega⟩ HS10.out)
end
end Go.Proofs
namespace Go.Proofs
open Go.RowKit Sc
def evUp (s:SdS):SdS:={ s with ev:=s.ev+1 }
def setAsk (s:SdS) (i:Nat) (b:Bool):SdS:=setCl s i { clAt s i with asked:=b }
def popOp (s:SdS) (i:Nat):SdS:=setCl s i { clAt s i with ops:=(clAt s i).ops.tail }
def ansUp (s:SdS) (i:Nat):SdS:=setCl s i { clAt s i with na:=(clAt s i).na+1 }
def stepSd (s:SdS) (S:MgS) (i:Nat):SdS × MgS × Int :=
 match (clAt s i).ops with
 | []=>(evUp s,S,14)
 | o :: _ =>
  if (opDo (evUp s) S i o).2.2=true then (ansUp (setAsk (popOp (opDo (evUp s) S i o).1 i) i false) i,(opDo (evUp s) S i o).2.1,0)
  else (setAsk (opDo (evUp s) S i o).1 i true,(opDo (evUp s) S i o).2.1,16)
theorem setCl_at {s:SdS} {i:Nat} (hs:s.cl.length=8) (hi:i < 8) (q:ClS):clAt (setCl s i q) i=q:=by
 unfold clAt setCl
 rw [List.getElem?_set_self (by omega)];rfl
theorem setCl_len {s:SdS} {i:Nat} (q:ClS):(setCl s i q).cl.length=s.cl.length:=List.length_set ..
theorem begSd_ops {s:SdS} {S:MgS} {i:Nat} (hs:s.cl.length=8) (hi:i < 8):(clAt (begSd s S i) i).ops=(clAt s i).ops∧(begSd s S i).cl.length=8∧(clAt (begSd s S i) i).na=(clAt s i).na:=by
 unfold begSd
 split
 ·refine ⟨?_,?_,?_⟩
  ·show (clAt (setCl s i _) i).ops=_
   rw [setCl_at hs hi]
  ·show (setCl s i _).cl.length=8
   rw [setCl_len,hs]
  ·show (clAt (setCl s i _) i).na=_
   rw [setCl_at hs hi]
 ·exact ⟨rfl,hs,rfl⟩
theorem callDo_cl {s:SdS} {S:MgS} {i j:Nat} {o:OpS}:(callDo s S i j o).1.cl=s.cl:=by
 unfold callDo comDo askDo setEn
 repeat' split
 all_goals rfl
theorem opDo_ops {s:SdS} {S:MgS} {i:Nat} {o:OpS} (hs:s.cl.length=8) (hi:i < 8):(clAt (opDo s S i o).1 i).ops=(clAt s i).ops∧(opDo s S i o).1.cl.length=8∧(clAt (opDo s S i o).1 i).na=(clAt s i).na:=by
 unfold opDo
 split
 ·exact begSd_ops hs hi
 ·split
  ·split
   ·exact ⟨rfl,hs,rfl⟩
   ·unfold clAt
    rw [callDo_cl]
    exact ⟨rfl,hs,rfl⟩
  ·exact ⟨rfl,hs,rfl⟩
theorem infoAns:(Tryz.prog.info? 54).map (fun i=>(i.zero,i.size,i.bytes))=some (some (.agg #[.int .i64 0,.int .i64 0,.int .i64 0,.int .i64 0,.slice none 0 0]),5,56):=by kernel_rfl
theorem Sep.apush {W w:World} {L:List Asn} (h:Sep W L w) (i:Nat) {n:Nat} {v:Value} {xs:List Value} (hi:L[i]? = some (ORowA 5 v n xs)) (v0 v1 v2 v3:Int) (p:Option Addr) (m c:Nat) (hn:n≤1000000) :
  ∃ p' cap w',(Builtin.append_ #[70,70] 70 #[v,.slice (some ⟨w.heap.size,0,none⟩) 1 1]).run Tryz.prog (w.alloc (.cells #[.int .i64 v0,.int .i64 v1,.int .i64 v2,.int .i64 v3,.slice p m c] 54 (0,0)))=.ok (.slice p' (n+1) cap) w'∧Sep W (L.set i (ORowA 5 (.slice p' (n+1) cap) (n+1) (xs++[.int .i64 v0,.int .i64 v1,.int .i64 v2,.int .i64 v3,.slice p m c]))) w':=by
 obtain ⟨i0,hi0,hz0,hz1,hz2⟩:=info_parts infoAns
 obtain ⟨v',w',hr,hS⟩:=Sc.Sep.orow_push (P:=Tryz.prog) h i hi (below_alloc w _) 70 70 54 i0 _ 56 Tryz.underlying70 hi0 hz0 hz1 hz2 rfl (by decide) ⟨w.heap.size,0,none⟩ 1 1 [.int .i64 v0,.int .i64 v1,.int .i64 v2,.int .i64 v3,.slice p m c] rfl (cells5 (heap_alloc_new w _)) (by simp [Value.oneCell']) (by decide) (by unfold maxLen;omega) (by omega)
 obtain ⟨F,hF,_⟩:=hS.get i (List.getElem?_set_self (List.getElem?_eq_some_iff.1 hi).1)
 obtain ⟨p',cap,rfl,_⟩:=ORowP.shape hF
 exact ⟨p',cap,w',hr,hS⟩
section
variable {W w:World} {L T:List Asn} {x p d st:Nat} {s:SdS} {c:SdC}
theorem sdOk_ev (hc:SdOk c s):SdOk c (evUp s):=⟨⟨hc.c8,hc.s8⟩,hc.bl,hc.nd,fun i h h'=>let q:=hc.cl i h h';⟨q.pl,q.pm,q.oi,q.ol,q.bl,q.bm,q.bq⟩,hc.hb⟩
theorem sdT_ev (h:Sep W (OL L x (sdItems p d st c s++T)) w) (hc:Sd8 c s):Sep W (OL L x (sdItems p d st c (evUp s)++T)) (w.setCell ⟨p,35,none⟩ (.int .i64 (s.ev+1))):=by
 have h1:=h.box_store (L.length+0) (sdT_get (by rw [sd_head 0 (by omega)];rfl)) 35 (.int .i64 (s.ev+1))
 rw [sdT_set (by rw [sd_len hc];omega),sdRow_setEv hc] at h1
 exact h1
theorem sdT_ask (h:Sep W (OL L x (sdItems p d st c s++T)) w) (hc:SdOk c s) {i:Nat} (hi:i < 8) (b:Bool) :
  Sep W (OL L x (sdItems p d st c (setAsk s i b)++T)) (w.setCell ⟨p,2+i * 4+3,none⟩ (.bool b))∧SdOk c (setAsk s i b):=by
 have hci:i < c.cl.length:=by rw [hc.c8];exact hi
 have hsi:i < s.cl.length:=by rw [hc.s8];exact hi
 have e0:(sdItems p d st c s).set (4+(4 * i+3)) TrueA=sdItems p d st c s:=set_same (by rw [sd_item hc.toSd8 hi 3 (by omega)];rfl)
 have e1:setAsk s i b={ s with cl:=s.cl.set i { s.cl[i] with asked:=b } }:=by unfold setAsk;rw [clAt_get hc.s8 hi];rfl
 have e2:({ c with cl:=c.cl.set i c.cl[i] }:SdC)=c:=by rw [List.set_getElem_self]
 have h2:=sd_commit hc.toSd8 hi 3 (by omega) TrueA (by rw [e0];exact h) c.cl[i] { s.cl[i] with asked:=b } rfl 3 (by omega) (.bool b) rfl
 have h3:=sdOk_set hc hi c.cl[i] { s.cl[i] with asked:=b } c.ps (fun _ h=>h) (let q:=hc.cl i hci hsi;⟨q.pl,q.pm,q.oi,q.ol,q.bl,q.bm,q.bq⟩)
 rw [e2] at h2
 have e3:({ c with cl:=c.cl.set i c.cl[i],ps:=c.ps }:SdC)=c:=by rw [List.set_getElem_self]
 rw [e3] at h3
 rw [e1]
 exact ⟨h2,h3⟩
theorem sd_ops1 (hc:SdOk c s) {i:Nat} (hi:i < 8) {o:OpS} {os:List OpS} (ho:(clAt s i).ops=o :: os):∃ (hci:i < c.cl.length) (hsi:i < s.cl.length) (v:Value) (vs:List Value),s.cl[i].ops=o :: os∧c.cl[i].pv=v :: vs∧(v,o.puts)∈c.ps∧(sdItems p d st c s)[4+(4 * i+0)]? = some (ORowA 5 c.cl[i].ov (os.length+1) (opCells o v++opsX os vs)):=by
 have hci:i < c.cl.length:=by rw [hc.c8];exact hi
 have hsi:i < s.cl.length:=by rw [hc.s8];exact hi
 have hcl:=hc.cl i hci hsi
 rw [clAt_get hc.s8 hi] at ho
 have hpl:=hcl.pl
 rw [ho] at hpl
 obtain ⟨v,vs,hv⟩:∃ v vs,c.cl[i].pv=v :: vs:=by
  cases h:c.cl[i].pv with
  | nil=>rw [h] at hpl;simp at hpl
  | cons v vs=>exact ⟨v,vs,rfl⟩
 have hpm:=hcl.pm 0 (by rw [ho];simp) (by rw [hv];simp)
 have e1:c.cl[i].pv[0]'(by rw [hv];simp)=v:=by simp [hv]
 have e2:s.cl[i].ops[0]'(by rw [ho];simp)=o:=by simp [ho]
 rw [e1,e2] at hpm
 refine ⟨hci,hsi,v,vs,ho,hv,hpm,?_⟩
 rw [sd_item (p:=p) (d:=d) (st:=st) hc.toSd8 hi 0 (by omega)]
 show some (ORowA 5 c.cl[i].ov s.cl[i].ops.length (opsX s.cl[i].ops c.cl[i].pv))=_
 rw [ho,hv];rfl
theorem sdT_op0 (h:Sep W (OL L x (sdItems p d st c s++T)) w) (hc:SdOk c s) {i:Nat} (hi:i < 8) {o:OpS} {os:List OpS} (ho:(clAt s i).ops=o :: os) :
  ∃ g a cap lp lc,w.cell? ⟨p,2+i * 4,none⟩=some (.slice (some ⟨g,a,none⟩) (os.length+1) cap)∧os.length≤200∧(Value.slice lp o.puts.length lc,o.puts)∈c.ps ∧
   (w.cell? ⟨g,a,none⟩=some (.int .i64 o.kind)∧w.cell? ⟨g,a+1,none⟩=some (.int .i64 o.h)∧w.cell? ⟨g,a+2,none⟩=some (.int .i64 o.lba)∧w.cell? ⟨g,a+3,none⟩=some (.int .i64 o.len)∧w.cell? ⟨g,a+4,none⟩=some (.slice lp o.puts.length lc))∧I64 o.lba∧I64 o.len:=by
 obtain ⟨hci,hsi,v,vs,ho',hv,hpm,hix⟩:=sd_ops1 (p:=p) (d:=d) (st:=st) hc hi ho
 obtain ⟨FP,hFP,_⟩:=h.get (L.length+3) (A:=PutKA c.ps) (sdT_get (by rw [sd_head 3 (by omega)];rfl))
 obtain ⟨lp,lc,hve,_⟩:=hFP _ hpm
 have hve':v=.slice lp o.puts.length lc:=hve
 obtain ⟨F,hF,_⟩:=h.get _ (sdT_get hix)
 obtain ⟨g,a,cap,hov,q1,q2⟩:=ORowP.base hF (by omega)
 have hcell:∀ j u,(opCells o v++opsX os vs)[j]? = some u→w.cell? ⟨g,a+j,none⟩=some u:=fun j u hu=>ORowP.cell hF hov hu
 have hcl:=hc.cl i hci hsi
 have hoi:=hcl.oi o (by rw [ho'];simp)
 refine ⟨g,a,cap,lp,lc,?_,?_,by rw [← hve'];exact hpm,⟨hcell 0 _ rfl,hcell 1 _ rfl,hcell 2 _ rfl,hcell 3 _ rfl,by rw [← hve'];exact hcell 4 _ rfl⟩,hoi.2.2.1,hoi.2.2.2⟩
 ·have:=sdT_cl h hc.toSd8 hi 0 (by omega)
  rw [Nat.add_zero] at this
  rw [this,← hov];rfl
 ·have:=hcl.ol
  rw [ho',List.length_cons] at this;omega
theorem sdT_pop (h:Sep W (OL L x (sdItems p d st c s++T)) w) (hc:SdOk c s) {i:Nat} (hi:i < 8) {o:OpS} {os:List OpS} (ho:(clAt s i).ops=o :: os) :
  ∃ g a cap c' nv,w.cell? ⟨p,2+i * 4,none⟩=some (.slice (some ⟨g,a,none⟩) (os.length+1) cap)∧os.length+1≤cap∧cap≤maxLen∧((cap=1∧os=[]∧nv=.slice (some ⟨g,a,none⟩) 0 0)∨(cap≠1∧nv=.slice (some ⟨g,a+5,none⟩) os.length (cap - 1)))∧SdOk c' (popOp s i)∧Sep W (OL L x (sdItems p d st c' (popOp s i)++T)) (w.setCell ⟨p,2+i * 4,none⟩ nv):=by
 obtain ⟨hci,hsi,v,vs,ho',hv,hpm,hix⟩:=sd_ops1 (p:=p) (d:=d) (st:=st) hc hi ho
 obtain ⟨F,hF,_⟩:=h.get _ (sdT_get hix)
 obtain ⟨g,a,cap,hov,q1,q2⟩:=ORowP.base hF (by omega)
 have hix2:=hix
 rw [hov] at hix2
 obtain ⟨nv,hnv,h1⟩:∃ nv,((cap=1∧os=[]∧nv=Value.slice (some ⟨g,a,none⟩) 0 0)∨(cap≠1∧nv=Value.slice (some ⟨g,a+5,none⟩) os.length (cap - 1)))∧Sep W ((OL L x (sdItems p d st c s++T)).set (L.length+(4+(4 * i+0))) (ORowA 5 nv os.length ((opCells o v++opsX os vs).drop 5))) w:=by
  by_cases hcp:cap=1
  ·subst hcp
   have hn0:os.length=0:=by omega
   refine ⟨_,.inl ⟨rfl,List.eq_nil_of_length_eq_zero hn0,rfl⟩,h.imp _ (sdT_get hix2) fun F _ hP=>?_⟩
   obtain ⟨z1,⟨e,_⟩ | ⟨g',o',cap',e,hF',z2,z3,z4,z5⟩⟩:=hP
   ·cases e
   ·cases e
    refine ⟨by rw [List.length_drop,z1,hn0],.inr ⟨g,a,0,by rw [hn0],hF',by omega,by omega,fun j hj=>by omega,fun j u hu=>?_⟩⟩
    rw [List.getElem?_eq_none (by rw [List.length_drop,z1,hn0];omega)] at hu
    cases hu
  ·exact ⟨_,.inr ⟨hcp,rfl⟩,Sc.Sep.orow_tail h _ (sdT_get hix2)⟩
 rw [sdT_set (by rw [sd_len hc.toSd8];omega)] at h1
 have hcl:=hc.cl i hci hsi
 have hpl:=hcl.pl
 rw [ho',hv] at hpl
 have h2:=sd_commit hc.toSd8 hi 0 (by omega) _ h1 { c.cl[i] with ov:=nv,pv:=vs } { s.cl[i] with ops:=os } rfl 0 (by omega) nv rfl
 have h3:SdOk { c with cl:=c.cl.set i { c.cl[i] with ov:=nv,pv:=vs },ps:=c.ps } { s with cl:=s.cl.set i { s.cl[i] with ops:=os } }:=by
  refine sdOk_set hc hi _ _ c.ps (fun _ h=>h) ⟨?_,fun j hj hj'=>?_,fun y hy=>hcl.oi y (by rw [ho'];exact List.mem_cons_of_mem _ hy),?_,hcl.bl,hcl.bm,hcl.bq⟩
  ·simpa using hpl
  ·have:=hcl.pm (j+1) (by rw [ho'];exact Nat.succ_lt_succ hj) (by rw [hv];exact Nat.succ_lt_succ hj')
   simp only [ho',hv,List.getElem_cons_succ] at this
   exact this
  ·have:=hcl.ol
   rw [ho',List.length_cons] at this
   show os.length≤200;omega
 have e1:popOp s i={ s with cl:=s.cl.set i { s.cl[i] with ops:=os } }:=by
  unfold popOp;rw [clAt_get hc.s8 hi,ho'];rfl
 refine ⟨g,a,cap,_,nv,?_,q1,q2,hnv,by rw [e1];exact h3,?_⟩
 ·have:=sdT_cl h hc.toSd8 hi 0 (by omega)
  rw [Nat.add_zero] at this
  rw [this,← hov];rfl
 ·rw [e1]
  rw [Nat.add_zero] at h2
  exact h2
theorem sdT_ans (h:Sep W (OL L x (sdItems p d st c s++T)) w) (hc:SdOk c s) {i:Nat} (hi:i < 8) (hn:(clAt s i).na≤1000000) (v0 v1 v2 v3:Int) (dp:Option Addr) (m0 m1:Nat) :
  ∃ ap ac p' cap w' c',w.cell? ⟨p,2+i * 4+2,none⟩=some (.slice ap (clAt s i).na ac)∧(Builtin.append_ #[70,70] 70 #[.slice ap (clAt s i).na ac,.slice (some ⟨w.heap.size,0,none⟩) 1 1]).run Tryz.prog (w.alloc (.cells #[.int .i64 v0,.int .i64 v1,.int .i64 v2,.int .i64 v3,.slice dp m0 m1] 54 (0,0)))=.ok (.slice p' ((clAt s i).na+1) cap) w' ∧
   w'.frozen? ⟨p,2+i * 4+2,none⟩=false∧w'.cell? ⟨p,2+i * 4+2,none⟩=some (.slice ap (clAt s i).na ac)∧(∀ (j b:Nat) (cs:Array Value) (A:TypeId),T[j]? = some (BoxA b cs A)→w'.heap[b]? = some (.cells cs A (0,0)))∧SdOk c' (ansUp s i)∧Sep W (OL L x (sdItems p d st c' (ansUp s i)++T)) (w'.setCell ⟨p,2+i * 4+2,none⟩ (.slice p' ((clAt s i).na+1) cap)):=by
 have hci:i < c.cl.length:=by rw [hc.c8];exact hi
 have hsi:i < s.cl.length:=by rw [hc.s8];exact hi
 have hcl:=hc.cl i hci hsi
 have hat:=clAt_get hc.s8 hi
 have hix:(sdItems p d st c s)[4+(4 * i+2)]? = some (ORowA 5 c.cl[i].av (clAt s i).na c.cl[i].ax):=by
  rw [sd_item (p:=p) (d:=d) (st:=st) hc.toSd8 hi 2 (by omega),hat];rfl
 obtain ⟨F,hF,_⟩:=h.get _ (sdT_get hix)
 obtain ⟨ap,ac,hav,_,_⟩:=ORowP.shape hF
 obtain ⟨p',cap,w',hr,hS⟩:=Go.Proofs.Sep.apush h _ (sdT_get hix) v0 v1 v2 v3 dp m0 m1 hn
 rw [sdT_set (by rw [sd_len hc.toSd8];omega)] at hS
 have hbox7:w'.heap[p]? = some (.cells (sdRow d st c s) 75 (0,0)):=by
  obtain ⟨F,hF,_⟩:=hS.get (L.length+0) (A:=BoxA p (sdRow d st c s) 75) (sdT_get (by rw [List.getElem?_set_ne (by omega),sd_head 0 (by omega)];rfl))
  exact hF.2
 have h2:=sd_commit hc.toSd8 hi 2 (by omega) _ hS { c.cl[i] with av:=.slice p' ((clAt s i).na+1) cap,ax:=c.cl[i].ax++[.int .i64 v0,.int .i64 v1,.int .i64 v2,.int .i64 v3,.slice dp m0 m1] } { s.cl[i] with na:=(clAt s i).na+1 } rfl 2 (by omega) (.slice p' ((clAt s i).na+1) cap) rfl
 have h3:SdOk { c with cl:=c.cl.set i { c.cl[i] with av:=.slice p' ((clAt s i).na+1) cap,ax:=c.cl[i].ax++[.int .i64 v0,.int .i64 v1,.int .i64 v2,.int .i64 v3,.slice dp m0 m1] },ps:=c.ps } { s with cl:=s.cl.set i { s.cl[i] with na:=(clAt s i).na+1 } } :=
  sdOk_set hc hi _ _ c.ps (fun _ h=>h) ⟨hcl.pl,hcl.pm,hcl.oi,hcl.ol,hcl.bl,hcl.bm,hcl.bq⟩
 have e1:ansUp s i={ s with cl:=s.cl.set i { s.cl[i] with na:=(clAt s i).na+1 } }:=by unfold ansUp;rw [hat];rfl
 rw [e1]
 refine ⟨ap,ac,p',cap,w',_,?_,by rw [← hav];exact hr,fz_row hbox7 _,?_,fun j b cs A hj=>?_,h3,h2⟩
 ·rw [sdT_cl h hc.toSd8 hi 2 (by omega),← hav];rfl
 ·rw [cell_row hbox7,sdRow_get hc.toSd8 hi 2 (by omega),← hav];rfl
 ·obtain ⟨F,hF,_⟩:=hS.get (L.length+(36+j)) (A:=BoxA b cs A) (by rw [sdT_ix hc.toSd8 (by rw [List.length_set];exact sd_len hc.toSd8)];exact hj)
  exact hF.2
end
end Go.Proofs
namespace Go.Proofs
open Go.RowKit Sc
def StepPost (W:World) (L:List Asn) (x p d st m jm:Nat) (r:SdS × MgS × Int) (e:Ending) (w':World):Prop:=∃ b0 b1 b2 b3 dp dn dc cd,Hid (cd=r.2.2)∧e=.returned (.tuple #[ansV b0 b1 b2 b3 (.slice dp dn dc),.int .i64 cd]) ∧
 Hid (Sep W ((L.set jm (MgrA (pt m) r.2.1)).set x (SchA p d st r.1)) w')
section
variable {W w:World} {L T:List Asn} {x p d st:Nat} {s:SdS} {c:SdC}
theorem StepPost.of {w':World} {m jm:Nat} {r:SdS × MgS × Int} {s1:SdS} {S1:MgS} {cd:Int} {L1:List Asn} {c1:SdC} (HT:r=(s1,S1,cd)) (HL:L.set jm (MgrA (pt m) S1)=L1) (hc:SdOk c1 s1) {b0 b1 b2 b3:Int} {dp:Option Addr} {dn dc:Nat} (hx:x < L1.length) (h:Sep W (OL L1 x (sdItems p d st c1 s1++T)) w'):StepPost W L x p d st m jm r (.returned (.tuple #[.agg #[.int .i64 b0,.int .i64 b1,.int .i64 b2,.int .i64 b3,.slice dp dn dc],.int .i64 cd])) w':=by
 subst HT
 refine ⟨b0,b1,b2,b3,dp,dn,dc,cd,rfl,rfl,?_⟩
 show Sep _ _ _
 rw [HL]
 exact SchA.closed (sdT_drop h) hx hc
theorem sdT_boxAt {j b:Nat} {u0 u1 u2 u3 u4:Value} {A:TypeId} (hc:Sd8 c s) (h:Sep W (OL L x (sdItems p d st c s++T)) w) (hj:T[j]? = some (BoxA b #[u0,u1,u2,u3,u4] A)) (v0 v1 v2 v3 v4:Value) :
  Hid (((((((w.setCell ⟨b,0,none⟩ v0).setCell ⟨b,1,none⟩ v1).setCell ⟨b,2,none⟩ v2).setCell ⟨b,3,none⟩ v3).setCell ⟨b,4,none⟩ v4)).heap[b]? = some (.cells #[v0,v1,v2,v3,v4] A (0,0))) ∧
  Hid (Sep W (OL L x (sdItems p d st c s++T.set j (BoxA b #[v0,v1,v2,v3,v4] A))) (((((w.setCell ⟨b,0,none⟩ v0).setCell ⟨b,1,none⟩ v1).setCell ⟨b,2,none⟩ v2).setCell ⟨b,3,none⟩ v3).setCell ⟨b,4,none⟩ v4)):=by
 have hl:=sd_len (p:=p) (d:=d) (st:=st) hc
 have hs10:=box_fill5 h (i:=L.length+(36+j)) (by rw [sdT_ix hc hl];exact hj) v0 v1 v2 v3 v4
 rw [sdT_setT hl] at hs10
 obtain ⟨F,hF,_⟩:=hs10.get (L.length+(36+j)) (A:=BoxA b #[v0,v1,v2,v3,v4] A) (by rw [sdT_ix hc hl];exact List.getElem?_set_self (List.getElem?_eq_some_iff.1 hj).1)
 exact ⟨hF.2,hs10⟩
theorem sdT_box5 {j b:Nat} {u0 u1 u2 u3 u4:Value} {A:TypeId} (hc:Sd8 c s) (h:Sep W (OL L x (sdItems p d st c s++T)) w) (hj:T[j]? = some (BoxA b #[u0,u1,u2,u3,u4] A)) :
  (w.cell? ⟨b,0,none⟩=some u0∧w.cell? ⟨b,1,none⟩=some u1∧w.cell? ⟨b,2,none⟩=some u2∧w.cell? ⟨b,3,none⟩=some u3∧w.cell? ⟨b,4,none⟩=some u4) ∧
  (w.frozen? ⟨b,0,none⟩=false∧w.frozen? ⟨b,1,none⟩=false∧w.frozen? ⟨b,2,none⟩=false∧w.frozen? ⟨b,3,none⟩=false∧w.frozen? ⟨b,4,none⟩=false) :=
 box5 h (i:=L.length+(36+j)) (by rw [sdT_ix hc (sd_len hc)];exact hj)
theorem sdT_fz (h:Sep W (OL L x (sdItems p d st c s++T)) w) (j:Nat):w.frozen? ⟨p,j,none⟩=false:=fz_row (sdT_box h) j
theorem sdT_asked (h:Sep W (OL L x (sdItems p d st c s++T)) w) (hc:SdOk c s) {i:Nat} (hi:i < 8):∃ b,w.cell? ⟨p,2+i * 4+3,none⟩=some (.bool b):=⟨_,by rw [sdT_cl h hc.toSd8 hi 3 (by omega)];rfl⟩
theorem sdT_ops (h:Sep W (OL L x (sdItems p d st c s++T)) w) (hc:SdOk c s) {i:Nat} (hi:i < 8):∃ op oc,w.cell? ⟨p,2+i * 4,none⟩=some (.slice op (clAt s i).ops.length oc):=by
 have hci:i < c.cl.length:=by rw [hc.c8];exact hi
 have hsi:i < s.cl.length:=by rw [hc.s8];exact hi
 have hat:=clAt_get hc.s8 hi
 obtain ⟨F,hF,_⟩:=h.get (L.length+(4+(4 * i+0))) (A:=ORowA 5 c.cl[i].ov s.cl[i].ops.length (opsX s.cl[i].ops c.cl[i].pv)) (sdT_get (by rw [sd_item (p:=p) (d:=d) (st:=st) hc.toSd8 hi 0 (by omega)];rfl))
 obtain ⟨op,oc,hov,_,_⟩:=ORowP.shape hF
 refine ⟨op,oc,?_⟩
 have:=sdT_cl h hc.toSd8 hi 0 (by omega)
 rw [Nat.add_zero] at this
 rw [this,hat,← hov];rfl
set_option maxRecDepth 100000 in
set_option maxHeartbeats 2000000 in
theorem sdStep (h:Hid (Sep W L w)) (hx:L[x]? = some (SchA p d st s)) {ist jm m sl pos num:Nat} {S:MgS} (hist:L[ist]? = some (StoreB st d m sl pos num)) (hjm:L[jm]? = some (MgrA (pt m) S)) (h1:ist≠x) (h2:jm≠x) (h3:ist≠jm) {N:Nat} (g:MgG N S) (hN:N≤1000000) (hql:S.queue.length≤1000000) (i:Nat) (hi:i < 8) (hbn:s.bg.length≤100000)
  (hev:0≤s.ev∧s.ev≤1000000) (hna:(clAt s i).na≤1000000) (hpl:∀ o∈(clAt s i).ops,o.puts.length≤1000000) :
  Calls Tryz.prog 15 #[pt p,.int .i64 ((i:Int)+1)] w (StepPost W L x p d st m jm (stepSd s S i)):=by
 obtain ⟨c,hc,hS,hxl⟩:=SchA.opened h.out hx
 have hil:=(List.getElem?_eq_some_iff.1 hist).1
 have hml:=(List.getElem?_eq_some_iff.1 hjm).1
 have hs2:=Go.Proofs.Sep.boxT hS #[.int .i64 0,.int .i64 0,.int .i64 0,.int .i64 0,.slice none 0 0] 54
 rw [OL_app] at hs2
 obtain ⟨wa,hwa⟩:∃ wa,w.alloc (.cells #[.int .i64 0,.int .i64 0,.int .i64 0,.int .i64 0,.slice none 0 0] 54 (0,0))=wa:=⟨_,rfl⟩
 obtain ⟨R,hR⟩:∃ R,w.heap.size=R:=⟨_,rfl⟩
 rw [hwa,hR] at hs2
 have HS2:Hid (Sep W (OL L x (sdItems p d st c s++[BoxA R #[.int .i64 0,.int .i64 0,.int .i64 0,.int .i64 0,.slice none 0 0] 54])) wa):=hs2
 have HC:=Lib.hid hc
 have HG:Hid (MgG N S):=g
 have HST:Hid (L[ist]? = some (StoreB st d m sl pos num)):=hist
 have HMG:Hid (L[jm]? = some (MgrA (pt m) S)):=hjm
 have HN1:=Lib.hid h1
 have HN2:=Lib.hid h2
 have HN3:=Lib.hid h3
 have HPL:=Lib.hid hpl
 have c1:=(sdT_cells HS2.out).2
 have c35:=(sdT_all HS2.out hc.toSd8).2
 have hf:=sdT_fz HS2.out 35
 have HCLI:=Lib.hid (sdClient p st wa c1 i hi)
 have hwr:IntKind.i64.wrap (s.ev+1)=s.ev+1:=IntWalk.i64_in _ (by omega)
 have HS3:=Lib.hid (sdT_ev HS2.out hc.toSd8)
 have HC3:Hid (SdOk c (evUp s)):=sdOk_ev hc
 have HOPS:Hid ((clAt (evUp s) i).ops=(clAt s i).ops):=rfl
 have HNA:=Lib.hid hna
 clear hs2 hS h hx hist hjm hc g h1 h2 h3 HS2 hpl hna
 go_enter Tryz.func15,Tryz.ntmps15
 go_wp2_with fail
 try rw [hwa]
 try rw [hR]
 clear hwa hR
 refine (HCLI.out).mono ?_
 rintro e w1 ⟨rfl,rfl⟩
 clear HCLI
 go_upto_region 5 with fail
 generalize wa.setCell ⟨p,35,none⟩ (.int .i64 (s.ev+1))=w1 at *
 clear c1 c35 hf hwr
 obtain ⟨os0,hos⟩:∃ os,(clAt s i).ops=os:=⟨_,rfl⟩
 obtain ⟨op,oc,c0⟩:=sdT_ops HS3.out HC3.out hi
 rw [HOPS.out,hos] at c0
 rw [hos] at HOPS HPL
 cases os0 with
 | nil =>
  have HT:Hid (stepSd s S i=(evUp s,S,14)):=by show _=_;unfold stepSd;rw [hos]
  obtain ⟨⟨y0,y1,y2,y3,y4⟩,⟨f0,f1,f2,f3,f4⟩⟩:=sdT_box5 HC3.out.toSd8 HS3.out (j:=0) rfl
  obtain ⟨HF,HS4⟩:=sdT_boxAt HC3.out.toSd8 HS3.out (j:=0) rfl (.int .i64 0) (.int .i64 0) (.int .i64 0) (.int .i64 0) (.slice none 0 0)
  clear hos HS3
  go_wp2_with fail
  (try simp only [Exit.inBlock,Exit.then,Exit.noGoto])
  refine ret_cell_two rfl (b:=R) (t:=54) (fr:=(0,0)) rfl (cs:=#[.int .i64 0,.int .i64 0,.int .i64 0,.int .i64 0,.slice none 0 0]) HF.out (Tryz.underlying54) rfl (by kernel_rfl) rfl rfl (StepPost.of HT.out (set_same HMG.out) HC3.out hxl HS4.out)
 | cons o os =>
  obtain ⟨g1,a1,cap1,lp,lc,c0',hol,hpm,⟨e0,e1,e2,e3,e4⟩,io2,io3⟩:=sdT_op0 HS3.out HC3.out hi (o:=o) (os:=os) HOPS.out
  clear c0
  have hb0:(((os.length:Int)+1) == 0)=false:=by rw [beq_eq_false_iff_ne];omega
  have HPM:=Lib.hid hpm
  have HHOS:=Lib.hid hos
  clear hpm hos
  go_upto_region 7 with fail
  go_wp2_with fail
  refine (sdDo HS3.out HC3.out hxl HST.out HMG.out HN1.out HN2.out HN3.out HG.out hN hql i hi hbn o.kind o.h o.lba o.len io2 io3 lp lc o.puts (HPL.out o (by simp)) HPM.out).mono ?_
  rintro e w3 ⟨okv,b0,b1,b2,b3,dp,dn,dc,bs,c4,HOK,rfl,HDL,HC4,HS4⟩
  clear e0 e1 e2 e3 e4 c0' HS3 HPM
  obtain ⟨rr,hrr⟩:∃ r,opDo (evUp s) S i o=r:=⟨_,rfl⟩
  have hod:=opDo_ops (s:=evUp s) (S:=S) (o:=o) (i:=i) HC3.out.s8 hi
  change Hid (okv=(opDo (evUp s) S i o).2.2) at HOK
  change Hid (SdOk c4 (opDo (evUp s) S i o).1) at HC4
  change Hid (Sep W (OL (L.set jm (MgrA (pt m) (opDo (evUp s) S i o).2.1)) x (sdItems p d st c4 (opDo (evUp s) S i o).1++([BoxA R #[.int .i64 0,.int .i64 0,.int .i64 0,.int .i64 0,.slice none 0 0] 54]++[BytesWA (.slice dp dn dc) bs]))) w3) at HS4
  rw [hrr] at HOK HC4 HS4 hod
  have HTS:Hid (stepSd s S i=if okv=true then (ansUp (setAsk (popOp rr.1 i) i false) i,rr.2.1,0) else (setAsk rr.1 i true,rr.2.1,16)):=by
   show _=_
   unfold stepSd
   rw [HHOS.out]
   show (if (opDo (evUp s) S i o).2.2=true then _ else _)=_
   rw [hrr,HOK.out]
  have HOD1:=Lib.hid (hod.1.trans HOPS.out)
  have HOD2:Hid ((clAt rr.1 i).na≤1000000):=by show _≤_;rw [hod.2.2];exact HNA.out
  obtain ⟨L1,hL1⟩:∃ L1,L.set jm (MgrA (pt m) rr.2.1)=L1:=⟨_,rfl⟩
  rw [hL1] at HS4
  have HLM:=Lib.hid hL1
  have HX1:Hid (x < L1.length):=by show _ < _;rw [← hL1,List.length_set];exact hxl
  have hs5:=Go.Proofs.Sep.boxT HS4.out #[.int .i64 0,.int .i64 0,.int .i64 0,.int .i64 0,.slice none 0 0] 54
  rw [OL_app,List.append_assoc] at hs5
  obtain ⟨wb,hwb⟩:∃ wb,w3.alloc (.cells #[.int .i64 0,.int .i64 0,.int .i64 0,.int .i64 0,.slice none 0 0] 54 (0,0))=wb:=⟨_,rfl⟩
  obtain ⟨A,hA⟩:∃ A,w3.heap.size=A:=⟨_,rfl⟩
  rw [hwb,hA] at hs5
  have hs6:Sep W (OL L1 x (sdItems p d st c4 rr.1++[BoxA R #[.int .i64 0,.int .i64 0,.int .i64 0,.int .i64 0,.slice none 0 0] 54,BytesWA (.slice dp dn dc) bs,BoxA A #[.int .i64 0,.int .i64 0,.int .i64 0,.int .i64 0,.slice none 0 0] 54])) wb:=hs5
  have hd4:=HC4.out.toSd8
  obtain ⟨⟨y0,y1,y2,y3,y4⟩,⟨f0,f1,f2,f3,f4⟩⟩:=sdT_box5 hd4 hs6 (j:=2) rfl
  have hs7:=(sdT_boxAt hd4 hs6 (j:=2) rfl (.int .i64 b0) (.int .i64 b1) (.int .i64 b2) (.int .i64 b3) (.slice dp dn dc)).2
  have HS7:Hid (Sep W (OL L1 x (sdItems p d st c4 rr.1++[BoxA R #[.int .i64 0,.int .i64 0,.int .i64 0,.int .i64 0,.slice none 0 0] 54,BytesWA (.slice dp dn dc) bs,BoxA A #[.int .i64 b0,.int .i64 b1,.int .i64 b2,.int .i64 b3,.slice dp dn dc] 54])) (((((wb.setCell ⟨A,0,none⟩ (.int .i64 b0)).setCell ⟨A,1,none⟩ (.int .i64 b1)).setCell ⟨A,2,none⟩ (.int .i64 b2)).setCell ⟨A,3,none⟩ (.int .i64 b3)).setCell ⟨A,4,none⟩ (.slice dp dn dc))):=hs7
  clear hs5 hs6 hs7 hod HS4 hL1 hrr HHOS HPL
  unfold ansV
  go_upto_region 8 with fail
  try rw [hwb]
  try rw [hA]
  clear y0 y1 y2 y3 y4 f0 f1 f2 f3 f4 hwb hA
  generalize ((((wb.setCell ⟨A,0,none⟩ (.int .i64 b0)).setCell ⟨A,1,none⟩ (.int .i64 b1)).setCell ⟨A,2,none⟩ (.int .i64 b2)).setCell ⟨A,3,none⟩ (.int .i64 b3)).setCell ⟨A,4,none⟩ (.slice dp dn dc)=w4 at *
  cases okv with
  | false =>
   have HT:Hid (stepSd s S i=(setAsk rr.1 i true,rr.2.1,16)):=HTS.out
   have hfa:=sdT_fz HS7.out (2+i * 4+3)
   obtain ⟨_,hca⟩:=sdT_asked HS7.out HC4.out hi
   obtain ⟨hs8,hc8⟩:=sdT_ask HS7.out HC4.out hi true
   have HS8:=Lib.hid hs8
   have HC8:=Lib.hid hc8
   clear hs8 hc8 HS7
   go_upto_region 10 with fail
   clear hfa hca
   generalize w4.setCell ⟨p,2+i * 4+3,none⟩ (.bool true)=w5 at *
   obtain ⟨⟨y0,y1,y2,y3,y4⟩,⟨f0,f1,f2,f3,f4⟩⟩:=sdT_box5 HC8.out.toSd8 HS8.out (j:=0) rfl
   obtain ⟨HF,HS9⟩:=sdT_boxAt HC8.out.toSd8 HS8.out (j:=0) rfl (.int .i64 0) (.int .i64 0) (.int .i64 0) (.int .i64 0) (.slice none 0 0)
   clear HS8
   go_wp2_with fail
   (try simp only [Exit.inBlock,Exit.then,Exit.noGoto])
   refine ret_cell_two rfl (b:=R) (t:=54) (fr:=(0,0)) rfl (cs:=#[.int .i64 0,.int .i64 0,.int .i64 0,.int .i64 0,.slice none 0 0]) HF.out (Tryz.underlying54) rfl (by kernel_rfl) rfl rfl (StepPost.of HT.out HLM.out HC8.out HX1.out HS9.out)
  | true =>
   have HT:Hid (stepSd s S i=(ansUp (setAsk (popOp rr.1 i) i false) i,rr.2.1,0)):=HTS.out
   obtain ⟨g2,a2,cap2,c5,nv,k0,k1,k2,hnv,hc5,hs8⟩:=sdT_pop HS7.out HC4.out hi HOD1.out
   have hfa:=sdT_fz HS7.out (2+i * 4)
   have hfb:=sdT_fz hs8 (2+i * 4+3)
   obtain ⟨_,hcb⟩:=sdT_asked hs8 hc5 hi
   obtain ⟨hs9,hc9⟩:=sdT_ask hs8 hc5 hi false
   have HS9:=Lib.hid hs9
   have HC9:=Lib.hid hc9
   clear hs8 hs9 hc9 hc5 HS7
   rcases hnv with ⟨rfl,rfl,rfl⟩ | ⟨hcp,rfl⟩
   case' inl =>
    go_upto_region 12 with fail
    generalize (w4.setCell ⟨p,2+i * 4,none⟩ (.slice (some ⟨g2,a2,none⟩) 0 0)).setCell ⟨p,2+i * 4+3,none⟩ (.bool false)=w6 at *
    clear k0 k1 k2 hfa hfb hcb
   case' inr =>
    go_upto_region 12 with fail
    generalize (w4.setCell ⟨p,2+i * 4,none⟩ (.slice (some ⟨g2,a2+5,none⟩) os.length (cap2 - 1))).setCell ⟨p,2+i * 4+3,none⟩ (.bool false)=w6 at *
    clear k0 k1 k2 hfa hfb hcb hcp
   all_goals
    obtain ⟨an,han⟩:∃ an,(clAt (setAsk (popOp rr.1 i) i false) i).na=an:=⟨_,rfl⟩
    have han2:an≤1000000:=by
     rw [← han]
     have h8:=HC4.out.s8
     unfold setAsk popOp
     rw [setCl_at (by rw [setCl_len];exact h8) hi,setCl_at h8 hi]
     exact HOD2.out
    have hdr:Sep W _ w6.drew:=HS9.out.up (below_drewN (Below.refl w6.heap.size w6) 1)
    have HSX:=Lib.hid hdr
    clear hdr
    obtain ⟨ap,ac,p7,cap7,w7,c7,ca,hr7,nf,n0,hbx,hc10,hs10⟩:=sdT_ans HSX.out HC9.out hi (by rw [han];exact han2) b0 b1 b2 b3 dp dn dc
    rw [han] at ca hr7 n0 hs10
    obtain ⟨⟨e0,e1,e2,e3,e4⟩,_⟩:=sdT_box5 HC9.out.toSd8 HSX.out (j:=2) rfl
    have hbA:=hbx 2 A #[.int .i64 b0,.int .i64 b1,.int .i64 b2,.int .i64 b3,.slice dp dn dc] _ rfl
    have n1:w7.cell? ⟨A,0,none⟩=some (.int .i64 b0):=by rw [cell_row hbA];rfl
    have n2:w7.cell? ⟨A,1,none⟩=some (.int .i64 b1):=by rw [cell_row hbA];rfl
    have n3:w7.cell? ⟨A,2,none⟩=some (.int .i64 b2):=by rw [cell_row hbA];rfl
    have n4:w7.cell? ⟨A,3,none⟩=some (.int .i64 b3):=by rw [cell_row hbA];rfl
    have n5:w7.cell? ⟨A,4,none⟩=some (.slice dp dn dc):=by rw [cell_row hbA];rfl
    have HS10:=Lib.hid hs10
    have HC10:=Lib.hid hc10
    clear hbx hs10 hc10 hbA HS9 han HSX
    refine wp_regionH (fun W=>W.cell? ⟨p,2+i * 4+2,none⟩=some (.slice ap an ac)∧W.cell? ⟨A,0,none⟩=some (.int .i64 b0)∧W.cell? ⟨A,1,none⟩=some (.int .i64 b1)∧W.cell? ⟨A,2,none⟩=some (.int .i64 b2)∧W.cell? ⟨A,3,none⟩=some (.int .i64 b3)∧W.cell? ⟨A,4,none⟩=some (.slice dp dn dc)) (n:=11) (by kernel_rfl) (by kernel_rfl) ?_
    generalize w6.drew=wd at *
    have hba6:=below_alloc wd (.cells #[.int .i64 b0,.int .i64 b1,.int .i64 b2,.int .i64 b3,.slice dp dn dc] 54 (0,0))
    have m0:=cell_up hba6 ca
    have m1:=cell_up hba6 e0
    have m2:=cell_up hba6 e1
    have m3:=cell_up hba6 e2
    have m4:=cell_up hba6 e3
    have m5:=cell_up hba6 e4
    clear hba6
    refine wpH.tk 0 ?_
    refine wpH.tk 1 ?_
    refine wpH.tk 2 ?_
    refine wpH.tk 3 ?_
    refine wpH.tk 4 ?_ (hy:=by intro W hW;have hld0:=hW.1;go_simp;try with_reducible rfl)
    refine wpH.tk 5 ?_ (hy:=by intro W hW;have hld0:=hW.2.1;have hld1:=hW.2.2.1;have hld2:=hW.2.2.2.1;have hld3:=hW.2.2.2.2.1;have hld4:=hW.2.2.2.2.2;go_simp;try with_reducible rfl)
    refine wpH.alone 6 rfl (by kernel_rfl) (by kernel_rfl) ⟨ca,e0,e1,e2,e3,e4⟩ (fun K hK=>?_)
    go_simp
    try go_simp
    refine hK _ _ ?_
    clear hK K
    refine wpH.alone 7 rfl (by kernel_rfl) (by kernel_rfl) ⟨m0,m1,m2,m3,m4,m5⟩ (fun K hK=>?_)
    refine wp_append_run (v:=.slice ap an ac) (u:=.slice (some ⟨wd.heap.size,0,none⟩) 1 1) (.tmp 62) (.tmp 64) 70 rfl ?_ ?_ hr7 ?_
    ·go_simp
    ·go_simp
    try go_simp
    refine hK _ _ ?_
    clear hK K
    refine wpH.tk 8 ?_
    refine wpH.tk 9 ?_
    refine wpH.alone 10 rfl (by kernel_rfl) (by kernel_rfl) ⟨n0,n1,n2,n3,n4,n5⟩ (fun K hK=>?_)
    go_simp
    try go_simp
    refine hK _ _ ?_
    clear hK K
    refine wpH.done (by kernel_rfl) (by kernel_rfl) ?_
    clear hr7 ca e0 e1 e2 e3 e4 m0 m1 m2 m3 m4 m5 n0 n1 n2 n3 n4 n5 nf
    generalize w7.setCell ⟨p,2+i * 4+2,none⟩ (.slice p7 (an+1) cap7)=w9 at *
    have hd10:=HC10.out.toSd8
    obtain ⟨G,hG,hdG⟩:=HS10.out.get (L1.length+(36+1)) (A:=BytesWA (.slice dp dn dc) bs) (by rw [sdT_ix hd10 (sd_len hd10)];rfl)
    have HK:=Lib.hid (sdKept G b0 b1 b2 b3 dp dn dc bs w9 hdG (BytesW.bytes hG) HDL.out.1 HDL.out.2)
    obtain ⟨⟨e0,e1,e2,e3,e4⟩,_⟩:=sdT_box5 hd10 HS10.out (j:=2) rfl
    clear hG hdG
    go_wp2_with fail
    refine (HK.out).mono ?_
    rintro e w10 ⟨⟨kp,kc,rfl⟩,hb10⟩
    have hs11:=HS10.out.up hb10
    obtain ⟨⟨y0,y1,y2,y3,y4⟩,⟨f0,f1,f2,f3,f4⟩⟩:=sdT_box5 hd10 hs11 (j:=0) rfl
    obtain ⟨HF,HS12⟩:=sdT_boxAt hd10 hs11 (j:=0) rfl (.int .i64 b0) (.int .i64 b1) (.int .i64 b2) (.int .i64 b3) (.slice kp dn kc)
    clear hs11 hb10 HS10 HK e0 e1 e2 e3 e4
    unfold ansV
    go_wp2_with fail
    (try simp only [Exit.inBlock,Exit.then,Exit.noGoto])
    refine ret_cell_two rfl (b:=R) (t:=54) (fr:=(0,0)) rfl (cs:=#[.int .i64 b0,.int .i64 b1,.int .i64 b2,.int .i64 b3,.slice kp dn kc]) HF.out (Tryz.underlying54) rfl (by kernel_rfl) rfl rfl (StepPost.of HT.out HLM.out HC10.out HX1.out HS12.out)
end
end Go.Proofs
namespace Go.Proofs
open Go.RowKit Sc
section
variable {W w:World} {L T:List Asn} {x p d st:Nat} {s:SdS} {c:SdC}
theorem sd_nilT {Ls:List Asn}:OL L x (Ls++[])=OL L x Ls:=by rw [List.append_nil]
set_option maxHeartbeats 1000000 in
theorem sdFlush (h:Hid (Sep W L w)) (hx:L[x]? = some (SchA p d st s)) (hev:0≤s.ev∧s.ev≤1000000) {R:Ending→World→Prop} (hq:∀ w',Hid (Sep W (L.set x (SchA p d st (evUp s))) w')→Calls Tryz.prog 33 #[pt st] w' R) (hR:∀ e w',R e w'→∃ v,e=.returned v) :
  Calls Tryz.prog 16 #[pt p] w R:=by
 obtain ⟨c,hc,hS,hxl⟩:=SchA.opened h.out hx
 have hs0:Sep W (OL L x (sdItems p d st c s++[])) w:=by rw [sd_nilT];exact hS
 have c1:=(sdT_cells hs0).2
 have c35:=(sdT_all hs0 hc.toSd8).2
 have hf:=sdT_fz hs0 35
 have HGO:=Lib.hid (sdGone p st w c1)
 have hwr:IntKind.i64.wrap (s.ev+1)=s.ev+1:=IntWalk.i64_in _ (by omega)
 have hs3:=sdT_ev hs0 hc.toSd8
 have d1:=(sdT_cells hs3).2
 have HQ:=Lib.hid (hq _ (SchA.closed (sdT_drop hs3) hxl (sdOk_ev hc)))
 have HR:=Lib.hid hR
 clear hs3 hs0 hS hc h hx hq hR
 go_enter Tryz.func16,Tryz.ntmps16
 go_wp2_with fail
 refine (HGO.out).mono ?_
 rintro e w1 ⟨rfl,rfl⟩
 go_wp2_with fail
 refine (HQ.out).mono ?_
 rintro e w2 hr
 obtain ⟨v,rfl⟩:=HR.out _ _ hr
 have HRR:=Lib.hid hr
 clear hr c1 c35 d1 hf hwr HQ HGO
 go_wp2_with fail
 first
  | exact HRR.out
  | (go_ret;exact HRR.out)
  | (go_end0;exact HRR.out)
set_option maxHeartbeats 1000000 in
theorem sdCheckpoint (h:Hid (Sep W L w)) (hx:L[x]? = some (SchA p d st s)) (hev:0≤s.ev∧s.ev≤1000000) {R:Ending→World→Prop} (hq:∀ w',Hid (Sep W (L.set x (SchA p d st (evUp s))) w')→Calls Tryz.prog 40 #[pt st] w' R) (hR:∀ e w',R e w'→∃ v,e=.returned v) :
  Calls Tryz.prog 21 #[pt p] w R:=by
 obtain ⟨c,hc,hS,hxl⟩:=SchA.opened h.out hx
 have hs0:Sep W (OL L x (sdItems p d st c s++[])) w:=by rw [sd_nilT];exact hS
 have c1:=(sdT_cells hs0).2
 have c35:=(sdT_all hs0 hc.toSd8).2
 have hf:=sdT_fz hs0 35
 have HGO:=Lib.hid (sdGone p st w c1)
 have hwr:IntKind.i64.wrap (s.ev+1)=s.ev+1:=IntWalk.i64_in _ (by omega)
 have hs3:=sdT_ev hs0 hc.toSd8
 have d1:=(sdT_cells hs3).2
 have HQ:=Lib.hid (hq _ (SchA.closed (sdT_drop hs3) hxl (sdOk_ev hc)))
 have HR:=Lib.hid hR
 clear hs3 hs0 hS hc h hx hq hR
 go_enter Tryz.func21,Tryz.ntmps21
 go_wp2_with fail
 refine (HGO.out).mono ?_
 rintro e w1 ⟨rfl,rfl⟩
 go_wp2_with fail
 refine (HQ.out).mono ?_
 rintro e w2 hr
 obtain ⟨v,rfl⟩:=HR.out _ _ hr
 have HRR:=Lib.hid hr
 clear hr c1 c35 d1 hf hwr HQ HGO
 go_wp2_with fail
 first
  | exact HRR.out
  | (go_ret;exact HRR.out)
  | (go_end0;exact HRR.out)
set_option maxHeartbeats 1000000 in
theorem sdClean (h:Hid (Sep W L w)) (hx:L[x]? = some (SchA p d st s)) (hev:0≤s.ev∧s.ev≤1000000) {R:Ending→World→Prop} (hq:∀ w',Hid (Sep W (L.set x (SchA p d st (evUp s))) w')→Calls Tryz.prog 41 #[pt st] w' R) (hR:∀ e w',R e w'→∃ v,e=.returned v) :
  Calls Tryz.prog 22 #[pt p] w R:=by
 obtain ⟨c,hc,hS,hxl⟩:=SchA.opened h.out hx
 have hs0:Sep W (OL L x (sdItems p d st c s++[])) w:=by rw [sd_nilT];exact hS
 have c1:=(sdT_cells hs0).2
 have c35:=(sdT_all hs0 hc.toSd8).2
 have hf:=sdT_fz hs0 35
 have HGO:=Lib.hid (sdGone p st w c1)
 have hwr:IntKind.i64.wrap (s.ev+1)=s.ev+1:=IntWalk.i64_in _ (by omega)
 have hs3:=sdT_ev hs0 hc.toSd8
 have d1:=(sdT_cells hs3).2
 have HQ:=Lib.hid (hq _ (SchA.closed (sdT_drop hs3) hxl (sdOk_ev hc)))
 have HR:=Lib.hid hR
 clear hs3 hs0 hS hc h hx hq hR
 go_enter Tryz.func22,Tryz.ntmps22
 go_wp2_with fail
 refine (HGO.out).mono ?_
 rintro e w1 ⟨rfl,rfl⟩
 go_wp2_with fail
 refine (HQ.out).mono ?_
 rintro e w2 hr
 obtain ⟨v,rfl⟩:=HR.out _ _ hr
 have HRR:=Lib.hid hr
 clear hr c1 c35 d1 hf hwr HQ HGO
 go_wp2_with fail
 first
  | exact HRR.out
  | (go_ret;exact HRR.out)
  | (go_end0;exact HRR.out)
set_option maxHeartbeats 1000000 in
theorem sdReadOnly (h:Hid (Sep W L w)) (hx:L[x]? = some (SchA p d st s)) (a:Bool) {R:Ending→World→Prop} (hq:Calls Tryz.prog 42 #[pt st,.bool a] w R) (hR:∀ e w',R e w'→e=.returned (.tuple #[])) :
  Calls Tryz.prog 23 #[pt p,.bool a] w R:=by
 obtain ⟨c,hc,hS,hxl⟩:=SchA.opened h.out hx
 have hs0:Sep W (OL L x (sdItems p d st c s++[])) w:=by rw [sd_nilT];exact hS
 have c1:=(sdT_cells hs0).2
 have HGO:=Lib.hid (sdGone p st w c1)
 have HQ:=Lib.hid hq
 have HR:=Lib.hid hR
 clear hs0 hS hc h hx hq hR
 go_enter Tryz.func23,Tryz.ntmps23
 go_wp2_with fail
 refine (HGO.out).mono ?_
 rintro e w1 ⟨rfl,rfl⟩
 go_wp2_with fail
 refine (HQ.out).mono ?_
 rintro e w2 hr
 obtain rfl:=HR.out _ _ hr
 have HRR:=Lib.hid hr
 clear hr c1 HQ HGO
 go_wp2_with fail
 first
  | exact HRR.out
  | (go_ret;exact HRR.out)
  | (go_end0;exact HRR.out)
set_option maxHeartbeats 1000000 in
theorem sdStore (h:Hid (Sep W L w)) (hx:L[x]? = some (SchA p d st s)) :
  Calls Tryz.prog 116 #[pt p] w fun e w'=>e=.returned (pt st)∧w=w':=by
 obtain ⟨c,hc,hS,hxl⟩:=SchA.opened h.out hx
 have hs0:Sep W (OL L x (sdItems p d st c s++[])) w:=by rw [sd_nilT];exact hS
 have c1:=(sdT_cells hs0).2
 have HGO:=Lib.hid (sdGone p st w c1)
 clear hs0 hS hc h hx
 go_enter Tryz.func116,Tryz.ntmps116
 go_wp2_with fail
 refine (HGO.out).mono ?_
 rintro e w1 ⟨rfl,rfl⟩
 go_wp2_with fail
 go_ret
 exact ⟨rfl,rfl⟩
end
end Go.Proofs
namespace Go.Proofs
open Go.RowKit Sc
def cl0:ClC:=⟨.slice none 0 0,.slice none 0 0,.slice none 0 0,[],[],[]⟩
def sd0:SdS:=⟨List.replicate 8 ⟨[],[],0,false⟩,[],0⟩
def sd0c:SdC:=⟨List.replicate 8 cl0,.slice none 0 0,[],[]⟩
theorem Sep.news {W w:World} {L:List Asn}:∀ (Ls:List Asn),Sep W L w→(∀ A∈Ls,A.P (fun _=>False) w)→Sep W (L++Ls) w
 | [],h,_=>by rw [List.append_nil];exact h
 | A :: Ls,h,hA=>by
  have h1:=h.new (Below.refl _ _) A (F:=fun _=>False) (fun _ h=>h.elim) (hA A (by simp))
  have:=Sep.news Ls h1 fun B hB=>hA B (List.mem_cons_of_mem _ hB)
  rwa [List.append_assoc] at this
theorem sd0_ok:SdOk sd0c sd0:=by
 refine ⟨⟨rfl,rfl⟩,rfl,List.nodup_nil,fun i h h'=>?_,fun b hb=>by cases hb⟩
 have e1:∀ (l:List ClC) (hl:l=List.replicate 8 cl0) (hi:i < l.length),l[i]=cl0:=by
  intro l hl hi;subst hl;exact List.getElem_replicate _
 have e2:∀ (l:List ClS) (hl:l=List.replicate 8 ⟨[],[],0,false⟩) (hi:i < l.length),l[i]=⟨[],[],0,false⟩:=by
  intro l hl hi;subst hl;exact List.getElem_replicate _
 have e3:=e1 sd0c.cl rfl h
 have e4:=e2 sd0.cl rfl h'
 generalize sd0c.cl[i]=a at *
 generalize sd0.cl[i]=b at *
 subst e3 e4
 exact ⟨rfl,fun j hj=>absurd hj (Nat.not_lt_zero j),fun o ho=>(List.not_mem_nil ho).elim,Nat.zero_le _,rfl,fun j hj=>absurd hj (Nat.not_lt_zero j),Nat.le_refl _⟩
section
variable {W w:World} {L:List Asn}
theorem sd0_new (h:Sep W L w) (d st:Nat):Sep W (L++[SchA w.heap.size d st sd0]) (w.alloc (.cells (sdRow d st sd0c sd0) 75 (0,0))):=by
 have h1:=h.new (Below.refl _ _) TrueA (F:=fun _=>False) (fun _ h=>h.elim) trivial
 have h2:=Go.Proofs.Sep.boxT h1 (sdRow d st sd0c sd0) 75
 have h3:=Go.Proofs.Sep.news ((sdItems w.heap.size d st sd0c sd0).tail) h2 (by
  have ht:(sdItems w.heap.size d st sd0c sd0).tail=[ORowA 1 (.slice none 0 0) 0 [],BegsA [] [],PutKA []]++(List.replicate 8 [ORowA 5 (.slice none 0 0) 0 [],ORowA 1 (.slice none 0 0) 0 [],ORowA 5 (.slice none 0 0) 0 [],TrueA]).flatten:=rfl
  rw [ht]
  intro A hA
  have hr:∀ k,(ORowA k (.slice none 0 0) 0 []).P (fun _=>False) (w.alloc (.cells (sdRow d st sd0c sd0) 75 (0,0))):=fun k=>orow_nil k _ _
  rcases List.mem_append.1 hA with hA | hA
  ·rcases List.mem_cons.1 hA with rfl | hA
   ·exact hr 1
   ·rcases List.mem_cons.1 hA with rfl | hA
    ·exact fun j hj=>absurd hj (by simp)
    ·rw [List.mem_singleton.1 hA]
     exact fun p hp=>by cases hp
  ·obtain ⟨l,hl,hA⟩:=List.mem_flatten.1 hA
   rw [(List.mem_replicate.1 hl).2] at hA
   rcases List.mem_cons.1 hA with rfl | hA
   ·exact hr 5
   ·rcases List.mem_cons.1 hA with rfl | hA
    ·exact hr 1
    ·rcases List.mem_cons.1 hA with rfl | hA
     ·exact hr 5
     ·rw [List.mem_singleton.1 hA];trivial)
 have e:(L++[TrueA]++[BoxA w.heap.size (sdRow d st sd0c sd0) 75])++(sdItems w.heap.size d st sd0c sd0).tail=OL (L++[TrueA]) L.length (sdItems w.heap.size d st sd0c sd0):=by
  unfold OL
  rw [List.set_append_right _ _ (Nat.le_refl _),Nat.sub_self,List.append_assoc];rfl
 rw [e] at h3
 have h4:=SchA.closed h3 (by rw [List.length_append];simp) sd0_ok
 rw [List.set_append_right _ _ (Nat.le_refl _),Nat.sub_self] at h4
 exact h4
set_option maxRecDepth 100000 in
set_option maxHeartbeats 2000000 in
theorem sdNew (h:Hid (Sep W L w)):Calls Tryz.prog 18 #[gLeast] w fun e w'=>∃ p d st m s:Nat,e=.returned (.tuple #[pt p,.int .i64 0])∧Hid (Sep W (L++[DevA (pt d) (List.replicate 8 0),StoreB st d m s 0 0,SlotA s d 1 0 0,MgrA (pt m) (mgNew 258 0),SchA p d st sd0]) w'):=by
 have h1:=h.out.up (below_alloc w (.cells #[.int .i64 8,.int .i64 96] 62 (0,0)))
 obtain ⟨w1,hw1⟩:∃ w1,w.alloc (.cells #[.int .i64 8,.int .i64 96] 62 (0,0))=w1:=⟨_,rfl⟩
 have hg:=heap_alloc_new w (.cells #[.int .i64 8,.int .i64 96] 62 (0,0))
 obtain ⟨G,hG⟩:∃ G,w.heap.size=G:=⟨_,rfl⟩
 rw [hw1] at h1 hg
 rw [hG] at hg
 have g0:w1.cell? ⟨G,0,none⟩=some (.int .i64 8):=by rw [cell_row hg];rfl
 have g1:w1.cell? ⟨G,1,none⟩=some (.int .i64 96):=by rw [cell_row hg];rfl
 have HDN:=Lib.hid (devNew (Lib.hid h1))
 have HLEN:Hid ((L++[DevA (pt 0) []]).length=L.length+1):=by show _=_;rw [List.length_append];rfl
 unfold gLeast at HDN ⊢
 clear hg h1 h
 go_enter Tryz.func18,Tryz.ntmps18
 go_wp2_with fail
 try rw [hw1]
 try rw [hG]
 clear hw1 hG
 refine (HDN.out).mono ?_
 rintro e w2 ⟨d,rfl,HS2⟩
 clear HDN g0 g1
 go_wp2_with fail
 refine (mount0 HS2 L.length (by rw [List.getElem?_append_right (Nat.le_refl _),Nat.sub_self];rfl)).mono ?_
 rintro e w3 ⟨st,m,s,rfl,HS3⟩
 clear HS2
 have hs4:=sd0_new HS3.out d st
 rw [List.append_assoc,List.append_assoc] at hs4
 have HS4:Hid (Sep W (L++[DevA (pt d) (List.replicate 8 0),StoreB st d m s 0 0,SlotA s d 1 0 0,MgrA (pt m) (mgNew 258 0),SchA w3.heap.size d st sd0]) (w3.alloc (.cells (sdRow d st sd0c sd0) 75 (0,0)))):=hs4
 clear hs4
 go_wp2_with fail
 go_ret2
 exact ⟨w3.heap.size,d,st,m,s,rfl,HS4.out⟩
end
end Go.Proofs
namespace Go.Proofs
open Go.RowKit Sc
def TmOk (s:MgS):Prop:=∀ t∈s.txs,I64 t.st∧I64 t.tm
theorem TmOk.at {s:MgS} (h:TmOk s) (x:Int):I64 (txAt s.txs x).st∧I64 (txAt s.txs x).tm:=by
 unfold txAt
 cases hq:s.txs[(x - 1).toNat]? with
 | none =>
  show I64 (0:Int)∧I64 (0:Int)
  unfold I64;omega
 | some t=>exact h t (List.mem_of_getElem? hq)
theorem TmOk.put {s s':MgS} (h:TmOk s) {n:Int} {t:TxS} (ht:I64 t.st∧I64 t.tm) (e:s'.txs=s.txs.set (n - 1).toNat t):TmOk s':=by
 intro y hy
 rw [e] at hy
 rcases List.mem_or_eq_of_mem_set hy with hy | rfl
 ·exact h y hy
 ·exact ht
theorem TmOk.ends {s:MgS} (h:TmOk s) (n:Int) {st cd:Int} (h1:I64 st):TmOk (endNext s n st cd):=h.put (n:=n) (t:=endTx (txOf s n) st cd) ⟨h1,by
 show I64 (if st=4 then 0 else (txAt s.txs n).tm)
 split
 ·exact i64_zero
 ·exact (TmOk.at h n).2⟩ rfl
theorem TmOk.doSteps (code:Int):∀ (l:List Int) (s:MgS),TmOk s→TmOk (l.foldl (doStep code) s)
 | [],_,h=>h
 | x :: l,s,h=>TmOk.doSteps code l (doStep code s x) (by
  unfold doStep
  split
  ·exact TmOk.ends (s:={ s with vs:=applyNext s.blocks s.last0 s.vs (waitTx s x),last0:=applyLast s.blocks s.last0 (waitTx s x),last:=(txOf s x).tm }) h x (by unfold I64;omega)
  ·exact h.ends x (by unfold I64;omega))
structure SvI (N:Nat) (S:MgS):Prop where
 g:MgG N S
 t:∃ O,TpJ S O
 tm:TmOk S
 bl:S.blocks=258
 ou:S.out=0
theorem SvI.mono {N M:Nat} {S:MgS} (h:SvI N S) (hm:N≤M):SvI M S:=⟨h.g.mono hm,h.t,h.tm,h.bl,h.ou⟩
theorem SvI.start:SvI 0 (mgNew 258 0):=⟨MgG.new (by omega) (by omega) (by omega) (by omega),⟨[],TpJ.start 258 0⟩,(fun t ht=>by cases ht),rfl,rfl⟩
theorem SvI.reads {N:Nat} {S:MgS} (h:SvI N S) (n:Int) (e:Ext):SvI (N+16) (rdNext S n e)∧(rdNext S n e).txs.length=S.txs.length:=by
 obtain ⟨O,hO⟩:=h.t
 refine ⟨⟨h.g.reads n e,⟨O,hO.reads n e⟩,?_,by rw [rd_same];exact h.bl,by rw [rd_same];exact h.ou⟩,rd_len n e⟩
 unfold rdNext;split
 ·exact h.tm.put (n:=n) (t:=rdTx S (txOf S n) e) (h.tm.at n) rfl
 ·exact h.tm
theorem SvI.writes {N:Nat} {S:MgS} (h:SvI N S) (n:Int) (l:List Put):SvI N (wrNext S n l)∧(wrNext S n l).txs.length=S.txs.length:=by
 obtain ⟨O,hO⟩:=h.t
 refine ⟨⟨h.g.writes n l,⟨O,hO.writes n l⟩,?_,by rw [wr_same];exact h.bl,by rw [wr_same];exact h.ou⟩,wr_len n l⟩
 unfold wrNext;split
 ·exact h.tm.put (n:=n) (t:={ txOf S n with buf:=bufNext S.blocks 16 (txOf S n).buf l }) (h.tm.at n) rfl
 ·exact h.tm
theorem SvI.aborts {N:Nat} {S:MgS} (h:SvI N S) (n:Int):SvI N (abNext S n)∧(abNext S n).txs.length=S.txs.length:=by
 obtain ⟨O,hO⟩:=h.t
 refine ⟨⟨h.g.aborts n,⟨O,hO.aborts n⟩,?_,?_,?_⟩,ab_len n⟩
 ·unfold abNext;split
  ·exact h.tm.ends n (by unfold I64;omega)
  ·exact h.tm
 ·unfold abNext;split <;> exact h.bl
 ·unfold abNext;split <;> exact h.ou
theorem SvI.commits {N:Nat} {S:MgS} (h:SvI N S) (n:Int):SvI N (cmNext S n)∧(cmNext S n).txs.length=S.txs.length:=by
 obtain ⟨O,hO⟩:=h.t
 have hs:=(cm_same (s:=S) n).1
 refine ⟨⟨h.g.commits n,⟨O,hO.commits n⟩,?_,by rw [hs];exact h.bl,by rw [hs];exact h.ou⟩,cmNext_len S n⟩
 unfold cmNext
 by_cases ho:openB S n=true
 ·rw [if_pos ho]
  obtain ⟨o1,o2,_⟩:=openB_iff.1 ho
  have hta:=h.g.ta _ (txAt_mem o1 o2)
  have hlt:=h.g.lt
  split
  ·exact TmOk.ends (s:=setTx S n { txOf S n with tm:=(txOf S n).at' }) (h.tm.put (n:=n) (t:={ txOf S n with tm:=(txOf S n).at' }) ⟨(h.tm.at n).1,by
    show I64 (txAt S.txs n).at'
    unfold I64;omega⟩ rfl) n (by unfold I64;omega)
  ·split
   ·exact h.tm.ends n (by unfold I64;omega)
   ·exact h.tm.put (n:=n) (t:={ txOf S n with st:=2,tm:=S.given+1 }) ⟨by show I64 (2:Int);unfold I64;omega,by show I64 (S.given+1);unfold I64;omega⟩ rfl
 ·rw [if_neg ho];exact h.tm
theorem SvI.prunes {N:Nat} {S:MgS} (h:SvI N S):SvI N (prNext S)∧(prNext S).txs.length=S.txs.length:=by
 obtain ⟨O,hO⟩:=h.t
 exact ⟨⟨h.g.prunes,⟨O,hO.prunes h.g⟩,h.tm,h.bl,h.ou⟩,rfl⟩
theorem SvI.ro {N:Nat} {S:MgS} (h:SvI N S) (q:Bool):SvI N { S with ro:=q }:=by
 obtain ⟨O,hO⟩:=h.t
 exact ⟨h.g.reads_only q,⟨O,hO.ro q⟩,h.tm,h.bl,h.ou⟩
theorem SvI.begins {N:Nat} {S:MgS} (h:SvI N S) (hN:N < 1000000):SvI (N+1) (begNext S)∧((begC S=0∧begH S=(S.txs.length:Int)+1∧(begNext S).txs.length=S.txs.length+1)∨(begC S≠0∧begNext S=S)):=by
 obtain ⟨O,hO⟩:=h.t
 by_cases hc:S.tmb.length < 16
 ·obtain ⟨e1,e2,e3⟩:=beg_okR h.g hc
  refine ⟨⟨h.g.begins hN,⟨O,hO.begins h.g⟩,?_,by rw [e3];exact h.bl,by rw [e3];exact h.ou⟩,.inl ⟨e1,e2,by rw [e3];simp⟩⟩
  rw [e3]
  intro t ht
  rcases List.mem_append.1 ht with ht | ht
  ·exact h.tm t ht
  ·rw [List.mem_singleton] at ht
   subst ht
   show I64 (1:Int)∧I64 (0:Int)
   unfold I64;omega
 ·obtain ⟨e1,e2,e3⟩:=beg_fullR h.g (by omega)
  rw [e3]
  exact ⟨h.mono (by omega),.inr ⟨by omega,rfl⟩⟩
theorem SvI.flush {N:Nat} {S:MgS} (h:SvI N S) (c:Int):SvI (N+128) (fEnd S c)∧(fEnd S c).txs.length=S.txs.length:=by
 obtain ⟨O,hO⟩:=h.t
 have g1:=h.g.batches
 have h8:(baNext S).out≤8:=by
  unfold baNext
  split
  ·have:=(formN_bd (waitL S)).2;show (formN (waitL S):Int)≤8;omega
  ·rw [h.ou];omega
 have t1:=hO.batches
 have m1:TmOk (baNext S):=by unfold baNext;split <;> exact h.tm
 have b1:(baNext S).blocks=258:=by unfold baNext;split <;> exact h.bl
 have l1:(baNext S).txs.length=S.txs.length:=by unfold baNext;split <;> rfl
 have hd:∀ s:MgS,doneNext s c=if s.out=0 then s else { Go.Proofs.doneTo c s s.out.toNat with num:=if c=0 then s.num+1 else s.num,queue:=s.queue.drop s.out.toNat,out:=0 }:=fun _=>rfl
 show SvI (N+128) (doneNext (baNext S) c)∧(doneNext (baNext S) c).txs.length=S.txs.length
 obtain ⟨O',hO'⟩:=t1.dones g1 c
 have gd:=g1.dones c h8
 obtain ⟨o1,o2⟩:=g1.o1
 obtain ⟨a1,a2,a3⟩:=doneTo_same c (baNext S) (baNext S).out.toNat (by omega)
 refine ⟨⟨gd,⟨O',hO'⟩,?_,?_,?_⟩,?_⟩
 ·unfold doneNext;split
  ·exact m1
  ·exact TmOk.doSteps c ((baNext S).queue.take (baNext S).out.toNat) (baNext S) m1
 ·rw [hd];split
  ·exact b1
  ·show (doneTo c (baNext S) (baNext S).out.toNat).blocks=258
   rw [a3];exact b1
 ·rw [hd];split
  ·assumption
  ·rfl
 ·rw [hd];split
  ·exact l1
  ·show (doneTo c (baNext S) (baNext S).out.toNat).txs.length=_
   rw [a2];exact l1
theorem SvI.dump {N:Nat} {S:MgS} (h:SvI N S):(dumpV S.vs).length≤258:=by
 have ge:=h.g.ge
 rw [h.bl] at ge
 have h1:(dumpV S.vs).length=(S.vs.map (·.1)).length:=by
  unfold dumpV
  rw [List.length_map,keysUp_len]
 have h2:∀ x∈S.vs.map (·.1),x∈(List.range 258).map (fun i:Nat=>(i:Int)):=fun x hx=>by
  obtain ⟨y,hy,rfl⟩:=List.mem_map.1 hx
  have:=ge.ks y hy
  exact List.mem_map.2 ⟨y.1.toNat,List.mem_range.2 (by omega),by omega⟩
 have h3:=List.Nodup.length_le_of_subset ge.nd h2
 rw [h1]
 simpa using h3
def CgI (B:Nat) (q:ClS):Prop:=q.na≤B∧∀ o∈q.ops,o.puts.length≤100000∧∀ p∈o.puts,p.data.length≤1000000
theorem CgI.mono {A B:Nat} {q:ClS} (h:CgI A q) (hm:A≤B):CgI B q:=⟨Nat.le_trans h.1 hm,h.2⟩
structure SdI (B n:Nat) (s:SdS):Prop where
 s8:s.cl.length=8
 bh:s.bg.map (·.h)=(List.range n).map (fun i:Nat=>(i:Int)+1)
 bi:∀ b∈s.bg,(0≤b.fr∧b.fr≤B)∧(0≤b.en∧b.en≤B)
 ev:0≤s.ev∧s.ev≤B
 cl:∀ q∈s.cl,CgI B q
section
variable {A B n N:Nat} {s:SdS} {S:MgS}
theorem SdI.mono (h:SdI A n s) (hm:A≤B):SdI B n s:=⟨h.s8,h.bh,fun b hb=>by have:=h.bi b hb;omega,by have:=h.ev;omega,fun q hq=>(h.cl q hq).mono hm⟩
theorem SdI.bl (h:SdI B n s):s.bg.length=n:=by
 have:=congrArg List.length h.bh
 simpa using this
theorem SdI.at (h:SdI B n s) {i:Nat} (hi:i < 8):CgI B (clAt s i):=by
 rw [clAt_get h.s8 hi]
 exact h.cl _ (List.getElem_mem _)
theorem SdI.set (h:SdI B n s) {i:Nat} {q:ClS} (hq:CgI B q):SdI B n (setCl s i q):=by
 refine ⟨by show (s.cl.set i q).length=8;rw [List.length_set];exact h.s8,h.bh,h.bi,h.ev,fun y hy=>?_⟩
 rcases List.mem_or_eq_of_mem_set (show y∈s.cl.set i q from hy) with hy | rfl
 ·exact h.cl y hy
 ·exact hq
theorem SdI.up (h:SdI B n s):SdI (B+1) n (evUp s) :=
 ⟨h.s8,h.bh,fun b hb=>by have:=h.bi b hb;omega,by show 0≤s.ev+1∧s.ev+1≤((B+1:Nat):Int);have:=h.ev;omega,fun q hq=>(h.cl q hq).mono (by omega)⟩
theorem SdI.en (h:SdI B n s) (j:Nat):SdI B n (setEn s j):=by
 by_cases hj:j < s.bg.length
 ·have hg:s.bg[j]?.getD ⟨0,0,0⟩=s.bg[j]:=by rw [List.getElem?_eq_getElem hj];rfl
  refine ⟨h.s8,?_,fun b hb=>?_,h.ev,h.cl⟩
  ·show (s.bg.set j { (s.bg[j]?.getD ⟨0,0,0⟩) with en:=s.ev }).map (·.h)=_
   rw [hg,List.map_set]
   rw [show (s.bg[j]).h=(s.bg.map (·.h))[j]'(by simpa using hj) by simp]
   rw [List.set_getElem_self]
   exact h.bh
  ·rcases List.mem_or_eq_of_mem_set (show b∈s.bg.set j { (s.bg[j]?.getD ⟨0,0,0⟩) with en:=s.ev } from hb) with hb | rfl
   ·exact h.bi b hb
   ·rw [hg]
    exact ⟨(h.bi _ (List.getElem_mem hj)).1,h.ev⟩
 ·have e:setEn s j=s:=by
   unfold setEn
   rw [List.set_eq_of_length_le (by omega)]
  rw [e];exact h
theorem SdI.begs (h:SdI B S.txs.length s) (v:SvI N S) (hN:N < 1000000) {i:Nat} (hi:i < 8):SdI B (begNext S).txs.length (begSd s S i):=by
 rcases (v.begins hN).2 with ⟨e1,e2,e3⟩ | ⟨e1,e2⟩
 ·unfold begSd
  rw [if_pos e1,e3]
  have h1:=h.set (i:=i) (q:={ clAt s i with bs:=(clAt s i).bs++[s.bg.length] }) (h.at hi)
  refine ⟨h1.s8,?_,fun b hb=>?_,h1.ev,h1.cl⟩
  ·show (s.bg++[(⟨begH S,s.ev,0⟩:BgS)]).map (fun b:BgS=>b.h)=_
   rw [List.map_append,h.bh,List.range_succ,List.map_append,e2];rfl
  ·rcases List.mem_append.1 (show b∈s.bg++[(⟨begH S,s.ev,0⟩:BgS)] from hb) with hb | hb
   ·exact h.bi b hb
   ·rw [List.mem_singleton.1 hb]
    have:=h.ev
    exact ⟨this,by show (0:Int)≤0∧(0:Int)≤B;omega⟩
 ·unfold begSd
  rw [if_neg e1,e2]
  exact h
structure BothI (N B:Nat) (s:SdS) (S:MgS):Prop where
 v:SvI N S
 d:SdI B S.txs.length s
theorem BothI.mono {M:Nat} (h:BothI N A s S) (hm:N≤M) (hb:A≤B):BothI M B s S:=⟨h.v.mono hm,h.d.mono hb⟩
theorem BothI.to (h:BothI N B s S) {S':MgS} {M:Nat} (hv:SvI M S'∧S'.txs.length=S.txs.length):BothI M B s S':=⟨hv.1,by rw [hv.2];exact h.d⟩
theorem BothI.en (h:BothI N B s S) (j:Nat):BothI N B (setEn s j) S:=⟨h.v,h.d.en j⟩
theorem BothI.ask (h:BothI N B s S) (j:Nat):BothI N B (askDo s S j).1 (askDo s S j).2.1:=by
 unfold askDo;split
 ·exact h
 ·exact h.en j
theorem BothI.com (h:BothI N B s S) (i j:Nat):BothI N B (comDo s S i j).1 (comDo s S i j).2.1:=by
 unfold comDo
 split
 ·exact h.ask j
 split
 ·exact (h.to (h.v.commits (bgH s j))).ask j
 ·show BothI N B (if _ then s else setEn s j) (cmNext S (bgH s j))
  split
  ·exact h.to (h.v.commits (bgH s j))
  ·exact (h.to (h.v.commits (bgH s j))).en j
theorem BothI.call (h:BothI N B s S) (i j:Nat) (o:OpS):BothI (N+16) B (callDo s S i j o).1 (callDo s S i j o).2.1:=by
 unfold callDo
 split
 ·exact h.to (h.v.reads _ _)
 split
 ·exact (h.to (h.v.writes _ _)).mono (by omega) (Nat.le_refl _)
 split
 ·show BothI (N+16) B (if _ then setEn s j else s) _
  split
  ·exact ((h.to (h.v.aborts _)).en j).mono (by omega) (Nat.le_refl _)
  ·exact (h.to (h.v.aborts _)).mono (by omega) (Nat.le_refl _)
 split
 ·exact (h.com i j).mono (by omega) (Nat.le_refl _)
 ·exact h.mono (by omega) (Nat.le_refl _)
theorem BothI.op (h:BothI N B s S) (hN:N < 1000000) {i:Nat} (hi:i < 8) (o:OpS):BothI (N+16) B (opDo s S i o).1 (opDo s S i o).2.1:=by
 unfold opDo
 split
 ·exact ⟨(h.v.begins hN).1.mono (by omega),h.d.begs h.v hN hi⟩
 split
 ·split
  ·exact h.mono (by omega) (Nat.le_refl _)
  ·exact h.call i _ o
 ·exact h.mono (by omega) (Nat.le_refl _)
theorem BothI.set (h:BothI N B s S) {i:Nat} {q:ClS} (hq:CgI B q):BothI N B (setCl s i q) S:=⟨h.v,h.d.set hq⟩
theorem BothI.step (h:BothI N B s S) (hN:N < 1000000) {i:Nat} (hi:i < 8):BothI (N+16) (B+2) (stepSd s S i).1 (stepSd s S i).2.1:=by
 have h0:BothI N (B+1) (evUp s) S:=⟨h.v,h.d.up⟩
 unfold stepSd
 split
 ·exact h0.mono (by omega) (by omega)
 ·rename_i o _ _
  have h1:=h0.op hN hi o
  split
  ·show BothI (N+16) (B+2) (ansUp (setAsk (popOp (opDo (evUp s) S i o).1 i) i false) i) _
   have a1:=h1.d.at hi
   have h2:BothI (N+16) (B+1) (popOp (opDo (evUp s) S i o).1 i) (opDo (evUp s) S i o).2.1:=h1.set ⟨a1.1,fun o' ho'=>a1.2 o' (List.mem_of_mem_tail ho')⟩
   have a2:=h2.d.at hi
   have h3:BothI (N+16) (B+1) (setAsk (popOp (opDo (evUp s) S i o).1 i) i false) (opDo (evUp s) S i o).2.1:=h2.set a2
   have a3:=h3.d.at hi
   exact (h3.mono (Nat.le_refl _) (show B+1≤B+2 by omega)).set ⟨Nat.succ_le_succ a3.1,a3.2⟩
  ·have h2:BothI (N+16) (B+1) (setAsk (opDo (evUp s) S i o).1 i true) (opDo (evUp s) S i o).2.1:=h1.set (h1.d.at hi)
   exact h2.mono (Nat.le_refl _) (by omega)
theorem BothI.com_len (h:BothI N B s S) (i j:Nat):(comDo s S i j).2.1.txs.length=S.txs.length:=by
 have ha:∀ S':MgS,(askDo s S' j).2.1=S':=fun S'=>by unfold askDo;split <;> rfl
 unfold comDo
 split
 ·rw [ha]
 split
 ·rw [ha];exact (h.v.commits _).2
 ·exact (h.v.commits _).2
theorem BothI.call_len (h:BothI N B s S) (i j:Nat) (o:OpS):(callDo s S i j o).2.1.txs.length=S.txs.length:=by
 unfold callDo
 split
 ·exact (h.v.reads _ _).2
 split
 ·exact (h.v.writes _ _).2
 split
 ·exact (h.v.aborts _).2
 split
 ·exact h.com_len i j
 ·rfl
theorem BothI.op_len (h:BothI N B s S) (hN:N < 1000000) (i:Nat) (o:OpS):(opDo s S i o).2.1.txs.length≤S.txs.length+1:=by
 unfold opDo
 split
 ·rcases (h.v.begins hN).2 with ⟨_,_,e⟩ | ⟨_,e⟩
  ·show (begNext S).txs.length≤_;omega
  ·show (begNext S).txs.length≤_;rw [e];omega
 split
 ·split
  ·exact Nat.le_succ _
  ·rw [h.call_len];omega
 ·exact Nat.le_succ _
theorem BothI.step_len (h:BothI N B s S) (hN:N < 1000000) (i:Nat):(stepSd s S i).2.1.txs.length≤S.txs.length+1:=by
 have h0:BothI N (B+1) (evUp s) S:=⟨h.v,h.d.up⟩
 unfold stepSd
 split
 ·exact Nat.le_succ _
 ·rename_i o _ _
  split
  ·exact h0.op_len hN i o
  ·exact h0.op_len hN i o
theorem BothI.add (h:BothI N B s S) {i:Nat} (hi:i < 8) {l:List OpS} (hl:∀ o∈l,o.puts.length≤100000∧∀ p∈o.puts,p.data.length≤1000000):BothI N B (addOps s i l) S:=by
 have ha:=h.d.at hi
 refine h.set (i:=i) (q:={ clAt s i with ops:=(clAt s i).ops++l }) ⟨ha.1,fun o ho=>?_⟩
 rcases List.mem_append.1 ho with ho | ho
 ·exact ha.2 o ho
 ·exact hl o ho
theorem BothI.up (h:BothI N B s S):BothI N (B+1) (evUp s) S:=⟨h.v,h.d.up⟩
theorem BothI.start:BothI 0 0 sd0 (mgNew 258 0):=⟨SvI.start,rfl,rfl,(fun b hb=>by cases hb),by show (0:Int)≤0∧(0:Int)≤0;omega,fun q hq=>by
 rw [(List.mem_replicate.1 (show q∈List.replicate 8 ⟨[],[],0,false⟩ from hq)).2]
 exact ⟨Nat.le_refl _,fun o ho=>by cases ho⟩⟩
end
end Go.Proofs
namespace Go.Proofs
open Go.RowKit Sc
def wantRow (tm T k:Int) (w:Bytes) (ps:List Put):Bytes:=ps.foldl (fun w q=>if q.lba=k∧tm≤T then q.data else w) w
theorem wantRow_eq (tm T k:Int):∀ (ps:List Put) (w:Bytes),wantRow tm T k w ps=if tm≤T then (((ps.filter fun q=>q.lba == k).getLast?).map (·.data)).getD w else w
 | [],w=>by show w=_;split <;> rfl
 | q :: ps,w=>by
  show wantRow tm T k (if q.lba=k∧tm≤T then q.data else w) ps=_
  rw [wantRow_eq tm T k ps]
  by_cases ht:tm≤T
  ·rw [if_pos ht,if_pos ht]
   by_cases hk:q.lba=k
   ·rw [if_pos ⟨hk,ht⟩,List.filter_cons_of_pos (by simpa using hk),List.getLast?_cons]
    cases (ps.filter fun q=>q.lba == k).getLast? <;> rfl
   ·rw [if_neg (fun h=>hk h.1),List.filter_cons_of_neg (by simpa using hk)]
  ·rw [if_neg ht,if_neg ht,if_neg (fun h=>ht h.2)]
theorem wantRow_snoc (tm T k:Int) (w:Bytes) (ps:List Put) {i:Nat} (hi:i < ps.length):wantRow tm T k w (ps.take (i+1))=if ps[i].lba=k∧tm≤T then ps[i].data else wantRow tm T k w (ps.take i):=by
 rw [take_snoc ps i hi]
 unfold wantRow
 rw [List.foldl_append];rfl
def wantAll (hs:List Hist) (T k:Int) (w:Bytes) (o:List Nat):Bytes:=o.foldl (fun w j=>wantRow (hs.getD j hist0).time T k w (hs.getD j hist0).puts) w
theorem wantAll_snoc (hs:List Hist) (T k:Int) (w:Bytes) (o:List Nat) {i:Nat} (hi:i < o.length):wantAll hs T k w (o.take (i+1))=wantRow (hs.getD o[i] hist0).time T k (wantAll hs T k w (o.take i)) (hs.getD o[i] hist0).puts:=by
 rw [take_snoc o i hi]
 unfold wantAll
 rw [List.foldl_append];rfl
theorem want_fold (s:MgS) (T k:Int):∀ (O:List Int) (w:Bytes),O.foldl (fun w x=>wantRow (txAt s.txs x).tm T k w (bufPuts (txAt s.txs x).buf)) w=(lastW ((O.filter fun x=>decide ((txAt s.txs x).tm≤T)).map fun x=>bufPuts (txAt s.txs x).buf) k).getD w
 | [],w=>rfl
 | x :: O,w=>by
  rw [List.foldl_cons,want_fold s T k O,wantRow_eq]
  by_cases ht:(txAt s.txs x).tm≤T
  ·rw [if_pos ht,List.filter_cons_of_pos (by simpa using ht),List.map_cons]
   unfold lastW
   rw [List.flatten_cons,List.filter_append,List.getLast?_append]
   cases ((((O.filter fun x=>decide ((txAt s.txs x).tm≤T)).map fun x=>bufPuts (txAt s.txs x).buf).flatten.filter fun p=>p.lba == k).getLast?) with
   | none=>rfl
   | some p=>rfl
  ·rw [if_neg ht,List.filter_cons_of_neg (by simpa using ht)]
def histB (S:MgS) (b:BgS):Hist:=⟨(txAt S.txs b.h).st,(txAt S.txs b.h).at',(txAt S.txs b.h).tm,b.fr,b.en,(txAt S.txs b.h).R,bufPuts (txAt S.txs b.h).buf⟩
def hsB (s:SdS) (S:MgS) (n:Nat):List Hist:=(s.bg.take n).map (histB S)
theorem hsB_succ (s:SdS) (S:MgS) {n:Nat} (hn:n < s.bg.length):hsB s S (n+1)=hsB s S n++[histB S s.bg[n]]:=by
 unfold hsB
 rw [take_snoc s.bg n hn,List.map_append];rfl
theorem hsB_len (s:SdS) (S:MgS) {n:Nat} (hn:n≤s.bg.length):(hsB s S n).length=n:=by
 unfold hsB;rw [List.length_map,List.length_take];omega
theorem ordI_same {l m:List Hist} (hl:l.length=m.length) (hw:∀ i,wroteAt l i=wroteAt m i) (ht:∀ i,timeAt l i=timeAt m i):ordI l=ordI m:=by
 have e1:wroteAt l=wroteAt m:=funext hw
 have e2:ordLe l=ordLe m:=by funext i j;unfold ordLe;rw [ht,ht]
 unfold ordI ordIdx
 rw [hl,e1,e2]
theorem hist_same {a b:Option Hist} (h:a.map (fun x:Hist=>(x.state,x.time,x.puts))=b.map (fun x:Hist=>(x.state,x.time,x.puts))):a.any wroteH=b.any wroteH∧(a.map (·.time)).getD 0=(b.map (·.time)).getD 0:=by
 cases a with
 | none =>
  cases b with
  | none=>exact ⟨rfl,rfl⟩
  | some y=>simp at h
 | some x =>
  cases b with
  | none=>simp at h
  | some y =>
   simp only [Option.map_some,Option.some.injEq,Prod.mk.injEq] at h
   exact ⟨by show wroteH x=wroteH y;unfold wroteH;rw [h.1,h.2.2],h.2.1⟩
section
variable {B N:Nat} {s:SdS} {S:MgS}
theorem BothI.hist (h:BothI N B s S) {i:Nat} (hi:i < S.txs.length):∃ hb:i < s.bg.length,(s.bg[i]).h=(i:Int)+1:=by
 have hb:i < s.bg.length:=by rw [h.d.bl];exact hi
 refine ⟨hb,?_⟩
 have:=congrArg (fun l=>l[i]?) h.d.bh
 simp only [List.getElem?_map,List.getElem?_eq_getElem hb,List.getElem?_range hi,Option.map_some] at this
 exact Option.some.inj this
theorem BothI.hists (h:BothI N B s S):hsB s S s.bg.length=s.bg.map (histB S)∧(hsB s S s.bg.length).length=S.txs.length:=by
 have e:hsB s S s.bg.length=s.bg.map (histB S):=by unfold hsB;rw [List.take_length]
 exact ⟨e,by rw [e,List.length_map,h.d.bl]⟩
theorem BothI.hget (h:BothI N B s S) {i:Nat} (hi:i < S.txs.length):∃ a b,(hsB s S s.bg.length)[i]? = some ⟨(txAt S.txs ((i:Int)+1)).st,(txAt S.txs ((i:Int)+1)).at',(txAt S.txs ((i:Int)+1)).tm,a,b,(txAt S.txs ((i:Int)+1)).R,bufPuts (txAt S.txs ((i:Int)+1)).buf⟩:=by
 obtain ⟨hb,e⟩:=h.hist hi
 refine ⟨(s.bg[i]).fr,(s.bg[i]).en,?_⟩
 rw [h.hists.1,List.getElem?_map,List.getElem?_eq_getElem hb,← e];rfl
theorem BothI.ord (h:BothI N B s S) {O:List Int} (hO:TpJ S O):Go.Proofs.ordI (hsB s S s.bg.length)=O.map fun x=>(x - 1).toNat:=by
 rw [hO.j.ordI (Nat.le_refl _)]
 have hl:(hsB s S s.bg.length).length=(hsL S S.txs.length).length:=by rw [h.hists.2,hsL_len]
 have key:∀ i,((hsB s S s.bg.length)[i]?).map (fun x:Hist=>(x.state,x.time,x.puts))=((hsL S S.txs.length)[i]?).map (fun x:Hist=>(x.state,x.time,x.puts)):=fun i=>by
  by_cases hi:i < S.txs.length
  ·obtain ⟨a,b,e⟩:=h.hget hi
   have hi2:i < (hsL S S.txs.length).length:=by rw [hsL_len];exact hi
   rw [e,List.getElem?_eq_getElem hi2,hsL_get S hi2];rfl
  ·rw [List.getElem?_eq_none (by rw [h.hists.2];omega),List.getElem?_eq_none (by rw [hsL_len];omega)]
 exact ordI_same hl (fun i=>(hist_same (key i)).1) (fun i=>(hist_same (key i)).2)
theorem BothI.law (h:BothI N B s S) {i:Nat} (hi:i < (hsB s S s.bg.length).length) {r:Sc.Read} (hr:r∈((hsB s S s.bg.length)[i]).reads) :
  (r.own=false→r.data=wantAll (hsB s S s.bg.length) ((hsB s S s.bg.length)[i]).begun r.lba zeroB (Go.Proofs.ordI (hsB s S s.bg.length))) ∧
  (r.own=true→(((hsB s S s.bg.length)[i]).puts.any fun p=>p.lba == r.lba)=true):=by
 obtain ⟨O,hO⟩:=h.v.t
 have hin:i < S.txs.length:=by rw [← h.hists.2];exact hi
 obtain ⟨a,b,e⟩:=h.hget hin
 rw [List.getElem?_eq_getElem hi] at e
 have e:=Option.some.inj e
 rw [e] at hr ⊢
 refine ⟨fun ho=>?_,fun ho=>?_⟩
 ·have h1:=hO.rd ((i:Int)+1) (by omega) (by omega) r hr ho
  rw [h1,h.ord hO]
  show wantO S O (txAt S.txs ((i:Int)+1)).at' r.lba=wantAll _ (txAt S.txs ((i:Int)+1)).at' r.lba zeroB _
  unfold wantO wantAll
  rw [← want_fold,List.foldl_map]
  have hm:∀ (P:List Int) (w:Bytes),(∀ x∈P,x∈O)→P.foldl (fun w x=>wantRow (txAt S.txs x).tm (txAt S.txs ((i:Int)+1)).at' r.lba w (bufPuts (txAt S.txs x).buf)) w=P.foldl (fun w x=>wantRow ((hsB s S s.bg.length).getD (x - 1).toNat hist0).time (txAt S.txs ((i:Int)+1)).at' r.lba w ((hsB s S s.bg.length).getD (x - 1).toNat hist0).puts) w:=by
   intro P
   induction P with
   | nil=>intro w _;rfl
   | cons x P ih =>
    intro w hP
    rw [List.foldl_cons,List.foldl_cons,ih _ fun y hy=>hP y (List.mem_cons_of_mem _ hy)]
    obtain ⟨p1,p2,p3,_⟩:=hO.j.pos (Nat.le_refl _) (hP x (List.mem_cons_self ..))
    obtain ⟨a',b',e'⟩:=h.hget p2
    rw [p3] at e'
    have e2:=(List.getD_eq_getElem?_getD (l:=hsB s S s.bg.length) (i:=(x - 1).toNat) (a:=hist0)).trans (congrArg (fun o:Option Hist=>o.getD hist0) e')
    simp only [Option.getD_some] at e2
    rw [e2]
  exact hm O zeroB fun _ hx=>hx
 ·obtain ⟨p,hp,e2⟩:=ownK_puts (hO.ow ((i:Int)+1) (by omega) (by omega) r hr ho)
  exact List.any_eq_true.2 ⟨p,hp,by simpa using e2⟩
theorem BothI.i64 (h:BothI N B s S) (hB:B≤1000000) {j:Nat} (hj:j < s.bg.length):I64 (histB S s.bg[j]).state∧I64 (histB S s.bg[j]).begun∧I64 (histB S s.bg[j]).time∧I64 (histB S s.bg[j]).since∧I64 (histB S s.bg[j]).upto:=by
 have hb:=h.d.bi _ (List.getElem_mem hj)
 refine ⟨(h.v.tm.at _).1,?_,(h.v.tm.at _).2,?_,?_⟩
 ·show I64 (txAt S.txs (s.bg[j]).h).at'
  have hlt:=h.v.g.lt
  unfold txAt
  cases hq:S.txs[((s.bg[j]).h - 1).toNat]? with
  | none=>exact i64_zero
  | some t =>
   have:=h.v.g.ta t (List.mem_of_getElem? hq)
   show I64 t.at'
   unfold I64;omega
 ·show I64 (s.bg[j]).fr
  unfold I64;omega
 ·show I64 (s.bg[j]).en
  unfold I64;omega
end
end Go.Proofs
namespace Go.Proofs
open Go.RowKit Sc
set_option maxHeartbeats 400000 in
theorem cloneRd_nil (w:World):Calls Tryz.prog 43 #[.slice none 0 0] w fun e w'=>e=.returned (.slice none 0 0)∧w=w':=by
 have heq:=fun (W:World)=>Lib.run_eql_slice_nil (P:=Tryz.prog) W 36 42 none 0 0 0 0 Tryz.underlying36
 go_enter Tryz.func43,Tryz.ntmps43
 go_wp2
 go_ret
 exact ⟨rfl,rfl⟩
set_option maxRecDepth 100000 in
set_option maxHeartbeats 1000000 in
theorem sdCopied0 (w:World):Calls Tryz.prog 25 #[.agg #[.int .i64 0,.int .i64 0,.int .i64 0,.int .i64 0,.int .i64 0,.slice none 0 0,.slice none 0 0]] w fun e w'=>e=.returned (.agg #[.int .i64 0,.int .i64 0,.int .i64 0,.int .i64 0,.int .i64 0,.slice none 0 0,.slice none 0 0])∧Hid (Below w.heap.size w w'):=by
 have hs1:=Go.Proofs.Sep.boxT (Sep.start w) #[.int .i64 0,.int .i64 0,.int .i64 0,.int .i64 0,.int .i64 0,.slice none 0 0,.slice none 0 0] 39
 have hs2:=Go.Proofs.Sep.boxT hs1 #[.int .i64 0,.int .i64 0,.int .i64 0,.int .i64 0,.int .i64 0,.slice none 0 0,.slice none 0 0] 39
 have hz:(w.alloc (.cells #[.int .i64 0,.int .i64 0,.int .i64 0,.int .i64 0,.int .i64 0,.slice none 0 0,.slice none 0 0] 39 (0,0))).heap.size=w.heap.size+1:=by simp
 rw [hz] at hs2
 obtain ⟨wa,hwa⟩:∃ wa,(w.alloc (.cells #[.int .i64 0,.int .i64 0,.int .i64 0,.int .i64 0,.int .i64 0,.slice none 0 0,.slice none 0 0] 39 (0,0))).alloc (.cells #[.int .i64 0,.int .i64 0,.int .i64 0,.int .i64 0,.int .i64 0,.slice none 0 0,.slice none 0 0] 39 (0,0))=wa:=⟨_,rfl⟩
 obtain ⟨B,hB⟩:∃ B,w.heap.size=B:=⟨_,rfl⟩
 obtain ⟨R,hR⟩:∃ R,B+1=R:=⟨_,rfl⟩
 rw [hwa,hB,hR] at hs2
 have hdr:Sep w _ wa.drew:=hs2.up (below_drewN (Below.refl wa.heap.size wa) 1)
 have HS2:=Lib.hid hdr
 have hcell:∀ {w':World} (_:Sep w [OldA w,BoxA B #[.int .i64 0,.int .i64 0,.int .i64 0,.int .i64 0,.int .i64 0,.slice none 0 0,.slice none 0 0] 39,BoxA R #[.int .i64 0,.int .i64 0,.int .i64 0,.int .i64 0,.int .i64 0,.slice none 0 0,.slice none 0 0] 39] w'),w'.cell? ⟨B,5,none⟩=some (.slice none 0 0)∧w'.cell? ⟨B,6,none⟩=some (.slice none 0 0)∧w'.frozen? ⟨B,5,none⟩=false∧w'.frozen? ⟨B,6,none⟩=false:=by
  intro w' h
  obtain ⟨F,hF,_⟩:=h.get 1 rfl
  exact ⟨by rw [cell_row hF.2];rfl,by rw [cell_row hF.2];rfl,fz_row hF.2 5,fz_row hF.2 6⟩
 obtain ⟨c5,c6,f5,f6⟩:=hcell hdr
 have hs3:=hdr.box_store 1 rfl 5 (.slice none 0 0)
 have hs3':Sep w [OldA w,BoxA B #[.int .i64 0,.int .i64 0,.int .i64 0,.int .i64 0,.int .i64 0,.slice none 0 0,.slice none 0 0] 39,BoxA R #[.int .i64 0,.int .i64 0,.int .i64 0,.int .i64 0,.int .i64 0,.slice none 0 0,.slice none 0 0] 39] (wa.drew.setCell ⟨B,5,none⟩ (.slice none 0 0)):=hs3
 obtain ⟨d5,d6,g5,g6⟩:=hcell hs3'
 have hs4:=hs3'.box_store 1 rfl 6 (.slice none 0 0)
 have HS4:Hid (Sep w [OldA w,BoxA B #[.int .i64 0,.int .i64 0,.int .i64 0,.int .i64 0,.int .i64 0,.slice none 0 0,.slice none 0 0] 39,BoxA R #[.int .i64 0,.int .i64 0,.int .i64 0,.int .i64 0,.int .i64 0,.slice none 0 0,.slice none 0 0] 39] ((wa.drew.setCell ⟨B,5,none⟩ (.slice none 0 0)).setCell ⟨B,6,none⟩ (.slice none 0 0))):=hs4
 clear hs1 hs2 hz hdr hs3 hs3' hs4 hcell HS2
 go_enter Tryz.func25,Tryz.ntmps25
 go_upto_region 1 with fail
 try rw [hwa]
 try rw [hB]
 try rw [hR]
 clear hwa hB hR
 refine wp_regionB (fun W=>W.cell? ⟨B,5,none⟩=some (.slice none 0 0)∧W.cell? ⟨B,6,none⟩=some (.slice none 0 0)) 7 (n:=10) (by kernel_rfl) (by kernel_rfl) ?_
 generalize wa.drew=wd at *
 refine wpB.tk 0 ?_
 refine wpB.ld 1 ?_ (hy:=by intro W hW;have hld0:=hW.1;go_simp;try with_reducible rfl)
 refine wpB.tk 3 ?_
 refine wpB.ld 4 ?_ (hy:=by intro W hW;have hld0:=hW.2;go_simp;try with_reducible rfl)
 refine wpB.alone 2 rfl (by kernel_rfl) (by kernel_rfl) (fun _=>⟨c5,c6⟩) (fun K hK=>?_)
 go_simp
 go_at_call 43
 refine (cloneRd_nil wd).mono ?_
 rintro e w3 ⟨rfl,rfl⟩
 try go_simp
 refine hK _ _ ?_
 clear hK K
 refine wpB.tk 6 ?_
 refine wpB.alone 5 rfl (by kernel_rfl) (by kernel_rfl) (fun _=>⟨c5,c6⟩) (fun K hK=>?_)
 go_simp
 go_at_call 44
 refine (clonePut_nil wd).mono ?_
 rintro e w3 ⟨rfl,rfl⟩
 try go_simp
 refine hK _ _ ?_
 clear hK K
 refine wpB.alone 7 rfl (by kernel_rfl) (by kernel_rfl) (fun _=>⟨c5,c6⟩) (fun K hK=>?_)
 go_simp
 try go_simp
 refine hK _ _ ?_
 clear hK K
 refine wpB.tk 8 ?_
 refine wpB.alone 9 rfl (by kernel_rfl) (by kernel_rfl) (fun h=>absurd h (by decide)) (fun K hK=>?_)
 go_simp
 try go_simp
 refine hK _ _ ?_
 clear hK K
 refine wpB.done (by kernel_rfl) (by kernel_rfl) ?_
 clear c5 c6 f5 f6 d5 d6 g5 g6
 generalize (wd.setCell ⟨B,5,none⟩ (.slice none 0 0)).setCell ⟨B,6,none⟩ (.slice none 0 0)=w4 at *
 obtain ⟨F,hF,_⟩:=HS4.out.get 1 rfl
 have c5:w4.cell? ⟨B,5,none⟩=some (.slice none 0 0):=by rw [cell_row hF.2];rfl
 have c6:w4.cell? ⟨B,6,none⟩=some (.slice none 0 0):=by rw [cell_row hF.2];rfl
 clear hF
 go_wp2_with fail
 go_loopw [16] (fun s16 wr=>s16=.int .i64 0∧wr=w4) (fun _ _=>0)
 case atStart=>exact ⟨rfl,rfl⟩
 case round =>
  obtain ⟨rfl,rfl⟩:=hrel
  go_wp2_with fail
  go_loopw [35] (fun s35 w5=>s35=.int .i64 0∧w5=wr) (fun _ _=>0)
  case atStart=>exact ⟨rfl,rfl⟩
  case round =>
   obtain ⟨rfl,hw5⟩:=hrel
   subst hw5
   clear c5 c6
   obtain ⟨F1,hF1,_⟩:=HS4.out.get 1 rfl
   obtain ⟨F2,hF2,_⟩:=HS4.out.get 2 rfl
   have q0:wr.cell? ⟨B,0,none⟩=some (.int .i64 0):=by rw [cell_row hF1.2];rfl
   have q1:wr.cell? ⟨B,1,none⟩=some (.int .i64 0):=by rw [cell_row hF1.2];rfl
   have q2:wr.cell? ⟨B,2,none⟩=some (.int .i64 0):=by rw [cell_row hF1.2];rfl
   have q3:wr.cell? ⟨B,3,none⟩=some (.int .i64 0):=by rw [cell_row hF1.2];rfl
   have q4:wr.cell? ⟨B,4,none⟩=some (.int .i64 0):=by rw [cell_row hF1.2];rfl
   have q5:wr.cell? ⟨B,5,none⟩=some (.slice none 0 0):=by rw [cell_row hF1.2];rfl
   have q6:wr.cell? ⟨B,6,none⟩=some (.slice none 0 0):=by rw [cell_row hF1.2];rfl
   have r0:wr.cell? ⟨R,0,none⟩=some (.int .i64 0):=by rw [cell_row hF2.2];rfl
   have f0:wr.frozen? ⟨R,0,none⟩=false:=fz_row hF2.2 0
   have r1:wr.cell? ⟨R,1,none⟩=some (.int .i64 0):=by rw [cell_row hF2.2];rfl
   have f1:wr.frozen? ⟨R,1,none⟩=false:=fz_row hF2.2 1
   have r2:wr.cell? ⟨R,2,none⟩=some (.int .i64 0):=by rw [cell_row hF2.2];rfl
   have f2:wr.frozen? ⟨R,2,none⟩=false:=fz_row hF2.2 2
   have r3:wr.cell? ⟨R,3,none⟩=some (.int .i64 0):=by rw [cell_row hF2.2];rfl
   have f3:wr.frozen? ⟨R,3,none⟩=false:=fz_row hF2.2 3
   have r4:wr.cell? ⟨R,4,none⟩=some (.int .i64 0):=by rw [cell_row hF2.2];rfl
   have f4:wr.frozen? ⟨R,4,none⟩=false:=fz_row hF2.2 4
   have r5:wr.cell? ⟨R,5,none⟩=some (.slice none 0 0):=by rw [cell_row hF2.2];rfl
   have f5:wr.frozen? ⟨R,5,none⟩=false:=fz_row hF2.2 5
   have r6:wr.cell? ⟨R,6,none⟩=some (.slice none 0 0):=by rw [cell_row hF2.2];rfl
   have f6:wr.frozen? ⟨R,6,none⟩=false:=fz_row hF2.2 6
   have hs5:=box_fill7 HS4.out (i:=2) rfl (.int .i64 0) (.int .i64 0) (.int .i64 0) (.int .i64 0) (.int .i64 0) (.slice none 0 0) (.slice none 0 0)
   obtain ⟨F3,hF3,_⟩:=hs5.get 2 rfl
   have HF:=Lib.hid hF3.2
   have HOLD:=Lib.hid hs5.old
   clear hs5 hF3 hF1 hF2 HS4
   go_wp2_with fail
   (try simp only [Exit.inBlock,Exit.then,Exit.noGoto])
   refine ret_cell_one rfl (b:=R) (t:=39) (fr:=(0,0)) rfl (cs:=#[.int .i64 0,.int .i64 0,.int .i64 0,.int .i64 0,.int .i64 0,.slice none 0 0,.slice none 0 0]) HF.out (Tryz.underlying39) rfl (by kernel_rfl) rfl ⟨rfl,HOLD.out⟩
end Go.Proofs
namespace Go.Proofs
open Go.RowKit Sc
set_option maxHeartbeats 400000 in
theorem topLeast (w:World):Calls Tryz.prog 19 #[] w fun e w'=>e=.returned gLeast∧Hid (Below w.heap.size w w'):=by
 have hs1:=Go.Proofs.Sep.boxT (Sep.start w) #[.int .i64 0,.int .i64 0] 62
 obtain ⟨wa,hwa⟩:∃ wa,w.alloc (.cells #[.int .i64 0,.int .i64 0] 62 (0,0))=wa:=⟨_,rfl⟩
 obtain ⟨R,hR⟩:∃ R,w.heap.size=R:=⟨_,rfl⟩
 rw [hwa,hR] at hs1
 obtain ⟨F,hF,_⟩:=hs1.get 1 rfl
 have c0:wa.cell? ⟨R,0,none⟩=some (.int .i64 0):=by rw [cell_row hF.2];rfl
 have c1:wa.cell? ⟨R,1,none⟩=some (.int .i64 0):=by rw [cell_row hF.2];rfl
 have f0:=fz_row hF.2 0
 have f1:=fz_row hF.2 1
 have hs2:=hs1.box_store 1 rfl 0 (.int .i64 8)
 have hs2':Sep w [OldA w,BoxA R #[.int .i64 8,.int .i64 0] 62] (wa.setCell ⟨R,0,none⟩ (.int .i64 8)):=hs2
 have hs3:=hs2'.box_store 1 rfl 1 (.int .i64 96)
 have hs3':Sep w [OldA w,BoxA R #[.int .i64 8,.int .i64 96] 62] ((wa.setCell ⟨R,0,none⟩ (.int .i64 8)).setCell ⟨R,1,none⟩ (.int .i64 96)):=hs3
 obtain ⟨F3,hF3,_⟩:=hs3'.get 1 rfl
 have HF:=Lib.hid hF3.2
 have HOLD:=Lib.hid hs3'.old
 clear hs1 hs2 hs2' hs3 hs3' hF hF3
 unfold gLeast
 go_enter Tryz.func19,Tryz.ntmps19
 go_wp2_with fail
 first
  | exact ⟨rfl,Below.refl _ _⟩
  | ((try simp only [Exit.inBlock,Exit.then]);refine ret_cell_one rfl (b:=R) (t:=62) (fr:=(0,0)) (by first | rfl | (rw [hR])) (cs:=#[.int .i64 8,.int .i64 96]) (by first | exact HF.out | (rw [hwa];exact HF.out)) (Tryz.underlying62) rfl (by kernel_rfl) rfl ⟨rfl,by first | exact HOLD.out | (rw [hwa];exact HOLD.out)⟩)
theorem topBegin {W w:World} {L:List Asn} (h:Hid (Sep W L w)):Calls Tryz.prog 6 #[] w fun e w'=>∃ p d st m s:Nat,e=.returned (.tuple #[pt p,.bool true])∧Hid (Sep W (L++[DevA (pt d) (List.replicate 8 0),StoreB st d m s 0 0,SlotA s d 1 0 0,MgrA (pt m) (mgNew 258 0),SchA p d st sd0]) w'):=by
 have HL:=Lib.hid (topLeast w)
 go_enter Tryz.func6,Tryz.ntmps6
 go_wp2_with fail
 refine (HL.out).mono ?_
 rintro e w1 ⟨rfl,hb1⟩
 go_wp2_with fail
 refine (sdNew (h.out.up hb1)).mono ?_
 rintro e w2 ⟨p,d,st,m,s,rfl,HS⟩
 clear HL h hb1
 go_wp2_with fail
 go_ret2
 exact ⟨p,d,st,m,s,rfl,HS.out⟩
end Go.Proofs
namespace Go.Proofs
open Go.RowKit Sc
theorem topFlush {w:World} {p:Nat} {R1:Int→World→Prop} {R:Ending→World→Prop} (hq:Calls Tryz.prog 16 #[pt p] w fun e w'=>∃ k,e=.returned (.int .i64 k)∧R1 k w')
  (h9:∀ w',R1 9 w'→Calls Tryz.prog 21 #[pt p] w' fun e w2=>(∃ k,e=.returned (.int .i64 k))∧R (.returned (.int .i64 9)) w2) (hR:∀ k w',k≠9→R1 k w'→R (.returned (.int .i64 k)) w') :
  Calls Tryz.prog 20 #[pt p] w R:=by
 have HQ:=Lib.hid hq
 have H9:=Lib.hid h9
 have HR:=Lib.hid hR
 clear hq h9 hR
 go_enter Tryz.func20,Tryz.ntmps20
 go_wp2_with fail
 refine (HQ.out).mono ?_
 rintro e w1 ⟨k,rfl,hr⟩
 have HRR:=Lib.hid hr
 clear hr
 by_cases hk:k=9
 ·subst hk
  go_wp2_with fail
  refine (H9.out _ HRR.out).mono ?_
  rintro e w2 ⟨⟨k2,rfl⟩,h2⟩
  have H2:=Lib.hid h2
  clear h2
  go_wp2_with fail
  first
   | exact H2.out
   | (go_ret;exact H2.out)
 ·have H2:=Lib.hid (HR.out _ _ hk HRR.out)
  go_wp2_with fail
  first
   | exact H2.out
   | (go_ret;exact H2.out)
end Go.Proofs
