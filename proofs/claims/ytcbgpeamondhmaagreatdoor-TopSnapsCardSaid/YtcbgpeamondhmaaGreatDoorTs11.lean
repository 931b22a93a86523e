/- Texts of this claim, one behind the other: Sched2, Sched3, Sched4, Sched5, Sched6, Sched7, Sched8, Sched9, Sched10, Sched11, Sched12, Sched12a. -/
import Derived.Laws.ResultCell
import Derived.Test.YtcbgpeamondhmaaGreatDoorTs10
namespace Go.Proofs
open Go.RowKit Sc
theorem sdGone (p st:Nat) (w:World) (c1:w.cell? ⟨p,1,none⟩=some (pt st)):Calls Tryz.prog 24 #[pt p] w fun e w'=>e=.returned (.bool false)∧w=w':=by
 go_enter Tryz.func24,Tryz.ntmps24
 go_wp2_with fail
 go_ret
 exact ⟨rfl,rfl⟩
theorem sdClient (p st:Nat) (w:World) (c1:w.cell? ⟨p,1,none⟩=some (pt st)) (i:Nat) (hi:i < 8):Calls Tryz.prog 28 #[pt p,.int .i64 ((i:Int)+1)] w fun e w'=>e=.returned (.pointer (some ⟨p,2+i * 4,none⟩))∧w=w':=by
 have HG:=Lib.hid (sdGone p st w c1)
 have h1:¬ ((i:Int)+1 < 1):=by omega
 have h2:¬ (8 < (i:Int)+1):=by omega
 go_enter Tryz.func28,Tryz.ntmps28
 go_wp2_with fail
 refine (HG.out).mono ?_
 rintro e w1 ⟨rfl,rfl⟩
 go_wp2_with fail
 go_ret
 exact ⟨rfl,rfl⟩
theorem sdClientNo (p st:Nat) (w:World) (c1:w.cell? ⟨p,1,none⟩=some (pt st)) (k:Int) (hk:k < 1∨8 < k):Calls Tryz.prog 28 #[pt p,.int .i64 k] w fun e w'=>e=.returned (.pointer none)∧w=w':=by
 have HG:=Lib.hid (sdGone p st w c1)
 go_enter Tryz.func28,Tryz.ntmps28
 go_wp2_with fail
 refine (HG.out).mono ?_
 rintro e w1 ⟨rfl,rfl⟩
 by_cases h1:k < 1
 ·go_wp2_with fail
  go_ret
  exact ⟨rfl,rfl⟩
 ·have h2:8 < k:=by omega
  go_wp2_with fail
  go_ret
  exact ⟨rfl,rfl⟩
def bgBlk (c:SdC) (s:SdS) (i:Nat) (hd:Int):Option (Nat × Nat) :=
 if 0≤hd∧hd < ((s.cl[i]?.map fun q=>q.bs.length).getD 0:Nat) then ((s.cl[i]?.bind fun q=>q.bs[hd.toNat]?).bind fun j=>(c.bb[j]?).map fun b=>(j,b)) else none
section
variable {W w:World} {L:List Asn} {x p d st:Nat} {s:SdS} {c:SdC}
theorem sd_beg (h:Sep W (OL L x (sdItems p d st c s)) w) (hc:SdOk c s) {j b:Nat} (hb:c.bb[j]? = some b):∃ hj:j < s.bg.length,w.heap[b]? = some (.cells (bgRow s.bg[j]) 79 (0,0)):=by
 obtain ⟨F,hF,_⟩:=h.get (L.length+2) (A:=BegsA c.bb s.bg) (by rw [OL_get,sd_head 2 (by omega)];rfl)
 have hj:j < s.bg.length:=by rw [← hc.bl];exact (List.getElem?_eq_some_iff.1 hb).1
 obtain ⟨b',h1,_,h3⟩:=hF j hj
 rw [hb] at h1
 cases h1
 exact ⟨hj,h3⟩
theorem sdAt (h:Sep W (OL L x (sdItems p d st c s)) w) (hc:SdOk c s) {i:Nat} (hi:i < 8) (hd:Int) :
  Calls Tryz.prog 50 #[.pointer (some ⟨p,2+i * 4,none⟩),.int .i64 hd] w fun e w'=>w=w' ∧
   ((bgBlk c s i hd=none∧e=.returned (.pointer none))∨∃ j b,bgBlk c s i hd=some (j,b)∧e=.returned (pt b)):=by
 have hsi:i < s.cl.length:=by rw [hc.s8];exact hi
 have hci:i < c.cl.length:=by rw [hc.c8];exact hi
 have hcl:=hc.cl i hci hsi
 have hrow:=sd_item (p:=p) (d:=d) (st:=st) hc.toSd8 hi 1 (by omega)
 obtain ⟨F,hF,_⟩:=h.get (L.length+(4+(4 * i+1))) (A:=ORowA 1 c.cl[i].bv s.cl[i].bs.length (c.cl[i].bb.map pt)) (by rw [OL_get,hrow];rfl)
 obtain ⟨bp,bc,hbv,_,_⟩:=ORowP.shape hF
 have c1:w.cell? ⟨p,2+i * 4+1,none⟩=some (.slice bp s.cl[i].bs.length bc):=by rw [sd_cl h hc hi 1 (by omega),← hbv];rfl
 by_cases h0:hd < 0
 ·have HN:Hid (bgBlk c s i hd=none):=by show _=_;unfold bgBlk;rw [if_neg (by omega)]
  clear hF hrow hcl h
  go_enter Tryz.func50,Tryz.ntmps50
  go_wp2_with fail
  go_ret
  exact ⟨rfl,.inl ⟨HN.out,rfl⟩⟩
 ·have hgn:((s.cl[i]?.map fun q=>q.bs.length).getD 0:Nat)=s.cl[i].bs.length:=by rw [List.getElem?_eq_getElem hsi];rfl
  by_cases h1:hd < (s.cl[i].bs.length:Int)
  ·obtain ⟨j,rfl⟩:∃ j:Nat,hd=j:=⟨hd.toNat,by omega⟩
   have hj:j < s.cl[i].bs.length:=by omega
   obtain ⟨hjb,hjm⟩:=hcl.bm j hj
   obtain ⟨b,hb⟩:∃ b,c.bb[s.cl[i].bs[j]]? = some b:=⟨_,List.getElem?_eq_getElem (by rw [hc.bl];exact hjb)⟩
   have HS:Hid (bgBlk c s i j=some (s.cl[i].bs[j],b)):=by
    show _=_
    unfold bgBlk
    rw [if_pos ⟨by omega,by rw [hgn];exact h1⟩,List.getElem?_eq_getElem hsi]
    show ((s.cl[i].bs[(j:Int).toNat]?).bind fun j=>(c.bb[j]?).map fun b=>(j,b))=_
    rw [Int.toNat_natCast,List.getElem?_eq_getElem hj]
    show ((c.bb[s.cl[i].bs[j]]?).map fun b=>(s.cl[i].bs[j],b))=_
    rw [hb];rfl
   obtain ⟨g,o,cap,e',q1,q2⟩:=ORowP.base hF (by omega)
   rw [hbv] at hF e'
   cases e'
   have cj:w.cell? ⟨g,o+j,none⟩=some (pt b):=by
    refine ORowP.cell hF rfl ?_
    rw [List.getElem?_map,hjm,hb];rfl
   obtain ⟨hjj,hbk⟩:=sd_beg h hc hb
   have b0:w.cell? ⟨b,0,none⟩=some (.int .i64 (s.bg[s.cl[i].bs[j]]).h):=by rw [cell_row hbk];rfl
   have hne:=hc.hb _ (List.getElem_mem hjj)
   have hnb:((s.bg[s.cl[i].bs[j]]).h == 0)=false:=by rw [beq_eq_false_iff_ne];omega
   generalize (s.bg[s.cl[i].bs[j]]).h=bh at *
   have HB1:=HS
   clear hF hrow hcl h hbk hjm hb hne hgn
   obtain ⟨bn,hbn⟩:∃ bn,s.cl[i].bs.length=bn:=⟨_,rfl⟩
   rw [hbn] at c1 h1
   have hjl2:¬ ((bn:Int)≤(j:Int)):=by omega
   clear hbn q1
   go_enter Tryz.func50,Tryz.ntmps50
   go_wp2_with fail
   go_ret
   exact ⟨rfl,.inr ⟨_,b,HS.out,rfl⟩⟩
  ·have HN:Hid (bgBlk c s i hd=none):=by show _=_;unfold bgBlk;rw [if_neg (by rw [hgn];omega)]
   have h2:(s.cl[i].bs.length:Int)≤hd:=by omega
   generalize s.cl[i].bs.length=bn at *
   clear hF hrow hcl h
   go_enter Tryz.func50,Tryz.ntmps50
   go_wp2_with fail
   go_ret
   exact ⟨rfl,.inl ⟨HN.out,rfl⟩⟩
end
theorem box5 {W w:World} {L:List Asn} {i b:Nat} {u0 u1 u2 u3 u4:Value} {T:TypeId} (h:Sep W L w) (hi:L[i]? = some (BoxA b #[u0,u1,u2,u3,u4] T)) :
  (w.cell? ⟨b,0,none⟩=some u0∧w.cell? ⟨b,1,none⟩=some u1∧w.cell? ⟨b,2,none⟩=some u2∧w.cell? ⟨b,3,none⟩=some u3∧w.cell? ⟨b,4,none⟩=some u4) ∧
  (w.frozen? ⟨b,0,none⟩=false∧w.frozen? ⟨b,1,none⟩=false∧w.frozen? ⟨b,2,none⟩=false∧w.frozen? ⟨b,3,none⟩=false∧w.frozen? ⟨b,4,none⟩=false):=by
 obtain ⟨F,hF,_⟩:=h.get i hi
 refine ⟨⟨?_,?_,?_,?_,?_⟩,fz_row hF.2 0,fz_row hF.2 1,fz_row hF.2 2,fz_row hF.2 3,fz_row hF.2 4⟩
 ·rw [cell_row hF.2];rfl
 ·rw [cell_row hF.2];rfl
 ·rw [cell_row hF.2];rfl
 ·rw [cell_row hF.2];rfl
 ·rw [cell_row hF.2];rfl
theorem box_fill5 {W w:World} {L:List Asn} {i b:Nat} {u0 u1 u2 u3 u4:Value} {T:TypeId} (h:Sep W L w) (hi:L[i]? = some (BoxA b #[u0,u1,u2,u3,u4] T)) (v0 v1 v2 v3 v4:Value) :
  Sep W (L.set i (BoxA b #[v0,v1,v2,v3,v4] T)) (((((w.setCell ⟨b,0,none⟩ v0).setCell ⟨b,1,none⟩ v1).setCell ⟨b,2,none⟩ v2).setCell ⟨b,3,none⟩ v3).setCell ⟨b,4,none⟩ v4):=by
 have hil:=(List.getElem?_eq_some_iff.1 hi).1
 have key:∀ {w:World} {cs:Array Value} (_:Sep W (L.set i (BoxA b cs T)) w) (j:Nat) (v:Value),Sep W (L.set i (BoxA b (cs.setIfInBounds j v) T)) (w.setCell ⟨b,j,none⟩ v):=fun hs j v=>by
  have:=hs.box_store i (List.getElem?_set_self hil) j v
  rwa [List.set_set] at this
 have h0:Sep W (L.set i (BoxA b #[u0,u1,u2,u3,u4] T)) w:=by rw [set_same hi];exact h
 have h1:Sep W (L.set i (BoxA b #[v0,u1,u2,u3,u4] T)) (w.setCell ⟨b,0,none⟩ v0):=key h0 0 v0
 have h2:Sep W (L.set i (BoxA b #[v0,v1,u2,u3,u4] T)) ((w.setCell ⟨b,0,none⟩ v0).setCell ⟨b,1,none⟩ v1):=key h1 1 v1
 have h3:Sep W (L.set i (BoxA b #[v0,v1,v2,u3,u4] T)) (((w.setCell ⟨b,0,none⟩ v0).setCell ⟨b,1,none⟩ v1).setCell ⟨b,2,none⟩ v2):=key h2 2 v2
 have h4:Sep W (L.set i (BoxA b #[v0,v1,v2,v3,u4] T)) ((((w.setCell ⟨b,0,none⟩ v0).setCell ⟨b,1,none⟩ v1).setCell ⟨b,2,none⟩ v2).setCell ⟨b,3,none⟩ v3):=key h3 3 v3
 exact key h4 4 v4
def ansV (o c h t:Int) (v:Value):Value:=.agg #[.int .i64 o,.int .i64 c,.int .i64 h,.int .i64 t,v]
set_option maxRecDepth 100000 in
set_option maxHeartbeats 1000000 in
theorem sdKept (G:Nat→Prop) (a0 a1 a2 a3:Int) (dp:Option Addr) (dn dc:Nat) (l:Bytes) (w:World) (hG:Dom G w) (hb:BytesAt G w (.slice dp dn dc) l) (hl:l.length=dn) (hn:dn≤1000000) :
  Calls Tryz.prog 32 #[ansV a0 a1 a2 a3 (.slice dp dn dc)] w fun e w'=>(∃ p c,e=.returned (ansV a0 a1 a2 a3 (.slice p dn c)))∧Below w.heap.size w w':=by
 unfold ansV
 have hs1:=Go.Proofs.Sep.boxT (Sep.start w) #[.int .i64 a0,.int .i64 a1,.int .i64 a2,.int .i64 a3,.slice dp dn dc] 54
 have hs2:=Go.Proofs.Sep.boxT hs1 #[.int .i64 0,.int .i64 0,.int .i64 0,.int .i64 0,.slice none 0 0] 54
 have hz:(w.alloc (.cells #[.int .i64 a0,.int .i64 a1,.int .i64 a2,.int .i64 a3,.slice dp dn dc] 54 (0,0))).heap.size=w.heap.size+1:=by simp
 rw [hz] at hs2
 have hbb:=hs2.old
 have hb2:=hb.up hbb
 obtain ⟨wa,hwa⟩:∃ wa,(w.alloc (.cells #[.int .i64 a0,.int .i64 a1,.int .i64 a2,.int .i64 a3,.slice dp dn dc] 54 (0,0))).alloc (.cells #[.int .i64 0,.int .i64 0,.int .i64 0,.int .i64 0,.slice none 0 0] 54 (0,0))=wa:=⟨_,rfl⟩
 obtain ⟨B,hB⟩:∃ B,w.heap.size=B:=⟨_,rfl⟩
 obtain ⟨R,hR⟩:∃ R,B+1=R:=⟨_,rfl⟩
 rw [hwa] at hs2 hb2
 rw [hB,hR] at hs2
 have HS2:Hid (Sep w [OldA w,BoxA B #[.int .i64 a0,.int .i64 a1,.int .i64 a2,.int .i64 a3,.slice dp dn dc] 54,BoxA R #[.int .i64 0,.int .i64 0,.int .i64 0,.int .i64 0,.slice none 0 0] 54] wa):=hs2
 have HCL:=Lib.hid (clone_w G _ l wa hb2 (by omega))
 have HLE:=Lib.hid hl
 obtain ⟨⟨_,_,_,_,c4⟩,_⟩:=box5 HS2.out (i:=1) rfl
 clear hs1 hs2 hz hbb hb2 hb hG hl
 go_enter Tryz.func32,Tryz.ntmps32
 go_wp2_with fail
 try rw [hwa]
 try rw [hB]
 try rw [hR]
 clear hwa hB hR
 refine (HCL.out).mono ?_
 rintro e w3 ⟨vv,rfl,hvw,hb3⟩
 obtain ⟨vp,vc,rfl⟩:=shape_of hvw.bytes HLE.out
 have hs3:=HS2.out.up hb3
 have hs4:=hs3.box_store 1 rfl 4 (.slice vp dn vc)
 obtain ⟨⟨_,_,_,_,d4⟩,⟨_,_,_,_,f4⟩⟩:=box5 hs3 (i:=1) rfl
 have HS4:Hid (Sep w [OldA w,BoxA B #[.int .i64 a0,.int .i64 a1,.int .i64 a2,.int .i64 a3,.slice vp dn vc] 54,BoxA R #[.int .i64 0,.int .i64 0,.int .i64 0,.int .i64 0,.slice none 0 0] 54] (w3.setCell ⟨B,4,none⟩ (.slice vp dn vc))):=hs4
 clear hs3 hs4 hvw hb3 c4 HCL HS2
 go_upto_region 2 with fail
 clear d4 f4
 generalize w3.setCell ⟨B,4,none⟩ (.slice vp dn vc)=w4 at *
 obtain ⟨⟨c0,c1,c2,c3,c4⟩,_⟩:=box5 HS4.out (i:=1) rfl
 obtain ⟨⟨r0,r1,r2,r3,r4⟩,⟨f0,f1,f2,f3,f4⟩⟩:=box5 HS4.out (i:=2) rfl
 have hs5:=box_fill5 HS4.out (i:=2) rfl (.int .i64 a0) (.int .i64 a1) (.int .i64 a2) (.int .i64 a3) (.slice vp dn vc)
 obtain ⟨F,hF,_⟩:=hs5.get 2 rfl
 have HF:=Lib.hid hF.2
 have HOLD:=Lib.hid hs5.old
 clear hs5 hF HS4
 go_wp2_with fail
 (try simp only [Exit.inBlock,Exit.then])
 refine ret_cell_one rfl (b:=R) (t:=54) (fr:=(0,0)) rfl (cs:=#[.int .i64 a0,.int .i64 a1,.int .i64 a2,.int .i64 a3,.slice vp dn vc]) HF.out (Tryz.underlying54) rfl (by kernel_rfl) rfl ⟨⟨vp,vc,rfl⟩,HOLD.out⟩
end Go.Proofs
namespace Go.Proofs
open Go.RowKit Sc
set_option maxHeartbeats 400000 in
theorem clonePut_nil (w:World):Calls Tryz.prog 44 #[.slice none 0 0] w fun e w'=>e=.returned (.slice none 0 0)∧w=w':=by
 have heq:=fun (W:World)=>Lib.run_eql_slice_nil (P:=Tryz.prog) W 37 44 none 0 0 0 0 Tryz.underlying37
 go_enter Tryz.func44,Tryz.ntmps44
 go_wp2
 go_ret
 exact ⟨rfl,rfl⟩
set_option maxHeartbeats 400000 in
theorem clonePut_some (a:Addr) (n c:Nat) (news:List Value) (w:World) (hlen:Hid (news.length=n * 2)) (hcell:Hid (∀ j u,news[j]? = some u→w.cell? (a.add j)=some u)) (hone:Hid (∀ u∈news,u.oneCell'=true)) (hn:Hid (n≤1000000)) :
  Calls Tryz.prog 44 #[.slice (some a) n c] w fun e w'=>∃ v',e=.returned v'∧Hid (w'.ownsRow w.heap.size 44 2 v' n news)∧Hid (Below w.heap.size w w'):=by
 obtain ⟨i0,hi,hz0,hz1,hz2⟩:=info_parts infoPut
 have heq:=fun (W:World)=>Lib.run_eql_slice_nil (P:=Tryz.prog) W 37 44 (some a) n c 0 0 Tryz.underlying37
 go_enter Tryz.func44,Tryz.ntmps44
 go_wp2_with (at_builtin;refine wpList_append_own _ rfl _ _ 37 rfl w.heap.size 44 i0 (.agg #[.int .i64 0,.slice none 0 0]) 2 32 Tryz.underlying37 hi hz0 hz1 hz2 rfl (by decide) _ 0 [] rfl (World.ownsRow_made w _ 0 (Nat.le_refl _) (by decide) rfl) a n c news rfl hlen.out (fun j u hj=>cell_alloc_old (hcell.out j u hj)) hone.out (by have:=hn.out;unfold maxLen;omega) (by have:=hn.out;omega) (by simp) ?_;intro v' w1 hown hgrow hnil)
 go_ret
 refine ⟨v',rfl,by unfold Hid;simpa using hown,?_⟩
 refine ((Below.refl _ _).alloc (Nat.le_refl _) _).grown hgrow (by simp) (fun k hk=>?_)
 cases hk;exact Nat.le_refl _
def putCells (p:Put) (dv:Value):List Value:=[.int .i64 p.lba,dv]
def putsX (l:List Put) (dvs:List Value):List Value:=(List.zipWith putCells l dvs).flatten
theorem putsX_len {l:List Put} {dvs:List Value} (h:dvs.length=l.length):(putsX l dvs).length=l.length * 2:=by
 unfold putsX
 induction l generalizing dvs with
 | nil=>rfl
 | cons p t ih =>
  cases dvs with
  | nil=>simp at h
  | cons d ds=>rw [List.zipWith_cons_cons,List.flatten_cons,List.length_append,ih (by simpa using h),List.length_cons];show 2+_=_;omega
theorem putsX_two {l:List Put} {dvs:List Value}:∀ cs∈List.zipWith putCells l dvs,cs.length=2:=by
 intro x hx
 obtain ⟨i,hi,rfl⟩:=List.mem_iff_getElem.1 hx
 rw [List.getElem_zipWith];rfl
theorem putsX_get {l:List Put} {dvs:List Value} (h:dvs.length=l.length) {i:Nat} (hi:i < l.length):(putsX l dvs)[i * 2]? = some (.int .i64 l[i].lba)∧(putsX l dvs)[i * 2+1]? = some (dvs[i]'(by omega)):=by
 have hz:i < (List.zipWith putCells l dvs).length:=by rw [List.length_zipWith];omega
 have h0:=flat_get (k:=2) putsX_two i hz 0 (by omega)
 have h1:=flat_get (k:=2) putsX_two i hz 1 (by omega)
 rw [List.getElem_zipWith] at h0 h1
 exact ⟨h0,h1⟩
theorem putsX_set {l:List Put} {dvs:List Value} (h:dvs.length=l.length) {i:Nat} (hi:i < l.length) (v:Value):(putsX l dvs).set (i * 2+1) v=putsX l (dvs.set i v):=by
 induction l generalizing dvs i with
 | nil=>simp at hi
 | cons p t ih =>
  cases dvs with
  | nil=>simp at h
  | cons d ds =>
   cases i with
   | zero=>rfl
   | succ i =>
    have hh:=ih (dvs:=ds) (by simpa using h) (i:=i) (by simpa using hi)
    unfold putsX at hh ⊢
    rw [List.set_cons_succ,List.zipWith_cons_cons,List.zipWith_cons_cons,List.flatten_cons,List.flatten_cons,List.set_append_right _ _ (by show 2≤_;omega),show (i+1) * 2+1 - (putCells p d).length=i * 2+1 by show (i+1) * 2+1 - 2=_;omega,hh]
theorem puts_open {G:Nat→Prop} {w:World} {p:Option Addr} {n c:Nat} {l:List Put} (h:PutsAt G w (.slice p n c) l) :
  ∃ dvs:List Value,dvs.length=l.length∧All2 (BytesAt G w) dvs (l.map (·.data))∧(∀ a,p=some a→∀ j u,(putsX l dvs)[j]? = some u→w.cell? (a.add j)=some u)∧(∀ x∈l,I64 x.lba)∧n=l.length∧n≤c∧(p=none→n=0∧c=0):=by
 obtain ⟨p',c',e,h1,h2,h3,h4⟩:=h
 cases e
 have hex:∀ i (hi:i < l.length),∃ dv,BytesAt G w dv l[i].data∧∀ b o,p=some ⟨b,o,none⟩→w.cell? ⟨b,o+i * 2,none⟩=some (.int .i64 l[i].lba)∧w.cell? ⟨b,o+i * 2+1,none⟩=some dv:=fun i hi=>by
  obtain ⟨b,o,rfl,_,q0,_,dv,q1,q2⟩:=h4 i hi
  exact ⟨dv,q2,fun b' o' e=>by cases e;exact ⟨q0,q1⟩⟩
 have hI:∀ x∈l,I64 x.lba:=fun x hx=>by
  obtain ⟨i,hi,rfl⟩:=List.mem_iff_getElem.1 hx
  obtain ⟨b,o,_,_,_,q,_⟩:=h4 i hi
  exact q
 let f:Nat→Value:=fun i=>if hi:i < l.length then (hex i hi).choose else .bool false
 have hf:∀ i (hi:i < l.length),BytesAt G w (f i) l[i].data∧∀ b o,p=some ⟨b,o,none⟩→w.cell? ⟨b,o+i * 2,none⟩=some (.int .i64 l[i].lba)∧w.cell? ⟨b,o+i * 2+1,none⟩=some (f i):=fun i hi=>by
  have:=(hex i hi).choose_spec
  simp only [f,hi,dif_pos]
  exact this
 have hlen:((List.range l.length).map f).length=l.length:=by simp
 refine ⟨(List.range l.length).map f,hlen,All2.of_get (by simp) fun i hi hi'=>?_,fun a ha j u hu=>?_,hI,rfl,h1,fun e=>by have:=h3 e;omega⟩
 ·rw [List.getElem_map,List.getElem_map,List.getElem_range]
  exact (hf i (by simpa using hi)).1
 ·subst ha
  have hj:=(List.getElem?_eq_some_iff.1 hu).1
  rw [putsX_len hlen] at hj
  obtain ⟨i,hi,hji⟩:∃ i,i < l.length∧(j=i * 2∨j=i * 2+1):=⟨j / 2,by omega,by omega⟩
  obtain ⟨b,o,e,_⟩:=h4 i hi
  cases e
  obtain ⟨g0,g1⟩:=(hf i hi).2 b o rfl
  obtain ⟨x0,x1⟩:=putsX_get hlen hi
  rw [addr_addO]
  rcases hji with rfl | rfl
  ·rw [x0] at hu
   cases hu
   exact g0
  ·rw [x1] at hu
   cases hu
   rw [← Nat.add_assoc,List.getElem_map,List.getElem_range]
   exact g1
theorem puts_close {F:Nat→Prop} {w:World} {T B n:Nat} {v:Value} {l:List Put} {dvs:List Value} (hl:dvs.length=l.length) (ho:w.ownsRow B T 2 v n (putsX l dvs)) (hF:∀ g,v.ownBlock=some g→F g) (hd:All2 (BytesAt F w) dvs (l.map (·.data))) (hI:∀ x∈l,I64 x.lba) (hn:n=l.length):PutsAt F w v l:=by
 subst hn
 have hrow:=ho
 obtain ⟨hx,⟨rfl,h0⟩ | ⟨g,cap,cur,rfl,hb,hg,hnc,hcm,hcs,htake⟩⟩:=ho
 ·obtain rfl:l=[]:=List.length_eq_zero_iff.1 h0
  exact SlAt.nil
 ·refine ⟨_,cap,rfl,hnc,by unfold maxLen at hcm;omega,(by intro hh;cases hh),fun i hi=>⟨g,0,rfl,hF g rfl,?_⟩⟩
  obtain ⟨x0,x1⟩:=putsX_get hl hi
  have:=All2.get hd i (by omega) (by simpa using hi)
  rw [List.getElem_map] at this
  refine ⟨?_,hI _ (List.getElem_mem hi),dvs[i]'(by omega),?_,this⟩
  ·rw [Nat.zero_add,hrow.cellAt (i * 2) (by omega),x0]
  ·rw [Nat.zero_add,hrow.cellAt (i * 2+1) (by omega),x1]
end Go.Proofs
namespace Go.Proofs
open Go.RowKit Sc
theorem cell_upA {w w':World} (hb:Below w.heap.size w w') {a:Addr} {u:Value} (h:w.cell? a=some u):w'.cell? a=some u:=by
 by_cases hl:a.block < w.heap.size
 ·exact (hb.cell (p:=a) hl).trans h
 ·exfalso
  unfold World.cell? at h
  rw [Array.getElem?_eq_none (by omega)] at h
  simp at h
theorem clonePut_any (p:Option Addr) (n c:Nat) (news:List Value) (w:World) (hlen:news.length=n * 2) (hp:p=none→n=0∧c=0) (hcell:∀ a,p=some a→∀ j u,news[j]? = some u→w.cell? (a.add j)=some u) (hone:∀ u∈news,u.oneCell'=true) (hn:n≤1000000) :
  Calls Tryz.prog 44 #[.slice p n c] w fun e w'=>∃ p' c',e=.returned (.slice p' n c')∧Hid (w'.ownsRow w.heap.size 44 2 (.slice p' n c') n news)∧Hid (Below w.heap.size w w'):=by
 cases p with
 | none =>
  obtain ⟨rfl,rfl⟩:=hp rfl
  obtain rfl:news=[]:=List.length_eq_zero_iff.1 (by omega)
  refine (clonePut_nil w).mono ?_
  rintro e w1 ⟨rfl,rfl⟩
  exact ⟨none,0,rfl,World.ownsRow_nil ..,Below.refl _ _⟩
 | some a =>
  refine (clonePut_some a n c news w hlen (hcell a rfl) hone hn).mono ?_
  rintro e w1 ⟨v',rfl,ho,hb⟩
  obtain ⟨p',c',rfl⟩:∃ p' c',v'=.slice p' n c':=by
   obtain ⟨_,⟨rfl,rfl⟩ | ⟨g,cap,cur,rfl,_⟩⟩:=ho.out
   ·exact ⟨none,0,rfl⟩
   ·exact ⟨_,_,rfl⟩
  exact ⟨p',c',rfl,ho,hb⟩
theorem putsX_one {l:List Put} {dvs:List Value} (h:∀ d∈dvs,d.oneCell'=true):∀ u∈putsX l dvs,u.oneCell'=true:=by
 intro u hu
 obtain ⟨cs,hcs,hu⟩:=List.mem_flatten.1 hu
 obtain ⟨i,hi,rfl⟩:=List.mem_iff_getElem.1 hcs
 rw [List.getElem_zipWith] at hu
 rw [List.length_zipWith] at hi
 rcases List.mem_cons.1 hu with rfl | hu
 ·rfl
 ·rw [List.mem_singleton.1 hu];exact h _ (List.getElem_mem (by omega))
theorem mid_set {α:Type} {a b:List α} {v:α} {i:Nat} (ha:a.length=i) (hi:i < b.length):(a++b.drop i).set i v=(a++[v])++b.drop (i+1):=by
 rw [List.set_append_right _ _ (by omega),ha,Nat.sub_self,List.drop_eq_getElem_cons hi,List.set_cons_zero,List.append_assoc];rfl
set_option maxRecDepth 100000 in
set_option maxHeartbeats 4000000 in
theorem sdOwn (G:Nat→Prop) (o0 o1 o2 o3:Int) (pv:Value) (l:List Put) (w:World) (hG:Dom G w) (hp:PutsAt G w pv l) (hn:l.length≤100000) (hd:∀ p∈l,p.data.length≤1000000) :
  Calls Tryz.prog 29 #[.agg #[.int .i64 o0,.int .i64 o1,.int .i64 o2,.int .i64 o3,pv]] w fun e w'=>∃ pv',e=.returned (.agg #[.int .i64 o0,.int .i64 o1,.int .i64 o2,.int .i64 o3,pv'])∧PutsAt (New w w') w' pv' l∧Below w.heap.size w w':=by
 obtain ⟨p,c,rfl⟩:∃ p c,pv=.slice p l.length c:=by obtain ⟨p,c,e,_⟩:=hp;exact ⟨p,c,e⟩
 obtain ⟨dvs,hdl,hda,hcell,hI,_,_,hpn⟩:=puts_open hp
 have hs1:=Go.Proofs.Sep.boxT (Sep.start w) #[.int .i64 o0,.int .i64 o1,.int .i64 o2,.int .i64 o3,.slice p l.length c] 49
 have hs2:=Go.Proofs.Sep.boxT hs1 #[.int .i64 0,.int .i64 0,.int .i64 0,.int .i64 0,.slice none 0 0] 49
 have hz:(w.alloc (.cells #[.int .i64 o0,.int .i64 o1,.int .i64 o2,.int .i64 o3,.slice p l.length c] 49 (0,0))).heap.size=w.heap.size+1:=by simp
 rw [hz] at hs2
 have hbb:=hs2.old
 have hone:∀ d∈dvs,d.oneCell'=true:=fun d hd=>by
  obtain ⟨i,hi,rfl⟩:=List.mem_iff_getElem.1 hd
  obtain ⟨q,c',e⟩:=shape_of (All2.get hda i hi (by simpa using (show i < l.length by omega))) rfl
  rw [e];rfl
 obtain ⟨wa,hwa⟩:∃ wa,(w.alloc (.cells #[.int .i64 o0,.int .i64 o1,.int .i64 o2,.int .i64 o3,.slice p l.length c] 49 (0,0))).alloc (.cells #[.int .i64 0,.int .i64 0,.int .i64 0,.int .i64 0,.slice none 0 0] 49 (0,0))=wa:=⟨_,rfl⟩
 obtain ⟨B,hB⟩:∃ B,w.heap.size=B:=⟨_,rfl⟩
 obtain ⟨R,hR⟩:∃ R,B+1=R:=⟨_,rfl⟩
 rw [hwa] at hs2 hbb
 rw [hB,hR] at hs2
 have HS2:Hid (Sep w [OldA w,BoxA B #[.int .i64 o0,.int .i64 o1,.int .i64 o2,.int .i64 o3,.slice p l.length c] 49,BoxA R #[.int .i64 0,.int .i64 0,.int .i64 0,.int .i64 0,.slice none 0 0] 49] wa):=hs2
 have HCL:=Lib.hid (clonePut_any p l.length c (putsX l dvs) wa (putsX_len hdl) hpn (fun a ha j u hu=>cell_upA hbb (hcell a ha j u hu)) (putsX_one hone) (by omega))
 obtain ⟨⟨_,_,_,_,c4⟩,_⟩:=box5 HS2.out (i:=1) rfl
 have HDL:=Lib.hid hdl
 have HDA:=Lib.hid hda
 have HI:=Lib.hid hI
 have HD:=Lib.hid hd
 have HG:=Lib.hid hG
 obtain ⟨n,hln⟩:∃ n,l.length=n:=⟨_,rfl⟩
 rw [hln] at HS2 HCL c4 HDL hwa ⊢
 have HLN:=Lib.hid hln
 have hn5:n≤100000:=by omega
 clear hs1 hs2 hz hbb hp hone hcell hpn hdl hda hI hd hG hln hn
 go_enter Tryz.func29,Tryz.ntmps29
 go_wp2_with fail
 try rw [hwa]
 try rw [hB]
 try rw [hR]
 clear hwa hB hR
 refine (HCL.out).mono ?_
 rintro e w3 ⟨vp,vc,rfl,how,hb3⟩
 have hs3:=HS2.out.row_new hb3.out how.out
 have hs4:=hs3.box_store 1 rfl 4 (.slice vp n vc)
 obtain ⟨⟨_,_,_,_,d4⟩,⟨_,_,_,_,f4⟩⟩:=box5 hs3 (i:=1) rfl
 have hs5:=hs4.new (Below.refl _ _) (DatA [] []) (F:=fun _=>False) (fun _ h=>h.elim) trivial
 have HS4:Hid (Sep w [OldA w,BoxA B #[.int .i64 o0,.int .i64 o1,.int .i64 o2,.int .i64 o3,.slice vp n vc] 49,BoxA R #[.int .i64 0,.int .i64 0,.int .i64 0,.int .i64 0,.slice none 0 0] 49,RowA 44 2 (.slice vp n vc) n (putsX l dvs),DatA [] []] (w3.setCell ⟨B,4,none⟩ (.slice vp n vc))):=hs5
 clear hs3 hs4 hs5 how hb3 c4 HCL HS2
 go_upto_region 2 with fail
 clear d4 f4
 generalize w3.setCell ⟨B,4,none⟩ (.slice vp n vc)=w4 at *
 obtain ⟨⟨_,_,_,_,c4⟩,_⟩:=box5 HS4.out (i:=1) rfl
 go_wp2_with fail
 clear c4
 go_loopw [11] (fun s11 wr=>∃ i:Nat,∃ nds nls,i≤n∧s11=.int .i64 i∧Hid (nds.length=i)∧Hid (nls=(l.take i).map (·.data))∧Hid (Sep w [OldA w,BoxA B #[.int .i64 o0,.int .i64 o1,.int .i64 o2,.int .i64 o3,.slice vp n vc] 49,BoxA R #[.int .i64 0,.int .i64 0,.int .i64 0,.int .i64 0,.slice none 0 0] 49,RowA 44 2 (.slice vp n vc) n (putsX l (nds++dvs.drop i)),DatA nds nls] wr)) (fun s11 _=>n - (intOf s11).toNat)
 case atStart=>exact ⟨0,[],[],Nat.zero_le _,by go_num,rfl,rfl,HS4.out⟩
 case round =>
  obtain ⟨i,nds,nls,hi,rfl,HND,HNL,HS⟩:=hrel
  clear HS4
  by_cases hlt:i < n
  case neg =>
   obtain rfl:i=n:=by omega
   obtain ⟨⟨c0,c1,c2,c3,c4⟩,_⟩:=box5 HS.out (i:=1) rfl
   obtain ⟨⟨r0,r1,r2,r3,r4⟩,⟨f0,f1,f2,f3,f4⟩⟩:=box5 HS.out (i:=2) rfl
   have hs5:=box_fill5 HS.out (i:=2) rfl (.int .i64 o0) (.int .i64 o1) (.int .i64 o2) (.int .i64 o3) (.slice vp i vc)
   obtain ⟨F,hF,_⟩:=hs5.get 2 rfl
   obtain ⟨F1,F2,_,hF1,hF2,_⟩:=hs5.both 3 4 (by omega) (A:=RowA 44 2 (.slice vp i vc) i (putsX l (nds++dvs.drop i))) (B:=DatA nds nls) rfl rfl
   have HF:=Lib.hid hF.2
   have HOLD:=Lib.hid hs5.old
   have HPU:Hid (PutsAt (New w (((((wr.setCell ⟨R,0,none⟩ (.int .i64 o0)).setCell ⟨R,1,none⟩ (.int .i64 o1)).setCell ⟨R,2,none⟩ (.int .i64 o2)).setCell ⟨R,3,none⟩ (.int .i64 o3)).setCell ⟨R,4,none⟩ (.slice vp i vc))) (((((wr.setCell ⟨R,0,none⟩ (.int .i64 o0)).setCell ⟨R,1,none⟩ (.int .i64 o1)).setCell ⟨R,2,none⟩ (.int .i64 o2)).setCell ⟨R,3,none⟩ (.int .i64 o3)).setCell ⟨R,4,none⟩ (.slice vp i vc)) (.slice vp i vc) l):=by
    obtain ⟨F3,hF3,hN3⟩:=Sc.Sep.get_new hs5 3 (by omega) (A:=RowA 44 2 (.slice vp i vc) i (putsX l (nds++dvs.drop i))) rfl
    obtain ⟨F4,hF4,hN4⟩:=Sc.Sep.get_new hs5 4 (by omega) (A:=DatA nds nls) rfl
    have hdr:nds++dvs.drop i=nds:=by rw [List.drop_of_length_le (by rw [HDL.out];exact Nat.le_refl _),List.append_nil]
    have h3:=hF3.1
    rw [hdr] at h3
    have hnl:nls=l.map (·.data):=by rw [HNL.out,List.take_of_length_le (by rw [HLN.out];exact Nat.le_refl _)]
    have h4:All2 (BytesAt F4 _) nds nls:=hF4
    rw [hnl] at h4
    exact puts_close (by rw [HND.out,HLN.out]) h3 (fun g hg=>hN3 g (hF3.2 g hg)) (All2.imp (fun _ _ hb=>BytesAt.mono hb hN4) h4) HI.out HLN.out.symm
   clear hs5 hF hF1 hF2
   go_wp2_with fail
   (try simp only [Exit.inBlock,Exit.then])
   refine ret_cell_one rfl (b:=R) (t:=49) (fr:=(0,0)) rfl (cs:=#[.int .i64 o0,.int .i64 o1,.int .i64 o2,.int .i64 o3,.slice vp i vc]) HF.out (Tryz.underlying49) rfl (by kernel_rfl) rfl ⟨_,rfl,HPU.out,HOLD.out⟩
  case pos =>
   have hid:i < dvs.length:=by rw [HDL.out];exact hlt
   have hil:i < l.length:=by rw [HLN.out];exact hlt
   have hold:=HS.out.old
   have hbi:=All2.get HDA.out i hid (by simpa using hil)
   rw [List.getElem_map] at hbi
   obtain ⟨dp,dc,hdv⟩:=shape_of hbi rfl
   rw [hdv] at hbi
   have hbi2:=hbi.up hold
   have hd64:=HD.out _ (List.getElem_mem hil)
   obtain ⟨F,hF,_⟩:=HS.out.get 3 (A:=RowA 44 2 (.slice vp n vc) n (putsX l (nds++dvs.drop i))) rfl
   have hrow:=hF.1
   obtain ⟨_,⟨_,h0⟩ | ⟨g,cap,cur,e',_⟩⟩:=hF.1
   ·omega
   cases e'
   have hndl:(nds++dvs.drop i).length=l.length:=by rw [List.length_append,List.length_drop,HND.out,HDL.out,HLN.out];omega
   have hx:=(putsX_get hndl hil).2
   have hgi:(nds++dvs.drop i)[i]'(by rw [hndl];exact hil)=dvs[i]:=by
    rw [List.getElem_append_right (by rw [HND.out];exact Nat.le_refl _),List.getElem_drop]
    congr 1
    rw [HND.out];omega
   rw [hgi,hdv] at hx
   have g1:wr.cell? ⟨g,i * 2+1,none⟩=some (.slice dp l[i].data.length dc):=by rw [hrow.cellAt (i * 2+1) (by omega)];exact hx
   have gf:wr.frozen? ⟨g,i * 2+1,none⟩=false:=hrow.frozenAt (i * 2+1)
   have HSd:Hid (Sep w _ wr.drew):=HS.out.up (below_drewN (Below.refl wr.heap.size wr) 1)
   have hdr:=below_drewN (Below.refl wr.heap.size wr) 1
   have HCL:=Lib.hid (clone_w G _ l[i].data wr.drew (hbi2.up hdr) hd64)
   obtain ⟨⟨_,_,_,_,c4⟩,_⟩:=box5 HSd.out (i:=1) rfl
   have g1d:wr.drew.cell? ⟨g,i * 2+1,none⟩=some (.slice dp l[i].data.length dc):=g1
   have gfd:wr.drew.frozen? ⟨g,i * 2+1,none⟩=false:=gf
   have HX:Hid (∀ v,(putsX l (nds++dvs.drop i)).set (i * 2+1) v=putsX l ((nds++[v])++dvs.drop (i+1))):=fun v=>by rw [putsX_set hndl hil,mid_set HND.out hid]
   have HNL2:Hid (nls++[l[i].data]=(l.take (i+1)).map (·.data)):=by show _=_;rw [take_snoc l i hil,List.map_append,HNL.out];rfl
   have hni:(i:Int) < (n:Int):=by omega
   generalize l[i].data=dd at *
   generalize hdm:dd.length=dm at *
   have HDM:=Lib.hid hdm
   clear hold hbi hbi2 hF hrow hx hgi hdv hndl HS hdr g1 gf hdm
   go_upto_region 5 with fail
   refine wp_regionH (fun W=>W.cell? ⟨B,4,none⟩=some (.slice (some ⟨g,0,none⟩) n vc)∧W.cell? ⟨g,i * 2+1,none⟩=some (.slice dp dm dc)) (n:=13) (by kernel_rfl) (by kernel_rfl) ?_
   generalize wr.drew=wd at *
   refine wpH.tk 0 ?_
   refine wpH.tk 1 ?_ (hy:=by intro W hW;have hld0:=hW.1;go_simp;try with_reducible rfl)
   refine wpH.tk 2 ?_
   refine wpH.tk 3 ?_
   refine wpH.tk 4 ?_ (hy:=by intro W hW;have hld0:=hW.1;go_simp;try with_reducible rfl)
   refine wpH.tk 5 ?_
   refine wpH.tk 6 ?_
   refine wpH.tk 7 ?_
   refine wpH.tk 8 ?_ (hy:=by intro W hW;have hld0:=hW.2;go_simp;try with_reducible rfl)
   refine wpH.alone 9 rfl (by kernel_rfl) (by kernel_rfl) ⟨c4,g1d⟩ (fun K hK=>?_)
   go_simp
   go_at_call 45
   refine (HCL.out).mono ?_
   rintro e w6 ⟨v6,rfl,hv6,hb6⟩
   obtain ⟨p6,c6,rfl⟩:=shape_of hv6.bytes HDM.out
   have hs7:=Sc.Sep.dat_new HSd.out 4 rfl hb6 hv6.bytes
   have hs8:=hs7.row_set 3 rfl (i * 2+1) (.slice p6 dm c6)
   rw [HX.out] at hs8
   have q4:=cell_up hb6 c4
   have q1:=cell_up hb6 g1d
   obtain ⟨F9,hF9,_⟩:=hs7.get 3 (A:=RowA 44 2 (.slice (some ⟨g,0,none⟩) n vc) n (putsX l (nds++dvs.drop i))) rfl
   have qf:w6.frozen? ⟨g,i * 2+1,none⟩=false:=hF9.1.frozenAt (i * 2+1)
   have HS8:Hid (Sep w [OldA w,BoxA B #[.int .i64 o0,.int .i64 o1,.int .i64 o2,.int .i64 o3,.slice (some ⟨g,0,none⟩) n vc] 49,BoxA R #[.int .i64 0,.int .i64 0,.int .i64 0,.int .i64 0,.slice none 0 0] 49,RowA 44 2 (.slice (some ⟨g,0,none⟩) n vc) n (putsX l ((nds++[.slice p6 dm c6])++dvs.drop (i+1))),DatA (nds++[.slice p6 dm c6]) (nls++[dd])] (w6.setCell ⟨g,i * 2+1,none⟩ (.slice p6 dm c6))):=hs8
   have HND8:Hid ((nds++[Value.slice p6 dm c6]).length=i+1):=by show _=_;rw [List.length_append,HND.out];rfl
   clear hs7 hs8 hF9 hv6 hb6 HCL HSd c4 g1d gfd
   try go_simp
   refine hK _ _ ?_
   clear hK K
   refine wpH.tk 10 ?_
   refine wpH.tk 11 ?_
   refine wpH.alone 12 rfl (by kernel_rfl) (by kernel_rfl) ⟨q4,q1⟩ (fun K hK=>?_)
   go_simp
   try go_simp
   refine hK _ _ ?_
   clear hK K
   refine wpH.done (by kernel_rfl) (by kernel_rfl) ?_
   clear q4 q1 qf
   generalize w6.setCell ⟨g,i * 2+1,none⟩ (.slice p6 dm c6)=w7 at *
   go_wp2_with fail
   go_roundw
   case rel=>exact ⟨i+1,_,_,by omega,by go_num,HND8,HNL2,HS8⟩
   case measure=>simp [intOf];omega
end Go.Proofs
namespace Go.Proofs
open Go.RowKit Sc
def opE (G:Nat→Prop):Elem OpS:=fun w b o x=>w.cell? ⟨b,o,none⟩=some (.int .i64 x.kind)∧w.cell? ⟨b,o+1,none⟩=some (.int .i64 x.h)∧w.cell? ⟨b,o+2,none⟩=some (.int .i64 x.lba)∧w.cell? ⟨b,o+3,none⟩=some (.int .i64 x.len) ∧
 (I64 x.kind∧I64 x.h∧I64 x.lba∧I64 x.len)∧∃ v,w.cell? ⟨b,o+4,none⟩=some v∧PutsAt G w v x.puts
def OpsAt (G:Nat→Prop):World→Value→List OpS→Prop:=SlAt G 5 (opE G)
theorem opE_stable (G:Nat→Prop):Stable G (opE G):=fun w w' b o x hs hb ⟨h0,h1,h2,h3,h4,v,h5,h6⟩ =>
 ⟨by rw [hs.cell hb];exact h0,by rw [hs.cell hb];exact h1,by rw [hs.cell hb];exact h2,by rw [hs.cell hb];exact h3,h4,v,by rw [hs.cell hb];exact h5,h6.same hs⟩
theorem OpsAt.same {G:Nat→Prop} {w w':World} {v:Value} {l:List OpS} (h:OpsAt G w v l) (hs:Same G w w'):OpsAt G w' v l:=SlAt.same h hs (opE_stable G)
theorem Sep.putk_new {W w w':World} {L:List Asn} (h:Sep W L w) (i:Nat) {ps:List (Value × List Put)} (hi:L[i]? = some (PutKA ps)) (hb:Below w.heap.size w w') {v:Value} {l:List Put} (hv:PutsAt (New w w') w' v l) :
  Sep W (L.set i (PutKA (ps++[(v,l)]))) w':=by
 obtain ⟨F,G,hF,hR,hFG,hdF,hdG,K⟩:=h.at i hi
 refine K w' (fun k=>F k∨New w w' k) _ (Chg.of_below hb fun k h1 h2=>by omega) (fun k hk=>hk) fun p hp=>?_
 rcases List.mem_append.1 hp with hp | hp
 ·exact ((hF p hp).up hb).mono fun _ h=>.inl h
 ·rw [List.mem_singleton.1 hp]
  exact hv.mono fun _ h=>.inr h
section
variable {W w:World} {L T:List Asn} {x p d st:Nat} {s:SdS} {c:SdC}
theorem sdT_get {Ls:List Asn} {k:Nat} {A:Asn} (h:Ls[k]? = some A):(OL L x (Ls++T))[L.length+k]? = some A:=by
 rw [OL_get,List.getElem?_append_left (List.getElem?_eq_some_iff.1 h).1];exact h
theorem sdT_set {Ls:List Asn} {k:Nat} {A:Asn} (h:k < Ls.length):(OL L x (Ls++T)).set (L.length+k) A=OL L x (Ls.set k A++T):=by
 rw [OL_set,List.set_append_left _ _ h]
theorem sd_len (hc:Sd8 c s):(sdItems p d st c s).length=36:=by
 unfold sdItems
 rw [List.length_append,flat4_len (clList_four c s),clList_len hc];rfl
theorem sd_commit (hc:Sd8 c s) {i:Nat} (hi:i < 8) (j:Nat) (hj:j < 4) (A:Asn) (h:Sep W (OL L x ((sdItems p d st c s).set (4+(4 * i+j)) A++T)) w) (k:ClC) (q:ClS) (hA:clItems k q=(clItems (c.cl[i]'(by rw [hc.c8];exact hi)) (s.cl[i]'(by rw [hc.s8];exact hi))).set j A)
  (j0:Nat) (hj0:j0 < 4) (v:Value) (hkq:clRow k q=(clRow (c.cl[i]'(by rw [hc.c8];exact hi)) (s.cl[i]'(by rw [hc.s8];exact hi))).set j0 v) :
  Sep W (OL L x (sdItems p d st { c with cl:=c.cl.set i k } { s with cl:=s.cl.set i q } ++ T)) (w.setCell ⟨p,2+i * 4+j0,none⟩ v):=by
 have hl:=sd_len (p:=p) (d:=d) (st:=st) hc
 have h0:((sdItems p d st c s).set (4+(4 * i+j)) A)[0]? = some (BoxA p (sdRow d st c s) 75):=by
  rw [List.getElem?_set_ne (by omega),sd_head 0 (by omega)];rfl
 have h1:=h.box_store (L.length+0) (sdT_get h0) (2+i * 4+j0) v
 rw [sdT_set (by rw [List.length_set];omega),sdRow_set hc hi j0 hj0 v k q hkq,List.set_comm _ _ (by omega),sd_upd hc hi k q j hj A hA] at h1
 exact h1
theorem cells5 {w:World} {b:Nat} {v0 v1 v2 v3 v4:Value} {T:TypeId} (h:w.heap[b]? = some (.cells #[v0,v1,v2,v3,v4] T (0,0))):∀ j u,[v0,v1,v2,v3,v4][j]? = some u→w.cell? ((⟨b,0,none⟩:Addr).add j)=some u:=fun j u hu=>by
 rw [addr_addO,Nat.zero_add,cell_row h];simpa using hu
theorem infoOp:(Tryz.prog.info? 49).map (fun i=>(i.zero,i.size,i.bytes))=some (some (.agg #[.int .i64 0,.int .i64 0,.int .i64 0,.int .i64 0,.slice none 0 0]),5,56):=by kernel_rfl
theorem Sep.opush {W w:World} {L:List Asn} (h:Sep W L w) (i:Nat) {n:Nat} {v:Value} {xs:List Value} (hi:L[i]? = some (ORowA 5 v n xs)) (v0 v1 v2 v3:Int) (p:Option Addr) (m c:Nat) (hn:n≤1000000) :
  ∃ p' cap w',(Builtin.append_ #[29,29] 29 #[v,.slice (some ⟨w.heap.size,0,none⟩) 1 1]).run Tryz.prog (w.alloc (.cells #[.int .i64 v0,.int .i64 v1,.int .i64 v2,.int .i64 v3,.slice p m c] 49 (0,0)))=.ok (.slice p' (n+1) cap) w'∧Sep W (L.set i (ORowA 5 (.slice p' (n+1) cap) (n+1) (xs++[.int .i64 v0,.int .i64 v1,.int .i64 v2,.int .i64 v3,.slice p m c]))) w':=by
 obtain ⟨i0,hi0,hz0,hz1,hz2⟩:=info_parts infoOp
 obtain ⟨v',w',hr,hS⟩:=Sc.Sep.orow_push (P:=Tryz.prog) h i hi (below_alloc w _) 29 29 49 i0 _ 56 Tryz.underlying29 hi0 hz0 hz1 hz2 rfl (by decide) ⟨w.heap.size,0,none⟩ 1 1 [.int .i64 v0,.int .i64 v1,.int .i64 v2,.int .i64 v3,.slice p m c] rfl (cells5 (heap_alloc_new w _)) (by simp [Value.oneCell']) (by decide) (by unfold maxLen;omega) (by omega)
 obtain ⟨F,hF,_⟩:=hS.get i (List.getElem?_set_self (List.getElem?_eq_some_iff.1 hi).1)
 obtain ⟨p',cap,rfl,_⟩:=ORowP.shape hF
 exact ⟨p',cap,w',hr,hS⟩
theorem opsX_snoc {l:List OpS} {pvs:List Value} (h:pvs.length=l.length) (o:OpS) (v:Value):opsX (l++[o]) (pvs++[v])=opsX l pvs++opCells o v:=by
 unfold opsX
 rw [List.zipWith_append h.symm,List.flatten_append];simp
def addOps (s:SdS) (i:Nat) (l:List OpS):SdS:={ s with cl:=s.cl.set i { (s.cl[i]?.getD ⟨[],[],0,false⟩) with ops:=(s.cl[i]?.getD ⟨[],[],0,false⟩).ops++l } }
end
end Go.Proofs
namespace Go.Proofs
open Go.RowKit Sc
section
variable {W w:World} {L T:List Asn} {x p d st:Nat} {s:SdS} {c:SdC}
theorem sdOk_set (hc:SdOk c s) {i:Nat} (_hi:i < 8) (k:ClC) (q:ClS) (ps':List (Value × List Put)) (hps:∀ p∈c.ps,p∈ps') (hk:ClOk { c with cl:=c.cl.set i k,ps:=ps' } { s with cl:=s.cl.set i q } k q):SdOk { c with cl:=c.cl.set i k,ps:=ps' } { s with cl:=s.cl.set i q }:=by
 refine ⟨⟨by show (c.cl.set i k).length=8;rw [List.length_set];exact hc.c8,by show (s.cl.set i q).length=8;rw [List.length_set];exact hc.s8⟩,hc.bl,hc.nd,fun j h h'=>?_,hc.hb⟩
 show ClOk _ _ ((c.cl.set i k)[j]'h) ((s.cl.set i q)[j]'h')
 by_cases hji:i=j
 ·subst hji
  rw [List.getElem_set_self,List.getElem_set_self]
  exact hk
 ·rw [List.getElem_set_ne hji,List.getElem_set_ne hji]
  have:=hc.cl j (by simpa using h) (by simpa using h')
  exact ⟨this.pl,fun j h h'=>hps _ (this.pm j h h'),this.oi,this.ol,this.bl,this.bm,this.bq⟩
theorem addOps_nil (hc:SdOk c s) {i:Nat} (hi:i < 8):addOps s i []=s:=by
 unfold addOps
 have hs:i < s.cl.length:=by rw [hc.s8];exact hi
 rw [List.getElem?_eq_getElem hs,Option.getD_some,List.append_nil]
 have:s.cl.set i s.cl[i]=s.cl:=set_same (List.getElem?_eq_getElem hs)
 show { s with cl:=s.cl.set i s.cl[i] }=s
 rw [this]
theorem addOps_cl (hs:s.cl.length=8) {i:Nat} (hi:i < 8) (l:List OpS) (h:i < (addOps s i l).cl.length):(addOps s i l).cl[i]={ (s.cl[i]'(by omega)) with ops:=(s.cl[i]'(by omega)).ops++l }:=by
 simp [addOps,List.getElem?_eq_getElem (show i < s.cl.length by omega)]
theorem addOps_step (hs:s.cl.length=8) {i:Nat} (hi:i < 8) (l:List OpS) {k:Nat} (hk:k < l.length) (h:i < (addOps s i (l.take k)).cl.length) :
  ({ (addOps s i (l.take k)) with cl:=(addOps s i (l.take k)).cl.set i { ((addOps s i (l.take k)).cl[i]) with ops:=((addOps s i (l.take k)).cl[i]).ops++[l[k]] } }:SdS)=addOps s i (l.take (k+1)):=by
 rw [addOps_cl hs hi (l.take k) h]
 unfold addOps
 rw [List.getElem?_eq_getElem (show i < s.cl.length by omega),Option.getD_some]
 show ({ s with cl:=(s.cl.set i _).set i _ }:SdS)=_
 rw [List.set_set,take_snoc l k hk,List.append_assoc]
theorem sdOk_ps (hc:SdOk c s) {ps':List (Value × List Put)} (hps:∀ p∈c.ps,p∈ps'):SdOk { c with ps:=ps' } s :=
 ⟨⟨hc.c8,hc.s8⟩,hc.bl,hc.nd,fun i h h'=>have:=hc.cl i h h';⟨this.pl,fun j h h'=>hps _ (this.pm j h h'),this.oi,this.ol,this.bl,this.bm,this.bq⟩,hc.hb⟩
theorem sdT_drop {Ls:List Asn} (h:Sep W (OL L x (Ls++T)) w):Sep W (OL L x Ls) w:=by
 rw [← OL_app] at h
 have:=h.take (OL L x Ls).length
 rwa [List.take_left' rfl] at this
theorem sdOk_push (hc:SdOk c s) {i:Nat} (hi:i < 8) (o:OpS) (hI:I64 o.kind∧I64 o.h∧I64 o.lba∧I64 o.len) (hol:(s.cl[i]'(by rw [hc.s8];exact hi)).ops.length+1≤200) (v pv:Value) :
  SdOk { c with cl:=c.cl.set i { (c.cl[i]'(by rw [hc.c8];exact hi)) with ov:=v,pv:=(c.cl[i]'(by rw [hc.c8];exact hi)).pv++[pv] },ps:=c.ps++[(pv,o.puts)] } { s with cl:=s.cl.set i { (s.cl[i]'(by rw [hc.s8];exact hi)) with ops:=(s.cl[i]'(by rw [hc.s8];exact hi)).ops++[o] } }:=by
 have hcl:=hc.cl i (by rw [hc.c8];exact hi) (by rw [hc.s8];exact hi)
 refine sdOk_set hc hi _ _ _ (fun p hp=>List.mem_append_left _ hp) ⟨?_,fun j h h'=>?_,fun x hx=>?_,?_,hcl.bl,hcl.bm,hcl.bq⟩
 ·show (_++[pv]).length=(_++[o]).length
  rw [List.length_append,List.length_append,hcl.pl];rfl
 ·show (((c.cl[i]'_).pv++[pv])[j]'h',(((s.cl[i]'_).ops++[o])[j]'h).puts)∈c.ps++[(pv,o.puts)]
  by_cases hj:j < (s.cl[i]'(by rw [hc.s8];exact hi)).ops.length
  ·rw [List.getElem_append_left (by rw [hcl.pl];exact hj),List.getElem_append_left hj]
   exact List.mem_append_left _ (hcl.pm j hj _)
  ·have hje:j=(s.cl[i]'(by rw [hc.s8];exact hi)).ops.length:=by
    have h2:j < ((s.cl[i]'(by rw [hc.s8];exact hi)).ops++[o]).length:=h
    rw [List.length_append] at h2
    simp at h2
    omega
   subst hje
   refine List.mem_append_right _ ?_
   rw [List.getElem_append_right (by rw [hcl.pl];exact Nat.le_refl _),List.getElem_append_right (Nat.le_refl _)]
   simp
 ·rcases List.mem_append.1 hx with hx | hx
  ·exact hcl.oi x hx
  ·rw [List.mem_singleton.1 hx];exact hI
 ·show (_++[o]).length≤200
  rw [List.length_append];exact hol
set_option maxRecDepth 100000 in
set_option maxHeartbeats 4000000 in
theorem sdAdd (h:Hid (Sep W L w)) (hx:L[x]? = some (SchA p d st s)) (i:Nat) (hi:i < 8) (v:Value) (l:List OpS) (ha:∀ G w',Sc.Rest L x G w'→OpsAt G w' v l) (hb:∀ o∈l,o.puts.length≤100000∧∀ q∈o.puts,q.data.length≤1000000) :
  Calls Tryz.prog 13 #[pt p,.int .i64 ((i:Int)+1),v] w fun e w' =>
   (200 < ((s.cl[i]?.map fun q=>q.ops.length).getD 0)+l.length∧e=.returned (.int .i64 7)∧Hid (Sep W L w')) ∨
   (((s.cl[i]?.map fun q=>q.ops.length).getD 0)+l.length≤200∧e=.returned (.int .i64 0)∧Hid (Sep W (L.set x (SchA p d st (addOps s i l))) w')):=by
 obtain ⟨c,hc,hS,hxl⟩:=SchA.opened h.out hx
 have hs8:=hc.s8
 have hsi:i < s.cl.length:=by omega
 have hci:i < c.cl.length:=by rw [hc.c8];exact hi
 obtain ⟨_,G0,_,hR0,_,_,_,_⟩:=hS.at (L.length+0) (A:=BoxA p (sdRow d st c s) 75) (by rw [OL_get,sd_head 0 (by omega)];rfl)
 obtain ⟨vp,vc,hve⟩:∃ vp vc,v=.slice vp l.length vc:=by
  obtain ⟨vp,vc,e,_⟩:=ha G0 w (Rest_OL hR0)
  exact ⟨vp,vc,e⟩
 subst hve
 have hgn:((s.cl[i]?.map fun q=>q.ops.length).getD 0)=s.cl[i].ops.length:=by rw [List.getElem?_eq_getElem hsi];rfl
 rw [hgn]
 obtain ⟨F,hF,_⟩:=hS.get (L.length+(4+(4 * i+0))) (A:=ORowA 5 c.cl[i].ov s.cl[i].ops.length (opsX s.cl[i].ops c.cl[i].pv)) (by rw [OL_get,sd_item hc hi 0 (by omega)];rfl)
 obtain ⟨op,oc,hov,_,_⟩:=ORowP.shape hF
 have c0:w.cell? ⟨p,2+i * 4,none⟩=some (.slice op s.cl[i].ops.length oc):=by
  have:=sd_cl hS hc hi 0 (by omega)
  rw [Nat.add_zero] at this
  rw [this,← hov];rfl
 have c1:=(sd_cells hS).2
 have HCLI:=Lib.hid (sdClient p st w c1 i hi)
 have HS0:Hid (Sep W (OL L x (sdItems p d st c (addOps s i (l.take 0)))) w):=by
  show Sep _ _ _
  rw [List.take_zero,addOps_nil hc hi];exact hS
 have HC0:Hid (SdOk c (addOps s i (l.take 0))):=by
  show SdOk _ _
  rw [List.take_zero,addOps_nil hc hi];exact hc
 have HA:=Lib.hid ha
 have HB:=Lib.hid hb
 have HXL:=Lib.hid hxl
 have HS8:=Lib.hid hs8
 have HH:=h
 have hol0:s.cl[i].ops.length≤200:=(hc.cl i hci hsi).ol
 obtain ⟨on,hon⟩:∃ on,s.cl[i].ops.length=on:=⟨_,rfl⟩
 rw [hon] at c0 hol0 ⊢
 have HON:=Lib.hid hon
 clear h hx ha hb hS hF hR0 hgn hov hc hci hxl hon hs8
 go_enter Tryz.func13,Tryz.ntmps13
 go_wp2_with fail
 refine (HCLI.out).mono ?_
 rintro e w1 ⟨rfl,rfl⟩
 clear HCLI
 by_cases hbig:200 < on+l.length
 ·have hb1:(200:Int) - (on:Int) < (l.length:Int):=by omega
  go_wp2_with fail
  go_ret
  exact .inl ⟨hbig,rfl,HH⟩
 ·have hb1:¬ ((200:Int) - (on:Int) < (l.length:Int)):=by omega
  go_wp2_with fail
  clear hb1 c0 c1
  go_loopw [28] (fun s28 wr=>∃ k:Nat,∃ c:SdC,k≤l.length∧s28=.int .i64 k∧Hid (SdOk c (addOps s i (l.take k)))∧Hid (Sep W (OL L x (sdItems p d st c (addOps s i (l.take k)))) wr)) (fun s28 _=>l.length - (intOf s28).toNat)
  case atStart=>exact ⟨0,c,Nat.zero_le _,by go_num,HC0,HS0⟩
  case round =>
   obtain ⟨k,c,hk,rfl,HC,HS⟩:=hrel
   clear HC0 HS0 HH
   by_cases hlt:k < l.length
   case neg =>
    obtain rfl:k=l.length:=by omega
    have hs9:=HS.out
    have hc9:=HC.out
    rw [List.take_length] at hs9 hc9
    have HS9:=Lib.hid (SchA.closed hs9 HXL.out hc9)
    clear hs9 hc9 HS
    go_wp2_with fail
    go_ret
    exact .inr ⟨by omega,rfl,HS9⟩
   case pos =>
    have hc:=HC.out
    have hci:i < c.cl.length:=by rw [hc.c8];exact hi
    have hsi:i < (addOps s i (l.take k)).cl.length:=by rw [hc.s8];exact hi
    obtain ⟨_,G,_,hR,_,_,hdG,_⟩:=HS.out.at (L.length+0) (A:=BoxA p (sdRow d st c (addOps s i (l.take k))) 75) (by rw [OL_get,sd_head 0 (by omega)];rfl)
    obtain ⟨_,_,e',_,_,_,h4⟩:=HA.out G wr (Rest_OL hR)
    cases e'
    obtain ⟨b,o,rfl,hGb,q0,q1,q2,q3,qI,pv,q4,hpu⟩:=h4 k hlt
    obtain ⟨pp,pc,rfl⟩:∃ pp pc,pv=.slice pp l[k].puts.length pc:=by obtain ⟨pp,pc,e,_⟩:=hpu;exact ⟨pp,pc,e⟩
    obtain ⟨hb1,hb2⟩:=HB.out _ (List.getElem_mem hlt)
    have hsx:=Go.Proofs.Sep.boxT HS.out #[.int .i64 l[k].kind,.int .i64 l[k].h,.int .i64 l[k].lba,.int .i64 l[k].len,.slice pp l[k].puts.length pc] 49
    have hba:=below_alloc wr (.cells #[.int .i64 l[k].kind,.int .i64 l[k].h,.int .i64 l[k].lba,.int .i64 l[k].len,.slice pp l[k].puts.length pc] 49 (0,0))
    obtain ⟨wx,hwx⟩:∃ wx,wr.alloc (.cells #[.int .i64 l[k].kind,.int .i64 l[k].h,.int .i64 l[k].lba,.int .i64 l[k].len,.slice pp l[k].puts.length pc] 49 (0,0))=wx:=⟨_,rfl⟩
    obtain ⟨D,hD⟩:∃ D,wr.heap.size=D:=⟨_,rfl⟩
    rw [OL_app,hwx,hD] at hsx
    rw [hwx] at hba
    have hbx:=Below.up hba (below_drewN (Below.refl wx.heap.size wx) 1)
    have HSX:Hid (Sep W (OL L x (sdItems p d st c (addOps s i (l.take k))++[BoxA D #[.int .i64 l[k].kind,.int .i64 l[k].h,.int .i64 l[k].lba,.int .i64 l[k].len,.slice pp l[k].puts.length pc] 49])) wx.drew):=hsx.up (below_drewN (Below.refl wx.heap.size wx) 1)
    have HOW:=Lib.hid (sdOwn G l[k].kind l[k].h l[k].lba l[k].len _ l[k].puts wx.drew (hdG.below hbx) (hpu.up hbx) hb1 hb2)
    obtain ⟨F,hF,_⟩:=HSX.out.get (L.length+(4+(4 * i+0))) (A:=ORowA 5 c.cl[i].ov (addOps s i (l.take k)).cl[i].ops.length (opsX (addOps s i (l.take k)).cl[i].ops c.cl[i].pv)) (sdT_get (by rw [sd_item hc hi 0 (by omega)];rfl))
    obtain ⟨op2,oc2,hov,_,_⟩:=ORowP.shape hF
    have hnl:(addOps s i (l.take k)).cl[i].ops.length=on+k:=by
     rw [addOps_cl HS8.out hi _ hsi]
     show (_++l.take k).length=_
     rw [List.length_append,HON.out,List.length_take];omega
    have hbox:wx.drew.heap[p]? = some (.cells (sdRow d st c (addOps s i (l.take k))) 75 (0,0)):=by
     obtain ⟨F,hF,_⟩:=HSX.out.get (L.length+0) (A:=BoxA p (sdRow d st c (addOps s i (l.take k))) 75) (sdT_get (by rw [sd_head 0 (by omega)];rfl))
     exact hF.2
    have c0:wx.drew.cell? ⟨p,2+i * 4,none⟩=some (.slice op2 (on+k) oc2):=by
     have:=sdRow_get (d:=d) (st:=st) hc.toSd8 hi 0 (by omega)
     rw [cell_row hbox]
     rw [Nat.add_zero] at this
     rw [this,← hnl,← hov];rfl
    obtain ⟨⟨e0,e1,e2,e3,e4⟩,_⟩:=box5 HSX.out (i:=L.length+36) (by rw [OL_get,List.getElem?_append_right (by rw [sd_len hc];exact Nat.le_refl _),sd_len hc];rfl)
    have HHOV:=Lib.hid hov
    have HNL:=Lib.hid hnl
    have HI4:=Lib.hid qI
    have HST:=Lib.hid (addOps_step HS8.out hi l hlt hsi)
    have hkl:(k:Int) < (l.length:Int):=by omega
    generalize hok:l[k]=ok at *
    have HOK:=Lib.hid hok
    clear hR hdG h4 hGb hpu hsx hba hbx hF hbox hb1 hb2 hov hnl qI HS hok
    go_upto_region 9 with fail
    try rw [hwx]
    try rw [hD]
    clear hwx hD q0 q1 q2 q3 q4
    refine wp_regionH (fun W=>W.cell? ⟨p,2+i * 4,none⟩=some (.slice op2 (on+k) oc2)∧W.cell? ⟨D,0,none⟩=some (.int .i64 ok.kind)∧W.cell? ⟨D,1,none⟩=some (.int .i64 ok.h)∧W.cell? ⟨D,2,none⟩=some (.int .i64 ok.lba)∧W.cell? ⟨D,3,none⟩=some (.int .i64 ok.len)∧W.cell? ⟨D,4,none⟩=some (.slice pp ok.puts.length pc)) (n:=12) (by kernel_rfl) (by kernel_rfl) ?_
    generalize wx.drew=wd at *
    refine wpH.tk 0 ?_
    refine wpH.tk 1 ?_
    refine wpH.tk 2 ?_
    refine wpH.tk 3 ?_
    refine wpH.tk 4 ?_ (hy:=by intro W hW;have hld0:=hW.1;go_simp;try with_reducible rfl)
    refine wpH.tk 5 ?_ (hy:=by intro W hW;have hld0:=hW.2.1;have hld1:=hW.2.2.1;have hld2:=hW.2.2.2.1;have hld3:=hW.2.2.2.2.1;have hld4:=hW.2.2.2.2.2;go_simp;try with_reducible rfl)
    refine wpH.alone 6 rfl (by kernel_rfl) (by kernel_rfl) ⟨c0,e0,e1,e2,e3,e4⟩ (fun K hK=>?_)
    go_simp
    go_at_call 29
    refine (HOW.out).mono ?_
    rintro e w5 ⟨pv2,rfl,hpu2,hb5⟩
    obtain ⟨pp2,m2,pc2,rfl⟩:∃ pp2 m2 pc2,pv2=.slice pp2 m2 pc2:=by obtain ⟨pp2,pc2,e,_⟩:=hpu2;exact ⟨pp2,_,pc2,e⟩
    have hs6:=Go.Proofs.Sep.putk_new HSX.out (L.length+3) (sdT_get (by rw [sd_head 3 (by omega)];rfl)) hb5 hpu2
    rw [sdT_set (by rw [sd_len hc];omega)] at hs6
    have hc6:SdOk { c with ps:=c.ps++[(.slice pp2 m2 pc2,ok.puts)] } (addOps s i (l.take k)):=sdOk_ps hc fun q hq=>List.mem_append_left _ hq
    have hs6':Sep W (OL L x (sdItems p d st { c with ps:=c.ps++[(.slice pp2 m2 pc2,ok.puts)] } (addOps s i (l.take k))++[BoxA D #[.int .i64 ok.kind,.int .i64 ok.h,.int .i64 ok.lba,.int .i64 ok.len,.slice pp ok.puts.length pc] 49])) w5:=hs6
    have hol2:(addOps s i (l.take k)).cl[i].ops.length≤1000000:=by rw [HNL.out];omega
    obtain ⟨p7,cap7,w7,hr7,hS7⟩:=Go.Proofs.Sep.opush hs6' (L.length+(4+(4 * i+0))) (sdT_get (by rw [sd_item hc6 hi 0 (by omega)];rfl)) ok.kind ok.h ok.lba ok.len pp2 m2 pc2 hol2
    rw [sdT_set (by rw [sd_len hc6];omega)] at hS7
    have hbox7:w7.heap[p]? = some (.cells (sdRow d st { c with ps:=c.ps++[(.slice pp2 m2 pc2,ok.puts)] } (addOps s i (l.take k))) 75 (0,0)):=by
     obtain ⟨F,hF,_⟩:=hS7.get (L.length+0) (A:=BoxA p (sdRow d st { c with ps:=c.ps++[(.slice pp2 m2 pc2,ok.puts)] } (addOps s i (l.take k))) 75) (sdT_get (by rw [List.getElem?_set_ne (by omega),sd_head 0 (by omega)];rfl))
     exact hF.2
    have k0:=cell_up hb5 c0
    have k1:=cell_up hb5 e0
    have k2:=cell_up hb5 e1
    have k3:=cell_up hb5 e2
    have k4:=cell_up hb5 e3
    have k5:=cell_up hb5 e4
    have hba6:=below_alloc w5 (.cells #[.int .i64 ok.kind,.int .i64 ok.h,.int .i64 ok.lba,.int .i64 ok.len,.slice pp2 m2 pc2] 49 (0,0))
    have m0:=cell_up hba6 k0
    have m1:=cell_up hba6 k1
    have m2':=cell_up hba6 k2
    have m3:=cell_up hba6 k3
    have m4:=cell_up hba6 k4
    have m5:=cell_up hba6 k5
    obtain ⟨⟨n1,n2,n3,n4,n5⟩,_⟩:=box5 hS7 (i:=L.length+36) (by rw [OL_get,List.getElem?_append_right (by rw [List.length_set,sd_len hc6];exact Nat.le_refl _),List.length_set,sd_len hc6];rfl)
    have n0:w7.cell? ⟨p,2+i * 4,none⟩=some (.slice op2 (on+k) oc2):=by
     have:=sdRow_get (d:=d) (st:=st) hc6.toSd8 hi 0 (by omega)
     rw [cell_row hbox7]
     rw [Nat.add_zero] at this
     rw [this,← HNL.out,← HHOV.out];rfl
    have nf:w7.frozen? ⟨p,2+i * 4,none⟩=false:=fz_row hbox7 _
    have hs9:=sd_commit hc6 hi 0 (by omega) _ hS7 { c.cl[i] with ov:=.slice p7 ((addOps s i (l.take k)).cl[i].ops.length+1) cap7,pv:=c.cl[i].pv++[.slice pp2 m2 pc2] } { (addOps s i (l.take k)).cl[i] with ops:=(addOps s i (l.take k)).cl[i].ops++[ok] } (by
     show [ORowA 5 _ ((addOps s i (l.take k)).cl[i].ops++[ok]).length (opsX ((addOps s i (l.take k)).cl[i].ops++[ok]) (c.cl[i].pv++[.slice pp2 m2 pc2])),_,_,_]=_
     rw [List.length_append,opsX_snoc (hc.cl i hci hsi).pl];rfl) 0 (by omega) (.slice p7 ((addOps s i (l.take k)).cl[i].ops.length+1) cap7) rfl
    have hs10:=sdT_drop hs9
    have hst:=HST.out
    have hc10:=sdOk_push hc hi ok HI4.out (by rw [HNL.out];omega) (.slice p7 ((addOps s i (l.take k)).cl[i].ops.length+1) cap7) (.slice pp2 m2 pc2)
    rw [hst] at hs10 hc10
    rw [HNL.out] at hs10 hc10 hr7
    rw [Nat.add_zero] at hs10
    have hov2:=HHOV.out
    rw [HNL.out] at hov2
    change (Builtin.append_ #[29,29] 29 #[c.cl[i].ov,_]).run _ _=_ at hr7
    rw [hov2] at hr7
    have HS10:=Lib.hid hs10
    have HC10:=Lib.hid hc10
    clear hs6 hs6' hS7 hbox7 hba6 hs9 hs10 hst hc10 hov2 hpu2 hb5 HSX HOW HST HI4 hol2
    try go_simp
    refine hK _ _ ?_
    clear hK K
    refine wpH.alone 7 rfl (by kernel_rfl) (by kernel_rfl) ⟨k0,k1,k2,k3,k4,k5⟩ (fun K hK=>?_)
    go_simp
    try go_simp
    refine hK _ _ ?_
    clear hK K
    refine wpH.alone 8 rfl (by kernel_rfl) (by kernel_rfl) ⟨m0,m1,m2',m3,m4,m5⟩ (fun K hK=>?_)
    refine wp_append_run (v:=.slice op2 (on+k) oc2) (u:=.slice (some ⟨w5.heap.size,0,none⟩) 1 1) (.tmp 36) (.tmp 39) 29 rfl ?_ ?_ hr7 ?_
    ·go_simp
    ·go_simp
    try go_simp
    refine hK _ _ ?_
    clear hK K
    refine wpH.tk 9 ?_
    refine wpH.tk 10 ?_
    refine wpH.alone 11 rfl (by kernel_rfl) (by kernel_rfl) ⟨n0,n1,n2,n3,n4,n5⟩ (fun K hK=>?_)
    go_simp
    try go_simp
    refine hK _ _ ?_
    clear hK K
    refine wpH.done (by kernel_rfl) (by kernel_rfl) ?_
    clear hr7 c0 e0 e1 e2 e3 e4 k0 k1 k2 k3 k4 k5 m0 m1 m2' m3 m4 m5 n0 n1 n2 n3 n4 n5 nf
    generalize w7.setCell ⟨p,2+i * 4,none⟩ (.slice p7 (on+k+1) cap7)=w9 at *
    go_wp2_with fail
    go_roundw
    case rel=>exact ⟨k+1,_,by omega,by go_num,HC10,HS10⟩
    case measure=>simp [intOf];omega
end
end Go.Proofs
namespace Go.Proofs
open Go.RowKit Sc
def clAt (s:SdS) (i:Nat):ClS:=s.cl[i]?.getD ⟨[],[],0,false⟩
def setCl (s:SdS) (i:Nat) (q:ClS):SdS:={ s with cl:=s.cl.set i q }
def begSd (s:SdS) (S:MgS) (i:Nat):SdS :=
 if begC S=0 then { setCl s i { clAt s i with bs:=(clAt s i).bs++[s.bg.length] } with bg:=s.bg++[⟨begH S,s.ev,0⟩] } else s
theorem clAt_get {s:SdS} (hs:s.cl.length=8) {i:Nat} (hi:i < 8):clAt s i=s.cl[i]'(by omega):=by
 unfold clAt;rw [List.getElem?_eq_getElem (by omega)];rfl
theorem Sep.absorb {W w:World} {L:List Asn} (h:Sep W L w) (i j:Nat) (hij:i≠j) {A B:Asn} (C:Asn) (hi:L[i]? = some A) (hj:L[j]? = some B) (hC:∀ F G,A.P F w→B.P G w→C.P (fun k=>F k∨G k) w):Sep W ((L.set i C).set j TrueA) w:=by
 obtain ⟨hg,Fs,h1,h2,h3⟩:=h
 have hil:=(List.getElem?_eq_some_iff.1 hi).1
 refine ⟨hg,fun q k=>if q=i then (Fs i k∨Fs j k) else if q=j then False else Fs q k,?_,?_,?_⟩
 ·intro q k hk
  by_cases hqi:q=i
  ·simp only [hqi,if_true] at hk
   rcases hk with hk | hk
   ·exact h1 i k hk
   ·exact h1 j k hk
  ·by_cases hqj:q=j
   ·simp [hqi,hqj,Ne.symm hij] at hk
   ·simp only [hqi,hqj,if_false] at hk;exact h1 q k hk
 ·intro q q' k hqq hk hk'
  by_cases hqi:q=i
  ·have hq'i:¬ q'=i:=fun e=>hqq (hqi.trans e.symm)
   by_cases hq'j:q'=j
   ·simp [hq'j,Ne.symm hij] at hk'
   ·simp only [hqi,if_true,hq'i,hq'j,if_false] at hk hk'
    rcases hk with hk | hk
    ·exact h2 i q' k (fun e=>hq'i e.symm) hk hk'
    ·exact h2 j q' k (fun e=>hq'j e.symm) hk hk'
  ·by_cases hqj:q=j
   ·simp [hqj,Ne.symm hij] at hk
   ·simp only [hqi,hqj,if_false] at hk
    by_cases hq'i:q'=i
    ·simp only [hq'i,if_true] at hk'
     rcases hk' with hk' | hk'
     ·exact h2 q i k hqi hk hk'
     ·exact h2 q j k hqj hk hk'
    ·by_cases hq'j:q'=j
     ·simp [hq'j,Ne.symm hij] at hk'
     ·simp only [hq'i,hq'j,if_false] at hk'
      exact h2 q q' k hqq hk hk'
 ·intro q D hD
  by_cases hqj:q=j
  ·subst hqj
   rw [List.getElem?_set_self (by rw [List.length_set];exact (List.getElem?_eq_some_iff.1 hj).1)] at hD
   cases hD;trivial
  ·rw [List.getElem?_set_ne (fun e=>hqj e.symm)] at hD
   by_cases hqi:q=i
   ·subst hqi
    rw [List.getElem?_set_self hil] at hD
    cases hD
    have e:(fun k=>if q=q then (Fs q k∨Fs j k) else if q=j then False else Fs q k)=fun k=>Fs q k∨Fs j k:=by funext k;simp
    show C.P (fun k=>if q=q then (Fs q k∨Fs j k) else if q=j then False else Fs q k) w
    rw [e]
    exact hC _ _ (h3 q A hi) (h3 j B hj)
   ·rw [List.getElem?_set_ne (fun e=>hqi e.symm)] at hD
    have e:(fun k=>if q=i then (Fs i k∨Fs j k) else if q=j then False else Fs q k)=Fs q:=by funext k;simp [hqi,hqj]
    show D.P (fun k=>if q=i then (Fs i k∨Fs j k) else if q=j then False else Fs q k) w
    rw [e];exact h3 q D hD
theorem OL_setOld {L Ls:List Asn} {x j:Nat} {A:Asn} (hj:j < L.length) (hne:j≠x):(OL L x Ls).set j A=OL (L.set j A) x Ls:=by
 unfold OL
 rw [List.set_append_left _ _ (by rw [List.length_set];exact hj),List.set_comm _ _ (Ne.symm hne)]
theorem infoPtrB:(Tryz.prog.info? 76).map (fun i=>(i.zero,i.size,i.bytes))=some (some (.pointer none),1,8):=by kernel_rfl
theorem Sep.ppush {W w:World} {L:List Asn} (h:Sep W L w) (i:Nat) {n:Nat} {v:Value} {xs:List Value} (hi:L[i]? = some (ORowA 1 v n xs)) (b:Nat) (T:TypeId) (hn:n≤1000000) :
  ∃ p' cap w',(Builtin.append_ #[69,69] 69 #[v,.slice (some ⟨w.heap.size,0,none⟩) 1 1]).run Tryz.prog (w.alloc (.cells #[pt b] T (0,0)))=.ok (.slice p' (n+1) cap) w'∧Sep W (L.set i (ORowA 1 (.slice p' (n+1) cap) (n+1) (xs++[pt b]))) w':=by
 obtain ⟨i0,hi0,hz0,hz1,hz2⟩:=info_parts infoPtrB
 obtain ⟨v',w',hr,hS⟩:=Sc.Sep.orow_push (P:=Tryz.prog) h i hi (below_alloc w (.cells #[pt b] T (0,0))) 69 69 76 i0 _ 8 Tryz.underlying69 hi0 hz0 hz1 hz2 rfl (by decide) ⟨w.heap.size,0,none⟩ 1 1 [pt b] rfl (fun j u hu=>by
  rw [addr_addO,Nat.zero_add,cell_row (heap_alloc_new w _)];simpa using hu) (by simp [Value.oneCell']) (by decide) (by unfold maxLen;omega) (by omega)
 obtain ⟨F,hF,_⟩:=hS.get i (List.getElem?_set_self (List.getElem?_eq_some_iff.1 hi).1)
 obtain ⟨p',cap,rfl,_⟩:=ORowP.shape hF
 exact ⟨p',cap,w',hr,hS⟩
end Go.Proofs
namespace Go.Proofs
open Go.RowKit Sc
section
variable {W w:World} {L T:List Asn} {x p d st:Nat} {s:SdS} {c:SdC}
theorem sdT_box (h:Sep W (OL L x (sdItems p d st c s++T)) w):w.heap[p]? = some (.cells (sdRow d st c s) 75 (0,0)):=by
 obtain ⟨F,hF,_⟩:=h.get (L.length+0) (A:=BoxA p (sdRow d st c s) 75) (sdT_get (by rw [sd_head 0 (by omega)];rfl))
 exact hF.2
theorem sdT_cells (h:Sep W (OL L x (sdItems p d st c s++T)) w):w.cell? ⟨p,0,none⟩=some (pt d)∧w.cell? ⟨p,1,none⟩=some (pt st):=by
 rw [cell_row (sdT_box h),cell_row (sdT_box h)]
 unfold sdRow
 exact ⟨by rw [List.getElem?_toArray];rfl,by rw [List.getElem?_toArray];rfl⟩
theorem sdT_all (h:Sep W (OL L x (sdItems p d st c s++T)) w) (hc:Sd8 c s):w.cell? ⟨p,34,none⟩=some c.av∧w.cell? ⟨p,35,none⟩=some (.int .i64 s.ev):=by
 rw [cell_row (sdT_box h),cell_row (sdT_box h)]
 exact sdRow_all hc
theorem sdT_cl (h:Sep W (OL L x (sdItems p d st c s++T)) w) (hc:Sd8 c s) {i:Nat} (hi:i < 8) (j:Nat) (hj:j < 4):w.cell? ⟨p,2+i * 4+j,none⟩=(clRow (c.cl[i]'(by rw [hc.c8];exact hi)) (s.cl[i]'(by rw [hc.s8];exact hi)))[j]? := by
 rw [cell_row (sdT_box h),sdRow_get hc hi j hj]
theorem sdT_old {j:Nat} (hj:j < L.length) (hne:j≠x) {Ls:List Asn}:(OL L x Ls)[j]? = L[j]? := OL_old hj hne
theorem sdT_ix {k:Nat} (hc:Sd8 c s) {Ls:List Asn} (hl:Ls.length=36):(OL L x (Ls++T))[L.length+(36+k)]? = T[k]? := by
 rw [OL_get,List.getElem?_append_right (by omega),hl,Nat.add_sub_cancel_left]
theorem sdT_setT {k:Nat} {Ls:List Asn} (hl:Ls.length=36) (A:Asn):(OL L x (Ls++T)).set (L.length+(36+k)) A=OL L x (Ls++T.set k A):=by
 rw [OL_set,List.set_append_right _ _ (by omega),hl,Nat.add_sub_cancel_left]
theorem sdOk_begin (hc:SdOk c s) {i:Nat} (hi:i < 8) (D:Nat) (hD:D ∉ c.bb) (bv av:Value) (b:BgS) (hb:1≤b.h) :
  SdOk { c with cl:=c.cl.set i { (c.cl[i]'(by rw [hc.c8];exact hi)) with bv:=bv,bb:=(c.cl[i]'(by rw [hc.c8];exact hi)).bb++[D] },av:=av,bb:=c.bb++[D] }
   { s with cl:=s.cl.set i { (s.cl[i]'(by rw [hc.s8];exact hi)) with bs:=(s.cl[i]'(by rw [hc.s8];exact hi)).bs++[s.bg.length] },bg:=s.bg++[b] }:=by
 have hget:∀ j,j < s.bg.length→(c.bb++[D])[j]? = c.bb[j]? := fun j hj=>List.getElem?_append_left (by rw [hc.bl];exact hj)
 refine ⟨⟨by show (c.cl.set i _).length=8;rw [List.length_set];exact hc.c8,by show (s.cl.set i _).length=8;rw [List.length_set];exact hc.s8⟩,?_,?_,fun j h h'=>?_,fun y hy=>?_⟩
 ·show (c.bb++[D]).length=(s.bg++[b]).length
  rw [List.length_append,List.length_append,hc.bl];rfl
 ·show (c.bb++[D]).Nodup
  rw [List.nodup_append]
  exact ⟨hc.nd,by simp,fun a ha e he h=>hD (by rw [List.mem_singleton.1 he] at h;exact h ▸ ha)⟩
 ·show ClOk _ _ ((c.cl.set i _)[j]'h) ((s.cl.set i _)[j]'h')
  by_cases hji:i=j
  ·subst hji
   rw [List.getElem_set_self,List.getElem_set_self]
   have hcl:=hc.cl i (by rw [hc.c8];exact hi) (by rw [hc.s8];exact hi)
   refine ⟨hcl.pl,hcl.pm,hcl.oi,hcl.ol,?_,fun q hq=>?_,by show (_++[s.bg.length]).length≤(s.bg++[b]).length;rw [List.length_append,List.length_append];exact Nat.add_le_add_right hcl.bq _⟩
   ·show (_++[D]).length=(_++[s.bg.length]).length
    rw [List.length_append,List.length_append,hcl.bl];rfl
   ·show ((_++[s.bg.length])[q]'hq) < (s.bg++[b]).length∧(_++[D])[q]? = (c.bb++[D])[(_++[s.bg.length])[q]'hq]?
    by_cases hql:q < (s.cl[i]'(by rw [hc.s8];exact hi)).bs.length
    ·obtain ⟨q1,q2⟩:=hcl.bm q hql
     rw [List.getElem_append_left hql,List.getElem?_append_left (by rw [hcl.bl];exact hql),hget _ q1,q2]
     exact ⟨by rw [List.length_append];omega,rfl⟩
    ·have hqe:q=(s.cl[i]'(by rw [hc.s8];exact hi)).bs.length:=by
      have h2:q < ((s.cl[i]'(by rw [hc.s8];exact hi)).bs++[s.bg.length]).length:=hq
      rw [List.length_append] at h2
      simp at h2
      omega
     subst hqe
     rw [List.getElem_append_right (Nat.le_refl _),List.getElem?_append_right (by rw [hcl.bl];exact Nat.le_refl _),hcl.bl]
     simp only [Nat.sub_self,List.getElem_cons_zero]
     exact ⟨by rw [List.length_append];simp,by rw [List.getElem?_append_right (by rw [hc.bl];exact Nat.le_refl _),hc.bl,Nat.sub_self]⟩
  ·rw [List.getElem_set_ne hji,List.getElem_set_ne hji]
   have hcl:=hc.cl j (by simpa using h) (by simpa using h')
   refine ⟨hcl.pl,hcl.pm,hcl.oi,hcl.ol,hcl.bl,fun q hq=>?_,by have:=hcl.bq;show _≤(s.bg++[b]).length;rw [List.length_append];omega⟩
   obtain ⟨q1,q2⟩:=hcl.bm q hq
   exact ⟨by show _ < (s.bg++[b]).length;rw [List.length_append];omega,by show _=(c.bb++[D])[_]?;rw [hget _ q1];exact q2⟩
 ·rcases List.mem_append.1 hy with hy | hy
  ·exact hc.hb y hy
  ·rw [List.mem_singleton.1 hy];exact hb
set_option maxRecDepth 100000 in
set_option maxHeartbeats 4000000 in
theorem sdBegin (h:Hid (Sep W L w)) (hx:L[x]? = some (SchA p d st s)) {ist jm m sl pos num:Nat} {S:MgS} (hist:L[ist]? = some (StoreB st d m sl pos num)) (hjm:L[jm]? = some (MgrA (pt m) S)) (h1:ist≠x) (h2:jm≠x) (h3:ist≠jm) {N:Nat} (g:MgG N S) (i:Nat) (hi:i < 8) (hbn:s.bg.length≤100000) (a0 a1 a2 a3:Int) :
  Calls Tryz.prog 49 #[pt p,.pointer (some ⟨p,2+i * 4,none⟩),ansV a0 a1 a2 a3 (.slice none 0 0)] w fun e w'=>(∃ b1 b2 b3,e=.returned (ansV a0 b1 b2 b3 (.slice none 0 0)))∧Hid (Sep W ((L.set jm (MgrA (pt m) (begNext S))).set x (SchA p d st (begSd s S i))) w'):=by
 unfold ansV
 obtain ⟨c,hc,hS,hxl⟩:=SchA.opened h.out hx
 have hil:=(List.getElem?_eq_some_iff.1 hist).1
 have hml:=(List.getElem?_eq_some_iff.1 hjm).1
 have hs1:=Go.Proofs.Sep.boxT hS #[.int .i64 a0,.int .i64 a1,.int .i64 a2,.int .i64 a3,.slice none 0 0] 54
 have hs2:=Go.Proofs.Sep.boxT hs1 #[.int .i64 0,.int .i64 0,.int .i64 0,.int .i64 0,.slice none 0 0] 54
 have hz:(w.alloc (.cells #[.int .i64 a0,.int .i64 a1,.int .i64 a2,.int .i64 a3,.slice none 0 0] 54 (0,0))).heap.size=w.heap.size+1:=by simp
 rw [hz,List.append_assoc,OL_app] at hs2
 obtain ⟨wa,hwa⟩:∃ wa,(w.alloc (.cells #[.int .i64 a0,.int .i64 a1,.int .i64 a2,.int .i64 a3,.slice none 0 0] 54 (0,0))).alloc (.cells #[.int .i64 0,.int .i64 0,.int .i64 0,.int .i64 0,.slice none 0 0] 54 (0,0))=wa:=⟨_,rfl⟩
 obtain ⟨B,hB⟩:∃ B,w.heap.size=B:=⟨_,rfl⟩
 obtain ⟨R,hR⟩:∃ R,B+1=R:=⟨_,rfl⟩
 rw [hwa,hB,hR] at hs2
 have HS2:Hid (Sep W (OL L x (sdItems p d st c s++[BoxA B #[.int .i64 a0,.int .i64 a1,.int .i64 a2,.int .i64 a3,.slice none 0 0] 54,BoxA R #[.int .i64 0,.int .i64 0,.int .i64 0,.int .i64 0,.slice none 0 0] 54])) wa):=hs2
 have hST:(OL L x (sdItems p d st c s++[BoxA B #[.int .i64 a0,.int .i64 a1,.int .i64 a2,.int .i64 a3,.slice none 0 0] 54,BoxA R #[.int .i64 0,.int .i64 0,.int .i64 0,.int .i64 0,.slice none 0 0] 54]))[ist]? = some (StoreB st d m sl pos num):=by rw [sdT_old hil h1];exact hist
 have hMG:(OL L x (sdItems p d st c s++[BoxA B #[.int .i64 a0,.int .i64 a1,.int .i64 a2,.int .i64 a3,.slice none 0 0] 54,BoxA R #[.int .i64 0,.int .i64 0,.int .i64 0,.int .i64 0,.slice none 0 0] 54]))[jm]? = some (MgrA (pt m) S):=by rw [sdT_old hml h2];exact hjm
 have HLA:=Lib.hid (stLast HS2.out ist hST (mgLast_sep HS2 jm hMG) (fun e w' h=>⟨_,h.1⟩))
 have HBE:=Lib.hid (stBegin HS2.out ist hST (mgBegin_sep HS2 jm hMG g) (fun e w' h=>⟨_,_,h.1⟩))
 have c1:=(sdT_cells HS2.out).2
 have HC:Hid (SdOk c s):=hc
 have HG:Hid (MgG N S):=g
 have HXL:=Lib.hid hxl
 have HML:=Lib.hid hml
 have H2:=Lib.hid h2
 clear hs1 hs2 hz h hx hist hjm hS hST hMG hc g hxl h1 h3
 go_enter Tryz.func49,Tryz.ntmps49
 go_wp2_with fail
 try rw [hwa]
 try rw [hB]
 try rw [hR]
 clear hwa hB hR
 refine (HLA.out).mono ?_
 rintro e w1 ⟨rfl,rfl⟩
 clear HLA
 go_wp2_with fail
 refine (HBE.out).mono ?_
 rintro e w3 ⟨rfl,hS3⟩
 have hs3:=hS3.out
 rw [OL_setOld HML.out H2.out] at hs3
 have HL1:Hid (x < (L.set jm (MgrA (pt m) (begNext S))).length):=by show _ < _;rw [List.length_set];exact HXL.out
 obtain ⟨L1,hL1⟩:∃ L1,L.set jm (MgrA (pt m) (begNext S))=L1:=⟨_,rfl⟩
 rw [hL1] at hs3 HL1
 have HLE:=Lib.hid hL1
 clear hL1
 clear HBE HS2 hS3 c1 hil hml HML H2 HXL
 have hc8:=HC.out.toSd8
 have hl36:=sd_len (p:=p) (d:=d) (st:=st) hc8
 obtain ⟨⟨b0,b1,b2,b3,b4⟩,⟨f0,f1,f2,f3,f4⟩⟩:=box5 hs3 (i:=L1.length+(36+0)) (by rw [sdT_ix hc8 hl36];rfl)
 have hs4:=(hs3.box_store (L1.length+(36+0)) (by rw [sdT_ix hc8 hl36];rfl) 2 (.int .i64 0))
 rw [sdT_setT hl36] at hs4
 have hs5:=(hs4.box_store (L1.length+(36+0)) (by rw [sdT_ix hc8 hl36];rfl) 1 (.int .i64 (begC S)))
 rw [sdT_setT hl36] at hs5
 obtain ⟨bc,hbc⟩:∃ bc,begC S=bc:=⟨_,rfl⟩
 obtain ⟨bh,hbh⟩:∃ bh,begH S=bh:=⟨_,rfl⟩
 rw [hbc] at hs5 ⊢
 rw [hbh]
 have HS5:Hid (Sep W (OL L1 x (sdItems p d st c s++[BoxA B #[.int .i64 a0,.int .i64 bc,.int .i64 0,.int .i64 a3,.slice none 0 0] 54,BoxA R #[.int .i64 0,.int .i64 0,.int .i64 0,.int .i64 0,.slice none 0 0] 54])) ((w3.setCell ⟨B,2,none⟩ (.int .i64 0)).setCell ⟨B,1,none⟩ (.int .i64 bc))):=hs5
 clear hs3 hs4 hs5
 go_upto_region 4 with fail
 clear b0 b1 b2 b3 b4 f0 f1 f2 f3 f4
 generalize (w3.setCell ⟨B,2,none⟩ (.int .i64 0)).setCell ⟨B,1,none⟩ (.int .i64 bc)=w4 at *
 have HBC:=Lib.hid hbc
 have HBH:=Lib.hid hbh
 clear hbc hbh
 by_cases hb0:bc=0
 case neg =>
  obtain ⟨⟨b0,b1,b2,b3,b4⟩,_⟩:=box5 HS5.out (i:=L1.length+(36+0)) (by rw [sdT_ix hc8 hl36];rfl)
  obtain ⟨⟨r0,r1,r2,r3,r4⟩,⟨f0,f1,f2,f3,f4⟩⟩:=box5 HS5.out (i:=L1.length+(36+1)) (by rw [sdT_ix hc8 hl36];rfl)
  have hs6:=box_fill5 HS5.out (i:=L1.length+(36+1)) (by rw [sdT_ix hc8 hl36];rfl) (.int .i64 a0) (.int .i64 bc) (.int .i64 0) (.int .i64 a3) (.slice none 0 0)
  rw [sdT_setT hl36] at hs6
  obtain ⟨F,hF,_⟩:=hs6.get (L1.length+(36+1)) (A:=BoxA R #[.int .i64 a0,.int .i64 bc,.int .i64 0,.int .i64 a3,.slice none 0 0] 54) (by rw [sdT_ix hc8 hl36];rfl)
  have HF:=Lib.hid hF.2
  have hbs:begSd s S i=s:=by unfold begSd;rw [HBC.out,if_neg hb0]
  have HBS:=Lib.hid hbs
  have HS6:=Lib.hid hs6
  clear hbs
  clear hs6 hF HS5 hc8 hl36
  go_wp2_with fail
  (try simp only [Exit.inBlock,Exit.then])
  refine ret_cell_one rfl (b:=R) (t:=54) (fr:=(0,0)) rfl (cs:=#[.int .i64 a0,.int .i64 bc,.int .i64 0,.int .i64 a3,.slice none 0 0]) HF.out (Tryz.underlying54) rfl (by kernel_rfl) rfl ⟨⟨bc,0,a3,rfl⟩,by show Sep _ _ _;rw [HBS.out,HLE.out];exact SchA.closed (sdT_drop HS6.out) HL1.out HC.out⟩
 case pos =>
  subst hb0
  have hc:=HC.out
  have hci:i < c.cl.length:=by rw [hc.c8];exact hi
  have hsi:i < s.cl.length:=by rw [hc.s8];exact hi
  have hbw:=below_alloc w4 (.cells (bgRow ⟨bh,s.ev,0⟩) 79 (0,0))
  have hs6:=Go.Proofs.Sep.boxT HS5.out (bgRow ⟨bh,s.ev,0⟩) 79
  have ce:=(sdT_all HS5.out hc8).2
  obtain ⟨w5,hw5⟩:∃ w5,w4.alloc (.cells (bgRow ⟨bh,s.ev,0⟩) 79 (0,0))=w5:=⟨_,rfl⟩
  obtain ⟨D,hD⟩:∃ D,w4.heap.size=D:=⟨_,rfl⟩
  have hDn:D ∉ c.bb:=fun hm=>by
   obtain ⟨j,hj,e⟩:=List.mem_iff_getElem.1 hm
   obtain ⟨F,hF,hFd⟩:=HS5.out.get (L1.length+2) (A:=BegsA c.bb s.bg) (sdT_get (by rw [sd_head 2 (by omega)];rfl))
   obtain ⟨b,e1,e2,_⟩:=hF j (by rw [← hc.bl];exact hj)
   rw [List.getElem?_eq_getElem hj,e] at e1
   cases e1
   have:=hFd D e2
   omega
  rw [hw5,hD,OL_app,List.append_assoc] at hs6
  have HS6:Hid (Sep W (OL L1 x (sdItems p d st c s++[BoxA B #[.int .i64 a0,.int .i64 0,.int .i64 0,.int .i64 a3,.slice none 0 0] 54,BoxA R #[.int .i64 0,.int .i64 0,.int .i64 0,.int .i64 0,.slice none 0 0] 54,BoxA D (bgRow ⟨bh,s.ev,0⟩) 79])) w5):=hs6
  have HDN:=Lib.hid hDn
  have hw5':w4.alloc (.cells #[.int .i64 bh,.int .i64 s.ev,.int .i64 0,.int .i64 0,.int .i64 0,.int .i64 0,.int .i64 0,.int .i64 0,.slice none 0 0,.slice none 0 0] 79 (0,0))=w5:=hw5
  clear hs6 hbw HS5 hDn hw5
  go_upto_region 6 with fail
  try rw [hw5']
  try rw [hD]
  clear hw5' hD ce
  -- a.H, a.Time
  obtain ⟨Fb,hFb,_⟩:=HS6.out.get (L1.length+(4+(4 * i+1))) (A:=ORowA 1 c.cl[i].bv s.cl[i].bs.length (c.cl[i].bb.map pt)) (sdT_get (by rw [sd_item hc8 hi 1 (by omega)];rfl))
  obtain ⟨bp,bcp,hbv,_,_⟩:=ORowP.shape hFb
  obtain ⟨bn,hbn2⟩:∃ bn,s.cl[i].bs.length=bn:=⟨_,rfl⟩
  have hbv2:c.cl[i].bv=.slice bp bn bcp:=by rw [hbv,hbn2]
  have cb:w5.cell? ⟨p,2+i * 4+1,none⟩=some (.slice bp bn bcp):=by rw [sdT_cl HS6.out hc8 hi 1 (by omega),← hbv2];rfl
  obtain ⟨⟨b0,b1,b2,b3,b4⟩,⟨f0,f1,f2,f3,f4⟩⟩:=box5 HS6.out (i:=L1.length+(36+0)) (by rw [sdT_ix hc8 hl36];rfl)
  have hs7:=HS6.out.box_store (L1.length+(36+0)) (by rw [sdT_ix hc8 hl36];rfl) 2 (.int .i64 bn)
  rw [sdT_setT hl36] at hs7
  have hs8:=hs7.box_store (L1.length+(36+0)) (by rw [sdT_ix hc8 hl36];rfl) 3 (.int .i64 S.last)
  rw [sdT_setT hl36] at hs8
  have HS8:Hid (Sep W (OL L1 x (sdItems p d st c s++[BoxA B #[.int .i64 a0,.int .i64 0,.int .i64 bn,.int .i64 S.last,.slice none 0 0] 54,BoxA R #[.int .i64 0,.int .i64 0,.int .i64 0,.int .i64 0,.slice none 0 0] 54,BoxA D (bgRow ⟨bh,s.ev,0⟩) 79])) ((w5.setCell ⟨B,2,none⟩ (.int .i64 bn)).setCell ⟨B,3,none⟩ (.int .i64 S.last))):=hs8
  have HBV:=Lib.hid hbv2
  have HBN:=Lib.hid hbn2
  have hbn5:bn≤1000000:=by have:=(hc.cl i hci hsi).bq;omega
  clear hs7 hs8 HS6 hFb hbv hbv2 hbn2
  go_upto_region 7 with fail
  clear b0 b1 b2 b3 b4 f0 f1 f2 f3 f4 cb
  generalize (w5.setCell ⟨B,2,none⟩ (.int .i64 bn)).setCell ⟨B,3,none⟩ (.int .i64 S.last)=w6 at *
  -- c.begins
  have cb:w6.cell? ⟨p,2+i * 4+1,none⟩=some (.slice bp bn bcp):=by rw [sdT_cl HS8.out hc8 hi 1 (by omega),← HBV.out];rfl
  obtain ⟨p7,cap7,w7,hr7,hS7⟩:=Go.Proofs.Sep.ppush HS8.out (L1.length+(4+(4 * i+1))) (sdT_get (by rw [sd_item hc8 hi 1 (by omega)];rfl)) D 76 (by rw [HBN.out];exact hbn5)
  rw [sdT_set (by rw [hl36];omega)] at hS7
  change (Builtin.append_ #[69,69] 69 #[c.cl[i].bv,_]).run _ _=.ok (.slice p7 (s.cl[i].bs.length+1) cap7) _ at hr7
  have hs9:=sd_commit hc8 hi 1 (by omega) _ hS7 { c.cl[i] with bv:=.slice p7 (s.cl[i].bs.length+1) cap7,bb:=c.cl[i].bb++[D] } { s.cl[i] with bs:=s.cl[i].bs++[s.bg.length] } (by
   show [_,ORowA 1 _ (s.cl[i].bs++[s.bg.length]).length ((c.cl[i].bb++[D]).map pt),_,_]=_
   rw [List.length_append,List.map_append];rfl) 1 (by omega) (.slice p7 (s.cl[i].bs.length+1) cap7) rfl
  have hbox7:w7.heap[p]? = some (.cells (sdRow d st c s) 75 (0,0)):=by
   obtain ⟨F,hF,_⟩:=hS7.get (L1.length+0) (A:=BoxA p (sdRow d st c s) 75) (sdT_get (by rw [List.getElem?_set_ne (by omega),sd_head 0 (by omega)];rfl))
   exact hF.2
  have n1:w7.cell? ⟨p,2+i * 4+1,none⟩=some (.slice bp bn bcp):=by rw [cell_row hbox7,sdRow_get hc8 hi 1 (by omega),← HBV.out];rfl
  have nf:w7.frozen? ⟨p,2+i * 4+1,none⟩=false:=fz_row hbox7 _
  rw [HBV.out,HBN.out] at hr7
  rw [HBN.out] at hs9
  have HR7:=Lib.hid hr7
  have HS9:=Lib.hid hs9
  clear hS7 hs9 hbox7 hr7 HS8
  go_upto_region 8 with (at_builtin;refine Lib.wpList_append_run _ rfl _ _ _ _ rfl _ _ rfl rfl _ _ HR7.out ?_)
  clear n1 nf cb
  generalize w7.setCell ⟨p,2+i * 4+1,none⟩ (.slice p7 (bn+1) cap7)=w8 at *
  -- s.all
  have hc9:Sd8 { c with cl:=c.cl.set i { c.cl[i] with bv:=.slice p7 (bn+1) cap7,bb:=c.cl[i].bb++[D] } } { s with cl:=s.cl.set i { s.cl[i] with bs:=s.cl[i].bs++[s.bg.length] } }:=⟨by show (c.cl.set i _).length=8;rw [List.length_set];exact hc.c8,by show (s.cl.set i _).length=8;rw [List.length_set];exact hc.s8⟩
  have hl36':=sd_len (p:=p) (d:=d) (st:=st) hc9
  obtain ⟨Fa,hFa,_⟩:=HS9.out.get (L1.length+1) (A:=ORowA 1 c.av s.bg.length (c.bb.map pt)) (sdT_get (by rw [sd_head 1 (by omega)];rfl))
  obtain ⟨ap,acp,hav,_,_⟩:=ORowP.shape hFa
  have ca:w8.cell? ⟨p,34,none⟩=some (.slice ap s.bg.length acp):=by rw [(sdT_all HS9.out hc9).1,← hav]
  obtain ⟨pa,capa,w10,hr10,hS10⟩:=Go.Proofs.Sep.ppush HS9.out (L1.length+1) (n:=s.bg.length) (v:=c.av) (xs:=c.bb.map pt) (sdT_get (by rw [sd_head 1 (by omega)];rfl)) D 76 (by omega)
  rw [sdT_set (by rw [hl36'];omega)] at hS10
  rw [hav] at hr10
  obtain ⟨c1,hc1⟩:∃ c1,({ c with cl:=c.cl.set i { c.cl[i] with bv:=.slice p7 (bn+1) cap7,bb:=c.cl[i].bb++[D] } }:SdC)=c1:=⟨_,rfl⟩
  obtain ⟨s1,hs1⟩:∃ s1,({ s with cl:=s.cl.set i { s.cl[i] with bs:=s.cl[i].bs++[s.bg.length] } }:SdS)=s1:=⟨_,rfl⟩
  rw [hc1,hs1] at hc9 hl36' hS10
  have h10:((sdItems p d st c1 s1).set 1 (ORowA 1 (.slice pa (s.bg.length+1) capa) (s.bg.length+1) (c.bb.map pt++[pt D])))[0]? = some (BoxA p (sdRow d st c1 s1) 75):=by
   rw [List.getElem?_set_ne (by omega),sd_head 0 (by omega)];rfl
  obtain ⟨F0,hF0,_⟩:=hS10.get (L1.length+0) (A:=BoxA p (sdRow d st c1 s1) 75) (sdT_get h10)
  have n1:w10.cell? ⟨p,34,none⟩=some (.slice ap s.bg.length acp):=by rw [cell_row hF0.2,(sdRow_all hc9).1,← hc1,← hav]
  have nf:w10.frozen? ⟨p,34,none⟩=false:=fz_row hF0.2 34
  have hs11:=hS10.box_store (L1.length+0) (sdT_get h10) 34 (.slice pa (s.bg.length+1) capa)
  rw [sdT_set (by rw [List.length_set,hl36'];omega),sdRow_setAll hc9] at hs11
  have HR10:=Lib.hid hr10
  have HS11:=Lib.hid hs11
  have HHAV:=Lib.hid hav
  clear hs11 hF0 hS10 hr10 hFa HS9 h10 hav
  go_upto_region 9 with (at_builtin;refine Lib.wpList_append_run _ rfl _ _ _ _ rfl _ _ rfl rfl _ _ HR10.out ?_)
  clear n1 nf ca
  generalize w10.setCell ⟨p,34,none⟩ (.slice pa (s.bg.length+1) capa)=w11 at *
  -- what is told
  have hl3:(((sdItems p d st c1 s1).set 1 (ORowA 1 (.slice pa (s.bg.length+1) capa) (s.bg.length+1) (c.bb.map pt++[pt D]))).set 0 (BoxA p (sdRow d st { c1 with av:=.slice pa (s.bg.length+1) capa } s1) 75)).length=36:=by rw [List.length_set,List.length_set,hl36']
  obtain ⟨⟨b0,b1,b2,b3,b4⟩,_⟩:=box5 HS11.out (i:=L1.length+(36+0)) (by rw [sdT_ix hc9 hl3];rfl)
  obtain ⟨⟨r0,r1,r2,r3,r4⟩,⟨f0,f1,f2,f3,f4⟩⟩:=box5 HS11.out (i:=L1.length+(36+1)) (by rw [sdT_ix hc9 hl3];rfl)
  have hs12:=box_fill5 HS11.out (i:=L1.length+(36+1)) (by rw [sdT_ix hc9 hl3];rfl) (.int .i64 a0) (.int .i64 0) (.int .i64 bn) (.int .i64 S.last) (.slice none 0 0)
  rw [sdT_setT hl3] at hs12
  obtain ⟨F,hF,_⟩:=hs12.get (L1.length+(36+1)) (A:=BoxA R #[.int .i64 a0,.int .i64 0,.int .i64 bn,.int .i64 S.last,.slice none 0 0] 54) (by rw [sdT_ix hc9 hl3];rfl)
  have HF:=Lib.hid hF.2
  have hs13:=Go.Proofs.Sep.absorb hs12 (L1.length+2) (L1.length+(36+2)) (by omega) (A:=BegsA c.bb s.bg) (B:=BoxA D (bgRow ⟨bh,s.ev,0⟩) 79) (BegsA (c.bb++[D]) (s.bg++[⟨bh,s.ev,0⟩])) (sdT_get (by rw [List.getElem?_set_ne (by omega),List.getElem?_set_ne (by omega),sd_head 2 (by omega),← hc1,← hs1];rfl)) (by rw [sdT_ix hc9 hl3];rfl) (fun F G hA hB j hj=>by
   by_cases hjl:j < s.bg.length
   ·obtain ⟨b,e1,e2,e3⟩:=hA j hjl
    refine ⟨b,by rw [List.getElem?_append_left (by rw [hc.bl];exact hjl)];exact e1,.inl e2,?_⟩
    rw [List.getElem_append_left hjl];exact e3
   ·have hje:j=s.bg.length:=by rw [List.length_append] at hj;simp at hj;omega
    subst hje
    refine ⟨D,by rw [List.getElem?_append_right (by rw [hc.bl];exact Nat.le_refl _),hc.bl,Nat.sub_self];rfl,.inr hB.1,?_⟩
    rw [List.getElem_append_right (Nat.le_refl _)]
    simp only [Nat.sub_self,List.getElem_cons_zero]
    exact hB.2)
  rw [sdT_set (by rw [hl3];omega),sdT_setT (by rw [List.length_set,hl3])] at hs13
  have hs14:=sdT_drop hs13
  have hbhp:1≤bh:=by
   rw [← HBH.out]
   unfold begH
   rw [HBC.out,if_pos rfl,HG.out.hh]
   omega
  have hc14:=sdOk_begin hc hi D HDN.out (.slice p7 (bn+1) cap7) (.slice pa (s.bg.length+1) capa) ⟨bh,s.ev,0⟩ hbhp
  have hbs:begSd s S i={ s with cl:=s.cl.set i { s.cl[i] with bs:=s.cl[i].bs++[s.bg.length] },bg:=s.bg++[⟨bh,s.ev,0⟩] }:=by
   unfold begSd
   rw [HBC.out,if_pos rfl,HBH.out,clAt_get hc.s8 hi];rfl
  have hs15:Sep W (OL L1 x (sdItems p d st { c with cl:=c.cl.set i { c.cl[i] with bv:=.slice p7 (bn+1) cap7,bb:=c.cl[i].bb++[D] },av:=.slice pa (s.bg.length+1) capa,bb:=c.bb++[D] } { s with cl:=s.cl.set i { s.cl[i] with bs:=s.cl[i].bs++[s.bg.length] },bg:=s.bg++[⟨bh,s.ev,0⟩] })) (((((w11.setCell ⟨R,0,none⟩ (.int .i64 a0)).setCell ⟨R,1,none⟩ (.int .i64 0)).setCell ⟨R,2,none⟩ (.int .i64 bn)).setCell ⟨R,3,none⟩ (.int .i64 S.last)).setCell ⟨R,4,none⟩ (.slice none 0 0)):=by
   have e:sdItems p d st { c with cl:=c.cl.set i { c.cl[i] with bv:=.slice p7 (bn+1) cap7,bb:=c.cl[i].bb++[D] },av:=.slice pa (s.bg.length+1) capa,bb:=c.bb++[D] } { s with cl:=s.cl.set i { s.cl[i] with bs:=s.cl[i].bs++[s.bg.length] },bg:=s.bg++[⟨bh,s.ev,0⟩] }=(((sdItems p d st c1 s1).set 1 (ORowA 1 (.slice pa (s.bg.length+1) capa) (s.bg.length+1) (c.bb.map pt++[pt D]))).set 0 (BoxA p (sdRow d st { c1 with av:=.slice pa (s.bg.length+1) capa } s1) 75)).set 2 (BegsA (c.bb++[D]) (s.bg++[⟨bh,s.ev,0⟩])):=by
    rw [← hc1,← hs1]
    show _ :: ORowA 1 _ (s.bg++[_]).length ((c.bb++[D]).map pt) :: _=_
    rw [List.length_append,List.map_append];rfl
   rw [e];exact hs14
  rw [← hbs] at hs15 hc14
  have HFIN:=Lib.hid (SchA.closed hs15 HL1.out hc14)
  rw [← HLE.out] at HFIN
  clear hs12 hs13 hs14 hs15 hc14 hbs hF HS11 hc9 hl36' hl3 hc1 hs1
  go_wp2_with fail
  (try simp only [Exit.inBlock,Exit.then])
  refine ret_cell_one rfl (b:=R) (t:=54) (fr:=(0,0)) rfl (cs:=#[.int .i64 a0,.int .i64 0,.int .i64 bn,.int .i64 S.last,.slice none 0 0]) HF.out (Tryz.underlying54) rfl (by kernel_rfl) rfl ⟨⟨0,bn,S.last,rfl⟩,HFIN⟩
end
end Go.Proofs
namespace Go.Proofs
open Go.RowKit Sc
def setEn (s:SdS) (j:Nat):SdS:={ s with bg:=s.bg.set j { (s.bg[j]?.getD ⟨0,0,0⟩) with en:=s.ev } }
def bgH (s:SdS) (j:Nat):Int:=(s.bg[j]?.getD ⟨0,0,0⟩).h
def askDo (s:SdS) (S:MgS) (j:Nat):SdS × MgS × Bool:=if (resOf S (bgH s j)).1=2 then (s,S,false) else (setEn s j,S,true)
def comDo (s:SdS) (S:MgS) (i j:Nat):SdS × MgS × Bool :=
 if (clAt s i).asked=true then askDo s S j
 else if cmCode S (bgH s j)=0 then askDo s (cmNext S (bgH s j)) j
 else (if (resOf (cmNext S (bgH s j)) (bgH s j)).1=(resOf S (bgH s j)).1 then s else setEn s j,cmNext S (bgH s j),true)
section
variable {W w:World} {L T:List Asn} {x p d st:Nat} {s:SdS} {c:SdC}
theorem Sep.begs_set (h:Sep W L w) (i:Nat) {bb:List Nat} {bg:List BgS} (hi:L[i]? = some (BegsA bb bg)) (hnd:bb.Nodup) {j b:Nat} (hb:bb[j]? = some b) (hj:j < bg.length) (e:Int):Sep W (L.set i (BegsA bb (bg.set j { bg[j] with en:=e }))) (w.setCell ⟨b,2,none⟩ (.int .i64 e)):=by
 obtain ⟨F,G,hF,_,_,_,_,K⟩:=h.at i hi
 obtain ⟨b',e1,e2,e3⟩:=hF j hj
 rw [hb] at e1
 cases e1
 refine K _ F _ (chg_set w b 2 _ e2) (fun k hk=>.inl hk) fun q hq=>?_
 rw [List.length_set] at hq
 by_cases hqj:j=q
 ·subst hqj
  refine ⟨b,hb,e2,?_⟩
  rw [List.getElem_set_self]
  exact Go.heap_setCell_same w b 2 _ _ _ e3
 ·obtain ⟨b2,q1,q2,q3⟩:=hF q hq
  refine ⟨b2,q1,q2,?_⟩
  rw [List.getElem_set_ne hqj]
  have hne:b2≠b:=fun e=>by
   subst e
   obtain ⟨h1,e1⟩:=List.getElem?_eq_some_iff.1 hb
   obtain ⟨h2,e2⟩:=List.getElem?_eq_some_iff.1 q1
   exact hqj ((List.getElem_inj hnd).1 (e1.trans e2.symm))
  rw [Below.heap_setCell _ _ _ b2 hne]
  exact q3
theorem sdT_beg (h:Sep W (OL L x (sdItems p d st c s++T)) w) (hc:SdOk c s) {j b:Nat} (hb:c.bb[j]? = some b):∃ hj:j < s.bg.length,w.heap[b]? = some (.cells (bgRow s.bg[j]) 79 (0,0)):=by
 obtain ⟨F,hF,_⟩:=h.get (L.length+2) (A:=BegsA c.bb s.bg) (sdT_get (by rw [sd_head 2 (by omega)];rfl))
 have hj:j < s.bg.length:=by rw [← hc.bl];exact (List.getElem?_eq_some_iff.1 hb).1
 obtain ⟨b',h1,_,h3⟩:=hF j hj
 rw [hb] at h1
 cases h1
 exact ⟨hj,h3⟩
theorem sdT_en (h:Sep W (OL L x (sdItems p d st c s++T)) w) (hc:SdOk c s) {j b:Nat} (hb:c.bb[j]? = some b):Sep W (OL L x (sdItems p d st c (setEn s j)++T)) (w.setCell ⟨b,2,none⟩ (.int .i64 s.ev)):=by
 obtain ⟨hj,_⟩:=sdT_beg h hc hb
 have h2:=Go.Proofs.Sep.begs_set h (L.length+2) (sdT_get (by rw [sd_head 2 (by omega)];rfl)) hc.nd hb hj s.ev
 rw [sdT_set (by rw [sd_len hc.toSd8];omega)] at h2
 have e:setEn s j={ s with bg:=s.bg.set j { s.bg[j] with en:=s.ev } }:=by unfold setEn;rw [List.getElem?_eq_getElem hj];rfl
 have e2:sdItems p d st c (setEn s j)=(sdItems p d st c s).set 2 (BegsA c.bb (s.bg.set j { s.bg[j] with en:=s.ev })):=by
  rw [e]
  show _ :: ORowA 1 _ (s.bg.set j _).length _ :: _=_
  rw [List.length_set];rfl
 rw [e2];exact h2
theorem sdOk_en (hc:SdOk c s) {j:Nat} (hj:j < s.bg.length):SdOk c (setEn s j):=by
 refine ⟨⟨hc.c8,hc.s8⟩,by show _=(s.bg.set j _).length;rw [List.length_set];exact hc.bl,hc.nd,fun i h h'=>?_,fun y hy=>?_⟩
 ·have:=hc.cl i h h'
  exact ⟨this.pl,this.pm,this.oi,this.ol,this.bl,fun q hq=>by show _ < (s.bg.set j _).length∧_;rw [List.length_set];exact this.bm q hq,by show _≤(s.bg.set j _).length;rw [List.length_set];exact this.bq⟩
 ·rcases List.mem_or_eq_of_mem_set hy with hy | rfl
  ·exact hc.hb y hy
  ·show 1≤(s.bg[j]?.getD ⟨0,0,0⟩).h
   rw [List.getElem?_eq_getElem hj]
   exact hc.hb _ (List.getElem_mem hj)
end
theorem ret_cell_two {P:Program} {fn:Func} {R:Ending→World→Prop} {a:Act} {w:World} {p u:Tmp} {ty t:TypeId} {b:Nat} {cs:Array Value} {fr:Nat × Nat} {d:TypeDesc} {v:Value}
  (h:fn.results=#[.cell p ty,.tmp u]) (hp:a.tmps.getD p undef=.pointer (some ⟨b,0,none⟩)) (hg:w.heap[b]? = some (.cells cs t fr))
  (hu:P.underlying ty=some d) (hd:(match d with | .struct _ | .array _ _=>true | _=>false)=true) (hi:(P.info? ty).map (·.size)=some cs.size) (hf:a.defers=[]) (hv:a.tmps.getD u undef=v)
  (hR:R (.returned (.tuple #[.agg cs,v])) w):bodyPost P fn R .ret a w:=by
 refine ⟨hf,_,?_,hR⟩
 rw [results_cell_tmp h,hp,hv]
 have h1:(asAddr (.pointer (some ⟨b,0,none⟩))).run P w=.ok ⟨b,0,none⟩ w:=by simp [asAddr]
 rw [h1,Result.andThen_ok,run_loadVar_row w b t ty cs fr d hg hu hd hi,Result.andThen_ok]
end Go.Proofs
namespace Go.Proofs
open Go.RowKit Sc
theorem two_get (T:List Asn) (X Y:Asn):(T++[X,Y])[T.length]? = some X∧(T++[X,Y])[T.length+1]? = some Y:=by
 constructor
 ·rw [List.getElem?_append_right (Nat.le_refl _),Nat.sub_self];rfl
 ·rw [List.getElem?_append_right (by omega),Nat.add_sub_cancel_left];rfl
theorem two_set (T:List Asn) (X Y Z:Asn):(T++[X,Y]).set T.length Z=T++[Z,Y]∧(T++[X,Y]).set (T.length+1) Z=T++[X,Z]:=by
 constructor
 ·rw [List.set_append_right _ _ (Nat.le_refl _),Nat.sub_self];rfl
 ·rw [List.set_append_right _ _ (by omega),Nat.add_sub_cancel_left];rfl
section
variable {W w:World} {L T:List Asn} {x p d st:Nat} {s:SdS} {c:SdC}
theorem sdFacts (h:Sep W (OL L x (sdItems p d st c s++T)) w) (hc:SdOk c s) {j bk:Nat} (hb:c.bb[j]? = some bk):w.cell? ⟨p,1,none⟩=some (pt st)∧w.cell? ⟨bk,0,none⟩=some (.int .i64 (bgH s j))∧(∃ en,w.cell? ⟨bk,2,none⟩=some (.int .i64 en))∧w.frozen? ⟨bk,2,none⟩=false∧w.cell? ⟨p,35,none⟩=some (.int .i64 s.ev):=by
 obtain ⟨hj,hbk⟩:=sdT_beg h hc hb
 refine ⟨(sdT_cells h).2,?_,⟨s.bg[j].en,?_⟩,fz_row hbk 2,(sdT_all h hc.toSd8).2⟩
 ·rw [cell_row hbk]
  unfold bgH
  rw [List.getElem?_eq_getElem hj];rfl
 ·rw [cell_row hbk];rfl
theorem sdB_box (hc:Sd8 c s) {X Y:Asn}:(OL L x (sdItems p d st c s++(T++[X,Y])))[L.length+(36+T.length)]? = some X∧(OL L x (sdItems p d st c s++(T++[X,Y])))[L.length+(36+(T.length+1))]? = some Y:=by
 have hl:=sd_len (p:=p) (d:=d) (st:=st) hc
 rw [sdT_ix hc hl,sdT_ix hc hl]
 exact two_get T X Y
theorem sdB_set (hc:Sd8 c s) {X Y:Asn} (Z:Asn):(OL L x (sdItems p d st c s++(T++[X,Y]))).set (L.length+(36+T.length)) Z=OL L x (sdItems p d st c s++(T++[Z,Y]))∧(OL L x (sdItems p d st c s++(T++[X,Y]))).set (L.length+(36+(T.length+1))) Z=OL L x (sdItems p d st c s++(T++[X,Z])):=by
 have hl:=sd_len (p:=p) (d:=d) (st:=st) hc
 rw [sdT_setT hl,sdT_setT hl,(two_set T X Y Z).1,(two_set T X Y Z).2]
 exact ⟨rfl,rfl⟩
theorem sdB_drop {X Y:Asn} (h:Sep W (OL L x (sdItems p d st c s++(T++[X,Y]))) w):Sep W (OL L x (sdItems p d st c s++T)) w:=by
 rw [← List.append_assoc] at h
 exact sdT_drop h
def ComPost (W:World) (L T:List Asn) (x p d st m jm:Nat) (c:SdC) (r:SdS × MgS × Bool) (e:Ending) (w':World):Prop:=∃ ok b0 b1 b2 b3,Hid (ok=r.2.2)∧e=.returned (.tuple #[ansV b0 b1 b2 b3 (.slice none 0 0),.bool ok])∧Hid (Sep W (OL (L.set jm (MgrA (pt m) r.2.1)) x (sdItems p d st c r.1++T)) w')
set_option maxRecDepth 100000 in
set_option maxHeartbeats 4000000 in
theorem sdCommit (h:Hid (Sep W (OL L x (sdItems p d st c s++T)) w)) (hc:SdOk c s) (hxl:x < L.length) {ist jm m sl pos num:Nat} {S:MgS} (hist:L[ist]? = some (StoreB st d m sl pos num)) (hjm:L[jm]? = some (MgrA (pt m) S)) (h1:ist≠x) (h2:jm≠x) (h3:ist≠jm) {N:Nat} (g:MgG N S) (hql:S.queue.length≤1000000) (i:Nat) (hi:i < 8) (j bk:Nat) (hbk:c.bb[j]? = some bk) (a0 a1 a2 a3:Int) :
  Calls Tryz.prog 98 #[pt p,.pointer (some ⟨p,2+i * 4,none⟩),pt bk,ansV a0 a1 a2 a3 (.slice none 0 0)] w (ComPost W L T x p d st m jm c (comDo s S i j)):=by
 unfold ansV
 have hil:=(List.getElem?_eq_some_iff.1 hist).1
 have hml:=(List.getElem?_eq_some_iff.1 hjm).1
 have hj:j < s.bg.length:=by rw [← hc.bl];exact (List.getElem?_eq_some_iff.1 hbk).1
 have hs1:=Go.Proofs.Sep.boxT h.out #[.int .i64 a0,.int .i64 a1,.int .i64 a2,.int .i64 a3,.slice none 0 0] 54
 have hs2:=Go.Proofs.Sep.boxT hs1 #[.int .i64 0,.int .i64 0,.int .i64 0,.int .i64 0,.slice none 0 0] 54
 have hz:(w.alloc (.cells #[.int .i64 a0,.int .i64 a1,.int .i64 a2,.int .i64 a3,.slice none 0 0] 54 (0,0))).heap.size=w.heap.size+1:=by simp
 rw [hz,List.append_assoc,OL_app,List.append_assoc] at hs2
 obtain ⟨wa,hwa⟩:∃ wa,(w.alloc (.cells #[.int .i64 a0,.int .i64 a1,.int .i64 a2,.int .i64 a3,.slice none 0 0] 54 (0,0))).alloc (.cells #[.int .i64 0,.int .i64 0,.int .i64 0,.int .i64 0,.slice none 0 0] 54 (0,0))=wa:=⟨_,rfl⟩
 obtain ⟨B,hB⟩:∃ B,w.heap.size=B:=⟨_,rfl⟩
 obtain ⟨R,hR⟩:∃ R,B+1=R:=⟨_,rfl⟩
 rw [hwa,hB,hR] at hs2
 have HS2:Hid (Sep W (OL L x (sdItems p d st c s++(T++[BoxA B #[.int .i64 a0,.int .i64 a1,.int .i64 a2,.int .i64 a3,.slice none 0 0] 54,BoxA R #[.int .i64 0,.int .i64 0,.int .i64 0,.int .i64 0,.slice none 0 0] 54]))) wa):=hs2
 have hc8:=hc.toSd8
 have hci:i < c.cl.length:=by rw [hc.c8];exact hi
 have hsi:i < s.cl.length:=by rw [hc.s8];exact hi
 have c3:wa.cell? ⟨p,2+i * 4+3,none⟩=some (.bool (clAt s i).asked):=by rw [sdT_cl HS2.out hc8 hi 3 (by omega),clAt_get hc.s8 hi];rfl
 have HC:=Lib.hid hc
 have HG:=Lib.hid g
 have HBK:=Lib.hid hbk
 have HST:Hid (L[ist]? = some (StoreB st d m sl pos num)):=hist
 have HMG:Hid (L[jm]? = some (MgrA (pt m) S)):=hjm
 have HN1:=Lib.hid h1
 have HN2:=Lib.hid h2
 have HN3:=Lib.hid h3
 have HJ:=Lib.hid hj
 obtain ⟨aq,has⟩:∃ aq,(clAt s i).asked=aq:=⟨_,rfl⟩
 rw [has] at c3
 have HAS:=Lib.hid has
 clear hs1 hs2 hz h hist hjm hc g h1 h2 h3 hbk hj has
 go_enter Tryz.func98,Tryz.ntmps98
 go_upto_region 1 with fail
 try rw [hwa]
 try rw [hB]
 try rw [hR]
 clear hwa hB hR
 cases aq
 case' true =>
  go_upto_region 9 with fail
  obtain ⟨b1,hb1⟩:∃ b1,a1=b1:=⟨_,rfl⟩
  rw [hb1] at HS2
  have HS9:=HS2
  obtain ⟨L1,hL1⟩:∃ L1,L=L1:=⟨_,rfl⟩
  obtain ⟨S1,hS1⟩:∃ S1,S=S1:=⟨_,rfl⟩
  have HLL:Hid (∀ A,L.set jm A=L1.set jm A):=fun A=>by rw [hL1]
  have HX1:Hid (x < L1.length):=by show _ < _;rw [← hL1];exact hxl
  have HST1:Hid (L1[ist]? = some (StoreB st d m sl pos num)):=by show _=_;rw [← hL1];exact HST.out
  have HMG1:Hid (L1[jm]? = some (MgrA (pt m) S1)):=by show _=_;rw [← hL1,← hS1];exact HMG.out
  have HTGT:Hid (comDo s S i j=askDo s S1 j):=by show _=_;rw [← hS1];unfold comDo;rw [HAS.out,if_pos rfl]
  rw [hL1] at HS9
  clear hL1 hS1 hb1 HS2 c3
  generalize wa=w1 at *
 case' false =>
  have HSd:Hid (Sep W (OL L x (sdItems p d st c s++(T++[BoxA B #[.int .i64 a0,.int .i64 a1,.int .i64 a2,.int .i64 a3,.slice none 0 0] 54,BoxA R #[.int .i64 0,.int .i64 0,.int .i64 0,.int .i64 0,.slice none 0 0] 54]))) wa.drew):=HS2.out.up (below_drewN (Below.refl wa.heap.size wa) 1)
  obtain ⟨q1,q2,_⟩:=sdFacts HSd.out HC.out HBK.out
  have HRE:=Lib.hid (stResult HSd.out ist (by rw [sdT_old hil HN1.out];exact HST.out) (.int .i64 (bgH s j)) (mgResult_sep HSd jm (by rw [sdT_old hml HN2.out];exact HMG.out) (bgH s j)) (fun e w' h=>⟨_,_,_,h.1⟩))
  obtain ⟨bh,hbh⟩:∃ bh,bgH s j=bh:=⟨_,rfl⟩
  rw [hbh] at q2 HRE
  have HBH:=Lib.hid hbh
  obtain ⟨r0,hr0⟩:∃ r,(resOf S bh).1=r:=⟨_,rfl⟩
  rw [hr0] at HRE
  have HR0:=Lib.hid hr0
  clear hbh hr0 HS2
  go_upto_region 2 with fail
  clear c3
  refine wp_regionG (fun W=>W.cell? ⟨p,1,none⟩=some (pt st)∧W.cell? ⟨bk,0,none⟩=some (.int .i64 bh)) (n:=16) (by kernel_rfl) (by kernel_rfl) ?_
  generalize wa.drew=wd at *
  refine wpG.tk 0 ?_
  refine wpG.tk 1 ?_
  refine wpG.tk 2 ?_
  refine wpG.tk 3 ?_ (hy:=by intro W hW;have hld0:=hW.1;go_simp;try with_reducible rfl)
  refine wpG.tk 4 ?_
  refine wpG.tk 5 ?_
  refine wpG.tk 6 ?_
  refine wpG.tk 7 ?_ (hy:=by intro W hW;have hld0:=hW.2;go_simp;try with_reducible rfl)
  refine wpG.alone 8 rfl (by kernel_rfl) (by kernel_rfl) (⟨q1,q2⟩) (fun K hK=>?_)
  go_simp
  go_at_call 159
  refine (HRE.out).mono ?_
  rintro e w3 ⟨rfl,HS3⟩
  obtain ⟨k1,k2,_⟩:=sdFacts HS3.out HC.out HBK.out
  rw [HBH.out] at k2
  clear q1 q2 HRE HSd
  try go_simp
  refine hK _ _ ?_
  clear hK K
  refine wpG.tk 9 ?_
  refine wpG.tk 10 ?_
  refine wpG.tk 11 ?_
  refine wpG.tk 12 ?_
  refine wpG.tk 13 ?_
  refine wpG.tk 14 ?_
  refine wpG.tk 15 ?_
  refine wpG.done (by kernel_rfl) ⟨k1,k2⟩ ?_
  clear k1 k2
  go_upto_region 3 with fail
  have HS4:Hid (Sep W (OL L x (sdItems p d st c s++(T++[BoxA B #[.int .i64 a0,.int .i64 a1,.int .i64 a2,.int .i64 a3,.slice none 0 0] 54,BoxA R #[.int .i64 0,.int .i64 0,.int .i64 0,.int .i64 0,.slice none 0 0] 54]))) w3.drew):=HS3.out.up (below_drewN (Below.refl w3.heap.size w3) 1)
  obtain ⟨q1,q2,_⟩:=sdFacts HS4.out HC.out HBK.out
  have HCM:=Lib.hid (stCommit HS4.out ist (by rw [sdT_old hil HN1.out];exact HST.out) (.int .i64 (bgH s j)) (mgCommit_sep HS4 jm (by rw [sdT_old hml HN2.out];exact HMG.out) HG.out hql (bgH s j)) (fun e w' h=>⟨_,h.1⟩))
  rw [HBH.out] at q2 HCM
  obtain ⟨cc,hcc⟩:∃ cc,cmCode S bh=cc:=⟨_,rfl⟩
  rw [hcc] at HCM
  have HCC:=Lib.hid hcc
  clear HS3 hcc
  refine wp_regionH (fun W=>W.cell? ⟨p,1,none⟩=some (pt st)∧W.cell? ⟨bk,0,none⟩=some (.int .i64 bh)) (n:=11) (by kernel_rfl) (by kernel_rfl) ?_
  generalize w3.drew=wd at *
  refine wpH.tk 0 ?_
  refine wpH.tk 1 ?_
  refine wpH.tk 2 ?_
  refine wpH.tk 3 ?_ (hy:=by intro W hW;have hld0:=hW.1;go_simp;try with_reducible rfl)
  refine wpH.tk 4 ?_
  refine wpH.tk 5 ?_
  refine wpH.tk 6 ?_
  refine wpH.tk 7 ?_ (hy:=by intro W hW;have hld0:=hW.2;go_simp;try with_reducible rfl)
  refine wpH.alone 8 rfl (by kernel_rfl) (by kernel_rfl) ⟨q1,q2⟩ (fun K hK=>?_)
  go_simp
  go_at_call 160
  refine (HCM.out).mono ?_
  rintro e w4 ⟨rfl,HS5⟩
  have hs5:=HS5.out
  rw [OL_setOld hml HN2.out] at hs5
  obtain ⟨L1,hL1⟩:∃ L1,L.set jm (MgrA (pt m) (cmNext S bh))=L1:=⟨_,rfl⟩
  rw [hL1] at hs5
  have HLL:Hid (∀ A,L.set jm A=L1.set jm A):=fun A=>by rw [← hL1,List.set_set]
  have HX1:Hid (x < L1.length):=by show _ < _;rw [← hL1,List.length_set];exact hxl
  have HST1:Hid (L1[ist]? = some (StoreB st d m sl pos num)):=by show _=_;rw [← hL1,List.getElem?_set_ne (Ne.symm HN3.out)];exact HST.out
  have HMG1:Hid (L1[jm]? = some (MgrA (pt m) (cmNext S bh))):=by show _=_;rw [← hL1,List.getElem?_set_self hml]
  obtain ⟨⟨_,v1,_,_,_⟩,⟨_,f1,_,_,_⟩⟩:=box5 hs5 (sdB_box hc8).1
  obtain ⟨k1,k2,_⟩:=sdFacts hs5 HC.out HBK.out
  rw [HBH.out] at k2
  have hs6:=hs5.box_store (L1.length+(36+T.length)) (sdB_box hc8).1 1 (.int .i64 cc)
  rw [(sdB_set hc8 _).1] at hs6
  have HS6:Hid (Sep W (OL L1 x (sdItems p d st c s++(T++[BoxA B #[.int .i64 a0,.int .i64 cc,.int .i64 a2,.int .i64 a3,.slice none 0 0] 54,BoxA R #[.int .i64 0,.int .i64 0,.int .i64 0,.int .i64 0,.slice none 0 0] 54]))) (w4.setCell ⟨B,1,none⟩ (.int .i64 cc))):=hs6
  clear hs5 hs6 hL1 HS5 HS4 HCM q1 q2
  try go_simp
  refine hK _ _ ?_
  clear hK K
  refine wpH.tk 9 ?_
  refine wpH.alone 10 rfl (by kernel_rfl) (by kernel_rfl) ⟨k1,k2⟩ (fun K hK=>?_)
  go_simp
  try go_simp
  refine hK _ _ ?_
  clear hK K
  refine wpH.done (by kernel_rfl) (by kernel_rfl) ?_
  clear k1 k2 v1 f1
  generalize w4.setCell ⟨B,1,none⟩ (.int .i64 cc)=w5 at *
  obtain ⟨⟨_,v1,_,_,_⟩,_⟩:=box5 HS6.out (sdB_box hc8).1
  by_cases hc0:cc=0
  case' neg =>
   go_upto_region 5 with fail
   clear v1
   have HS7:Hid (Sep W (OL L1 x (sdItems p d st c s++(T++[BoxA B #[.int .i64 a0,.int .i64 cc,.int .i64 a2,.int .i64 a3,.slice none 0 0] 54,BoxA R #[.int .i64 0,.int .i64 0,.int .i64 0,.int .i64 0,.slice none 0 0] 54]))) w5.drew):=HS6.out.up (below_drewN (Below.refl w5.heap.size w5) 1)
   have hil1:ist < L1.length:=(List.getElem?_eq_some_iff.1 HST1.out).1
   have hml1:jm < L1.length:=(List.getElem?_eq_some_iff.1 HMG1.out).1
   obtain ⟨q1,q2,_⟩:=sdFacts HS7.out HC.out HBK.out
   have HRE:=Lib.hid (stResult HS7.out ist (by rw [sdT_old hil1 HN1.out];exact HST1.out) (.int .i64 (bgH s j)) (mgResult_sep HS7 jm (by rw [sdT_old hml1 HN2.out];exact HMG1.out) (bgH s j)) (fun e w' h=>⟨_,_,_,h.1⟩))
   rw [HBH.out] at q2 HRE
   obtain ⟨r1,hr1⟩:∃ r,(resOf (cmNext S bh) bh).1=r:=⟨_,rfl⟩
   rw [hr1] at HRE
   have HR1:=Lib.hid hr1
   have HTG:Hid (comDo s S i j=(if r1=r0 then s else setEn s j,cmNext S bh,true)):=by
    show _=_
    unfold comDo
    rw [HAS.out,if_neg (by decide),HBH.out,HCC.out,if_neg hc0,HR1.out,HR0.out]
   clear HS6 hr1
   refine wp_regionG (fun W=>W.cell? ⟨p,1,none⟩=some (pt st)∧W.cell? ⟨bk,0,none⟩=some (.int .i64 bh)) (n:=16) (by kernel_rfl) (by kernel_rfl) ?_
   generalize w5.drew=wd at *
   refine wpG.tk 0 ?_
   refine wpG.tk 1 ?_
   refine wpG.tk 2 ?_
   refine wpG.tk 3 ?_ (hy:=by intro W hW;have hld0:=hW.1;go_simp;try with_reducible rfl)
   refine wpG.tk 4 ?_
   refine wpG.tk 5 ?_
   refine wpG.tk 6 ?_
   refine wpG.tk 7 ?_ (hy:=by intro W hW;have hld0:=hW.2;go_simp;try with_reducible rfl)
   refine wpG.alone 8 rfl (by kernel_rfl) (by kernel_rfl) (⟨q1,q2⟩) (fun K hK=>?_)
   go_simp
   go_at_call 159
   refine (HRE.out).mono ?_
   rintro e w7 ⟨rfl,HS8⟩
   obtain ⟨k1,k2,⟨en,k3⟩,kf,k4⟩:=sdFacts HS8.out HC.out HBK.out
   rw [HBH.out] at k2
   clear q1 q2 HRE HS7
   try go_simp
   refine hK _ _ ?_
   clear hK K
   refine wpG.tk 9 ?_
   refine wpG.tk 10 ?_
   refine wpG.tk 11 ?_
   refine wpG.tk 12 ?_
   refine wpG.tk 13 ?_
   refine wpG.tk 14 ?_
   refine wpG.tk 15 ?_
   refine wpG.done (by kernel_rfl) ⟨k1,k2⟩ ?_
   clear k1 k2
   have HLM:Hid (L.set jm (MgrA (pt m) (cmNext S bh))=L1):=by show _=_;rw [HLL.out,set_same HMG1.out]
   by_cases hrr:r1=r0
   case' pos =>
    go_upto_region 8 with fail
    clear k3 kf k4
    have HS9:=HS8
    have HTGT:Hid (comDo s S i j=(s,cmNext S bh,true)):=by show _=_;rw [HTG.out,if_pos hrr]
    obtain ⟨s2,hs2⟩:∃ s2,s=s2:=⟨_,rfl⟩
    rw [hs2] at HS9
    have HT2:Hid (comDo s S i j=(s2,cmNext S bh,true)):=by rw [← hs2];exact HTGT
    have hd8:Sd8 c s2:=by rw [← hs2];exact hc8
    clear HTGT hs2
   case' neg =>
    have hs9:=sdT_en HS8.out HC.out HBK.out
    have HS9':=Lib.hid hs9
    clear hs9
    go_upto_region 8 with fail
    clear k3 kf k4
    generalize w7.setCell ⟨bk,2,none⟩ (.int .i64 s.ev)=w7 at *
    have HTGT:Hid (comDo s S i j=(setEn s j,cmNext S bh,true)):=by show _=_;rw [HTG.out,if_neg hrr]
    obtain ⟨s2,hs2⟩:∃ s2,setEn s j=s2:=⟨_,rfl⟩
    rw [hs2] at HS9'
    have HS9:=HS9'
    have HT2:Hid (comDo s S i j=(s2,cmNext S bh,true)):=by rw [← hs2];exact HTGT
    have hd8:Sd8 c s2:=by rw [← hs2];exact (sdOk_en HC.out HJ.out).toSd8
    clear HTGT hs2 HS9'
   all_goals
    obtain ⟨⟨b0,b1,b2,b3,b4⟩,_⟩:=box5 HS9.out (sdB_box hd8).1
    obtain ⟨⟨y0,y1,y2,y3,y4⟩,⟨f0,f1,f2,f3,f4⟩⟩:=box5 HS9.out (sdB_box hd8).2
    have hs10:=box_fill5 HS9.out (sdB_box hd8).2 (.int .i64 a0) (.int .i64 cc) (.int .i64 a2) (.int .i64 a3) (.slice none 0 0)
    rw [(sdB_set hd8 _).2] at hs10
    obtain ⟨F,hF,_⟩:=hs10.get _ (sdB_box hd8).2
    have HF:=Lib.hid hF.2
    have HS10:=Lib.hid (sdB_drop hs10)
    clear hs10 hF HS9
    go_wp2_with fail
    (try simp only [Exit.inBlock,Exit.then])
    refine ret_cell_two rfl (b:=R) (t:=54) (fr:=(0,0)) rfl (cs:=#[.int .i64 a0,.int .i64 cc,.int .i64 a2,.int .i64 a3,.slice none 0 0]) HF.out (Tryz.underlying54) rfl (by kernel_rfl) rfl rfl ⟨true,a0,cc,a2,a3,by show _=_;rw [HT2.out],rfl,?_⟩
    show Sep _ _ _
    rw [HT2.out]
    show Sep W (OL (L.set jm (MgrA (pt m) (cmNext S bh))) x (sdItems p d st c s2++T)) _
    rw [HLM.out]
    exact HS10.out
  case' pos =>
   go_upto_region 9 with fail
   clear v1
   obtain ⟨b1,hb1⟩:∃ b1:Int,cc=b1:=⟨_,rfl⟩
   rw [hb1] at HS6
   have HS9:=HS6
   have HTGT:Hid (comDo s S i j=askDo s (cmNext S bh) j):=by
    show _=_
    unfold comDo
    rw [HAS.out,if_neg (by decide),HBH.out,HCC.out,if_pos hc0]
   obtain ⟨S1,hS1⟩:∃ S1,cmNext S bh=S1:=⟨_,rfl⟩
   rw [hS1] at HTGT HMG1
   clear hS1 hb1 HS6 hc0
   generalize w5=w1 at *
 all_goals
  have HSd:Hid (Sep W (OL L1 x (sdItems p d st c s++(T++[BoxA B #[.int .i64 a0,.int .i64 b1,.int .i64 a2,.int .i64 a3,.slice none 0 0] 54,BoxA R #[.int .i64 0,.int .i64 0,.int .i64 0,.int .i64 0,.slice none 0 0] 54]))) w1.drew):=HS9.out.up (below_drewN (Below.refl w1.heap.size w1) 1)
  have hil1:ist < L1.length:=(List.getElem?_eq_some_iff.1 HST1.out).1
  have hml1:jm < L1.length:=(List.getElem?_eq_some_iff.1 HMG1.out).1
  have HLM:Hid (L.set jm (MgrA (pt m) S1)=L1):=by show _=_;rw [HLL.out,set_same HMG1.out]
  obtain ⟨q1,q2,_⟩:=sdFacts HSd.out HC.out HBK.out
  have HRE:=Lib.hid (stResult HSd.out ist (by rw [sdT_old hil1 HN1.out];exact HST1.out) (.int .i64 (bgH s j)) (mgResult_sep HSd jm (by rw [sdT_old hml1 HN2.out];exact HMG1.out) (bgH s j)) (fun e w' h=>⟨_,_,_,h.1⟩))
  obtain ⟨bh2,hbh2⟩:∃ bh,bgH s j=bh:=⟨_,rfl⟩
  rw [hbh2] at q2 HRE
  obtain ⟨r1,hr1⟩:∃ r,(resOf S1 bh2).1=r:=⟨_,rfl⟩
  obtain ⟨r2,hr2⟩:∃ r,(resOf S1 bh2).2.1=r:=⟨_,rfl⟩
  obtain ⟨r3,hr3⟩:∃ r,(resOf S1 bh2).2.2=r:=⟨_,rfl⟩
  rw [hr1,hr2,hr3] at HRE
  have HTG:Hid (comDo s S i j=if r1=2 then (s,S1,false) else (setEn s j,S1,true)):=by
   show _=_
   rw [HTGT.out]
   unfold askDo
   rw [hbh2,hr1]
  have HB2:=Lib.hid hbh2
  clear HS9 hbh2 hr1 hr2 hr3 HTGT
  refine wp_regionG (fun W=>W.cell? ⟨p,1,none⟩=some (pt st)∧W.cell? ⟨bk,0,none⟩=some (.int .i64 bh2)) (n:=16) (by kernel_rfl) (by kernel_rfl) ?_
  generalize w1.drew=wd at *
  refine wpG.tk 0 ?_
  refine wpG.tk 1 ?_
  refine wpG.tk 2 ?_
  refine wpG.tk 3 ?_ (hy:=by intro W hW;have hld0:=hW.1;go_simp;try with_reducible rfl)
  refine wpG.tk 4 ?_
  refine wpG.tk 5 ?_
  refine wpG.tk 6 ?_
  refine wpG.tk 7 ?_ (hy:=by intro W hW;have hld0:=hW.2;go_simp;try with_reducible rfl)
  refine wpG.alone 8 rfl (by kernel_rfl) (by kernel_rfl) (⟨q1,q2⟩) (fun K hK=>?_)
  go_simp
  go_at_call 159
  refine (HRE.out).mono ?_
  rintro e w7 ⟨rfl,HS8⟩
  obtain ⟨k1,k2,⟨en,k3⟩,kf,k4⟩:=sdFacts HS8.out HC.out HBK.out
  rw [HB2.out] at k2
  obtain ⟨⟨b0,b1',b2,b3,b4⟩,⟨g0,g1,g2,g3,g4⟩⟩:=box5 HS8.out (sdB_box hc8).1
  obtain ⟨⟨y0,y1,y2,y3,y4⟩,⟨f0,f1,f2,f3,f4⟩⟩:=box5 HS8.out (sdB_box hc8).2
  clear q1 q2 HRE HSd
  try go_simp
  refine hK _ _ ?_
  clear hK K
  refine wpG.tk 9 ?_
  refine wpG.tk 10 ?_
  refine wpG.tk 11 ?_
  refine wpG.tk 12 ?_
  refine wpG.tk 13 ?_
  refine wpG.tk 14 ?_
  refine wpG.tk 15 ?_
  refine wpG.done (by kernel_rfl) ⟨k1,k2⟩ ?_
  clear k1 k2
  by_cases hp2:r1=2
  ·subst hp2
   have hs10:=box_fill5 HS8.out (sdB_box hc8).2 (.int .i64 0) (.int .i64 0) (.int .i64 0) (.int .i64 0) (.slice none 0 0)
   rw [(sdB_set hc8 _).2] at hs10
   obtain ⟨F,hF,_⟩:=hs10.get _ (sdB_box hc8).2
   have HF:=Lib.hid hF.2
   have HS10:=Lib.hid (sdB_drop hs10)
   have HT2:Hid (comDo s S i j=(s,S1,false)):=by show _=_;rw [HTG.out,if_pos rfl]
   clear hs10 hF HS8
   go_wp2_with fail
   (try simp only [Exit.inBlock,Exit.then])
   refine ret_cell_two rfl (b:=R) (t:=54) (fr:=(0,0)) rfl (cs:=#[.int .i64 0,.int .i64 0,.int .i64 0,.int .i64 0,.slice none 0 0]) HF.out (Tryz.underlying54) rfl (by kernel_rfl) rfl rfl ⟨false,0,0,0,0,by show _=_;rw [HT2.out],rfl,?_⟩
   show Sep _ _ _
   rw [HT2.out]
   show Sep W (OL (L.set jm (MgrA (pt m) S1)) x (sdItems p d st c s++T)) _
   rw [HLM.out]
   exact HS10.out
  ·have HT2:Hid (comDo s S i j=(setEn s j,S1,true)):=by show _=_;rw [HTG.out,if_neg hp2]
   have hd8:Sd8 c (setEn s j):=(sdOk_en HC.out HJ.out).toSd8
   by_cases hp3:r1=3
   case' pos =>
    subst hp3
    have hs9:=HS8.out.box_store _ (sdB_box hc8).1 3 (.int .i64 r2)
    rw [(sdB_set hc8 _).1] at hs9
    have hs11:=sdT_en hs9 HC.out HBK.out
    obtain ⟨c1',hc1'⟩:∃ z,b1=z:=⟨_,rfl⟩
    obtain ⟨c3',hc3'⟩:∃ z,r2=z:=⟨_,rfl⟩
    have HS11:Hid (Sep W (OL L1 x (sdItems p d st c (setEn s j)++(T++[BoxA B #[.int .i64 a0,.int .i64 c1',.int .i64 a2,.int .i64 c3',.slice none 0 0] 54,BoxA R #[.int .i64 0,.int .i64 0,.int .i64 0,.int .i64 0,.slice none 0 0] 54]))) ((w7.setCell ⟨B,3,none⟩ (.int .i64 r2)).setCell ⟨bk,2,none⟩ (.int .i64 s.ev))):=by rw [← hc1',← hc3'];exact hs11
    obtain ⟨k1,k2,⟨en',k3'⟩,kf',k4'⟩:=sdFacts hs9 HC.out HBK.out
    clear hs9 hs11 HS8 hc1' hc3' k3 kf k4 k1 k2
    go_upto_region 16 with fail
    clear b0 b1' b2 b3 b4 g0 g1 g2 g3 g4
    generalize hw8:w7.setCell ⟨B,3,none⟩ (.int .i64 r2)=w8 at *
    clear hw8
   case' neg =>
    have hs9:=HS8.out.box_store _ (sdB_box hc8).1 1 (.int .i64 r3)
    rw [(sdB_set hc8 _).1] at hs9
    have hs11:=sdT_en hs9 HC.out HBK.out
    obtain ⟨c1',hc1'⟩:∃ z,r3=z:=⟨_,rfl⟩
    obtain ⟨c3',hc3'⟩:∃ z,a3=z:=⟨_,rfl⟩
    have HS11:Hid (Sep W (OL L1 x (sdItems p d st c (setEn s j)++(T++[BoxA B #[.int .i64 a0,.int .i64 c1',.int .i64 a2,.int .i64 c3',.slice none 0 0] 54,BoxA R #[.int .i64 0,.int .i64 0,.int .i64 0,.int .i64 0,.slice none 0 0] 54]))) ((w7.setCell ⟨B,1,none⟩ (.int .i64 r3)).setCell ⟨bk,2,none⟩ (.int .i64 s.ev))):=by rw [← hc1',← hc3'];exact hs11
    obtain ⟨k1,k2,⟨en',k3'⟩,kf',k4'⟩:=sdFacts hs9 HC.out HBK.out
    clear hs9 hs11 HS8 hc1' hc3' k3 kf k4 k1 k2
    go_upto_region 16 with fail
    clear b0 b1' b2 b3 b4 g0 g1 g2 g3 g4
    generalize hw8:w7.setCell ⟨B,1,none⟩ (.int .i64 r3)=w8 at *
    clear hw8
   all_goals
    go_upto_region 17 with fail
    clear k3' kf' k4' y0 y1 y2 y3 y4 f0 f1 f2 f3 f4
    generalize w8.setCell ⟨bk,2,none⟩ (.int .i64 s.ev)=w9 at *
    obtain ⟨⟨b0,b1',b2,b3,b4⟩,_⟩:=box5 HS11.out (sdB_box hd8).1
    obtain ⟨⟨y0,y1,y2,y3,y4⟩,⟨f0,f1,f2,f3,f4⟩⟩:=box5 HS11.out (sdB_box hd8).2
    have hs12:=box_fill5 HS11.out (sdB_box hd8).2 (.int .i64 a0) (.int .i64 c1') (.int .i64 a2) (.int .i64 c3') (.slice none 0 0)
    rw [(sdB_set hd8 _).2] at hs12
    obtain ⟨F,hF,_⟩:=hs12.get _ (sdB_box hd8).2
    have HF:=Lib.hid hF.2
    have HS12:=Lib.hid (sdB_drop hs12)
    clear hs12 hF HS11
    go_wp2_with fail
    (try simp only [Exit.inBlock,Exit.then])
    refine ret_cell_two rfl (b:=R) (t:=54) (fr:=(0,0)) rfl (cs:=#[.int .i64 a0,.int .i64 c1',.int .i64 a2,.int .i64 c3',.slice none 0 0]) HF.out (Tryz.underlying54) rfl (by kernel_rfl) rfl rfl ⟨true,a0,c1',a2,c3',by show _=_;rw [HT2.out],rfl,?_⟩
    show Sep _ _ _
    rw [HT2.out]
    show Sep W (OL (L.set jm (MgrA (pt m) S1)) x (sdItems p d st c (setEn s j)++T)) _
    rw [HLM.out]
    exact HS12.out
end
end Go.Proofs
namespace Go.Proofs
open Go.RowKit Sc
def callDo (s:SdS) (S:MgS) (i j:Nat) (o:OpS):SdS × MgS × Bool :=
 if o.kind=2 then (s,rdNext S (bgH s j) ⟨o.lba,o.len⟩,true)
 else if o.kind=3 then (s,wrNext S (bgH s j) o.puts,true)
 else if o.kind=5 then (if abCode S (bgH s j)=0 then setEn s j else s,abNext S (bgH s j),true)
 else if o.kind=4 then comDo s S i j
 else (s,S,true)
theorem Sep.drop1 {W w:World} {A B:List Asn} {X:Asn} (h:Sep W (A++X :: B) w):Sep W (A++B) w:=by
 have:=h.erase A.length
 rwa [List.eraseIdx_append_of_length_le (Nat.le_refl _),Nat.sub_self] at this
theorem three_ix {α:Type} (T:List α) (X Y Z:α) (E:List α):(T++([X,Y,Z]++E))[T.length]? = some X∧(T++([X,Y,Z]++E))[T.length+1]? = some Y∧(T++([X,Y,Z]++E))[T.length+2]? = some Z∧∀ k,(T++([X,Y,Z]++E))[T.length+(3+k)]? = E[k]? := by
 refine ⟨?_,?_,?_,fun k=>?_⟩
 ·rw [List.getElem?_append_right (Nat.le_refl _),Nat.sub_self];rfl
 ·rw [List.getElem?_append_right (by omega),Nat.add_sub_cancel_left];rfl
 ·rw [List.getElem?_append_right (by omega),Nat.add_sub_cancel_left];rfl
 ·rw [List.getElem?_append_right (by omega),Nat.add_sub_cancel_left,List.getElem?_append_right (by show 3≤_;omega),show 3+k - [X,Y,Z].length=k by show 3+k - 3=k;omega]
theorem three_set {α:Type} (T:List α) (X Y Z V:α) (E:List α):(T++([X,Y,Z]++E)).set (T.length+1) V=T++([X,V,Z]++E)∧(T++([X,Y,Z]++E)).set (T.length+2) V=T++([X,Y,V]++E):=by
 constructor
 ·rw [List.set_append_right _ _ (by omega),Nat.add_sub_cancel_left];rfl
 ·rw [List.set_append_right _ _ (by omega),Nat.add_sub_cancel_left];rfl
def CallPost (W:World) (L T:List Asn) (x p d st m jm:Nat) (c:SdC) (r:SdS × MgS × Bool) (e:Ending) (w':World):Prop:=∃ ok b0 b1 b2 b3 dp dn dc,∃ l:Bytes,Hid (ok=r.2.2)∧e=.returned (.tuple #[ansV b0 b1 b2 b3 (.slice dp dn dc),.bool ok])∧Hid (l.length=dn∧dn≤1000000) ∧
 Hid (Sep W (OL (L.set jm (MgrA (pt m) r.2.1)) x (sdItems p d st c r.1++(T++[BytesWA (.slice dp dn dc) l]))) w')
section
variable {W w:World} {L T E:List Asn} {x p d st:Nat} {s:SdS} {c:SdC}
theorem sdC_box (hc:Sd8 c s) {X Y Z:Asn}:(OL L x (sdItems p d st c s++(T++([X,Y,Z]++E))))[L.length+(36+T.length)]? = some X∧(OL L x (sdItems p d st c s++(T++([X,Y,Z]++E))))[L.length+(36+(T.length+1))]? = some Y∧(OL L x (sdItems p d st c s++(T++([X,Y,Z]++E))))[L.length+(36+(T.length+2))]? = some Z:=by
 have hl:=sd_len (p:=p) (d:=d) (st:=st) hc
 rw [sdT_ix hc hl,sdT_ix hc hl,sdT_ix hc hl]
 exact ⟨(three_ix T X Y Z E).1,(three_ix T X Y Z E).2.1,(three_ix T X Y Z E).2.2.1⟩
theorem sdC_set (hc:Sd8 c s) {X Y Z:Asn} (V:Asn):(OL L x (sdItems p d st c s++(T++([X,Y,Z]++E)))).set (L.length+(36+(T.length+1))) V=OL L x (sdItems p d st c s++(T++([X,V,Z]++E)))∧(OL L x (sdItems p d st c s++(T++([X,Y,Z]++E)))).set (L.length+(36+(T.length+2))) V=OL L x (sdItems p d st c s++(T++([X,Y,V]++E))):=by
 have hl:=sd_len (p:=p) (d:=d) (st:=st) hc
 rw [sdT_setT hl,sdT_setT hl,(three_set T X Y Z V E).1,(three_set T X Y Z V E).2]
 exact ⟨rfl,rfl⟩
theorem sdC_drop {X Y Z:Asn} (h:Sep W (OL L x (sdItems p d st c s++(T++([X,Y,Z]++E)))) w):Sep W (OL L x (sdItems p d st c s++(T++E))) w:=by
 have e:∀ Q:List Asn,OL L x (sdItems p d st c s++(T++Q))=(L.set x TrueA++sdItems p d st c s++T)++Q:=fun Q=>by unfold OL;simp only [List.append_assoc]
 rw [e] at h ⊢
 exact Go.Proofs.Sep.drop1 (Go.Proofs.Sep.drop1 (Go.Proofs.Sep.drop1 h))
theorem sdC_nil (h:Sep W (OL L x (sdItems p d st c s++(T++E))) w):Sep W (OL L x (sdItems p d st c s++(T++(E++[BytesWA (.slice none 0 0) []])))) w:=by
 have h1:=h.new (Below.refl _ _) (BytesWA (.slice none 0 0) []) (F:=fun _=>False) (fun _ h=>h.elim) SlAt.nil
 rw [OL_app,List.append_assoc,List.append_assoc] at h1
 exact h1
theorem sdT_put (hc:SdOk c s) {lv:Value} {l:List Put} (hm:(lv,l)∈c.ps) {jm:Nat} (hj:jm < L.length) {G:Foot} {w':World} (hR:Sc.Rest (OL L x (sdItems p d st c s++T)) jm G w'):PutsAt G w' lv l:=by
 obtain ⟨F,hF,hP⟩:=hR (L.length+3) (PutKA c.ps) (by omega) (sdT_get (by rw [sd_head 3 (by omega)];rfl))
 exact (hP _ hm).mono hF
end
end Go.Proofs
namespace Go.Proofs
open Go.RowKit Sc
section
variable {W w:World} {L T:List Asn} {x p d st:Nat} {s:SdS} {c:SdC}
theorem stRead1 {m s2 pos num:Nat} (h:Hid (Sep W L w)) (i:Nat) (hi:L[i]? = some (StoreB st d m s2 pos num)) (j:Nat) {S:MgS} (hj:L[j]? = some (MgrA (pt m) S)) (hij:i≠j) {n:Nat} (g:MgG n S) (hn:n≤1000000) (hd f l:Int) (i1:I64 f) (i2:I64 l) :
  Calls Tryz.prog 95 #[pt st,.int .i64 hd,.agg #[.int .i64 f,.int .i64 l]] w fun r w'=>∃ dp dn dc cd,∃ bs:Bytes,r=.returned (.tuple #[.slice dp dn dc,.int .i64 cd])∧Hid (bs.length=dn∧dn≤1000000)∧Hid (Sep W ((L.set j (MgrA (pt m) (rdNext S hd ⟨f,l⟩)))++[BytesWA (.slice dp dn dc) bs]) w'):=by
 have hjl:=(List.getElem?_eq_some_iff.1 hj).1
 refine (stRead h i hi j hj hij g hn hd f l i1 i2).mono ?_
 rintro e w' (⟨hc,rfl,hS⟩ | ⟨hc,gg,o,cp,rfl,hS⟩)
 ·refine ⟨none,0,0,_,[],rfl,⟨rfl,by omega⟩,?_⟩
  show Sep _ _ _
  rw [show rdNext S hd ⟨f,l⟩=S by unfold rdNext;rw [if_neg hc],set_same hj]
  exact hS.out.new (Below.refl _ _) (BytesWA (.slice none 0 0) []) (F:=fun _=>False) (fun _ h=>h.elim) SlAt.nil
 ·have hs:=hS.out
  rw [List.set_append_left _ _ hjl] at hs
  refine ⟨_,_,_,0,_,rfl,⟨?_,?_⟩,hs⟩
  ·obtain ⟨F,hF,_⟩:=hs.get L.length (A:=BytesWA (.slice (some ⟨gg,o,none⟩) (40 * l.toNat) cp) (rdOut S hd ⟨f,l⟩)) (by rw [List.getElem?_append_right (by rw [List.length_set];exact Nat.le_refl _),List.length_set,Nat.sub_self];rfl)
   obtain ⟨_,_,e,_⟩:=hF
   have:=congrArg (fun v=>match v with | Value.slice _ n _=>n | _=>0) e
   exact this.symm
  ·have h16:l≤16:=by
    unfold rdCode at hc
    split at hc
    ·unfold readCode at hc
     split at hc
     ·cases hc
     ·rename_i hh
      have h2:¬ (l < 1∨16 < l):=hh
      omega
    ·cases hc
   omega
theorem sdC_facts {E:List Asn} {O B:Nat} {u0 u1 u2 u3 u4 v0 v1 v2 v3 v4:Value} {T1 T2:TypeId} {Z:Asn} (h:Sep W (OL L x (sdItems p d st c s++(T++([BoxA O #[u0,u1,u2,u3,u4] T1,BoxA B #[v0,v1,v2,v3,v4] T2,Z]++E)))) w) (hc:SdOk c s) {j bk:Nat} (hb:c.bb[j]? = some bk) :
  w.cell? ⟨p,1,none⟩=some (pt st)∧w.cell? ⟨bk,0,none⟩=some (.int .i64 (bgH s j))∧w.cell? ⟨O,2,none⟩=some u2∧w.cell? ⟨O,3,none⟩=some u3∧w.cell? ⟨O,4,none⟩=some u4∧w.cell? ⟨B,1,none⟩=some v1∧w.cell? ⟨B,4,none⟩=some v4∧w.frozen? ⟨B,1,none⟩=false∧w.frozen? ⟨B,4,none⟩=false:=by
 obtain ⟨q1,q2,_⟩:=sdFacts h hc hb
 obtain ⟨⟨_,_,d2,d3,d4⟩,_⟩:=box5 h (sdC_box hc.toSd8).1
 obtain ⟨⟨_,e1,_,_,e4⟩,⟨_,f1,_,_,f4⟩⟩:=box5 h (sdC_box hc.toSd8).2.1
 exact ⟨q1,q2,d2,d3,d4,e1,e4,f1,f4⟩
theorem sd8_com {i j:Nat} {S:MgS} (h:Sd8 c s):Sd8 c (comDo s S i j).1:=by
 have e:(comDo s S i j).1.cl=s.cl:=by
  unfold comDo askDo setEn
  repeat' split
  all_goals rfl
 exact ⟨h.c8,by rw [e];exact h.s8⟩
theorem CallPost.of {w':World} {m jm:Nat} {r:SdS × MgS × Bool} {s1:SdS} {S1:MgS} {ok:Bool} {L1:List Asn} (HT:r=(s1,S1,ok)) (HL:L.set jm (MgrA (pt m) S1)=L1) {b0 b1 b2 b3:Int} {dp:Option Addr} {dn dc:Nat} {bs:Bytes} (HDL:bs.length=dn∧dn≤1000000) (h:Sep W (OL L1 x (sdItems p d st c s1++(T++[BytesWA (.slice dp dn dc) bs]))) w'):CallPost W L T x p d st m jm c r (.returned (.tuple #[.agg #[.int .i64 b0,.int .i64 b1,.int .i64 b2,.int .i64 b3,.slice dp dn dc],.bool ok])) w':=by
 subst HT
 refine ⟨ok,b0,b1,b2,b3,dp,dn,dc,bs,rfl,rfl,HDL,?_⟩
 show Sep _ _ _
 rw [HL]
 exact h
end
end Go.Proofs
namespace Go.Proofs
open Go.RowKit Sc
section
variable {W w:World} {L T:List Asn} {x p d st:Nat} {s:SdS} {c:SdC}
set_option maxRecDepth 100000 in
set_option maxHeartbeats 800000 in
theorem sdCall2 (h:Hid (Sep W (OL L x (sdItems p d st c s++T)) w)) (hc:SdOk c s) (hxl:x < L.length) {ist jm m sl pos num:Nat} {S:MgS} (hist:L[ist]? = some (StoreB st d m sl pos num)) (hjm:L[jm]? = some (MgrA (pt m) S)) (h1:ist≠x) (h2:jm≠x) (h3:ist≠jm) {N:Nat} (g:MgG N S) (hN:N≤1000000) (hql:S.queue.length≤1000000) (i:Nat) (hi:i < 8) (j bk:Nat) (hbk:c.bb[j]? = some bk)
  (o0 o1 o2 o3:Int) (io2:I64 o2) (io3:I64 o3) (lp:Option Addr) (lc:Nat) (pl:List Put) (hpl:pl.length≤1000000) (hm:(.slice lp pl.length lc,pl)∈c.ps) (a0 a1 a2 a3:Int) (hk2:o0=2) :
  Calls Tryz.prog 51 #[pt p,.pointer (some ⟨p,2+i * 4,none⟩),pt bk,.agg #[.int .i64 o0,.int .i64 o1,.int .i64 o2,.int .i64 o3,.slice lp pl.length lc],ansV a0 a1 a2 a3 (.slice none 0 0)] w (CallPost W L T x p d st m jm c (callDo s S i j ⟨o0,o1,o2,o3,pl⟩)):=by
 unfold ansV
 have hil:=(List.getElem?_eq_some_iff.1 hist).1
 have hml:=(List.getElem?_eq_some_iff.1 hjm).1
 have hj:j < s.bg.length:=by rw [← hc.bl];exact (List.getElem?_eq_some_iff.1 hbk).1
 have hs0:=Go.Proofs.Sep.boxT h.out #[.int .i64 o0,.int .i64 o1,.int .i64 o2,.int .i64 o3,.slice lp pl.length lc] 49
 have hs1:=Go.Proofs.Sep.boxT hs0 #[.int .i64 a0,.int .i64 a1,.int .i64 a2,.int .i64 a3,.slice none 0 0] 54
 have hs2:=Go.Proofs.Sep.boxT hs1 #[.int .i64 0,.int .i64 0,.int .i64 0,.int .i64 0,.slice none 0 0] 54
 have hz0:(w.alloc (.cells #[.int .i64 o0,.int .i64 o1,.int .i64 o2,.int .i64 o3,.slice lp pl.length lc] 49 (0,0))).heap.size=w.heap.size+1:=by simp
 have hz:((w.alloc (.cells #[.int .i64 o0,.int .i64 o1,.int .i64 o2,.int .i64 o3,.slice lp pl.length lc] 49 (0,0))).alloc (.cells #[.int .i64 a0,.int .i64 a1,.int .i64 a2,.int .i64 a3,.slice none 0 0] 54 (0,0))).heap.size=w.heap.size+1+1:=by simp
 rw [hz0,hz,List.append_assoc,List.append_assoc,OL_app,List.append_assoc] at hs2
 obtain ⟨wa,hwa⟩:∃ wa,((w.alloc (.cells #[.int .i64 o0,.int .i64 o1,.int .i64 o2,.int .i64 o3,.slice lp pl.length lc] 49 (0,0))).alloc (.cells #[.int .i64 a0,.int .i64 a1,.int .i64 a2,.int .i64 a3,.slice none 0 0] 54 (0,0))).alloc (.cells #[.int .i64 0,.int .i64 0,.int .i64 0,.int .i64 0,.slice none 0 0] 54 (0,0))=wa:=⟨_,rfl⟩
 obtain ⟨O,hO⟩:∃ O,w.heap.size=O:=⟨_,rfl⟩
 obtain ⟨B,hB⟩:∃ B,O+1=B:=⟨_,rfl⟩
 obtain ⟨R,hR⟩:∃ R,B+1=R:=⟨_,rfl⟩
 rw [hwa,hO,hB,hR] at hs2
 have HS2:Hid (Sep W (OL L x (sdItems p d st c s++(T++([BoxA O #[.int .i64 o0,.int .i64 o1,.int .i64 o2,.int .i64 o3,.slice lp pl.length lc] 49,BoxA B #[.int .i64 a0,.int .i64 a1,.int .i64 a2,.int .i64 a3,.slice none 0 0] 54,BoxA R #[.int .i64 0,.int .i64 0,.int .i64 0,.int .i64 0,.slice none 0 0] 54]++[])))) wa):=hs2
 have hc8:=hc.toSd8
 have HC:=Lib.hid hc
 have HG:Hid (MgG N S):=g
 have HBK:=Lib.hid hbk
 have HST:Hid (L[ist]? = some (StoreB st d m sl pos num)):=hist
 have HMG:Hid (L[jm]? = some (MgrA (pt m) S)):=hjm
 have HN1:=Lib.hid h1
 have HN2:=Lib.hid h2
 have HN3:=Lib.hid h3
 have HJ:=Lib.hid hj
 have HM:=Lib.hid hm
 obtain ⟨bh,hbh⟩:∃ bh,bgH s j=bh:=⟨_,rfl⟩
 have HBH:=Lib.hid hbh
 obtain ⟨⟨e0,e1,e2,e3,e4⟩,_⟩:=box5 HS2.out (sdC_box hc8).1
 clear hs0 hs1 hs2 hz0 hz h hist hjm hc g h1 h2 h3 hbk hj hbh hm
 go_enter Tryz.func51,Tryz.ntmps51
 subst hk2
 have HSd:Hid (Sep W (OL L x (sdItems p d st c s++(T++([BoxA O #[.int .i64 2,.int .i64 o1,.int .i64 o2,.int .i64 o3,.slice lp pl.length lc] 49,BoxA B #[.int .i64 a0,.int .i64 a1,.int .i64 a2,.int .i64 a3,.slice none 0 0] 54,BoxA R #[.int .i64 0,.int .i64 0,.int .i64 0,.int .i64 0,.slice none 0 0] 54]++[])))) wa.drew):=HS2.out.up (below_drewN (Below.refl wa.heap.size wa) 1)
 obtain ⟨q1,q2,d2,d3,_⟩:=sdC_facts HSd.out HC.out HBK.out
 rw [HBH.out] at q2
 have HRD:=Lib.hid (stRead1 HSd ist (by rw [sdT_old hil HN1.out];exact HST.out) jm (by rw [sdT_old hml HN2.out];exact HMG.out) HN3.out HG.out hN bh o2 o3 io2 io3)
 go_upto_region 3 with fail
 try rw [hwa]
 try rw [hO]
 try rw [hB]
 try rw [hR]
 clear hwa hO hB hR HS2 e0 e1 e2 e3 e4
 refine wp_regionG (fun W=>W.cell? ⟨p,1,none⟩=some (pt st)∧W.cell? ⟨bk,0,none⟩=some (.int .i64 bh)∧W.cell? ⟨O,2,none⟩=some (.int .i64 o2)∧W.cell? ⟨O,3,none⟩=some (.int .i64 o3)) (n:=21) (by kernel_rfl) (by kernel_rfl) ?_
 generalize wa.drew=wd at *
 refine wpG.tk 0 ?_
 refine wpG.tk 1 ?_
 refine wpG.tk 2 ?_
 refine wpG.tk 3 ?_ (hy:=by intro W hW;have hld0:=hW.1;go_simp;try with_reducible rfl)
 refine wpG.tk 4 ?_
 refine wpG.tk 5 ?_
 refine wpG.tk 6 ?_
 refine wpG.tk 7 ?_ (hy:=by intro W hW;have hld0:=hW.2.1;go_simp;try with_reducible rfl)
 refine wpG.tk 8 ?_
 refine wpG.tk 9 ?_ (hy:=by intro W hW;have hld0:=hW.2.2.1;go_simp;try with_reducible rfl)
 refine wpG.tk 10 ?_
 refine wpG.tk 11 ?_ (hy:=by intro W hW;have hld0:=hW.2.2.2;go_simp;try with_reducible rfl)
 refine wpG.tk 12 ?_
 refine wpG.alone 13 rfl (by kernel_rfl) (by kernel_rfl) ⟨q1,q2,d2,d3⟩ (fun K hK=>?_)
 go_simp
 go_at_call 95
 refine (HRD.out).mono ?_
 rintro e w3 ⟨dp,dn,dc,cd,bs,rfl,HDL,hS3⟩
 have hs3:=hS3.out
 rw [OL_setOld hml HN2.out,OL_app,List.append_assoc,List.append_assoc,List.append_assoc] at hs3
 obtain ⟨L1,hL1⟩:∃ L1,L.set jm (MgrA (pt m) (rdNext S bh ⟨o2,o3⟩))=L1:=⟨_,rfl⟩
 obtain ⟨S1,hS1⟩:∃ S1,rdNext S bh ⟨o2,o3⟩=S1:=⟨_,rfl⟩
 rw [hL1] at hs3
 have HLM:Hid (L.set jm (MgrA (pt m) S1)=L1):=by show _=_;rw [← hL1,hS1]
 have HT:Hid (callDo s S i j ⟨2,o1,o2,o3,pl⟩=(s,S1,true)):=by
  show _=_
  unfold callDo
  rw [if_pos rfl,HBH.out]
  show (s,rdNext S bh ⟨o2,o3⟩,true)=_
  rw [hS1]
 have HX1:Hid (x < L1.length):=by show _ < _;rw [← hL1,List.length_set];exact hxl
 obtain ⟨r1,r2,r3,r4,_,v1,v4,f1,f4⟩:=sdC_facts hs3 HC.out HBK.out
 rw [HBH.out] at r2
 have hs4:=hs3.box_store _ (sdC_box hc8).2.1 4 (.slice dp dn dc)
 rw [(sdC_set hc8 _).1] at hs4
 obtain ⟨t1,t2,t3,t4,_,y1,y4,g1,g4⟩:=sdC_facts hs4 HC.out HBK.out
 rw [HBH.out] at t2
 have hs5:=hs4.box_store _ (sdC_box hc8).2.1 1 (.int .i64 cd)
 rw [(sdC_set hc8 _).1] at hs5
 obtain ⟨m1,m2,m3,m4,_⟩:=sdC_facts hs5 HC.out HBK.out
 rw [HBH.out] at m2
 have HS9:Hid (Sep W (OL L1 x (sdItems p d st c s++(T++([BoxA O #[.int .i64 2,.int .i64 o1,.int .i64 o2,.int .i64 o3,.slice lp pl.length lc] 49,BoxA B #[.int .i64 a0,.int .i64 cd,.int .i64 a2,.int .i64 a3,.slice dp dn dc] 54,BoxA R #[.int .i64 0,.int .i64 0,.int .i64 0,.int .i64 0,.slice none 0 0] 54]++[BytesWA (.slice dp dn dc) bs])))) ((w3.setCell ⟨B,4,none⟩ (.slice dp dn dc)).setCell ⟨B,1,none⟩ (.int .i64 cd))):=hs5
 clear hs3 hs4 hs5 hS3 HRD HSd hL1 hS1 q1 q2 d2 d3
 try go_simp
 refine hK _ _ ?_
 clear hK K
 refine wpG.tk 14 ?_
 refine wpG.tk 15 ?_
 refine wpG.tk 16 ?_
 refine wpG.tk 17 ?_
 refine wpG.alone 18 rfl (by kernel_rfl) (by kernel_rfl) ⟨r1,r2,r3,r4⟩ (fun K hK=>?_)
 go_simp
 try go_simp
 refine hK _ _ ?_
 clear hK K
 refine wpG.tk 19 ?_
 refine wpG.alone 20 rfl (by kernel_rfl) (by kernel_rfl) ⟨t1,t2,t3,t4⟩ (fun K hK=>?_)
 go_simp
 try go_simp
 refine hK _ _ ?_
 clear hK K
 refine wpG.done (by kernel_rfl) ⟨m1,m2,m3,m4⟩ ?_
 clear r1 r2 r3 r4 v1 v4 f1 f4 t1 t2 t3 t4 y1 y4 g1 g4 m1 m2 m3 m4
 generalize (w3.setCell ⟨B,4,none⟩ (.slice dp dn dc)).setCell ⟨B,1,none⟩ (.int .i64 cd)=w9 at *
 obtain ⟨s1,hs1⟩:∃ s1,s=s1:=⟨_,rfl⟩
 rw [hs1] at HS9
 have HT1:Hid (callDo s S i j ⟨2,o1,o2,o3,pl⟩=(s1,S1,true)):=by rw [← hs1];exact HT
 have hd8:Sd8 c s1:=by rw [← hs1];exact hc8
 clear hs1 HT
 clear hN
 go_upto_region 12 with fail
 all_goals
  obtain ⟨⟨b0,b1,b2,b3,b4⟩,_⟩:=box5 HS9.out (sdC_box hd8).2.1
  obtain ⟨⟨y0,y1,y2,y3,y4⟩,⟨f0,f1,f2,f3,f4⟩⟩:=box5 HS9.out (sdC_box hd8).2.2
  have hs10:=box_fill5 HS9.out (sdC_box hd8).2.2 (.int .i64 a0) (.int .i64 cd) (.int .i64 a2) (.int .i64 a3) (.slice dp dn dc)
  rw [(sdC_set hd8 _).2] at hs10
  obtain ⟨F,hF,_⟩:=hs10.get _ (sdC_box hd8).2.2
  have HF:=Lib.hid hF.2
  have HS10:=Lib.hid (sdC_drop hs10)
  clear hs10 hF HS9
  go_wp2_with fail
  (try simp only [Exit.inBlock,Exit.then])
  refine ret_cell_two rfl (b:=R) (t:=54) (fr:=(0,0)) rfl (cs:=#[.int .i64 a0,.int .i64 cd,.int .i64 a2,.int .i64 a3,.slice dp dn dc]) HF.out (Tryz.underlying54) rfl (by kernel_rfl) rfl rfl (CallPost.of HT1.out HLM.out HDL.out HS10.out)
end
end Go.Proofs
