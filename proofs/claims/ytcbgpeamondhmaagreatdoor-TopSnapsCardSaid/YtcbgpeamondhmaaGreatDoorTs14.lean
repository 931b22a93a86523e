/- Texts of this claim, one behind the other: R20O, TopW2. -/
import Derived.Deep.RegionHeld3
import Derived.Lib.Hide
import Derived.Test.YtcbgpeamondhmaaGreatDoorTs13
namespace Go.Proofs
open Go.RowKit Sc
theorem SlAt.one {α:Type} {G:Nat→Prop} {k:Nat} {E:Elem α} {w:World} {p:Option Addr} {n c:Nat} {l:List α} (h:SlAt G k E w (.slice p n c) l):∃ b o,∀ i (h:i < l.length),p=some ⟨b,o,none⟩∧G b∧E w b (o+i * k) l[i]:=by
 rcases h.base with ⟨rfl,_⟩ | ⟨b,o,c',e,_,_,_,h1,h2⟩
 ·exact ⟨0,0,fun i hi=>absurd hi (Nat.not_lt_zero _)⟩
 ·cases e
  exact ⟨b,o,fun i hi=>⟨rfl,h1,h2 i hi⟩⟩
set_option maxHeartbeats 1000000 in
theorem wrote20_any (st bg tm fr up:Int) (rp pp:Option Addr) (rn rc pn pc:Nat) (w:World) (hpn:pn≤9223372036854775807) :
  Calls Tryz.prog 27 #[.agg #[.int .i64 st,.int .i64 bg,.int .i64 tm,.int .i64 fr,.int .i64 up,.slice rp rn rc,.slice pp pn pc]] w fun e w'=>e=.returned (.bool (decide (st=3) && decide (0 < pn)))∧Below w.heap.size w w':=by
 by_cases h1:st=3
 ·subst h1
  by_cases h2:0 < pn
  ·have h2':(0:Int) < (pn:Int):=by omega
   rw [decide_eq_true h2]
   go_enter Tryz.func27,Tryz.ntmps27
   go_wp2
   go_ret
   exact ⟨rfl,below_alloc _ _⟩
  ·have h2':¬ (0:Int) < (pn:Int):=by omega
   rw [decide_eq_false h2]
   go_enter Tryz.func27,Tryz.ntmps27
   go_wp2
   go_ret
   exact ⟨rfl,below_alloc _ _⟩
 ·have h1':(st == 3)=false:=by rw [beq_eq_false_iff_ne];exact h1
  rw [decide_eq_false h1]
  go_enter Tryz.func27,Tryz.ntmps27
  go_wp2
  go_ret
  exact ⟨rfl,below_alloc _ _⟩
theorem Sep.row_fresh {W w:World} {L:List Asn} (h:Sep W (OldA W :: L) w) (i:Nat) {T k n:Nat} {v:Value} {xs:List Value} (hi:L[i]? = some (RowA T k v n xs)):w.ownsRow W.heap.size T k v n xs:=by
 obtain ⟨F,G,h1,h2,hd,_⟩:=h.two (i+1) 0 (by omega) (A:=RowA T k v n xs) (B:=OldA W) hi rfl
 refine ⟨h1.1.1,h1.1.2.imp id fun ⟨g,cap,cur,e1,_,e2⟩=>⟨g,cap,cur,e1,?_,e2⟩⟩
 rcases Nat.lt_or_ge g W.heap.size with hh | hh
 ·exact absurd (h2.1 g hh) (hd g (h1.2 g (by rw [e1];rfl)))
 ·exact hh
def OrderSaid (l:List Hist) (w:World) (e:Ending) (w':World):Prop:=∃ v,e=.returned v∧IntsAt (New w w') w' v ((ordI l).map fun i:Nat=>(i:Int))∧Below w.heap.size w w'
set_option maxRecDepth 100000 in
set_option maxHeartbeats 8000000 in
theorem refOrder_any (G:Nat→Prop) (v:Value) (l:List Hist) (w:World) (hv:HistsAt G w v l) (hl:l.length≤1000) :
  Calls Tryz.prog 9 #[v] w (OrderSaid l w):=by
 have hv':=hv
 obtain ⟨p,c,rfl,h1,h2,h3,h4⟩:=hv
 obtain ⟨b,o,hC⟩:=SlAt.one (E:=histE G) (k:=7) hv'
 have HC:=Lib.hid hC
 clear h1 h2 h3 h4 hC hv'
 have hS0:=(Sep.start w).new (Below.refl _ _) (RowA 3 1 (.slice none 0 0) 0 []) (F:=fun _=>False) (fun _ h=>h.elim) ⟨World.ownsRow_nil _ _ _ _,by simp [Value.ownBlock]⟩
 have HS0:=Lib.hid hS0
 clear hS0
 go_enter Tryz.func9,Tryz.ntmps9
 go_wp2_with fail
 go_loopw [3,4] (fun s3 s4 wr=>∃ k n:Nat,∃ po co,∃ os:List Nat,k≤l.length∧n≤k∧s4=.int .i64 k∧s3=.slice po n co∧Hid (os.length=n∧OrdTo l k os)∧Hid (Sep w [OldA w,RowA 3 1 (.slice po n co) n (os.map vN)] wr)) (fun _ i _=>l.length - (intOf i).toNat)
 case atStart=>exact ⟨0,0,none,0,[],Nat.zero_le _,Nat.le_refl _,rfl,rfl,⟨rfl,OrdTo.start l⟩,HS0.out⟩
 case round =>
  obtain ⟨k,n,po,co,os,hk,hnk,rfl,rfl,HO,HS⟩:=hrel
  clear HS0
  by_cases hlt:k < l.length
  case neg =>
   have hkl:k=l.length:=by omega
   have HKL:=Lib.hid hkl
   clear hkl
   go_wp2
   go_ret
   refine ⟨_,rfl,?_,HS.out.old⟩
   have ho:=HO.out.2
   rw [HKL.out] at ho
   have e:=ho.done
   have hlen:=HO.out.1
   have hrow:=Sep.row_fresh HS.out 0 rfl
   rw [e] at hrow hlen
   have hmap:(ordI l).map vN=((ordI l).map fun i:Nat=>(i:Int)).map (Value.int .i64):=by rw [List.map_map];rfl
   rw [hmap] at hrow
   refine intsAt_own (New w _) (by rw [List.length_map];exact hlen) (fun x hx=>?_) (fun q h1 h2=>⟨h1,h2⟩) hrow
   obtain ⟨i,hi,rfl⟩:=List.mem_map.1 hx
   obtain ⟨hi',_⟩:=mem_ordI.1 hi
   unfold I64;omega
  case pos =>
   obtain ⟨rfl,_,hc0,hc1,hc2,hc3,hc4,hi,⟨rv,hc5,hrd⟩,pv,hc6,hpd⟩:=HC.out k hlt
   obtain ⟨rp,rc,rfl,hr1,hr2,hr3,hr4⟩:=hrd
   obtain ⟨pp,pc,rfl,hp1,hp2,hp3,hp4⟩:=hpd
   clear hr3 hr4 hp3 hp4
   have ht:=timeAt_lt hlt
   have hw:wroteAt l k=(decide (l[k].state=3) && decide (0 < l[k].puts.length)):=by unfold wroteAt;rw [List.getElem?_eq_getElem hlt];rfl
   have hup:=HS.out.old
   replace hc0:=cell_up hup hc0
   replace hc1:=cell_up hup hc1
   replace hc2:=cell_up hup hc2
   replace hc3:=cell_up hup hc3
   replace hc4:=cell_up hup hc4
   replace hc5:=cell_up hup hc5
   replace hc6:=cell_up hup hc6
   generalize l[k].state=st at *
   generalize l[k].begun=bg at *
   generalize l[k].time=tm at *
   generalize l[k].since=fr at *
   generalize l[k].upto=up at *
   generalize l[k].reads.length=rn at *
   generalize l[k].puts.length=pn at *
   have hwr:=fun W=>wrote20_any st bg tm fr up rp pp rn rc pn pc W (by omega)
   obtain ⟨q,hq⟩:∃ q,q=(decide (st=3) && decide (0 < pn)):=⟨_,rfl⟩
   rw [← hq] at hw hwr
   have HWR:=Lib.hid hwr
   have HW:=Lib.hid hw
   have HT:=Lib.hid ht
   have HUP:=Lib.hid hup
   have HQ:=Lib.hid hq
   clear hwr hw ht hup hq
   clear hi hr1 hr2 hp1 hp2
   cases q with
   | false =>
    go_wp2_with fail
    refine (HWR.out _).mono ?_
    rintro e w1 ⟨rfl,hb1⟩
    have hS1:=HS.out.up hb1
    have HB1:=Lib.hid hb1
    have HS1:=Lib.hid hS1
    clear hb1 hS1
    go_wp2_with fail
    go_roundw
    case rel=>exact ⟨k+1,n,po,co,os,by omega,by omega,by go_num,rfl,⟨HO.out.1,HO.out.2.skip HW.out⟩,HS1.out⟩
    case measure=>simp [intOf];omega
   | true =>
    go_wp2_with fail
    refine (HWR.out _).mono ?_
    rintro e w1 ⟨rfl,hb1⟩
    have hS1:=HS.out.up hb1
    have hk2:=cell_up hb1 hc2
    have HB1:=Lib.hid hb1
    have HS1:=Lib.hid hS1
    clear hb1 hS1
    clear hc0 hc1 hc2 hc3 hc4 hc5 hc6
    go_wp2_with fail
    go_loopw [5] (fun s5 wr=>∃ a:Nat,s5=.int .i64 a∧a≤n∧Hid (∀ j,a≤j→∀ hj:j < os.length,timeAt l k < timeAt l os[j])∧Hid (Sep w [OldA w,RowA 3 1 (.slice po n co) n (os.map vN)] wr)∧Hid (wr.cell? ⟨b,o+k * 7+2,none⟩=some (.int .i64 tm))) (fun i _=>(intOf i).toNat)
    case atStart=>exact ⟨n,rfl,Nat.le_refl _,fun j h1 hj=>absurd hj (by have:=HO.out.1;omega),HS1.out,hk2⟩
    case round =>
     obtain ⟨a,rfl,han,HA,HS2,HK2⟩:=hrel
     have hck:=HK2.out
     clear HS1 HS
     by_cases ha0:a=0
     case' pos =>
      have hcond:Hid (a=0∨timeAt l (os.getD (a - 1) 0)≤timeAt l k):=Or.inl ha0
      have haz:¬ (0:Int) < (a:Int):=by omega
      have hazd:decide (0 < a)=false:=decide_eq_false (by omega)
      have hazn:¬ 0 < a:=by omega
      clear ha0
      go_wp2_with fail
      go_quiet (fail)
     case' neg =>
      obtain ⟨a',ha'⟩:∃ a',a' + 1=a:=⟨a - 1,by omega⟩
      have haz:(0:Int) < (a:Int):=by omega
      have hazn:0 < a:=by omega
      have ham:(a:Int) - 1=(a':Int):=by omega
      obtain ⟨F2,hF2,_⟩:=HS2.out.get 1 rfl
      obtain ⟨gr,cr,he,_⟩:=hF2.1.form (by omega)
      cases he
      clear hF2
      have hon:=HO.out.1
      have hao:a' < os.length:=by omega
      have hrc:=(HS2.out.row_cell 1 rfl a' (by omega)).1
      rw [List.getElem?_map,List.getElem?_eq_getElem hao,Option.map_some] at hrc
      have hx:=HO.out.2.lt _ (List.getElem_mem hao)
      have hga:os.getD (a - 1) 0=os[a']:=by rw [show a - 1=a' by omega];simp [hao]
      have hxl:os[a'] < l.length:=by omega
      obtain ⟨hy0,hy1,hy2,hy3,hxc,hy4⟩:=HC.out os[a'] hxl
      clear hy0 hy1 hy2 hy3 hy4
      have hxt:=timeAt_lt hxl
      replace hxc:=cell_up HS2.out.old hxc
      have HAN:Hid (∀ j,a'≤j→∀ hj:j < os.length,timeAt l k < timeAt l os[a']→timeAt l k < timeAt l os[j]):=fun j h1 hj h2=>by
       by_cases e:j=a'
       ·subst e;exact h2
       ·exact HA.out j (by omega) hj
      have HTX:Hid (timeAt l (os.getD (a - 1) 0)=l[os[a']].time):=by rw [hga];exact hxt
      rw [hxt] at HAN
      clear hga hxt
      generalize l[os[a']].time=tx at *
      generalize os[a']=x at *
      unfold vN at hrc
      by_cases htt:tm < tx
      ·go_wp2_with fail
       go_quiet (fail)
       go_wp2_with fail
       go_roundw
       case rel=>exact ⟨a',by go_num,by omega,fun j h1 hj=>HAN.out j h1 hj (by rw [HT.out];exact htt),HS2.out.up (below_drewN (Below.refl _ _) _),HK2.out⟩
       case measure=>simp [intOf];omega
      have htn:decide (tm < tx)=false:=decide_eq_false htt
      have hcond:Hid (a=0∨timeAt l (os.getD (a - 1) 0)≤timeAt l k):=Or.inr (by rw [HTX.out,HT.out];omega)
      go_wp2_with fail
      go_quiet (fail)
      clear HTX HAN hxc hrc hx hxl hao
     all_goals
      have HS8:=Lib.hid (HS2.out.up (below_drewN (Below.refl _ _) nq))
      have HK8:Hid ((wr.drewN nq).cell? ⟨b,o+k * 7+2,none⟩=some (.int .i64 tm)):=HK2.out
      clear HS2 HK2 hck
      clear haz hazn
      obtain ⟨FA,hFA,_⟩:=HS8.out.get 1 rfl
      have hrowA:=hFA.1
      obtain ⟨iiA,hiiA,hizA,hiyA,hixA⟩:=info_parts infoInt
      have HROWA:=Lib.hid hrowA
      clear hFA hrowA
      go_wp2_with (at_builtin;refine wpList_append_lies _ rfl _ _ 30 rfl 0 3 iiA (.int .i64 0) 1 8 Tryz.underlying30 hiiA hizA hiyA hixA rfl (by decide) _ (n) (os.map vN) rfl (HROWA.out.alloc _) ⟨(wr.drewN nq).heap.size,0,none⟩ 1 1 [.int .i64 0] rfl rfl (World.news_of_block (cs:=#[.int .i64 0]) (heap_alloc_new (wr.drewN nq) _)) (by simp [Value.oneCell']) (by decide) (by unfold maxLen;omega) (by omega) (Nat.zero_le _) ((wr.drewN nq).heap.size+1) (by simp) ?_;intro gA cA wA hownA hgrowA hatA hltA)
      have hSA:=HS8.out.row_app 1 rfl (below_alloc _ _) hownA hgrowA hatA (by simp) hltA
      clear hownA hgrowA hatA hltA hiiA hizA hiyA hixA
      obtain ⟨W8,rfl⟩:∃ W8:World,W8=wr:=⟨_,rfl⟩
      have hcsA:os.map vN++[.int .i64 0]=(os.take n++0 :: os.drop n).map vN:=by rw [← HO.out.1];exact first_row os
      rw [hcsA] at hSA
      have HSA:=Lib.hid hSA
      clear hSA
      clear hcsA
      go_wp2_with fail
      go_loopw [6] (fun s6 wr=>∃ q g:Nat,s6=.int .i64 q∧a≤q∧q≤n∧Hid (Sep w [OldA w,RowA 3 1 (.slice (some ⟨gA,0,none⟩) (n+1) cA) (n+1) ((os.take q++g :: os.drop q).map vN)] wr)) (fun i _=>(intOf i).toNat)
      case atStart=>exact ⟨n,0,by go_num,han,Nat.le_refl _,HSA.out⟩
      case round =>
       obtain ⟨q,g,rfl,haq,hqn,HS9⟩:=hrel
       clear HSA HS8
       by_cases hqa:a < q
       ·obtain ⟨q',rfl⟩:∃ q',q=q' + 1:=⟨q - 1,by omega⟩
        have hqz:((q' + 1:Nat):Int) - 1=(q':Int):=by omega
        have hqw:IntKind.i64.wrap (q':Int)=(q':Int):=by rw [IntKind.wrap_i64];omega
        have hon:=HO.out.1
        have hqo:q' < os.length:=by omega
        have hrc:=(HS9.out.row_cell 1 rfl q' (by omega)).1
        rw [shift_get os q' g hqo] at hrc
        have hst:=HS9.out.row_cell 1 rfl (q' + 1) (by omega)
        have hst0:∃ u,((os.take (q' + 1)++g :: os.drop (q' + 1)).map vN)[q' + 1]? = some u:=⟨_,List.getElem?_eq_getElem (by rw [List.length_map,put_len _ _ _ (by omega)];omega)⟩
        obtain ⟨u,hu⟩:=hst0
        obtain ⟨hst1,hst2⟩:=hst
        rw [hu] at hst1
        have hS10:=HS9.out.row_set 1 rfl (q' + 1) (vN os[q'])
        rw [shift_set os q' g hqo] at hS10
        have hqe:(((q' + 1:Nat):Int)).toNat=q' + 1:=by omega
        unfold vN at hrc
        have hvn:vN os[q']=.int .i64 (os[q']:Int):=rfl
        rw [hvn] at hS10
        have HX:Hid (∃ x,x=os[q']):=⟨_,rfl⟩
        generalize os[q']=x at hrc hS10
        have HS10:=Lib.hid hS10
        clear hS10
        clear hu hvn HX
        go_wp2_with fail
        go_roundw
        case rel=>exact ⟨q',x,by go_num,by omega,by omega,HS10.out⟩
        case measure=>simp [intOf] <;> omega
       ·obtain rfl:q=a:=by omega
        have hst:=HS9.out.row_cell 1 rfl q (by omega)
        have hst0:∃ u,((os.take q++g :: os.drop q).map vN)[q]? = some u:=⟨_,List.getElem?_eq_getElem (by rw [List.length_map,put_len _ _ _ (by have:=HO.out.1;omega),HO.out.1];omega)⟩
        obtain ⟨u,hu⟩:=hst0
        obtain ⟨hst1,hst2⟩:=hst
        rw [hu] at hst1
        have hS10:=HS9.out.row_set 1 rfl q (vN k)
        rw [end_set os q g k (by have:=HO.out.1;omega)] at hS10
        unfold vN at hS10
        have HO10:Hid ((os.take q++k :: os.drop q).length=n+1∧OrdTo l (k+1) (os.take q++k :: os.drop q)) :=
         ⟨by rw [put_len _ _ _ (by have:=HO.out.1;omega),HO.out.1],HO.out.2.put HW.out (by have:=HO.out.1;omega) hcond.out HA.out⟩
        have hqq:¬ (q:Int) < (q:Int):=by omega
        have HS10:=Lib.hid hS10
        clear hS10
        clear hu
        go_wp2_with fail
        go_roundw
        case rel=>exact ⟨k+1,n+1,_,_,_,by omega,by omega,by go_num,rfl,HO10,HS10.out⟩
        case measure=>simp [intOf];omega
end Go.Proofs
namespace Go.Proofs
open Go.RowKit Sc
theorem wpList_make_wanted {P:Program} (w:World) {ops:Array Oper} {rest:List Oper} {o:Oper} {a:Act} {Q:Exit→Act→World→Prop}
  (hg:Region.wanted o (yielded ops a.tmps)=true) (l c:Operand) (t:TypeId) (hop:o.op=Op.makeSlice t l c)
  (base:Nat) (e:TypeId) (i:TypeInfo) (z:Value) (size:Nat) (h1:P.underlying t=some (.slice e)) (h2:P.info? e=some i) (h3:i.zero=some z) (h4:i.size=size)
  (kl kc:IntKind) (L C:Int) (n:Nat) (hl:a.eval l=.int kl L) (hc:a.eval c=.int kc C) (hL:L=(n:Int)) (hC:C=(n:Int)) (b2:i.bytes * n≤281474976710656) (b3:n≤maxLen) (b4:base≤w.heap.size)
  (hK:∀ w',w'.ownsRow base e size (.slice (some ⟨w.heap.size,0,none⟩) n n) n (madeCells z.cells (n * size)).toList→w.grownBy w' none→wpList P ops Q rest (a.put o.dst (.slice (some ⟨w.heap.size,0,none⟩) n n)) w') :
  wpList P ops Q (o :: rest) a w:=by
 refine wpList_step fun K hK'=>?_
 rw [if_pos hg]
 obtain ⟨w',hrun,r1,r2⟩:=run_make_full (P:=P) w base t e i z size h1 h2 h3 h4 kl kc n b2 b3 b4
 subst hL
 subst hC
 unfold Oper.wp
 simp [execOp,hop,hl,hc,hrun,Result.andThen]
 exact hK' _ _ (hK w' r1 r2)
theorem hist_at {G:Nat→Prop} {w0 w:World} {pr:Option Addr} {n cr:Nat} {hs:List Hist} (H:HistsAt G w0 (.slice pr n cr) hs) (hb:Below w0.heap.size w0 w) (i:Nat) {x:Hist} (hx:hs[i]? = some x) :
  ∃ b o,pr=some ⟨b,o,none⟩∧(w.cell? ⟨b,o+i * 7+1,none⟩=some (.int .i64 x.begun)∧w.cell? ⟨b,o+i * 7+2,none⟩=some (.int .i64 x.time)) ∧
   (∃ rp rc,w.cell? ⟨b,o+i * 7+5,none⟩=some (.slice rp x.reads.length rc)∧ReadsAt G w (.slice rp x.reads.length rc) x.reads∧x.reads.length≤9223372036854775807) ∧
   ∃ pp pc,w.cell? ⟨b,o+i * 7+6,none⟩=some (.slice pp x.puts.length pc)∧PutsAt G w (.slice pp x.puts.length pc) x.puts∧x.puts.length≤9223372036854775807:=by
 obtain ⟨hi,rfl⟩:=List.getElem?_eq_some_iff.1 hx
 obtain ⟨p,c,e,_,_,_,h4⟩:=H
 cases e
 obtain ⟨b,o,e1,hbg,c0,c1,c2,c3,c4,c5,⟨rv,c6,hr⟩,pv,c7,hp⟩:=h4 i hi
 have hr2:=SlAt.up hr (fun w b o ⟨h1,h2,⟨v,h3,h4⟩,h5⟩=>⟨cell_up hb h1,h2,⟨v,cell_up hb h3,h4.up hb⟩,cell_up hb h5⟩)
 have hp2:=hp.up hb
 obtain ⟨rp,rc,e2,hr1,hr3,_⟩:=id hr2
 obtain ⟨pp,pc,e3,hp1,hp3,_⟩:=id hp2
 subst e2
 subst e3
 exact ⟨b,o,e1,⟨cell_up hb c1,cell_up hb c2⟩,⟨rp,rc,cell_up hb c6,hr2,by omega⟩,pp,pc,cell_up hb c7,hp2,by omega⟩
theorem int_at {G:Nat→Prop} {w0 w:World} {op:Option Addr} {n oc:Nat} {l:List Int} (H:IntsAt G w0 (.slice op n oc) l) (hb:Below w0.heap.size w0 w) (i:Nat) (hi:i < l.length):∃ b o,op=some ⟨b,o,none⟩∧w.cell? ⟨b,o+i,none⟩=some (.int .i64 l[i]):=by
 obtain ⟨p,c,e,_,_,_,h4⟩:=H
 cases e
 obtain ⟨b,o,e1,_,h5,_⟩:=h4 i hi
 rw [Nat.mul_one] at h5
 exact ⟨b,o,e1,cell_up hb h5⟩
theorem put_at {G:Nat→Prop} {w:World} {pp:Option Addr} {n pc:Nat} {l:List Put} (H:PutsAt G w (.slice pp n pc) l) (i:Nat) (hi:i < l.length):∃ b o,pp=some ⟨b,o,none⟩∧w.cell? ⟨b,o+i * 2,none⟩=some (.int .i64 l[i].lba)∧∃ dp dc,w.cell? ⟨b,o+i * 2+1,none⟩=some (.slice dp l[i].data.length dc)∧BytesAt G w (.slice dp l[i].data.length dc) l[i].data:=by
 obtain ⟨p,c,e,_,_,_,h4⟩:=H
 cases e
 obtain ⟨b,o,e1,_,h5,_,v,h6,h7⟩:=h4 i hi
 obtain ⟨dp,dc,e2,_⟩:=id h7
 subst e2
 exact ⟨b,o,e1,h5,dp,dc,h6,h7⟩
theorem read_at {G:Nat→Prop} {w:World} {pp:Option Addr} {n pc:Nat} {l:List Sc.Read} (H:ReadsAt G w (.slice pp n pc) l) (i:Nat) (hi:i < l.length):∃ b o,pp=some ⟨b,o,none⟩∧w.cell? ⟨b,o+i * 3,none⟩=some (.int .i64 l[i].lba)∧w.cell? ⟨b,o+i * 3+2,none⟩=some (.bool l[i].own)∧∃ dp dc,w.cell? ⟨b,o+i * 3+1,none⟩=some (.slice dp l[i].data.length dc)∧BytesAt G w (.slice dp l[i].data.length dc) l[i].data:=by
 obtain ⟨p,c,e,_,_,_,h4⟩:=H
 cases e
 obtain ⟨b,o,e1,_,h5,_,⟨v,h6,h7⟩,h8⟩:=h4 i hi
 obtain ⟨dp,dc,e2,_⟩:=id h7
 subst e2
 exact ⟨b,o,e1,h5,h8,dp,dc,h6,h7⟩
set_option maxRecDepth 100000 in
set_option maxHeartbeats 32000000 in
theorem topSnaps_any (v:Value) (l:List StepT) (w:World) (hv:StepsT (Old w) w v l) (hw:StrW w):Calls Tryz.prog 3 #[v] w (Tru w):=by
 have hsm:=smallT_any (Old w) v l w hv
 obtain ⟨p0,cp,rfl,_,g2,_,g4⟩:=hv
 have HSM:=Lib.hid hsm
 have HG4:=Lib.hid g4
 have HS0:=Lib.hid (Sep.start w)
 have HW:=Lib.hid hw
 clear hsm g4 hw
 go_enter Tryz.func3,Tryz.ntmps3
 go_wp2_with fail
 refine (HSM.out).mono ?_
 rintro e w1 ⟨q,rfl,hq,hb1⟩
 have HS1:=Lib.hid (HS0.out.up hb1)
 clear HSM hb1 HS0
 cases q with
 | false =>
  have HB1:=Lib.hid HS1.out.old
  have HAW:=Lib.hid (awakeTop w1 (HW.out.up HW.out.z HB1.out))
  clear HS1 hq
  go_wp2_with fail
  refine (HAW.out).mono ?_
  rintro e w2 ⟨rfl,hb2⟩
  have HB2:=Lib.hid (Below.up HB1.out hb2)
  clear hb2
  go_wp2_with fail
  go_ret
  exact ⟨rfl,HB2.out⟩
 | true =>
 have hlen:=(hq rfl).2
 have HQ:=Lib.hid (hq rfl)
 clear hq
 go_wp2_with fail
 refine (topBegin HS1).mono ?_
 rintro e w2 ⟨p,d,st,m,sl,rfl,HS2⟩
 have HR0:Hid (TopR w p d st m sl (128 * 0) (2 * 0) w2):=TopR.of (Q:=⟨List.replicate 8 0,0,0,1,0,0⟩) (s:=sd0) (S:=mgNew 258 0) ⟨BothI.start,rfl,Nat.zero_le _,Nat.le_refl _,Nat.zero_le _,Nat.zero_le _,Nat.zero_le _⟩ HS2.out
 clear HS1 HS2
 go_wp2_with fail
 go_loopw [5] (fun s5 wr=>∃ k:Nat,k≤l.length∧s5=.int .i64 (k:Int)∧Hid (TopR w p d st m sl (128 * k) (2 * k) wr)) (fun s5 _=>l.length - (intOf s5).toNat)
 case atStart=>exact ⟨0,Nat.zero_le _,by go_num,HR0⟩
 case round =>
  clear HR0
  obtain ⟨k,hk,rfl,HR⟩:=hrel
  by_cases hlt:k < l.length
  case pos =>
   have hki:(k:Int) < (l.length:Int):=by omega
   obtain ⟨Q,s,S,HK,HS⟩:=HR.out
   obtain ⟨b,o,rfl,hb,⟨c0,i0,c1,i1⟩,⟨ov,c2,ho⟩,⟨c3,i3⟩,⟨iv,c4,hi4⟩,jv,c5,hj⟩:=HG4.out k hlt
   have hbw:=HS.out.old
   have HOP:=Lib.hid (small_ops HQ.out.1 (List.getElem_mem hlt))
   generalize l[k]=x at *
   obtain ⟨xk,xc,xo,xn,xp,xt⟩:=x
   obtain ⟨op,oc,rfl,_⟩:=OpsAt.shape ho
   obtain ⟨ip,ic,rfl,_⟩:=ints_shape hi4
   obtain ⟨jp,jc,rfl,_⟩:=ints_shape hj
   have d0:=cell_up hbw c0
   have d1:=cell_up hbw c1
   have d2:=cell_up hbw c2
   have d3:=cell_up hbw c3
   have d4:=cell_up hbw c4
   have d5:=cell_up hbw c5
   simp only at d0 d1 d2 d3 d4 d5
   have HST:=Lib.hid (topStep HS HK.out (kd:=xk) (cl:=xc) (n:=xn) (op:=op) (oc:=oc) (pp:=ip) (pl:=xp.length) (pc:=ic) (tp:=jp) (tl:=xt.length) (tc:=jc) (ops:=xo) (by omega) (by omega) ho HOP.out)
   clear ho hi4 hj c0 c1 c2 c3 c4 c5 i0 i1 i3 hbw HR HOP HS HK
   go_wp2_with fail
   refine (HST.out).mono ?_
   rintro e w3 ⟨rfl,hr⟩
   have HR1:Hid (TopR w p d st m sl (128 * (k+1)) (2 * (k+1)) w3):=hr.mono (by omega) (by omega)
   clear hr HST d0 d1 d2 d3 d4 d5
   go_wp2_with fail
   go_roundw
   case rel=>exact ⟨k+1,by omega,by go_num,HR1⟩
   case measure=>simp [intOf];omega
  case neg =>
   obtain rfl:k=l.length:=by omega
   have hki:¬ ((l.length:Int) < (l.length:Int)):=by omega
   obtain ⟨Q,s,S,HK,HS⟩:=HR.out
   obtain ⟨w3,rfl⟩:∃ w3:World,w3=wr:=⟨_,rfl⟩
   have hbl:=HK.out.b.d.bl
   have hnt:=HK.out.nt
   have HH:=Lib.hid (sdHistories HS (x:=5) rfl (ist:=2) (jm:=4) rfl rfl (by decide) (by decide) HK.out.b.v.g (by omega) (by omega) (fun j hj=>HK.out.b.i64 (by omega) hj))
   have HLAW:Hid (∀ (i:Nat) (x:Hist),(hsB s S s.bg.length)[i]? = some x→∀ r∈x.reads,(r.own=false→r.data=wantAll (hsB s S s.bg.length) x.begun r.lba zeroB (ordI (hsB s S s.bg.length)))∧(r.own=true→(x.puts.any fun p=>p.lba == r.lba)=true)):=fun i x hx r hr=>by
    obtain ⟨hi,rfl⟩:=List.getElem?_eq_some_iff.1 hx
    exact HK.out.b.law hi hr
   have HN1:=Lib.hid (hsB_len s S (Nat.le_refl s.bg.length))
   have HN2:Hid (s.bg.length≤1000):=by show _≤_;omega
   clear hbl hnt HR HG4
   go_wp2_with fail
   clear hki
   refine (HH.out).mono ?_
   rintro e w4 ⟨css,pr,cr,rfl,HS4⟩
   obtain ⟨F6,hF6,hD6⟩:=HS4.out.get 6 rfl
   obtain ⟨F7,hF7,hD7⟩:=HS4.out.get 7 rfl
   have hh:=hists_row (G:=fun q=>q < w4.heap.size) hF7 hF6 HN1.out hD7 hD6
   have HB4:=Lib.hid HS4.out.old
   clear hF6 hD6 hF7 hD7 HH HS HK HS4
   obtain ⟨hs,hhs⟩:∃ hs,hsB s S s.bg.length=hs:=⟨_,rfl⟩
   obtain ⟨n,hn⟩:∃ n,s.bg.length=n:=⟨_,rfl⟩
   rw [hhs] at HLAW HN1 hh
   rw [hn] at HN1 HN2 hh
   try rw [hn]
   clear hhs hn
   have HHI:=Lib.hid hh
   have HOR:=Lib.hid (refOrder_any (fun q=>q < w4.heap.size) (.slice pr n cr) hs w4 hh (by rw [HN1.out];exact HN2.out))
   clear hh
   go_wp2_with fail
   refine (HOR.out).mono ?_
   rintro e w5 ⟨ov,rfl,hov,hb5⟩
   have HB5:=Lib.hid hb5
   have HHJ:Hid (HistsAt (fun q=>q < w4.heap.size) w5 (.slice pr n cr) hs):=by
    obtain ⟨p9,c9,e9,q1,q2,q3,q4⟩:=HHI.out
    refine ⟨p9,c9,e9,q1,q2,q3,fun i hi=>?_⟩
    obtain ⟨b,o,e1,hbg,h0,h1,h2,h3,h4,h5,⟨rv,h6,h7⟩,pv,h8,h9⟩:=q4 i hi
    exact ⟨b,o,e1,hbg,cell_up hb5 h0,cell_up hb5 h1,cell_up hb5 h2,cell_up hb5 h3,cell_up hb5 h4,h5,⟨rv,cell_up hb5 h6,SlAt.up h7 (fun w b o ⟨h1,h2,⟨v,h3,h4⟩,h5⟩=>⟨cell_up hb5 h1,h2,⟨v,cell_up hb5 h3,h4.up hb5⟩,cell_up hb5 h5⟩)⟩,pv,cell_up hb5 h8,h9.up hb5⟩
   obtain ⟨om,hom⟩:∃ om,ordI hs=om:=⟨_,rfl⟩
   have HOL:Hid (∀ j (hj:j < om.length),om[j] < hs.length):=fun j hj=>by
    have:=(mem_ordI (l:=hs) (i:=om[j])).1 (by rw [hom];exact List.getElem_mem hj)
    exact this.1
   rw [hom] at hov HLAW
   obtain ⟨op,oc,rfl,hol⟩:∃ op oc,ov=.slice op om.length oc∧om.length≤9223372036854775807:=by
    obtain ⟨a,c,e,h1,h2,_⟩:=id hov
    rw [List.length_map] at e h1
    exact ⟨a,c,e,by omega⟩
   have HOV:=Lib.hid hov
   clear hov hb5 hom HOR HHI
   go_wp2_with fail
   go_loopw [8] (fun s8 wr=>∃ i:Nat,i≤n∧s8=.int .i64 (i:Int)∧Hid (Below w5.heap.size w5 wr)) (fun s8 _=>n - (intOf s8).toNat)
   case atStart=>exact ⟨0,Nat.zero_le _,by go_num,Lib.hid (Below.refl _ _)⟩
   case round =>
    obtain ⟨i,hin,rfl,HB6⟩:=hrel
    by_cases hlt:i < n
    case pos =>
     have hii:(i:Int) < (n:Int):=by omega
     obtain ⟨hx,hhx⟩:∃ x,hs[i]? = some x:=⟨_,List.getElem?_eq_getElem (by rw [HN1.out];exact hlt)⟩
     obtain ⟨hb,ho,rfl,_⟩:=hist_at HHJ.out (Below.refl _ _) i hhx
     obtain ⟨T,hT⟩:∃ T,hx.begun=T:=⟨_,rfl⟩
     obtain ⟨rn,hrn⟩:∃ rn,hx.reads.length=rn:=⟨_,rfl⟩
     obtain ⟨un,hun⟩:∃ un,hx.puts.length=un:=⟨_,rfl⟩
     have HA:Hid (∀ wr,Below w5.heap.size w5 wr→(wr.cell? ⟨hb,ho+i * 7+1,none⟩=some (.int .i64 T))∧(∃ rp rc,wr.cell? ⟨hb,ho+i * 7+5,none⟩=some (.slice rp rn rc)∧ReadsAt (fun q=>q < w4.heap.size) wr (.slice rp rn rc) hx.reads∧rn≤9223372036854775807) ∧
       ∃ pp pc,wr.cell? ⟨hb,ho+i * 7+6,none⟩=some (.slice pp un pc)∧PutsAt (fun q=>q < w4.heap.size) wr (.slice pp un pc) hx.puts∧un≤9223372036854775807):=fun wr hbw=>by
      obtain ⟨b,o,e1,⟨a1,_⟩,⟨rp,rc,a2,a3,a4⟩,pp,pc,a5,a6,a7⟩:=hist_at HHJ.out hbw i hhx
      cases e1
      rw [hT] at a1
      rw [hrn] at a2 a3 a4
      rw [hun] at a5 a6 a7
      exact ⟨a1,⟨rp,rc,a2,a3,a4⟩,pp,pc,a5,a6,a7⟩
     have HRL:Hid (hx.reads.length=rn):=hrn
     have HUL:Hid (hx.puts.length=un):=hun
     have HLW:Hid (∀ r∈hx.reads,(r.own=false→r.data=wantAll hs T r.lba zeroB om)∧(r.own=true→(hx.puts.any fun p=>p.lba == r.lba)=true)):=fun r hr=>by
      have:=HLAW.out i hx hhx r hr
      rw [hT] at this
      exact this
     clear hhx hT hrn hun
     obtain ⟨w6,rfl⟩:∃ w6:World,w6=wr:=⟨_,rfl⟩
     go_wp2_with fail
     go_loopw [9] (fun s9 wr=>∃ k:Nat,k≤rn∧s9=.int .i64 (k:Int)∧Hid (Below w5.heap.size w5 wr)) (fun s9 _=>rn - (intOf s9).toNat)
     case atStart=>exact ⟨0,Nat.zero_le _,by go_num,HB6⟩
     case round =>
      clear HB6
      obtain ⟨k,hkn,rfl,HB7⟩:=hrel
      obtain ⟨a1,⟨rp,rc,a2,a3,a4⟩,pp,pc,a5,a6,a7⟩:=HA.out _ HB7.out
      by_cases hlk:k < rn
      case pos =>
       have hkk:(k:Int) < (rn:Int):=by omega
       have hkr:k < hx.reads.length:=by rw [HRL.out];exact hlk
       obtain ⟨rb,ro,rfl,r0,r2,dp,dc,r1,r3⟩:=read_at a3 k hkr
       have HLR:=Lib.hid (HLW.out _ (List.getElem_mem hkr))
       generalize hx.reads[k]'hkr=r at *
       obtain ⟨rl,rdd,rown⟩:=r
       simp only at r0 r1 r2 r3
       obtain ⟨dn,hdn⟩:∃ dn,rdd.length=dn:=⟨_,rfl⟩
       rw [hdn] at r1 r3
       have HRD:Hid (BytesAt (fun q=>q < w4.heap.size) wr (.slice dp dn dc) rdd):=r3
       have HDN:=Lib.hid hdn
       clear hdn a1 a3 a5 a6 a7 r3 hkr a4
       have hs1:=Go.Proofs.Sep.boxT (Sep.start wr) #[.int .i64 0,.slice none 0 0,.bool false] 42
       obtain ⟨wa,hwa⟩:∃ wa,wr.alloc (.cells #[.int .i64 0,.slice none 0 0,.bool false] 42 (0,0))=wa:=⟨_,rfl⟩
       obtain ⟨X,hX⟩:∃ X,wr.heap.size=X:=⟨_,rfl⟩
       rw [hwa,hX] at hs1
       obtain ⟨F,hF,_⟩:=hs1.get 1 rfl
       have y0:wa.cell? ⟨X,0,none⟩=some (.int .i64 0):=by rw [cell_row hF.2];rfl
       have y1:wa.cell? ⟨X,1,none⟩=some (.slice none 0 0):=by rw [cell_row hF.2];rfl
       have y2:wa.cell? ⟨X,2,none⟩=some (.bool false):=by rw [cell_row hF.2];rfl
       have f0:=fz_row hF.2 0
       have f1:=fz_row hF.2 1
       have f2:=fz_row hF.2 2
       have hs2:=hs1.box_store 1 rfl 0 (.int .i64 rl)
       have hs2':Sep wr [OldA wr,BoxA X #[.int .i64 rl,.slice none 0 0,.bool false] 42] (wa.setCell ⟨X,0,none⟩ (.int .i64 rl)):=hs2
       have hs3:=hs2'.box_store 1 rfl 1 (.slice dp dn dc)
       have hs3':Sep wr [OldA wr,BoxA X #[.int .i64 rl,.slice dp dn dc,.bool false] 42] ((wa.setCell ⟨X,0,none⟩ (.int .i64 rl)).setCell ⟨X,1,none⟩ (.slice dp dn dc)):=hs3
       have hs4:=hs3'.box_store 1 rfl 2 (.bool rown)
       have HS4:Hid (Sep wr [OldA wr,BoxA X #[.int .i64 rl,.slice dp dn dc,.bool rown] 42] (((wa.setCell ⟨X,0,none⟩ (.int .i64 rl)).setCell ⟨X,1,none⟩ (.slice dp dn dc)).setCell ⟨X,2,none⟩ (.bool rown))):=hs4
       clear hs1 hs2 hs2' hs3 hs3' hs4 hF
       go_upto_region 19 with fail
       try rw [hwa]
       try rw [hX]
       clear hwa hX y0 y1 y2 f0 f1 f2 r0 r1 r2 a2
       generalize ((wa.setCell ⟨X,0,none⟩ (.int .i64 rl)).setCell ⟨X,1,none⟩ (.slice dp dn dc)).setCell ⟨X,2,none⟩ (.bool rown)=w7 at *
       have HBX:Hid (∀ w',Below w7.heap.size w7 w'→w'.cell? ⟨X,0,none⟩=some (.int .i64 rl)∧w'.cell? ⟨X,1,none⟩=some (.slice dp dn dc)∧w'.cell? ⟨X,2,none⟩=some (.bool rown)):=fun w' hb'=>by
        obtain ⟨F,hF,_⟩:=HS4.out.get 1 rfl
        exact ⟨cell_up hb' (by rw [cell_row hF.2];rfl),cell_up hb' (by rw [cell_row hF.2];rfl),cell_up hb' (by rw [cell_row hF.2];rfl)⟩
       have HB7':Hid (Below w5.heap.size w5 w7):=Below.up HB7.out HS4.out.old
       have HRW:Hid (BytesAt (fun q=>q < w4.heap.size) w7 (.slice dp dn dc) rdd):=HRD.out.up HS4.out.old
       clear HS4 HRD
       obtain ⟨iiK,hiiK,hizK,hiyK,hixK⟩:=info_parts infoU8
       go_wp2_with (at_make;refine wpList_make_wanted _ (by kernel_rfl) _ _ 40 rfl w7.heap.size 5 iiK (.int .u8 0) 1 Tryz.underlying40 hiiK hizK hiyK _ _ _ _ 40 rfl rfl rfl rfl (by rw [hixK];omega) (by unfold maxLen;omega) (Nat.le_refl _) ?_;intro w8 hownK hgrowK)
       have HDK:Hid (BytesAt (New w7 w8) w8 (.slice (some ⟨w7.heap.size,0,none⟩) 40 40) zeroB):=bytesAt_row (B:=w7.heap.size) (l:=zeroB) _ ⟨Nat.le_refl _,(hownK.lt w7.heap.size rfl).2⟩ (by decide) (Nat.le_refl _) (by omega) (by rw [made_u8] at hownK;exact hownK)
       have HBK:Hid (Below w7.heap.size w7 w8):=(Below.refl _ _).grown hgrowK (Nat.le_refl _) (fun j hj=>by cases hj)
       clear hownK hgrowK hiiK hizK hiyK hixK
       have HB8:Hid (Below w5.heap.size w5 w8):=Below.up HB7'.out HBK.out
       have HX8:Hid (∀ w',Below w8.heap.size w8 w'→w'.cell? ⟨X,0,none⟩=some (.int .i64 rl)∧w'.cell? ⟨X,1,none⟩=some (.slice dp dn dc)∧w'.cell? ⟨X,2,none⟩=some (.bool rown)):=fun w' hb'=>HBX.out w' (Below.up HBK.out hb')
       have HW0:Hid (BytesAt (fun q=>q < w8.heap.size) w8 (.slice (some ⟨w7.heap.size,0,none⟩) 40 40) zeroB):=HDK.out.mono fun q hq=>hq.2
       have HRX:Hid (BytesAt (fun q=>q < w4.heap.size) w8 (.slice dp dn dc) rdd):=HRW.out.up HBK.out
       generalize w7.heap.size=w7z at *
       clear HDK HBK HBX HB7' HRW HB7
       go_loopw [11,13] (fun s11 s13 wr=>∃ j wn:Nat,∃ wp:Option Addr,∃ wc:Nat,j≤om.length∧s13=.int .i64 (j:Int)∧s11=.slice wp wn wc∧Hid (BytesAt (fun q=>q < w8.heap.size) w8 (.slice wp wn wc) (wantAll hs T rl zeroB (om.take j)))∧Hid (Below w8.heap.size w8 wr)) (fun _ s13 _=>om.length - (intOf s13).toNat)
       case atStart=>exact ⟨0,40,_,40,Nat.zero_le _,by go_num,rfl,HW0,Lib.hid (Below.refl _ _)⟩
       case round =>
        clear HW0
        obtain ⟨j,wn,wp,wc,hjn,rfl,rfl,HWV,HBR⟩:=hrel
        have HBJ:Hid (Below w5.heap.size w5 wr):=Below.up HB8.out HBR.out
        by_cases hlj:j < om.length
        case pos =>
         have hjj:(j:Int) < (om.length:Int):=by omega
         obtain ⟨ob,oo,rfl,q1⟩:=int_at HOV.out HBJ.out j (by rw [List.length_map];exact hlj)
         rw [List.getElem_map] at q1
         have hoj:=HOL.out j hlj
         have HSN:=Lib.hid (wantAll_snoc hs T rl zeroB om hlj)
         obtain ⟨oj,hoje⟩:∃ oj,om[j]'hlj=oj:=⟨_,rfl⟩
         have HOJ:=Lib.hid hoje
         rw [hoje] at q1 hoj HSN
         clear hoje
         obtain ⟨h9,hh9⟩:∃ x,hs[oj]? = some x:=⟨_,List.getElem?_eq_getElem hoj⟩
         obtain ⟨_,_,e1,⟨_,t2⟩,_,up,uc,u6,u7,u8⟩:=hist_at HHJ.out HB8.out oj hh9
         cases e1
         have hojn:(oj:Int) < (n:Int):=by have:=HN1.out;omega
         have hgo:hs.getD oj hist0=h9:=by rw [List.getD_eq_getElem?_getD,hh9];rfl
         rw [hgo] at HSN
         obtain ⟨tj,htj⟩:∃ tj,h9.time=tj:=⟨_,rfl⟩
         obtain ⟨pu,hpu⟩:∃ pu,h9.puts=pu:=⟨_,rfl⟩
         rw [htj] at t2 HSN
         rw [hpu] at u6 u7 u8 HSN
         obtain ⟨vn,hvn⟩:∃ vn,pu.length=vn:=⟨_,rfl⟩
         rw [hvn] at u6 u7 u8
         have HVN:=Lib.hid hvn
         have HU7:=Lib.hid u7
         clear hvn u7 htj hpu hgo hoj hh9
         have HQ1:Hid (∀ w',Below w8.heap.size w8 w'→w'.cell? ⟨ob,oo+j,none⟩=some (.int .i64 (oj:Int))∧w'.cell? ⟨hb,ho+oj * 7+2,none⟩=some (.int .i64 tj)∧w'.cell? ⟨hb,ho+oj * 7+6,none⟩=some (.slice up vn uc)):=fun w' hb'=>⟨by
          obtain ⟨_,_,e3,q3⟩:=int_at HOV.out (Below.up HB8.out hb') j (by rw [List.length_map];exact hlj)
          cases e3
          rw [List.getElem_map,HOJ.out] at q3
          exact q3,cell_up hb' t2,cell_up hb' u6⟩
         have q2:=(HQ1.out _ HBR.out).2.2
         clear t2 u6
         obtain ⟨w9,rfl⟩:∃ w9:World,w9=wr:=⟨_,rfl⟩
         go_wp2_with fail
         clear q1 q2
         go_loopw [11,14] (fun s11 s14 wr=>∃ y wn:Nat,∃ wp:Option Addr,∃ wc:Nat,y≤vn∧s14=.int .i64 (y:Int)∧s11=.slice wp wn wc∧Hid (BytesAt (fun q=>q < w8.heap.size) w8 (.slice wp wn wc) (wantRow tj T rl (wantAll hs T rl zeroB (om.take j)) (pu.take y)))∧Hid (Below w8.heap.size w8 wr)) (fun _ s14 _=>vn - (intOf s14).toNat)
         case atStart=>exact ⟨0,wn,wp,wc,Nat.zero_le _,by go_num,rfl,HWV,HBR⟩
         case round =>
          clear HWV HBR
          obtain ⟨y,wn,wp,wc,hyn,rfl,rfl,HWV,HBR⟩:=hrel
          obtain ⟨q1,q2,q3⟩:=HQ1.out _ HBR.out
          obtain ⟨x0,_,_⟩:=HX8.out _ HBR.out
          obtain ⟨t1,_,_⟩:=HA.out _ (Below.up HB8.out HBR.out)
          by_cases hly:y < vn
          case pos =>
           have hyy:(y:Int) < (vn:Int):=by omega
           have hyp:y < pu.length:=by rw [HVN.out];exact hly
           obtain ⟨pb,po,rfl,v0,dp2,dc2,v1,v2⟩:=put_at HU7.out y hyp
           have HRS:=Lib.hid (wantRow_snoc tj T rl (wantAll hs T rl zeroB (om.take j)) pu hyp)
           generalize pu[y]'hyp=z at *
           obtain ⟨zl,zd⟩:=z
           simp only at v0 v1 v2 HRS
           obtain ⟨zn,hzn⟩:∃ zn,zd.length=zn:=⟨_,rfl⟩
           rw [hzn] at v1 v2
           have v0:=cell_up HBR.out v0
           have v1:=cell_up HBR.out v1
           have HV2:Hid (BytesAt (fun q=>q < w8.heap.size) w8 (.slice dp2 zn dc2) zd):=v2.mono fun q hq=>Nat.lt_of_lt_of_le hq (Nat.le_trans HB5.out.size HB8.out.size)
           clear hzn v2 hyp
           by_cases hm:zl=rl
           case pos =>
            have hm1:(zl == rl)=true:=by rw [beq_iff_eq];exact hm
            by_cases ht:tj≤T
            case pos =>
             have ht1:decide (tj≤T)=true:=decide_eq_true ht
             have HE:Hid (wantRow tj T rl (wantAll hs T rl zeroB (om.take j)) (pu.take (y+1))=zd):=by
              have:=HRS.out
              rw [if_pos ⟨hm,ht⟩] at this
              exact this
             clear hm HRS
             go_wp2_with fail
             go_quiet (fail)
             go_wp2_with fail
             go_roundw
             case rel=>exact ⟨y+1,zn,dp2,dc2,by omega,by go_num,rfl,by show BytesAt _ _ _ _;rw [HE.out];exact HV2.out,Lib.hid (below_drewN HBR.out _)⟩
             case measure=>simp [intOf];omega
            case neg =>
             have ht1:decide (tj≤T)=false:=decide_eq_false ht
             have HE:Hid (wantRow tj T rl (wantAll hs T rl zeroB (om.take j)) (pu.take (y+1))=wantRow tj T rl (wantAll hs T rl zeroB (om.take j)) (pu.take y)):=by
              have:=HRS.out
              rw [if_neg (fun hh=>ht hh.2)] at this
              exact this
             clear hm HRS
             go_wp2_with fail
             go_quiet (fail)
             go_wp2_with fail
             go_roundw
             case rel=>exact ⟨y+1,wn,wp,wc,by omega,by go_num,rfl,by show BytesAt _ _ _ _;rw [HE.out];exact HWV.out,Lib.hid (below_drewN HBR.out _)⟩
             case measure=>simp [intOf];omega
           case neg =>
            have hm1:(zl == rl)=false:=by rw [beq_eq_false_iff_ne];exact hm
            have HE:Hid (wantRow tj T rl (wantAll hs T rl zeroB (om.take j)) (pu.take (y+1))=wantRow tj T rl (wantAll hs T rl zeroB (om.take j)) (pu.take y)):=by
             have:=HRS.out
             rw [if_neg (fun hh=>hm hh.1)] at this
             exact this
            clear hm HRS
            go_wp2_with fail
            go_quiet (fail)
            go_wp2_with fail
            go_roundw
            case rel=>exact ⟨y+1,wn,wp,wc,by omega,by go_num,rfl,by show BytesAt _ _ _ _;rw [HE.out];exact HWV.out,Lib.hid (below_drewN HBR.out _)⟩
            case measure=>simp [intOf];omega
          case neg =>
           obtain rfl:y=vn:=by omega
           have hyy:¬ ((y:Int) < (y:Int)):=by omega
           have HWF:Hid (BytesAt (fun q=>q < w8.heap.size) w8 (.slice wp wn wc) (wantAll hs T rl zeroB (om.take (j+1)))):=by
            have h1:=HWV.out
            have e2:pu.take y=pu:=by rw [← HVN.out,List.take_length]
            rw [e2] at h1
            show BytesAt _ _ _ _
            rw [HSN.out]
            exact h1
           clear HWV
           go_wp2_with fail
           go_roundw
           case rel=>exact ⟨j+1,wn,wp,wc,by omega,by go_num,rfl,HWF,HBR⟩
           case measure=>simp [intOf];omega
        case neg =>
         obtain rfl:j=om.length:=by omega
         have hjj:¬ ((om.length:Int) < (om.length:Int)):=by omega
         rw [List.take_length] at HWV
         obtain ⟨w9,rfl⟩:∃ w9:World,w9=wr:=⟨_,rfl⟩
         go_wp2_with fail
         clear hjj
         go_loopw [12,15] (fun s12 s15 wr=>∃ y:Nat,∃ mb:Bool,y≤un∧s15=.int .i64 (y:Int)∧s12=.bool mb∧Hid (mb=(hx.puts.take y).any fun p=>p.lba == rl)∧Hid (Below w8.heap.size w8 wr)) (fun _ s15 _=>un - (intOf s15).toNat)
         case atStart=>exact ⟨0,false,Nat.zero_le _,by go_num,rfl,rfl,HBR⟩
         case round =>
          clear HBR
          obtain ⟨y,mb,hyn,rfl,rfl,HMB,HBR⟩:=hrel
          obtain ⟨_,_,pp,pc,a5,a6,a7⟩:=HA.out _ (Below.up HB8.out HBR.out)
          obtain ⟨x0,x1,x2⟩:=HX8.out _ HBR.out
          by_cases hly:y < un
          case pos =>
           have hyy:(y:Int) < (un:Int):=by omega
           have hyp:y < hx.puts.length:=by rw [HUL.out];exact hly
           obtain ⟨pb,po,rfl,v0,hvx⟩:=put_at a6 y hyp
           have HSA:Hid (((hx.puts.take (y+1)).any fun p=>p.lba == rl)=(mb || (hx.puts[y]'hyp).lba == rl)):=by
            show _=_
            rw [take_snoc _ y hyp,List.any_append,← HMB.out]
            simp
           generalize (hx.puts[y]'hyp).lba=zl at *
           clear hvx a6 hyp x1 x2 HMB
           cases mb with
           | true =>
            have HM2:Hid (true=(hx.puts.take (y+1)).any fun p=>p.lba == rl):=by show _=_;rw [HSA.out];rfl
            clear HSA
            go_wp2_with fail
            go_quiet (fail)
            go_wp2_with fail
            go_roundw
            case rel=>exact ⟨y+1,true,by omega,by go_num,rfl,HM2,Lib.hid (below_drewN HBR.out _)⟩
            case measure=>simp [intOf];omega
           | false =>
            by_cases hm:zl=rl
            case pos =>
             have hm1:(zl == rl)=true:=by rw [beq_iff_eq];exact hm
             have HM2:Hid (true=(hx.puts.take (y+1)).any fun p=>p.lba == rl):=by show _=_;rw [HSA.out,hm1];rfl
             clear HSA hm
             go_wp2_with fail
             go_quiet (fail)
             go_wp2_with fail
             go_roundw
             case rel=>exact ⟨y+1,true,by omega,by go_num,rfl,HM2,Lib.hid (below_drewN HBR.out _)⟩
             case measure=>simp [intOf];omega
            case neg =>
             have hm1:(zl == rl)=false:=by rw [beq_eq_false_iff_ne];exact hm
             have HM2:Hid (false=(hx.puts.take (y+1)).any fun p=>p.lba == rl):=by show _=_;rw [HSA.out,hm1];rfl
             clear HSA hm
             go_wp2_with fail
             go_quiet (fail)
             go_wp2_with fail
             go_roundw
             case rel=>exact ⟨y+1,false,by omega,by go_num,rfl,HM2,Lib.hid (below_drewN HBR.out _)⟩
             case measure=>simp [intOf];omega
          case neg =>
           obtain rfl:y=un:=by omega
           have hyy:¬ ((y:Int) < (y:Int)):=by omega
           have HMF:Hid (mb=hx.puts.any fun p=>p.lba == rl):=by
            have:=HMB.out
            rwa [← HUL.out,List.take_length] at this
           clear HMB a6 x0
           cases rown with
           | true =>
            obtain rfl:mb=true:=by rw [HMF.out];exact HLR.out.2 rfl
            clear HMF
            go_wp2_with fail
            go_roundw
            case rel=>exact ⟨k+1,by omega,by go_num,Lib.hid (Below.up HB8.out HBR.out)⟩
            case measure=>simp [intOf];omega
           | false =>
            have hby:=bytes_any (fun q=>q < w8.heap.size) (.slice dp dn dc) (.slice wp wn wc) rdd (wantAll hs T rl zeroB om) wr ((HRX.out.mono fun q hq=>Nat.lt_of_lt_of_le hq (Nat.le_trans HB5.out.size HB8.out.size)).up HBR.out) (HWV.out.up HBR.out)
            have he:(rdd == wantAll hs T rl zeroB om)=true:=by rw [beq_iff_eq];exact HLR.out.1 rfl
            rw [he] at hby
            have HBY:=Lib.hid hby
            clear hby he
            go_wp2_with fail
            refine (HBY.out).mono ?_
            rintro e w10 ⟨rfl,hb10⟩
            have HB10:Hid (Below w5.heap.size w5 w10):=Below.up (Below.up HB8.out HBR.out) hb10
            have x2':=cell_up hb10 x2
            clear hb10 HBY
            go_wp2_with fail
            go_roundw
            case rel=>exact ⟨k+1,by omega,by go_num,HB10⟩
            case measure=>simp [intOf];omega
      case neg =>
       obtain rfl:k=rn:=by omega
       have hkk:¬ ((k:Int) < (k:Int)):=by omega
       clear a1 a3 a5 a6 a7
       have hn1000:=HN2.out
       go_wp2_with fail
       go_roundw
       case rel=>exact ⟨i+1,by omega,by go_num,HB7⟩
       case measure=>simp [intOf];omega
    case neg =>
     obtain rfl:i=n:=by omega
     have hii:¬ ((i:Int) < (i:Int)):=by omega
     have HBF:Hid (Below w.heap.size w wr):=Below.up (Below.up HB4.out HB5.out) HB6.out
     have HAW:=Lib.hid (awakeTop wr (HW.out.up HW.out.z HBF.out))
     clear HB6
     go_wp2_with fail
     refine (HAW.out).mono ?_
     rintro e w10 ⟨rfl,hb10⟩
     have HB10:=Lib.hid (Below.up HBF.out hb10)
     clear hb10 HAW
     go_wp2_with fail
     go_ret
     exact ⟨rfl,HB10.out⟩
end Go.Proofs
