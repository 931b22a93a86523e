/- Texts of this claim, one behind the other: Ext5, Ext6, Wbuf1, Wbuf2, BufSep, Ext3, Ext4, PlainExt, View2, Zoom, OutA, Cuts, Cuts2. -/
import Derived.Deep.AppendLies
import Derived.BigQuiet
import Derived.Deep.RegionHeld3
import Derived.Deep.QuietTactic
import Derived.Test.YtcbgpeamondhmaaGreatDoorTs2
namespace Go.Proofs
open Go.RowKit Sc
def withinB (blocks a n:Int):Bool:=decide (0≤a) && decide (1≤n) && decide (n≤blocks) && decide (a≤blocks - n)
theorem withinB_no {blocks a n:Int} (h:¬ (0≤a∧1≤n∧n≤blocks∧a≤blocks - n)):withinB blocks a n=false:=by
 unfold withinB
 rw [← Bool.not_eq_true]
 simp only [Bool.and_eq_true,decide_eq_true_eq]
 omega
theorem withinB_yes {blocks a n:Int} (h:0≤a∧1≤n∧n≤blocks∧a≤blocks - n):withinB blocks a n=true:=by
 unfold withinB
 simp only [Bool.and_eq_true,decide_eq_true_eq]
 omega
set_option maxRecDepth 100000 in
set_option maxHeartbeats 1000000 in
theorem extWithin_any (F:Nat→Prop) (v:Value) (blocks last:Int) (vs:Vers) (a n:Int) (w:World) (h:ExtIs F w v blocks last vs) (hbl:blocks≤1048576) :
  Calls Tryz.prog 321 #[v,.agg #[.int .i64 a,.int .i64 n]] w fun e w'=>e=.returned (.bool (withinB blocks a n))∧Below w.heap.size w w':=by
 have H:=Lib.hid h
 obtain ⟨b,r,ml,rfl,_⟩:=h.cells
 clear h
 have hbk:∀ W,Below w.heap.size w W→Calls Tryz.prog 216 #[.pointer (some ⟨b,0,none⟩)] W fun e w'=>e=.returned (.int .i64 blocks)∧w'=W:=fun W hb=>(extBlocks_any F (.pointer (some ⟨b,0,none⟩)) blocks last vs W (H.out.up hb)).mono fun _ _ ⟨h1,h2⟩=>⟨h1,h2.symm⟩
 have hw0:=below_alloc w (.cells #[.int .i64 a,.int .i64 n] 186)
 by_cases h1:0≤a
 ·by_cases h2:1≤n
  ·by_cases h3:n≤blocks
   ·have hw1:IntKind.i64.wrap (blocks - n)=blocks - n:=IntWalk.i64_in _ (by omega)
    by_cases h4:a≤blocks - n
    ·have hb:=withinB_yes ⟨h1,h2,h3,h4⟩
     have HB:=Lib.hid hb
     have HBK:=Lib.hid hbk
     have HW0:=Lib.hid hw0
     clear hb hbk hw0
     go_enter Tryz.func321,Tryz.ntmps321
     go_wp2
     go_quiet ((go_at_call 216;exact Calls.quiet_of_same (HBK.out _ (below_drewN HW0.out _))))
     go_wp2
     go_ret
     exact ⟨congrArg boolRet HB.out.symm,below_drewN HW0.out _⟩
    ·have hb:withinB blocks a n=false:=withinB_no (by omega)
     have h4':decide (a≤blocks - n)=false:=decide_eq_false h4
     have HB:=Lib.hid hb
     have HBK:=Lib.hid hbk
     have HW0:=Lib.hid hw0
     clear hb hbk hw0
     clear h4
     go_enter Tryz.func321,Tryz.ntmps321
     go_wp2
     go_quiet ((go_at_call 216;exact Calls.quiet_of_same (HBK.out _ (below_drewN HW0.out _))))
     go_wp2
     go_ret
     exact ⟨congrArg boolRet HB.out.symm,below_drewN HW0.out _⟩
   ·have hb:withinB blocks a n=false:=withinB_no (by omega)
    have h3':decide (n≤blocks)=false:=decide_eq_false h3
    have HB:=Lib.hid hb
    have HBK:=Lib.hid hbk
    have HW0:=Lib.hid hw0
    clear hb hbk hw0
    clear h3
    go_enter Tryz.func321,Tryz.ntmps321
    go_wp2
    go_quiet ((go_at_call 216;exact Calls.quiet_of_same (HBK.out _ (below_drewN HW0.out _))))
    go_wp2
    go_ret
    exact ⟨congrArg boolRet HB.out.symm,below_drewN HW0.out _⟩
  ·have hb:withinB blocks a n=false:=withinB_no (by omega)
   have h2':decide (1≤n)=false:=decide_eq_false h2
   have HB:=Lib.hid hb
   have HW0:=Lib.hid hw0
   clear hb hw0
   clear h2 hbk
   go_enter Tryz.func321,Tryz.ntmps321
   go_wp2
   go_quiet (fail)
   go_wp2
   go_ret
   exact ⟨congrArg boolRet HB.out.symm,below_drewN HW0.out _⟩
 ·have hb:withinB blocks a n=false:=withinB_no (by omega)
  have h1':decide (0≤a)=false:=decide_eq_false h1
  have HB:=Lib.hid hb
  have HW0:=Lib.hid hw0
  clear hb hw0
  clear h1 hbk
  go_enter Tryz.func321,Tryz.ntmps321
  go_wp2
  go_quiet (fail)
  go_wp2
  go_ret
  exact ⟨congrArg boolRet HB.out.symm,below_drewN HW0.out _⟩
end Go.Proofs
namespace Go.Proofs
open Go.RowKit Sc
abbrev u8s (l:Bytes):List Value:=l.map fun x=>Value.int .u8 (x.toNat:Int)
theorem bytes_news {G:Nat→Prop} {w:World} {dp:Option Addr} {n c:Nat} {l:Bytes} (h:BytesAt G w (.slice dp n c) l) (hl:0 < l.length) :
  ∃ b o,dp=some ⟨b,o,none⟩∧∀ j u,(u8s l)[j]? = some u→w.cell? ((⟨b,o,none⟩:Addr).add j)=some u:=by
 obtain ⟨p,c',he,_,_,_,h4⟩:=h
 cases he
 obtain ⟨b,o,rfl,_,_⟩:=h4 0 hl
 refine ⟨b,o,rfl,fun j u hu=>?_⟩
 have hj:j < l.length:=by have:=(List.getElem?_eq_some_iff.1 hu).1;simpa using this
 obtain ⟨b',o',he,_,hc⟩:=h4 j hj
 cases he
 have hadd:(⟨b,o,none⟩:Addr).add j=⟨b,o+j,none⟩:=by unfold Addr.add;split <;> simp_all
 rw [hadd]
 unfold byteE at hc
 rw [Nat.mul_one] at hc
 rw [hc,← hu,List.getElem?_map,List.getElem?_eq_getElem hj];rfl
def rangeV (vs:Vers) (a t:Int) (m:Nat):Bytes:=(List.range m).flatMap fun i:Nat=>(getV vs (a+i) t).1
theorem rangeV_succ (vs:Vers) (a t:Int) (m:Nat):rangeV vs a t (m+1)=rangeV vs a t m++(getV vs (a+m) t).1:=by
 unfold rangeV;rw [List.range_succ,List.flatMap_append];simp
theorem rangeV_length {vs:Vers} {a t:Int} (h:∀ b,(getV vs b t).1.length=40) (m:Nat):(rangeV vs a t m).length=40 * m:=by
 induction m with
 | zero=>rfl
 | succ m ih=>rw [rangeV_succ,List.length_append,ih,h];omega
def ExtRangeSaid (blocks:Int) (vs:Vers) (a n t:Int) (w:World) (e:Ending) (w':World):Prop :=
 (withinB blocks a n=false∧e=.returned (.tuple #[.slice none 0 0,.int .i64 2])∧Below w.heap.size w w') ∨
 (withinB blocks a n=true∧∃ v,e=.returned (.tuple #[v,.int .i64 0])∧BytesW (New w w') w' v (rangeV vs a t n.toNat)∧Below w.heap.size w w')
set_option maxRecDepth 100000 in
set_option maxHeartbeats 2000000 in
theorem extRange_any (F:Nat→Prop) (v:Value) (blocks last:Int) (vs:Vers) (a n t:Int) (w:World) (h:ExtIs F w v blocks last vs) (hbl:blocks≤1048576) (hs:∀ k l,alook vs k=some l→∀ p∈l,p.data.length≤1000000) (h40:∀ b,(getV vs b t).1.length=40) :
  Calls Tryz.prog 265 #[v,.agg #[.int .i64 a,.int .i64 n],.int .i64 t] w (ExtRangeSaid blocks vs a n t w):=by
 have H:=Lib.hid h
 have HS:=Lib.hid hs
 have H4Z:=Lib.hid h40
 clear h hs h40
 have hb0:=below_alloc w (.cells #[.int .i64 a,.int .i64 n] 186)
 have hc0:(w.alloc (.cells #[.int .i64 a,.int .i64 n] 186)).cell? ⟨w.heap.size,0,none⟩=some (.int .i64 a):=by rw [cell_row (heap_alloc_new w _)];rfl
 have hc1:(w.alloc (.cells #[.int .i64 a,.int .i64 n] 186)).cell? ⟨w.heap.size,1,none⟩=some (.int .i64 n):=by rw [cell_row (heap_alloc_new w _)];rfl
 have hz0:(w.alloc (.cells #[.int .i64 a,.int .i64 n] 186)).heap.size=w.heap.size+1:=by simp
 have HB0:=Lib.hid hb0
 clear hb0
 cases hq:withinB blocks a n with
 | false =>
  have HQ:=Lib.hid hq
  clear hq
  clear hz0
  go_enter Tryz.func265,Tryz.ntmps265
  go_wp2_with fail
  refine (extWithin_any F _ _ _ _ a n _ (H.out.up HB0.out) hbl).mono ?_
  rintro e w1 ⟨rfl,hb1⟩
  rw [HQ.out]
  have hb01:=Below.up HB0.out hb1
  have HB01:=Lib.hid hb01
  clear hb01
  go_wp2
  go_ret2
  exact .inl ⟨HQ.out,rfl,HB01.out⟩
 | true =>
  have hq':=hq
  unfold withinB at hq'
  simp only [Bool.and_eq_true,decide_eq_true_eq] at hq'
  obtain ⟨⟨⟨q1,q2⟩,q3⟩,q4⟩:=hq'
  obtain ⟨N,rfl⟩:=Int.eq_ofNat_of_zero_le (show 0≤n by omega)
  obtain ⟨i0,hi,hp0,hp1,hp2⟩:=info_parts infoU8
  have HQ:=Lib.hid hq
  clear hq
  go_enter Tryz.func265,Tryz.ntmps265
  go_wp2_with fail
  refine (extWithin_any F _ _ _ _ a N _ (H.out.up HB0.out) hbl).mono ?_
  rintro e w1 ⟨rfl,hb1⟩
  rw [HQ.out]
  have hd0:=(hb1.cell (p:=⟨w.heap.size,0,none⟩) (by simp only [hz0];omega)).trans hc0
  have hd1:=(hb1.cell (p:=⟨w.heap.size,1,none⟩) (by simp only [hz0];omega)).trans hc1
  have hz1:=hb1.size
  rw [hz0] at hz1
  have hb01:=Below.up HB0.out hb1
  have HB01:=Lib.hid hb01
  clear hb01
  clear hc0 hc1 hb1 hz0
  go_wp2_with fail
  go_loopw [6,17] (fun vo iv wr=>∃ m:Nat,∃ po c,m≤N∧iv=.int .i64 m∧vo=.slice po (40 * m) c∧Hid (wr.ownsRow w1.heap.size 5 1 (.slice po (40 * m) c) (40 * m) (u8s (rangeV vs a t m)))∧Hid (Below w1.heap.size w1 wr)) (fun _ iv _=>N - (intOf iv).toNat)
  case atStart=>exact ⟨0,none,0,by omega,rfl,rfl,World.ownsRow_nil _ _ _ _,Below.refl _ _⟩
  case round =>
   obtain ⟨m,po,c,hm,rfl,rfl,HO,HB⟩:=hrel
   have hbw:Below w.heap.size w wr:=HB01.out.trans (HB.out.mono (by omega))
   by_cases hlt:m < N
   case neg =>
    obtain rfl:m=N:=by omega
    have HBW:=Lib.hid hbw
    clear hbw
    go_wp2_with fail
    go_ret2
    refine .inr ⟨HQ.out,_,rfl,?_,HBW.out⟩
    have hr:=bytesW_own (B:=w1.heap.size) (New w wr) (rangeV_length H4Z.out m) (fun q h1 h2=>⟨by omega,h2⟩) HO.out
    simpa using hr
   case pos =>
    have he0:=(HB.out.cell (p:=⟨w.heap.size,0,none⟩) (by simp only;omega)).trans hd0
    have hw1:IntKind.i64.wrap (a+(m:Int))=a+(m:Int):=IntWalk.i64_in _ (by omega)
    have hbk:blk blocks (a+m)=true:=by unfold blk;rw [decide_eq_true (by omega),decide_eq_true (by omega)];rfl
    have hm0:(m:Int) < (N:Int):=by omega
    have hget:=extGet_any F _ _ _ _ (a+m) t wr (H.out.up hbw) HS.out
    have hlen:=H4Z.out (a+m)
    have hsucc:=rangeV_succ vs a t m
    generalize (getV vs (a+m) t).2=since at hget
    have HBK:=Lib.hid hbk
    have HBW:=Lib.hid hbw
    have HGET:=Lib.hid hget
    have HLEN:=Lib.hid hlen
    have HSUCC:=Lib.hid hsucc
    clear hbk hbw hget hlen hsucc
    clear hd0 hd1
    go_wp2_with fail
    refine (HGET.out).mono ?_
    rintro e w7 (⟨hno,_⟩ | ⟨_,v7,rfl,hv7,hb7⟩)
    ·exact absurd (hno.symm.trans HBK.out) (by decide)
    generalize (getV vs (a+m) t).1=d at *
    obtain ⟨dp,dc,rfl⟩:=shape_of hv7.bytes HLEN.out
    obtain ⟨gb,ob,rfl,hnews⟩:=bytes_news hv7.bytes (by rw [HLEN.out];omega)
    have hrow7:=row_same (F:=fun q=>q < wr.heap.size) (fun q hq=>hb7.block q hq) HO.out (fun g hg=>(HO.out.lt g hg).2)
    have hl1:(u8s d).length=40 * 1:=by unfold u8s;rw [List.length_map,HLEN.out]
    have hone:∀ u∈u8s d,u.oneCell'=true:=fun u hu=>by obtain ⟨z,_,rfl⟩:=List.mem_map.1 hu;rfl
    have hz7:w1.heap.size≤w7.heap.size:=Nat.le_trans HB.out.size hb7.size
    have HNEWS:=Lib.hid hnews
    have HROW7:=Lib.hid hrow7
    have HB7:=Lib.hid hb7
    have HL1:=Lib.hid hl1
    have HONE:=Lib.hid hone
    have HV7:=Lib.hid hv7
    clear hnews hrow7 hb7 hl1 hone hv7
    go_wp2_with (at_builtin;refine wpList_append_lies _ rfl _ _ 40 rfl w1.heap.size 5 i0 (.int .u8 0) 1 1 Tryz.underlying40 hi hp0 hp1 hp2 rfl (by decide) _ (40 * m) (u8s (rangeV vs a t m)) rfl HROW7.out ⟨gb,ob,none⟩ 40 dc (u8s d) rfl HL1.out HNEWS.out HONE.out (by decide) (by unfold maxLen;omega) (by omega) hz7 w7.heap.size rfl ?_;intro gg cap w8 hown8 hgrow8 hat8 hlt8)
    go_roundw
    case rel =>
     refine ⟨m+1,some ⟨gg,0,none⟩,cap,by omega,by go_num,by rw [Nat.mul_succ],?_,?_⟩
     ·unfold Hid
      rw [HSUCC.out,Nat.mul_succ]
      simpa [u8s] using hown8
     ·exact (HB.out.trans (HB7.out.mono HB.out.size)).grown hgrow8 hz7 (fun q hq=>(HO.out.lt q hq).1)
    case measure=>simp [intOf];omega
end Go.Proofs
namespace Go.Proofs
open Go.RowKit Sc
structure BufIs (F:Nat→Prop) (w:World) (v:Value) (blocks most:Int) (s:List (Int × Bytes)):Prop where
 out:∃ b r ml,v=.pointer (some ⟨b,0,none⟩)∧F b∧F r∧w.heap[b]? = some (.cells #[.int .i64 blocks,.int .i64 most,.map (some r)] 252 (0,0))∧MapIs w r ml∧AL (BytesAt (fun k=>F k∧k≠b∧k≠r) w) ml s
 dom:Dom F w
theorem BufIs.same {F:Nat→Prop} {w w':World} {v:Value} {blocks most:Int} {s:List (Int × Bytes)} (h:BufIs F w v blocks most s) (hs:Same F w w') (hz:w.heap.size≤w'.heap.size):BufIs F w' v blocks most s:=by
 obtain ⟨⟨b,r,ml,h1,h2,h3,h4,h5,h6⟩,hd⟩:=h
 exact ⟨⟨b,r,ml,h1,h2,h3,by rw [hs b h2];exact h4,h5.same hs h3,h6.imp fun _ _ h=>h.same (hs.mono fun _ h=>h.1)⟩,hd.of_size hz⟩
theorem BufIs.up {F:Nat→Prop} {w w':World} {v:Value} {blocks most:Int} {s:List (Int × Bytes)} (h:BufIs F w v blocks most s) (hb:Below w.heap.size w w'):BufIs F w' v blocks most s:=h.same (h.dom.same hb) hb.size
theorem BufIs.more {F:Nat→Prop} {w w':World} {v:Value} {blocks most:Int} {s:List (Int × Bytes)} (h:BufIs F w v blocks most s) (hb:Below w.heap.size w w'):BufIs (fun k=>F k∨New w w' k) w' v blocks most s:=by
 obtain ⟨⟨b,r,ml,h1,h2,h3,h4,h5,h6⟩,hd⟩:=h.up hb
 exact ⟨⟨b,r,ml,h1,.inl h2,.inl h3,h4,h5,h6.imp fun _ _ h=>h.mono fun _ h=>⟨.inl h.1,h.2⟩⟩,fun k hk=>hk.elim (hd k) (fun h=>h.2)⟩
def BufA (v:Value) (blocks most:Int) (s:List (Int × Bytes)):Asn:=⟨fun F w=>BufIs F w v blocks most s,fun _ _ _ hs hz h=>h.same hs hz⟩
theorem BufIs.cells {F:Nat→Prop} {w:World} {v:Value} {blocks most:Int} {s:List (Int × Bytes)} (h:BufIs F w v blocks most s) :
  ∃ b r ml,v=.pointer (some ⟨b,0,none⟩)∧F b∧F r∧b≠r∧b < w.heap.size∧w.cell? ⟨b,0,none⟩=some (.int .i64 blocks)∧w.cell? ⟨b,1,none⟩=some (.int .i64 most)∧w.cell? ⟨b,2,none⟩=some (.map (some r))∧MapIs w r ml∧AL (BytesAt (fun k=>F k∧k≠b∧k≠r) w) ml s:=by
 obtain ⟨⟨b,r,ml,h1,h2,h3,h4,h5,h6⟩,hd⟩:=h
 refine ⟨b,r,ml,h1,h2,h3,?_,hd b h2,by rw [cell_row h4];rfl,by rw [cell_row h4];rfl,by rw [cell_row h4];rfl,h5,h6⟩
 rintro rfl
 obtain ⟨_,_,hq,_⟩:=h5
 rw [h4] at hq;cases hq
structure BufB (F:Nat→Prop) (w:World) (b r:Nat) (ml:List (Int × Value)) (blocks most:Int) (s:List (Int × Bytes)):Prop where
 fb:F b
 fr:F r
 hb:w.heap[b]? = some (.cells #[.int .i64 blocks,.int .i64 most,.map (some r)] 252 (0,0))
 hm:MapIs w r ml
 ha:AL (BytesAt (fun k=>F k∧k≠b∧k≠r) w) ml s
 dom:Dom F w
theorem BufIs.parts {F:Nat→Prop} {w:World} {v:Value} {blocks most:Int} {s:List (Int × Bytes)} (h:BufIs F w v blocks most s):∃ b r ml,v=.pointer (some ⟨b,0,none⟩)∧BufB F w b r ml blocks most s:=by
 obtain ⟨⟨b,r,ml,h1,h2,h3,h4,h5,h6⟩,hd⟩:=h
 exact ⟨b,r,ml,h1,h2,h3,h4,h5,h6,hd⟩
theorem BufB.is {F:Nat→Prop} {w:World} {b r:Nat} {ml:List (Int × Value)} {blocks most:Int} {s:List (Int × Bytes)} (h:BufB F w b r ml blocks most s):BufIs F w (.pointer (some ⟨b,0,none⟩)) blocks most s :=
 ⟨⟨b,r,ml,rfl,h.fb,h.fr,h.hb,h.hm,h.ha⟩,h.dom⟩
theorem BufB.ne {F:Nat→Prop} {w:World} {b r:Nat} {ml:List (Int × Value)} {blocks most:Int} {s:List (Int × Bytes)} (h:BufB F w b r ml blocks most s):b≠r:=by
 rintro rfl
 obtain ⟨_,_,hq,_⟩:=h.hm
 have:=h.hb
 rw [hq] at this;cases this
theorem BufB.put {F:Nat→Prop} {w w7 w8:World} {b r:Nat} {ml:List (Int × Value)} {blocks most:Int} {s:List (Int × Bytes)} (h:BufB F w b r ml blocks most s) {k:Int} {v:Value} {d:Bytes}
  (hb7:Below w.heap.size w w7) (hv:BytesAt (New w w7) w7 v d) (hm8:MapIs w8 r (aset ml k v)) (hT:Turned r w7 w8) :
  BufB (fun q=>F q∨New w w8 q) w8 b r (aset ml k v) blocks most (aset s k d)∧Chg F w w8:=by
 have hbr:=h.ne
 have hbl:=h.dom b h.fb
 have hrl:=h.dom r h.fr
 have hz7:=hb7.size
 have hz8:=hT.size
 have keep:∀ q,q < w.heap.size→q≠r→w8.heap[q]? = w.heap[q]? := fun q hq hne=>(hT.block q hne).trans (hb7.block q hq)
 refine ⟨⟨.inl h.fb,.inl h.fr,by rw [keep b hbl hbr];exact h.hb,hm8,?_,fun q hq=>hq.elim (fun hf=>by have:=h.dom q hf;omega) (fun hf=>hf.2)⟩,⟨by rw [hT.os,hb7.os],by rw [hT.tape,hb7.tape],by rw [hT.output,hb7.output],by omega,fun q hq hn=>keep q hq (fun e=>hn (e ▸ h.fr))⟩⟩
 refine AL.set k ?_ (h.ha.imp fun a c hac=>?_)
 ·refine (hv.cells fun a=>hT.cell a).mono fun q hq=>⟨.inr ⟨hq.1,by have:=hq.2;omega⟩,?_,?_⟩
  ·have:=hq.1;omega
  ·have:=hq.1;omega
 ·exact (hac.same fun q hq=>keep q (h.dom q hq.1) hq.2.2).mono fun q hq=>⟨.inl hq.1,hq.2⟩
theorem BufB.wider {F F':Nat→Prop} {w:World} {b r:Nat} {ml:List (Int × Value)} {blocks most:Int} {s:List (Int × Bytes)} (q:BufB F w b r ml blocks most s) (up:∀ k,F k→F' k) (hd:Dom F' w):BufB F' w b r ml blocks most s :=
 ⟨up _ q.fb,up _ q.fr,q.hb,q.hm,q.ha.imp fun _ _ h=>h.mono fun _ h=>⟨up _ h.1,h.2⟩,hd⟩
def BufNewSaid (n m:Int) (w:World) (e:Ending) (w':World):Prop:=∃ b:Nat,e=.returned (.tuple #[.pointer (some ⟨b,0,none⟩),.int .i64 0])∧BufIs (New w w') w' (.pointer (some ⟨b,0,none⟩)) n m []∧Below w.heap.size w w'
set_option maxHeartbeats 400000 in
theorem bufNew_any (n m:Int) (w:World) (h1:1≤n) (h2:n≤1048576) (h3:0≤m):Calls Tryz.prog 215 #[.int .i64 n,.int .i64 m] w (BufNewSaid n m w):=by
 have hmm:=@run_makeMap Tryz.prog
 go_enter Tryz.func215,Tryz.ntmps215
 go_wp2
 go_ret2
 have hm:=MapIs.made w
 refine ⟨w.heap.size+1,rfl,⟨⟨w.heap.size+1,w.heap.size,[],rfl,by simp [New],by simp [New];omega,heap_new (by simp),hm.same (G:=(· < w.heap.size+1)) (fun k hk=>heap_old (by simpa using hk)) (by simp),trivial⟩,fun k hk=>hk.2⟩,?_⟩
 exact ((Below.refl _ _).alloc (Nat.le_refl _) _).alloc (by simp) _
def BufGetSaid (s:List (Int × Bytes)) (lba:Int) (w:World) (e:Ending) (w':World):Prop :=
 (alook s lba=none∧∃ p c,e=.returned (.tuple #[.slice p 0 c,.bool false])∧BytesW (New w w') w' (.slice p 0 c) []∧Below w.heap.size w w') ∨
 (∃ d v,alook s lba=some d∧e=.returned (.tuple #[v,.bool true])∧BytesW (New w w') w' v d∧Below w.heap.size w w')
set_option maxRecDepth 100000 in
set_option maxHeartbeats 1000000 in
theorem bufGet_any (F:Nat→Prop) (v:Value) (blocks most:Int) (s:List (Int × Bytes)) (lba:Int) (w:World) (h:BufIs F w v blocks most s) (h40:∀ x∈s,x.2.length≤1000000) :
  Calls Tryz.prog 267 #[v,.int .i64 lba] w (BufGetSaid s lba w):=by
 obtain ⟨b,r,ml,rfl,_,_,_,hb,hc0,hc1,hc2,hm,ha⟩:=h.cells
 have hl:=hm.lookup (P:=Tryz.prog) Tryz.underlying160 Tryz.underlying3 (Tryz.zeroValue40 _) lba true
 rcases ha.look lba with ⟨h1,h2⟩ | ⟨u,d,h1,h2,h3⟩
 ·rw [h1] at hl
  simp only [Option.getD_none,Option.isSome_none,if_true] at hl
  have H1:=Lib.hid h1
  have H2:=Lib.hid h2
  clear h1 h2
  clear hm ha h
  have hcn:=clone_w (fun _=>False) (.slice none 0 0) [] w SlAt.nil (by simp)
  have HCN:=Lib.hid hcn
  clear hcn
  go_enter Tryz.func267,Tryz.ntmps267
  go_wp2_with fail
  refine (HCN.out).mono ?_
  rintro e w1 ⟨v1,rfl,hv1,hb1⟩
  obtain ⟨p1,c1,rfl⟩:=shape_of hv1.bytes rfl
  have HV1:=Lib.hid hv1
  have HB1:=Lib.hid hb1
  clear hv1 hb1
  go_wp2_with fail
  go_ret2
  exact .inl ⟨H2.out,p1,c1,rfl,HV1.out,HB1.out⟩
 ·rw [h1] at hl
  simp only [Option.getD_some,Option.isSome_some,if_true] at hl
  have hcn:=clone_w _ u d w h3 (h40 _ (alook_in h2))
  obtain ⟨pu,cu,rfl⟩:=shape_of h3 rfl
  have H1:=Lib.hid h1
  have H2:=Lib.hid h2
  have HCN:=Lib.hid hcn
  clear h1 h2 hcn
  clear hm ha h h3
  go_enter Tryz.func267,Tryz.ntmps267
  go_wp2_with fail
  refine (HCN.out).mono ?_
  rintro e w1 ⟨v1,rfl,hv1,hb1⟩
  have HV1:=Lib.hid hv1
  have HB1:=Lib.hid hb1
  clear hv1 hb1
  go_wp2_with fail
  go_ret2
  exact .inr ⟨d,v1,H2.out,rfl,HV1.out,HB1.out⟩
def twiceB:List Put→Bool
 | []=>false
 | p :: l=>(l.any fun q=>q.lba == p.lba) || twiceB l
theorem twiceB_no {l:List Put}:twiceB l=false↔(l.map (·.lba)).Nodup:=by
 induction l with
 | nil=>simp [twiceB]
 | cons p l ih =>
  simp only [twiceB,Bool.or_eq_false_iff,List.map_cons,List.nodup_cons,ih]
  constructor
  ·rintro ⟨h1,h2⟩
   refine ⟨fun hm=>?_,h2⟩
   obtain ⟨q,hq,he⟩:=List.mem_map.1 hm
   rw [List.any_eq_false] at h1
   exact h1 q hq (by simpa using he)
  ·rintro ⟨h1,h2⟩
   refine ⟨?_,h2⟩
   rw [List.any_eq_false]
   intro q hq he
   exact h1 (List.mem_map.2 ⟨q,hq,by simpa using he⟩)
def metOf (l:List Put) (k:Nat):List (Int × Value):=(l.take k).map fun p=>(p.lba,.int .i64 1)
theorem metOf_look {l:List Put} {k:Nat} {n:Int}:(n∈(l.take k).map (·.lba)→alook (metOf l k) n=some (.int .i64 1))∧(n ∉ (l.take k).map (·.lba)→alook (metOf l k) n=none):=by
 unfold metOf
 generalize l.take k=m
 induction m with
 | nil=>simp [alook]
 | cons p m ih =>
  simp only [List.map_cons,List.mem_cons,alook]
  by_cases h:p.lba=n
  ·simp [h]
  ·have h':¬ n=p.lba:=fun e=>h e.symm
   simp only [h,if_false,h',false_or]
   exact ih
set_option maxRecDepth 100000 in
set_option maxHeartbeats 2000000 in
theorem twice_any (G:Nat→Prop) (v:Value) (l:List Put) (w:World) (hG:Dom G w) (hv:PutsAt G w v l) (hl:l.length≤1000000) :
  Calls Tryz.prog 270 #[v] w fun e w'=>e=.returned (.bool (twiceB l))∧Below w.heap.size w w':=by
 have hmm:=@run_makeMap Tryz.prog
 obtain ⟨p,c,rfl,h1,h2,h3,h4⟩:=hv
 have hb0:=below_alloc w (.map #[] 0)
 have hm0:=MapIs.made w
 have H4:=Lib.hid h4
 have HB0:=Lib.hid hb0
 have HM0:=Lib.hid hm0
 clear h4 hb0 hm0
 clear h3
 go_enter Tryz.func270,Tryz.ntmps270
 go_wp2_with fail
 go_step3
 go_wp2_with fail
 go_step3
 go_wp2_with fail
 go_loopw [9] (fun i wr=>∃ k:Nat,k≤l.length∧i=.int .i64 k∧Hid (MapIs wr w.heap.size (metOf l k))∧Hid (Below w.heap.size w wr)∧Hid (((l.take k).map (·.lba)).Nodup)) (fun i _=>l.length - (intOf i).toNat)
 case atStart=>exact ⟨0,by omega,rfl,HM0.out,HB0.out,by unfold Hid;simp⟩
 case round =>
  obtain ⟨k,hk,rfl,HM,HB,HN⟩:=hrel
  by_cases hlt:k < l.length
  case neg =>
   obtain rfl:k=l.length:=by omega
   have hn:=HN.out
   rw [List.take_length] at hn
   have ht:=twiceB_no.2 hn
   have HN:=Lib.hid hn
   have HT:=Lib.hid ht
   clear hn ht
   go_wp2_with fail
   try rw [Exit.noGoto_ret]
   go_ret
   exact ⟨congrArg boolRet HT.out.symm,HB.out⟩
  case pos =>
   obtain ⟨g,o,rfl,hg,hca,hci,dv,hcb,hd⟩:=H4.out k hlt
   have hgl:=hG g hg
   have hca':=(HB.out.cell (p:=⟨g,o+k * 2,none⟩) hgl).trans hca
   have hcb':=(HB.out.cell (p:=⟨g,o+k * 2+1,none⟩) hgl).trans hcb
   have htk:=take_snoc l k hlt
   obtain ⟨dp,dc,rfl⟩:=shape_of hd rfl
   have hmem:=List.getElem_mem hlt
   generalize hx:l[k]=x at *
   obtain ⟨wa,hwa⟩:∃ wa,wr.alloc (.cells #[.int .i64 x.lba,.slice dp x.data.length dc] 44)=wa:=⟨_,rfl⟩
   have hba:Below wr.heap.size wr wa:=by rw [← hwa];exact below_alloc wr _
   have hka:wa.cell? ⟨wr.heap.size,0,none⟩=some (.int .i64 x.lba):=by rw [← hwa,cell_row (heap_alloc_new wr _)];rfl
   have hma:=HM.out.up hba
   have hl1:=hma.lookup (P:=Tryz.prog) Tryz.underlying295 Tryz.underlying3 (Tryz.zeroValue3 _) x.lba false
   have hwb:Below w.heap.size w wa:=HB.out.trans (hba.mono HB.out.size)
   by_cases hin:x.lba∈(l.take k).map (·.lba)
   case neg =>
    have hno:=(metOf_look (l:=l) (k:=k) (n:=x.lba)).2 hin
    rw [hno] at hl1
    simp only [Option.getD_none,Bool.false_eq_true,if_false] at hl1
    obtain ⟨w2,hu,hm2,hT⟩:=hma.update (P:=Tryz.prog) Tryz.underlying295 Tryz.underlying3 x.lba (.int .i64 1)
    have hset:aset (metOf l k) x.lba (.int .i64 1)=metOf l (k+1):=by
     rw [aset_new (alook_none.1 hno)]
     unfold metOf
     rw [htk,List.map_append];rfl
    rw [hset] at hm2
    have hl2:=hm2.lookup (P:=Tryz.prog) Tryz.underlying295 Tryz.underlying3 (Tryz.zeroValue3 _) x.lba false
    have hyes:alook (metOf l (k+1)) x.lba=some (.int .i64 1):=(metOf_look (l:=l) (k:=k+1) (n:=x.lba)).1 (by rw [htk];simp)
    rw [hyes] at hl2
    simp only [Option.getD_some,Bool.false_eq_true,if_false] at hl2
    have hk2:w2.cell? ⟨wr.heap.size,0,none⟩=some (.int .i64 x.lba):=(hT.cell _).trans hka
    have hb2:Below w.heap.size w w2:=hwb.trans (hT.below (Nat.le_refl _))
    have hnd:((l.take (k+1)).map (·.lba)).Nodup:=by
     rw [htk,List.map_append,List.nodup_append]
     exact ⟨HN.out,by simp,fun a ha b hb e=>by simp at hb;subst hb;exact hin (e ▸ ha)⟩
    subst hwa
    have HM2:=Lib.hid hm2
    have HB2:=Lib.hid hb2
    have HND:=Lib.hid hnd
    have HTK:=Lib.hid htk
    have HX:=Lib.hid hx
    clear hm2 hb2 hnd htk hx
    clear hma hset hno hyes hin hT hwb hba hca hcb hd hgl
    go_wp2_with fail
    go_roundw
    case rel=>exact ⟨k+1,by omega,by go_num,HM2.out,HB2.out,HND.out⟩
    case measure=>simp [intOf];omega
   case pos =>
    have hyes0:=(metOf_look (l:=l) (k:=k) (n:=x.lba)).1 hin
    rw [hyes0] at hl1
    simp only [Option.getD_some,Bool.false_eq_true,if_false] at hl1
    obtain ⟨w2,hu,hm2,hT⟩:=hma.update (P:=Tryz.prog) Tryz.underlying295 Tryz.underlying3 x.lba (.int .i64 2)
    have hl2:=hm2.lookup (P:=Tryz.prog) Tryz.underlying295 Tryz.underlying3 (Tryz.zeroValue3 _) x.lba false
    have hyes:alook (aset (metOf l k) x.lba (.int .i64 2)) x.lba=some (.int .i64 2):=by rw [alook_aset,if_pos rfl]
    rw [hyes] at hl2
    simp only [Option.getD_some,Bool.false_eq_true,if_false] at hl2
    have hk2:w2.cell? ⟨wr.heap.size,0,none⟩=some (.int .i64 x.lba):=(hT.cell _).trans hka
    have hb2:Below w.heap.size w w2:=hwb.trans (hT.below (Nat.le_refl _))
    have htw:twiceB l=true:=by
     cases hq:twiceB l with
     | true=>rfl
     | false =>
      exfalso
      have h1:=twiceB_no.1 hq
      have h2:(l.take (k+1)).map (·.lba)=(l.take k).map (·.lba)++[x.lba]:=by rw [htk,List.map_append];rfl
      have h3:((l.take (k+1)).map (·.lba)).Nodup:=h1.sublist ((List.take_sublist _ _).map _)
      rw [h2,List.nodup_append] at h3
      exact h3.2.2 _ hin _ (by simp) rfl
    subst hwa
    have HM2:=Lib.hid hm2
    have HB2:=Lib.hid hb2
    have HTK:=Lib.hid htk
    have HX:=Lib.hid hx
    have HTW:=Lib.hid htw
    clear hm2 hb2 htk hx htw
    clear hma hyes hin hT hwb hba hca hcb hd hgl hyes0
    go_wp2_with fail
    try rw [Exit.noGoto_ret]
    go_ret
    exact ⟨congrArg boolRet HTW.out.symm,HB2.out⟩
end Go.Proofs
namespace Go.Proofs
open Go.RowKit Sc
def outB (blocks:Int) (p:Put):Bool:=decide (p.lba < 0) || decide (blocks≤p.lba)
def len40 (p:Put):Bool:=!decide (p.data.length=40)
set_option maxHeartbeats 400000 in
theorem writeC1_any (G:Nat→Prop) (x:Put) (ev:Value) (bx b:Nat) (blocks:Int) (W:World) (he:putV G W ev x) (h0:W.cell? ⟨bx,0,none⟩=some (.pointer (some ⟨b,0,none⟩))) (h1:W.cell? ⟨b,0,none⟩=some (.int .i64 blocks)) :
  Calls Tryz.prog 268 #[ev,.pointer (some ⟨bx,0,none⟩)] W fun e w'=>e=.returned (.bool (outB blocks x))∧Below W.heap.size W w':=by
 obtain ⟨dv,rfl,hi,hd⟩:=he
 obtain ⟨dp,dc,rfl⟩:=shape_of hd rfl
 have hb0:=below_alloc W (.cells #[.int .i64 x.lba,.slice dp x.data.length dc] 44)
 have hk0:(W.alloc (.cells #[.int .i64 x.lba,.slice dp x.data.length dc] 44)).cell? ⟨W.heap.size,0,none⟩=some (.int .i64 x.lba):=by rw [cell_row (heap_alloc_new W _)];rfl
 have h0':=cell_up hb0 h0
 have h1':=cell_up hb0 h1
 have hdef:outB blocks x=(decide (x.lba < 0) || decide (blocks≤x.lba)):=rfl
 have HB0:=Lib.hid hb0
 clear hb0
 clear h0 h1 hd
 by_cases c1:x.lba < 0
 ·rw [decide_eq_true c1] at hdef
  have c1':decide (x.lba < 0)=true:=decide_eq_true c1
  have HDEF:=Lib.hid hdef
  clear hdef
  go_enter Tryz.func268,Tryz.ntmps268
  go_wp2
  go_quiet (fail)
  go_wp2
  go_ret
  exact ⟨congrArg boolRet HDEF.out.symm,below_drewN HB0.out _⟩
 ·have c1':decide (x.lba < 0)=false:=decide_eq_false c1
  rw [c1',Bool.false_or] at hdef
  have HDEF:=Lib.hid hdef
  clear hdef
  clear c1
  go_enter Tryz.func268,Tryz.ntmps268
  go_wp2
  go_quiet (fail)
  go_wp2
  go_ret
  refine ⟨congrArg boolRet ?_,below_drewN HB0.out _⟩
  rw [HDEF.out]
theorem writeC2_any (G:Nat→Prop) (x:Put) (ev:Value) (W:World) (he:putV G W ev x) :
  Calls Tryz.prog 269 #[ev] W fun e w'=>e=.returned (.bool (len40 x))∧Below W.heap.size W w':=by
 obtain ⟨dv,rfl,hi,hd⟩:=he
 obtain ⟨dp,dc,rfl⟩:=shape_of hd rfl
 have hb0:=below_alloc W (.cells #[.int .i64 x.lba,.slice dp x.data.length dc] 44)
 have HB0:=Lib.hid hb0
 clear hb0
 clear hd
 by_cases h:x.data.length=40
 ·have hl:len40 x=false:=by unfold len40;rw [decide_eq_true h];rfl
  have h1:((x.data.length:Int) != 40)=false:=by rw [bne_eq_false_iff_eq];omega
  have HL:=Lib.hid hl
  clear hl
  clear h
  go_enter Tryz.func269,Tryz.ntmps269
  go_wp2
  go_ret
  refine ⟨congrArg boolRet ?_,HB0.out⟩
  rw [HL.out]
 ·have hl:len40 x=true:=by unfold len40;rw [decide_eq_false h];rfl
  have h1:((x.data.length:Int) != 40)=true:=by rw [bne_iff_ne];omega
  have HL:=Lib.hid hl
  clear hl
  clear h
  go_enter Tryz.func269,Tryz.ntmps269
  go_wp2
  go_ret
  refine ⟨congrArg boolRet ?_,HB0.out⟩
  rw [HL.out]
def freshN (s:List (Int × Bytes)) (l:List Put):Nat:=(l.filter fun p=>(alook s p.lba).isNone).length
theorem freshN_take (s:List (Int × Bytes)) (l:List Put) (k:Nat) (h:k < l.length):freshN s (l.take (k+1))=freshN s (l.take k)+if (alook s l[k].lba).isNone then 1 else 0:=by
 unfold freshN
 rw [take_snoc l k h,List.filter_append,List.length_append]
 congr 1
 cases hq:(alook s l[k].lba).isNone <;> simp [hq]
def putsTo (s:List (Int × Bytes)) (l:List Put):List (Int × Bytes):=l.foldl (fun s p=>aset s p.lba p.data) s
theorem putsTo_snoc (s:List (Int × Bytes)) (l:List Put) (p:Put):putsTo s (l++[p])=aset (putsTo s l) p.lba p.data:=by simp [putsTo]
def bufCode (blocks most:Int) (s:List (Int × Bytes)) (l:List Put):Int :=
 if l=[] then 1 else if l.any (outB blocks) then 2 else if l.any len40 then 3 else if twiceB l then 4 else if most < ((s.length+freshN s l:Nat):Int) then 7 else 0
def bufNext (blocks most:Int) (s:List (Int × Bytes)) (l:List Put):List (Int × Bytes):=if bufCode blocks most s l=0 then putsTo s l else s
def BufWriteSaid (F:Nat→Prop) (v:Value) (blocks most:Int) (s:List (Int × Bytes)) (l:List Put) (w:World) (e:Ending) (w':World):Prop :=
 e=.returned (.int .i64 (bufCode blocks most s l))∧Chg F w w'∧BufIs (fun k=>F k∨New w w' k) w' v blocks most (bufNext blocks most s l)
theorem buf_fail {F:Nat→Prop} {v:Value} {blocks most c:Int} {s:List (Int × Bytes)} {l:List Put} {w w':World} (h:BufIs F w v blocks most s) (hb:Below w.heap.size w w') (hc:bufCode blocks most s l=c) (h0:c≠0):BufWriteSaid F v blocks most s l w (.returned (.int .i64 c)) w':=by
 refine ⟨by rw [hc],Chg.of_below hb (fun k h1 h2=>by omega),?_⟩
 unfold bufNext
 rw [if_neg (by rw [hc];exact h0)]
 exact h.more hb
set_option maxRecDepth 100000 in
set_option maxHeartbeats 8000000 in
theorem bufWrite_any (F G:Nat→Prop) (v lv:Value) (blocks most:Int) (s:List (Int × Bytes)) (l:List Put) (w:World) (hm:BufIs F w v blocks most s) (hl:PutsAt G w lv l) (hG:Dom G w) (hFG:∀ k,F k→¬ G k) (n0:s.length≤1000000) (n1:l.length≤1000000) :
  Calls Tryz.prog 220 #[v,lv] w (BufWriteSaid F v blocks most s l w):=by
 have HM:=Lib.hid hm
 have HLL:=Lib.hid hl
 obtain ⟨b,r,ml,rfl,hFb,hFr,hbr,hbl,hc0,hc1,hc2,hmp,hal⟩:=hm.cells
 have hl2:=hl
 obtain ⟨lp,lc,rfl,q1,q2,q3,q4⟩:=hl2
 have hb0:=below_alloc w (.cells #[.pointer (some ⟨b,0,none⟩)] 177)
 have hbx:(w.alloc (.cells #[.pointer (some ⟨b,0,none⟩)] 177)).cell? ⟨w.heap.size,0,none⟩=some (.pointer (some ⟨b,0,none⟩)):=by rw [cell_row (heap_alloc_new w _)];rfl
 have hq0:=cell_up hb0 hc0
 have hq1:=cell_up hb0 hc1
 have hq2:=cell_up hb0 hc2
 have hlB:=PutsAt.up hl hb0
 have hGB:Dom G (w.alloc (.cells #[.pointer (some ⟨b,0,none⟩)] 177)):=hG.below hb0
 have hml:=All2.length hal
 have HQ4:=Lib.hid q4
 have HB0:=Lib.hid hb0
 have HLB:=Lib.hid hlB
 have HMP:=Lib.hid hmp
 have HAL:=Lib.hid hal
 have HML:=Lib.hid hml
 have HGB:=Lib.hid hGB
 clear q4 hb0 hlB hmp hal hml hGB
 clear hm hl q3
 by_cases hnil:l=[]
 case pos =>
  subst hnil
  have hcd:bufCode blocks most s []=1:=rfl
  have HCD:=Lib.hid hcd
  clear hcd
  go_enter Tryz.func220,Tryz.ntmps220
  go_wp2
  go_ret
  exact buf_fail HM.out HB0.out HCD.out (by decide)
 case neg =>
  have hpos:=List.length_pos_iff.2 hnil
  have hl0:((l.length:Int) == 0)=false:=by rw [beq_eq_false_iff_ne];omega
  have hcd0:bufCode blocks most s l=if l.any (outB blocks) then 2 else if l.any len40 then 3 else if twiceB l then 4 else if most < ((s.length+freshN s l:Nat):Int) then 7 else 0:=by unfold bufCode;rw [if_neg hnil]
  have HCD0:=Lib.hid hcd0
  clear hcd0
  go_enter Tryz.func220,Tryz.ntmps220
  go_wp2_with fail
  refine (anyPut_any G _ l (outB blocks) 268 #[.pointer (some ⟨w.heap.size,0,none⟩)] (by go_simp) _ HGB.out HLB.out (fun i hi W ev hb hev=>writeC1_any G _ ev w.heap.size b blocks W hev (cell_up hb hbx) (cell_up hb hq0))).mono ?_
  rintro e w1 ⟨rfl,hb1⟩
  have h1x:=cell_up hb1 hbx
  have h11:=cell_up hb1 hq1
  have h12:=cell_up hb1 hq2
  have hl1:=PutsAt.up HLB.out hb1
  have hB1:=Below.up HB0.out hb1
  have HB1':=Lib.hid hb1
  clear hb1
  have HL1:=Lib.hid hl1
  have HB1:=Lib.hid hB1
  clear hl1 hB1
  clear hbx hq0 hq1 hq2
  cases ha:l.any (outB blocks) with
  | true =>
   have hcd:bufCode blocks most s l=2:=by rw [HCD0.out,if_pos ha]
   have HCD:=Lib.hid hcd
   have HA:=Lib.hid ha
   clear hcd ha
   go_wp2_with fail
   go_ret
   exact buf_fail HM.out HB1.out HCD.out (by decide)
  | false =>
   have hcd1:=HCD0.out
   rw [ha,if_neg (by decide)] at hcd1
   have HA:=Lib.hid ha
   have HCD1:=Lib.hid hcd1
   clear ha hcd1
   go_wp2_with fail
   refine (anyPut_any G _ l len40 269 #[] (by go_simp) _ (HGB.out.below HB1'.out) HL1.out (fun i hi W ev hb hev=>writeC2_any G _ ev W hev)).mono ?_
   rintro e w2 ⟨rfl,hb2⟩
   have h2x:=cell_up hb2 h1x
   have h21:=cell_up hb2 h11
   have h22:=cell_up hb2 h12
   have hB2:=Below.up HB1.out hb2
   have hl2:=PutsAt.up HL1.out hb2
   have hG2:=(HGB.out.below HB1'.out).below hb2
   have HL2:=Lib.hid hl2
   have HB2:=Lib.hid hB2
   have HG2:=Lib.hid hG2
   clear hl2 hB2 hG2
   clear h1x h11 h12 hb2
   cases hb:l.any len40 with
   | true =>
    have hcd:bufCode blocks most s l=3:=by rw [HCD1.out,if_pos hb]
    have HCD:=Lib.hid hcd
    have HB:=Lib.hid hb
    clear hcd hb
    go_wp2_with fail
    go_ret
    exact buf_fail HM.out HB2.out HCD.out (by decide)
   | false =>
    have hcd2:=HCD1.out
    rw [hb,if_neg (by decide)] at hcd2
    have h40all:∀ x∈l,x.data.length=40:=fun x hx=>by
     rw [List.any_eq_false] at hb
     have:=hb x hx
     unfold len40 at this
     simpa using this
    have HB:=Lib.hid hb
    have HCD2:=Lib.hid hcd2
    have H40ALL:=Lib.hid h40all
    clear hb hcd2 h40all
    go_wp2_with fail
    refine (twice_any G _ l _ HG2.out HL2.out n1).mono ?_
    rintro e w3 ⟨rfl,hb3⟩
    have h3x:=cell_up hb3 h2x
    have h31:=cell_up hb3 h21
    have h32:=cell_up hb3 h22
    have hB3:=Below.up HB2.out hb3
    have HB3:=Lib.hid hB3
    clear hB3
    clear h2x h21 h22 hb3
    cases ht:twiceB l with
    | true =>
     have hcd:bufCode blocks most s l=4:=by rw [HCD2.out,if_pos ht]
     have HCD:=Lib.hid hcd
     have HT:=Lib.hid ht
     clear hcd ht
     go_wp2_with fail
     go_ret
     exact buf_fail HM.out HB3.out HCD.out (by decide)
    | false =>
     have hcd3:=HCD2.out
     rw [ht,if_neg (by decide)] at hcd3
     have hnd:=twiceB_no.1 ht
     have hm3:=HMP.out.up HB3.out
     have hlen:=hm3.len (P:=Tryz.prog) Tryz.underlying160 3
     rw [HML.out] at hlen
     have HT:=Lib.hid ht
     have HCD3:=Lib.hid hcd3
     have HND:=Lib.hid hnd
     have HM3:=Lib.hid hm3
     clear ht hcd3 hnd hm3
     go_wp2_with fail
     clear hlen
     go_loopw [5,37] (fun n i wr=>∃ k:Nat,k≤l.length∧i=.int .i64 k∧n=.int .i64 ((s.length+freshN s (l.take k):Nat):Int)∧Hid (Below w3.heap.size w3 wr)) (fun _ i _=>l.length - (intOf i).toNat)
     case atStart=>exact ⟨0,by omega,rfl,by simp [freshN],Below.refl _ _⟩
     case round =>
      obtain ⟨k,hk,rfl,rfl,HB⟩:=hrel
      have hx3:=cell_up HB.out h3x
      have hx1:=cell_up HB.out h31
      have hx2:=cell_up HB.out h32
      have hbw:=Below.up HB3.out HB.out
      by_cases hlt:k < l.length
      case pos =>
       obtain ⟨g,o,rfl,hg,hca,hci,dv,hcb,hd⟩:=HQ4.out k hlt
       have hca':=(hbw.cell (p:=⟨g,o+k * 2,none⟩) (hG g hg)).trans hca
       have hcb':=(hbw.cell (p:=⟨g,o+k * 2+1,none⟩) (hG g hg)).trans hcb
       have hfr:=freshN_take s l k hlt
       obtain ⟨dp,dc,rfl⟩:=shape_of hd rfl
       have hfb:freshN s (l.take k)≤l.length:=by unfold freshN;exact Nat.le_trans (List.length_filter_le _ _) (by rw [List.length_take];omega)
       generalize l[k]=x at *
       have hba:=below_alloc wr (.cells #[.int .i64 x.lba,.slice dp x.data.length dc] 44)
       have hka:(wr.alloc (.cells #[.int .i64 x.lba,.slice dp x.data.length dc] 44)).cell? ⟨wr.heap.size,0,none⟩=some (.int .i64 x.lba):=by rw [cell_row (heap_alloc_new wr _)];rfl
       have hya:=cell_up hba hx3
       have hyb:=cell_up hba hx2
       have hma:=(HMP.out.up hbw).up hba
       have hlk:=fun n=>((hma.up (below_drewN (Below.refl _ _) n)).lookup (P:=Tryz.prog) Tryz.underlying160 Tryz.underlying3 (Tryz.zeroValue40 _) x.lba true)
       have hlk0:=hma.lookup (P:=Tryz.prog) Tryz.underlying160 Tryz.underlying3 (Tryz.zeroValue40 _) x.lba true
       have hba3:=Below.up HB.out hba
       generalize freshN s (l.take k)=q at *
       have hql:((s.length+q:Nat):Int)≤2000000:=by omega
       rcases HAL.out.look x.lba with ⟨e1,e2⟩ | ⟨u,d,e1,e2,_⟩
       ·rw [e1] at hlk hlk0
        rw [e2] at hfr
        simp only [Option.getD_none,Option.isSome_none,Option.isNone_none,if_true] at hlk hlk0 hfr
        have HFR:=Lib.hid hfr
        have HBA3:=Lib.hid hba3
        have HBW:=Lib.hid hbw
        have HE1:=Lib.hid e1
        have HE2:=Lib.hid e2
        clear hfr hba3 hbw e1 e2
        clear hma hba hca hcb hd hx3 hx2 hfb
        go_wp2_with fail
        go_quiet (fail)
        go_wp2_with fail
        go_roundw
        case rel=>exact ⟨k+1,by omega,by go_num,by rw [HFR.out];go_num,below_drewN HBA3.out _⟩
        case measure=>simp [intOf];omega
       ·rw [e1] at hlk hlk0
        rw [e2] at hfr
        simp only [Option.getD_some,Option.isSome_some,Option.isNone_some,if_true] at hlk hlk0 hfr
        have HFR:=Lib.hid hfr
        have HBA3:=Lib.hid hba3
        have HBW:=Lib.hid hbw
        have HE1:=Lib.hid e1
        have HE2:=Lib.hid e2
        clear hfr hba3 hbw e1 e2
        clear hma hba hca hcb hd hx3 hx2 hfb
        go_wp2_with fail
        go_quiet (fail)
        go_wp2_with fail
        go_roundw
        case rel=>exact ⟨k+1,by omega,by go_num,by rw [HFR.out];simp,below_drewN HBA3.out _⟩
        case measure=>simp [intOf];omega
      case neg =>
       obtain rfl:k=l.length:=by omega
       rw [List.take_length]
       have hfb:freshN s l≤l.length:=by unfold freshN;exact List.length_filter_le _ _
       generalize hfn:freshN s l=fn at *
       have HFN:=Lib.hid hfn
       clear hfn
       have hcd4:=HCD3.out
       obtain ⟨nn,hnn⟩:∃ nn:Int,((s.length+fn:Nat):Int)=nn:=⟨_,rfl⟩
       rw [hnn] at hcd4 ⊢
       have HNN:=Lib.hid hnn
       clear hnn
       by_cases hbig:most < nn
       case pos =>
        have hcd:bufCode blocks most s l=7:=by rw [hcd4,if_pos hbig]
        have HCD:=Lib.hid hcd
        have HBW:=Lib.hid hbw
        have HCD4:=Lib.hid hcd4
        clear hcd hbw hcd4
        go_wp2_with fail
        go_ret
        exact buf_fail HM.out HBW.out HCD.out (by decide)
       case neg =>
        have hcd:bufCode blocks most s l=0:=by rw [hcd4,if_neg hbig]
        have hbig':nn≤most:=by omega
        have HCD:=Lib.hid hcd
        have HBW:=Lib.hid hbw
        have HCD4:=Lib.hid hcd4
        clear hcd hbw hcd4
        clear hbig
        have hW4l:=PutsAt.up HLL.out HBW.out
        have hBu4:BufIs (fun q=>F q∨(wr.heap.size≤q∧q < wr.heap.size)) wr (.pointer (some ⟨b,0,none⟩)) blocks most s:=by
         obtain ⟨⟨b',r',ml',g1,g2,g3,g4,g5,g6⟩,gd⟩:=HM.out.up HBW.out
         exact ⟨⟨b',r',ml',g1,.inl g2,.inl g3,g4,g5,g6.imp fun _ _ h=>h.mono fun _ h=>⟨.inl h.1,h.2⟩⟩,fun k hk=>hk.elim (gd k) (fun h=>h.2)⟩
        have hFd:Dom F w:=HM.out.dom
        obtain ⟨W4,rfl⟩:∃ W4:World,W4=wr:=⟨_,rfl⟩
        have hwz:=HBW.out.size
        have hG4:Dom G W4:=hG.below HBW.out
        have HW4L:=Lib.hid hW4l
        have HBU4:=Lib.hid hBu4
        have HFD:=Lib.hid hFd
        have HG4:=Lib.hid hG4
        clear hW4l hBu4 hFd hG4
        go_wp2_with fail
        clear hfb h31 h32 hx1 hx2 h3x
        go_loopw [64] (fun i wr=>∃ k:Nat,k≤l.length∧i=.int .i64 k∧Hid (BufIs (fun q=>F q∨(W4.heap.size≤q∧q < wr.heap.size)) wr (.pointer (some ⟨b,0,none⟩)) blocks most (putsTo s (l.take k)))∧Hid (Chg F W4 wr)) (fun i _=>l.length - (intOf i).toNat)
        case atStart=>exact ⟨0,by omega,rfl,HBU4.out,Chg.refl _ _⟩
        case round =>
         obtain ⟨k,hk,rfl,HBU,HCH⟩:=hrel
         by_cases hlt:k < l.length
         case neg =>
          obtain rfl:k=l.length:=by omega
          have hbu:=HBU.out
          rw [List.take_length] at hbu
          have hnext:bufNext blocks most s l=putsTo s l:=by unfold bufNext;rw [if_pos HCD.out]
          have hz4:=HCH.out.size
          have HBU:=Lib.hid hbu
          have HNEXT:=Lib.hid hnext
          clear hbu hnext
          go_wp2_with fail
          go_ret
          refine ⟨by rw [HCD.out];rfl,(Chg.of_below HBW.out (fun k h1 h2=>by omega)).trans HCH.out,?_⟩
          rw [HNEXT.out]
          obtain ⟨⟨b',r',ml',g1,g2,g3,g4,g5,g6⟩,gd⟩:=HBU.out
          have up:∀ q,(F q∨(W4.heap.size≤q∧q < wr.heap.size))→F q∨New w wr q:=fun q h=>h.imp id fun h=>⟨by omega,h.2⟩
          exact ⟨⟨b',r',ml',g1,up _ g2,up _ g3,g4,g5,g6.imp fun _ _ h=>h.mono fun _ h=>⟨up _ h.1,h.2⟩⟩,fun k hk=>hk.elim (fun hf=>by have:=HFD.out k hf;omega) (fun h=>h.2)⟩
         case pos =>
          have hz4:=HCH.out.size
          have hlw:PutsAt G wr (.slice lp l.length lc) l:=PutsAt.same HW4L.out (HCH.out.same fun q hq=>⟨HG4.out q hq,fun hf=>hFG q hf hq⟩)
          obtain ⟨lp',lc',he,_,_,_,h4'⟩:=hlw
          cases he
          obtain ⟨g,o,rfl,hg,hca,hci,dv,hcb,hd⟩:=h4' k hlt
          have htk:=take_snoc l k hlt
          obtain ⟨dp,dc,rfl⟩:=shape_of hd rfl
          have h40x:=H40ALL.out _ (List.getElem_mem hlt)
          generalize l[k]=x at *
          have hput:putsTo s (l.take (k+1))=aset (putsTo s (l.take k)) x.lba x.data:=by rw [htk,putsTo_snoc]
          have h40:x.data.length≤1000000:=by omega
          obtain ⟨b',r',ml',g1,hBB⟩:=HBU.out.parts
          cases g1
          have i2:wr.cell? ⟨b,2,none⟩=some (.map (some r')):=by rw [cell_row hBB.hb];rfl
          have hmW:=hBB.hm
          have hbxW:wr.cell? ⟨w.heap.size,0,none⟩=some (.pointer (some ⟨b,0,none⟩)):=HCH.out.cell (fun hf=>by have:=HFD.out _ hf;omega) hx3
          have hba:=below_alloc wr (.cells #[.int .i64 x.lba,.slice dp x.data.length dc] 44)
          have hka:(wr.alloc (.cells #[.int .i64 x.lba,.slice dp x.data.length dc] 44)).cell? ⟨wr.heap.size,0,none⟩=some (.int .i64 x.lba):=by rw [cell_row (heap_alloc_new wr _)];rfl
          have hkb:(wr.alloc (.cells #[.int .i64 x.lba,.slice dp x.data.length dc] 44)).cell? ⟨wr.heap.size,1,none⟩=some (.slice dp x.data.length dc):=by rw [cell_row (heap_alloc_new wr _)];rfl
          have hya:=cell_up hba hbxW
          have hyb:=cell_up hba i2
          have hda:=BytesAt.up hd hba
          have hzz:=hba.size
          have HPUT:=Lib.hid hput
          have H40:=Lib.hid h40
          have HMW:=Lib.hid hmW
          have HBB:=Lib.hid hBB
          have HDA:=Lib.hid hda
          have HBA:=Lib.hid hba
          have HTK:=Lib.hid htk
          have HCI:=Lib.hid hci
          have H40X:=Lib.hid h40x
          clear hput h40 hmW hBB hda hba htk hci h40x
          go_wp2_with fail
          go_region_held3 (fun W=>W.cell? ⟨w.heap.size,0,none⟩=some (.pointer (some ⟨b,0,none⟩))∧W.cell? ⟨b,2,none⟩=some (.map (some r'))∧W.cell? ⟨wr.heap.size,0,none⟩=some (.int .i64 x.lba)∧W.cell? ⟨wr.heap.size,1,none⟩=some (.slice dp x.data.length dc))
           (first
             | (go_split_ands;exact ⟨cell_up hb7 (by assumption),cell_up hb7 (by assumption),cell_up hb7 (by assumption),cell_up hb7 (by assumption)⟩)
             | (go_split_ands;exact ⟨(hT8.cell _).trans (by assumption),(hT8.cell _).trans (by assumption),(hT8.cell _).trans (by assumption),(hT8.cell _).trans (by assumption)⟩)
             | go_keep)
           ((first
             | (go_at_call 45
                refine (clone_any G _ x.data _ (by exact BytesAt.up HDA.out (below_drewN (Below.refl _ _) 1)) H40.out).mono ?_
                rintro e w7 ⟨v7,rfl,hnv,hb7⟩
                have hbA7:=Below.up (below_drewN HBA.out 1) hb7
                have hm7:=HMW.out.up hbA7
                obtain ⟨w8,hu8,hm8,hT8⟩:=hm7.update (P:=Tryz.prog) Tryz.underlying160 Tryz.underlying3 x.lba v7)))
          all_goals
           have hput8:=HBB.out.put (k:=x.lba) hbA7 (hnv.mono fun q hq=>⟨by have:=hq.1;simp at this;omega,hq.2⟩) hm8 hT8
           obtain ⟨hp1,hp2⟩:=hput8
           have hz8:=hp2.size
           have hbu8:=(hp1.wider (F':=fun q=>F q∨(W4.heap.size≤q∧q < w8.heap.size)) (fun q hq=>by
            rcases hq with (h | h) | h
            ·exact .inl h
            ·exact .inr ⟨h.1,by omega⟩
            ·exact .inr ⟨by have:=h.1;omega,h.2⟩) (fun q hq=>hq.elim (fun hf=>by have:=HFD.out q hf;omega) (fun h=>h.2))).is
           rw [← HPUT.out] at hbu8
           have hch8:Chg F W4 w8:=HCH.out.trans' hp2 (fun i hi h=>h.elim id fun h=>by have:=h.1;omega)
           have HBU8:=Lib.hid hbu8
           have HCH8:=Lib.hid hch8
           clear hbu8 hch8
           clear hp1 hp2 hm8 hT8 hm7 hbA7 hb7 hnv hu8
           go_wp2_with fail
           go_roundw
           case rel=>exact ⟨k+1,by omega,by go_num,HBU8.out,HCH8.out⟩
           case measure=>simp [intOf];omega
end Go.Proofs
namespace Go.Proofs
open Go.RowKit Sc
theorem putsTo_keys (l:List Put):∀ s:List (Int × Bytes),∀ x∈putsTo s l,(x∈s)∨∃ p∈l,x=(p.lba,p.data):=by
 induction l with
 | nil=>intro s x hx;exact .inl hx
 | cons p l ih =>
  intro s x hx
  rcases ih (aset s p.lba p.data) x hx with h | ⟨q,hq,rfl⟩
  ·rcases aset_mem h with rfl | h
   ·exact .inr ⟨p,by simp,rfl⟩
   ·exact .inl h
  ·exact .inr ⟨q,by simp [hq],rfl⟩
theorem putsTo_nodup (l:List Put):∀ s:List (Int × Bytes),(s.map (·.1)).Nodup→((putsTo s l).map (·.1)).Nodup:=by
 induction l with
 | nil=>intro s h;exact h
 | cons p l ih=>intro s h;exact ih _ (nodup_aset h _ _)
theorem aset_len (s:List (Int × Bytes)) (k:Int) (d:Bytes):(aset s k d).length=s.length+if (alook s k).isNone then 1 else 0:=by
 induction s with
 | nil=>rfl
 | cons x t ih =>
  obtain ⟨n,y⟩:=x
  by_cases h:n=k
  ·subst h;simp [aset,alook]
  ·simp [aset,alook,h,ih];omega
theorem putsTo_len (l:List Put):∀ s:List (Int × Bytes),(l.map (·.lba)).Nodup→(putsTo s l).length=s.length+freshN s l:=by
 induction l with
 | nil=>intro s _;rfl
 | cons p l ih =>
  intro s hn
  simp only [List.map_cons,List.nodup_cons] at hn
  show (putsTo (aset s p.lba p.data) l).length=_
  rw [ih _ hn.2,aset_len]
  have:freshN (aset s p.lba p.data) l=freshN s l:=by
   unfold freshN
   congr 1
   refine List.filter_congr fun q hq=>?_
   rw [alook_aset,if_neg (fun e=>hn.1 (List.mem_map.2 ⟨q,hq,e⟩))]
  rw [this]
  unfold freshN
  rw [List.filter_cons]
  split <;> simp_all <;> omega
structure BufG (blocks:Int) (s:List (Int × Bytes)):Prop where
 nd:(s.map (·.1)).Nodup
 ks:∀ x∈s,0≤x.1∧x.1 < blocks∧x.2.length=40
theorem BufG.start (blocks:Int):BufG blocks []:=⟨List.nodup_nil,by simp⟩
theorem bufCode_zero {blocks most:Int} {s:List (Int × Bytes)} {l:List Put} (h:bufCode blocks most s l=0):l≠[]∧(∀ p∈l,0≤p.lba∧p.lba < blocks)∧(∀ p∈l,p.data.length=40)∧(l.map (·.lba)).Nodup∧((s.length+freshN s l:Nat):Int)≤most:=by
 unfold bufCode at h
 split at h
 ·cases h
 rename_i h1
 split at h
 ·cases h
 rename_i h2
 split at h
 ·cases h
 rename_i h3
 split at h
 ·cases h
 rename_i h4
 split at h
 ·cases h
 rename_i h5
 refine ⟨h1,fun p hp=>?_,fun p hp=>?_,twiceB_no.1 (by simpa using h4),by omega⟩
 ·simp only [List.any_eq_true,not_exists,not_and,outB,Bool.or_eq_true,decide_eq_true_eq] at h2
  have:=h2 p hp;omega
 ·simp only [List.any_eq_true,not_exists,not_and,len40] at h3
  have:=h3 p hp
  simpa using this
theorem BufG.next {blocks most:Int} {s:List (Int × Bytes)} (h:BufG blocks s) (l:List Put):BufG blocks (bufNext blocks most s l):=by
 unfold bufNext
 split
 ·rename_i hc
  obtain ⟨_,h2,h3,_,_⟩:=bufCode_zero hc
  refine ⟨putsTo_nodup l s h.nd,fun x hx=>?_⟩
  rcases putsTo_keys l s x hx with hx | ⟨p,hp,rfl⟩
  ·exact h.ks x hx
  ·exact ⟨(h2 p hp).1,(h2 p hp).2,h3 p hp⟩
 ·exact h
theorem bufNext_len {blocks most:Int} {s:List (Int × Bytes)} (l:List Put):(bufNext blocks most s l).length≤s.length+l.length∧((s.length:Int)≤most→((bufNext blocks most s l).length:Int)≤most):=by
 unfold bufNext
 split
 ·rename_i hc
  obtain ⟨_,_,_,h4,h5⟩:=bufCode_zero hc
  rw [putsTo_len l s h4]
  have:freshN s l≤l.length:=by unfold freshN;exact List.length_filter_le _ _
  exact ⟨by omega,fun _=>h5⟩
 ·exact ⟨by omega,fun h=>h⟩
theorem BufG.i64 {blocks:Int} {s:List (Int × Bytes)} (h:BufG blocks s) (hb:blocks≤1048576):∀ x∈s,I64 x.1:=fun x hx=>by have:=h.ks x hx;unfold I64;omega
theorem BufG.d40 {blocks:Int} {s:List (Int × Bytes)} (h:BufG blocks s):∀ x∈s,x.2.length≤1000000:=fun x hx=>by have:=h.ks x hx;omega
theorem bufNew_sep {W w:World} {L:List Asn} (h:Sep W L w) (n m:Int) (h1:1≤n) (h2:n≤1048576) (h3:0≤m) :
  Calls Tryz.prog 215 #[.int .i64 n,.int .i64 m] w fun e w'=>∃ b:Nat,e=.returned (.tuple #[.pointer (some ⟨b,0,none⟩),.int .i64 0])∧Hid (Sep W (L++[BufA (.pointer (some ⟨b,0,none⟩)) n m []]) w'):=by
 refine (bufNew_any n m w h1 h2 h3).mono ?_
 rintro e w' ⟨b,rfl,hm,hb⟩
 exact ⟨b,rfl,h.new hb (BufA _ n m []) (fun _ h=>h) hm⟩
theorem bufWrite_sep {W w:World} {L:List Asn} (h:Sep W L w) (i:Nat) {v lv:Value} {blocks most:Int} {s:List (Int × Bytes)} (hi:L[i]? = some (BufA v blocks most s)) (l:List Put) (hl:∀ G,Sc.Rest L i G w→PutsAt G w lv l) (n0:s.length≤1000000) (n1:l.length≤1000000) :
  Calls Tryz.prog 220 #[v,lv] w fun e w'=>e=.returned (.int .i64 (bufCode blocks most s l))∧Hid (Sep W (L.set i (BufA v blocks most (bufNext blocks most s l))) w'):=by
 obtain ⟨F,G,hF,hR,hFG,hdF,hdG,K⟩:=h.at i hi
 refine (bufWrite_any F G v lv blocks most s l w hF (hl G hR) hdG hFG n0 n1).mono ?_
 rintro e w' ⟨rfl,hc,hm⟩
 exact ⟨rfl,K w' _ (BufA v blocks most (bufNext blocks most s l)) hc (fun k hk=>hk) hm⟩
theorem puts_box1 {G:Nat→Prop} {w:World} {g:Nat} {n:Int} {dv:Value} {d:Bytes} {T:TypeId} (hh:w.heap[g]? = some (.cells #[.int .i64 n,dv] T (0,0))) (hg:G g) (hn:I64 n) (hd:BytesAt G w dv d):PutsAt G w (.slice (some ⟨g,0,none⟩) 1 1) [⟨n,d⟩]:=by
 refine ⟨_,1,rfl,Nat.le_refl _,by omega,(by intro h;cases h),fun i hi=>?_⟩
 simp only [List.length_cons,List.length_nil] at hi
 obtain rfl:i=0:=by omega
 exact ⟨g,0,rfl,hg,by rw [cell_row hh];rfl,hn,dv,by rw [cell_row hh];rfl,hd⟩
end Go.Proofs
namespace Go.Proofs
open Go.RowKit Sc
theorem AL.upd {α β:Type} {R R':α→β→Prop} {k:Int} {v:α} {d:β} (hv:R' v d):∀ {m:List (Int × α)} {s:List (Int × β)},(m.map (·.1)).Nodup→AL R m s→(∀ n a b,(n,a)∈m→n≠k→R a b→R' a b)→AL R' (aset m k v) (aset s k d)
 | [],[],_,_,_=>⟨⟨rfl,hv⟩,trivial⟩
 | (a1,a2) :: m,(b1,b2) :: s,hn,⟨⟨h1,h2⟩,h3⟩,ho=>by
  simp only at h1 h2
  subst h1
  simp only [List.map_cons,List.nodup_cons] at hn
  by_cases hk:a1=k
  ·simp only [aset,if_pos hk]
   refine ⟨⟨rfl,hv⟩,all h3 (fun x hx e=>hn.1 ?_) fun n a b hm=>ho n a b (List.mem_cons_of_mem _ hm)⟩
   rw [hk,← e];exact List.mem_map.2 ⟨x,hx,rfl⟩
  ·simp only [aset,if_neg hk]
   exact ⟨⟨rfl,ho a1 a2 b2 (List.mem_cons_self ..) hk h2⟩,AL.upd hv hn.2 h3 fun n a b hm=>ho n a b (List.mem_cons_of_mem _ hm)⟩
 | [],_ :: _,_,h',_=>h'.elim
 | _ :: _,[],_,h',_=>h'.elim
where all {α β:Type} {R R':α→β→Prop} {k:Int}:∀ {m:List (Int × α)} {s:List (Int × β)},AL R m s→(∀ x∈m,x.1≠k)→(∀ n a b,(n,a)∈m→n≠k→R a b→R' a b)→AL R' m s
 | [],[],_,_,_=>trivial
 | (a1,a2) :: m,(b1,b2) :: s,⟨⟨h1,h2⟩,h3⟩,hk,ho=>⟨⟨h1,ho a1 a2 b2 (List.mem_cons_self ..) (hk _ (List.mem_cons_self ..)) h2⟩,all h3 (fun x hx=>hk x (List.mem_cons_of_mem _ hx)) fun n a b hm=>ho n a b (List.mem_cons_of_mem _ hm)⟩
 | [],_ :: _,h',_,_=>h'.elim
 | _ :: _,[],h',_,_=>h'.elim
structure ExtB (F:Nat→Prop) (w:World) (b r:Nat) (ml:List (Int × Value)) (D:Nat→Prop) (blocks last:Int) (vs:Vers):Prop where
 fb:F b
 fr:F r
 hb:w.heap[b]? = some (.cells #[.int .i64 blocks,.map (some r),.int .i64 last] 261 (0,0))
 hm:MapIs w r ml
 ha:AL (fun u l=>OutS 267 2 putR 0 w u l D∧∀ g,u.ownBlock=some g→F g∧g≠b∧g≠r) ml vs
 ho:∀ x∈ml,∀ y∈ml,x.1≠y.1→∀ g,x.2.ownBlock=some g→y.2.ownBlock≠some g
 hD:∀ k,D k→F k∧k≠b∧k≠r
 dom:Dom F w
theorem ExtIs.parts {F:Nat→Prop} {w:World} {v:Value} {blocks last:Int} {vs:Vers} (h:ExtIs F w v blocks last vs):∃ b r ml D,v=.pointer (some ⟨b,0,none⟩)∧ExtB F w b r ml D blocks last vs:=by
 obtain ⟨⟨b,r,ml,D,h1,h2,h3,h4,h5,h6,h7,h8⟩,hd⟩:=h
 exact ⟨b,r,ml,D,h1,h2,h3,h4,h5,h6,h7,h8,hd⟩
theorem ExtB.is {F:Nat→Prop} {w:World} {b r:Nat} {ml:List (Int × Value)} {D:Nat→Prop} {blocks last:Int} {vs:Vers} (h:ExtB F w b r ml D blocks last vs):ExtIs F w (.pointer (some ⟨b,0,none⟩)) blocks last vs :=
 ⟨⟨b,r,ml,D,rfl,h.fb,h.fr,h.hb,h.hm,h.ha,h.ho,h.hD⟩,h.dom⟩
theorem ExtB.up {F:Nat→Prop} {w w':World} {b r:Nat} {ml:List (Int × Value)} {D:Nat→Prop} {blocks last:Int} {vs:Vers} (h:ExtB F w b r ml D blocks last vs) (hb:Below w.heap.size w w'):ExtB F w' b r ml D blocks last vs :=
 have hs:=h.dom.same hb
 ⟨h.fb,h.fr,by rw [hs b h.fb];exact h.hb,h.hm.same hs h.fr,h.ha.imp fun _ _ ⟨a,c⟩=>⟨a.same putR_stable hs hb.size (fun g hg=>(c g hg).1) (fun k hk=>(h.hD k hk).1),c⟩,h.ho,h.hD,h.dom.of_size hb.size⟩
theorem ExtB.ne {F:Nat→Prop} {w:World} {b r:Nat} {ml:List (Int × Value)} {D:Nat→Prop} {blocks last:Int} {vs:Vers} (h:ExtB F w b r ml D blocks last vs):b≠r:=by
 intro e
 obtain ⟨es,c,hh,_⟩:=h.hm
 have:=h.hb
 rw [e,hh] at this
 cases this
theorem ExtB.look {F:Nat→Prop} {w:World} {b r:Nat} {ml:List (Int × Value)} {D:Nat→Prop} {blocks last:Int} {vs:Vers} (h:ExtB F w b r ml D blocks last vs) (k:Int) :
  ∃ u l,(alook ml k).getD (.slice none 0 0)=u∧(alook vs k).getD []=l∧OutS 267 2 putR 0 w u l D∧(∀ g,u.ownBlock=some g→F g∧g≠b∧g≠r)∧(∀ x∈ml,x.1≠k→∀ g,x.2.ownBlock=some g→u.ownBlock≠some g):=by
 rcases h.ha.look k with ⟨h1,h2⟩ | ⟨u,l,h1,h2,h3,h4⟩
 ·refine ⟨_,_,by rw [h1];try rfl,by rw [h2];try rfl,?_,by simp [Value.ownBlock],by simp [Value.ownBlock]⟩
  obtain ⟨css,a1,a2,a3,a4,a5⟩:=(OutS.nil (T:=267) (k:=2) (R:=putR) (B:=0) (w:=w))
  exact ⟨css,a1,a2,a3,fun i h h'=>absurd h' (by simp),fun q hq=>⟨Nat.zero_le _,h.dom q (h.hD q hq).1,by simp [Value.ownBlock]⟩⟩
 ·exact ⟨u,l,by rw [h1];rfl,by rw [h2];rfl,h3,h4,fun x hx hne g hg=>h.ho x hx (k,u) (alook_in h1) hne g hg⟩
theorem ExtB.put {F:Nat→Prop} {w w4 w5 w6:World} {b r:Nat} {ml:List (Int × Value)} {D D5:Nat→Prop} {blocks last:Int} {vs:Vers} (h:ExtB F w b r ml D blocks last vs) {k:Int} {u v':Value} {gg:Nat} {l':List Put}
  (hu:∀ g,u.ownBlock=some g→F g∧g≠b∧g≠r) (hud:∀ x∈ml,x.1≠k→∀ g,x.2.ownBlock=some g→u.ownBlock≠some g) (huD:∀ g,u.ownBlock=some g→¬ D g)
  (hb4:Below w.heap.size w w4) (hg5:w4.grownBy w5 u.ownBlock) (hv:v'.ownBlock=some gg) (hat:u.ownBlock=some gg∨w.heap.size≤gg) (hgl:gg < w5.heap.size)
  (hn:OutS 267 2 putR 0 w5 v' l' D5) (hD5:∀ q,D5 q→D q∨New w w5 q) (hDD:∀ q,D q→D5 q)
  (hm6:MapIs w6 r (aset ml k v')) (hT:Turned r w5 w6) :
  ExtB (fun q=>F q∨New w w6 q) w6 b r (aset ml k v') D5 blocks last (aset vs k l')∧Chg F w w6:=by
 have hz4:=hb4.size
 have hz5:=hg5.size
 have hz6:=hT.size
 have hbr:=h.ne
 have hbl:=h.dom b h.fb
 have hrl:=h.dom r h.fr
 have keep5:∀ q,q < w.heap.size→u.ownBlock≠some q→w5.heap[q]? = w.heap[q]? := fun q hq hne=>(hg5.block q (by omega) (fun e=>hne e.symm)).trans (hb4.block q hq)
 have keep6:∀ q,q≠r→w6.heap[q]? = w5.heap[q]? := fun q hq=>hT.block q hq
 have hub:∀ q,u.ownBlock=some q→q≠b∧q≠r:=fun q hq=>(hu q hq).2
 have turn:∀ {v0:Value} {l0:List Put} {E:Nat→Prop},OutS 267 2 putR 0 w5 v0 l0 E→v0.ownBlock≠some r→¬ E r→OutS 267 2 putR 0 w6 v0 l0 E:=fun ho h1 h2 =>
  ho.same putR_stable (F:=fun q=>q≠r) (fun q hq=>keep6 q hq) (by omega) (fun g hg e=>h1 (e ▸ hg)) (fun q hq e=>h2 (e ▸ hq))
 have hD5r:∀ q,D5 q→(F q∨New w w6 q)∧q≠b∧q≠r:=by
  intro q hq
  rcases hD5 q hq with hd | hd
  ·exact ⟨.inl (h.hD q hd).1,(h.hD q hd).2⟩
  ·have h1:=hd.1
   have h2:=hd.2
   exact ⟨.inr ⟨h1,by omega⟩,by omega,by omega⟩
 have hgr:gg≠b∧gg≠r:=by
  rcases hat with e | e
  ·exact hub gg e
  ·exact ⟨by omega,by omega⟩
 refine ⟨⟨.inl h.fb,.inl h.fr,?_,hm6,?_,?_,hD5r,fun q hq=>hq.elim (fun hf=>by have:=h.dom q hf;omega) (fun hf=>hf.2)⟩,⟨?_,?_,?_,by omega,?_⟩⟩
 ·rw [keep6 b hbr,keep5 b hbl (fun e=>(hub b e).1 rfl)];exact h.hb
 ·refine AL.upd (k:=k) ?_ (by obtain ⟨_,_,_,_,hnd,_⟩:=h.hm;exact hnd) h.ha ?_
  ·refine ⟨turn hn (by rw [hv];simp;exact hgr.2) (fun hr=>(hD5r r hr).2.2 rfl),fun g hg=>?_⟩
   rw [hv] at hg
   cases hg
   refine ⟨?_,hgr⟩
   rcases hat with e | e
   ·exact .inl (hu gg e).1
   ·exact .inr ⟨e,by omega⟩
  ·rintro n a bl hmem hne ⟨ho,hc⟩
   refine ⟨?_,fun g hg=>⟨.inl (hc g hg).1,(hc g hg).2⟩⟩
   have hown:∀ g,a.ownBlock=some g→u.ownBlock≠some g:=fun g hg=>hud (n,a) hmem hne g hg
   have hal:∀ g,a.ownBlock=some g→g < w.heap.size:=fun g hg=>h.dom g (hc g hg).1
   have hDu:∀ q,D q→u.ownBlock≠some q:=fun q hq e=>huD q e hq
   have h5:OutS 267 2 putR 0 w5 a bl D :=
    ho.same putR_stable (F:=fun q=>q < w.heap.size∧u.ownBlock≠some q) (fun q hq=>keep5 q hq.1 hq.2) (by omega) (fun g hg=>⟨hal g hg,hown g hg⟩) (fun q hq=>⟨h.dom q (h.hD q hq).1,hDu q hq⟩)
   have h6:OutS 267 2 putR 0 w5 a bl D5:=by
    have hoD:∀ q,D q→a.ownBlock≠some q:=by obtain ⟨_,_,_,_,_,h5'⟩:=ho;exact fun q hq=>(h5' q hq).2.2
    refine h5.more putR_stable hDD fun q hq=>⟨Nat.zero_le _,?_,?_⟩
    ·rcases hD5 q hq with hd | hd
     ·have:=h.dom q (h.hD q hd).1;omega
     ·exact hd.2
    ·rcases hD5 q hq with hd | hd
     ·exact hoD q hd
     ·intro e;have:=hal q e;have:=hd.1;omega
   exact turn h6 (fun e=>(hc r e).2.2 rfl) (fun hr=>(hD5r r hr).2.2 rfl)
 ·intro x hx y hy hne g hgx
  rcases aset_mem hx with rfl | hx
  ·rcases aset_mem hy with rfl | hy
   ·exact absurd rfl hne
   ·intro hgy
    rw [hv] at hgx
    cases hgx
    rcases hat with e | e
    ·exact hud y hy (fun e=>hne e.symm) gg hgy e
    ·obtain ⟨i,hi,hie⟩:=List.getElem_of_mem hy
     have:=All2.get h.ha i hi (by rw [← All2.length h.ha];exact hi)
     have:=h.dom gg (this.2.2 gg (by rw [hie];exact hgy)).1
     omega
  ·rcases aset_mem hy with rfl | hy
   ·intro hgy
    rw [hv] at hgy
    cases hgy
    rcases hat with e | e
    ·exact hud x hx hne gg hgx e
    ·obtain ⟨i,hi,hie⟩:=List.getElem_of_mem hx
     have:=All2.get h.ha i hi (by rw [← All2.length h.ha];exact hi)
     have:=h.dom gg (this.2.2 gg (by rw [hie];exact hgx)).1
     omega
   ·exact h.ho x hx y hy hne g hgx
 ·rw [hT.os,hg5.os,hb4.os]
 ·rw [hT.tape,hg5.tape,hb4.tape]
 ·rw [hT.output,hg5.output,hb4.output]
 ·intro q hq hF
  rw [keep6 q (fun e=>hF (e ▸ h.fr))]
  exact keep5 q hq (fun e=>hF (hu q e).1)
end Go.Proofs
namespace Go.Proofs
open Go.RowKit Sc
theorem applyLen_is (G:Nat→Prop) (x:Put) (ev:Value) (W:World) (he:putV G W ev x) :
  Calls Tryz.prog 168 (#[ev] ++ #[]) W fun e w'=>e=.returned (.bool (!decide (x.data.length=40)))∧Below W.heap.size W w':=by
 obtain ⟨dv,rfl,hi,hd⟩:=he
 obtain ⟨p,c,rfl,h1,h2,h3,h4⟩:=hd
 have hl:x.data.length≤9223372036854775807:=by omega
 clear h4 h3 hi
 generalize x.data.length=n at *
 show Calls _ _ #[.agg #[.int .i64 x.lba,.slice p n c]] _ _
 by_cases h:n=40
 ·subst h
  go_enter Tryz.func168,Tryz.ntmps168
  go_wp2
  go_ret
  exact ⟨rfl,below_alloc _ _⟩
 ·have hne:((n:Int) != 40)=true:=by rw [bne_iff_ne];omega
  have hd:decide (n=40)=false:=decide_eq_false h
  have HD:=Lib.hid hd
  have H:=Lib.hid h
  clear hd h
  go_enter Tryz.func168,Tryz.ntmps168
  go_wp2
  go_ret
  exact ⟨congrArg boolRet (by rw [HD.out];rfl),below_alloc _ _⟩
def lbaAt (l:List Put) (i:Nat):Int:=(l.map (·.lba)).getD i 0
theorem infoVer:(Tryz.prog.info? 267).map (fun i=>(i.zero,i.size,i.bytes))=some (some (.agg #[.int .i64 0,.slice none 0 0]),2,32):=by kernel_rfl
theorem lbaAt_get {l:List Put} {i:Nat} (h:i < l.length):l[i].lba=lbaAt l i:=by simp [lbaAt,List.getD,h]
def applyCode (blocks last:Int) (t:Tx):Int :=
 if t.time≤last∨1099511627776 < t.time then 11
 else if riseB t.puts=false then 1
 else if blk blocks (lbaAt t.puts 0)=false∨blk blocks (lbaAt t.puts (t.puts.length - 1))=false then 2
 else if t.puts.any (fun p=>!decide (p.data.length=40)) then 3 else 0
def applyOne (time:Int) (vs:Vers) (p:Put):Vers:=aset vs p.lba ((alook vs p.lba).getD []++[⟨time,p.data⟩])
def applyVs (time:Int) (vs:Vers) (l:List Put):Vers:=l.foldl (applyOne time) vs
theorem applyVs_snoc (time:Int) (vs:Vers) (l:List Put) (p:Put):applyVs time vs (l++[p])=applyOne time (applyVs time vs l) p:=by simp [applyVs]
def applyNext (blocks last:Int) (vs:Vers) (t:Tx):Vers:=if applyCode blocks last t=0 then applyVs t.time vs t.puts else vs
def applyLast (blocks last:Int) (t:Tx):Int:=if applyCode blocks last t=0 then t.time else last
def ApplySaid (F:Nat→Prop) (v:Value) (blocks last:Int) (vs:Vers) (t:Tx) (w:World) (e:Ending) (w':World):Prop :=
 e=.returned (.int .i64 (applyCode blocks last t))∧Chg F w w'∧ExtIs (fun k=>F k∨New w w' k) w' v blocks (applyLast blocks last t) (applyNext blocks last vs t)
theorem ExtIs.more {F:Nat→Prop} {w w':World} {v:Value} {blocks last:Int} {vs:Vers} (h:ExtIs F w v blocks last vs) (hb:Below w.heap.size w w'):ExtIs (fun k=>F k∨New w w' k) w' v blocks last vs:=by
 obtain ⟨b,r,ml,D,rfl,q⟩:=(h.up hb).parts
 have hd:=(h.up hb).dom
 exact ⟨⟨b,r,ml,D,rfl,.inl q.fb,.inl q.fr,q.hb,q.hm,q.ha.imp fun _ _ ⟨a,c⟩=>⟨a,fun g hg=>⟨.inl (c g hg).1,(c g hg).2⟩⟩,q.ho,fun k hk=>⟨.inl (q.hD k hk).1,(q.hD k hk).2⟩⟩,fun k hk=>hk.elim (hd k) (fun h=>h.2)⟩
theorem apply_fail {F:Nat→Prop} {v:Value} {blocks last c:Int} {vs:Vers} {t:Tx} {w w':World} (h:ExtIs F w v blocks last vs) (hb:Below w.heap.size w w') (hc:applyCode blocks last t=c) (h0:c≠0):ApplySaid F v blocks last vs t w (.returned (.int .i64 c)) w':=by
 refine ⟨by rw [hc],Chg.of_below hb (fun k h1 h2=>by omega),?_⟩
 unfold applyLast applyNext
 rw [hc,if_neg h0,if_neg h0]
 exact h.more hb
set_option maxRecDepth 100000 in
set_option maxHeartbeats 4000000 in
theorem extApply_any (F G:Nat→Prop) (v tv:Value) (blocks last:Int) (vs:Vers) (t:Tx) (w:World) (hm:ExtIs F w v blocks last vs) (h1b:1≤blocks) (ht:TxAt G w tv t) (hG:Dom G w) (hFG:∀ k,F k→¬ G k)
  (hln:∀ k l,alook vs k=some l→l.length≤1000000) (hpl:t.puts.length≤1000000) :
  Calls Tryz.prog 106 #[v,tv] w (ApplySaid F v blocks last vs t w):=by
 have HMOD:=Lib.hid hm
 obtain ⟨b,r,ml,D,rfl,hB⟩:=hm.parts
 obtain ⟨pv,rfl,hti,hp⟩:=ht
 have HP:=Lib.hid hp
 obtain ⟨pp,pc,rfl,hp1,hp2,hp3,hp4⟩:=hp
 have hc0:w.cell? ⟨b,0,none⟩=some (.int .i64 blocks):=by rw [cell_row hB.hb];rfl
 have hc2:w.cell? ⟨b,2,none⟩=some (.int .i64 last):=by rw [cell_row hB.hb];rfl
 have hbl:=hB.dom b hB.fb
 have hcode:applyCode blocks last t=applyCode blocks last t:=rfl
 have hbA:=below_alloc w (.cells #[.int .i64 t.time,.slice pp t.puts.length pc] 198)
 have hmA:=hm.up hbA
 have hgx:∀ i,i < t.puts.length→lbaAt t.puts i=(t.puts.map (·.lba)).getD i 0:=fun _ _=>rfl
 have HP4:=Lib.hid hp4
 have HB:=Lib.hid hB
 have HMA:=Lib.hid hmA
 have HLN:=Lib.hid hln
 clear hp4 hB hmA hln
 clear hp3 hm hgx hcode
 by_cases hb1:t.time≤last
 ·have hcd:applyCode blocks last t=11:=by unfold applyCode;rw [if_pos (.inl hb1)]
  have HCD:=Lib.hid hcd
  clear hcd
  go_enter Tryz.func106,Tryz.ntmps106
  go_wp2_with fail
  refine (extGone_any F _ _ _ _ _ HMA.out h1b).mono ?_
  rintro e w1 ⟨rfl,rfl⟩
  go_wp2_with fail
  go_quiet (fail)
  go_wp2
  go_ret
  exact apply_fail HMOD.out (below_drewN hbA _) HCD.out (by decide)
 by_cases hb2:1099511627776 < t.time
 ·have hcd:applyCode blocks last t=11:=by unfold applyCode;rw [if_pos (.inr hb2)]
  have hb1':decide (t.time≤last)=false:=by simp;omega
  have hb1'':last < t.time:=by omega
  have HCD:=Lib.hid hcd
  clear hcd
  clear hb1
  go_enter Tryz.func106,Tryz.ntmps106
  go_wp2_with fail
  refine (extGone_any F _ _ _ _ _ HMA.out h1b).mono ?_
  rintro e w1 ⟨rfl,rfl⟩
  go_wp2_with fail
  go_quiet (fail)
  go_wp2
  go_ret
  exact apply_fail HMOD.out (below_drewN hbA _) HCD.out (by decide)
 have hb1':decide (t.time≤last)=false:=by simp;omega
 have hb1'':last < t.time:=by omega
 have hb2':decide (1099511627776 < t.time)=false:=by simp;omega
 have hb2'':t.time≤1099511627776:=by omega
 have hcd1:riseB t.puts=false→applyCode blocks last t=1:=by intro h;unfold applyCode;rw [if_neg (by omega),if_pos h]
 have hcd2:riseB t.puts=true→(blk blocks (lbaAt t.puts 0)=false∨blk blocks (lbaAt t.puts (t.puts.length - 1))=false)→applyCode blocks last t=2:=by
  intro h h';unfold applyCode;rw [if_neg (by omega),if_neg (by rw [h];decide),if_pos h']
 have hcd3:riseB t.puts=true→blk blocks (lbaAt t.puts 0)=true→blk blocks (lbaAt t.puts (t.puts.length - 1))=true→∀ q,t.puts.any (fun p=>!decide (p.data.length=40))=q→applyCode blocks last t=if q then 3 else 0:=by
  intro h h1 h2 q hq;unfold applyCode;rw [if_neg (by omega),if_neg (by rw [h];decide),if_neg (by rw [h1,h2];decide),hq]
 have HCD1:=Lib.hid hcd1
 have HCD2:=Lib.hid hcd2
 have HCD3:=Lib.hid hcd3
 clear hcd1 hcd2 hcd3
 clear hb1 hb2
 go_enter Tryz.func106,Tryz.ntmps106
 go_wp2_with fail
 refine (extGone_any F _ _ _ _ _ HMA.out h1b).mono ?_
 rintro e w1 ⟨rfl,rfl⟩
 go_wp2_with fail
 go_quiet (fail)
 have hb2:Below w.heap.size w ((w.alloc (.cells #[.int .i64 t.time,.slice pp t.puts.length pc] 198)).drewN nq):=below_drewN hbA _
 have e0:((w.alloc (.cells #[.int .i64 t.time,.slice pp t.puts.length pc] 198)).drewN nq).cell? ⟨w.heap.size,0,none⟩=some (.int .i64 t.time):=by go_simp
 have e1:((w.alloc (.cells #[.int .i64 t.time,.slice pp t.puts.length pc] 198)).drewN nq).cell? ⟨w.heap.size,1,none⟩=some (.slice pp t.puts.length pc):=by go_simp
 have hz2:w.heap.size < ((w.alloc (.cells #[.int .i64 t.time,.slice pp t.puts.length pc] 198)).drewN nq).heap.size:=by simp
 generalize (w.alloc (.cells #[.int .i64 t.time,.slice pp t.puts.length pc] 198)).drewN nq=W2 at *
 have HB2:=Lib.hid hb2
 clear hb2
 go_wp2_with fail
 refine (rise_any G _ t.puts _ (fun k hk=>by have:=hG k hk;omega) (HP.out.up HB2.out)).mono ?_
 rintro e w3 ⟨rfl,hb3⟩
 have e0':=cell_up hb3 e0
 have e1':=cell_up hb3 e1
 have hb03:=Below.up HB2.out hb3
 have hz3:=hb3.size
 clear e0 e1
 cases hrise:riseB t.puts with
 | false =>
  have hcd:=HCD1.out hrise
  have HCD:=Lib.hid hcd
  have HB03:=Lib.hid hb03
  clear hcd hb03
  clear hrise hb3
  go_wp2
  go_ret
  exact apply_fail HMOD.out HB03.out HCD.out (by decide)
 | true =>
  have hlen:0 < t.puts.length:=by
   unfold riseB at hrise
   rw [Bool.and_eq_true,decide_eq_true_eq] at hrise
   exact hrise.1
  have HB03:=Lib.hid hb03
  have HRISE:=Lib.hid hrise
  clear hb03 hrise
  obtain ⟨pb,po,rfl,hGb,hca,_,_,_,_⟩:=HP4.out 0 hlen
  obtain ⟨_,_,hpe,_,hcl,_⟩:=HP4.out (t.puts.length - 1) (by omega)
  cases hpe
  have hl0:t.puts[0].lba=lbaAt t.puts 0:=lbaAt_get hlen
  have hl1:(t.puts[t.puts.length - 1]'(by omega)).lba=lbaAt t.puts (t.puts.length - 1):=lbaAt_get (by omega)
  rw [hl0] at hca
  rw [hl1] at hcl
  have hca':=cell_up HB03.out hca
  have hcl':=cell_up HB03.out hcl
  simp only [Nat.zero_mul,Nat.add_zero] at hca'
  have hm3:=HMOD.out.up HB03.out
  generalize hA0:lbaAt t.puts 0=a0 at *
  generalize hA1:lbaAt t.puts (t.puts.length - 1)=a1 at *
  have HM3:=Lib.hid hm3
  have HL0:=Lib.hid hl0
  have HL1:=Lib.hid hl1
  have HA0:=Lib.hid hA0
  have HA1:=Lib.hid hA1
  clear hm3 hl0 hl1 hA0 hA1
  clear hca hcl hb3
  have hidx:((t.puts.length:Int) - 1)=((t.puts.length - 1:Nat):Int):=by omega
  have hw1:IntKind.i64.wrap ((t.puts.length:Int) - 1)=((t.puts.length - 1:Nat):Int):=by rw [hidx];exact IntWalk.i64_in _ (by omega)
  cases hk0:blk blocks a0 with
  | false =>
   have hcd:=HCD2.out HRISE.out (.inl hk0)
   have HCD:=Lib.hid hcd
   have HK0:=Lib.hid hk0
   clear hcd hk0
   go_wp2_with fail
   refine (extBlock_any F _ _ _ _ a0 _ HM3.out).mono ?_
   rintro e w4 ⟨rfl,rfl⟩
   rw [HK0.out]
   go_wp2
   go_ret
   exact apply_fail HMOD.out HB03.out HCD.out (by decide)
  | true =>
   cases hk1:blk blocks a1 with
   | false =>
    have hcd:=HCD2.out HRISE.out (.inr hk1)
    have HCD:=Lib.hid hcd
    have HK0:=Lib.hid hk0
    have HK1:=Lib.hid hk1
    clear hcd hk0 hk1
    go_wp2_with fail
    refine (extBlock_any F _ _ _ _ a0 _ HM3.out).mono ?_
    rintro e w4 ⟨rfl,rfl⟩
    rw [HK0.out]
    go_wp2_with fail
    refine (extBlock_any F _ _ _ _ a1 _ HM3.out).mono ?_
    rintro e w4 ⟨rfl,rfl⟩
    rw [HK1.out]
    go_wp2
    go_ret
    exact apply_fail HMOD.out HB03.out HCD.out (by decide)
   | true =>
    have hcd:=HCD3.out HRISE.out hk0 hk1
    have HCD:=Lib.hid hcd
    have HK0:=Lib.hid hk0
    have HK1:=Lib.hid hk1
    clear hcd hk0 hk1
    go_wp2_with fail
    refine (extBlock_any F _ _ _ _ a0 _ HM3.out).mono ?_
    rintro e w4 ⟨rfl,rfl⟩
    rw [HK0.out]
    go_wp2_with fail
    refine (extBlock_any F _ _ _ _ a1 _ HM3.out).mono ?_
    rintro e w4 ⟨rfl,rfl⟩
    rw [HK1.out]
    go_wp2_with fail
    refine (anyPut_any G _ t.puts (fun p=>!decide (p.data.length=40)) 168 #[] (by go_simp) _ (fun k hk=>by have:=hG k hk;have:=HB03.out.size;omega) (HP.out.up HB03.out) (fun i hi W ev hb hev=>applyLen_is G _ ev W hev)).mono ?_
    rintro e w4 ⟨rfl,hb4⟩
    have hb04:=Below.up HB03.out hb4
    have e1':=cell_up hb4 e1'
    have e0':=cell_up hb4 e0'
    have hz4:=hb4.size
    cases hany:t.puts.any (fun p=>!decide (p.data.length=40)) with
    | true =>
     have hcd:=HCD.out true hany
     have HCD:=Lib.hid hcd
     have HB04:=Lib.hid hb04
     clear hcd hb04
     clear hany hb4
     go_wp2
     go_ret
     exact apply_fail HMOD.out HB04.out HCD.out (by decide)
    | false =>
     have hcd:=HCD.out false hany
     simp only [Bool.false_eq_true,if_false] at hcd
     have h40:∀ p∈t.puts,p.data.length=40:=by
      intro p hp
      have:=List.any_eq_false.1 hany p hp
      simpa using this
     have hB4:=HB.out.up hb04
     have HCD:=Lib.hid hcd
     have HB04:=Lib.hid hb04
     have H40:=Lib.hid h40
     have HB4:=Lib.hid hB4
     clear hcd hb04 h40 hB4
     clear hany hb4 hca' hcl' hidx hw1
     go_wp2_with fail
     obtain ⟨iv,hi0,hi1,hi2,hi3⟩:=info_parts infoVer
     go_loopw [58] (fun i wr=>∃ k:Nat,k≤t.puts.length∧i=.int .i64 k∧Hid (ExtIs (fun q=>F q∨(w4.heap.size≤q∧q < wr.heap.size)) wr (.pointer (some ⟨b,0,none⟩)) blocks last (applyVs t.time vs (t.puts.take k)))∧Hid (Chg F w4 wr)∧Hid (∀ key l,alook (applyVs t.time vs (t.puts.take k)) key=some l→l.length≤1000000+k)) (fun i _=>t.puts.length - (intOf i).toNat)
     case atStart =>
      refine ⟨0,by omega,rfl,?_,Chg.refl _ _,fun key l h=>by have:=HLN.out key l h;omega⟩
      have h:=HB4.out.is
      obtain ⟨b',r',ml',D',hv',q⟩:=h.parts
      cases hv'
      exact ⟨⟨b,r',ml',D',rfl,.inl q.fb,.inl q.fr,q.hb,q.hm,q.ha.imp fun _ _ ⟨a,c⟩=>⟨a,fun g hg=>⟨.inl (c g hg).1,(c g hg).2⟩⟩,q.ho,fun k hk=>⟨.inl (q.hD k hk).1,(q.hD k hk).2⟩⟩,fun k hk=>hk.elim (h.dom k) (fun h=>h.2)⟩
     case round =>
      obtain ⟨k,hk,rfl,HE,HC,HLK⟩:=hrel
      have hzc:=HC.out.size
      have hFd:∀ q,F q→q < w.heap.size:=fun q hq=>HMOD.out.dom q hq
      have f0:wr.cell? ⟨w.heap.size,0,none⟩=some (.int .i64 t.time):=HC.out.cell (fun h=>by have:=hFd _ h;omega) e0'
      have f1:wr.cell? ⟨w.heap.size,1,none⟩=some (.slice (some ⟨pb,po,none⟩) t.puts.length pc):=HC.out.cell (fun h=>by have:=hFd _ h;omega) e1'
      obtain ⟨b',r',ml',D',hv',hq⟩:=HE.out.parts
      cases hv'
      have f2:wr.cell? ⟨b,1,none⟩=some (.map (some r')):=by rw [cell_row hq.hb];rfl
      have hbw4:=HB04.out.size
      by_cases hlt:k < t.puts.length
      ·obtain ⟨_,_,hpe,hGb',hca,hi,dv,hcb,hd0⟩:=HP4.out k hlt
       cases hpe
       have hGs:Same G w wr:=fun q hq'=>(HC.out.block q (by have:=hG q hq';omega) (fun h=>hFG q h hq')).trans (HB04.out.block q (hG q hq'))
       have hca':=(hGs.cell hGb' _).trans hca
       have hcb':=(hGs.cell hGb' _).trans hcb
       have hdx:=hd0.same hGs
       have HT:=Lib.hid (take_snoc t.puts k hlt)
       have h40':=H40.out _ (List.getElem_mem hlt)
       generalize t.puts[k]=y at hca hca' hcb hdx hd0 HT h40' hi
       obtain ⟨u,l,hu,hl,hout,hown,hud⟩:=hq.look y.lba
       have hll:l.length≤1000000+k:=by
        cases hx:alook (applyVs t.time vs (t.puts.take k)) y.lba with
        | none=>rw [hx] at hl;subst hl;simp
        | some l'=>rw [hx] at hl;subst hl;exact HLK.out _ _ hx
       have hlk:∀ W,MapIs W r' ml'→(Instr.lookup 259 (.map (some r')) (.int .i64 y.lba) false).run Tryz.prog W=.ok u W:=by
        intro W hW
        have:=hW.lookup (P:=Tryz.prog) Tryz.underlying259 Tryz.underlying3 (Tryz.zeroValue265 W) y.lba false
        rw [hu] at this
        simpa using this
       have huq:∀ g,u.ownBlock=some g→¬ D' g:=by
        obtain ⟨_,_,_,_,_,h5⟩:=hout
        exact fun g hg hd=>(h5 g hd).2.2 hg
       have hul:∀ g,u.ownBlock=some g→g < wr.heap.size∧(F g∨w4.heap.size≤g):=fun g hg=>⟨hq.dom g (hown g hg).1,(hown g hg).1.imp id fun h=>h.1⟩
       have n1:some b≠u.ownBlock:=fun e=>(hown b e.symm).2.1 rfl
       have n2:some w.heap.size≠u.ownBlock:=fun e=>by
        rcases (hul _ e.symm).2 with h | h
        ·have:=hFd _ h;omega
        ·omega
       have n3:some wr.heap.size≠u.ownBlock:=fun e=>by have:=(hul _ e.symm).1;omega
       have n4:some r'≠u.ownBlock:=fun e=>(hown r' e.symm).2.2 rfl
       have hrl:=hq.hm.lt
       have hbl2:=hq.dom b hq.fb
       have hHLK:=hlk
       obtain ⟨dp,dc,rfl⟩:=shape_of hdx rfl
       have hlk1:=hlk ((wr.alloc (.cells #[.int .i64 y.lba,.slice dp y.data.length dc] 44)).drew) (hq.hm.up (below_drewN (below_alloc wr _) 1))
       have HDX:=Lib.hid hdx
       have HQ:=Lib.hid hq
       have HOUT:=Lib.hid hout
       have HOWN:=Lib.hid hown
       have HUD:=Lib.hid hud
       have HUQ:=Lib.hid huq
       have HUL:=Lib.hid hul
       have HU:=Lib.hid hu
       have HL:=Lib.hid hl
       have HLL:=Lib.hid hll
       have HHLK:=Lib.hid hHLK
       have H40':=Lib.hid h40'
       clear hdx hq hout hown hud huq hul hu hl hll hHLK h40'
       clear hca hcb hd0 hlk hGs
       have k0:(0:Int)≤(k:Int):=by omega
       have k1:(k:Int) < (t.puts.length:Int):=by omega
       go_wp2
       go_region_held3 (fun W=>W.cell? ⟨b,1,none⟩=some (.map (some r'))∧W.cell? ⟨w.heap.size,0,none⟩=some (.int .i64 t.time)∧W.cell? ⟨wr.heap.size,0,none⟩=some (.int .i64 y.lba)∧W.cell? ⟨wr.heap.size,1,none⟩=some (.slice dp y.data.length dc))
        (first
          | go_keep
          | (go_split_ands
             exact ⟨cell_up hb7 (by assumption),cell_up hb7 (by assumption),cell_up hb7 (by assumption),cell_up hb7 (by assumption)⟩)
          | (go_split_ands
             exact ⟨(hgrow9.cell_far _ (by simp;omega) n1).trans (by assumption),(hgrow9.cell_far _ (by simp;omega) n2).trans (by assumption),(hgrow9.cell_far _ (by simp;omega) n3).trans (by assumption),(hgrow9.cell_far _ (by simp;omega) n3).trans (by assumption)⟩)
          | (go_split_ands
             exact ⟨(hT10.cell _).trans (by assumption),(hT10.cell _).trans (by assumption),(hT10.cell _).trans (by assumption),(hT10.cell _).trans (by assumption)⟩))
        ((first
          | (go_at_call 45
             refine (clone_any G _ y.data _ (by exact BytesAt.up HDX.out (below_drewN (below_alloc wr _) 1)) (by have:=H40'.out;omega)).mono ?_
             rintro e w7 ⟨v7,rfl,hnv,hb7⟩
             obtain ⟨np,nc,rfl⟩:=shape_of hnv rfl
             have hbA7:=Below.up (below_drewN (below_alloc wr (.cells #[.int .i64 y.lba,.slice dp y.data.length dc] 44)) 1) hb7
             have hz7:wr.heap.size+1≤w7.heap.size:=by have:=hb7.size;simpa using this
             have hbA8:=Below.up hbA7 (below_alloc w7 (.cells #[.int .i64 t.time,.slice np y.data.length nc] 267))
             have hlk7:=HHLK.out w7 (HQ.out.hm.up hbA7)
             have hlk8:=HHLK.out (w7.alloc (.cells #[.int .i64 t.time,.slice np y.data.length nc] 267)) (HQ.out.hm.up hbA8)
             obtain ⟨css,q1,q2,q3,q4,q5⟩:=HOUT.out.up putR_stable hbA8)
          | (refine step_append_lies _ (by rfl) _ _ _ (by rfl) 0 267 iv (.agg #[.int .i64 0, .slice none 0 0]) 2 32 Tryz.underlying265 hi0 hi1 hi2 hi3 (by rfl) (by decide) _ l.length css.flatten (by rfl) q3 ⟨w7.heap.size, 0, none⟩ 1 1 [.int .i64 t.time, .slice np y.data.length nc] (by rfl) (by rfl) (World.news_of_block (cs := #[.int .i64 t.time, .slice np y.data.length nc]) (heap_alloc_new w7 _)) (by simp [Value.oneCell']) (by decide) (by have := HLL.out; unfold maxLen; omega) (by have := HLL.out; omega) (Nat.zero_le _) (w7.heap.size + 1) (by simp) ?_
             intro gg cap w9 hown9 hgrow9 hat9 hlt9
             have hm9:MapIs w9 r' ml':=(HQ.out.hm.up hbA8).same (G:=(· = r')) (fun q hq=>by subst hq;exact hgrow9.block _ (by simp;omega) n4) rfl
             obtain ⟨w10,hu10,hm10,hT10⟩:=hm9.update (P:=Tryz.prog) Tryz.underlying259 Tryz.underlying3 y.lba (.slice (some ⟨gg,0,none⟩) (l.length+1) cap))))
       all_goals
        have hz8:=hbA8.size
        have hout9:OutS 267 2 putR 0 w9 (.slice (some ⟨gg,0,none⟩) (l.length+1) cap) (l++[⟨t.time,y.data⟩]) (fun q=>D' q∨New wr w7 q):=by
         have hg:w7.heap.size+1=(w7.alloc (.cells #[.int .i64 t.time,.slice np y.data.length nc] 267)).heap.size:=by simp
         refine OutS.snoc (v:=u) (D3:=New wr w7) putR_stable q1 q2 q4 q5 (cs:=[.int .i64 t.time,.slice np y.data.length nc]) (x:=⟨t.time,y.data⟩) rfl ⟨_,rfl,hti,(BytesAt.mono (BytesAt.up hnv (below_alloc _ _)) fun q hq=>⟨by have:=hq.1;simp at this;omega,hq.2⟩)⟩ (fun q hq=>⟨Nat.zero_le _,by have:=hq.2;simp;omega,fun e=>by have:=(HUL.out q e).1;have:=hq.1;omega⟩) hown9 hgrow9 (hg ▸ hat9)
        have hput:=HQ.out.put (k:=y.lba) (u:=u) (v':=.slice (some ⟨gg,0,none⟩) (l.length+1) cap) (gg:=gg) (l':=l++[⟨t.time,y.data⟩]) HOWN.out HUD.out HUQ.out hbA8 hgrow9 rfl (hat9.imp id fun e=>by omega) hlt9 hout9 (fun q hq=>hq.imp id fun h=>⟨h.1,by have:=h.2;have:=hgrow9.size;simp at this;omega⟩) (fun q hq=>.inl hq) hm10 hT10
        obtain ⟨hp1',hp2'⟩:=hput
        have hvs:applyVs t.time vs (t.puts.take (k+1))=aset (applyVs t.time vs (t.puts.take k)) y.lba (l++[⟨t.time,y.data⟩]):=by
         rw [HT.out,applyVs_snoc,applyOne,HL.out]
        have hz10:=hp2'.size
        have hext:ExtIs (fun q=>F q∨(w4.heap.size≤q∧q < w10.heap.size)) w10 (.pointer (some ⟨b,0,none⟩)) blocks last (applyVs t.time vs (t.puts.take (k+1))):=by
         rw [hvs]
         have h:=hp1'.is
         obtain ⟨b',r'',ml'',D'',hv'',q⟩:=h.parts
         cases hv''
         have up:∀ q,((F q∨(w4.heap.size≤q∧q < wr.heap.size))∨New wr w10 q)→F q∨(w4.heap.size≤q∧q < w10.heap.size):=by
          rintro q ((h | h) | h)
          ·exact .inl h
          ·exact .inr ⟨h.1,by omega⟩
          ·exact .inr ⟨by have:=h.1;omega,h.2⟩
         exact ⟨⟨b,r'',ml'',D'',rfl,up _ q.fb,up _ q.fr,q.hb,q.hm,q.ha.imp fun _ _ ⟨a,c⟩=>⟨a,fun g hg=>⟨up _ (c g hg).1,(c g hg).2⟩⟩,q.ho,fun k hk=>⟨up _ (q.hD k hk).1,(q.hD k hk).2⟩⟩,fun k hk=>hk.elim (fun hf=>by have:=hFd k hf;omega) (fun h=>h.2)⟩
        have hchg:Chg F w4 w10:=HC.out.trans' hp2' (fun i hi h=>h.elim id fun h=>by have:=h.1;omega)
        have hlen2:∀ key l,alook (applyVs t.time vs (t.puts.take (k+1))) key=some l→l.length≤1000000+(k+1):=by
         intro key l2 h
         rw [hvs,alook_aset] at h
         split at h
         ·cases h
          have:=HLL.out
          simp;omega
         ·have:=HLK.out key l2 h;omega
        have HEXT:=Lib.hid hext
        have HCHG:=Lib.hid hchg
        have HLEN2:=Lib.hid hlen2
        clear hext hchg hlen2
        clear hp1' hp2' hout9 hm10 hT10 hm9 hown9 hgrow9 hu10 hlk7 hlk8
        go_wp2
        go_roundw
        case rel=>exact ⟨k+1,by omega,by go_num,HEXT.out,HCHG.out,HLEN2.out⟩
        case measure=>simp [intOf];omega
      ·have hkl:k=t.puts.length:=by omega
       subst hkl
       have hE:=HE.out
       rw [List.take_length] at hE
       have hfz:wr.frozen? ⟨b,2,none⟩=false:=fz_row hq.hb 2
       have f3:wr.cell? ⟨b,2,none⟩=some (.int .i64 last):=by rw [cell_row hq.hb];rfl
       have hset:=heap_set_same (i:=2) hq.hb (.int .i64 t.time)
       have hfin:ExtIs (fun q=>F q∨New w (wr.setCell ⟨b,2,none⟩ (.int .i64 t.time)) q) (wr.setCell ⟨b,2,none⟩ (.int .i64 t.time)) (.pointer (some ⟨b,0,none⟩)) blocks t.time (applyVs t.time vs t.puts):=by
        obtain ⟨b',r'',ml'',D'',hv'',q⟩:=hE.parts
        cases hv''
        have hs:Same (fun q=>q≠b) wr (wr.setCell ⟨b,2,none⟩ (.int .i64 t.time)):=fun q hq=>Below.heap_setCell _ _ _ q hq
        have hzz:(wr.setCell ⟨b,2,none⟩ (.int .i64 t.time)).heap.size=wr.heap.size:=by simp [World.setCell]
        have up:∀ q,(F q∨(w4.heap.size≤q∧q < wr.heap.size))→F q∨New w (wr.setCell ⟨b,2,none⟩ (.int .i64 t.time)) q:=by
         rintro q (h | h)
         ·exact .inl h
         ·exact .inr ⟨by omega,by omega⟩
        have hset':=heap_set_same (i:=2) q.hb (.int .i64 t.time)
        refine ⟨⟨b,r'',ml'',D'',rfl,up _ q.fb,up _ q.fr,hset',q.hm.same (G:=fun q=>q≠b) hs (fun e=>q.ne e.symm),q.ha.imp fun _ _ ⟨a,c⟩=>⟨a.same putR_stable (F:=fun q=>q≠b) hs (by omega) (fun g hg=>(c g hg).2.1) (fun k hk=>(q.hD k hk).2.1),fun g hg=>⟨up _ (c g hg).1,(c g hg).2⟩⟩,q.ho,fun k hk=>⟨up _ (q.hD k hk).1,(q.hD k hk).2⟩⟩,fun k hk=>hk.elim (fun hf=>by have:=hFd k hf;omega) (fun h=>h.2)⟩
       have hbF:=HB.out.fb
       have hchg:Chg F w (wr.setCell ⟨b,2,none⟩ (.int .i64 t.time)):=((Chg.of_below (S:=F) HB04.out (fun k h1 h2=>by omega)).trans HC.out).trans (chg_set wr b 2 (.int .i64 t.time) hbF)
       have HFIN:=Lib.hid hfin
       have HCHG:=Lib.hid hchg
       have HE:=Lib.hid hE
       have HSET:=Lib.hid hset
       have HQ:=Lib.hid hq
       clear hfin hchg hE hset hq
       clear hFd
       go_wp2
       go_ret
       refine ⟨by rw [HCD.out];rfl,HCHG.out,?_⟩
       unfold applyLast applyNext
       rw [HCD.out,if_pos rfl,if_pos rfl]
       exact HFIN.out
end Go.Proofs
namespace Go.Proofs
open Go.RowKit Sc
theorem atN_snoc (l:List Put) (p:Put) (t:Int):atN (l++[p]) t=if p.lba≤t then l.length+1 else atN l t:=by
 split
 ·rename_i h
  refine atN_is (by simp) (fun j hj hj'=>?_) (.inr ⟨by simp,?_⟩)
  ·simp at hj;omega
  ·simpa using h
 ·rename_i h
  refine atN_is (by have:=atN_le l t;simp;omega) (fun j hj hj'=>?_) ?_
  ·by_cases e:j < l.length
   ·rw [List.getElem_append_left e];exact atN_above l t j e hj'
   ·have:j=l.length:=by simp at hj;omega
    subst this
    simp;omega
  ·by_cases h0:atN l t=0
   ·exact .inl h0
   ·obtain ⟨h1,h2⟩:=atN_at l t (by omega)
    refine .inr ⟨by simp;omega,?_⟩
    rw [List.getElem_append_left h1];exact h2
theorem getV_eq (vs:Vers) (k t:Int):getV vs k t=match ((alook vs k).getD [])[atN ((alook vs k).getD []) t - 1]? with
 | some p=>if atN ((alook vs k).getD []) t=0 then (zeroB,0) else (p.data,p.lba)
 | none=>(zeroB,0):=rfl
theorem getV_of {vs:Vers} {k t:Int} {l:List Put} (h:(alook vs k).getD []=l):getV vs k t=match l[atN l t - 1]? with
 | some p=>if atN l t=0 then (zeroB,0) else (p.data,p.lba)
 | none=>(zeroB,0):=by rw [getV_eq,h]
theorem getV_snoc_le {_vs vs':Vers} {k t:Int} {l:List Put} {p:Put} (h':(alook vs' k).getD []=l++[p]) (ht:p.lba≤t):getV vs' k t=(p.data,p.lba):=by
 rw [getV_of h',atN_snoc,if_pos ht]
 simp
theorem getV_snoc_gt {vs vs':Vers} {k t:Int} {l:List Put} {p:Put} (h:(alook vs k).getD []=l) (h':(alook vs' k).getD []=l++[p]) (ht:t < p.lba):getV vs' k t=getV vs k t:=by
 rw [getV_of h',getV_of h,atN_snoc,if_neg (by omega)]
 have hle:=atN_le l t
 by_cases h0:atN l t=0
 ·rw [h0]
  simp only [if_true]
  split <;> split <;> rfl
 ·rw [List.getElem?_append_left (by omega)]
theorem getV_same {vs vs':Vers} {k t:Int} (h:alook vs' k=alook vs k):getV vs' k t=getV vs k t:=by rw [getV_eq,getV_eq,h]
theorem riseB_pairwise {l:List Put} (h:riseB l=true):l.Pairwise (fun p q=>p.lba < q.lba):=by
 unfold riseB at h
 rw [Bool.and_eq_true,decide_eq_true_eq,List.all_eq_true] at h
 have hadj:∀ i (h1:i+1 < l.length),(l[i]'(by omega)).lba < l[i+1].lba:=by
  intro i hi
  have:=h.2 i (List.mem_range.2 (by omega))
  rw [decide_eq_true_eq] at this
  rw [lbaAt_get (show i < l.length by omega),lbaAt_get hi]
  exact this
 rw [List.pairwise_iff_getElem]
 intro i j hi hj hij
 induction j with
 | zero=>omega
 | succ j ih =>
  by_cases e:i=j
  ·subst e;exact hadj i hj
  ·have:=ih (by omega) (by omega)
   have:=hadj j hj
   omega
theorem pairwise_nodup {l:List Put} (h:l.Pairwise (fun p q=>p.lba < q.lba)):(l.map (·.lba)).Nodup:=by
 unfold List.Nodup
 rw [List.pairwise_map]
 exact h.imp fun h=>by omega
theorem applyVs_other (time:Int):∀ (l:List Put) (vs:Vers) (k:Int),(∀ p∈l,p.lba≠k)→alook (applyVs time vs l) k=alook vs k
 | [],vs,k,_=>rfl
 | p :: l,vs,k,h=>by
  show alook (applyVs time (applyOne time vs p) l) k=_
  rw [applyVs_other time l _ k (fun q hq=>h q (by simp [hq]))]
  unfold applyOne
  rw [alook_aset,if_neg (fun e=>h p (by simp) e.symm)]
theorem applyVs_mine (time:Int):∀ (l:List Put) (vs:Vers) (p:Put),(l.map (·.lba)).Nodup→p∈l→alook (applyVs time vs l) p.lba=some ((alook vs p.lba).getD []++[⟨time,p.data⟩])
 | q :: l,vs,p,hn,hp=>by
  simp only [List.map_cons,List.nodup_cons] at hn
  show alook (applyVs time (applyOne time vs q) l) p.lba=_
  rcases List.mem_cons.1 hp with rfl | hp
  ·rw [applyVs_other time l _ _ (fun x hx e=>hn.1 (List.mem_map.2 ⟨x,hx,e⟩))]
   unfold applyOne
   rw [alook_aset,if_pos rfl]
  ·rw [applyVs_mine time l _ p hn.2 hp]
   have:p.lba≠q.lba:=fun e=>hn.1 (List.mem_map.2 ⟨p,hp,e⟩)
   unfold applyOne
   rw [alook_aset,if_neg this]
 | [],_,_,_,h=>by cases h
structure GoodE (blocks last:Int) (vs:Vers):Prop where
 nd:(vs.map (·.1)).Nodup
 ks:∀ x∈vs,0≤x.1∧x.1 < blocks
 ts:∀ k l,alook vs k=some l→l≠[]∧l.Pairwise (fun p q=>p.lba < q.lba)∧∀ p∈l,p.data.length=40∧1≤p.lba∧p.lba≤last
 l0:0≤last
theorem GoodE.start (blocks:Int):GoodE blocks 0 []:=⟨List.nodup_nil,by simp,fun k l h=>by simp [alook] at h,Int.le_refl _⟩
theorem code_zero {blocks last:Int} {t:Tx} (h:applyCode blocks last t=0):last < t.time∧t.time≤1099511627776∧riseB t.puts=true∧(∀ p∈t.puts,0≤p.lba∧p.lba < blocks)∧(∀ p∈t.puts,p.data.length=40)∧0 < t.puts.length:=by
 unfold applyCode at h
 split at h
 ·omega
 ·rename_i h1
  split at h
  ·omega
  ·rename_i h2
   split at h
   ·omega
   ·rename_i h3
    split at h
    ·omega
    ·rename_i h4
     have hr:riseB t.puts=true:=by cases hq:riseB t.puts <;> simp_all
     have hlen:0 < t.puts.length:=by
      have:=hr
      unfold riseB at this
      rw [Bool.and_eq_true,decide_eq_true_eq] at this
      exact this.1
     have hp:=riseB_pairwise hr
     have h3':blk blocks (lbaAt t.puts 0)=true∧blk blocks (lbaAt t.puts (t.puts.length - 1))=true:=by
      cases ha:blk blocks (lbaAt t.puts 0) <;> cases hb:blk blocks (lbaAt t.puts (t.puts.length - 1)) <;> simp_all
     simp only [blk,Bool.and_eq_true,decide_eq_true_eq] at h3'
     refine ⟨by omega,by omega,hr,fun p hp'=>?_,fun p hp'=>?_,hlen⟩
     ·obtain ⟨i,hi,rfl⟩:=List.getElem_of_mem hp'
      rw [List.pairwise_iff_getElem] at hp
      have e0:=lbaAt_get hlen
      have e1:=lbaAt_get (show t.puts.length - 1 < t.puts.length by omega)
      constructor
      ·by_cases e:i=0
       ·subst e;omega
       ·have:=hp 0 i hlen hi (by omega);omega
      ·by_cases e:i=t.puts.length - 1
       ·subst e;omega
       ·have:=hp i (t.puts.length - 1) hi (by omega) (by omega);omega
     ·simp at h4
      exact h4 p hp'
theorem applyVs_nodup (time:Int):∀ (l:List Put) (vs:Vers),(vs.map (·.1)).Nodup→((applyVs time vs l).map (·.1)).Nodup
 | [],_,h=>h
 | _ :: l,_,h=>applyVs_nodup time l _ (nodup_aset h _ _)
theorem applyVs_keys (time:Int):∀ (l:List Put) (vs:Vers),∀ x∈applyVs time vs l,x.1∈vs.map (·.1)∨∃ p∈l,p.lba=x.1
 | [],vs,x,hx=>.inl (List.mem_map.2 ⟨x,hx,rfl⟩)
 | p :: l,vs,x,hx=>by
  rcases applyVs_keys time l (applyOne time vs p) x hx with h | ⟨q,hq,e⟩
  ·obtain ⟨y,hy,hye⟩:=List.mem_map.1 h
   rcases aset_mem hy with rfl | hy
   ·exact .inr ⟨p,by simp,hye⟩
   ·exact .inl (List.mem_map.2 ⟨y,hy,hye⟩)
  ·exact .inr ⟨q,by simp [hq],e⟩
theorem GoodE.apply {blocks last:Int} {vs:Vers} (h:GoodE blocks last vs) {t:Tx} (hc:applyCode blocks last t=0):GoodE blocks t.time (applyVs t.time vs t.puts):=by
 obtain ⟨h1,h2,h3,h4,h5,_⟩:=code_zero hc
 have hl0:=h.l0
 have hn:=pairwise_nodup (riseB_pairwise h3)
 refine ⟨applyVs_nodup _ _ _ h.nd,fun x hx=>?_,fun k l hl=>?_,by omega⟩
 ·rcases applyVs_keys _ _ _ x hx with h' | ⟨p,hp,e⟩
  ·obtain ⟨y,hy,hye⟩:=List.mem_map.1 h'
   have:=h.ks y hy;omega
  ·have:=h4 p hp;omega
 ·by_cases hk:∃ p∈t.puts,p.lba=k
  ·obtain ⟨p,hp,rfl⟩:=hk
   rw [applyVs_mine _ _ _ p hn hp] at hl
   cases hl
   have hold:∀ q∈(alook vs p.lba).getD [],q.data.length=40∧1≤q.lba∧q.lba≤last:=by
    cases hx:alook vs p.lba with
    | none=>simp
    | some l'=>exact (h.ts _ _ hx).2.2
   have hpw:((alook vs p.lba).getD []).Pairwise (fun p q=>p.lba < q.lba):=by
    cases hx:alook vs p.lba with
    | none=>simp
    | some l'=>exact (h.ts _ _ hx).2.1
   refine ⟨by simp,?_,fun q hq=>?_⟩
   ·rw [List.pairwise_append]
    exact ⟨hpw,by simp,fun a ha b hb=>by rw [List.mem_singleton] at hb;subst hb;have:=hold a ha;simp only;omega⟩
   ·rcases List.mem_append.1 hq with hq | hq
    ·have:=hold q hq;omega
    ·rw [List.mem_singleton] at hq;subst hq
     exact ⟨h5 p hp,by simp only;omega,by simp only;omega⟩
  ·rw [applyVs_other _ _ _ k (fun p hp e=>hk ⟨p,hp,e⟩)] at hl
   obtain ⟨a,b,c⟩:=h.ts k l hl
   exact ⟨a,b,fun p hp=>by have:=c p hp;omega⟩
theorem GoodE.next {blocks last:Int} {vs:Vers} (h:GoodE blocks last vs) (t:Tx):GoodE blocks (applyLast blocks last t) (applyNext blocks last vs t):=by
 unfold applyLast applyNext
 split
 ·rename_i hc;exact h.apply hc
 ·exact h
theorem GoodE.d40 {blocks last:Int} {vs:Vers} (h:GoodE blocks last vs):∀ k l,alook vs k=some l→∀ p∈l,p.data.length≤1000000:=fun k l hl p hp=>by
 have:=((h.ts k l hl).2.2 p hp).1;omega
theorem getV_apply {blocks last:Int} {vs:Vers} (_h:GoodE blocks last vs) {t:Tx} (hc:applyCode blocks last t=0) (k x:Int) :
  (x < t.time∨(∀ p∈t.puts,p.lba≠k)→getV (applyVs t.time vs t.puts) k x=getV vs k x)∧(t.time≤x→∀ p∈t.puts,p.lba=k→getV (applyVs t.time vs t.puts) k x=(p.data,t.time)):=by
 obtain ⟨h1,h2,h3,h4,h5,_⟩:=code_zero hc
 have hn:=pairwise_nodup (riseB_pairwise h3)
 refine ⟨fun hx=>?_,fun hx p hp e=>?_⟩
 ·by_cases hk:∃ p∈t.puts,p.lba=k
  ·obtain ⟨p,hp,rfl⟩:=hk
   rcases hx with hx | hx
   ·exact getV_snoc_gt rfl (by rw [applyVs_mine _ _ _ p hn hp];rfl) (by simpa using hx)
   ·exact absurd rfl (hx p hp)
  ·exact getV_same (applyVs_other _ _ _ k fun p hp e=>hk ⟨p,hp,e⟩)
 ·subst e
  exact getV_snoc_le (_vs:=vs) (l:=(alook vs p.lba).getD []) (p:=⟨t.time,p.data⟩) (by rw [applyVs_mine _ _ _ p hn hp];rfl) hx
end Go.Proofs
namespace Go.Proofs
open Go.RowKit Sc
def rowsF (f:Nat→Bytes) (m:Nat):Bytes:=(List.range m).flatMap f
theorem rowsF_succ (f:Nat→Bytes) (m:Nat):rowsF f (m+1)=rowsF f m++f m:=by unfold rowsF;rw [List.range_succ,List.flatMap_append];simp
theorem rowsF_length {f:Nat→Bytes} (h:∀ i,(f i).length=40) (m:Nat):(rowsF f m).length=40 * m:=by
 induction m with
 | zero=>rfl
 | succ m ih=>rw [rowsF_succ,List.length_append,ih,h];omega
theorem rowsF_drop {f:Nat→Bytes} (h:∀ i,(f i).length=40):∀ (n i:Nat),i < n→(rowsF f n).drop (40 * i)=f i++(rowsF f n).drop (40 * (i+1))
 | 0,i,hi=>absurd hi (by omega)
 | n+1,i,hi=>by
  have hl:=rowsF_length h n
  rw [rowsF_succ]
  by_cases he:i=n
  ·subst he
   rw [List.drop_append_of_le_length (by omega),List.drop_eq_nil_of_le (by omega),List.nil_append,List.drop_eq_nil_of_le (by rw [List.length_append,hl,h];omega),List.append_nil]
  ·rw [List.drop_append_of_le_length (by omega),List.drop_append_of_le_length (by omega),rowsF_drop h n i (by omega),List.append_assoc]
def midF (f g:Nat→Bytes) (n i:Nat):Bytes:=rowsF f i++(rowsF g n).drop (40 * i)
theorem midF_length {f g:Nat→Bytes} (hf:∀ i,(f i).length=40) (hg:∀ i,(g i).length=40) {n i:Nat} (hi:i≤n):(midF f g n i).length=40 * n:=by
 unfold midF;rw [List.length_append,List.length_drop,rowsF_length hf,rowsF_length hg];omega
theorem midF_zero (f g:Nat→Bytes) (n:Nat):midF f g n 0=rowsF g n:=by unfold midF;rw [Nat.mul_zero,List.drop_zero];rfl
theorem midF_all {f g:Nat→Bytes} (hg:∀ i,(g i).length=40) (n:Nat):midF f g n n=rowsF f n:=by
 unfold midF;rw [List.drop_eq_nil_of_le (by rw [rowsF_length hg];omega),List.append_nil]
theorem midF_at {f g:Nat→Bytes} (_hf:∀ i,(f i).length=40) (hg:∀ i,(g i).length=40) {n i:Nat} (hi:i < n):midF f g n i=rowsF f i++(g i++(rowsF g n).drop (40 * (i+1))):=by
 unfold midF;rw [rowsF_drop hg n i hi]
theorem midF_next {f g:Nat→Bytes} (hf:∀ i,(f i).length=40) (hg:∀ i,(g i).length=40) {n i:Nat} (hi:i < n):(midF f g n i).take (40 * i)++f i++(midF f g n i).drop (40 * i+(f i).length)=midF f g n (i+1):=by
 have h1:=rowsF_length hf i
 rw [midF_at hf hg hi,List.take_append_of_le_length (by omega),List.take_of_length_le (by omega),List.drop_append,h1,hf,List.drop_eq_nil_of_le (by omega),List.nil_append,show 40 * i+40 - 40 * i=40 by omega,List.drop_append_of_le_length (by rw [hg];omega),List.drop_eq_nil_of_le (by rw [hg];omega),List.nil_append]
 unfold midF
 rw [rowsF_succ]
theorem midF_same {f g:Nat→Bytes} (hf:∀ i,(f i).length=40) (hg:∀ i,(g i).length=40) {n i:Nat} (hi:i < n) (he:f i=g i):midF f g n i=midF f g n (i+1):=by
 rw [midF_at hf hg hi,← he,← List.append_assoc,← rowsF_succ];rfl
theorem midF_row {f g:Nat→Bytes} (hf:∀ i,(f i).length=40) (hg:∀ i,(g i).length=40) {n i:Nat} (hi:i < n) (j:Nat) (hj:j < 40):(midF f g n i)[40 * i+j]? = (g i)[j]? := by
 have h1:=rowsF_length hf i
 rw [midF_at hf hg hi,List.getElem?_append_right (by omega),h1,show 40 * i+j - 40 * i=j by omega,List.getElem?_append_left (by rw [hg];omega)]
def blkV (vs:Vers) (s:List (Int × Bytes)) (t x:Int):Bytes:=(alook s x).getD (getV vs x t).1
def readsV (vs:Vers) (s:List (Int × Bytes)) (t a:Int) (m:Nat):List Sc.Read:=(List.range m).map fun i:Nat=>⟨a+i,blkV vs s t (a+i),(alook s (a+i)).isSome⟩
theorem readsV_succ (vs:Vers) (s:List (Int × Bytes)) (t a:Int) (m:Nat):readsV vs s t a (m+1)=readsV vs s t a m++[⟨a+m,blkV vs s t (a+m),(alook s (a+m)).isSome⟩]:=by unfold readsV;rw [List.range_succ];simp
theorem readsV_length (vs:Vers) (s:List (Int × Bytes)) (t a:Int) (m:Nat):(readsV vs s t a m).length=m:=by simp [readsV]
theorem good_get40 {blocks last:Int} {vs:Vers} (h:GoodE blocks last vs) (x t:Int):(getV vs x t).1.length=40:=by
 rw [getV_eq]
 split
 ·rename_i p hp
  split
  ·rfl
  ·cases hq:alook vs x with
   | none=>rw [hq] at hp;simp at hp
   | some l =>
    rw [hq] at hp
    exact ((h.ts x l hq).2.2 p (List.mem_of_getElem? hp)).1
 ·rfl
theorem blkV_length {blocks last b2:Int} {vs:Vers} {s:List (Int × Bytes)} (h:GoodE blocks last vs) (hs:BufG b2 s) (t x:Int):(blkV vs s t x).length=40:=by
 unfold blkV
 cases hq:alook s x with
 | none=>exact good_get40 h x t
 | some d=>exact (hs.ks _ (alook_in hq)).2.2
theorem chg_setCells (b:Nat) {S:Nat→Prop} (hb:S b):∀ (vs:List Value) (o:Nat) (w:World),Chg S w (w.setCells b o vs)
 | [],_,w=>Chg.refl S w
 | v :: vs,o,w=>(chg_set w b o v hb).trans (chg_setCells b hb vs (o+1) (w.setCell ⟨b,o,none⟩ v))
def u8v (l:Bytes):List Value:=l.map fun x=>.int .u8 (x.toNat:Int)
theorem u8v_length (l:Bytes):(u8v l).length=l.length:=by simp [u8v]
theorem Sep.bytes_splice {W w:World} {L:List Asn} (h:Sep W L w) (k:Nat) {g o n c:Nat} {l:Bytes} (hk:L[k]? = some (BytesWA (.slice (some ⟨g,o,none⟩) n c) l)) (i:Nat) (d:Bytes) (hd:i+d.length≤l.length) :
  Sep W (L.set k (BytesWA (.slice (some ⟨g,o,none⟩) n c) (l.take i++d++l.drop (i+d.length)))) (w.setCells g (o+i) (u8v d))∧(∀ j,j < d.length→(w.cell? ⟨g,o+i+j,none⟩).isSome=true)∧(∀ j,j < d.length→w.frozen? ⟨g,o+i+j,none⟩=false):=by
 obtain ⟨F,G,hF,_,_,hdF,_,K⟩:=h.at k hk
 have hF':=hF
 obtain ⟨p,c',hv,h1,h2,h3,h4⟩:=hF
 cases hv
 have hcell:∀ j,j < l.length→F g∧w.cell? ⟨g,o+j,none⟩=some (.int .u8 ((l.getD j 0).toNat:Int))∧w.frozen? ⟨g,o+j,none⟩=false:=fun j hj=>by
  obtain ⟨b',o',hp,hf,hc⟩:=h4 j hj
  cases hp
  rw [Nat.mul_one] at hc
  rw [List.getD_eq_getElem?_getD,List.getElem?_eq_getElem hj]
  exact ⟨hf,hc.1,hc.2⟩
 have hin:∀ j,j < (u8v d).length→(w.cell? ⟨g,o+i+j,none⟩).isSome=true:=fun j hj=>by
  rw [u8v_length] at hj
  rw [show o+i+j=o+(i+j) by omega,(hcell (i+j) (by omega)).2.1];rfl
 have hfz:∀ j,j < d.length→w.frozen? ⟨g,o+i+j,none⟩=false:=fun j hj=>by
  rw [show o+i+j=o+(i+j) by omega];exact (hcell (i+j) (by omega)).2.2
 refine ⟨?_,fun j hj=>hin j (by rw [u8v_length];exact hj),hfz⟩
 by_cases h0:d=[]
 ·subst h0
  have e1:l.take i++[]++l.drop (i+([]:Bytes).length)=l:=by simp
  rw [e1]
  exact K w F (BytesWA (.slice (some ⟨g,o,none⟩) l.length c) l) (Chg.refl _ _) (fun k hk=>.inl hk) hF'
 ·have hpos:=List.length_pos_iff.2 h0
  have hFg:F g:=(hcell i (by omega)).1
  have hlen:(l.take i++d++l.drop (i+d.length)).length=l.length:=by simp;omega
  refine K _ F (BytesWA (.slice (some ⟨g,o,none⟩) l.length c) _) (chg_setCells g hFg _ _ _) (fun k hk=>.inl hk) ?_
  refine ⟨some ⟨g,o,none⟩,c,by rw [hlen],by rw [hlen];exact h1,h2,(by intro e;cases e),fun j hj=>⟨g,o,rfl,hFg,?_⟩⟩
  rw [hlen] at hj
  rw [Nat.mul_one]
  refine ⟨?_,by rw [World.frozen?_setCells];exact (hcell j hj).2.2⟩
  by_cases hlo:j < i
  ·rw [World.cell?_setCells_out g _ _ _ _ (fun _ _=>.inl (by simp only;omega)),(hcell j hj).2.1]
   congr 3
   rw [List.getElem_append_left (by simp;omega),List.getElem_append_left (by simp;omega),List.getElem_take]
   rw [List.getD_eq_getElem?_getD,List.getElem?_eq_getElem hj];rfl
  ·by_cases hhi:j < i+d.length
   ·have:=World.cell?_setCells_in g (u8v d) (o+i) w hin (j - i) (by rw [u8v_length];omega)
    rw [show o+i+(j - i)=o+j by omega] at this
    rw [this]
    congr 1
    simp only [u8v,List.getElem_map]
    congr 3
    rw [List.getElem_append_left (by simp;omega),List.getElem_append_right (by simp;omega)]
    congr 1
    rw [List.length_take]
    omega
   ·rw [World.cell?_setCells_out g _ _ _ _ (fun _ _=>.inr (by rw [u8v_length];simp only;omega)),(hcell j hj).2.1]
    congr 3
    rw [List.getElem_append_right (by simp;omega),List.getElem_drop,List.getD_eq_getElem?_getD,List.getElem?_eq_getElem hj]
    have e:i+d.length+(j - (l.take i++d).length)=j:=by rw [List.length_append,List.length_take];omega
    simp only [Option.getD_some,e]
end Go.Proofs
namespace Sc
open Go Go.RowKit
def setAll:List Asn→List Nat→List Asn→List Asn
 | L,i :: is,B :: Bs=>setAll (L.set i B) is Bs
 | L,_,_=>L
theorem setAll_get:∀ (is:List Nat) (L Bs:List Asn) (i:Nat),is.Nodup→is.length=Bs.length→(∀ j∈is,j < L.length)→(setAll L is Bs)[i]? = if i∈is then Bs[is.idxOf i]? else L[i]?
 | [],L,[],i,_,_,_=>by simp [setAll]
 | a :: is,L,B :: Bs,i,hn,hl,hb=>by
  have hn':=List.nodup_cons.1 hn
  have ih:=setAll_get is (L.set a B) Bs i hn'.2 (by simpa using hl) (fun j hj=>by rw [List.length_set];exact hb j (by simp [hj]))
  show (setAll (L.set a B) is Bs)[i]? = _
  rw [ih]
  by_cases hia:i=a
  ·subst hia
   rw [if_neg hn'.1,if_pos (by simp),List.getElem?_set_self (hb i (by simp))]
   simp
  ·rw [List.getElem?_set_ne (fun e=>hia e.symm)]
   by_cases hi:i∈is
   ·rw [if_pos hi,if_pos (by simp [hi])]
    have hne:(a == i)=false:=by rw [beq_eq_false_iff_ne];exact fun e=>hia e.symm
    rw [List.idxOf_cons,hne]
    simp
   ·rw [if_neg hi,if_neg (by simp [hi,hia])]
 | [],_,_ :: _,_,_,h,_=>by simp at h
 | _ :: _,_,[],_,_,h,_=>by simp at h
def FrameA (w:World) (S:Foot):Asn:=⟨fun F w'=>(∀ k,k < w.heap.size→¬ S k→F k)∧Same (fun k=>k < w.heap.size∧¬ S k) w w',fun _ _ _ hs _ h=>⟨h.1,h.2.trans (hs.mono fun k hk=>h.1 k hk.1 hk.2)⟩⟩
theorem Sep.erase {W w:World} {L:List Asn} (h:Sep W L w) (i:Nat):Sep W (L.eraseIdx i) w:=by
 obtain ⟨hg,Fs,h1,h2,h3⟩:=h
 refine ⟨hg,fun j=>if j < i then Fs j else Fs (j+1),fun j k hk=>?_,fun j j' k hjj hk hk'=>?_,fun j A hA=>?_⟩
 ·simp only at hk
  split at hk
  ·exact h1 _ k hk
  ·exact h1 _ k hk
 ·simp only at hk hk'
  split at hk <;> split at hk'
  ·exact h2 _ _ k hjj hk hk'
  ·exact h2 _ _ k (by omega) hk hk'
  ·exact h2 _ _ k (by omega) hk hk'
  ·exact h2 _ _ k (by omega) hk hk'
 ·rw [List.getElem?_eraseIdx] at hA
  split at hA
  ·rename_i hlt;simp only [hlt,if_true];exact h3 j A hA
  ·rename_i hlt;simp only [hlt,if_false];exact h3 (j+1) A hA
end Sc
namespace Sc
open Go Go.RowKit
theorem ownsRow_up {w w':World} {B T k n:Nat} {v:Value} {xs:List Value} (h:w.ownsRow B T k v n xs) (hb:Below w.heap.size w w'):w'.ownsRow B T k v n xs :=
 row_same (F:=fun q=>q < w.heap.size) (fun q hq=>hb.block q hq) h (fun g hg=>(h.lt g hg).2)
end Sc
namespace Sc
open Go Go.RowKit Go.ChangeMaps Go.ChangeShapes Go.WideShapes Go.MapKept
theorem addr_plus (g o j:Nat):(⟨g,o,none⟩:Addr).add j=⟨g,o+j,none⟩:=by unfold Addr.add;split <;> simp_all
section
variable {P:Program} {t e:TypeId} {k:Nat} {i0:TypeInfo}
theorem cut_from (hu:P.underlying t=some (.slice (P.elem t))) (he:P.elem t=e) (hk:P.cellsOf e=k) (hi:P.info? e=some i0) (g o n c j:Nat) (hj:j < c) (hn:j≤n) (W:World) :
  (Instr.slice t (.slice (some ⟨g,o,none⟩) n c) (some (.int .i64 (j:Int))) none none).run P W=.ok (.slice (some ⟨g,o+j * k,none⟩) (n - j) (c - j)) W:=by
 rw [run_slice_l (P:=P) (w:=W) t _ n c hu .i64 (j:Int) (by omega) (by omega),he,run_sizeOf (P:=P) W hi]
 simp only [Result.andThen,sliced,Int.toNat_natCast,if_neg (show ¬ c=j by omega),Option.map_some,addr_plus,hk]
end
theorem flatten_drop {α:Type} {k:Nat}:∀ (css:List (List α)) (_:∀ cs∈css,cs.length=k) (j:Nat),(css.drop j).flatten=css.flatten.drop (j * k)
 | [],_,j=>by simp
 | c :: t,h,0=>by simp
 | c :: t,h,j+1=>by
  have hc:=h c (by simp)
  have h0:c.drop (j * k+k)=[]:=List.drop_eq_nil_of_le (by omega)
  rw [List.drop_succ_cons,List.flatten_cons,List.drop_append,hc,Nat.succ_mul,show j * k+k - k=j * k by omega,h0,List.nil_append]
  exact flatten_drop t (fun cs hcs=>h cs (by simp [hcs])) j
theorem Ranges.update {P:Program} {t k e:TypeId} {w:World} {it r:Nat} {m left:List (Int × Value)} (h:Ranges w it r m left) (ht:P.underlying t=some (.map k e)) (hk:P.underlying k=some (.int .i64)) (n:Int) (v:Value)
  (hin:∃ u,(n,u)∈m) (hout:∀ x∈left,x.1≠n) :
  ∃ w',(Instr.mapUpdate t (.map (some r)) (.int .i64 n) v).run P w=.ok () w'∧Ranges w' it r (aset m n v) left∧Turned r w w':=by
 obtain ⟨es,clock,seen,hb,hm,hn,hbo,hbn,hit,rfl⟩:=h
 have hmi:MapIs w r m:=⟨es,clock,hb,hm,hn,hbo,hbn⟩
 obtain ⟨es',clock',hb',hm',hn',hbo',hbn',hf⟩:=hmi.find n
 rw [hb] at hb'
 cases hb'
 have hkey:IsKey (.int .i64) (.int .i64 n):=rfl
 rcases hf with ⟨h1,h2⟩ | ⟨j,x,u,h1,h2,h3,h4,h5⟩
 ·obtain ⟨u,hu⟩:=hin
  exact absurd rfl (h2 _ hu)
 ·have hj:es[j]? = some x:=by simpa using h2
  have hjl:j < es.toList.length:=(List.getElem?_eq_some_iff.1 h2).1
  have hx:es.toList[j]=x:=by rw [List.getElem?_eq_getElem hjl] at h2;exact Option.some.inj h2
  have hmod:(es.modify j (fun e'=>{ e' with key:=.int .i64 n,val:=v })).toList=es.toList.set j { x with key:=.int .i64 n,val:=v }:=by
   rw [Array.toList_modify,modify_eq_set _ _ _ _ h2]
  have hne:it≠r:=by intro e;rw [e,hb] at hit;cases hit
  have hseen:seen.contains x.born=true:=by
   by_cases hs:seen.contains x.born=true
   ·exact hs
   ·exfalso
    have hxl:x∈(leftOf es seen).toList:=by
     unfold leftOf
     rw [Array.toList_filter,List.mem_filter]
     exact ⟨List.mem_of_getElem? h2,by simpa using hs⟩
    have:=hout (unp x) (List.mem_map.2 ⟨x,hxl,rfl⟩)
    apply this
    simp [unp,h3,intOf]
  refine ⟨setBlock w r (.map (es.modify j (fun e'=>{ e' with key:=.int .i64 n,val:=v })) clock),?_,⟨_,clock,seen,heap_setBlock_same hb _,?_,nodup_aset hn n v,?_,?_,?_,?_⟩,turned_set hb⟩
  ·simp [Instr.mapUpdate,run_underlying ht,MapKept.run_getObj_map hb,run_checkKey hk hkey,run_findKey hk h1,hj,h3,run_keyThatStays hkey,MapKept.run_setObj_map _ hb,Result.andThen,setBlock]
  ·rw [hmod,aset_at hn h5,List.map_set,hm,List.map_set];rfl
  ·intro y hy
   rw [hmod] at hy
   rcases List.mem_or_eq_of_mem_set hy with hy | rfl
   ·exact hbo y hy
   ·exact hbo x (List.mem_of_getElem? h2)
  ·rw [hmod,List.map_set]
   have:(es.toList.map (·.born)).set j x.born=es.toList.map (·.born):=by
    apply List.ext_getElem
    ·simp
    ·intro i h1 h2
     simp only [List.getElem_set]
     split
     ·rename_i hij;subst hij;simp [← hx]
     ·rfl
   show ((es.toList.map (·.born)).set j x.born).Nodup
   rw [this];exact hbn
  ·rw [sb_other hne];exact hit
  ·unfold leftOf
   rw [Array.toList_filter,Array.toList_filter,hmod]
   congr 1
   have hset:∀ (l:List MapEntry) (j:Nat) (y:MapEntry) (q:MapEntry→Bool),l[j]? = some x→q x=false→q y=false→(l.set j y).filter q=l.filter q:=by
    intro l
    induction l with
    | nil=>intro j y q _ _ _;rfl
    | cons a l ih =>
     intro j y q ha hq hy
     cases j with
     | zero =>
      simp at ha;subst ha
      simp [hq,hy]
     | succ j =>
      simp only [List.getElem?_cons_succ] at ha
      simp only [List.set_cons_succ,List.filter_cons,ih j y q ha hq hy]
   rw [hset es.toList j _ _ h2 (by simpa using hseen) (by simpa using hseen)]
end Sc
namespace Sc
open Go Go.RowKit
section
variable {P:Program} {t e:TypeId} {k:Nat} {i0:TypeInfo} {α:Type} {E:Elem α} {G:Nat→Prop}
end
end Sc
