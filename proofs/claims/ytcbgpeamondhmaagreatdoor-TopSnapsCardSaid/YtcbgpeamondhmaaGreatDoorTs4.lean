/- Texts of this claim, one behind the other: View3, Lays, Keys, Horizon, Horizon2, Horizon3, Horizon4, BookSep, ExtSep, Star, Mgr1, Mgr2, Mgr3, Mgr4, Ext7, Mgr5, MgrNil, Mgr6. -/
import Derived.Deep.RegionLaw
import Derived.Deep.RegionHeld3
import Derived.Deep.DeepCutAuto
import Derived.Deep.CutRange
import Derived.Lib.SlBuf
import Derived.BigQuiet
import Derived.Shelf.SlIterI.Nil
import Derived.Shelf.SortM.Plain
import Derived.Shelf.SortM.SortNone
import Derived.Ground.GgzProg
import Derived.Ground.SlgmProg
import Derived.Test.YtcbgpeamondhmaaGreatDoorChecked
import Derived.Lib.Hide
import Derived.Deep.LoopGhost
import Derived.OwnWalk
import Derived.Laws.ResultCell
import Derived.Laws.Rows
import Derived.Test.YtcbgpeamondhmaaGreatDoorTs3
namespace Go.Proofs
open Go.RowKit Sc
theorem infoRead:(Tryz.prog.info? 42).map (fun i=>(i.zero,i.size,i.bytes))=some (some (.agg #[.int .i64 0,.slice none 0 0,.bool false]),3,40):=by kernel_rfl
def readCode (blocks:Int) (S:List Ext) (e:Ext):Int:=if e.len < 1∨16 < e.len then 3 else if withinB blocks e.first e.len=false then 2 else if addCode 64 S [e]≠0 then 7 else 0
def ReadSaid (W:World) (Z:Asn) (m b sb v:Nat) (blocks last b2 most t:Int) (vs:Vers) (s:List (Int × Bytes)) (S:List Ext) (R:List Sc.Read) (e:Ext) (r:Ending) (w':World):Prop :=
 (readCode blocks S e≠0∧r=.returned (.tuple #[.slice none 0 0,.int .i64 (readCode blocks S e)])∧Hid (Sep W [Z,ExtA (.pointer (some ⟨m,0,none⟩)) blocks last vs,BufA (.pointer (some ⟨b,0,none⟩)) b2 most s,SetA (.pointer (some ⟨sb,0,none⟩)) 64 S,ViewA (.pointer (some ⟨v,0,none⟩)) (.pointer (some ⟨m,0,none⟩)) (.pointer (some ⟨b,0,none⟩)) t (.pointer (some ⟨sb,0,none⟩)) R] w')) ∨
 (readCode blocks S e=0∧∃ g o c,r=.returned (.tuple #[.slice (some ⟨g,o,none⟩) (40 * e.len.toNat) c,.int .i64 0])∧Hid (Sep W [Z,ExtA (.pointer (some ⟨m,0,none⟩)) blocks last vs,BufA (.pointer (some ⟨b,0,none⟩)) b2 most s,SetA (.pointer (some ⟨sb,0,none⟩)) 64 (addNext 64 S [e]),ViewA (.pointer (some ⟨v,0,none⟩)) (.pointer (some ⟨m,0,none⟩)) (.pointer (some ⟨b,0,none⟩)) t (.pointer (some ⟨sb,0,none⟩)) (R++readsV vs s t e.first e.len.toNat),
   BytesWA (.slice (some ⟨g,o,none⟩) (40 * e.len.toNat) c) (rowsF (fun i:Nat=>blkV vs s t (e.first+i)) e.len.toNat)] w'))
theorem bytesW_sub {F:Foot} {w:World} {g o N c i:Nat} {l r:Bytes} (h:BytesW F w (.slice (some ⟨g,o,none⟩) N c) l) (hi:i+r.length≤l.length) (hr:∀ j,j < r.length→l[i+j]? = r[j]?):BytesAt F w (.slice (some ⟨g,o+i,none⟩) r.length (c - i)) r:=by
 obtain ⟨p,c',hv,h1,h2,h3,h4⟩:=h
 cases hv
 refine ⟨_,c - i,rfl,by omega,by omega,(by intro e;cases e),fun j hj=>?_⟩
 obtain ⟨b',o',hp,hf,hc,_⟩:=h4 (i+j) (by omega)
 cases hp
 refine ⟨g,o+i,rfl,hf,?_⟩
 unfold byteE
 have e1:l[i+j]=r[j]:=by
  have:=hr j hj
  rw [List.getElem?_eq_getElem (by omega),List.getElem?_eq_getElem hj] at this
  exact Option.some.inj this
 rw [Nat.mul_one] at hc ⊢
 rw [show o+i+j=o+(i+j) by omega,hc,e1]
theorem ownsRow_shape {w:World} {B T k n:Nat} {v:Value} {xs:List Value} (h:w.ownsRow B T k v n xs):∃ p c,v=.slice p n c:=by
 obtain ⟨_,⟨rfl,rfl⟩ | ⟨g,cap,_,rfl,_⟩⟩:=h
 ·exact ⟨none,0,rfl⟩
 ·exact ⟨_,_,rfl⟩
theorem read_more (vs:Vers) (s:List (Int × Bytes)) (t a:Int) (R:List Sc.Read) (k:Nat) {d:Bytes} {own:Bool} (h1:blkV vs s t (a+k)=d) (h2:(alook s (a+k)).isSome=own):R++readsV vs s t a k++[⟨a+k,d,own⟩]=R++readsV vs s t a (k+1):=by
 rw [readsV_succ,h1,h2,List.append_assoc]
set_option maxRecDepth 100000 in
set_option maxHeartbeats 4000000 in
theorem viewRead_core {W w:World} {Z:Asn} {m b sb v:Nat} {blocks last b2 most t:Int} {vs:Vers} {s:List (Int × Bytes)} {S:List Ext} {R:List Sc.Read}
  (h:Hid (Sep W [Z,ExtA (.pointer (some ⟨m,0,none⟩)) blocks last vs,BufA (.pointer (some ⟨b,0,none⟩)) b2 most s,SetA (.pointer (some ⟨sb,0,none⟩)) 64 S,ViewA (.pointer (some ⟨v,0,none⟩)) (.pointer (some ⟨m,0,none⟩)) (.pointer (some ⟨b,0,none⟩)) t (.pointer (some ⟨sb,0,none⟩)) R] w))
  (hg:GoodE blocks last vs) (hbl:blocks≤1048576) (hs:BufG b2 s) (hS:SetG S) (nS:S.length≤50000) (nR:R.length≤1000000) (e:Ext) (i1:I64 e.first) (i2:I64 e.len) :
  Calls Tryz.prog 219 #[.pointer (some ⟨v,0,none⟩),extV e] w (ReadSaid W Z m b sb v blocks last b2 most t vs s S R e):=by
 obtain ⟨E,hE⟩:∃ E:Array Value,E=#[.int .i64 e.first,.int .i64 e.len]:=⟨_,rfl⟩
 have hS0:=h.out.new (below_alloc w (.cells #[.int .i64 e.first,.int .i64 e.len] 186)) (BoxA w.heap.size #[.int .i64 e.first,.int .i64 e.len] 186) (F:=New w (w.alloc (.cells #[.int .i64 e.first,.int .i64 e.len] 186))) (fun _ h=>h) ⟨⟨Nat.le_refl _,by simp⟩,heap_alloc_new w _⟩
 have he0:(w.alloc (.cells #[.int .i64 e.first,.int .i64 e.len] 186)).cell? ⟨w.heap.size,0,none⟩=some (.int .i64 e.first):=by rw [cell_row (heap_alloc_new w _)];rfl
 have he1:(w.alloc (.cells #[.int .i64 e.first,.int .i64 e.len] 186)).cell? ⟨w.heap.size,1,none⟩=some (.int .i64 e.len):=by rw [cell_row (heap_alloc_new w _)];rfl
 obtain ⟨bv,rv0,hbv,hvl,hvh,_⟩:=Go.Proofs.Sep.view_cells hS0 4 rfl
 cases hbv
 generalize hw0:w.alloc (.cells #[.int .i64 e.first,.int .i64 e.len] 186)=w0 at *
 have hv0:w0.cell? ⟨v,0,none⟩=some (.pointer (some ⟨m,0,none⟩)):=by rw [cell_row hvh];rfl
 have hv2:w0.cell? ⟨v,2,none⟩=some (.int .i64 t):=by rw [cell_row hvh];rfl
 have hfail:∀ c w',readCode blocks S e=c→c≠0→Below w0.heap.size w0 w'→ReadSaid W Z m b sb v blocks last b2 most t vs s S R e (.returned (.tuple #[.slice none 0 0,.int .i64 c])) w':=fun c w' hc hn hb=>.inl ⟨by rw [hc];exact hn,by rw [hc],(hS0.up hb).take 5⟩
 have hdef:readCode blocks S e=if e.len < 1∨16 < e.len then 3 else if withinB blocks e.first e.len=false then 2 else if addCode 64 S [e]≠0 then 7 else 0:=rfl
 have H0:=Lib.hid hS0
 clear hS0
 have HS':=Lib.hid hS
 clear hS
 have HS0:=Lib.hid hs
 have HW0:=Lib.hid hw0
 have HVH:=Lib.hid hvh
 have HFAIL:=Lib.hid hfail
 have HG:=Lib.hid hg
 have HS:=Lib.hid hs
 have H:=Lib.hid h
 have HE:=Lib.hid hE
 clear hw0 hvh hfail hg hs h hE
 rcases (show e.len < 1∨(1≤e.len∧16 < e.len)∨(1≤e.len∧e.len≤16) by omega) with hl | ⟨hl0,hl⟩ | ⟨hl0,hl⟩
 case inl =>
  rw [if_pos (.inl hl)] at hdef
  have hf:=HFAIL.out 3 w0 hdef (by decide) (Below.refl _ _)
  have HF:=Lib.hid hf
  have HDEF:=Lib.hid hdef
  clear hf hdef
  go_enter Tryz.func219,Tryz.ntmps219
  go_wp2_with fail
  go_step3
  rw [HW0.out]
  go_wp2_with fail
  rw [Exit.noGoto_ret]
  go_ret2
  exact HF.out
 case inr.inl =>
  rw [if_pos (.inr hl)] at hdef
  have hf:=HFAIL.out 3 w0 hdef (by decide) (Below.refl _ _)
  have HF:=Lib.hid hf
  have HDEF:=Lib.hid hdef
  clear hf hdef
  go_enter Tryz.func219,Tryz.ntmps219
  go_wp2_with fail
  go_step3
  rw [HW0.out]
  go_wp2_with fail
  rw [Exit.noGoto_ret]
  go_ret2
  exact HF.out
 case inr.inr =>
  rw [if_neg (by omega)] at hdef
  obtain ⟨FM,hFM,_⟩:=H0.out.get 1 rfl
  have hrng:=extRange_any FM _ blocks last vs e.first e.len t w0.drew (hFM.up (below_drewN (Below.refl _ _) 1)) hbl HG.out.d40 (fun x=>good_get40 HG.out x t)
  clear hFM
  cases hwi:withinB blocks e.first e.len with
  | false =>
   rw [if_pos hwi] at hdef
   have hrng':Calls Tryz.prog 265 #[.pointer (some ⟨m,0,none⟩),.agg #[.int .i64 e.first,.int .i64 e.len],.int .i64 t] w0.drew fun r w'=>r=.returned (.tuple #[.slice none 0 0,.int .i64 2])∧Hid (Below w0.heap.size w0 w'):=hrng.mono fun r w' hr=>by
    rcases hr with ⟨_,h1,h2⟩ | ⟨h1,_⟩
    ·exact ⟨h1,(below_drewN (Below.refl _ _) 1).trans h2⟩
    ·rw [hwi] at h1;cases h1
   have HRNG':=Lib.hid hrng'
   have HDEF:=Lib.hid hdef
   have HWI:=Lib.hid hwi
   clear hrng' hdef hwi
   clear hrng
   go_enter Tryz.func219,Tryz.ntmps219
   go_wp2_with fail
   go_step3
   rw [HW0.out]
   go_wp2_with fail
   go_region_held3 (fun W'=>W'.cell? ⟨v,0,none⟩=some (.pointer (some ⟨m,0,none⟩))∧W'.cell? ⟨v,2,none⟩=some (.int .i64 t)∧W'.cell? ⟨w.heap.size,0,none⟩=some (.int .i64 e.first)∧W'.cell? ⟨w.heap.size,1,none⟩=some (.int .i64 e.len))
    (first | exact ⟨hv0,hv2,he0,he1⟩ | go_keep | exact ⟨cell_up HB1.out hv0,cell_up HB1.out hv2,cell_up HB1.out he0,cell_up HB1.out he1⟩)
    ((go_at_call 265
      refine (HRNG'.out).mono ?_
      rintro r w1 ⟨rfl,HB1⟩))
   go_wp2_with fail
   rw [Exit.noGoto_ret]
   go_ret2
   exact HFAIL.out 2 _ HDEF.out (by decide) HB1.out
  | true =>
   rw [if_neg (by rw [hwi];decide)] at hdef
   have HDEF0:=Lib.hid hdef
   obtain ⟨n,hn⟩:=Int.eq_ofNat_of_zero_le (show 0≤e.len by omega)
   have htn:e.len.toNat=n:=by rw [hn];rfl
   have hf40:∀ i:Nat,(blkV vs s t (e.first+i)).length=40:=fun i=>blkV_length HG.out HS.out t _
   have hg40:∀ i:Nat,(getV vs (e.first+i) t).1.length=40:=fun i=>good_get40 HG.out _ t
   have hrl:(rangeV vs e.first t n).length=40 * n:=rowsF_length hg40 n
   have hwb:0≤e.first∧e.first≤1048576:=by
    unfold withinB at hwi
    simp only [Bool.and_eq_true,decide_eq_true_eq] at hwi
    omega
   have hrng':Calls Tryz.prog 265 #[.pointer (some ⟨m,0,none⟩),.agg #[.int .i64 e.first,.int .i64 e.len],.int .i64 t] w0.drew fun r w'=>∃ g o c,r=.returned (.tuple #[.slice (some ⟨g,o,none⟩) (40 * n) c,.int .i64 0])∧Hid (40 * n≤c∧c≤9223372036854775807)∧Hid (BytesW (New w0 w') w' (.slice (some ⟨g,o,none⟩) (40 * n) c) (rangeV vs e.first t n))∧Hid (Below w0.heap.size w0 w'):=hrng.mono fun r w' hr=>by
    rcases hr with ⟨h1,_⟩ | ⟨_,ov,h1,h2,h3⟩
    ·rw [hwi] at h1;cases h1
    ·rw [htn] at h2
     obtain ⟨g,o,c,rfl,q1,q2⟩:=h2.base (by rw [hrl];omega)
     rw [hrl] at h1 h2 q1
     exact ⟨g,o,c,h1,⟨q1,q2⟩,h2,(below_drewN (Below.refl _ _) 1).trans h3⟩
   have HRNG':=Lib.hid hrng'
   have HWI:=Lib.hid hwi
   have HF40:=Lib.hid hf40
   have HG40:=Lib.hid hg40
   have HRL:=Lib.hid hrl
   have HTN:=Lib.hid htn
   have HN:=Lib.hid hn
   clear hrng' hwi hf40 hg40 hrl htn hn
   clear hrng
   go_enter Tryz.func219,Tryz.ntmps219
   go_wp2_with fail
   go_step3
   rw [HW0.out]
   go_wp2_with fail
   go_region_held3 (fun W'=>W'.cell? ⟨v,0,none⟩=some (.pointer (some ⟨m,0,none⟩))∧W'.cell? ⟨v,2,none⟩=some (.int .i64 t)∧W'.cell? ⟨w.heap.size,0,none⟩=some (.int .i64 e.first)∧W'.cell? ⟨w.heap.size,1,none⟩=some (.int .i64 e.len))
    (first | exact ⟨hv0,hv2,he0,he1⟩ | go_keep | exact ⟨cell_up HB1.out hv0,cell_up HB1.out hv2,cell_up HB1.out he0,cell_up HB1.out he1⟩)
    ((go_at_call 265
      refine (HRNG'.out).mono ?_
      rintro r w1 ⟨g,o,c,rfl,HGC,HO1,HB1⟩))
   have hS1:=H0.out.new HB1.out (BytesWA (.slice (some ⟨g,o,none⟩) (40 * n) c) (rangeV vs e.first t n)) (F:=New w0 w1) (fun _ h=>h) HO1.out
   have hv3:w1.cell? ⟨v,3,none⟩=some (.pointer (some ⟨sb,0,none⟩)):=cell_up HB1.out (by rw [cell_row HVH.out];rfl)
   have hq0:=cell_up HB1.out he0
   have hq1:=cell_up HB1.out he1
   have hSd:=hS1.up (w':=w1.drew) (below_drewN (Below.refl _ _) 1)
   have hadd:=setAdd_at (h:=(hSd:Hid _)) 3 rfl e.first e.len i1 i2 HS'.out nS w1.heap.size rfl
   have HS1:=Lib.hid hS1
   have HSD:=Lib.hid hSd
   have HADD:=Lib.hid hadd
   clear hS1 hSd hadd
   clear hv0 hv2 he0 he1
   have hadd2:Calls Tryz.prog 266 #[.pointer (some ⟨sb,0,none⟩),.slice (some ⟨w1.heap.size,0,none⟩) 1 1] (w1.drew.alloc (.cells #[.int .i64 e.first,.int .i64 e.len] 186)) fun r w'=>r=.returned (.int .i64 (addCode 64 S [e]))∧Hid (w'.cell? ⟨v,3,none⟩=some (.pointer (some ⟨sb,0,none⟩))∧w'.cell? ⟨w.heap.size,0,none⟩=some (.int .i64 e.first)∧w'.cell? ⟨w.heap.size,1,none⟩=some (.int .i64 e.len)) ∧
     Hid (Sep W [Z,ExtA (.pointer (some ⟨m,0,none⟩)) blocks last vs,BufA (.pointer (some ⟨b,0,none⟩)) b2 most s,SetA (.pointer (some ⟨sb,0,none⟩)) 64 (addNext 64 S [e]),ViewA (.pointer (some ⟨v,0,none⟩)) (.pointer (some ⟨m,0,none⟩)) (.pointer (some ⟨b,0,none⟩)) t (.pointer (some ⟨sb,0,none⟩)) R,BoxA w.heap.size #[.int .i64 e.first,.int .i64 e.len] 186,BytesWA (.slice (some ⟨g,o,none⟩) (40 * n) c) (rangeV vs e.first t n)] w'):=HADD.out.mono fun r w' hr=>by
    obtain ⟨h1,h2⟩:=hr
    obtain ⟨bv,rv2,hbv,_,hvh2,_⟩:=Go.Proofs.Sep.view_cells h2.out 4 rfl
    cases hbv
    obtain ⟨FB,hFB,_⟩:=h2.out.get 5 rfl
    exact ⟨h1,⟨by rw [cell_row hvh2];rfl,by rw [cell_row hFB.2];rfl,by rw [cell_row hFB.2];rfl⟩,h2⟩
   by_cases hac:addCode 64 S [e]=0
   case neg =>
    rw [if_pos hac] at hdef
    have hanx:addNext 64 S [e]=S:=by unfold addNext;rw [if_neg hac]
    have hacn:(addCode 64 S [e] != 0)=true:=by rw [bne_iff_ne];exact hac
    rw [hanx] at hadd2
    generalize addCode 64 S [e]=ac at hadd2 hacn
    have HADD2:=Lib.hid hadd2
    have HANX:=Lib.hid hanx
    have HDEF:=Lib.hid hdef
    clear hadd2 hanx hdef
    clear hac
    go_wp2_with fail
    go_region_held3 (fun W'=>W'.cell? ⟨v,3,none⟩=some (.pointer (some ⟨sb,0,none⟩))∧W'.cell? ⟨w.heap.size,0,none⟩=some (.int .i64 e.first)∧W'.cell? ⟨w.heap.size,1,none⟩=some (.int .i64 e.len))
     (first | exact ⟨hv3,hq0,hq1⟩ | go_keep | exact ⟨cell_up (below_alloc w1.drew _) hv3,cell_up (below_alloc w1.drew _) hq0,cell_up (below_alloc w1.drew _) hq1⟩ | exact HK2.out)
     ((go_at_call 266
       refine (HADD2.out).mono ?_
       rintro r w2 ⟨rfl,HK2,HS2⟩))
    go_wp2_with fail
    rw [Exit.noGoto_ret]
    go_ret2
    exact .inl ⟨by rw [HDEF.out];decide,congrArg (fun c=>Ending.returned (.tuple #[.slice none 0 0,.int .i64 c])) HDEF.out.symm,HS2.out.take 5⟩
   case pos =>
    rw [if_neg (by rw [hac];decide)] at hdef
    rw [hac] at hadd2
    have hmid:=midF_zero (fun i:Nat=>blkV vs s t (e.first+i)) (fun i:Nat=>(getV vs (e.first+i) t).1) n
    obtain ⟨f,hf⟩:∃ f,f=fun i:Nat=>blkV vs s t (e.first+i):=⟨_,rfl⟩
    obtain ⟨gf,hgf⟩:∃ gf,gf=fun i:Nat=>(getV vs (e.first+i) t).1:=⟨_,rfl⟩
    rw [show rangeV vs e.first t n=midF f gf n 0 by rw [hf,hgf];exact hmid.symm] at hadd2
    have hf4:∀ i,(f i).length=40:=fun i=>by rw [hf];exact HF40.out i
    have hg4:∀ i,(gf i).length=40:=fun i=>by rw [hgf];exact HG40.out i
    have HADD2:=Lib.hid hadd2
    have HDEF:=Lib.hid hdef
    have HMID:=Lib.hid hmid
    have HAC:=Lib.hid hac
    have HF:=Lib.hid hf
    have HGF:=Lib.hid hgf
    have HF4:=Lib.hid hf4
    have HG4:=Lib.hid hg4
    clear hadd2 hdef hmid hac hf hgf hf4 hg4
    go_wp2_with fail
    go_region_held3 (fun W'=>W'.cell? ⟨v,3,none⟩=some (.pointer (some ⟨sb,0,none⟩))∧W'.cell? ⟨w.heap.size,0,none⟩=some (.int .i64 e.first)∧W'.cell? ⟨w.heap.size,1,none⟩=some (.int .i64 e.len))
     (first | exact ⟨hv3,hq0,hq1⟩ | go_keep | exact ⟨cell_up (below_alloc w1.drew _) hv3,cell_up (below_alloc w1.drew _) hq0,cell_up (below_alloc w1.drew _) hq1⟩ | exact HK2.out)
     ((go_at_call 266
       refine (HADD2.out).mono ?_
       rintro r w2 ⟨rfl,HK2,HS2⟩))
    have hk20:=HK2.out.2.1
    have hk21:=HK2.out.2.2
    generalize hS':addNext 64 S [e]=S' at *
    have HS':=Lib.hid hS'
    clear hS'
    clear hv3 hq0 hq1
    go_wp2_with fail
    go_step3
    go_wp2_with fail
    go_loopw [55] (fun i wr=>∃ k:Nat,k≤n∧i=.int .i64 k∧Hid (Sep W [Z,ExtA (.pointer (some ⟨m,0,none⟩)) blocks last vs,BufA (.pointer (some ⟨b,0,none⟩)) b2 most s,SetA (.pointer (some ⟨sb,0,none⟩)) 64 S',ViewA (.pointer (some ⟨v,0,none⟩)) (.pointer (some ⟨m,0,none⟩)) (.pointer (some ⟨b,0,none⟩)) t (.pointer (some ⟨sb,0,none⟩)) (R++readsV vs s t e.first k),BoxA w.heap.size #[.int .i64 e.first,.int .i64 e.len] 186,BytesWA (.slice (some ⟨g,o,none⟩) (40 * n) c) (midF f gf n k)] wr)) (fun i _=>n - (intOf i).toNat)
    case atStart =>
     refine ⟨0,by omega,rfl,?_⟩
     rw [show readsV vs s t e.first 0=[] from rfl,List.append_nil]
     exact HS2
    case round =>
     obtain ⟨k,hk,rfl,HS⟩:=hrel
     by_cases hlt:k < n
     case neg =>
      have hkn:k=n:=by omega
      subst hkn
      have hkl:¬ (k:Int) < e.len:=by have:=HN.out;omega
      have hall:=midF_all (f:=f) HG4.out k
      have HALL:=Lib.hid hall
      clear hall
      go_wp2_with fail
      try rw [Exit.noGoto_ret]
      go_ret2
      refine .inr ⟨HDEF.out,g,o,c,congrArg (fun q=>Ending.returned (.tuple #[.slice (some ⟨g,o,none⟩) (40 * q) c,.int .i64 0])) HTN.out.symm,?_⟩
      rw [HTN.out,HS'.out]
      have hfin:=HS.out
      rw [HALL.out,HF.out] at hfin
      exact hfin.erase 5
     case pos =>
      have hkl:(k:Int) < e.len:=by have:=HN.out;omega
      obtain ⟨bv,rv,hbv,hvl2,hvh2,_⟩:=Go.Proofs.Sep.view_cells HS.out 4 rfl
      cases hbv
      obtain ⟨FX,hFX,_⟩:=HS.out.get 5 rfl
      have hx0:wr.cell? ⟨w.heap.size,0,none⟩=some (.int .i64 e.first):=by rw [cell_row hFX.2];rfl
      have hv1:wr.cell? ⟨v,1,none⟩=some (.pointer (some ⟨b,0,none⟩)):=by rw [cell_row hvh2];rfl
      have hk0:(0:Int)≤(k:Int):=by omega
      have hk16:(k:Int)≤16:=by omega
      obtain ⟨hgc,hgm⟩:=HGC.out
      have hm1:IntKind.i64.wrap ((k:Int) * 40)=(k:Int) * 40:=IntWalk.i64_in _ (by omega)
      have hm2:IntKind.i64.wrap ((k:Int)+1)=(k:Int)+1:=IntWalk.i64_in _ (by omega)
      have hm3:IntKind.i64.wrap (((k:Int)+1) * 40)=((k:Int)+1) * 40:=IntWalk.i64_in _ (by omega)
      have hm4:IntKind.i64.wrap (e.first+(k:Int))=e.first+(k:Int):=IntWalk.i64_in _ (by omega)
      obtain ⟨iu,hiu,_⟩:=info_parts infoU8
      have hml:=midF_length HF4.out HG4.out (n:=n) (i:=k) (by omega)
      have hi64:I64 (e.first+(k:Int)):=i64_small (by omega)
      obtain ⟨FB,hFB,_⟩:=HS.out.get 2 rfl
      have hget:=bufGet_any FB _ _ _ s (e.first+(k:Int)) wr.drew (BufIs.up hFB (below_drewN (Below.refl _ _) 1)) HS0.out.d40
      have hfk:f k=blkV vs s t (e.first+k):=by rw [HF.out]
      have hgk:gf k=(getV vs (e.first+k) t).1:=by rw [HGF.out]
      have hnxt:=midF_next HF4.out HG4.out (n:=n) (i:=k) hlt
      have hsam:=midF_same HF4.out HG4.out (n:=n) (i:=k) hlt
      have hrow:=midF_row HF4.out HG4.out (n:=n) (i:=k) hlt
      obtain ⟨ir,hr0,hr1,hr2,hr3⟩:=info_parts infoRead
      have hxr:wr.drew.cell? ⟨w.heap.size,0,none⟩=some (.int .i64 e.first):=hx0
      have hvr:wr.drew.cell? ⟨v,1,none⟩=some (.pointer (some ⟨b,0,none⟩)):=hv1
      have hRl:(R++readsV vs s t e.first k).length≤1000020:=by rw [List.length_append,readsV_length];omega
      have HVH2:=Lib.hid hvh2
      have HML:=Lib.hid hml
      have HI64:=Lib.hid hi64
      have HGET:=Lib.hid hget
      have HFK:=Lib.hid hfk
      have HGK:=Lib.hid hgk
      have HNXT:=Lib.hid hnxt
      have HSAM:=Lib.hid hsam
      have HROW:=Lib.hid hrow
      have HRL:=Lib.hid hRl
      clear hvh2 hml hi64 hget hfk hgk hnxt hsam hrow hRl
      clear hFX hiu hFB
      cases hlk:alook s (e.first+(k:Int)) with
      | some d =>
       have hd40:d.length=40:=(HS0.out.ks _ (alook_in hlk)).2.2
       have hfd:f k=d:=by rw [HFK.out];unfold blkV;rw [hlk];rfl
       have hmore:=read_more vs s t e.first R k (d:=d) (own:=true) (by rw [← HFK.out,hfd]) (by rw [hlk];rfl)
       have hget2:Calls Tryz.prog 267 #[.pointer (some ⟨b,0,none⟩),.int .i64 (e.first+(k:Int))] wr.drew fun r w'=>∃ p2 c2,r=.returned (.tuple #[.slice p2 40 c2,.bool true])∧Hid (BytesAt (New wr w') w' (.slice p2 40 c2) d)∧Hid (Below wr.heap.size wr w'):=HGET.out.mono fun r w' hr=>by
        rcases hr with ⟨h1,_⟩ | ⟨d',v',h1,h2,h3,h4⟩
        ·rw [hlk] at h1;cases h1
        ·rw [hlk] at h1
         cases h1
         obtain ⟨p2,c2,rfl⟩:=shape_of h3.bytes hd40
         exact ⟨p2,c2,h2,h3.bytes,(below_drewN (Below.refl _ _) 1).trans h4⟩
       have HGET2:=Lib.hid hget2
       have HD40:=Lib.hid hd40
       have HFD:=Lib.hid hfd
       have HMORE:=Lib.hid hmore
       have HLK:=Lib.hid hlk
       clear hget2 hd40 hfd hmore hlk
       go_wp2_with fail
       go_region_held3 (fun W'=>W'.cell? ⟨v,1,none⟩=some (.pointer (some ⟨b,0,none⟩))∧W'.cell? ⟨w.heap.size,0,none⟩=some (.int .i64 e.first))
        (first | exact ⟨hvr,hxr⟩ | go_keep | exact ⟨cell_up HB5.out hv1,cell_up HB5.out hx0⟩)
        ((go_at_call 267
          refine (HGET2.out).mono ?_
          rintro r w5 ⟨p2,c2,rfl,HD5,HB5⟩))
       have hS5:=HS.out.new HB5.out (DatumA (.slice p2 40 c2) d) (F:=New wr w5) (fun _ h=>h) HD5.out
       obtain ⟨hS6,hci,hcf⟩:=Go.Proofs.Sep.bytes_splice hS5 6 rfl (k * 40) d (by rw [HML.out,HD40.out];omega)
       rw [show midF f gf n k=midF f gf n k from rfl] at hS6
       have hnx:=HNXT.out
       rw [HFD.out,show 40 * k=k * 40 by omega] at hnx
       rw [hnx] at hS6
       obtain ⟨sbk,so,rfl,hsrc⟩:=bytes_news HD5.out (by rw [HD40.out];omega)
       have hcp:=run_copy_cells (P:=Tryz.prog) w5 40 40 3 5 g (o+k * 40) ((k+1) * 40 - k * 40) (c - k * 40) ⟨sbk,so,none⟩ 40 c2 (u8v d) Tryz.underlying40 (by kernel_rfl) (by rw [u8v_length,HD40.out,show (k+1) * 40 - k * 40=40 by omega];rfl) hsrc (fun j hj=>hci j (by rw [u8v_length] at hj;exact hj)) (fun j hj=>hcf j (by rw [u8v_length] at hj;exact hj)) (fun x hx=>by obtain ⟨y,_,rfl⟩:=List.mem_map.1 hx;rfl)
       generalize hw6:w5.setCells g (o+k * 40) (u8v d)=w6 at *
       have HS6:=Lib.hid hS6
       have HW6:=Lib.hid hw6
       clear hS6 hw6
       clear hci hcf hsrc hS5 hvr hxr
       go_wp2_with fail
       clear hcp
       have hSd:=HS6.out.up (w':=w6.drew) (below_drewN (Below.refl _ _) 1)
       obtain ⟨rv6,css,hh6,hbl6,hrw6,hne6,hnx6⟩:=Go.Proofs.Sep.view_push hSd 4 7 (by decide) rfl rfl
       obtain ⟨FX,hFX,hdX⟩:=hSd.get 5 rfl
       have hx6:w6.drew.cell? ⟨w.heap.size,0,none⟩=some (.int .i64 e.first):=by rw [cell_row hFX.2];rfl
       have hv6:w6.drew.cell? ⟨v,4,none⟩=some rv6:=by rw [cell_row hh6];rfl
       obtain ⟨len,hlen⟩:∃ len,(R++readsV vs s t e.first k).length=len:=⟨_,rfl⟩
       have hRl:=HRL.out
       rw [hlen] at hrw6 hnx6 hRl
       obtain ⟨p6,c6,rfl⟩:=ownsRow_shape hrw6
       have hba6:=below_alloc w6.drew (.cells #[.int .i64 (e.first+(k:Int)),.slice (some ⟨sbk,so,none⟩) 40 c2,.bool true] 42)
       have hx6a:(w6.alloc (.cells #[.int .i64 (e.first+(k:Int)),.slice (some ⟨sbk,so,none⟩) 40 c2,.bool true] 42)).cell? ⟨w.heap.size,0,none⟩=some (.int .i64 e.first):=cell_up hba6 hx6
       have hv6a:(w6.alloc (.cells #[.int .i64 (e.first+(k:Int)),.slice (some ⟨sbk,so,none⟩) 40 c2,.bool true] 42)).cell? ⟨v,4,none⟩=some (.slice p6 len c6):=cell_up hba6 hv6
       have hx6b:w6.cell? ⟨w.heap.size,0,none⟩=some (.int .i64 e.first):=hx6
       have hv6b:w6.cell? ⟨v,4,none⟩=some (.slice p6 len c6):=hv6
       have hr6a:=ownsRow_up hrw6 hba6
       have hh6a:=(hba6.block v hbl6).trans hh6
       have HLEN:=Lib.hid hlen
       have HH6:=Lib.hid hh6
       have HRW6:=Lib.hid hrw6
       have HNX6:=Lib.hid hnx6
       have HBA6:=Lib.hid hba6
       have HR6A:=Lib.hid hr6a
       have HH6A:=Lib.hid hh6a
       clear hlen hh6 hrw6 hnx6 hba6 hr6a hh6a
       clear hFX hdX hSd hx0 hv1
       go_region_law ((
        refine step_append_lies _ (by rfl) _ _ _ (by rfl) 0 42 ir (.agg #[.int .i64 0,.slice none 0 0,.bool false]) 3 40 Tryz.underlying36 hr0 hr1 hr2 hr3 (by rfl) (by decide) _ len css.flatten (by rfl) HR6A.out ⟨w6.heap.size,0,none⟩ 1 1 [.int .i64 (e.first+(k:Int)),.slice (some ⟨sbk,so,none⟩) 40 c2,.bool true] (by rfl) (by rfl) (World.news_of_block (cs:=#[.int .i64 (e.first+(k:Int)),.slice (some ⟨sbk,so,none⟩) 40 c2,.bool true]) (heap_alloc_new w6.drew _)) (by simp [Value.oneCell']) (by decide) (by unfold maxLen;omega) (by omega) (Nat.zero_le _) (w6.heap.size+1) (by simp) ?_
        intro g9 c9 w9 hown9 hgrow9 hat9 hlt9
        have hh9:=(hgrow9.block v (Nat.lt_of_lt_of_le hbl6 HBA6.out.size) (fun e=>hne6 e.symm)).trans HH6A.out
        have hv9:w9.cell? ⟨v,4,none⟩=some (.slice p6 len c6):=by rw [cell_row hh9];rfl
        have hz9:w9.frozen? ⟨v,4,none⟩=false:=fz_row hh9 4))
       all_goals
        have hS10:=HNX6.out w9 g9 c9 (e.first+(k:Int)) true HI64.out hown9 hgrow9 hat9 hlt9
        rw [HMORE.out] at hS10
        have hS11:=hS10.take 7
        have HS11:=Lib.hid hS11
        clear hS11
        clear hS10 hown9 hgrow9 hat9 hlt9 hv9 hz9 hh9
        go_wp2_with fail
        go_roundw
        case rel=>exact ⟨k+1,by omega,by go_num,HS11.out⟩
        case measure=>simp [intOf];omega
      | none =>
       have hfg:f k=gf k:=by rw [HFK.out,HGK.out];unfold blkV;rw [hlk];rfl
       have hmore:=read_more vs s t e.first R k (d:=gf k) (own:=false) (by rw [← HFK.out,hfg]) (by rw [hlk];rfl)
       have hget2:Calls Tryz.prog 267 #[.pointer (some ⟨b,0,none⟩),.int .i64 (e.first+(k:Int))] wr.drew fun r w'=>∃ p2 c2,r=.returned (.tuple #[.slice p2 0 c2,.bool false])∧Hid (Below wr.heap.size wr w'):=HGET.out.mono fun r w' hr=>by
        rcases hr with ⟨_,p2,c2,h1,_,h3⟩ | ⟨d',v',h1,_⟩
        ·exact ⟨p2,c2,h1,(below_drewN (Below.refl _ _) 1).trans h3⟩
        ·rw [hlk] at h1;cases h1
       have HGET2:=Lib.hid hget2
       have HFG:=Lib.hid hfg
       have HMORE:=Lib.hid hmore
       have HLK:=Lib.hid hlk
       clear hget2 hfg hmore hlk
       go_wp2_with fail
       go_region_held3 (fun W'=>W'.cell? ⟨v,1,none⟩=some (.pointer (some ⟨b,0,none⟩))∧W'.cell? ⟨w.heap.size,0,none⟩=some (.int .i64 e.first))
        (first | exact ⟨hvr,hxr⟩ | go_keep | exact ⟨cell_up HB5.out hv1,cell_up HB5.out hx0⟩)
        ((go_at_call 267
          refine (HGET2.out).mono ?_
          rintro r w5 ⟨p2,c2,rfl,HB5⟩))
       have hS5:=HS.out.up HB5.out
       obtain ⟨bv,rv5,hbv,hbl5,hh5,p6,c6,hrv5⟩:=Go.Proofs.Sep.view_cells hS5 4 rfl
       cases hbv
       obtain ⟨len,hlen⟩:∃ len,(R++readsV vs s t e.first k).length=len:=⟨_,rfl⟩
       have hRl:=HRL.out
       rw [hlen] at hrv5 hRl
       subst hrv5
       have hx5:w5.cell? ⟨w.heap.size,0,none⟩=some (.int .i64 e.first):=cell_up HB5.out hx0
       have hv5:w5.cell? ⟨v,4,none⟩=some (.slice p6 len c6):=by rw [cell_row hh5];rfl
       obtain ⟨FO,hFO,_⟩:=hS5.get 6 rfl
       have hsub:=bytesW_sub hFO (i:=k * 40) (r:=gf k) (by rw [HML.out,HG4.out];omega) (fun j hj=>by
        have:=HROW.out j (by rw [HG4.out] at hj;exact hj)
        rw [show 40 * k+j=k * 40+j by omega] at this
        exact this)
       rw [HG4.out k,show (40:Nat)=(k+1) * 40 - k * 40 by omega] at hsub
       rw [show k * ((k+1) * 40 - k * 40)=k * 40 by rw [show (k+1) * 40 - k * 40=40 by omega]] at hsub
       have hcl:Calls Tryz.prog 45 #[.slice (some ⟨g,o+k * 40,none⟩) ((k+1) * 40 - k * 40) (c - k * 40)] w5.drew fun r w'=>∃ p7 c7,r=.returned (.slice p7 40 c7)∧Hid (BytesAt (New w5 w') w' (.slice p7 40 c7) (gf k))∧Hid (Below w5.heap.size w5 w'):=(clone_any FO _ (gf k) w5.drew (BytesAt.up hsub (below_drewN (Below.refl _ _) 1)) (by rw [HG4.out];omega)).mono fun r w' hr=>by
        obtain ⟨v7,h1,h2,h3⟩:=hr
        obtain ⟨p7,c7,rfl⟩:=shape_of h2 (HG4.out k)
        exact ⟨p7,c7,h1,h2,(below_drewN (Below.refl _ _) 1).trans h3⟩
       obtain ⟨F4,F5,⟨bv4,rv4,D4,hbv4,hfb4,hh4,_,ho4,_⟩,hF5,h45,_,_⟩:=hS5.two 4 5 (by decide) rfl rfl
       cases hbv4
       obtain rfl:rv4=.slice p6 len c6:=by
        have:=hh4.symm.trans hh5
        simpa using this
       have hbv:w.heap.size≠v:=fun e=>h45 v hfb4 (e ▸ hF5.1)
       have hnb:(Value.slice p6 len c6).ownBlock≠some w.heap.size:=fun e=>h45 _ (ho4 _ e).1 hF5.1
       have HBV:=Lib.hid hbv
       have HNB:=Lib.hid hnb
       clear hbv hnb
       clear ho4 h45 hF5 hfb4 hh4
       have HH5:=Lib.hid hh5
       have HS5:=Lib.hid hS5
       have HCL:=Lib.hid hcl
       have HLEN:=Lib.hid hlen
       clear hS5 hcl hlen
       clear hh5 hFO hsub hvr hxr hx0 hv1
       go_wp2_with fail
       go_region_law ((first
        | (go_simp
           go_at_call 45
           refine (HCL.out).mono ?_
           rintro r w7 ⟨p7,c7,rfl,HD7,HB7⟩
           have hS7:=HS5.out.new HB7.out (DatumA (.slice p7 40 c7) (gf k)) (F:=New w5 w7) (fun _ h=>h) HD7.out
           obtain ⟨rv7,css,hh7,hbl7,hrw7,hne7,hnx7⟩:=Go.Proofs.Sep.view_push hS7 4 7 (by decide) rfl rfl
           have hee:=hh7.symm.trans ((HB7.out.block v hbl5).trans HH5.out)
           obtain rfl:rv7=.slice p6 len c6:=by simpa using hee
           rw [HLEN.out] at hrw7 hnx7
           have hba7:=below_alloc w7 (.cells #[.int .i64 (e.first+(k:Int)),.slice p7 40 c7,.bool false] 42)
           have hv7:w7.cell? ⟨v,4,none⟩=some (.slice p6 len c6):=by rw [cell_row hh7];rfl
           have hx7:w7.cell? ⟨w.heap.size,0,none⟩=some (.int .i64 e.first):=cell_up HB7.out hx5
           have hv7a:=cell_up hba7 hv7
           have hx7a:=cell_up hba7 hx7
           have hr7a:=ownsRow_up hrw7 hba7
           have hh7a:=(hba7.block v hbl7).trans hh7
           have hbx7:w.heap.size < w7.heap.size:=World.block_lt_of_cell? _ _ hx7
           have hnb7:(Value.slice p6 len c6).ownBlock≠some w.heap.size:=HNB.out
           have HNX7:=Lib.hid hnx7
           have HBA7:=Lib.hid hba7
           have HR7A:=Lib.hid hr7a
           have HH7A:=Lib.hid hh7a
           clear hS7 hee hh7 hrw7 hnx7 hba7 hr7a hh7a)
        | (refine step_append_lies _ (by rfl) _ _ _ (by rfl) 0 42 ir (.agg #[.int .i64 0, .slice none 0 0, .bool false]) 3 40 Tryz.underlying36 hr0 hr1 hr2 hr3 (by rfl) (by decide) _ len css.flatten (by rfl) HR7A.out ⟨w7.heap.size, 0, none⟩ 1 1 [.int .i64 (e.first + (k : Int)), .slice p7 40 c7, .bool false] (by rfl) (by rfl) (World.news_of_block (cs := #[.int .i64 (e.first + (k : Int)), .slice p7 40 c7, .bool false]) (heap_alloc_new w7 _)) (by simp [Value.oneCell']) (by decide) (by unfold maxLen; omega) (by omega) (Nat.zero_le _) (w7.heap.size + 1) (by simp) ?_
           intro g9 c9 w9 hown9 hgrow9 hat9 hlt9
           have hh9:=(hgrow9.block v (Nat.lt_of_lt_of_le hbl7 HBA7.out.size) (fun e=>hne7 e.symm)).trans HH7A.out
           have hv9:w9.cell? ⟨v,4,none⟩=some (.slice p6 len c6):=by rw [cell_row hh9];rfl
           have hz9:w9.frozen? ⟨v,4,none⟩=false:=fz_row hh9 4
           have hx9:w9.cell? ⟨w.heap.size,0,none⟩=some (.int .i64 e.first):=(World.cell?_of_block (hgrow9.block w.heap.size (Nat.lt_of_lt_of_le hbx7 HBA7.out.size) (fun e=>hnb7 e.symm))).trans hx7a)))
       all_goals
        have hS10:=HNX7.out w9 g9 c9 (e.first+(k:Int)) false HI64.out hown9 hgrow9 hat9 hlt9
        rw [HMORE.out,HSAM.out HFG.out] at hS10
        have hS11:=hS10.take 7
        have HS11:=Lib.hid hS11
        clear hS11
        clear hS10 hown9 hgrow9 hat9 hlt9 hv9 hz9 hh9
        go_wp2_with fail
        go_roundw
        case rel=>exact ⟨k+1,by omega,by go_num,HS11.out⟩
        case measure=>simp [intOf];omega
end Go.Proofs
/-
 DERIVED: THE SHELF's CONTRACTS AT THIS DUMP, IN PLAIN WORDS (tools/lay-plain.mjs out of 'TmpShelf.lean', which tools/lay-shelf.mjs wrote): THE SAME DECLARATIONS UNDER THE SAME NAMES: 'import', 'namespace', 'open', 'def', 'theorem' AND NOTHING ELSE: no command of the shelf's: FOR A HAND-IN. Each laying: the table of numbers ('.._ren') and one theorem, a field a fact of the dump's own or the kernel's comparison; each contract: ONE APPLICATION.
-/
namespace Go.Proofs
open Go.Shelf
def Tryz.keys143_ren:Go.Shelf.Ren:=⟨fun | 7=>143 | 10=>209 | n=>n,fun | 23=>160 | 26=>3 | 3=>40 | 28=>241 | 0=>0 | 27=>240 | 33=>199 | 4=>4 | n=>n,fun | n=>n⟩
theorem Tryz.keys143:Go.Proofs.SlLaysZI.n7 Tryz.prog Tryz.keys143_ren:={
 mixed:=by kernel_rfl
 f7:=⟨Tryz.f143.name,by decide,Tryz.func143.trans (congrArg some (by kernel_rfl))⟩
 f10:=⟨Tryz.f209.name,by decide,Tryz.func209.trans (congrArg some (by kernel_rfl))⟩
 t0:=Tryz.underlying0
 a0:=Tryz.isAgg0
 z0:=Tryz.sizeOf0
 v0:=Tryz.zeroValue0
 t4:=Tryz.underlying4
 a4:=Tryz.isAgg4
 z4:=Tryz.sizeOf4
 v4:=Tryz.zeroValue4
 t23:=Tryz.underlying160
 a23:=Tryz.isAgg160
 z23:=Tryz.sizeOf160
 v23:=Tryz.zeroValue160
 t26:=Tryz.underlying3
 a26:=Tryz.isAgg3
 z26:=Tryz.sizeOf3
 v26:=Tryz.zeroValue3
 t27:=Tryz.underlying240
 a27:=Tryz.isAgg240
 z27:=Tryz.sizeOf240
 v27:=Tryz.zeroValue240
 t28:=Tryz.underlying241
 a28:=Tryz.isAgg241
 z28:=Tryz.sizeOf241
 v28:=Tryz.zeroValue241
 t33:=Tryz.underlying199
 a33:=Tryz.isAgg199
 z33:=Tryz.sizeOf199
 v33:=Tryz.zeroValue199 }
def Tryz.keys262_ren:Go.Shelf.Ren:=⟨fun | 7=>262 | 10=>320 | n=>n,fun | 23=>259 | 26=>3 | 3=>265 | 28=>241 | 0=>0 | 27=>240 | 33=>199 | 4=>4 | n=>n,fun | n=>n⟩
theorem Tryz.keys262:Go.Proofs.SlLaysZI.n7 Tryz.prog Tryz.keys262_ren:={
 mixed:=by kernel_rfl
 f7:=⟨Tryz.f262.name,by decide,Tryz.func262.trans (congrArg some (by kernel_rfl))⟩
 f10:=⟨Tryz.f320.name,by decide,Tryz.func320.trans (congrArg some (by kernel_rfl))⟩
 t0:=Tryz.underlying0
 a0:=Tryz.isAgg0
 z0:=Tryz.sizeOf0
 v0:=Tryz.zeroValue0
 t4:=Tryz.underlying4
 a4:=Tryz.isAgg4
 z4:=Tryz.sizeOf4
 v4:=Tryz.zeroValue4
 t23:=Tryz.underlying259
 a23:=Tryz.isAgg259
 z23:=Tryz.sizeOf259
 v23:=Tryz.zeroValue259
 t26:=Tryz.underlying3
 a26:=Tryz.isAgg3
 z26:=Tryz.sizeOf3
 v26:=Tryz.zeroValue3
 t27:=Tryz.underlying240
 a27:=Tryz.isAgg240
 z27:=Tryz.sizeOf240
 v27:=Tryz.zeroValue240
 t28:=Tryz.underlying241
 a28:=Tryz.isAgg241
 z28:=Tryz.sizeOf241
 v28:=Tryz.zeroValue241
 t33:=Tryz.underlying199
 a33:=Tryz.isAgg199
 z33:=Tryz.sizeOf199
 v33:=Tryz.zeroValue199 }
def Tryz.keys344_ren:Go.Shelf.Ren:=⟨fun | 7=>344 | 10=>378 | n=>n,fun | 23=>295 | 26=>3 | 3=>3 | 28=>241 | 0=>0 | 27=>240 | 33=>199 | 4=>4 | n=>n,fun | n=>n⟩
theorem Tryz.keys344:Go.Proofs.SlLaysZI.n7 Tryz.prog Tryz.keys344_ren:={
 mixed:=by kernel_rfl
 f7:=⟨Tryz.f344.name,by decide,Tryz.func344.trans (congrArg some (by kernel_rfl))⟩
 f10:=⟨Tryz.f378.name,by decide,Tryz.func378.trans (congrArg some (by kernel_rfl))⟩
 t0:=Tryz.underlying0
 a0:=Tryz.isAgg0
 z0:=Tryz.sizeOf0
 v0:=Tryz.zeroValue0
 t4:=Tryz.underlying4
 a4:=Tryz.isAgg4
 z4:=Tryz.sizeOf4
 v4:=Tryz.zeroValue4
 t23:=Tryz.underlying295
 a23:=Tryz.isAgg295
 z23:=Tryz.sizeOf295
 v23:=Tryz.zeroValue295
 t26:=Tryz.underlying3
 a26:=Tryz.isAgg3
 z26:=Tryz.sizeOf3
 v26:=Tryz.zeroValue3
 t27:=Tryz.underlying240
 a27:=Tryz.isAgg240
 z27:=Tryz.sizeOf240
 v27:=Tryz.zeroValue240
 t28:=Tryz.underlying241
 a28:=Tryz.isAgg241
 z28:=Tryz.sizeOf241
 v28:=Tryz.zeroValue241
 t33:=Tryz.underlying199
 a33:=Tryz.isAgg199
 z33:=Tryz.sizeOf199
 v33:=Tryz.zeroValue199 }
def Tryz.sortedA_ren:Go.Shelf.Ren:=⟨fun | 6=>142 | 8=>207 | 9=>208 | 11=>259 | 13=>261 | 12=>260 | 23=>318 | 24=>319 | 14=>309 | 15=>310 | 16=>311 | 17=>312 | 18=>313 | 19=>314 | 20=>315 | 21=>316 | 22=>317 | 25=>352 | 26=>353 | 27=>354 | 28=>355 | 29=>356 | 30=>336 | 31=>381 | n=>n,fun | 26=>3 | 28=>241 | 24=>30 | 0=>0 | 3=>3 | 37=>258 | 48=>229 | 50=>226 | 4=>4 | 40=>384 | 39=>383 | 45=>276 | 5=>5 | 9=>9 | 51=>428 | 55=>432 | 57=>452 | 58=>453 | 33=>199 | n=>n,fun | n=>n⟩
theorem Tryz.sortedA:Go.Proofs.SlLaysZI.n6 Tryz.prog Tryz.sortedA_ren:={
 mixed:=by kernel_rfl
 f6:=⟨Tryz.f142.name,by decide,Tryz.func142.trans (congrArg some (by kernel_rfl))⟩
 f8:=⟨Tryz.f207.name,by decide,Tryz.func207.trans (congrArg some (by kernel_rfl))⟩
 f11:=⟨Tryz.f259.name,by decide,Tryz.func259.trans (congrArg some (by kernel_rfl))⟩
 t0:=Tryz.underlying0
 a0:=Tryz.isAgg0
 z0:=Tryz.sizeOf0
 v0:=Tryz.zeroValue0
 t24:=Tryz.underlying30
 a24:=Tryz.isAgg30
 z24:=Tryz.sizeOf30
 v24:=Tryz.zeroValue30
 t26:=Tryz.underlying3
 a26:=Tryz.isAgg3
 z26:=Tryz.sizeOf3
 v26:=Tryz.zeroValue3
 t28:=Tryz.underlying241
 a28:=Tryz.isAgg241
 z28:=Tryz.sizeOf241
 v28:=Tryz.zeroValue241
 i26:=by kernel_rfl }
def Tryz.sortA_ren:Go.Shelf.Ren:=⟨fun | 5=>208 | 8=>261 | 7=>260 | 19=>318 | 20=>319 | 10=>309 | 11=>310 | 12=>311 | 13=>312 | 14=>313 | 15=>314 | 16=>315 | 17=>316 | 18=>317 | 30=>352 | 31=>353 | 32=>354 | 33=>355 | 34=>356 | 35=>336 | 40=>381 | n=>n,fun | 23=>30 | 25=>3 | 3=>3 | 32=>258 | 22=>30 | 0=>0 | 44=>229 | 46=>226 | 4=>4 | 36=>384 | 35=>383 | 41=>276 | 5=>5 | 9=>9 | 53=>428 | 57=>432 | 63=>452 | 64=>453 | n=>n,fun | n=>n⟩
theorem Tryz.sortA:Go.Proofs.SlLaysM.n5 Tryz.prog Tryz.sortA_ren:={
 mixed:=by kernel_rfl
 f5:=⟨Tryz.f208.name,by decide,Tryz.func208.trans (congrArg some (by kernel_rfl))⟩
 f7:=⟨Tryz.f260.name,by decide,Tryz.func260.trans (congrArg some (by kernel_rfl))⟩
 f8:=Tryz.func261.trans (congrArg some (by kernel_rfl))
 f10:=⟨Tryz.f309.name,by decide,Tryz.func309.trans (congrArg some (by kernel_rfl))⟩
 f11:=⟨Tryz.f310.name,by decide,Tryz.func310.trans (congrArg some (by kernel_rfl))⟩
 f12:=⟨Tryz.f311.name,by decide,Tryz.func311.trans (congrArg some (by kernel_rfl))⟩
 f13:=⟨Tryz.f312.name,by decide,Tryz.func312.trans (congrArg some (by kernel_rfl))⟩
 f14:=⟨Tryz.f313.name,by decide,Tryz.func313.trans (congrArg some (by kernel_rfl))⟩
 f15:=⟨Tryz.f314.name,by decide,Tryz.func314.trans (congrArg some (by kernel_rfl))⟩
 f16:=⟨Tryz.f315.name,by decide,Tryz.func315.trans (congrArg some (by kernel_rfl))⟩
 f17:=⟨Tryz.f316.name,by decide,Tryz.func316.trans (congrArg some (by kernel_rfl))⟩
 f18:=⟨Tryz.f317.name,by decide,Tryz.func317.trans (congrArg some (by kernel_rfl))⟩
 f19:=Tryz.func318.trans (congrArg some (by kernel_rfl))
 f20:=Tryz.func319.trans (congrArg some (by kernel_rfl))
 f30:=⟨Tryz.f352.name,by decide,Tryz.func352.trans (congrArg some (by kernel_rfl))⟩
 f31:=Tryz.func353.trans (congrArg some (by kernel_rfl))
 f32:=Tryz.func354.trans (congrArg some (by kernel_rfl))
 f33:=⟨Tryz.f355.name,by decide,Tryz.func355.trans (congrArg some (by kernel_rfl))⟩
 f34:=⟨Tryz.f356.name,by decide,Tryz.func356.trans (congrArg some (by kernel_rfl))⟩
 f35:=⟨Tryz.f336.name,by decide,Tryz.func336.trans (congrArg some (by kernel_rfl))⟩
 f40:=⟨Tryz.f381.name,by decide,Tryz.func381.trans (congrArg some (by kernel_rfl))⟩
 t0:=Tryz.underlying0
 a0:=Tryz.isAgg0
 z0:=Tryz.sizeOf0
 v0:=Tryz.zeroValue0
 t3:=Tryz.underlying3
 a3:=Tryz.isAgg3
 z3:=Tryz.sizeOf3
 v3:=Tryz.zeroValue3
 t4:=Tryz.underlying4
 a4:=Tryz.isAgg4
 z4:=Tryz.sizeOf4
 v4:=Tryz.zeroValue4
 t5:=Tryz.underlying5
 a5:=Tryz.isAgg5
 z5:=Tryz.sizeOf5
 v5:=Tryz.zeroValue5
 t9:=Tryz.underlying9
 a9:=Tryz.isAgg9
 z9:=Tryz.sizeOf9
 v9:=Tryz.zeroValue9
 t22:=Tryz.underlying30
 a22:=Tryz.isAgg30
 z22:=Tryz.sizeOf30
 v22:=Tryz.zeroValue30
 t23:=Tryz.underlying30
 a23:=Tryz.isAgg30
 z23:=Tryz.sizeOf30
 v23:=Tryz.zeroValue30
 t25:=Tryz.underlying3
 a25:=Tryz.isAgg3
 z25:=Tryz.sizeOf3
 v25:=Tryz.zeroValue3
 t32:=Tryz.underlying258
 a32:=Tryz.isAgg258
 z32:=Tryz.sizeOf258
 v32:=Tryz.zeroValue258
 t35:=Tryz.underlying383
 a35:=Tryz.isAgg383
 z35:=Tryz.sizeOf383
 v35:=Tryz.zeroValue383
 t36:=Tryz.underlying384
 a36:=Tryz.isAgg384
 z36:=Tryz.sizeOf384
 v36:=Tryz.zeroValue384
 t41:=Tryz.underlying276
 a41:=Tryz.isAgg276
 z41:=Tryz.sizeOf276
 v41:=Tryz.zeroValue276
 t44:=Tryz.underlying229
 a44:=Tryz.isAgg229
 z44:=Tryz.sizeOf229
 v44:=Tryz.zeroValue229
 t46:=Tryz.underlying226
 a46:=Tryz.isAgg226
 z46:=Tryz.sizeOf226
 v46:=Tryz.zeroValue226
 t53:=Tryz.underlying428
 a53:=Tryz.isAgg428
 z53:=Tryz.sizeOf428
 v53:=Tryz.zeroValue428
 t57:=Tryz.underlying432
 a57:=Tryz.isAgg432
 z57:=Tryz.sizeOf432
 v57:=Tryz.zeroValue432
 t63:=Tryz.underlying452
 a63:=Tryz.isAgg452
 z63:=Tryz.sizeOf452
 v63:=Tryz.zeroValue452
 t64:=Tryz.underlying453
 a64:=Tryz.isAgg453
 z64:=Tryz.sizeOf453
 v64:=Tryz.zeroValue453 }
end Go.Proofs
namespace Go.Proofs
open Go.RowKit Sc Go.Maps Go.WideShapes Go.Sort Go.Shelf
def rUnit:Value→Option (DataW Unit × List MemPlace):=fun _=>some (.nil,[])
theorem owns_of {P:Program} {w:World} {k:TypeId} {r:Nat} {m:List (Int × Value)} (hk:P.underlying k=some (.int .i64)) (h:MapIs w r m) (hi:∀ x∈m,I64 x.1) (hm:m.length≤maxLen) :
  ∃ D:DataW Unit,w.ownsMap P k rUnit r m.length D∧(intKeys D).Perm (m.map (·.1))∧Maps.size D=m.length:=by
 obtain ⟨es,clock,hb,he,hn,hbo,hbn⟩:=h
 have hlen:es.size=m.length:=by have:=congrArg List.length he;simpa using this
 have hkey:∀ x∈es.toList,∃ n,x.key=.int .i64 n∧keyOf P k x.key=some (.int .i64 n):=by
  intro x hx
  obtain ⟨n,v,hmem,hxk,_⟩:=keys_of he x hx
  refine ⟨n,hxk,?_⟩
  rw [hxk]
  exact keyOf_int_mk hk (WalkArith.wf_i64 (hi (n,v) hmem))
 have hrd:∀ x∈es.toList,∃ n,x.key=.int .i64 n∧Go.WideElems.rd P k rUnit x=some (.int .i64 n,.nil):=by
  intro x hx
  obtain ⟨n,h1,h2⟩:=hkey x hx
  exact ⟨n,h1,by simp [Go.WideElems.rd,h2,rUnit]⟩
 have hmap:(es.toList.map (Go.WideElems.rg P k rUnit)).map (fun p=>Go.intOf p.1)=m.map (·.1):=by
  have:∀ x∈es.toList,Go.intOf (Go.WideElems.rg P k rUnit x).1=intOf x.key:=by
   intro x hx
   obtain ⟨n,h1,h2⟩:=hrd x hx
   rw [Go.WideElems.rg_of h2,h1];rfl
  rw [List.map_map,show es.toList.map ((fun p:Lit × DataW Unit=>Go.intOf p.1) ∘ Go.WideElems.rg P k rUnit)=es.toList.map (fun x=>intOf x.key) from List.map_congr_left this]
  have h2:=congrArg (List.map (fun y:Value × Value=>intOf y.1)) he
  simp only [List.map_map] at h2
  have e1:es.toList.map (fun x=>intOf x.key)=es.toList.map ((fun y:Value × Value=>intOf y.1) ∘ ent):=rfl
  have e2:m.map (·.1)=m.map ((fun y:Value × Value=>intOf y.1) ∘ pr):=rfl
  rw [e1,e2];exact h2
 refine ⟨_,⟨es,clock,hb,⟨by omega,⟨hbo,hbn,?_⟩,fun x hx=>?_⟩,by omega,rfl⟩,?_,?_⟩
 ·have h2:=congrArg (List.map Prod.fst) he
  simp only [List.map_map] at h2
  have e1:es.toList.map (·.key)=es.toList.map (Prod.fst ∘ ent):=rfl
  rw [e1,h2]
  have e2:m.map (Prod.fst ∘ pr)=(m.map (·.1)).map (Value.int .i64):=by rw [List.map_map];rfl
  rw [e2]
  exact List.Pairwise.map _ (fun a b hab e=>hab (by cases e;rfl)) hn
 ·obtain ⟨n,_,h2⟩:=hrd x hx
  exact ⟨_,h2⟩
 ·show (((es.toList.map (Go.WideElems.rg P k rUnit)).foldr DataW.insert []).map fun p=>Go.intOf p.1).Perm _
  have:=(sorted_perm (es.toList.map (Go.WideElems.rg P k rUnit))).map (fun p=>Go.intOf p.1)
  rw [hmap] at this
  exact this
 ·show ((es.toList.map (Go.WideElems.rg P k rUnit)).foldr DataW.insert []).length=_
  rw [(sorted_perm _).length_eq];simpa using hlen
theorem sortsIn (n:Nat):AnyZI.SortsIn Tryz.prog Tryz.sortedA_ren Fence.wide n :=
 ⟨fun blk off cap ss W hH hblk hsz=>callsIn_wide.2 (AnyM.slices_Sort_int Tryz.sortA blk off cap ss W hH hblk hsz),
  fun p cap W=>callsIn_wide.2 (AnyM.slices_Sort_int_none Tryz.sortA p cap W)⟩
def keysUp (m:List Int):List Int:=m.mergeSort (fun x y=>decide (x≤y))
def SortedKeys (ks:List Int) (w:World) (e:Ending) (w':World):Prop :=
 ∃ v,e=.returned v∧w'.ownsRow w.heap.size 3 1 v ks.length ((keysUp ks).map (Value.int .i64))∧Below w.heap.size w w'
theorem keysUp_perm {a b:List Int} (h:a.Perm b):keysUp a=keysUp b:=by
 unfold keysUp
 have ht:∀ (a b c:Int),decide (a≤b)=true→decide (b≤c)=true→decide (a≤c)=true:=fun a b c h1 h2=>by simp only [decide_eq_true_eq] at *;omega
 have hto:∀ (a b:Int),(decide (a≤b) || decide (b≤a))=true:=fun a b=>by simp only [Bool.or_eq_true,decide_eq_true_eq];omega
 refine List.Perm.eq_of_pairwise (le:=fun x y:Int=>x≤y) (fun x y _ _ h1 h2=>by omega) ?_ ?_ ?_
 ·exact (List.pairwise_mergeSort ht hto a).imp (fun h=>by simpa using h)
 ·exact (List.pairwise_mergeSort ht hto b).imp (fun h=>by simpa using h)
 ·exact ((List.mergeSort_perm _ _).trans h).trans (List.mergeSort_perm _ _).symm
theorem keysDat_any (r:Nat) (W:World) :
  Calls Tryz.prog 143 #[.map (some r)] W fun e w'=>e=.returned (.func (.func 209) #[] #[.pointer (some ⟨W.heap.size,0,none⟩)])∧W.alloc (.cells #[.map (some r)] 160)=w':=by
 go_enter Tryz.func143,Tryz.ntmps143
 go_wp2
 go_ret
 exact ⟨rfl,rfl⟩
set_option maxHeartbeats 1000000 in
theorem sortedDat_any (r bx:Nat) (m:List (Int × Value)) (w:World) (h:MapIs w r m) (hi:∀ x∈m,I64 x.1) (hm:m.length≤1000000) (hbl:bx < w.heap.size) (hbx:w.cell? ⟨bx,0,none⟩=some (.map (some r))) :
  Calls Tryz.prog 142 #[.func (.func 209) #[] #[.pointer (some ⟨bx,0,none⟩)]] w (SortedKeys (m.map (·.1)) w):=by
 refine (callsIn_wide (n:=5)).1 ?_
 obtain ⟨D,hown,hperm,hsize⟩:=owns_of (P:=Tryz.prog) Tryz.underlying3 h hi (by unfold maxLen;omega)
 have hseq:SeqGives Fence.wide 2 Tryz.prog 209 #[.pointer (some ⟨bx,0,none⟩)] encZ (fun ss=>ss.Perm (intKeys D)) (Maps.size D) w :=
  AnyZI.keys_gives (ρ:=Tryz.keys143_ren) { Tryz.keys143 with } Fence.wide _ trivial rfl (by omega) bx r m.length D w hbl hbx hown
 have cS:=AnyZI.sorted_in Tryz.sortedA Fence.wide 5 trivial trivial trivial trivial rfl (by omega) (sortsIn _) (enters_of Tryz.func208 (by kernel_rfl) rfl) 209 #[.pointer (some ⟨bx,0,none⟩)] trivial (enters_of Tryz.func209 (by kernel_rfl) rfl) _ _ (by rw [hsize];unfold maxLen;omega) (by rw [hsize];omega) _ hseq
 change CallsIn _ _ Tryz.prog 142 _ _ _ at cS
 refine cS.mono ?_
 rintro e w' ⟨v,ss,rfl,hS,hrow,hnil,hb⟩
 have hp:=hS.trans hperm
 have hu:=keysUp_perm hp
 refine ⟨v,rfl,?_,hb⟩
 rw [← hu,← hp.length_eq]
 exact hrow
theorem keysInt_any (r:Nat) (W:World) :
  Calls Tryz.prog 344 #[.map (some r)] W fun e w'=>e=.returned (.func (.func 378) #[] #[.pointer (some ⟨W.heap.size,0,none⟩)])∧W.alloc (.cells #[.map (some r)] 295)=w':=by
 go_enter Tryz.func344,Tryz.ntmps344
 go_wp2
 go_ret
 exact ⟨rfl,rfl⟩
set_option maxHeartbeats 1000000 in
theorem sortedInt_any (r bx:Nat) (m:List (Int × Value)) (w:World) (h:MapIs w r m) (hi:∀ x∈m,I64 x.1) (hm:m.length≤1000000) (hbl:bx < w.heap.size) (hbx:w.cell? ⟨bx,0,none⟩=some (.map (some r))) :
  Calls Tryz.prog 142 #[.func (.func 378) #[] #[.pointer (some ⟨bx,0,none⟩)]] w (SortedKeys (m.map (·.1)) w):=by
 refine (callsIn_wide (n:=5)).1 ?_
 obtain ⟨D,hown,hperm,hsize⟩:=owns_of (P:=Tryz.prog) Tryz.underlying3 h hi (by unfold maxLen;omega)
 have hseq:SeqGives Fence.wide 2 Tryz.prog 378 #[.pointer (some ⟨bx,0,none⟩)] encZ (fun ss=>ss.Perm (intKeys D)) (Maps.size D) w :=
  AnyZI.keys_gives (ρ:=Tryz.keys344_ren) { Tryz.keys344 with } Fence.wide _ trivial rfl (by omega) bx r m.length D w hbl hbx hown
 have cS:=AnyZI.sorted_in Tryz.sortedA Fence.wide 5 trivial trivial trivial trivial rfl (by omega) (sortsIn _) (enters_of Tryz.func208 (by kernel_rfl) rfl) 378 #[.pointer (some ⟨bx,0,none⟩)] trivial (enters_of Tryz.func378 (by kernel_rfl) rfl) _ _ (by rw [hsize];unfold maxLen;omega) (by rw [hsize];omega) _ hseq
 change CallsIn _ _ Tryz.prog 142 _ _ _ at cS
 refine cS.mono ?_
 rintro e w' ⟨v,ss,rfl,hS,hrow,hnil,hb⟩
 have hp:=hS.trans hperm
 have hu:=keysUp_perm hp
 refine ⟨v,rfl,?_,hb⟩
 rw [← hu,← hp.length_eq]
 exact hrow
theorem keysVer_any (r:Nat) (W:World) :
  Calls Tryz.prog 262 #[.map (some r)] W fun e w'=>e=.returned (.func (.func 320) #[] #[.pointer (some ⟨W.heap.size,0,none⟩)])∧W.alloc (.cells #[.map (some r)] 259)=w':=by
 go_enter Tryz.func262,Tryz.ntmps262
 go_wp2
 go_ret
 exact ⟨rfl,rfl⟩
set_option maxHeartbeats 1000000 in
theorem sortedVer_any (r bx:Nat) (m:List (Int × Value)) (w:World) (h:MapIs w r m) (hi:∀ x∈m,I64 x.1) (hm:m.length≤1000000) (hbl:bx < w.heap.size) (hbx:w.cell? ⟨bx,0,none⟩=some (.map (some r))) :
  Calls Tryz.prog 142 #[.func (.func 320) #[] #[.pointer (some ⟨bx,0,none⟩)]] w (SortedKeys (m.map (·.1)) w):=by
 refine (callsIn_wide (n:=5)).1 ?_
 obtain ⟨D,hown,hperm,hsize⟩:=owns_of (P:=Tryz.prog) Tryz.underlying3 h hi (by unfold maxLen;omega)
 have hseq:SeqGives Fence.wide 2 Tryz.prog 320 #[.pointer (some ⟨bx,0,none⟩)] encZ (fun ss=>ss.Perm (intKeys D)) (Maps.size D) w :=
  AnyZI.keys_gives (ρ:=Tryz.keys262_ren) { Tryz.keys262 with } Fence.wide _ trivial rfl (by omega) bx r m.length D w hbl hbx hown
 have cS:=AnyZI.sorted_in Tryz.sortedA Fence.wide 5 trivial trivial trivial trivial rfl (by omega) (sortsIn _) (enters_of Tryz.func208 (by kernel_rfl) rfl) 320 #[.pointer (some ⟨bx,0,none⟩)] trivial (enters_of Tryz.func320 (by kernel_rfl) rfl) _ _ (by rw [hsize];unfold maxLen;omega) (by rw [hsize];omega) _ hseq
 change CallsIn _ _ Tryz.prog 142 _ _ _ at cS
 refine cS.mono ?_
 rintro e w' ⟨v,ss,rfl,hS,hrow,hnil,hb⟩
 have hp:=hS.trans hperm
 have hu:=keysUp_perm hp
 refine ⟨v,rfl,?_,hb⟩
 rw [← hu,← hp.length_eq]
 exact hrow
end Go.Proofs
namespace Go.Proofs
open Go.RowKit Sc
def ivs (tm:List (Int × Int)):List (Int × Value):=tm.map fun x=>(x.1,.int .i64 x.2)
theorem ivs_keys (tm:List (Int × Int)):(ivs tm).map (·.1)=tm.map (·.1):=by simp [ivs]
theorem ivs_look (tm:List (Int × Int)) (k:Int):alook (ivs tm) k=(alook tm k).map (Value.int .i64):=by
 induction tm with
 | nil=>rfl
 | cons a t ih =>
  obtain ⟨a,x⟩:=a
  by_cases h:a=k
  ·simp [ivs,alook,h]
  ·simpa [ivs,alook,h] using ih
theorem ivs_set (tm:List (Int × Int)) (k t:Int):aset (ivs tm) k (.int .i64 t)=ivs (aset tm k t):=by
 induction tm with
 | nil=>rfl
 | cons a l ih =>
  obtain ⟨a,x⟩:=a
  by_cases h:a=k
  ·simp [ivs,aset,h]
  ·simpa [ivs,aset,h] using ih
theorem ivs_del (tm:List (Int × Int)) (k:Int):adel (ivs tm) k=ivs (adel tm k):=by
 induction tm with
 | nil=>rfl
 | cons a l ih =>
  obtain ⟨a,x⟩:=a
  by_cases h:a=k
  ·simp [ivs,adel,h]
  ·simpa [ivs,adel,h] using ih
structure BookIs (F:Nat→Prop) (w:World) (v:Value) (most last:Int) (tm:List (Int × Int)):Prop where
 out:∃ b r,v=.pointer (some ⟨b,0,none⟩)∧F b∧F r∧w.heap[b]? = some (.cells #[.int .i64 most,.int .i64 last,.map (some r)] 297 (0,0))∧MapIs w r (ivs tm)
 dom:Dom F w
 rng:∀ x∈tm,I64 x.1∧I64 x.2
theorem BookIs.same {F:Nat→Prop} {w w':World} {v:Value} {most last:Int} {tm:List (Int × Int)} (h:BookIs F w v most last tm) (hs:Same F w w') (hz:w.heap.size≤w'.heap.size):BookIs F w' v most last tm :=
 let ⟨⟨b,r,h1,h2,h3,h4,h5⟩,hd,hr⟩:=h;⟨⟨b,r,h1,h2,h3,by rw [hs b h2];exact h4,h5.same hs h3⟩,hd.of_size hz,hr⟩
theorem BookIs.up {F:Nat→Prop} {w w':World} {v:Value} {most last:Int} {tm:List (Int × Int)} (h:BookIs F w v most last tm) (hb:Below w.heap.size w w'):BookIs F w' v most last tm:=h.same (h.dom.same hb) hb.size
def BookNew (most:Int) (w:World) (e:Ending) (w':World):Prop:=∃ v,e=.returned v∧BookIs (New w w') w' v most 0 []∧Below w.heap.size w w'
set_option maxHeartbeats 400000 in
theorem bookNew_any (most:Int) (w:World):Calls Tryz.prog 141 #[.int .i64 most] w (BookNew most w):=by
 have hmm:=@run_makeMap Tryz.prog
 go_enter Tryz.func141,Tryz.ntmps141
 go_wp2
 go_ret
 have hm:=MapIs.made w
 refine ⟨_,rfl,⟨⟨w.heap.size+1,w.heap.size,rfl,by simp [New],by simp [New];omega,heap_new (by simp),hm.same (G:=(· < w.heap.size+1)) (fun k hk=>heap_old (by simpa using hk)) (by simp)⟩,fun k hk=>hk.2,by simp⟩,?_⟩
 exact ((Below.refl _ _).alloc (Nat.le_refl _) _).alloc (by simp) _
def atSaid (tm:List (Int × Int)) (h:Int):Ending:=match alook tm h with
 | some t=>.returned (.tuple #[.int .i64 t,.int .i64 0])
 | none=>.returned (.tuple #[.int .i64 0,.int .i64 14])
set_option maxHeartbeats 400000 in
theorem bookAt_any (F:Nat→Prop) (v:Value) (most last:Int) (tm:List (Int × Int)) (h:Int) (w:World) (hb:BookIs F w v most last tm) :
  Calls Tryz.prog 230 #[v,.int .i64 h] w fun e w'=>e=atSaid tm h∧w=w':=by
 obtain ⟨⟨b,r,rfl,h2,h3,h4,h5⟩,hd,_⟩:=hb
 have hc2:w.cell? ⟨b,2,none⟩=some (.map (some r)):=by rw [cell_row h4];rfl
 have hl:=h5.lookup (P:=Tryz.prog) Tryz.underlying295 Tryz.underlying3 (Tryz.zeroValue3 _) h true
 rw [ivs_look] at hl
 unfold atSaid
 clear h4 h5
 cases hq:alook tm h with
 | none =>
  rw [hq] at hl
  simp only [Option.map_none,Option.getD_none,Option.isSome_none,if_true] at hl
  clear hq
  go_enter Tryz.func230,Tryz.ntmps230
  go_wp2
  go_ret2
  exact ⟨rfl,rfl⟩
 | some t =>
  rw [hq] at hl
  simp only [Option.map_some,Option.getD_some,Option.isSome_some,if_true] at hl
  clear hq
  go_enter Tryz.func230,Tryz.ntmps230
  go_wp2
  go_ret2
  exact ⟨rfl,rfl⟩
def CloseSaid (F:Nat→Prop) (v:Value) (most last:Int) (tm:List (Int × Int)) (h:Int) (w:World) (e:Ending) (w':World):Prop :=
 e=.returned (.int .i64 (if (alook tm h).isSome then 0 else 14))∧BookIs F w' v most last (adel tm h)∧Chg F w w'∧w'.heap.size=w.heap.size
theorem adel_same {α:Type} {m:List (Int × α)} {n:Int} (h:alook m n=none):adel m n=m:=adel_none (alook_none.1 h)
set_option maxHeartbeats 400000 in
theorem bookClose_any (F:Nat→Prop) (v:Value) (most last:Int) (tm:List (Int × Int)) (h:Int) (w:World) (hb:BookIs F w v most last tm) :
  Calls Tryz.prog 163 #[v,.int .i64 h] w (CloseSaid F v most last tm h w):=by
 have HB:=Lib.hid hb
 obtain ⟨⟨b,r,rfl,h2,h3,h4,h5⟩,hd,hr⟩:=hb
 have hc2:w.cell? ⟨b,2,none⟩=some (.map (some r)):=by rw [cell_row h4];rfl
 have hbr:b≠r:=by intro e;obtain ⟨es,c,hh,_⟩:=h5;rw [← e,h4] at hh;cases hh
 have HA:=Lib.hid (bookAt_any F _ most last tm h w HB.out)
 obtain ⟨w1,hdel,hm1,hT⟩:=h5.delete (P:=Tryz.prog) (ty:=0) Tryz.underlying295 Tryz.underlying3 h
 rw [ivs_del] at hm1
 have H4:=Lib.hid h4
 have HM1:=Lib.hid hm1
 have HT:=Lib.hid hT
 clear h4 h5 hm1 hT
 unfold atSaid at HA
 cases hq:alook tm h with
 | none =>
  have HQ:=Lib.hid hq
  rw [hq] at HA
  clear hq hdel
  go_enter Tryz.func163,Tryz.ntmps163
  go_wp2_with (go_at_call 230;refine (HA.out).mono ?_;rintro e w' ⟨rfl,rfl⟩)
  go_ret
  refine ⟨by rw [HQ.out];rfl,?_,Chg.refl _ _,rfl⟩
  rw [adel_same HQ.out];exact HB.out
 | some t =>
  have HQ:=Lib.hid hq
  rw [hq] at HA
  clear hq
  go_enter Tryz.func163,Tryz.ntmps163
  go_wp2_with (go_at_call 230;refine (HA.out).mono ?_;rintro e w' ⟨rfl,rfl⟩)
  go_ret
  refine ⟨by rw [HQ.out];rfl,⟨⟨b,r,rfl,h2,h3,?_,HM1.out⟩,hd.of_size (by rw [HT.out.size];exact Nat.le_refl _),fun x hx=>hr x ((adel_sublist tm h).subset hx)⟩,HT.out.chg h3,HT.out.size⟩
  rw [HT.out.block b hbr];exact H4.out
end Go.Proofs
namespace Go.Proofs
open Go.RowKit Sc
theorem bookRoom_any (F:Nat→Prop) (v:Value) (most last:Int) (tm:List (Int × Int)) (w:World) (hb:BookIs F w v most last tm) :
  Calls Tryz.prog 263 #[v] w fun e w'=>e=.returned (.int .i64 most)∧w=w':=by
 obtain ⟨⟨b,r,rfl,h2,h3,h4,h5⟩,hd,_⟩:=hb
 have hc0:w.cell? ⟨b,0,none⟩=some (.int .i64 most):=by rw [cell_row h4];rfl
 clear h4 h5
 go_enter Tryz.func263,Tryz.ntmps263
 go_wp2
 go_ret
 exact ⟨rfl,rfl⟩
set_option maxHeartbeats 400000 in
theorem bookList_any (F:Nat→Prop) (v:Value) (most last:Int) (tm:List (Int × Int)) (w:World) (hb:BookIs F w v most last tm) (hl:tm.length≤1000000) :
  Calls Tryz.prog 295 #[v] w (SortedKeys (tm.map (·.1)) w):=by
 obtain ⟨⟨b,r,rfl,h2,h3,h4,h5⟩,hd,hr⟩:=hb
 have hc2:w.cell? ⟨b,2,none⟩=some (.map (some r)):=by rw [cell_row h4];rfl
 have H5:=Lib.hid h5
 have HL:=Lib.hid hl
 have HR:=Lib.hid hr
 clear h4 h5 hl hr
 go_enter Tryz.func295,Tryz.ntmps295
 go_wp2_with fail
 refine (keysInt_any r _).mono ?_
 rintro e w1 ⟨rfl,rfl⟩
 go_wp2_with fail
 refine (sortedInt_any r w.heap.size (ivs tm) _ (H5.out.alloc _) (fun x hx=>?_) (by simp only [ivs,List.length_map];exact HL.out) (by simp) (by go_simp)).mono ?_
 ·obtain ⟨y,hy,rfl⟩:=List.mem_map.1 hx
  exact (HR.out y hy).1
 rintro e w2 ⟨kv,rfl,hrow,hb2⟩
 rw [ivs_keys] at hrow
 have HROW:=Lib.hid hrow
 clear hrow
 go_wp2_with fail
 go_ret
 obtain ⟨g1,g2⟩:=HROW.out
 exact ⟨kv,rfl,ownsRow_lower HROW.out (by simp),Below.up (below_alloc _ _) hb2⟩
theorem shape_row {w:World} {B T:Nat} {v:Value} {n:Nat} {xs:List Value} (h:w.ownsRow B T 1 v n xs):∃ p c,v=.slice p n c:=by
 obtain ⟨_,hc | ⟨g,cap,cur,rfl,_⟩⟩:=h
 ·obtain ⟨rfl,rfl⟩:=hc;exact ⟨_,_,rfl⟩
 ·exact ⟨_,_,rfl⟩
set_option maxHeartbeats 400000 in
theorem bookCount_any (F:Nat→Prop) (v:Value) (most last:Int) (tm:List (Int × Int)) (w:World) (hb:BookIs F w v most last tm) (hl:tm.length≤1000000) :
  Calls Tryz.prog 247 #[v] w fun e w'=>e=.returned (.int .i64 tm.length)∧Below w.heap.size w w':=by
 have HB:=Lib.hid hb
 have HL:=Lib.hid hl
 obtain ⟨⟨b,r,rfl,_⟩,_,_⟩:=hb
 clear hl
 go_enter Tryz.func247,Tryz.ntmps247
 go_wp2_with fail
 refine (bookList_any F _ most last tm _ HB.out HL.out).mono ?_
 rintro e w1 ⟨kv,rfl,hrow,hb1⟩
 rw [List.length_map] at hrow
 obtain ⟨p,c,rfl⟩:=shape_row hrow
 clear hrow
 go_wp2_with fail
 go_ret
 exact ⟨rfl,hb1⟩
def lowOf (now:Int) (l:List Int):Int:=l.foldl min now
theorem lowOf_perm {l m:List Int} (h:l.Perm m):∀ now,lowOf now l=lowOf now m:=by
 induction h with
 | nil=>exact fun _=>rfl
 | cons x _ ih=>exact fun now=>ih (min now x)
 | swap x y l =>
  intro now
  show lowOf (min (min now y) x) l=lowOf (min (min now x) y) l
  congr 1;omega
 | trans _ _ ih1 ih2=>exact fun now=>(ih1 now).trans (ih2 now)
def vals (l:List (Int × Value)):List Int:=l.map fun x=>intOf x.2
theorem vals_ivs (tm:List (Int × Int)):vals (ivs tm)=tm.map (·.2):=by simp [vals,ivs,intOf]
set_option maxHeartbeats 1000000 in
theorem bookLow_any (F:Nat→Prop) (v:Value) (most last:Int) (tm:List (Int × Int)) (now:Int) (w:World) (hb:BookIs F w v most last tm) :
  Calls Tryz.prog 154 #[v,.int .i64 now] w fun e w'=>e=.returned (.int .i64 (lowOf now (tm.map (·.2))))∧Below w.heap.size w w':=by
 obtain ⟨⟨b,r,rfl,h2,h3,h4,h5⟩,hd,hr⟩:=hb
 have hc2:w.cell? ⟨b,2,none⟩=some (.map (some r)):=by rw [cell_row h4];rfl
 obtain ⟨o,hrg,hR⟩:=h5.range (P:=Tryz.prog) Tryz.underlying295
 have HR:=Lib.hid hR
 clear h4 h5 hR hr
 go_enter Tryz.func154,Tryz.ntmps154
 go_wp2
 go_loopg [1] tm.length (fun gg s1 wr=>∃ left q,left.length≤gg∧s1=.int .i64 q∧Hid (lowOf q (vals left)=lowOf now (tm.map (·.2)))∧Ranges wr w.heap.size r (ivs tm) left∧Hid (Below w.heap.size w wr))
 case atStart=>exact ⟨ivs tm,now,by simp [ivs],rfl,by unfold Hid;rw [vals_ivs],HR.out,below_alloc w o⟩
 case round =>
  obtain ⟨left,q,hg,rfl,hq,hR,hb⟩:=hrel
  rcases hR.next (P:=Tryz.prog) 0 with ⟨rfl,hn⟩ | ⟨n,v,left',w',hp,hmem,hn,hen,hR',hst⟩
  ·clear hR hrg
   go_wp2
   go_ret
   exact ⟨by rw [← hq.out];rfl,hb.out⟩
  ·obtain ⟨y,hy,hye⟩:=List.mem_map.1 hmem
   obtain ⟨y1,t⟩:=y
   simp only [Prod.mk.injEq] at hye
   obtain ⟨rfl,rfl⟩:=hye
   have hb':=hb.out.trans (hst.below (Nat.le_refl _))
   have HB':=Lib.hid hb'
   have HP:=Lib.hid hp
   have HR':=Lib.hid hR'
   have HG:=Lib.hid hg
   clear hb' hp hR' hR hst hmem hrg hg hy
   go_wp2
   go_roundg left'.length
   case measure =>
    have hl:=HP.out.length_eq
    have h2:=HG.out
    simp at hl
    omega
   case rel =>
    refine ⟨left',min q t,Nat.le_refl _,?_,?_,HR'.out,HB'.out⟩
    ·first | rfl | (congr 2;done) | (congr 2;omega)
    ·unfold Hid
     rw [← hq.out]
     have hq2:lowOf q (vals left)=lowOf (min q t) (vals left'):=lowOf_perm (HP.out.map (fun x:Int × Value=>intOf x.2)) q
     exact hq2.symm
end Go.Proofs
namespace Go.Proofs
open Go.RowKit Sc
structure Keyed (last:Int) (tm:List (Int × Int)):Prop where
 lo:0≤last
 hi:last≤1000000
 ks:∀ x∈tm,1≤x.1∧x.1≤last
 ln:tm.length≤1000000
theorem Keyed.fresh {last:Int} {tm:List (Int × Int)} (h:Keyed last tm):∀ x∈tm,x.1≠last+1:=fun x hx e=>by have:=(h.ks x hx).2;omega
def OpenOk (most:Int) (tm:List (Int × Int)) (t:Int):Int:=if t < 0∨1099511627776 < t then 1 else if most≤tm.length then 6 else 0
def OpenSaid (F:Nat→Prop) (v:Value) (most last:Int) (tm:List (Int × Int)) (t:Int) (w:World) (e:Ending) (w':World):Prop :=
 (OpenOk most tm t≠0∧e=.returned (.tuple #[.int .i64 0,.int .i64 (OpenOk most tm t)])∧Below w.heap.size w w') ∨
 (OpenOk most tm t=0∧e=.returned (.tuple #[.int .i64 (last+1),.int .i64 0])∧BookIs F w' v most (last+1) (tm++[(last+1,t)])∧Chg F w w')
set_option maxHeartbeats 1000000 in
theorem bookOpen_any (F:Nat→Prop) (v:Value) (most last:Int) (tm:List (Int × Int)) (t:Int) (w:World) (hb:BookIs F w v most last tm) (hk:Keyed last tm) :
  Calls Tryz.prog 214 #[v,.int .i64 t] w (OpenSaid F v most last tm t w):=by
 have HB:=Lib.hid hb
 have HK:=Lib.hid hk
 have HL:=Lib.hid hk.ln
 obtain ⟨k1,k2,k3,k4⟩:=hk
 clear k3 k4
 obtain ⟨⟨b,r,rfl,h2,h3,h4,h5⟩,hd,hr⟩:=hb
 by_cases hrange:t < 0∨1099511627776 < t
 ·have hok:OpenOk most tm t=1:=if_pos hrange
  clear h4 h5 hr
  have HOK:=Lib.hid hok
  clear hok
  rcases hrange with h | h
  all_goals
   go_enter Tryz.func214,Tryz.ntmps214
   go_wp2
   go_ret2
   exact .inl ⟨by rw [HOK.out];decide,by rw [HOK.out];rfl,Below.refl _ _⟩
 ·obtain ⟨g1,g2⟩:=not_or.1 hrange
  have hg1:0≤t:=by omega
  have hg2:t≤1099511627776:=by omega
  have HR:=Lib.hid hr
  have hbr:b≠r:=by intro e;obtain ⟨es,c,hh,_⟩:=h5;rw [← e,h4] at hh;cases hh
  by_cases hroom:most≤tm.length
  ·have hok:OpenOk most tm t=6:=by rw [OpenOk,if_neg hrange,if_pos hroom]
   have HOK:=Lib.hid hok
   clear hok h4 h5 hr hrange g1 g2
   go_enter Tryz.func214,Tryz.ntmps214
   go_wp2_with fail
   refine (bookCount_any F _ most last tm _ HB.out HL.out).mono ?_
   rintro e w1 ⟨rfl,hb1⟩
   go_wp2_with fail
   refine (bookRoom_any F _ most last tm _ (HB.out.up hb1)).mono ?_
   rintro e w2 ⟨rfl,rfl⟩
   go_wp2_with fail
   go_ret2
   exact .inl ⟨by rw [HOK.out];decide,by rw [HOK.out];rfl,hb1⟩
  ·have hok:OpenOk most tm t=0:=by rw [OpenOk,if_neg hrange,if_neg hroom]
   have hroom':(tm.length:Int) < most:=by omega
   have HOK:=Lib.hid hok
   have H4:=Lib.hid h4
   have H5:=Lib.hid h5
   have hbs:=hd b h2
   clear hok h4 h5 hr hrange g1 g2 hroom
   go_enter Tryz.func214,Tryz.ntmps214
   go_wp2_with fail
   refine (bookCount_any F _ most last tm _ HB.out HL.out).mono ?_
   rintro e w1 ⟨rfl,hb1⟩
   go_wp2_with fail
   refine (bookRoom_any F _ most last tm _ (HB.out.up hb1)).mono ?_
   rintro e w2 ⟨rfl,rfl⟩
   have h4:=(hb1.block b hbs).trans H4.out
   have hc1:w1.cell? ⟨b,1,none⟩=some (.int .i64 last):=by rw [cell_row h4];rfl
   have hc2:w1.cell? ⟨b,2,none⟩=some (.map (some r)):=by rw [cell_row h4];rfl
   have hf1:w1.frozen? ⟨b,1,none⟩=false:=fz_row h4 1
   have h6:=heap_set_same (i:=1) h4 (.int .i64 (last+1))
   have hm:MapIs (w1.setCell ⟨b,1,none⟩ (.int .i64 (last+1))) r (ivs tm):=(H5.out.up hb1).same (G:=(· ≠ b)) (fun k hk=>Below.heap_setCell _ _ _ k hk) (fun e=>hbr e.symm)
   have hch:=(chg_set w1 b 1 (.int .i64 (last+1)) (S:=F) h2)
   go_wp2_with fail
   generalize hW:w1.setCell ⟨b,1,none⟩ (.int .i64 (last+1))=W2 at hm h6 hch ⊢
   obtain ⟨w3,hu,hm3,hT⟩:=(hm.up (w':=W2.drew) (below_drewN (Below.refl _ _) 1)).update (P:=Tryz.prog) Tryz.underlying295 Tryz.underlying3 (last+1) (.int .i64 t)
   have hd1:W2.cell? ⟨b,1,none⟩=some (.int .i64 (last+1)):=by rw [cell_row h6];rfl
   have hd2:W2.cell? ⟨b,2,none⟩=some (.map (some r)):=by rw [cell_row h6];rfl
   have hd3:w3.cell? ⟨b,1,none⟩=some (.int .i64 (last+1)):=(hT.cell _).trans hd1
   have HM3:=Lib.hid hm3
   have HT:=Lib.hid hT
   have H6:=Lib.hid h6
   have HCH:=Lib.hid hch
   have HB1:=Lib.hid hb1
   clear hm hm3 hT h6 hch hb1 h4 hc1 hc2 hf1 hW
   go_region
   all_goals go_wp2
   go_ret2
   rw [ivs_set,aset_new HK.out.fresh] at HM3
   have hb6:w3.heap[b]? = some (.cells #[.int .i64 most,.int .i64 (last+1),.map (some r)] 297 (0,0)):=by
    rw [HT.out.block b hbr];exact H6.out
   refine .inr ⟨HOK.out,rfl,⟨⟨b,r,rfl,h2,h3,hb6,HM3.out⟩,?_,?_⟩,?_⟩
   ·refine hd.of_size ?_
    have z1:=HB1.out.size
    have z2:=HCH.out.size
    have z3:=HT.out.size
    simp at z3
    omega
   ·intro x hx
    rcases List.mem_append.1 hx with hx | hx
    ·exact HR.out x hx
    ·obtain rfl:=List.mem_singleton.1 hx
     simp only [I64]
     omega
   ·exact ((Chg.of_below HB1.out (fun k h1 h2=>by omega)).trans HCH.out).trans (Chg.after_up (below_drewN (Below.refl _ _) 1) (HT.out.chg (S:=F) h3))
end Go.Proofs
namespace Go.Proofs
open Go.RowKit Sc
theorem Keyed.snoc {last t:Int} {tm:List (Int × Int)} (h:Keyed last tm) (hl:last < 1000000) (hn:tm.length < 1000000):Keyed (last+1) (tm++[(last+1,t)]):=by
 obtain ⟨h1,h2,h3,h4⟩:=h
 refine ⟨by omega,by omega,fun x hx=>?_,by simp;omega⟩
 rcases List.mem_append.1 hx with hx | hx
 ·have:=h3 x hx;omega
 ·obtain rfl:=List.mem_singleton.1 hx
  show 1≤last+1∧last+1≤last+1
  omega
end Go.Proofs
namespace Go.Proofs
open Go.RowKit Sc
def BookA (v:Value) (most last:Int) (tm:List (Int × Int)):Asn:=⟨fun F w=>BookIs F w v most last tm,fun _ _ _ hs hz h=>h.same hs hz⟩
def openLast (most last:Int) (tm:List (Int × Int)) (t:Int):Int:=if OpenOk most tm t=0 then last+1 else last
def openTm (most last:Int) (tm:List (Int × Int)) (t:Int):List (Int × Int):=if OpenOk most tm t=0 then tm++[(last+1,t)] else tm
theorem bookOpen_sep {W w:World} {L:List Asn} (h:Sep W L w) (i:Nat) {v:Value} {most last:Int} {tm:List (Int × Int)} (hi:L[i]? = some (BookA v most last tm)) (hk:Keyed last tm) (t:Int) :
  Calls Tryz.prog 214 #[v,.int .i64 t] w fun e w'=>e=.returned (.tuple #[.int .i64 (if OpenOk most tm t=0 then last+1 else 0),.int .i64 (OpenOk most tm t)])∧Sep W (L.set i (BookA v most (openLast most last tm t) (openTm most last tm t))) w':=by
 obtain ⟨F,G,hF,_,_,_,_,K⟩:=h.at i hi
 refine (bookOpen_any F v most last tm t w hF hk).mono ?_
 rintro e w' (⟨h0,rfl,hb⟩ | ⟨h0,rfl,hm,hc⟩)
 ·refine ⟨by rw [if_neg h0],?_⟩
  have h2:=h.up hb
  unfold openLast openTm
  rw [if_neg h0,if_neg h0]
  have:L.set i (BookA v most last tm)=L:=by
   obtain ⟨hl,he⟩:=List.getElem?_eq_some_iff.1 hi
   rw [← he];exact List.set_getElem_self hl
  rw [this];exact h2
 ·refine ⟨by rw [if_pos h0,h0],?_⟩
  unfold openLast openTm
  rw [if_pos h0,if_pos h0]
  exact K w' F (BookA v most (last+1) (tm++[(last+1,t)])) hc (fun k hk=>.inl hk) hm
theorem bookClose_sep {W w:World} {L:List Asn} (h:Sep W L w) (i:Nat) {v:Value} {most last:Int} {tm:List (Int × Int)} (hi:L[i]? = some (BookA v most last tm)) (n:Int) :
  Calls Tryz.prog 163 #[v,.int .i64 n] w fun e w'=>e=.returned (.int .i64 (if (alook tm n).isSome then 0 else 14))∧Sep W (L.set i (BookA v most last (adel tm n))) w':=by
 obtain ⟨F,G,hF,_,_,_,_,K⟩:=h.at i hi
 refine (bookClose_any F v most last tm n w hF).mono ?_
 rintro e w' ⟨rfl,hm,hc,_⟩
 exact ⟨rfl,K w' F (BookA v most last (adel tm n)) hc (fun k hk=>.inl hk) hm⟩
theorem bookNew_sep {W w:World} {L:List Asn} (h:Sep W L w) (most:Int) :
  Calls Tryz.prog 141 #[.int .i64 most] w fun e w'=>∃ b:Nat,e=.returned (.pointer (some ⟨b,0,none⟩))∧Sep W (L++[BookA (.pointer (some ⟨b,0,none⟩)) most 0 []]) w':=by
 refine (bookNew_any most w).mono ?_
 rintro e w' ⟨v,rfl,hm,hb⟩
 have:=h.new hb (BookA v most 0 []) (fun _ h=>h) hm
 obtain ⟨⟨b,r,rfl,_⟩,_⟩:=hm
 exact ⟨b,rfl,this⟩
theorem Keyed.del {last:Int} {tm:List (Int × Int)} (h:Keyed last tm) (n:Int):Keyed last (adel tm n) :=
 ⟨h.lo,h.hi,fun x hx=>h.ks x ((adel_sublist tm n).subset hx),Nat.le_trans (adel_sublist tm n).length_le h.ln⟩
end Go.Proofs
namespace Go.Proofs
open Go.RowKit Sc
theorem extNew_sep {W w:World} {L:List Asn} (h:Sep W L w) (n:Int) (h1:1≤n) (h2:n≤1048576) :
  Calls Tryz.prog 140 #[.int .i64 n] w fun e w'=>∃ b:Nat,e=.returned (.tuple #[.pointer (some ⟨b,0,none⟩),.int .i64 0])∧Sep W (L++[ExtA (.pointer (some ⟨b,0,none⟩)) n 0 []]) w':=by
 refine (extNew_any n w h1 h2).mono ?_
 rintro e w' ⟨v,rfl,hm,hb⟩
 have:=h.new hb (ExtA v n 0 []) (fun _ h=>h) hm
 obtain ⟨b,r,ml,D,rfl,_⟩:=hm.parts
 exact ⟨b,rfl,this⟩
theorem extApply_sep {W w:World} {L:List Asn} (h:Sep W L w) (i:Nat) {v tv:Value} {blocks last:Int} {vs:Vers} (hi:L[i]? = some (ExtA v blocks last vs)) (h1:1≤blocks) (t:Tx) (ht:∀ G,Sc.Rest L i G w→TxAt G w tv t)
  (hln:∀ k l,alook vs k=some l→l.length≤1000000) (hpl:t.puts.length≤1000000) :
  Calls Tryz.prog 106 #[v,tv] w fun e w'=>e=.returned (.int .i64 (applyCode blocks last t))∧Sep W (L.set i (ExtA v blocks (applyLast blocks last t) (applyNext blocks last vs t))) w':=by
 obtain ⟨F,G,hF,hR,hFG,hdF,hdG,K⟩:=h.at i hi
 refine (extApply_any F G v tv blocks last vs t w hF h1 (ht G hR) hdG hFG hln hpl).mono ?_
 rintro e w' ⟨rfl,hc,hm⟩
 exact ⟨rfl,K w' _ (ExtA v blocks (applyLast blocks last t) (applyNext blocks last vs t)) hc (fun k hk=>hk) hm⟩
theorem data_sz (k:Int):(dataB k).length=40:=dataB_length k
end Go.Proofs
namespace Sc
open Go Go.RowKit
def StarA (Ls:List Asn):Asn:=⟨fun F w=>∃ Fs:Nat→Foot,(∀ i k,Fs i k→F k)∧(∀ i j k,i≠j→Fs i k→¬ Fs j k)∧∀ i (A:Asn),Ls[i]? = some A→A.P (Fs i) w,
 fun _ _ _ hs hz ⟨Fs,h1,h2,h3⟩=>⟨Fs,h1,h2,fun i A hA=>A.loc _ _ _ (hs.mono fun k hk=>h1 i k hk) hz (h3 i A hA)⟩⟩
def OL (L:List Asn) (i:Nat) (Ls:List Asn):List Asn:=L.set i TrueA++Ls
theorem OL_get {L Ls:List Asn} {i k:Nat}:(OL L i Ls)[L.length+k]? = Ls[k]? := by
 unfold OL
 rw [List.getElem?_append_right (by rw [List.length_set];omega),List.length_set,Nat.add_sub_cancel_left]
theorem OL_set {L Ls:List Asn} {i k:Nat} {A:Asn}:(OL L i Ls).set (L.length+k) A=OL L i (Ls.set k A):=by
 unfold OL
 rw [List.set_append_right _ _ (by rw [List.length_set];omega),List.length_set,Nat.add_sub_cancel_left]
theorem OL_app {L Ls Cs:List Asn} {i:Nat}:OL L i Ls++Cs=OL L i (Ls++Cs):=by unfold OL;rw [List.append_assoc]
theorem OL_len {L Ls:List Asn} {i:Nat}:(OL L i Ls).length=L.length+Ls.length:=by unfold OL;rw [List.length_append,List.length_set]
theorem OL_old {L Ls:List Asn} {i j:Nat} (hj:j < L.length) (hne:j≠i):(OL L i Ls)[j]? = L[j]? := by
 unfold OL
 rw [List.getElem?_append_left (by rw [List.length_set];exact hj),List.getElem?_set_ne (fun e=>hne e.symm)]
theorem Rest_OL {L Ls:List Asn} {i k:Nat} {G:Foot} {w:World} (h:Rest (OL L i Ls) (L.length+k) G w):Rest L i G w:=fun j A hj hA=>by
 have hl:=(List.getElem?_eq_some_iff.1 hA).1
 exact h j A (by omega) ((OL_old hl hj).trans hA)
theorem Sep.openStar {W w:World} {L Ls:List Asn} (h:Sep W L w) (i:Nat) (hi:L[i]? = some (StarA Ls)):Sep W (OL L i Ls) w:=by
 obtain ⟨hg,Fs,h1,h2,h3⟩:=h
 obtain ⟨Gs,g1,g2,g3⟩:=h3 i _ hi
 have hil:=(List.getElem?_eq_some_iff.1 hi).1
 refine ⟨hg,fun j k=>if j < L.length then j≠i∧Fs j k else Gs (j - L.length) k,?_,?_,?_⟩
 ·intro j k hk
  by_cases hj:j < L.length
  ·simp only [hj,if_true] at hk;exact h1 j k hk.2
  ·simp only [hj,if_false] at hk;exact h1 i k (g1 _ k hk)
 ·intro j j' k hjj hk hk'
  by_cases hj:j < L.length <;> by_cases hj':j' < L.length
  ·simp only [hj,hj',if_true] at hk hk';exact h2 j j' k hjj hk.2 hk'.2
  ·simp only [hj,hj',if_true,if_false] at hk hk';exact h2 j i k hk.1 hk.2 (g1 _ k hk')
  ·simp only [hj,hj',if_true,if_false] at hk hk';exact h2 j' i k hk'.1 hk'.2 (g1 _ k hk)
  ·simp only [hj,hj',if_false] at hk hk';exact g2 _ _ k (by omega) hk hk'
 ·intro j A hA
  by_cases hj:j < L.length
  ·simp only [hj,if_true]
   by_cases hji:j=i
   ·subst hji
    unfold OL at hA
    rw [List.getElem?_append_left (by rw [List.length_set];exact hj),List.getElem?_set_self hj] at hA
    cases hA;trivial
   ·rw [OL_old hj hji] at hA
    have:=h3 j A hA
    exact A.loc _ _ _ (fun k _=>rfl) (Nat.le_refl _) (by
     have e:(fun k=>j≠i∧Fs j k)=Fs j:=by funext k;simp [hji]
     show A.P (fun k=>j≠i∧Fs j k) w
     rw [e];exact this)
  ·simp only [hj,if_false]
   have:=OL_get (L:=L) (Ls:=Ls) (i:=i) (k:=j - L.length)
   rw [show L.length+(j - L.length)=j by omega,hA] at this
   exact g3 _ A this.symm
theorem Sep.closeStar {W w:World} {L Ls:List Asn} {i:Nat} (h:Sep W (OL L i Ls) w) (hi:i < L.length):Sep W (L.set i (StarA Ls)) w:=by
 obtain ⟨hg,Fs,h1,h2,h3⟩:=h
 refine ⟨hg,fun j k=>if j=i then ∃ q,q < Ls.length∧Fs (L.length+q) k else j < L.length∧Fs j k,?_,?_,?_⟩
 ·intro j k hk
  by_cases hj:j=i
  ·simp only [hj,if_true] at hk
   obtain ⟨q,_,hk⟩:=hk
   exact h1 _ k hk
  ·simp only [hj,if_false] at hk;exact h1 j k hk.2
 ·intro j j' k hjj hk hk'
  by_cases hj:j=i <;> by_cases hj':j'=i
  ·exact hjj (hj.trans hj'.symm)
  ·simp only [hj,hj',if_true,if_false] at hk hk'
   obtain ⟨q,_,hk⟩:=hk
   exact h2 _ j' k (by omega) hk hk'.2
  ·simp only [hj,hj',if_true,if_false] at hk hk'
   obtain ⟨q,_,hk'⟩:=hk'
   exact h2 j _ k (by omega) hk.2 hk'
  ·simp only [hj,hj',if_false] at hk hk'
   exact h2 j j' k hjj hk.2 hk'.2
 ·intro j A hA
  by_cases hj:j=i
  ·subst hj
   rw [List.getElem?_set_self hi] at hA
   cases hA
   simp only [if_true]
   refine ⟨fun q k=>q < Ls.length∧Fs (L.length+q) k,fun q k hk=>⟨q,hk.1,hk.2⟩,fun q q' k hqq hk hk'=>h2 _ _ k (by omega) hk.2 hk'.2,fun q A hA=>?_⟩
   have hq:=(List.getElem?_eq_some_iff.1 hA).1
   have:=h3 (L.length+q) A (OL_get.trans hA)
   have e:(fun k=>q < Ls.length∧Fs (L.length+q) k)=Fs (L.length+q):=by funext k;simp [hq]
   show A.P (fun k=>q < Ls.length∧Fs (L.length+q) k) w
   rw [e];exact this
  ·rw [List.getElem?_set_ne (fun e=>hj e.symm)] at hA
   have hjl:=(List.getElem?_eq_some_iff.1 hA).1
   have:=h3 j A ((OL_old hjl hj).trans hA)
   simp only [hj,if_false]
   have e:(fun k=>j < L.length∧Fs j k)=Fs j:=by funext k;simp [hjl]
   rw [e];exact this
theorem StarA.sub {Ls Ms:List Asn} {F:Foot} {w:World} (f:Nat→Nat) (hf:∀ i j,i < Ms.length→j < Ms.length→f i=f j→i=j) (hM:∀ i (B:Asn),Ms[i]? = some B→∃ A,Ls[f i]? = some A∧∀ G,A.P G w→B.P G w) (h:(StarA Ls).P F w):(StarA Ms).P F w:=by
 obtain ⟨Fs,h1,h2,h3⟩:=h
 refine ⟨fun i k=>i < Ms.length∧Fs (f i) k,fun i k hk=>h1 _ k hk.2,fun i j k hij hk hk'=>h2 _ _ k (fun e=>hij (hf i j hk.1 hk'.1 e)) hk.2 hk'.2,fun i B hB=>?_⟩
 obtain ⟨A,hA,hAB⟩:=hM i B hB
 have hi:=(List.getElem?_eq_some_iff.1 hB).1
 have e:(fun k=>i < Ms.length∧Fs (f i) k)=Fs (f i):=by funext k;simp [hi]
 show B.P (fun k=>i < Ms.length∧Fs (f i) k) w
 rw [e]
 exact hAB _ (h3 _ A hA)
end Sc
namespace Go.Proofs
open Go.RowKit Sc
abbrev pt (b:Nat):Value:=.pointer (some ⟨b,0,none⟩)
structure TxS where
 st:Int
 tm:Int
 cd:Int
 at':Int
 buf:List (Int × Bytes)
 S:List Ext
 R:List Sc.Read
structure TxC where
 tb:Nat
 bb:Nat
 sb:Nat
 vb:Nat
structure MgS where
 blocks:Int
 last0:Int
 vs:Vers
 lastH:Int
 tmb:List (Int × Int)
 txs:List TxS
 queue:List Int
 out:Int
 num:Int
 base:Int
 last:Int
 given:Int
 ro:Bool
structure MgC where
 mb:Nat
 m:Nat
 bk:Nat
 r:Nat
 qv:Value
 cs:List TxC
def txItems (m:Nat) (blocks:Int) (c:TxC) (t:TxS):List Asn :=
 [BoxA c.tb #[.int .i64 t.st,.int .i64 t.tm,.int .i64 t.cd,.int .i64 t.at',pt c.bb,pt c.vb] 180,
  BufA (pt c.bb) blocks 16 t.buf,SetA (pt c.sb) 64 t.S,ViewA (pt c.vb) (pt m) (pt c.bb) t.at' (pt c.sb) t.R]
def MapA (r:Nat) (ml:List (Int × Value)):Asn:=⟨fun F w=>F r∧MapIs w r ml,fun _ _ _ hs _ h=>⟨h.1,h.2.same hs h.1⟩⟩
def mlOf (cs:List TxC):List (Int × Value):=(List.range cs.length).map fun i:Nat=>(((i:Int)+1),pt (cs[i]?.getD ⟨0,0,0,0⟩).tb)
def mgrRow (c:MgC) (s:MgS):Array Value:=#[pt c.m,pt c.bk,.map (some c.r),c.qv,.int .i64 s.out,.int .i64 s.num,.int .i64 s.base,.int .i64 s.last,.int .i64 s.given,.bool s.ro]
def mgrHead (c:MgC) (s:MgS):List Asn :=
 [BoxA c.mb (mgrRow c s) 176,ExtA (pt c.m) s.blocks s.last0 s.vs,BookA (pt c.bk) 16 s.lastH s.tmb,MapA c.r (mlOf c.cs),RowA 3 1 c.qv s.queue.length (s.queue.map (Value.int .i64))]
def txList (c:MgC) (s:MgS):List (List Asn):=List.zipWith (txItems c.m s.blocks) c.cs s.txs
def mgrItems (c:MgC) (s:MgS):List Asn:=mgrHead c s++(txList c s).flatten
def MgrA (v:Value) (s:MgS):Asn:=⟨fun F w=>∃ c:MgC,v=pt c.mb∧c.cs.length=s.txs.length∧(StarA (mgrItems c s)).P F w,fun F w w' hs hz ⟨c,h1,h2,h3⟩=>⟨c,h1,h2,(StarA (mgrItems c s)).loc F w w' hs hz h3⟩⟩
theorem OL_again {L Ls:List Asn} {i:Nat} {X:Asn}:OL (L.set i X) i Ls=OL L i Ls:=by unfold OL;rw [List.set_set]
theorem MgrA.opened {W w:World} {L:List Asn} (h:Sep W L w) (i:Nat) {v:Value} {s:MgS} (hi:L[i]? = some (MgrA v s)):∃ c:MgC,v=pt c.mb∧c.cs.length=s.txs.length∧Sep W (OL L i (mgrItems c s)) w:=by
 obtain ⟨F,G,⟨c,h1,h2,h3⟩,_,_,_,_,K⟩:=h.at i hi
 have hil:=(List.getElem?_eq_some_iff.1 hi).1
 have:=K w F (StarA (mgrItems c s)) (Chg.refl _ _) (fun k hk=>.inl hk) h3
 have:=this.openStar i (List.getElem?_set_self hil)
 rw [OL_again] at this
 exact ⟨c,h1,h2,this⟩
theorem MgrA.closed {W w:World} {L:List Asn} {i:Nat} {c:MgC} {s:MgS} (h:Sep W (OL L i (mgrItems c s)) w) (hi:i < L.length) (hc:c.cs.length=s.txs.length):Sep W (L.set i (MgrA (pt c.mb) s)) w:=by
 have h1:=h.closeStar hi
 have h2:=h1.imp i (A:=StarA (mgrItems c s)) (A':=MgrA (pt c.mb) s) (List.getElem?_set_self hi) fun F _ hP=>⟨c,rfl,hc,hP⟩
 rw [List.set_set] at h2
 exact h2
theorem flat4_get {l:List (List Asn)} (h4:∀ x∈l,x.length=4):∀ {i:Nat} (hi:i < l.length) (j:Nat),j < 4→l.flatten[4 * i+j]? = l[i][j]? := by
 induction l with
 | nil=>intro i hi;simp at hi
 | cons x t ih =>
  intro i hi j hj
  have hx:=h4 x (by simp)
  rw [List.flatten_cons]
  cases i with
  | zero=>rw [List.getElem?_append_left (by omega)];simp
  | succ i =>
   rw [List.getElem?_append_right (by omega),hx,show 4 * (i+1)+j - 4=4 * i+j by omega]
   exact ih (fun y hy=>h4 y (List.mem_cons_of_mem _ hy)) (by simpa using hi) j hj
theorem flat4_set {l:List (List Asn)} (h4:∀ x∈l,x.length=4):∀ {i:Nat} (hi:i < l.length) (j:Nat),j < 4→∀ A:Asn,l.flatten.set (4 * i+j) A=(l.set i (l[i].set j A)).flatten:=by
 induction l with
 | nil=>intro i hi;simp at hi
 | cons x t ih =>
  intro i hi j hj A
  have hx:=h4 x (by simp)
  cases i with
  | zero =>
   rw [List.flatten_cons,List.set_append_left _ _ (by omega)]
   simp
  | succ i =>
   rw [List.flatten_cons,List.set_append_right _ _ (by omega),hx,show 4 * (i+1)+j - 4=4 * i+j by omega,ih (fun y hy=>h4 y (List.mem_cons_of_mem _ hy)) (by simpa using hi) j hj A]
   simp
section
variable {c:MgC} {s:MgS}
theorem txList_len (hc:c.cs.length=s.txs.length):(txList c s).length=s.txs.length:=by unfold txList;rw [List.length_zipWith,hc,Nat.min_self]
theorem txList_four:∀ x∈txList c s,x.length=4:=by
 intro x hx
 unfold txList at hx
 rw [List.mem_iff_getElem] at hx
 obtain ⟨i,hi,rfl⟩:=hx
 rw [List.getElem_zipWith];rfl
theorem txList_get (hc:c.cs.length=s.txs.length) {k:Nat} (hk:k < s.txs.length):(txList c s)[k]'(by rw [txList_len hc];exact hk)=txItems c.m s.blocks (c.cs[k]'(by omega)) s.txs[k]:=by unfold txList;rw [List.getElem_zipWith]
theorem items_tx (hc:c.cs.length=s.txs.length) {k:Nat} (hk:k < s.txs.length) (j:Nat) (hj:j < 4):(mgrItems c s)[5+(4 * k+j)]? = (txItems c.m s.blocks (c.cs[k]'(by omega)) s.txs[k])[j]? := by
 unfold mgrItems
 rw [List.getElem?_append_right (by show 5≤_;omega),show 5+(4 * k+j) - (mgrHead c s).length=4 * k+j by show 5+(4 * k+j) - 5=_;omega,flat4_get txList_four (by rw [txList_len hc];exact hk) j hj,txList_get hc hk]
theorem items_head (j:Nat) (hj:j < 5):(mgrItems c s)[j]? = (mgrHead c s)[j]? := by
 unfold mgrItems
 rw [List.getElem?_append_left (by show j < 5;exact hj)]
theorem zip_set {α β γ:Type} (f:α→β→γ):∀ (xs:List α) (bs:List β) (k:Nat) (ha:k < xs.length) (b:β),List.zipWith f xs (bs.set k b)=(List.zipWith f xs bs).set k (f xs[k] b)
 | [],_,_,ha,_=>by simp at ha
 | _ :: _,[],_,_,_=>by simp
 | a :: xs,y :: bs,0,_,b=>by simp
 | a :: xs,y :: bs,k+1,ha,b=>by
  rw [List.set_cons_succ,List.zipWith_cons_cons,zip_set f xs bs k (by simpa using ha) b,List.zipWith_cons_cons,List.set_cons_succ];rfl
theorem txList_upd (hc:c.cs.length=s.txs.length) {k:Nat} (hk:k < s.txs.length) (t':TxS):txList c { s with txs:=s.txs.set k t' }=(txList c s).set k (txItems c.m s.blocks (c.cs[k]'(by omega)) t'):=by
 unfold txList
 exact zip_set (txItems c.m s.blocks) c.cs s.txs k (by omega) t'
theorem items_upd (hc:c.cs.length=s.txs.length) {k:Nat} (hk:k < s.txs.length) (t':TxS) (j:Nat) (hj:j < 4) (A:Asn) (hA:(txItems c.m s.blocks (c.cs[k]'(by omega)) s.txs[k]).set j A=txItems c.m s.blocks (c.cs[k]'(by omega)) t') :
  (mgrItems c s).set (5+(4 * k+j)) A=mgrItems c { s with txs:=s.txs.set k t' }:=by
 unfold mgrItems
 rw [List.set_append_right _ _ (by show 5≤_;omega),show 5+(4 * k+j) - (mgrHead c s).length=4 * k+j by show 5+(4 * k+j) - 5=_;omega,flat4_set txList_four (by rw [txList_len hc];exact hk) j hj,txList_get hc hk,hA,txList_upd hc hk]
 rfl
end
end Go.Proofs
namespace Go.Proofs
open Go.RowKit Sc
theorem gone_any (b m:Nat) (w:World) (h0:w.cell? ⟨b,0,none⟩=some (.pointer (some ⟨m,0,none⟩))):Calls Tryz.prog 90 #[.pointer (some ⟨b,0,none⟩)] w fun e w'=>e=.returned (.bool false)∧w=w':=by
 go_enter Tryz.func90,Tryz.ntmps90
 go_wp2
 go_ret
 exact ⟨rfl,rfl⟩
section
variable {W w:World} {L:List Asn} {i:Nat} {c:MgC} {s:MgS}
theorem mgr_heap (h:Sep W (OL L i (mgrItems c s)) w):w.heap[c.mb]? = some (.cells (mgrRow c s) 176 (0,0)):=by
 obtain ⟨F,hF,_⟩:=h.get (L.length+0) (OL_get.trans (items_head 0 (by omega)))
 exact hF.2
theorem mgr_cells (h:Sep W (OL L i (mgrItems c s)) w):w.cell? ⟨c.mb,0,none⟩=some (.pointer (some ⟨c.m,0,none⟩))∧w.cell? ⟨c.mb,1,none⟩=some (.pointer (some ⟨c.bk,0,none⟩))∧w.cell? ⟨c.mb,2,none⟩=some (.map (some c.r))∧w.cell? ⟨c.mb,3,none⟩=some c.qv∧w.cell? ⟨c.mb,4,none⟩=some (.int .i64 s.out) ∧
  w.cell? ⟨c.mb,5,none⟩=some (.int .i64 s.num)∧w.cell? ⟨c.mb,6,none⟩=some (.int .i64 s.base)∧w.cell? ⟨c.mb,7,none⟩=some (.int .i64 s.last)∧w.cell? ⟨c.mb,8,none⟩=some (.int .i64 s.given)∧w.cell? ⟨c.mb,9,none⟩=some (.bool s.ro):=by
 have hh:=mgr_heap h
 refine ⟨?_,?_,?_,?_,?_,?_,?_,?_,?_,?_⟩ <;> rw [cell_row hh] <;> rfl
theorem mgr_map (h:Sep W (OL L i (mgrItems c s)) w):MapIs w c.r (mlOf c.cs):=by
 obtain ⟨F,hF,_⟩:=h.get (L.length+3) (OL_get.trans (items_head 3 (by omega)))
 exact hF.2
theorem mgr_queue (h:Sep W (OL L i (mgrItems c s)) w):∃ p cp,c.qv=.slice p s.queue.length cp∧s.queue.length≤cp:=by
 obtain ⟨F,hF,_⟩:=h.get (L.length+4) (OL_get.trans (items_head 4 (by omega)))
 obtain ⟨_,⟨e,hn⟩ | ⟨g,cap,cur,e,_,_,hc,_⟩⟩:=hF.1
 ·exact ⟨none,0,by rw [e,hn],by omega⟩
 ·exact ⟨_,_,e,hc⟩
theorem tx_heap (h:Sep W (OL L i (mgrItems c s)) w) (hc:c.cs.length=s.txs.length) {k:Nat} (hk:k < s.txs.length):w.heap[(c.cs[k]'(by omega)).tb]? = some (.cells #[.int .i64 s.txs[k].st,.int .i64 s.txs[k].tm,.int .i64 s.txs[k].cd,.int .i64 s.txs[k].at',pt (c.cs[k]'(by omega)).bb,pt (c.cs[k]'(by omega)).vb] 180 (0,0)):=by
 obtain ⟨F,hF,_⟩:=h.get (L.length+(5+(4 * k+0))) (OL_get.trans (items_tx hc hk 0 (by omega)))
 exact hF.2
theorem look_ml {cs:List TxC} {k:Nat} (hk:k < cs.length):alook (mlOf cs) ((k:Int)+1)=some (pt cs[k].tb):=by
 have key:∀ (l:List Nat),l.Nodup→k∈l→alook (l.map fun i:Nat=>(((i:Int)+1),pt (cs[i]?.getD ⟨0,0,0,0⟩).tb)) ((k:Int)+1)=some (pt cs[k].tb):=by
  intro l
  induction l with
  | nil=>intro _ h;cases h
  | cons a t ih =>
   intro hn hm
   rw [List.map_cons]
   by_cases ha:a=k
   ·subst ha
    simp [alook,hk]
   ·have hne:¬ ((a:Int)+1=((k:Int)+1)):=by omega
    simp only [alook,hne,if_false]
    exact ih (List.nodup_cons.1 hn).2 ((List.mem_cons.1 hm).resolve_left fun e=>ha e.symm)
 exact key _ List.nodup_range (List.mem_range.2 hk)
theorem look_ml_no {cs:List TxC} {h:Int} (hh:¬ (1≤h∧h≤cs.length)):alook (mlOf cs) h=none:=by
 rw [alook_none]
 intro x hx e
 obtain ⟨q,hq,rfl⟩:=List.mem_map.1 hx
 have:=List.mem_range.1 hq
 simp only at e
 omega
def openB (s:MgS) (h:Int):Bool:=decide (1≤h) && decide (h≤s.txs.length) && ((s.txs[(h - 1).toNat]?).any fun t=>t.st == 1)
theorem openB_at {s:MgS} {k:Nat} (hk:k < s.txs.length):openB s ((k:Int)+1)=(s.txs[k].st == 1):=by
 unfold openB
 rw [decide_eq_true (by omega),decide_eq_true (by omega),show ((k:Int)+1 - 1).toNat=k by omega,List.getElem?_eq_getElem hk];rfl
theorem openB_no {s:MgS} {h:Int} (hh:¬ (1≤h∧h≤s.txs.length)):openB s h=false:=by
 unfold openB
 by_cases h1:1≤h
 ·rw [decide_eq_false (show ¬ h≤s.txs.length from fun e=>hh ⟨h1,e⟩)];simp
 ·rw [decide_eq_false h1];rfl
def OpenTold (c:MgC) (s:MgS) (n:Int) (w:World) (e:Ending) (w':World):Prop :=
 w'=w∧((openB s n=false∧e=.returned (.pointer none))∨∃ k:Nat,∃ hk:k < s.txs.length,∃ hk':k < c.cs.length,n=((k:Int)+1)∧s.txs[k].st=1∧e=.returned (.pointer (some ⟨c.cs[k].tb,0,none⟩)))
set_option maxRecDepth 100000 in
set_option maxHeartbeats 1000000 in
theorem open_core (h:Hid (Sep W (OL L i (mgrItems c s)) w)) (hc:c.cs.length=s.txs.length) (n:Int) :
  Calls Tryz.prog 218 #[.pointer (some ⟨c.mb,0,none⟩),.int .i64 n] w (OpenTold c s n w):=by
 obtain ⟨c0,c1,c2,c3,c4,c5,c6,c7,c8,c9⟩:=mgr_cells h.out
 have hl:=(mgr_map h.out).lookup Tryz.underlying174 Tryz.underlying3 (Tryz.zeroValue170 w) n true
 by_cases hin:1≤n∧n≤s.txs.length
 case neg =>
  rw [look_ml_no (by rw [hc];exact hin)] at hl
  simp only [Option.getD_none,Option.isSome_none,if_true] at hl
  have HN:=Lib.hid (openB_no hin)
  clear hin c1 c3 c4 c5 c6 c7 c8 c9
  go_enter Tryz.func218,Tryz.ntmps218
  go_wp2_with fail
  refine (gone_any c.mb c.m _ c0).mono ?_
  rintro e w1 ⟨rfl,rfl⟩
  go_wp2
  go_ret
  exact ⟨rfl,.inl ⟨HN.out,rfl⟩⟩
 case pos =>
  obtain ⟨k,hk⟩:∃ k:Nat,n=((k:Int)+1):=⟨(n - 1).toNat,by omega⟩
  subst hk
  have hks:k < s.txs.length:=by omega
  have hkc:k < c.cs.length:=by omega
  rw [look_ml hkc] at hl
  simp only [Option.getD_some,Option.isSome_some,if_true] at hl
  have hth:=tx_heap h.out hc hks
  have t0:w.cell? ⟨(c.cs[k]).tb,0,none⟩=some (.int .i64 s.txs[k].st):=by rw [cell_row hth];rfl
  have hob:=openB_at hks
  have HR:Hid (s.txs[k].st=1→OpenTold c s ((k:Int)+1) w (.returned (.pointer (some ⟨c.cs[k].tb,0,none⟩))) w):=fun e=>⟨rfl,.inr ⟨k,hks,hkc,rfl,e,rfl⟩⟩
  have HOB:=Lib.hid hob
  clear hob
  clear hth hin c1 c3 c4 c5 c6 c7 c8 c9
  generalize (c.cs[k]).tb=tb at *
  generalize s.txs[k].st=st at *
  clear hks
  have HKC:=Lib.hid hkc
  clear hkc
  by_cases h1:st=1
  ·subst h1
   go_enter Tryz.func218,Tryz.ntmps218
   go_wp2_with fail
   refine (gone_any c.mb c.m _ c0).mono ?_
   rintro e w1 ⟨rfl,rfl⟩
   go_wp2
   go_ret
   exact HR.out (by first | rfl | trivial)
  ·have h1b:(st != 1)=true:=by rw [bne_iff_ne];exact h1
   have HB:Hid (openB s ((k:Int)+1)=false):=by show _=_;rw [HOB.out,beq_eq_false_iff_ne];exact h1
   clear h1
   go_enter Tryz.func218,Tryz.ntmps218
   go_wp2_with fail
   refine (gone_any c.mb c.m _ c0).mono ?_
   rintro e w1 ⟨rfl,rfl⟩
   go_wp2
   go_ret
   exact ⟨rfl,.inl ⟨HB.out,rfl⟩⟩
theorem last_core (h:Hid (Sep W (OL L i (mgrItems c s)) w)):Calls Tryz.prog 148 #[.pointer (some ⟨c.mb,0,none⟩)] w fun e w'=>e=.returned (.int .i64 s.last)∧w'=w:=by
 obtain ⟨c0,c1,c2,c3,c4,c5,c6,c7,c8,c9⟩:=mgr_cells h.out
 go_enter Tryz.func148,Tryz.ntmps148
 go_wp2_with fail
 refine (gone_any c.mb c.m _ c0).mono ?_
 rintro e w1 ⟨rfl,rfl⟩
 go_wp2
 go_ret
 exact ⟨rfl,rfl⟩
theorem queue_core (h:Hid (Sep W (OL L i (mgrItems c s)) w)):Calls Tryz.prog 191 #[.pointer (some ⟨c.mb,0,none⟩)] w fun e w'=>e=.returned (.int .i64 s.queue.length)∧w'=w:=by
 obtain ⟨c0,c1,c2,c3,c4,c5,c6,c7,c8,c9⟩:=mgr_cells h.out
 obtain ⟨qp,qc,hq,_⟩:=mgr_queue h.out
 rw [hq] at c3
 go_enter Tryz.func191,Tryz.ntmps191
 go_wp2_with fail
 refine (gone_any c.mb c.m _ c0).mono ?_
 rintro e w1 ⟨rfl,rfl⟩
 go_wp2
 go_ret
 exact ⟨rfl,rfl⟩
end
end Go.Proofs
namespace Go.Proofs
open Go.RowKit Sc
instance instTxS:Inhabited TxS:=⟨⟨0,0,0,0,[],[],[]⟩⟩
def txOf (s:MgS) (n:Int):TxS:=(s.txs[(n - 1).toNat]?).getD default
def setTx (s:MgS) (n:Int) (t:TxS):MgS:={ s with txs:=s.txs.set (n - 1).toNat t }
theorem txOf_at {s:MgS} {k:Nat} (hk:k < s.txs.length):txOf s ((k:Int)+1)=s.txs[k]:=by
 unfold txOf
 rw [show ((k:Int)+1 - 1).toNat=k by omega,List.getElem?_eq_getElem hk];rfl
theorem setTx_at {s:MgS} {k:Nat} (t:TxS):setTx s ((k:Int)+1) t={ s with txs:=s.txs.set k t }:=by
 unfold setTx
 rw [show ((k:Int)+1 - 1).toNat=k by omega]
theorem setTx_len (s:MgS) (n:Int) (t:TxS):(setTx s n t).txs.length=s.txs.length:=by unfold setTx;exact List.length_set ..
def wrCode (s:MgS) (n:Int) (l:List Put):Int:=if openB s n=true then bufCode s.blocks 16 (txOf s n).buf l else 5
def wrNext (s:MgS) (n:Int) (l:List Put):MgS:=if openB s n=true then setTx s n { txOf s n with buf:=bufNext s.blocks 16 (txOf s n).buf l } else s
section
variable {W w:World} {L:List Asn} {i:Nat} {c:MgC} {s:MgS}
set_option maxRecDepth 100000 in
set_option maxHeartbeats 1000000 in
theorem write_core (h:Hid (Sep W (OL L i (mgrItems c s)) w)) (hc:c.cs.length=s.txs.length) (n:Int) (lv:Value) (l:List Put) (hl:∀ G,Sc.Rest L i G w→PutsAt G w lv l) (n0:∀ t∈s.txs,t.buf.length≤1000000) (n1:l.length≤1000000) :
  Calls Tryz.prog 157 #[.pointer (some ⟨c.mb,0,none⟩),.int .i64 n,lv] w fun e w'=>e=.returned (.int .i64 (wrCode s n l))∧Hid (Sep W (OL L i (mgrItems c (wrNext s n l))) w'):=by
 have HL:=Lib.hid hl
 have HN:=Lib.hid n0
 clear hl n0
 go_enter Tryz.func157,Tryz.ntmps157
 go_wp2_with fail
 refine (open_core h hc n).mono ?_
 rintro e w1 ⟨rfl,⟨ho,rfl⟩ | ⟨k,hks,hkc,rfl,hst,rfl⟩⟩
 ·have HO:Hid (wrCode s n l=5∧wrNext s n l=s):=⟨by unfold wrCode;rw [ho];rfl,by unfold wrNext;rw [ho];rfl⟩
  clear ho
  go_wp2
  go_ret
  exact ⟨by rw [HO.out.1];rfl,by rw [HO.out.2];exact h⟩
 ·have hth:=tx_heap h.out hc hks
  have t4:w1.cell? ⟨(c.cs[k]).tb,4,none⟩=some (.pointer (some ⟨(c.cs[k]).bb,0,none⟩)):=by rw [cell_row hth];rfl
  have ho:openB s ((k:Int)+1)=true:=by rw [openB_at hks,hst];rfl
  have HO:Hid (wrCode s ((k:Int)+1) l=bufCode s.blocks 16 s.txs[k].buf l∧wrNext s ((k:Int)+1) l={ s with txs:=s.txs.set k { s.txs[k] with buf:=bufNext s.blocks 16 s.txs[k].buf l } }) :=
   ⟨by unfold wrCode;rw [ho,txOf_at hks];rfl,by unfold wrNext;rw [ho,txOf_at hks,setTx_at];rfl⟩
  have hw:=bufWrite_sep h.out (L.length+(5+(4 * k+1))) (OL_get.trans (items_tx hc hks 1 (by omega))) l (fun G hG=>HL.out G (Rest_OL hG)) (HN.out _ (List.getElem_mem hks)) n1
  have HU:Hid ((OL L i (mgrItems c s)).set (L.length+(5+(4 * k+1))) (BufA (pt (c.cs[k]).bb) s.blocks 16 (bufNext s.blocks 16 s.txs[k].buf l))=OL L i (mgrItems c { s with txs:=s.txs.set k { s.txs[k] with buf:=bufNext s.blocks 16 s.txs[k].buf l } })):=by
   show _=_
   rw [OL_set,items_upd hc hks { s.txs[k] with buf:=bufNext s.blocks 16 s.txs[k].buf l } 1 (by omega) _ rfl]
  have HW:=Lib.hid hw
  clear hw
  clear hth ho hst
  go_wp2_with fail
  refine (HW.out).mono ?_
  rintro e w2 ⟨rfl,hs2⟩
  have hs3:=hs2
  rw [HU.out] at hs3
  have HS3:=Lib.hid hs3
  clear hs2 hs3
  go_wp2
  go_ret
  exact ⟨by rw [HO.out.1];rfl,by rw [HO.out.2];exact HS3⟩
def resOf (s:MgS) (n:Int):Int × Int × Int:=if 1≤n∧n≤s.txs.length then ((txOf s n).st,(txOf s n).tm,(txOf s n).cd) else (0,0,0)
set_option maxRecDepth 100000 in
set_option maxHeartbeats 1000000 in
theorem result_core (h:Hid (Sep W (OL L i (mgrItems c s)) w)) (hc:c.cs.length=s.txs.length) (n:Int) :
  Calls Tryz.prog 221 #[.pointer (some ⟨c.mb,0,none⟩),.int .i64 n] w fun e w'=>e=.returned (.tuple #[.int .i64 (resOf s n).1,.int .i64 (resOf s n).2.1,.int .i64 (resOf s n).2.2])∧Below w.heap.size w w':=by
 obtain ⟨c0,c1,c2,c3,c4,c5,c6,c7,c8,c9⟩:=mgr_cells h.out
 have hl:=(mgr_map h.out).lookup Tryz.underlying174 Tryz.underlying3 (Tryz.zeroValue170 w) n true
 by_cases hin:1≤n∧n≤s.txs.length
 case neg =>
  rw [look_ml_no (by rw [hc];exact hin)] at hl
  simp only [Option.getD_none,Option.isSome_none,if_true] at hl
  have HN:Hid (resOf s n=(0,0,0)):=if_neg hin
  clear hin c1 c3 c4 c5 c6 c7 c8 c9
  go_enter Tryz.func221,Tryz.ntmps221
  go_wp2_with fail
  refine (gone_any c.mb c.m _ c0).mono ?_
  rintro e w1 ⟨rfl,rfl⟩
  go_wp2
  go_ret3
  exact ⟨by rw [HN.out];rfl,Below.refl _ _⟩
 case pos =>
  obtain ⟨k,hk⟩:∃ k:Nat,n=(k:Int)+1:=⟨(n - 1).toNat,by omega⟩
  subst hk
  have hks:k < s.txs.length:=by omega
  have hkc:k < c.cs.length:=by omega
  rw [look_ml hkc] at hl
  simp only [Option.getD_some,Option.isSome_some,if_true] at hl
  have hth:=tx_heap h.out hc hks
  have t0:w.cell? ⟨(c.cs[k]).tb,0,none⟩=some (.int .i64 s.txs[k].st):=by rw [cell_row hth];rfl
  have t1:w.cell? ⟨(c.cs[k]).tb,1,none⟩=some (.int .i64 s.txs[k].tm):=by rw [cell_row hth];rfl
  have t2:w.cell? ⟨(c.cs[k]).tb,2,none⟩=some (.int .i64 s.txs[k].cd):=by rw [cell_row hth];rfl
  have HR:Hid (resOf s ((k:Int)+1)=(s.txs[k].st,s.txs[k].tm,s.txs[k].cd)):=by
   show _=_
   unfold resOf
   rw [if_pos hin,txOf_at hks]
  clear hth hin c1 c3 c4 c5 c6 c7 c8 c9
  generalize (c.cs[k]).tb=tb at *
  generalize s.txs[k].st=st at *
  generalize s.txs[k].tm=tm at *
  generalize s.txs[k].cd=cd at *
  clear hks hkc
  go_enter Tryz.func221,Tryz.ntmps221
  go_wp2_with fail
  refine (gone_any c.mb c.m _ c0).mono ?_
  rintro e w1 ⟨rfl,rfl⟩
  go_wp2_with fail
  go_quiet (fail)
  go_wp2
  go_ret3
  exact ⟨by rw [HR.out];rfl,below_drewN (Below.refl _ _) _⟩
end
end Go.Proofs
namespace Sc
open Go Go.RowKit
theorem frozen_row0 {w:World} {b:Nat} {cs:Array Value} {T:TypeId} (h:w.heap[b]? = some (.cells cs T (0,0))) (o:Nat):w.frozen? ⟨b,o,none⟩=false:=by simp [World.frozen?,h]
theorem Sep.box_store {W w:World} {L:List Asn} (h:Sep W L w) (i:Nat) {b:Nat} {cs:Array Value} {T:TypeId} (hi:L[i]? = some (BoxA b cs T)) (j:Nat) (u:Value):Sep W (L.set i (BoxA b (cs.setIfInBounds j u) T)) (w.setCell ⟨b,j,none⟩ u):=by
 obtain ⟨F,G,h1,_,_,_,_,K⟩:=h.at i hi
 exact K _ F (BoxA b (cs.setIfInBounds j u) T) (chg_set w b j u h1.1) (fun k hk=>.inl hk) ⟨h1.1,Go.heap_setCell_same w b j cs T u h1.2⟩
end Sc
namespace Go.Proofs
open Go.RowKit Sc
def endTx (t:TxS) (st cd:Int):TxS:={ t with st:=st,cd:=cd,tm:=if st=4 then 0 else t.tm }
def endNext (s:MgS) (n st cd:Int):MgS:={ setTx s n (endTx (txOf s n) st cd) with tmb:=adel s.tmb n }
section
variable {W w:World} {L:List Asn} {i:Nat} {c:MgC} {s:MgS}
theorem items_book (lastH:Int) (tmb:List (Int × Int)):(mgrItems c s).set 2 (BookA (pt c.bk) 16 lastH tmb)=mgrItems c { s with lastH:=lastH,tmb:=tmb }:=rfl
def txRow (c:TxC) (t:TxS):Array Value:=#[.int .i64 t.st,.int .i64 t.tm,.int .i64 t.cd,.int .i64 t.at',pt c.bb,pt c.vb]
theorem tx_store (h:Sep W (OL L i (mgrItems c s)) w) (hc:c.cs.length=s.txs.length) {k:Nat} (hk:k < s.txs.length) (j:Nat) (u:Value) (t':TxS) (he:(txRow (c.cs[k]'(by omega)) s.txs[k]).setIfInBounds j u=txRow (c.cs[k]'(by omega)) t') (e1:t'.buf=s.txs[k].buf) (e2:t'.S=s.txs[k].S) (e3:t'.R=s.txs[k].R) (e4:t'.at'=s.txs[k].at') :
  Sep W (OL L i (mgrItems c { s with txs:=s.txs.set k t' })) (w.setCell ⟨(c.cs[k]'(by omega)).tb,j,none⟩ u):=by
 have h1:=h.box_store (cs:=txRow (c.cs[k]'(by omega)) s.txs[k]) (L.length+(5+(4 * k+0))) (OL_get.trans (items_tx hc hk 0 (by omega))) j u
 rw [he,OL_set,items_upd hc hk t' 0 (by omega) (BoxA (c.cs[k]'(by omega)).tb (txRow (c.cs[k]'(by omega)) t') 180) (by
  have eb:BufA (pt (c.cs[k]'(by omega)).bb) s.blocks 16 t'.buf=BufA (pt (c.cs[k]'(by omega)).bb) s.blocks 16 s.txs[k].buf:=by rw [e1]
  have es:SetA (pt (c.cs[k]'(by omega)).sb) 64 t'.S=SetA (pt (c.cs[k]'(by omega)).sb) 64 s.txs[k].S:=by rw [e2]
  have ev:ViewA (pt (c.cs[k]'(by omega)).vb) (pt c.m) (pt (c.cs[k]'(by omega)).bb) t'.at' (pt (c.cs[k]'(by omega)).sb) t'.R=ViewA (pt (c.cs[k]'(by omega)).vb) (pt c.m) (pt (c.cs[k]'(by omega)).bb) s.txs[k].at' (pt (c.cs[k]'(by omega)).sb) s.txs[k].R:=by rw [e3,e4]
  show [_,_,_,_]=[_,_,_,_]
  rw [eb,es,ev];rfl)] at h1
 exact h1
theorem tx_cells (h:Sep W (OL L i (mgrItems c s)) w) (hc:c.cs.length=s.txs.length) {k:Nat} (hk:k < s.txs.length):(∀ j,w.cell? ⟨(c.cs[k]'(by omega)).tb,j,none⟩=(txRow (c.cs[k]'(by omega)) s.txs[k])[j]?)∧∀ j,w.frozen? ⟨(c.cs[k]'(by omega)).tb,j,none⟩=false:=by
 have hth:=tx_heap h hc hk
 exact ⟨fun j=>by rw [cell_row hth];rfl,fun j=>frozen_row0 hth j⟩
set_option maxRecDepth 100000 in
set_option maxHeartbeats 2000000 in
theorem end_core (h:Hid (Sep W (OL L i (mgrItems c s)) w)) (hc:c.cs.length=s.txs.length) {k:Nat} (hks:k < s.txs.length) (st cd:Int) :
  Calls Tryz.prog 105 #[.pointer (some ⟨c.mb,0,none⟩),.int .i64 ((k:Int)+1),.int .i64 st,.int .i64 cd] w fun e w'=>e=.returned (.tuple #[])∧Hid (Sep W (OL L i (mgrItems c (endNext s ((k:Int)+1) st cd))) w'):=by
 have hkc:k < c.cs.length:=by omega
 have hm:=mgr_map h.out
 have hl:=hm.lookup Tryz.underlying174 Tryz.underlying3 (Tryz.zeroValue170 w) ((k:Int)+1) false
 rw [look_ml hkc] at hl
 simp only [Option.getD_some,Bool.false_eq_true,if_false] at hl
 obtain ⟨c0,c1,c2,c3,c4,c5,c6,c7,c8,c9⟩:=mgr_cells h.out
 have hth:=tx_heap h.out hc hks
 have hcl:=tx_cells h.out hc hks
 have t0:=hcl.1 0
 have t1:=hcl.1 1
 have t2:=hcl.1 2
 have f0:=hcl.2 0
 have f1:=hcl.2 1
 have f2:=hcl.2 2
 change _=some (Value.int .i64 s.txs[k].st) at t0
 change _=some (Value.int .i64 s.txs[k].tm) at t1
 change _=some (Value.int .i64 s.txs[k].cd) at t2
 have HE:Hid (endNext s ((k:Int)+1) st cd={ s with txs:=s.txs.set k (endTx s.txs[k] st cd),tmb:=adel s.tmb ((k:Int)+1) }):=by
  show _=_
  unfold endNext
  rw [txOf_at hks,setTx_at]
 have hS1:=tx_store h.out hc hks 0 (Value.int .i64 st) { s.txs[k] with st:=st } rfl rfl rfl rfl rfl
 have hc1:c.cs.length=(s.txs.set k { s.txs[k] with st:=st }).length:=by rw [hc,List.length_set]
 have hS2:=tx_store hS1 hc1 (k:=k) (by simpa using hks) 2 (Value.int .i64 cd) { s.txs[k] with st:=st,cd:=cd } (by simp [txRow]) (by simp) (by simp) (by simp) (by simp)
 simp only [List.set_set] at hS2
 have hc2:c.cs.length=(s.txs.set k { s.txs[k] with st:=st,cd:=cd }).length:=by rw [hc,List.length_set]
 by_cases h4:st=4
 ·subst h4
  have hS3:=tx_store hS2 hc2 (k:=k) (by simpa using hks) 1 (Value.int .i64 0) { s.txs[k] with st:=4,cd:=cd,tm:=0 } (by simp [txRow]) (by simp) (by simp) (by simp) (by simp)
  simp only [List.set_set] at hS3
  have hb:=bookClose_sep hS3 (L.length+2) (v:=pt c.bk) (most:=16) (last:=s.lastH) (tm:=s.tmb) (OL_get.trans (items_head 2 (by omega))) ((k:Int)+1)
  rw [OL_set,items_book] at hb
  obtain ⟨_,d1,_⟩:=mgr_cells hS3
  have HB:=Lib.hid hb
  have he4:endTx s.txs[k] 4 cd={ s.txs[k] with st:=4,cd:=cd,tm:=0 }:=rfl
  rw [← he4] at HB
  clear hb hS1 hS2 hS3 hth hcl hm c0 c3 c4 c5 c6 c7 c8 c9
  generalize (c.cs[k]).tb=tb at *
  clear hc1 hc2 hkc
  go_enter Tryz.func105,Tryz.ntmps105
  go_wp2_with fail
  refine (HB.out).mono ?_
  rintro e w' ⟨rfl,hs⟩
  have HS:=Lib.hid hs
  clear hs
  generalize (if (alook s.tmb ((k:Int)+1)).isSome then (0:Int) else 14)=code
  go_wp2
  go_end0
  exact ⟨rfl,by rw [HE.out];exact HS⟩
 ·have hb:=bookClose_sep hS2 (L.length+2) (v:=pt c.bk) (most:=16) (last:=s.lastH) (tm:=s.tmb) (OL_get.trans (items_head 2 (by omega))) ((k:Int)+1)
  rw [OL_set,items_book] at hb
  obtain ⟨_,d1,_⟩:=mgr_cells hS2
  have HB:=Lib.hid hb
  have he4:endTx s.txs[k] st cd={ s.txs[k] with st:=st,cd:=cd }:=by unfold endTx;rw [if_neg h4]
  rw [← he4] at HB
  clear hb hS1 hS2 hth hcl hm c0 c3 c4 c5 c6 c7 c8 c9 t1 f1
  generalize (c.cs[k]).tb=tb at *
  clear hc1 hc2 hkc he4
  go_enter Tryz.func105,Tryz.ntmps105
  go_wp2_with fail
  refine (HB.out).mono ?_
  rintro e w' ⟨rfl,hs⟩
  have HS:=Lib.hid hs
  clear hs
  generalize (if (alook s.tmb ((k:Int)+1)).isSome then (0:Int) else 14)=code
  go_wp2
  go_end0
  exact ⟨rfl,by rw [HE.out];exact HS⟩
def abCode (s:MgS) (n:Int):Int:=if openB s n=true then 0 else 5
def abNext (s:MgS) (n:Int):MgS:=if openB s n=true then endNext s n 4 0 else s
set_option maxRecDepth 100000 in
set_option maxHeartbeats 2000000 in
theorem abort_core (h:Hid (Sep W (OL L i (mgrItems c s)) w)) (hc:c.cs.length=s.txs.length) (n:Int) :
  Calls Tryz.prog 158 #[.pointer (some ⟨c.mb,0,none⟩),.int .i64 n] w fun e w'=>e=.returned (.int .i64 (abCode s n))∧Hid (Sep W (OL L i (mgrItems c (abNext s n))) w'):=by
 go_enter Tryz.func158,Tryz.ntmps158
 go_wp2_with fail
 refine (open_core h hc n).mono ?_
 rintro e w1 ⟨rfl,⟨ho,rfl⟩ | ⟨k,hks,hkc,rfl,hst,rfl⟩⟩
 ·have HO:Hid (abCode s n=5∧abNext s n=s):=⟨by unfold abCode;rw [ho];rfl,by unfold abNext;rw [ho];rfl⟩
  clear ho
  go_wp2
  go_ret
  exact ⟨by rw [HO.out.1];rfl,by rw [HO.out.2];exact h⟩
 ·have ho:openB s ((k:Int)+1)=true:=by rw [openB_at hks,hst];rfl
  have HO:Hid (abCode s ((k:Int)+1)=0∧abNext s ((k:Int)+1)=endNext s ((k:Int)+1) 4 0):=⟨by unfold abCode;rw [ho];rfl,by unfold abNext;rw [ho];rfl⟩
  have HW:=Lib.hid (end_core h hc hks 4 0)
  clear ho hst
  go_wp2_with fail
  refine (HW.out).mono ?_
  rintro e w2 ⟨rfl,hs2⟩
  go_wp2
  go_ret
  exact ⟨by rw [HO.out.1];rfl,by rw [HO.out.2];exact hs2⟩
end
end Go.Proofs
namespace Go.Proofs
open Go.RowKit Sc
def nVers (vs:Vers):Nat:=(vs.map fun x=>x.2.length).sum
theorem al_len {R:Value→List Put→Prop}:∀ {m:List (Int × Value)} {vs:Vers},AL R m vs→m.length=vs.length
 | [],[],_=>rfl
 | _ :: m,_ :: vs,h=>by
  obtain ⟨_,h3⟩:=h
  have:=al_len (R:=R) h3
  simp [this]
 | [],_ :: _,h=>h.elim
 | _ :: _,[],h=>h.elim
end Go.Proofs
namespace Go.Proofs
open Go.RowKit Sc
section
variable {W w:World} {L:List Asn} {i:Nat} {c:MgC} {s:MgS}
set_option maxRecDepth 100000 in
set_option maxHeartbeats 1000000 in
theorem count_core (h:Hid (Sep W (OL L i (mgrItems c s)) w)) (hl:s.tmb.length≤1000000) :
  Calls Tryz.prog 190 #[.pointer (some ⟨c.mb,0,none⟩)] w fun e w'=>e=.returned (.int .i64 s.tmb.length)∧Below w.heap.size w w':=by
 obtain ⟨c0,c1,c2,c3,c4,c5,c6,c7,c8,c9⟩:=mgr_cells h.out
 obtain ⟨F,hF,_⟩:=h.out.get (L.length+2) (OL_get.trans (items_head 2 (by omega)))
 have HK:=Lib.hid (bookCount_any F (pt c.bk) 16 s.lastH s.tmb w hF hl)
 clear hF c2 c3 c4 c5 c6 c7 c8 c9
 go_enter Tryz.func190,Tryz.ntmps190
 go_wp2_with fail
 refine (gone_any c.mb c.m _ c0).mono ?_
 rintro e w1 ⟨rfl,rfl⟩
 go_wp2_with fail
 refine (HK.out).mono ?_
 rintro e w2 ⟨rfl,hb⟩
 have HB:=Lib.hid hb
 clear hb
 go_wp2
 go_ret
 exact ⟨rfl,HB.out⟩
theorem items_row (s':MgS) (h1:s'.blocks=s.blocks) (h2:s'.last0=s.last0) (h3:s'.vs=s.vs) (h4:s'.lastH=s.lastH) (h5:s'.tmb=s.tmb) (h6:s'.txs=s.txs) (h7:s'.queue=s.queue) :
  (mgrItems c s).set 0 (BoxA c.mb (mgrRow c s') 176)=mgrItems c s':=by
 cases s;cases s'
 simp only at h1 h2 h3 h4 h5 h6 h7
 subst h1;subst h2;subst h3;subst h4;subst h5;subst h6;subst h7
 rfl
theorem mgr_store (h:Sep W (OL L i (mgrItems c s)) w) (j:Nat) (u:Value) (s':MgS) (he:(mgrRow c s).setIfInBounds j u=mgrRow c s') (h1:s'.blocks=s.blocks) (h2:s'.last0=s.last0) (h3:s'.vs=s.vs) (h4:s'.lastH=s.lastH) (h5:s'.tmb=s.tmb) (h6:s'.txs=s.txs) (h7:s'.queue=s.queue) :
  Sep W (OL L i (mgrItems c s')) (w.setCell ⟨c.mb,j,none⟩ u):=by
 have h1:=h.box_store (cs:=mgrRow c s) (L.length+0) (OL_get.trans (items_head 0 (by omega))) j u
 rw [he,OL_set,items_row s' ‹_› h2 h3 h4 h5 h6 h7] at h1
 exact h1
theorem mgr_free (h:Sep W (OL L i (mgrItems c s)) w) (j:Nat):w.frozen? ⟨c.mb,j,none⟩=false:=frozen_row0 (mgr_heap h) j
set_option maxRecDepth 100000 in
set_option maxHeartbeats 1000000 in
theorem readOnly_core (h:Hid (Sep W (OL L i (mgrItems c s)) w)) (b:Bool) :
  Calls Tryz.prog 89 #[.pointer (some ⟨c.mb,0,none⟩),.bool b] w fun e w'=>e=.returned (.tuple #[])∧Hid (Sep W (OL L i (mgrItems c { s with ro:=b })) w'):=by
 obtain ⟨c0,c1,c2,c3,c4,c5,c6,c7,c8,c9⟩:=mgr_cells h.out
 have f9:=mgr_free h.out 9
 have HS:=Lib.hid (mgr_store h.out 9 (.bool b) { s with ro:=b } rfl rfl rfl rfl rfl rfl rfl rfl)
 clear c1 c2 c3 c4 c5 c6 c7 c8
 go_enter Tryz.func89,Tryz.ntmps89
 go_wp2_with fail
 refine (gone_any c.mb c.m _ c0).mono ?_
 rintro e w1 ⟨rfl,rfl⟩
 go_wp2
 go_end0
 exact ⟨rfl,HS⟩
end
end Go.Proofs
namespace Go.Proofs
open Go.RowKit Sc
theorem ret_cell_tmp {P:Program} {fn:Func} {R:Ending→World→Prop} {a:Act} {w:World} {p u:Tmp} {ty t:TypeId} {b:Nat} {cs:Array Value} {fr:Nat × Nat} {d:TypeDesc}
  (h:fn.results=#[.cell p ty,.tmp u]) (hp:a.tmps.getD p undef=.pointer (some ⟨b,0,none⟩)) (hg:w.heap[b]? = some (.cells cs t fr))
  (hu:P.underlying ty=some d) (hd:(match d with | .struct _ | .array _ _=>true | _=>false)=true) (hi:(P.info? ty).map (·.size)=some cs.size) (hf:a.defers=[])
  (hR:R (.returned (.tuple #[.agg cs,a.tmps.getD u undef])) w):bodyPost P fn R .ret a w:=by
 refine ⟨hf,_,?_,hR⟩
 rw [results_cell_tmp h,hp]
 simp only [asAddr,Sem.run_pure,Result.andThen_ok,run_loadVar_row w b t ty cs fr d hg hu hd hi]
end Go.Proofs
namespace Go.Proofs
open Go.RowKit Sc
def mgNew (blocks last:Int):MgS:=⟨blocks,0,[],0,[],[],[],0,0,last,last,last,false⟩
set_option maxRecDepth 100000 in
set_option maxHeartbeats 2000000 in
theorem mgrNew_sep {W w:World} {L:List Asn} (h:Hid (Sep W L w)) (blocks last:Int) (h1:1≤blocks) (h2:blocks≤1048576) (h3:0≤last) (h4:last≤1099511627776) :
  Calls Tryz.prog 80 #[.int .i64 blocks,.int .i64 last] w fun e w'=>∃ b:Nat,e=.returned (.tuple #[.pointer (some ⟨b,0,none⟩),.int .i64 0])∧Hid (Sep W (L++[MgrA (pt b) (mgNew blocks last)]) w'):=by
 have hmm:=@run_makeMap Tryz.prog
 have hT:=h.out.new (Below.refl _ _) TrueA (F:=fun _=>False) (fun _ h=>h.elim) trivial
 have HE:=Lib.hid (extNew_sep hT blocks h1 h2)
 clear hT
 go_enter Tryz.func80,Tryz.ntmps80
 go_wp2_with fail
 refine (HE.out).mono ?_
 rintro e w1 ⟨m,rfl,hs1⟩
 have HB:=Lib.hid (bookNew_sep hs1 16)
 clear hs1 HE
 go_wp2_with fail
 refine (HB.out).mono ?_
 rintro e w2 ⟨bk,rfl,hs2⟩
 have HS2:=Lib.hid hs2
 clear hs2
 clear HB
 go_wp2
 go_ret2
 refine ⟨w2.heap.size+1,rfl,?_⟩
 let c:MgC:=⟨w2.heap.size+1,m,bk,w2.heap.size,.slice none 0 0,[]⟩
 have s1:=HS2.out.new (below_alloc w2 (.map #[] 0)) (MapA w2.heap.size []) (F:=New w2 (w2.alloc (.map #[] 0))) (fun _ h=>h) ⟨⟨Nat.le_refl _,by simp⟩,MapIs.made w2⟩
 have s2:=s1.new (below_alloc _ (.cells (mgrRow c (mgNew blocks last)) 176)) (BoxA (w2.alloc (.map #[] 0)).heap.size (mgrRow c (mgNew blocks last)) 176) (F:=New _ ((w2.alloc (.map #[] 0)).alloc (.cells (mgrRow c (mgNew blocks last)) 176))) (fun _ h=>h) ⟨⟨Nat.le_refl _,by simp⟩,heap_alloc_new _ _⟩
 have s3:=s2.new (Below.refl _ _) TrueA (F:=fun _=>False) (fun _ h=>h.elim) trivial
 rw [show (w2.alloc (.map #[] 0)).heap.size=w2.heap.size+1 by simp] at s3
 have s4:Sep W (OL (L++[TrueA]) L.length [ExtA (pt m) blocks 0 [],BookA (pt bk) 16 0 [],MapA w2.heap.size [],BoxA (w2.heap.size+1) (mgrRow c (mgNew blocks last)) 176,TrueA]) ((w2.alloc (.map #[] 0)).alloc (.cells (mgrRow c (mgNew blocks last)) 176)):=by
  have e:OL (L++[TrueA]) L.length [ExtA (pt m) blocks 0 [],BookA (pt bk) 16 0 [],MapA w2.heap.size [],BoxA (w2.heap.size+1) (mgrRow c (mgNew blocks last)) 176,TrueA]=L++[TrueA]++[ExtA (pt m) blocks 0 []]++[BookA (pt bk) 16 0 []]++[MapA w2.heap.size []]++[BoxA (w2.heap.size+1) (mgrRow c (mgNew blocks last)) 176]++[TrueA]:=by
   unfold OL
   rw [List.set_append_right _ _ (Nat.le_refl _),Nat.sub_self]
   simp
  rw [e]
  exact s3
 have s5:=s4.closeStar (by simp)
 have s6:=s5.imp L.length (A':=MgrA (pt (w2.heap.size+1)) (mgNew blocks last)) (List.getElem?_set_self (by simp)) fun F _ hP=>by
  refine ⟨c,rfl,rfl,StarA.sub (fun i=>match i with | 0=>3 | 1=>0 | 2=>1 | 3=>2 | i+4=>i+4) ?_ ?_ hP⟩
  ·intro i j hi hj
   have hi':i < 5:=hi
   have hj':j < 5:=hj
   match i,j,hi',hj' with
   | 0,0,_,_ | 0,1,_,_ | 0,2,_,_ | 0,3,_,_ | 0,4,_,_
   | 1,0,_,_ | 1,1,_,_ | 1,2,_,_ | 1,3,_,_ | 1,4,_,_
   | 2,0,_,_ | 2,1,_,_ | 2,2,_,_ | 2,3,_,_ | 2,4,_,_
   | 3,0,_,_ | 3,1,_,_ | 3,2,_,_ | 3,3,_,_ | 3,4,_,_
   | 4,0,_,_ | 4,1,_,_ | 4,2,_,_ | 4,3,_,_ | 4,4,_,_=>intro h;simp at h ⊢
  ·intro i B hB
   match i with
   | 0=>cases hB;exact ⟨_,rfl,fun _ h=>h⟩
   | 1=>cases hB;exact ⟨_,rfl,fun _ h=>h⟩
   | 2=>cases hB;exact ⟨_,rfl,fun _ h=>h⟩
   | 3=>cases hB;exact ⟨_,rfl,fun _ h=>h⟩
   | 4=>cases hB;exact ⟨_,rfl,fun G _=>⟨World.ownsRow_nil _ _ _ _,by simp [Value.ownBlock]⟩⟩
   | i+5=>cases hB
 rw [List.set_set,List.set_append_right _ _ (Nat.le_refl _),Nat.sub_self] at s6
 exact Lib.hid s6
end Go.Proofs
