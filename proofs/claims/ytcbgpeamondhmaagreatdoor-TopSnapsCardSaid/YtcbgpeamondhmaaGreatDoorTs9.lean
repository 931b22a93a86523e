/- Texts of this claim, one behind the other: BitsO, ConcatB, RegH2, Zeros, FrameO, Slot1, Slot2, Store1, HistFar, Store2, Mount, Mount2, Text. -/
import Derived.Test.YtcbgpeamondhmaaGreatDoorTs8
namespace Go.Proofs
open Go.RowKit Sc
theorem u8_some (x:Int):∃ b:UInt8,x % 256=(b.toNat:Int):=by
 refine ⟨UInt8.ofNat (x % 256).toNat,?_⟩
 rw [UInt8.toNat_ofNat']
 omega
theorem ownsRow_base0 {w:World} {B T k n:Nat} {v:Value} {xs:List Value} (h:w.ownsRow B T k v n xs):w.ownsRow 0 T k v n xs :=
 ⟨h.1,h.2.imp id fun ⟨g,cap,cur,e1,_,e2⟩=>⟨g,cap,cur,e1,Nat.zero_le _,e2⟩⟩
theorem Sep.rowFresh {W w:World} {L:List Asn} (h:Sep W (OldA W :: L) w) (i:Nat) {T k n:Nat} {v:Value} {xs:List Value} (hi:L[i]? = some (RowA T k v n xs)):w.ownsRow W.heap.size T k v n xs:=by
 obtain ⟨F,G,h1,h2,hd,_⟩:=h.two (i+1) 0 (by omega) (A:=RowA T k v n xs) (B:=OldA W) hi rfl
 refine ⟨h1.1.1,h1.1.2.imp id fun ⟨g,cap,cur,e1,_,e2⟩=>⟨g,cap,cur,e1,?_,e2⟩⟩
 rcases Nat.lt_or_ge g W.heap.size with hh | hh
 ·exact absurd (h2.1 g hh) (hd g (h1.2 g (by rw [e1];rfl)))
 ·exact hh
def NewN (n:Nat) (w:World) (e:Ending) (w':World):Prop:=∃ p c,e=.returned (.slice p n c)∧(∃ l:Bytes,l.length=n∧BytesW (New w w') w' (.slice p n c) l)∧Below w.heap.size w w'
def NewO (n:Nat) (w:World) (e:Ending) (w':World):Prop:=∃ g c,e=.returned (.slice (some ⟨g,0,none⟩) n c)∧(∃ l:Bytes,l.length=n∧w'.ownsRow w.heap.size 5 1 (.slice (some ⟨g,0,none⟩) n c) n (l.map fun x=>Value.int .u8 (x.toNat:Int)))∧Below w.heap.size w w'
theorem NewO.new {n:Nat} {w:World} {e:Ending} {w':World} (h:NewO n w e w'):NewN n w e w':=by
 obtain ⟨g,c,rfl,⟨l,hl,ho⟩,hb⟩:=h
 exact ⟨_,_,rfl,⟨l,hl,bytesW_own _ hl (fun q h1 h2=>⟨h1,h2⟩) ho⟩,hb⟩
set_option maxRecDepth 100000 in
set_option maxHeartbeats 1000000 in
theorem put_own (x:Int) (n:Nat) (hn:n≤8) (h1:1≤n) (w:World):Calls Tryz.prog 210 #[.int .u64 x,.int .i64 n] w (NewO n w):=by
 obtain ⟨i0,hi,hz0,hz1,hz2⟩:=info_parts infoU8
 go_enter Tryz.func210,Tryz.ntmps210
 go_wp2_with (at_make;refine wpList_make_full _ rfl _ _ 40 rfl w.heap.size 5 i0 (.int .u8 0) 1 Tryz.underlying40 hi hz0 hz1 _ _ _ _ n rfl rfl rfl rfl (by rw [hz2];omega) (by unfold maxLen;omega) (Nat.le_refl _) ?_;intro w1 hown hgrow)
 rw [made_u8] at hown
 have hbz:Below w.heap.size w w1:=(Below.refl _ _).grown hgrow (Nat.le_refl _) (fun j hj=>by cases hj)
 have hlt:=hown.lt w.heap.size rfl
 have HS0:=Lib.hid ((Sep.start w).new hbz (RowA 5 1 (.slice (some ⟨w.heap.size,0,none⟩) n n) n ((List.replicate n (0:UInt8)).map fun x=>Value.int .u8 (x.toNat:Int))) (F:=New w w1) (fun _ h=>h) ⟨ownsRow_base0 hown,fun q hq=>by
  obtain rfl:w.heap.size=q:=by simpa [Value.ownBlock] using hq
  exact ⟨Nat.le_refl _,hlt.2⟩⟩)
 have HL0:Hid ((List.replicate n (0:UInt8)).length=n):=List.length_replicate ..
 clear hown hgrow hi hz0 hz1 hz2 hbz hlt
 generalize List.replicate n (0:UInt8)=l0 at *
 go_loopw [11] (fun s11 wr=>∃ k:Nat,∃ l:Bytes,k≤n∧s11=.int .i64 (k:Int)∧Hid (l.length=n)∧Hid (Sep w [OldA w,RowA 5 1 (.slice (some ⟨w.heap.size,0,none⟩) n n) n (l.map fun x=>Value.int .u8 (x.toNat:Int))] wr)) (fun s11 _=>n - (intOf s11).toNat)
 case atStart=>exact ⟨0,l0,by omega,by go_num,HL0,HS0⟩
 case round =>
  obtain ⟨k,l,hk,rfl,HL,HS⟩:=hrel
  clear HS0 HL0
  by_cases hlt:k < n
  case neg =>
   obtain rfl:k=n:=by omega
   go_wp2_with fail
   go_ret
   have hrow:=Go.Proofs.Sep.rowFresh HS.out 0 rfl
   exact ⟨_,_,rfl,⟨l,HL.out,hrow⟩,HS.out.old⟩
  case pos =>
   have hkn:(k:Int) < (n:Int):=by omega
   obtain ⟨F1,hF1,_⟩:=HS.out.get 1 rfl
   have c0:=hF1.1.cellAt k (by omega)
   have f0:=hF1.1.frozenAt k
   rw [List.getElem?_map,List.getElem?_eq_getElem (by rw [HL.out];exact hlt)] at c0
   have hmul:¬ (8 * (k:Int)) < 0:=by omega
   obtain ⟨b,hbv⟩:=u8_some (x / 2 ^ (8 * k))
   have hs2:=HS.out.row_set 1 rfl k (.int .u8 (b.toNat:Int))
   have HS2:Hid (Sep w [OldA w,RowA 5 1 (.slice (some ⟨w.heap.size,0,none⟩) n n) n ((l.set k b).map fun x=>Value.int .u8 (x.toNat:Int))] (wr.setCell ⟨w.heap.size,k,none⟩ (.int .u8 (x / 2 ^ (8 * k) % 256)))):=by
    show Sep _ _ _
    rw [hbv,List.map_set]
    exact hs2
   have HL2:Hid ((l.set k b).length=n):=by show _=_;rw [List.length_set];exact HL.out
   clear hbv hs2 hF1
   go_wp2_with fail
   go_roundw
   case rel=>exact ⟨k+1,l.set k b,by omega,by go_num,HL2,HS2⟩
   case measure=>simp [intOf];omega
theorem put_any (x:Int) (n:Nat) (hn:n≤8) (h1:1≤n) (w:World):Calls Tryz.prog 210 #[.int .u64 x,.int .i64 n] w (NewN n w):=(put_own x n hn h1 w).mono fun _ _ h=>h.new
theorem put32_any (x:Int) (w:World):Calls Tryz.prog 150 #[.int .u32 x] w (NewN 4 w):=by
 go_enter Tryz.func150,Tryz.ntmps150
 go_wp2_with fail
 refine (put_any _ 4 (by omega) (by omega) _).mono ?_
 rintro e w1 ⟨p,c,rfl,hl,hb⟩
 go_wp2_with fail
 go_ret
 exact ⟨p,c,rfl,hl,hb⟩
theorem put64_any (x:Int) (w:World):Calls Tryz.prog 147 #[.int .u64 x] w (NewN 8 w):=by
 go_enter Tryz.func147,Tryz.ntmps147
 go_wp2_with fail
 refine (put_any _ 8 (by omega) (by omega) _).mono ?_
 rintro e w1 ⟨p,c,rfl,hl,hb⟩
 go_wp2_with fail
 go_ret
 exact ⟨p,c,rfl,hl,hb⟩
theorem put64_own (x:Int) (w:World):Calls Tryz.prog 147 #[.int .u64 x] w (NewO 8 w):=by
 go_enter Tryz.func147,Tryz.ntmps147
 go_wp2_with fail
 refine (put_own _ 8 (by omega) (by omega) _).mono ?_
 rintro e w1 ⟨p,c,rfl,hl,hb⟩
 go_wp2_with fail
 go_ret
 exact ⟨p,c,rfl,hl,hb⟩
theorem crcNew_any (w:World):Calls Tryz.prog 274 #[] w fun e w'=>∃ b,e=.returned (pt b)∧Hid (Sep w [OldA w,BoxA b #[.int .u32 0] 401] w'):=by
 have HS:=Lib.hid (Go.Proofs.Sep.boxT (Sep.start w) #[.int .u32 0] 401)
 go_enter Tryz.func274,Tryz.ntmps274
 go_wp2_with fail
 go_ret
 exact ⟨_,rfl,HS.out⟩
set_option maxRecDepth 100000 in
set_option maxHeartbeats 1000000 in
theorem crcAdd_any {W w:World} {L:List Asn} (h:Hid (Sep W L w)) (i:Nat) {b:Nat} {x:Int} (hi:L[i]? = some (BoxA b #[.int .u32 x] 401)) (v:Value) (l:Bytes) (hv:∀ G w',Sc.Rest L i G w'→BytesAt G w' v l) :
  Calls Tryz.prog 275 #[pt b,v] w fun e w'=>e=.returned (pt b)∧∃ y:Int,Hid (Sep W (L.set i (BoxA b #[.int .u32 y] 401)) w'):=by
 obtain ⟨F,G1,hF,hR,_⟩:=h.out.at i hi
 have hb:=hv G1 w hR
 obtain ⟨p,c,rfl,h1,h2,h3,h4⟩:=hb
 have c0:w.cell? ⟨b,0,none⟩=some (.int .u32 x):=by rw [cell_row hF.2];rfl
 have f0:=fz_row hF.2 0
 have H4:=Lib.hid h4
 have HI:=Lib.hid hi
 have HSEP:=h
 clear h3 h4 hF hR hv hi h
 go_enter Tryz.func275,Tryz.ntmps275
 go_wp2_with fail
 go_loop [5,17] (fun s5 s17=>∃ k:Nat,∃ y:Int,k≤l.length∧s17=.int .i64 (k:Int)∧s5=.int .u32 y) (fun _ s17=>l.length - (intOf s17).toNat)
 case atStart=>exact ⟨0,_,by omega,by go_num,rfl⟩
 case round =>
  obtain ⟨k,y,hk,rfl,rfl⟩:=hrel
  by_cases hlt:k < l.length
  case neg =>
   have hkn:¬ (k:Int) < (l.length:Int):=by omega
   have hs9:=fun u=>HSEP.out.box_store i HI.out 0 (.int .u32 u)
   have HS9:=Lib.hid hs9
   clear hs9
   go_wp2_with fail
   go_ret
   exact ⟨rfl,_,HS9.out _⟩
  case pos =>
   have hkn:(k:Int) < (l.length:Int):=by omega
   obtain ⟨bb,o,rfl,_,hc⟩:=H4.out k hlt
   unfold byteE at hc
   rw [Nat.mul_one] at hc
   generalize l[k]=q at *
   go_wp2_with fail
   go_loop [5,25] (fun s5 s25=>∃ j:Nat,∃ y:Int,j≤8∧s25=.int .i64 (j:Int)∧s5=.int .u32 y) (fun _ s25=>8 - (intOf s25).toNat)
   case atStart=>exact ⟨0,_,by omega,by go_num,rfl⟩
   case round =>
    obtain ⟨j,y,hj,rfl,rfl⟩:=hrel
    by_cases hlt:j < 8
    case neg =>
     have hjn:¬ (j:Int) < 8:=by omega
     go_wp2_with fail
     go_round
     case rel=>exact ⟨k+1,_,by omega,by go_num,rfl⟩
     case measure=>simp [intOf];omega
    case pos =>
     have hjn:(j:Int) < 8:=by omega
     go_wp2_with fail
     go_round
     case rel=>exact ⟨j+1,_,by omega,by go_num,rfl⟩
     case measure=>simp [intOf];omega
theorem crcValue_any (b:Nat) (y:Int) (w:World) (c0:w.cell? ⟨b,0,none⟩=some (.int .u32 y)):Calls Tryz.prog 276 #[pt b] w fun e w'=>e=.returned (.int .u32 y)∧w=w':=by
 go_enter Tryz.func276,Tryz.ntmps276
 go_wp2_with fail
 go_ret
 exact ⟨rfl,rfl⟩
theorem crcOf_any (G:Nat→Prop) (v:Value) (l:Bytes) (w:World) (hG:Dom G w) (hv:BytesAt G w v l):Calls Tryz.prog 229 #[v] w fun e w'=>(∃ y:Int,e=.returned (.int .u32 y))∧Hid (Below w.heap.size w w'):=by
 have HV:=Lib.hid hv
 have HGD:=Lib.hid hG
 clear hv hG
 go_enter Tryz.func229,Tryz.ntmps229
 go_wp2_with fail
 refine (crcNew_any _).mono ?_
 rintro e w1 ⟨b,rfl,HS1⟩
 have HA:=Lib.hid (crcAdd_any HS1 1 rfl v l (fun G' w' hR=>by
  obtain ⟨F0,hF0,hO⟩:=hR 0 _ (by decide) rfl
  exact (HV.out.same (HGD.out.same (Below.refl _ _) |>.trans (fun k hk=>hO.2 k (HGD.out k hk)))).mono fun q hq=>hF0 q (hO.1 q (HGD.out q hq))))
 go_wp2_with fail
 refine (HA.out).mono ?_
 rintro e w2 ⟨rfl,y,HS2⟩
 obtain ⟨F,hF,_⟩:=HS2.out.get 1 rfl
 have c0:w2.cell? ⟨b,0,none⟩=some (.int .u32 y):=by rw [cell_row hF.2];rfl
 have HB:=Lib.hid HS2.out.old
 clear hF HA HS1 HS2
 go_wp2_with fail
 refine (crcValue_any b y _ c0).mono ?_
 rintro e w3 ⟨rfl,rfl⟩
 go_wp2_with fail
 go_ret
 exact ⟨⟨y,rfl⟩,HB.out⟩
end Go.Proofs
namespace Go.Proofs
open Go.RowKit Sc
def byV (l:Bytes):List Value:=l.map fun x=>Value.int .u8 (x.toNat:Int)
theorem byV_len (l:Bytes):(byV l).length=l.length:=List.length_map ..
theorem byV_app (a b:Bytes):byV (a++b)=byV a++byV b:=List.map_append ..
theorem byV_one (l:Bytes):∀ u∈byV l,u.oneCell'=true:=by
 intro u hu
 obtain ⟨x,_,rfl⟩:=List.mem_map.1 hu
 rfl
theorem byV_news {G:Nat→Prop} {w:World} {p:Option Addr} {n c:Nat} {l:Bytes} (h:BytesAt G w (.slice p n c) l):∀ a,p=some a→∀ j u,(byV l)[j]? = some u→w.cell? (a.add j)=some u:=by
 rintro a rfl j u hj
 simp only [byV,List.getElem?_map,Option.map_eq_some_iff] at hj
 obtain ⟨x,hx,rfl⟩:=hj
 obtain ⟨hjl,rfl⟩:=List.getElem?_eq_some_iff.1 hx
 obtain ⟨p',c',e,_,_,_,h4⟩:=h
 cases e
 obtain ⟨b',o',hp,_,he⟩:=h4 j hjl
 cases hp
 unfold byteE at he
 rw [Nat.mul_one] at he
 have hadd:(⟨b',o',none⟩:Addr).add j=⟨b',o' + j,none⟩:=by unfold Addr.add;split <;> simp_all
 rw [hadd];exact he
def GrowB (w:World) (e:Ending) (w':World):Prop:=∃ v,e=.returned v∧w'.ownsRow w.heap.size 5 1 v 0 []∧Below w.heap.size w w'
set_option maxRecDepth 100000 in
set_option maxHeartbeats 1000000 in
theorem growB_nil (n:Nat) (w:World) (hn:n≤1000000):Calls Tryz.prog 273 #[.slice none 0 0,.int .i64 n] w (GrowB w):=by
 obtain ⟨i0,hi,hz0,hz1,hz2⟩:=info_parts infoU8
 by_cases h0:n=0
 ·subst h0
  clear hi hz0 hz1 hz2
  go_enter Tryz.func273,Tryz.ntmps273
  go_wp2
  go_ret
  exact ⟨.slice none 0 0,rfl,World.ownsRow_nil _ _ _ _,Below.refl _ _⟩
 ·have hold:(Builtin.firstCells i0.size 0 (.slice none 0 0)).run Tryz.prog w.drew=.ok ([]:List Value).toArray w.drew:=by simp [Builtin.firstCells]
  have hrz:=Lib.run_append_grow_zeros (P:=Tryz.prog) w 40 3 40 5 i0 (.int .u8 0) .i64 .i64 Tryz.underlying40 Tryz.underlying3 hi hz0 none 0 0 [] hold n (by omega) (by omega) (by omega) (by omega) (by rw [hz2];omega) (growslice_fits (by omega) (by rw [hz2];omega))
  rw [Nat.zero_add] at hrz
  have hge:=grownCap_ge w n 0 5
  have hle:=grownCap_le_maxLen w n 0 5 (by unfold maxLen;omega)
  generalize grownCap w n 0 5=C at *
  have hcur:((([]:List Value).toArray++Builtin.zeroCells (Value.int .u8 0).cells n++Builtin.zeroCells (Value.int .u8 0).cells (C - n))).size=C * 1:=by
   simp [Builtin.zeroCells,Value.cells];omega
  generalize (([]:List Value).toArray++Builtin.zeroCells (Value.int .u8 0).cells n++Builtin.zeroCells (Value.int .u8 0).cells (C - n))=cur at *
  have hpos:0 < (n:Int):=by omega
  have hn':(n:Int)≤1000000:=by omega
  have HRZ:=Lib.hid hrz
  have HGE:=Lib.hid hge
  have HLE:=Lib.hid hle
  have HCUR:=Lib.hid hcur
  clear hge hle hcur
  clear hold hrz hi hz0 hz1 hz2 h0
  go_enter Tryz.func273,Tryz.ntmps273
  go_wp2_with (at_builtin;refine Lib.wpList_append_run _ rfl _ _ _ _ rfl _ _ rfl rfl _ _ HRZ.out ?_)
  all_goals
   go_ret
   refine ⟨.slice (some ⟨w.heap.size,0,none⟩) 0 C,rfl,?_,(below_drewN (Below.refl _ w) 1).alloc (Nat.le_refl _) _⟩
   exact World.ownsRow_made w.drew cur C (Nat.le_refl _) HLE.out HCUR.out
def RowB (l:Bytes) (w:World) (e:Ending) (w':World):Prop:=∃ v,e=.returned v∧Hid (w'.ownsRow w.heap.size 5 1 v l.length (byV l))∧Hid (Below w.heap.size w w')
theorem flat_take_le (ls:List Bytes) (k:Nat):(ls.take k).flatten.length≤ls.flatten.length:=by
 conv=>rhs;rw [← List.take_append_drop k ls,List.flatten_append,List.length_append]
 omega
set_option maxRecDepth 100000 in
set_option maxHeartbeats 2000000 in
theorem concatB_any (G:Nat→Prop) (rb:Nat) (m:Nat) (ls:List Bytes) (w:World) (hm:ls.length=m) (hm2:m≤1000) (hat:∀ j (h:j < ls.length),∃ p c,w.cell? ⟨rb,j,none⟩=some (.slice p ls[j].length c)∧BytesAt G w (.slice p ls[j].length c) ls[j]) (hle:ls.flatten.length≤100000) :
  Calls Tryz.prog 228 #[.slice (some ⟨rb,0,none⟩) m m] w (RowB ls.flatten w):=by
 obtain ⟨i0,hi,hz0,hz1,hz2⟩:=info_parts infoU8
 have hsu:∀ k (h:k < ls.length),(ls.take (k+1)).flatten=(ls.take k).flatten++ls[k]:=fun k h=>by rw [take_snoc ls k h,List.flatten_append];simp
 have hsz:∀ k,(ls.take k).flatten.length≤100000:=fun k=>Nat.le_trans (flat_take_le ls k) hle
 have hend:(ls.take m).flatten=ls.flatten:=by rw [← hm,List.take_length]
 have HAT:=Lib.hid hat
 have HSU:=Lib.hid hsu
 have HSZ:=Lib.hid hsz
 have HI:=Lib.hid hi
 have HZ0:=Lib.hid hz0
 have HZ1:=Lib.hid hz1
 have HZ2:=Lib.hid hz2
 have HM:=Lib.hid hm
 have HEND:=Lib.hid hend
 clear hat hsu hsz hi hz0 hz1 hz2 hm hend
 have HLE:=Lib.hid hle
 clear hle
 go_enter Tryz.func228,Tryz.ntmps228
 go_wp2_with fail
 go_loopw [3,11] (fun s i wr=>∃ k n:Nat,k≤m∧i=.int .i64 k∧s=.int .i64 (n:Nat)∧Hid ((ls.take k).flatten.length=n)∧wr=w) (fun _ i _=>m - (intOf i).toNat)
 case atStart=>exact ⟨0,0,by omega,rfl,rfl,rfl,rfl⟩
 case round =>
  obtain ⟨k,n,hk,rfl,rfl,HN,hww⟩:=hrel
  rw [hww]
  clear hww
  have hnb:n≤100000:=by have:=HSZ.out k;rw [HN.out] at this;exact this
  by_cases hlt:k < m
  case pos =>
   have hkm:(k:Int) < (m:Int):=by omega
   obtain ⟨p,c,hc,_⟩:=HAT.out k (by rw [HM.out];exact hlt)
   have hs:=HSU.out k (by rw [HM.out];exact hlt)
   have hl:=congrArg List.length hs
   rw [List.length_append,HN.out] at hl
   have hb2:=HSZ.out (k+1)
   rw [hl] at hb2
   generalize (ls[k]'(by rw [HM.out];exact hlt)).length=q at *
   have hw1:IntKind.i64.wrap ((n:Int)+(q:Int))=(n:Int)+(q:Int):=IntWalk.i64_in _ (by omega)
   have HL:=Lib.hid hl
   have hnn:¬ ((n:Int)+(q:Int)) < 0:=by omega
   clear hs hl
   go_wp2_with fail
   go_roundw
   case rel=>exact ⟨k+1,n+q,by omega,by go_num,by go_num,HL.out,by first | rfl | trivial⟩
   case measure=>simp [intOf];omega
  case neg =>
   obtain rfl:k=m:=by omega
   go_wp2_with fail
   refine (growB_nil n _ (by omega)).mono ?_
   rintro e w1 ⟨v1,rfl,hown1,hb1⟩
   have HOWN1:=Lib.hid hown1
   have HB1:=Lib.hid hb1
   clear hown1 hb1
   clear HN
   go_wp2_with fail
   go_loopw [6,27] (fun vo i wr=>∃ j n:Nat,j≤k∧i=.int .i64 j∧Hid ((ls.take j).flatten.length=n)∧Hid (wr.ownsRow w.heap.size 5 1 vo n (byV (ls.take j).flatten))∧Hid (Below w.heap.size w wr)) (fun _ i _=>k - (intOf i).toNat)
   case atStart=>exact ⟨0,0,by omega,rfl,rfl,HOWN1.out,HB1.out⟩
   case round =>
    obtain ⟨j,n,hj,rfl,HN,HO,HB⟩:=hrel
    have hnb:n≤100000:=by have:=HSZ.out j;rw [HN.out] at this;exact this
    by_cases hlt:j < k
    case neg =>
     obtain rfl:j=k:=by omega
     go_wp2_with fail
     go_ret
     have ho:=HO.out
     have hn:=HN.out
     rw [HEND.out] at ho hn
     rw [← hn] at ho
     exact ⟨_,rfl,ho,HB.out⟩
    case pos =>
     have hjk:(j:Int) < (k:Int):=by omega
     obtain ⟨p,c,hc,hby⟩:=HAT.out j (by rw [HM.out];exact hlt)
     have hc':=cell_up HB.out hc
     have hsrc:=BytesAt.up hby HB.out
     have hs:=HSU.out j (by rw [HM.out];exact hlt)
     have hl:=congrArg List.length hs
     rw [List.length_append,HN.out] at hl
     have hb2:=HSZ.out (j+1)
     rw [hl] at hb2
     generalize (ls[j]'(by rw [HM.out];exact hlt))=q at *
     have hp3:p=none→q.length=0∧c=0:=by
      rintro rfl
      obtain ⟨_,_,hh,h1,h2,h3,_⟩:=hby
      cases hh
      have:=h3 rfl
      omega
     obtain ⟨v',w',hr,hown',hgrow,hat'⟩:=run_append_any (P:=Tryz.prog) wr 40 40 w.heap.size 5 i0 (.int .u8 0) 1 1 Tryz.underlying40 HI.out HZ0.out HZ1.out HZ2.out rfl (by decide) u6 _ _ HO.out p q.length c hp3 (byV q) (by rw [byV_len,Nat.mul_one]) (byV_news hsrc) (byV_one q) (by unfold maxLen;omega) (by omega) HB.out.size
     rw [← byV_app,← hs] at hown'
     have hb':=HB.out.grown hgrow HB.out.size (fun j hj=>(HO.out.lt j hj).1)
     have HL:=Lib.hid hl
     have HOWN':=Lib.hid hown'
     have HB':=Lib.hid hb'
     have HR:=Lib.hid hr
     clear hown' hb' hr
     clear hp3 hsrc hgrow hat' hs hl hc hby
     go_wp2_with (at_builtin;refine Lib.wpList_append_run _ rfl _ _ _ _ rfl _ _ rfl rfl _ _ HR.out ?_)
     go_roundw
     case rel=>exact ⟨j+1,n+q.length,by omega,by go_num,HL.out,HOWN'.out,HB'.out⟩
     case measure=>simp [intOf];omega
end Go.Proofs
namespace Sc
open Go
section
variable {P:Program} {ops:Array Oper} {Q:Exit→Act→World→Prop} {md:Region.Mode}
theorem wpG.two {G:World→Prop} (i j:Nat) {oi oj:Oper} {fuel:Nat} {listed:Array Bool} {a:Act} {w:World} (hi:ops[i]? = some oi) (hj:ops[j]? = some oj) (hr:Region.ready md ops listed=[i,j]) (hwi:Region.wanted oi (yielded ops a.tmps)=true) (hwj:Region.wanted oj (yielded ops a.tmps)=true) (hG:G w)
  (h1:∀ K:Act→World→Prop,(∀ a w,wpG P md ops Q G fuel (listed.setIfInBounds i true) a w→K a w)→oi.wp P a w K Q)
  (h2:∀ K:Act→World→Prop,(∀ a w,wpG P md ops Q G fuel (listed.setIfInBounds j true) a w→K a w)→oj.wp P a w K Q):wpG P md ops Q G (fuel+1) listed a w:=by
 refine ⟨hG,fun h0=>absurd (hr ▸ h0) (by simp),fun k hk=>?_⟩
 rw [hr,List.mem_cons,List.mem_singleton] at hk
 unfold Go.wpOp
 rcases hk with rfl | rfl
 ·simp only [hi]
  rw [if_pos hwi]
  exact .inl (h1 _ fun _ _ h=>h)
 ·simp only [hj]
  rw [if_pos hwj]
  exact .inl (h2 _ fun _ _ h=>h)
end
end Sc
namespace Sc
open Go Go.RowKit
section
variable {P:Program}
theorem run_append_room_zeros (w:World) (t tn ty e:TypeId) (i:TypeInfo) (z:Value) (kq kn:IntKind) (ht:P.underlying t=some (.slice e)) (htn:P.underlying tn=some (.int kn)) (hi:P.info? e=some i) (hz:i.zero=some z)
  (g sLen sCap:Nat) (cur:Array Value) (hg:w.heap[g]? = some (.cells cur e (0,0))) (k:Nat) (h0:0 < k) (hs:0 < i.size) (h48:k * i.bytes≤281474976710656) (h63:(k:Int)≤9223372036854775807)
  (hroom:sLen+k≤sCap) (news:List Value) (hnews:Builtin.zeroCells z.cells k=news.toArray) (h1:∀ u∈news,u.oneCell'=true) (hfit:sLen * i.size+news.length≤cur.size) :
  (Builtin.append_ #[t,tn] ty #[.slice (some ⟨g,0,none⟩) sLen sCap,.int kq k]).run P w =
   .ok (.slice (some ⟨g,0,none⟩) (sLen+k) sCap) (w.setRow g (cur.toList.take (sLen * i.size)++news++cur.toList.drop (sLen * i.size+news.length)).toArray):=by
 have hst:=run_storeCells_at P g (sLen * i.size) e news 0 cur w hg (by simpa using hfit) h1
 simp only [Nat.add_zero] at hst
 have hk:k≠0:=by omega
 have hw:IntKind.i64.wrap (k:Int)=k:=by rw [IntKind.wrap_i64];omega
 have h48i:¬ (281474976710656 < (k:Int) * (i.bytes:Int)):=by
  rw [← Int.natCast_mul]
  omega
 have hneg:¬ ((k:Int) < 0):=by omega
 have hns:¬ (k * i.size=0):=Nat.mul_ne_zero hk (by omega)
 simp [Builtin.append_,run_underlying ht,run_underlying htn,Go.sizeOf,typeInfo,zeroValue,hi,hz,asInt,asIntOf,hw,hneg,hns,h48i,hroom,hnews,Addr.add_lit,hst]
theorem zeroCells_u8 (k:Nat):Builtin.zeroCells (Value.int .u8 0).cells k=(List.replicate k (Value.int .u8 0)).toArray:=by
 apply Array.ext
 ·simp [Builtin.zeroCells,Value.cells]
 ·intro j h1 h2
  simp [Builtin.zeroCells,Value.cells,Nat.mod_one]
theorem run_append_own_zeros (w:World) (t tn ty e base:Nat) (i:TypeInfo) (kq kn:IntKind) (ht:P.underlying t=some (.slice e)) (htn:P.underlying tn=some (.int kn)) (hi:P.info? e=some i) (hz:i.zero=some (.int .u8 0)) (hs1:i.size=1) (hby:i.bytes=1)
  (g n cap:Nat) (xs:List Value) (hown:w.ownsRow base e 1 (.slice (some ⟨g,0,none⟩) n cap) n xs) (k:Nat) (h0:0 < k) (hk:k≤1000000) (hn:n≤1000000) (hbase:base≤w.heap.size) :
  ∃ g' cap' w',(Builtin.append_ #[t,tn] ty #[.slice (some ⟨g,0,none⟩) n cap,.int kq k]).run P w=.ok (.slice (some ⟨g',0,none⟩) (n+k) cap') w'∧w'.ownsRow base e 1 (.slice (some ⟨g',0,none⟩) (n+k) cap') (n+k) (xs++List.replicate k (.int .u8 0))∧w.grownBy w' (some g)∧(g'=g∨g'=w.heap.size):=by
 have hlen:(xs++List.replicate k (Value.int .u8 0)).length=(n+k) * 1:=by rw [List.length_append,hown.1,List.length_replicate];omega
 obtain ⟨hx,⟨h,_⟩ | ⟨g1,cap1,cur,h,hbg,hg,hnc,hcm,hcs,htake⟩⟩:=id hown
 ·simp at h
 ·simp only [Value.slice.injEq,Option.some.injEq,Addr.mk.injEq,and_true,true_and] at h
  obtain ⟨rfl,rfl⟩:=h
  by_cases hroom:n+k≤cap
  ·have hr:=run_append_room_zeros (P:=P) w t tn ty e i _ kq kn ht htn hi hz g n cap cur hg k h0 (by omega) (by rw [hby];omega) (by omega) hroom _ (zeroCells_u8 k) (by
    intro u hu
    rw [List.eq_of_mem_replicate hu];rfl) (by rw [hs1,List.length_replicate];omega)
   rw [hs1,List.length_replicate] at hr
   refine ⟨g,cap,_,hr,⟨hlen,.inr ⟨g,cap,_,rfl,hbg,setRow_heap w g cur _ e _ hg,hroom,hcm,?_,?_⟩⟩,⟨rfl,rfl,rfl,by simp,fun k _ hk=>setRow_other w g k _ (fun e=>hk (by simp [e]))⟩,.inl rfl⟩
   ·simp only [List.size_toArray,List.length_append,List.length_take,List.length_drop,Array.length_toList,List.length_replicate]
    omega
   ·rw [htake,← hlen]
    exact List.take_left
  ·have hold:(Builtin.firstCells i.size n (.slice (some ⟨g,0,none⟩) n cap)).run P w.drew=.ok xs.toArray w.drew:=by
    rw [hs1]
    refine run_firstCells_some (P:=P) w.drew 1 n ⟨g,0,none⟩ n cap xs hown.1 fun j u hj=>?_
    have hjl:j < n:=by have:=(List.getElem?_eq_some_iff.1 hj).1;rw [hown.1] at this;omega
    have hc:=hown.cellAt j (by omega)
    rw [hj] at hc
    have hadd:(⟨g,0,none⟩:Addr).add j=⟨g,j,none⟩:=by unfold Addr.add;split <;> simp_all
    rw [hadd]
    exact hc
   have hr:=Go.Lib.run_append_grow_zeros (P:=P) w t tn ty e i _ kq kn ht htn hi hz (some ⟨g,0,none⟩) n cap xs hold k h0 (by omega) (by omega) (by omega) (by rw [hby];omega) (growslice_fits (by omega) (by rw [hby];omega))
   have hge:=grownCap_ge w (n+k) cap e
   have hle:=grownCap_le_maxLen w (n+k) cap e (by unfold maxLen;omega)
   refine ⟨w.heap.size,_,_,hr,⟨hlen,.inr ⟨w.heap.size,_,_,rfl,hbase,heap_alloc_new w.drew _,hge,hle,?_,?_⟩⟩,?_,.inr rfl⟩
   ·rw [zeroCells_u8,zeroCells_u8]
    simp only [List.append_toArray,List.size_toArray,List.length_append,List.length_replicate,hown.1]
    omega
   ·rw [zeroCells_u8,zeroCells_u8]
    simp only [List.append_toArray]
    rw [← hlen]
    exact List.take_left
   ·have hb:=(below_drewN (Below.refl w.heap.size w) 1).alloc (Nat.le_refl _) (.cells (xs.toArray++Builtin.zeroCells (Value.int .u8 0).cells k++Builtin.zeroCells (Value.int .u8 0).cells (grownCap w (n+k) cap e - (n+k))) e (0,0))
    exact ⟨hb.os,hb.tape,hb.output,hb.size,fun q h1 _=>hb.block q h1⟩
end
end Sc
namespace Go.Proofs
open Go.RowKit Sc
theorem push_bytes {w:World} {B g n cap:Nat} {l l4:Bytes} (hok:w.ownsRow B 5 1 (.slice (some ⟨g,0,none⟩) n cap) n (byV l)) (hB:B≤w.heap.size) {p:Option Addr} {m c:Nat} {G:Nat→Prop} (hl4:l4.length=m) (hb:BytesAt G w (.slice p m c) l4) (h0:0 < n) (hn:n≤1000000) (hm:m≤1000000) :
  ∃ g' cap' w',(Builtin.append_ #[40,40] 40 #[.slice (some ⟨g,0,none⟩) n cap,.slice p m c]).run Tryz.prog w=.ok (.slice (some ⟨g',0,none⟩) (n+m) cap') w'∧w'.ownsRow B 5 1 (.slice (some ⟨g',0,none⟩) (n+m) cap') (n+m) (byV (l++l4))∧w.grownBy w' (some g)∧B≤g:=by
 obtain ⟨i0,hi,hz0,hz1,hz2⟩:=info_parts infoU8
 subst hl4
 have hp:p=none→l4.length=0∧c=0:=by
  rintro rfl
  obtain ⟨p',c',hh,h1,h2,h3,_⟩:=hb
  cases hh
  have:=h3 rfl
  omega
 have hg:=(hok.lt g rfl).1
 obtain ⟨v',w',hr,hown',hgrow,hat'⟩:=run_append_any (P:=Tryz.prog) w 40 40 B 5 i0 (.int .u8 0) 1 1 Tryz.underlying40 hi hz0 hz1 hz2 rfl (by decide) _ _ _ hok p l4.length c hp (byV l4) (by rw [byV_len,Nat.mul_one]) (byV_news hb) (byV_one l4) (by unfold maxLen;omega) (by omega) hB
 rw [← byV_app] at hown'
 obtain ⟨g',cap',rfl⟩:∃ g' cap',v'=.slice (some ⟨g',0,none⟩) (n+l4.length) cap':=by
  obtain ⟨_,⟨_,h1⟩ | ⟨g',cap',cur,e,_⟩⟩:=hown'
  ·omega
  ·exact ⟨g',cap',e⟩
 exact ⟨g',cap',w',hr,hown',hgrow,hg⟩
end Go.Proofs
namespace Go.Proofs
open Go.RowKit Sc
def SomeB (n:Nat) (v:Value) (w:World):Prop:=∃ l:Bytes,l.length=n∧BytesAt (fun _=>True) w v l
theorem up_some {n:Nat} {v:Value} {w w':World} (h:SomeB n v w) (hb:Below w.heap.size w w'):SomeB n v w':=h.imp fun _ ⟨h1,h2⟩=>⟨h1,h2.up hb⟩
theorem some_w {n:Nat} {v:Value} {w:World} {G:Nat→Prop} (h:∃ l:Bytes,l.length=n∧BytesW G w v l):SomeB n v w:=h.imp fun _ ⟨h1,h2⟩=>⟨h1,h2.bytes.mono fun _ _=>trivial⟩
theorem two_alloc (x:Int) (n:Nat) (w:World):SomeB 2 (.slice (some ⟨w.heap.size,0,none⟩) 2 2) (w.alloc (.cells #[.int .u8 (IntKind.u8.wrap x),.int .u8 (IntKind.u8.wrap (n:Int))] 5 (0,0))):=by
 obtain ⟨a,ha⟩:=u8_some x
 obtain ⟨b,hb⟩:=u8_some (n:Int)
 rw [IntKind.wrap_u8,IntKind.wrap_u8,ha,hb]
 have hn:=heap_alloc_new w (.cells #[.int .u8 (a.toNat:Int),.int .u8 (b.toNat:Int)] 5 (0,0))
 refine ⟨[a,b],rfl,some ⟨w.heap.size,0,none⟩,2,rfl,Nat.le_refl _,by simp,(by intro h;cases h),fun i hi=>⟨w.heap.size,0,rfl,trivial,?_⟩⟩
 simp only [List.length_cons,List.length_nil] at hi
 rcases (show i=0∨i=1 by omega) with rfl | rfl
 ·show (w.alloc _).cell? ⟨w.heap.size,0+0 * 1,none⟩=_
  rw [cell_row hn];rfl
 ·show (w.alloc _).cell? ⟨w.heap.size,0+1 * 1,none⟩=_
  rw [cell_row hn];rfl
theorem within_yes (n a b:Int) (w:World) (h1:a≤n) (h2:n≤b):Calls Tryz.prog 227 #[.int .i64 n,.int .i64 a,.int .i64 b] w fun e w'=>e=.returned (.bool true)∧w=w':=by
 go_enter Tryz.func227,Tryz.ntmps227
 go_wp2_with fail
 go_ret
 exact ⟨rfl,rfl⟩
set_option maxRecDepth 100000 in
set_option maxHeartbeats 4000000 in
theorem encode_any (G:Nat→Prop) (kd ep sq lb:Int) (pp:Option Addr) (n pc:Nat) (l:Bytes) (w:World) (hG:Dom G w) (hb:BytesAt G w (.slice pp n pc) l) (hl:l.length=n) (hn:n≤40) (k1:1≤kd) (k2:kd≤4) (e1:0≤ep) (e2:ep≤4294967295) (s1:0≤sq) (s2:sq≤1099511627776) (l1:0≤lb) (l2:lb≤1048576) :
  Calls Tryz.prog 162 #[.agg #[.int .i64 kd,.int .i64 ep,.int .i64 sq,.int .i64 lb,.slice pp n pc]] w fun e w'=>∃ p c,e=.returned (.tuple #[.slice p 64 c,.int .i64 0])∧(∃ l':Bytes,l'.length=64∧BytesW (New w w') w' (.slice p 64 c) l')∧Below w.heap.size w w':=by
 obtain ⟨w1,hw1⟩:∃ w1,w.alloc (.cells #[.int .i64 kd,.int .i64 ep,.int .i64 sq,.int .i64 lb,.slice pp n pc] 257 (0,0))=w1:=⟨_,rfl⟩
 have hba:=below_alloc w (.cells #[.int .i64 kd,.int .i64 ep,.int .i64 sq,.int .i64 lb,.slice pp n pc] 257 (0,0))
 have hnw:=heap_alloc_new w (.cells #[.int .i64 kd,.int .i64 ep,.int .i64 sq,.int .i64 lb,.slice pp n pc] 257 (0,0))
 rw [hw1] at hba hnw
 have hb1:=BytesAt.up hb hba
 obtain ⟨B0,hB0⟩:∃ B,w.heap.size=B:=⟨_,rfl⟩
 rw [hB0] at hnw
 have b0:w1.cell? ⟨B0,0,none⟩=some (.int .i64 kd):=by rw [cell_row hnw];rfl
 have b1:w1.cell? ⟨B0,1,none⟩=some (.int .i64 ep):=by rw [cell_row hnw];rfl
 have b2:w1.cell? ⟨B0,2,none⟩=some (.int .i64 sq):=by rw [cell_row hnw];rfl
 have b3:w1.cell? ⟨B0,3,none⟩=some (.int .i64 lb):=by rw [cell_row hnw];rfl
 have b4:w1.cell? ⟨B0,4,none⟩=some (.slice pp n pc):=by rw [cell_row hnw];rfl
 have hn':¬ (40:Int) < (n:Int):=by omega
 have HBA:=Lib.hid hba
 have HB1:=Lib.hid (hb1.mono (G':=fun _=>True) fun _ _=>trivial)
 have HL:=Lib.hid hl
 clear hb hb1 hba hnw hl hG
 go_enter Tryz.func162,Tryz.ntmps162
 go_upto_region 1 with fail
 try rw [hw1]
 try rw [hB0]
 clear hw1 hB0
 go_wp2_with fail
 refine (within_yes kd 1 4 _ k1 k2).mono ?_
 rintro e wx ⟨rfl,rfl⟩
 go_wp2_with fail
 refine (within_yes ep 0 4294967295 _ e1 e2).mono ?_
 rintro e wx ⟨rfl,rfl⟩
 go_wp2_with fail
 refine (within_yes sq 0 1099511627776 _ s1 s2).mono ?_
 rintro e wx ⟨rfl,rfl⟩
 go_wp2_with fail
 refine (within_yes lb 0 1048576 _ l1 l2).mono ?_
 rintro e wx ⟨rfl,rfl⟩
 go_upto_region 5 with fail
 have hbd:=below_drewN (Below.refl w1.heap.size w1) 1
 have d0:w1.drew.cell? _=_:=cell_up hbd b0
 have d1:w1.drew.cell? _=_:=cell_up hbd b1
 have d2:w1.drew.cell? _=_:=cell_up hbd b2
 have d3:w1.drew.cell? _=_:=cell_up hbd b3
 have d4:w1.drew.cell? _=_:=cell_up hbd b4
 have HBX:Hid (Below w.heap.size w w1.drew):=Below.up HBA.out hbd
 have HBY:Hid (BytesAt (fun _=>True) w1.drew (.slice pp n pc) l):=HB1.out.up hbd
 clear b0 b1 b2 b3 b4 hbd HBA HB1 k1 k2 e1 e2 s1 s2 l1 l2
 refine wp_regionG (fun W=>W.cell? ⟨B0,0,none⟩=some (.int .i64 kd)∧W.cell? ⟨B0,1,none⟩=some (.int .i64 ep)∧W.cell? ⟨B0,2,none⟩=some (.int .i64 sq)∧W.cell? ⟨B0,3,none⟩=some (.int .i64 lb)∧W.cell? ⟨B0,4,none⟩=some (.slice pp n pc)) (n:=25) (by kernel_rfl) (by kernel_rfl) ?_
 generalize w1.drew=wd at *
 refine wpG.tk 0 ?_
 refine wpG.tk 1 ?_ (hy:=by intro W hW;have hld0:=hW.1;go_simp;try with_reducible rfl)
 refine wpG.tk 2 ?_
 refine wpG.tk 3 ?_
 refine wpG.tk 4 ?_ (hy:=by intro W hW;have hld0:=hW.2.2.2.2;go_simp;try with_reducible rfl)
 refine wpG.tk 5 ?_
 refine wpG.tk 6 ?_
 refine wpG.tk 8 ?_
 refine wpG.tk 9 ?_ (hy:=by intro W hW;have hld0:=hW.2.1;go_simp;try with_reducible rfl)
 refine wpG.tk 10 ?_
 refine wpG.tk 12 ?_
 refine wpG.tk 13 ?_ (hy:=by intro W hW;have hld0:=hW.2.2.1;go_simp;try with_reducible rfl)
 refine wpG.tk 14 ?_
 refine wpG.tk 16 ?_
 refine wpG.tk 17 ?_ (hy:=by intro W hW;have hld0:=hW.2.2.2.1;go_simp;try with_reducible rfl)
 refine wpG.tk 18 ?_
 refine wpG.tk 20 ?_
 refine wpG.tk 21 ?_ (hy:=by intro W hW;have hld0:=hW.2.2.2.2;go_simp;try with_reducible rfl)
 have HB0:=Lib.hid (Below.refl wd.heap.size wd)
 have HB0:=Lib.hid (Below.refl wd.heap.size wd)
 have HB0:=Lib.hid (Below.refl wd.heap.size wd)
 have HB0:=Lib.hid (Below.refl wd.heap.size wd)
 have HB0:=Lib.hid (Below.refl wd.heap.size wd)
 refine wpG.two 7 11 rfl rfl (by kernel_rfl) (by kernel_rfl) (by kernel_rfl) ⟨cell_up HB0.out d0,cell_up HB0.out d1,cell_up HB0.out d2,cell_up HB0.out d3,cell_up HB0.out d4⟩ (fun K hK=>?oA1) (fun K hK=>?oB1)
 case' oA1 =>
  go_simp
  have ha2:=two_alloc kd n wd
  have hb2:=Below.up HB0.out (below_alloc wd (.cells #[.int .u8 (IntKind.u8.wrap kd),.int .u8 (IntKind.u8.wrap (n:Int))] 5 (0,0)))
  generalize wd.alloc (.cells #[.int .u8 (IntKind.u8.wrap kd),.int .u8 (IntKind.u8.wrap (n:Int))] 5 (0,0))=w2a at *
  obtain ⟨A,hA2⟩:∃ A,wd.heap.size=A:=⟨_,rfl⟩
  rw [hA2] at ha2 ⊢
  have HB2:=Lib.hid hb2
  have FA:=Lib.hid ha2
  clear hA2 hb2 ha2 
  try go_simp
  refine hK _ _ ?_
  clear hK K
  refine wpG.alone 11 rfl (by kernel_rfl) (by kernel_rfl) ⟨cell_up HB2.out d0,cell_up HB2.out d1,cell_up HB2.out d2,cell_up HB2.out d3,cell_up HB2.out d4⟩ (fun K hK=>?_)
  go_simp
  go_at_call 150
  refine (put32_any _ _).mono ?_
  rintro e w3c ⟨p1,c1,rfl,hl3,hq3⟩
  have hb3:=Below.up HB2.out hq3
  have hFA3:=up_some (FA.out) hq3
  have hf3:=some_w hl3
  have HB3:=Lib.hid hb3
  have F1:=Lib.hid hf3
  have FA_:=Lib.hid hFA3
  clear hb3 hl3 hq3 hf3 hFA3 FA
  have FA:=Lib.hid (FA_.out)
  clear FA_
  try go_simp
  refine hK _ _ ?_
  clear hK K
  refine wpG.alone 15 rfl (by kernel_rfl) (by kernel_rfl) ⟨cell_up HB3.out d0,cell_up HB3.out d1,cell_up HB3.out d2,cell_up HB3.out d3,cell_up HB3.out d4⟩ (fun K hK=>?_)
  go_simp
  go_at_call 147
  refine (put64_any _ _).mono ?_
  rintro e w4c ⟨p2,c2,rfl,hl4,hq4⟩
  have hb4:=Below.up HB3.out hq4
  have hFA4:=up_some (FA.out) hq4
  have hF14:=up_some (F1.out) hq4
  have hf4:=some_w hl4
  have HB4:=Lib.hid hb4
  have F2:=Lib.hid hf4
  have FA_:=Lib.hid hFA4
  have F1_:=Lib.hid hF14
  clear hb4 hl4 hq4 hf4 hFA4 hF14 FA F1
  have FA:=Lib.hid (FA_.out)
  have F1:=Lib.hid (F1_.out)
  clear FA_ F1_
  try go_simp
  refine hK _ _ ?_
  clear hK K
  refine wpG.alone 19 rfl (by kernel_rfl) (by kernel_rfl) ⟨cell_up HB4.out d0,cell_up HB4.out d1,cell_up HB4.out d2,cell_up HB4.out d3,cell_up HB4.out d4⟩ (fun K hK=>?_)
  go_simp
  go_at_call 150
  refine (put32_any _ _).mono ?_
  rintro e w5c ⟨p3,c3,rfl,hl5,hq5⟩
  have hb5:=Below.up HB4.out hq5
  have hFA5:=up_some (FA.out) hq5
  have hF15:=up_some (F1.out) hq5
  have hF25:=up_some (F2.out) hq5
  have hf5:=some_w hl5
  have HB5:=Lib.hid hb5
  have F3:=Lib.hid hf5
  have FA_:=Lib.hid hFA5
  have F1_:=Lib.hid hF15
  have F2_:=Lib.hid hF25
  clear hb5 hl5 hq5 hf5 hFA5 hF15 hF25 FA F1 F2
  have FA:=Lib.hid (FA_.out)
  have F1:=Lib.hid (F1_.out)
  have F2:=Lib.hid (F2_.out)
  clear FA_ F1_ F2_
  try go_simp
  refine hK _ _ ?_
  clear hK K
  have HBF:=Lib.hid (HB5.out)
  have GA:=Lib.hid (FA.out)
  have G1:=Lib.hid (F1.out)
  have G2:=Lib.hid (F2.out)
  have G3:=Lib.hid (F3.out)
  obtain ⟨wf,rfl⟩:∃ wf:World,wf=w5c:=⟨_,rfl⟩
  clear FA F1 F2 F3
 case' oB1 =>
  go_simp
  go_at_call 150
  refine (put32_any _ _).mono ?_
  rintro e w6c ⟨p1,c1,rfl,hl6,hq6⟩
  have hb6:=Below.up HB0.out hq6
  have hf6:=some_w hl6
  have HB6:=Lib.hid hb6
  have F1:=Lib.hid hf6
  clear hb6 hl6 hq6 hf6 
  try go_simp
  refine hK _ _ ?_
  clear hK K
  refine wpG.two 7 15 rfl rfl (by kernel_rfl) (by kernel_rfl) (by kernel_rfl) ⟨cell_up HB6.out d0,cell_up HB6.out d1,cell_up HB6.out d2,cell_up HB6.out d3,cell_up HB6.out d4⟩ (fun K hK=>?oA7) (fun K hK=>?oB7)
  case' oA7 =>
   go_simp
   have ha8:=two_alloc kd n w6c
   have hb8:=Below.up HB6.out (below_alloc w6c (.cells #[.int .u8 (IntKind.u8.wrap kd),.int .u8 (IntKind.u8.wrap (n:Int))] 5 (0,0)))
   have hF18:=up_some (F1.out) (below_alloc w6c (.cells #[.int .u8 (IntKind.u8.wrap kd),.int .u8 (IntKind.u8.wrap (n:Int))] 5 (0,0)))
   generalize w6c.alloc (.cells #[.int .u8 (IntKind.u8.wrap kd),.int .u8 (IntKind.u8.wrap (n:Int))] 5 (0,0))=w8a at *
   obtain ⟨A,hA8⟩:∃ A,w6c.heap.size=A:=⟨_,rfl⟩
   rw [hA8] at ha8 ⊢
   have HB8:=Lib.hid hb8
   have FA:=Lib.hid ha8
   have F1_:=Lib.hid hF18
   clear hA8 hb8 ha8 hF18 F1
   have F1:=Lib.hid (F1_.out)
   clear F1_
   try go_simp
   refine hK _ _ ?_
   clear hK K
   refine wpG.alone 15 rfl (by kernel_rfl) (by kernel_rfl) ⟨cell_up HB8.out d0,cell_up HB8.out d1,cell_up HB8.out d2,cell_up HB8.out d3,cell_up HB8.out d4⟩ (fun K hK=>?_)
   go_simp
   go_at_call 147
   refine (put64_any _ _).mono ?_
   rintro e w9c ⟨p2,c2,rfl,hl9,hq9⟩
   have hb9:=Below.up HB8.out hq9
   have hFA9:=up_some (FA.out) hq9
   have hF19:=up_some (F1.out) hq9
   have hf9:=some_w hl9
   have HB9:=Lib.hid hb9
   have F2:=Lib.hid hf9
   have FA_:=Lib.hid hFA9
   have F1_:=Lib.hid hF19
   clear hb9 hl9 hq9 hf9 hFA9 hF19 FA F1
   have FA:=Lib.hid (FA_.out)
   have F1:=Lib.hid (F1_.out)
   clear FA_ F1_
   try go_simp
   refine hK _ _ ?_
   clear hK K
   refine wpG.alone 19 rfl (by kernel_rfl) (by kernel_rfl) ⟨cell_up HB9.out d0,cell_up HB9.out d1,cell_up HB9.out d2,cell_up HB9.out d3,cell_up HB9.out d4⟩ (fun K hK=>?_)
   go_simp
   go_at_call 150
   refine (put32_any _ _).mono ?_
   rintro e w10c ⟨p3,c3,rfl,hl10,hq10⟩
   have hb10:=Below.up HB9.out hq10
   have hFA10:=up_some (FA.out) hq10
   have hF110:=up_some (F1.out) hq10
   have hF210:=up_some (F2.out) hq10
   have hf10:=some_w hl10
   have HB10:=Lib.hid hb10
   have F3:=Lib.hid hf10
   have FA_:=Lib.hid hFA10
   have F1_:=Lib.hid hF110
   have F2_:=Lib.hid hF210
   clear hb10 hl10 hq10 hf10 hFA10 hF110 hF210 FA F1 F2
   have FA:=Lib.hid (FA_.out)
   have F1:=Lib.hid (F1_.out)
   have F2:=Lib.hid (F2_.out)
   clear FA_ F1_ F2_
   try go_simp
   refine hK _ _ ?_
   clear hK K
   have HBF:=Lib.hid (HB10.out)
   have GA:=Lib.hid (FA.out)
   have G1:=Lib.hid (F1.out)
   have G2:=Lib.hid (F2.out)
   have G3:=Lib.hid (F3.out)
   obtain ⟨wf,rfl⟩:∃ wf:World,wf=w10c:=⟨_,rfl⟩
   clear FA F1 F2 F3
  case' oB7 =>
   go_simp
   go_at_call 147
   refine (put64_any _ _).mono ?_
   rintro e w11c ⟨p2,c2,rfl,hl11,hq11⟩
   have hb11:=Below.up HB6.out hq11
   have hF111:=up_some (F1.out) hq11
   have hf11:=some_w hl11
   have HB11:=Lib.hid hb11
   have F2:=Lib.hid hf11
   have F1_:=Lib.hid hF111
   clear hb11 hl11 hq11 hf11 hF111 F1
   have F1:=Lib.hid (F1_.out)
   clear F1_
   try go_simp
   refine hK _ _ ?_
   clear hK K
   refine wpG.two 7 19 rfl rfl (by kernel_rfl) (by kernel_rfl) (by kernel_rfl) ⟨cell_up HB11.out d0,cell_up HB11.out d1,cell_up HB11.out d2,cell_up HB11.out d3,cell_up HB11.out d4⟩ (fun K hK=>?oA12) (fun K hK=>?oB12)
   case' oA12 =>
    go_simp
    have ha13:=two_alloc kd n w11c
    have hb13:=Below.up HB11.out (below_alloc w11c (.cells #[.int .u8 (IntKind.u8.wrap kd),.int .u8 (IntKind.u8.wrap (n:Int))] 5 (0,0)))
    have hF113:=up_some (F1.out) (below_alloc w11c (.cells #[.int .u8 (IntKind.u8.wrap kd),.int .u8 (IntKind.u8.wrap (n:Int))] 5 (0,0)))
    have hF213:=up_some (F2.out) (below_alloc w11c (.cells #[.int .u8 (IntKind.u8.wrap kd),.int .u8 (IntKind.u8.wrap (n:Int))] 5 (0,0)))
    generalize w11c.alloc (.cells #[.int .u8 (IntKind.u8.wrap kd),.int .u8 (IntKind.u8.wrap (n:Int))] 5 (0,0))=w13a at *
    obtain ⟨A,hA13⟩:∃ A,w11c.heap.size=A:=⟨_,rfl⟩
    rw [hA13] at ha13 ⊢
    have HB13:=Lib.hid hb13
    have FA:=Lib.hid ha13
    have F1_:=Lib.hid hF113
    have F2_:=Lib.hid hF213
    clear hA13 hb13 ha13 hF113 hF213 F1 F2
    have F1:=Lib.hid (F1_.out)
    have F2:=Lib.hid (F2_.out)
    clear F1_ F2_
    try go_simp
    refine hK _ _ ?_
    clear hK K
    refine wpG.alone 19 rfl (by kernel_rfl) (by kernel_rfl) ⟨cell_up HB13.out d0,cell_up HB13.out d1,cell_up HB13.out d2,cell_up HB13.out d3,cell_up HB13.out d4⟩ (fun K hK=>?_)
    go_simp
    go_at_call 150
    refine (put32_any _ _).mono ?_
    rintro e w14c ⟨p3,c3,rfl,hl14,hq14⟩
    have hb14:=Below.up HB13.out hq14
    have hFA14:=up_some (FA.out) hq14
    have hF114:=up_some (F1.out) hq14
    have hF214:=up_some (F2.out) hq14
    have hf14:=some_w hl14
    have HB14:=Lib.hid hb14
    have F3:=Lib.hid hf14
    have FA_:=Lib.hid hFA14
    have F1_:=Lib.hid hF114
    have F2_:=Lib.hid hF214
    clear hb14 hl14 hq14 hf14 hFA14 hF114 hF214 FA F1 F2
    have FA:=Lib.hid (FA_.out)
    have F1:=Lib.hid (F1_.out)
    have F2:=Lib.hid (F2_.out)
    clear FA_ F1_ F2_
    try go_simp
    refine hK _ _ ?_
    clear hK K
    have HBF:=Lib.hid (HB14.out)
    have GA:=Lib.hid (FA.out)
    have G1:=Lib.hid (F1.out)
    have G2:=Lib.hid (F2.out)
    have G3:=Lib.hid (F3.out)
    obtain ⟨wf,rfl⟩:∃ wf:World,wf=w14c:=⟨_,rfl⟩
    clear FA F1 F2 F3
   case' oB12 =>
    go_simp
    go_at_call 150
    refine (put32_any _ _).mono ?_
    rintro e w15c ⟨p3,c3,rfl,hl15,hq15⟩
    have hb15:=Below.up HB11.out hq15
    have hF115:=up_some (F1.out) hq15
    have hF215:=up_some (F2.out) hq15
    have hf15:=some_w hl15
    have HB15:=Lib.hid hb15
    have F3:=Lib.hid hf15
    have F1_:=Lib.hid hF115
    have F2_:=Lib.hid hF215
    clear hb15 hl15 hq15 hf15 hF115 hF215 F1 F2
    have F1:=Lib.hid (F1_.out)
    have F2:=Lib.hid (F2_.out)
    clear F1_ F2_
    try go_simp
    refine hK _ _ ?_
    clear hK K
    refine wpG.alone 7 rfl (by kernel_rfl) (by kernel_rfl) ⟨cell_up HB15.out d0,cell_up HB15.out d1,cell_up HB15.out d2,cell_up HB15.out d3,cell_up HB15.out d4⟩ (fun K hK=>?_)
    go_simp
    have ha16:=two_alloc kd n w15c
    have hb16:=Below.up HB15.out (below_alloc w15c (.cells #[.int .u8 (IntKind.u8.wrap kd),.int .u8 (IntKind.u8.wrap (n:Int))] 5 (0,0)))
    have hF116:=up_some (F1.out) (below_alloc w15c (.cells #[.int .u8 (IntKind.u8.wrap kd),.int .u8 (IntKind.u8.wrap (n:Int))] 5 (0,0)))
    have hF216:=up_some (F2.out) (below_alloc w15c (.cells #[.int .u8 (IntKind.u8.wrap kd),.int .u8 (IntKind.u8.wrap (n:Int))] 5 (0,0)))
    have hF316:=up_some (F3.out) (below_alloc w15c (.cells #[.int .u8 (IntKind.u8.wrap kd),.int .u8 (IntKind.u8.wrap (n:Int))] 5 (0,0)))
    generalize w15c.alloc (.cells #[.int .u8 (IntKind.u8.wrap kd),.int .u8 (IntKind.u8.wrap (n:Int))] 5 (0,0))=w16a at *
    obtain ⟨A,hA16⟩:∃ A,w15c.heap.size=A:=⟨_,rfl⟩
    rw [hA16] at ha16 ⊢
    have HB16:=Lib.hid hb16
    have FA:=Lib.hid ha16
    have F1_:=Lib.hid hF116
    have F2_:=Lib.hid hF216
    have F3_:=Lib.hid hF316
    clear hA16 hb16 ha16 hF116 hF216 hF316 F1 F2 F3
    have F1:=Lib.hid (F1_.out)
    have F2:=Lib.hid (F2_.out)
    have F3:=Lib.hid (F3_.out)
    clear F1_ F2_ F3_
    try go_simp
    refine hK _ _ ?_
    clear hK K
    have HBF:=Lib.hid (HB16.out)
    have GA:=Lib.hid (FA.out)
    have G1:=Lib.hid (F1.out)
    have G2:=Lib.hid (F2.out)
    have G3:=Lib.hid (F3.out)
    obtain ⟨wf,rfl⟩:∃ wf:World,wf=w16a:=⟨_,rfl⟩
    clear FA F1 F2 F3
 all_goals
  have g0:=cell_up HBF.out d0
  have g1:=cell_up HBF.out d1
  have g2:=cell_up HBF.out d2
  have g3:=cell_up HBF.out d3
  have g4:=cell_up HBF.out d4
  refine wpG.alone 22 rfl (by kernel_rfl) (by kernel_rfl) ⟨g0,g1,g2,g3,g4⟩ (fun K hK=>?_)
  go_simp
  have hx:=below_alloc wf (.cells #[.slice (some ⟨A,0,none⟩) 2 2,.slice p1 4 c1,.slice p2 8 c2,.slice p3 4 c3,.slice pp n pc] 40 (0,0))
  have hnw:=heap_alloc_new wf (.cells #[.slice (some ⟨A,0,none⟩) 2 2,.slice p1 4 c1,.slice p2 8 c2,.slice p3 4 c3,.slice pp n pc] 40 (0,0))
  generalize wf.alloc (.cells #[.slice (some ⟨A,0,none⟩) 2 2,.slice p1 4 c1,.slice p2 8 c2,.slice p3 4 c3,.slice pp n pc] 40 (0,0))=wg at *
  have hbg:=Below.up HBF.out hx
  obtain ⟨la,hla,hba⟩:=up_some GA.out hx
  obtain ⟨l1,hl1,hb1⟩:=up_some G1.out hx
  obtain ⟨l2,hl2,hb2⟩:=up_some G2.out hx
  obtain ⟨l3,hl3,hb3⟩:=up_some G3.out hx
  have hb4:=HBY.out.up hbg
  generalize wf.heap.size=R at *
  have r0:wg.cell? ⟨R,0,none⟩=some (.slice (some ⟨A,0,none⟩) la.length 2):=by rw [hla,cell_row hnw];rfl
  have r1:wg.cell? ⟨R,1,none⟩=some (.slice p1 l1.length c1):=by rw [hl1,cell_row hnw];rfl
  have r2:wg.cell? ⟨R,2,none⟩=some (.slice p2 l2.length c2):=by rw [hl2,cell_row hnw];rfl
  have r3:wg.cell? ⟨R,3,none⟩=some (.slice p3 l3.length c3):=by rw [hl3,cell_row hnw];rfl
  have r4:wg.cell? ⟨R,4,none⟩=some (.slice pp l.length pc):=by rw [HL.out,cell_row hnw];rfl
  have ka:BytesAt (fun _=>True) wg (.slice (some ⟨A,0,none⟩) la.length 2) la:=by rw [hla];exact hba
  have k1:BytesAt (fun _=>True) wg (.slice p1 l1.length c1) l1:=by rw [hl1];exact hb1
  have k2:BytesAt (fun _=>True) wg (.slice p2 l2.length c2) l2:=by rw [hl2];exact hb2
  have k3:BytesAt (fun _=>True) wg (.slice p3 l3.length c3) l3:=by rw [hl3];exact hb3
  have k4:BytesAt (fun _=>True) wg (.slice pp l.length pc) l:=by rw [HL.out];exact hb4
  have htot:[la,l1,l2,l3,l].flatten.length=18+n:=by simp [hla,hl1,hl2,hl3,HL.out];omega
  have hcat:=concatB_any (fun _=>True) R 5 [la,l1,l2,l3,l] wg rfl (by omega) (fun j hj=>by
   simp only [List.length_cons,List.length_nil] at hj
   rcases (show j=0∨j=1∨j=2∨j=3∨j=4 by omega) with rfl | rfl | rfl | rfl | rfl
   ·exact ⟨_,_,r0,ka⟩
   ·exact ⟨_,_,r1,k1⟩
   ·exact ⟨_,_,r2,k2⟩
   ·exact ⟨_,_,r3,k3⟩
   ·exact ⟨_,_,r4,k4⟩) (by rw [htot];omega)
  generalize [la,l1,l2,l3,l].flatten=fl at *
  have HCAT:=Lib.hid hcat
  have HBG:=Lib.hid hbg
  have HTOT:=Lib.hid htot
  have q0:=cell_up hbg d0
  have q1:=cell_up hbg d1
  have q2:=cell_up hbg d2
  have q3:=cell_up hbg d3
  have q4:=cell_up hbg d4
  clear hx hnw hbg hla hl1 hl2 hl3 hba hb1 hb2 hb3 hb4 ka k1 k2 k3 k4 r0 r1 r2 r3 r4 htot hcat g0 g1 g2 g3 g4 GA G1 G2 G3 HBF
  try go_simp
  refine hK _ _ ?_
  clear hK K
  refine wpG.alone 23 rfl (by kernel_rfl) (by kernel_rfl) ⟨q0,q1,q2,q3,q4⟩ (fun K hK=>?_)
  go_simp
  go_at_call 228
  refine (HCAT.out).mono ?_
  rintro e wh ⟨v,rfl,hrow,hbh⟩
  have hbh2:=Below.up HBG.out hbh.out
  have s0:=cell_up hbh2 d0
  have s1:=cell_up hbh2 d1
  have s2:=cell_up hbh2 d2
  have s3:=cell_up hbh2 d3
  have s4:=cell_up hbh2 d4
  have HBH:=Lib.hid (Below.up HBX.out hbh2)
  have hrow1:=hrow.out
  rw [HTOT.out] at hrow1
  obtain ⟨m,hm⟩:∃ m,18+n=m:=⟨_,rfl⟩
  rw [hm] at hrow1
  obtain ⟨g,cap,rfl⟩:∃ g cap,v=.slice (some ⟨g,0,none⟩) m cap:=by
   obtain ⟨_,⟨_,h0⟩ | ⟨g,cap,cur,e,_⟩⟩:=hrow1
   ·omega
   ·exact ⟨g,cap,e⟩
  have hm1:18≤m:=by omega
  have hm2:m≤58:=by omega
  obtain ⟨k,hk⟩:∃ k:Nat,(60:Int) - (m:Int)=(k:Int):=⟨60 - m,by omega⟩
  have hkm:m+k=60:=by omega
  obtain ⟨i0,hi,hz0,hz1,hz2⟩:=info_parts infoU8
  obtain ⟨g',cap',wi,hri,howni,hgri,hgi⟩:=run_append_own_zeros (P:=Tryz.prog) wh 40 3 40 5 wg.heap.size i0 .i64 .i64 Tryz.underlying40 Tryz.underlying3 hi hz0 hz1 hz2 g m cap _ hrow1 k (by omega) (by omega) (by omega) hbh.out.size
  rw [hkm] at hri howni
  have HR:=Lib.hid hri
  have HOI:=Lib.hid howni
  have hbi:Below w.heap.size w wi:=HBH.out.grown hgri HBH.out.size (fun q hq=>by
   cases hq
   have:=(hrow1.lt g rfl).1
   have h1:=HBG.out.size
   have h2:=HBX.out.size
   omega)
  have hwl:w.heap.size≤wg.heap.size:=Nat.le_trans HBX.out.size HBG.out.size
  have HWL:=Lib.hid hwl
  have HBI:=Lib.hid hbi
  have HI0:=Lib.hid hi
  have HZ0:=Lib.hid hz0
  have HZ1:=Lib.hid hz1
  have HZ2:=Lib.hid hz2
  have HM:=Lib.hid hm
  clear hbh hbh2 hrow hrow1 hri howni hgri hgi hbi q0 q1 q2 q3 q4 HCAT hm hkm hwl hi hz0 hz1 hz2 HTOT
  try go_simp
  refine hK _ _ ?_
  clear hK K
  refine wpG.tk 24 ?_
  refine wpG.done (by kernel_rfl) ⟨s0,s1,s2,s3,s4⟩ ?_
  clear s0 s1 s2 s3 s4 d0 d1 d2 d3 d4 HBG HBX HBY HBH
  go_wp2_with (at_builtin;refine Lib.wpList_append_run _ rfl _ _ _ _ rfl _ _ rfl rfl _ _ HR.out ?_)
  have hby:byV fl++List.replicate k (Value.int .u8 0)=byV (fl++List.replicate k 0):=by
   rw [byV_app]
   congr 1
   unfold byV
   rw [List.map_replicate];rfl
  have hoi:=HOI.out
  rw [hby] at hoi
  generalize hl60:fl++List.replicate k 0=l60 at *
  have hl6:l60.length=60:=by
   have:=hoi.1
   rw [byV_len] at this
   omega
  have hw60:=bytesW_own (fun q=>wg.heap.size≤q∧q < wi.heap.size) hl6 (fun q h1 h2=>⟨h1,h2⟩) hoi
  have HCR:=Lib.hid (crcOf_any (fun q=>wg.heap.size≤q∧q < wi.heap.size) (.slice (some ⟨g',0,none⟩) 60 cap') l60 wi (fun q hq=>hq.2) hw60.bytes)
  have HOJ:=Lib.hid hoi
  have HL6:=Lib.hid hl6
  clear hby hoi hl60 hl6 hw60 HOI HR
  refine (HCR.out).mono ?_
  rintro e wj ⟨⟨y,rfl⟩,hbj⟩
  have hoj:=ownsRow_up HOJ.out hbj.out
  have HBJ:=Lib.hid (Below.up HBI.out hbj.out)
  have HOK:=Lib.hid hoj
  have hsz:=hbj.out.size
  clear HCR hbj hoj HOJ HBI
  go_wp2_with fail
  refine (put32_any y _).mono ?_
  rintro e wk ⟨p4,c4,rfl,⟨l4,hl4,hb4⟩,hbk⟩
  have hok:=ownsRow_up HOK.out hbk
  have HBK:=Lib.hid (Below.up HBJ.out hbk)
  have hwk:wg.heap.size≤wk.heap.size:=by have:=hbk.size;have:=(HOK.out.lt g' rfl);omega
  obtain ⟨g5,cap5,w5,hr5,hown5,hgr5,hgB⟩:=push_bytes hok hwk hl4 hb4.bytes (by omega) (by omega) (by omega)
  have hb5:=HBK.out.grown hgr5 HBK.out.size (fun q hq=>by
   cases hq
   have:=HWL.out
   omega)
  have hlen5:(l60++l4).length=64:=by rw [List.length_append,HL6.out,hl4]
  have hw5:=bytesW_own (New w w5) hlen5 (fun q h1 h2=>⟨by have:=HWL.out;omega,h2⟩) hown5
  have HR5:=Lib.hid hr5
  have HW5:=Lib.hid hw5
  have HB5:=Lib.hid hb5
  have HL5:=Lib.hid hlen5
  clear hok hwk hr5 hown5 hgr5 hgB hb5 hw5 hlen5 hl4 hb4 hbk HOK HBK HBJ hsz
  go_wp2_with (at_builtin;refine Lib.wpList_append_run _ rfl _ _ _ _ rfl _ _ rfl rfl _ _ HR5.out ?_)
  go_ret2
  exact ⟨_,_,rfl,⟨_,HL5.out,HW5.out⟩,HB5.out⟩
end Go.Proofs
namespace Go.Proofs
open Go.RowKit Sc
def slotRow (d:Nat) (inn:Nat) (tv:Value) (cnt:Nat):Array Value:=#[pt d,.int .i64 0,.int .i64 3,.int .i64 6,.int .i64 96,.int .i64 inn,tv,.int .i64 cnt,.bool false]
def SlotA (s d inn cnt n:Nat):Asn:=⟨fun F w=>∃ (tv:Value) (l:Bytes),F s∧w.heap[s]? = some (.cells (slotRow d inn tv cnt) 223 (0,0))∧BytesAt F w tv l∧l.length=n∧n≤20000,fun _ _ _ hs _ ⟨tv,l,h1,h2,h3,h4⟩=>⟨tv,l,h1,(hs s h1).trans h2,h3.same hs,h4⟩⟩
section
variable {W w:World} {L:List Asn}
theorem slot_told (h:Sep W L w) (i:Nat) {s d inn cnt n:Nat} (hi:L[i]? = some (SlotA s d inn cnt n)):∃ (F:Nat→Prop) (tv:Value) (l:Bytes),w.heap[s]? = some (.cells (slotRow d inn tv cnt) 223 (0,0))∧BytesAt F w tv l∧l.length=n∧n≤20000:=by
 obtain ⟨F,⟨tv,l,_,h2,h3,h4⟩,_⟩:=h.get i hi
 exact ⟨F,tv,l,h2,h3,h4⟩
set_option maxRecDepth 100000 in
set_option maxHeartbeats 1000000 in
theorem slotLoad (h:Hid (Sep W L w)) (i:Nat) {s d inn cnt n:Nat} (hi:L[i]? = some (SlotA s d inn cnt n)) :
  Calls Tryz.prog 74 #[pt s] w fun e w'=>∃ p c,e=.returned (.tuple #[.slice p n c,.int .i64 cnt])∧(∃ l:Bytes,l.length=n∧BytesW (New w w') w' (.slice p n c) l)∧Below w.heap.size w w':=by
 have HI:=Lib.hid hi
 clear hi
 go_enter Tryz.func74,Tryz.ntmps74
 go_upto_region 3 with fail
 have hbd:=below_drewN (Below.refl w.heap.size w) 1
 have hd:Sep W L w.drew:=h.out.up hbd
 obtain ⟨F,tv,l,hh,hb,hl,hn⟩:=slot_told hd i HI.out
 have c6:w.drew.cell? ⟨s,6,none⟩=some tv:=by rw [cell_row hh];rfl
 have c7:w.drew.cell? ⟨s,7,none⟩=some (.int .i64 cnt):=by rw [cell_row hh];rfl
 have HCL:=Lib.hid (clone_w F tv l w.drew hb (by omega))
 have HL:=Lib.hid hl
 have HBD:Hid (Below w.heap.size w w.drew):=hbd
 clear hd hh hb hl hn hbd
 refine wp_regionG (fun W=>W.cell? ⟨s,6,none⟩=some tv∧W.cell? ⟨s,7,none⟩=some (.int .i64 cnt)) (n:=11) (by kernel_rfl) (by kernel_rfl) ?_
 generalize w.drew=wd at *
 refine wpG.tk 0 ?_
 refine wpG.tk 1 ?_
 refine wpG.tk 2 ?_
 refine wpG.tk 3 ?_ (hy:=by intro W hW;have hld0:=hW.1;go_simp;try with_reducible rfl)
 refine wpG.tk 5 ?_
 refine wpG.tk 6 ?_
 refine wpG.tk 7 ?_
 refine wpG.tk 8 ?_ (hy:=by intro W hW;have hld0:=hW.2;go_simp;try with_reducible rfl)
 refine wpG.alone 4 rfl (by kernel_rfl) (by kernel_rfl) (⟨c6,c7⟩) (fun K hK=>?_)
 go_simp
 go_at_call 45
 refine (HCL.out).mono ?_
 rintro e w2 ⟨v,rfl,hv,hb2⟩
 have u6:=cell_up hb2 c6
 have u7:=cell_up hb2 c7
 obtain ⟨p,c,rfl⟩:=shape_of hv.bytes HL.out
 have HB:=Lib.hid (Below.up HBD.out hb2)
 have HV:=Lib.hid (hv.mono (G':=New w w2) fun q hq=>⟨Nat.le_trans HBD.out.size hq.1,hq.2⟩)
 clear hv hb2 HCL c6 c7
 try go_simp
 refine hK _ _ ?_
 clear hK K
 refine wpG.tk 9 ?_
 refine wpG.tk 10 ?_
 refine wpG.done (by kernel_rfl) ⟨u6,u7⟩ ?_
 go_wp2_with fail
 go_ret2
 exact ⟨p,c,rfl,⟨l,HL.out,HV.out⟩,HB.out⟩
theorem slotDead (h:Sep W L w) (i:Nat) {s d inn cnt n:Nat} (hi:L[i]? = some (SlotA s d inn cnt n)) :
  Calls Tryz.prog 145 #[pt s] w fun e w'=>e=.returned (.bool false)∧w=w':=by
 obtain ⟨F,tv,l,hh,_,_⟩:=slot_told h i hi
 have c0:w.cell? ⟨s,0,none⟩=some (pt d):=by rw [cell_row hh];rfl
 have c8:w.cell? ⟨s,8,none⟩=some (.bool false):=by rw [cell_row hh];rfl
 clear hh h
 go_enter Tryz.func145,Tryz.ntmps145
 go_wp2_with fail
 go_ret
 exact ⟨rfl,rfl⟩
set_option maxRecDepth 100000 in
set_option maxHeartbeats 1000000 in
theorem slotRoom (h:Hid (Sep W L w)) (i:Nat) {s d inn cnt n:Nat} (hi:L[i]? = some (SlotA s d inn cnt n)) :
  Calls Tryz.prog 144 #[pt s] w fun e w'=>e=.returned (.int .i64 11440)∧Hid (Below w.heap.size w w'):=by
 obtain ⟨F,tv,l,hh,_,_⟩:=slot_told h.out i hi
 have c0:w.cell? ⟨s,0,none⟩=some (pt d):=by rw [cell_row hh];rfl
 have hbd:=below_drewN (Below.refl w.heap.size w) 1
 obtain ⟨F',tv',l',hh',_,_⟩:=slot_told (h.out.up hbd) i hi
 have c1:w.drew.cell? ⟨s,1,none⟩=some (.int .i64 0):=(cell_row hh' 1).trans rfl
 have c2:w.drew.cell? ⟨s,2,none⟩=some (.int .i64 3):=(cell_row hh' 2).trans rfl
 have c3:w.drew.cell? ⟨s,3,none⟩=some (.int .i64 6):=(cell_row hh' 3).trans rfl
 have c4:w.drew.cell? ⟨s,4,none⟩=some (.int .i64 96):=(cell_row hh' 4).trans rfl
 have HB:Hid (Below w.heap.size w w.drew):=hbd
 clear hh hh' hbd h hi
 go_enter Tryz.func144,Tryz.ntmps144
 go_upto_region 3 with fail
 refine wp_regionG (fun W=>W.cell? ⟨s,1,none⟩=some (.int .i64 0)∧W.cell? ⟨s,2,none⟩=some (.int .i64 3)∧W.cell? ⟨s,3,none⟩=some (.int .i64 6)) (n:=24) (by kernel_rfl) (by kernel_rfl) ?_
 generalize w.drew=wd at *
 refine wpG.tk 0 ?_
 refine wpG.tk 1 ?_
 refine wpG.tk 2 ?_
 refine wpG.tk 3 ?_
 refine wpG.tk 4 ?_ (hy:=by intro W hW;have hld0:=hW.2.1;go_simp;try with_reducible rfl)
 refine wpG.tk 5 ?_
 refine wpG.tk 6 ?_
 refine wpG.tk 7 ?_
 refine wpG.tk 8 ?_
 refine wpG.tk 9 ?_ (hy:=by intro W hW;have hld0:=hW.1;go_simp;try with_reducible rfl)
 refine wpG.tk 10 ?_
 refine wpG.tk 11 ?_
 refine wpG.tk 12 ?_
 refine wpG.tk 13 ?_
 refine wpG.tk 14 ?_
 refine wpG.tk 15 ?_ (hy:=by intro W hW;have hld0:=hW.2.2;go_simp;try with_reducible rfl)
 refine wpG.tk 16 ?_
 refine wpG.tk 17 ?_
 refine wpG.tk 18 ?_
 refine wpG.tk 19 ?_
 refine wpG.tk 20 ?_ (hy:=by intro W hW;have hld0:=hW.2.1;go_simp;try with_reducible rfl)
 refine wpG.tk 21 ?_
 refine wpG.tk 22 ?_
 refine wpG.tk 23 ?_
 refine wpG.done (by kernel_rfl) ⟨c1,c2,c3⟩ ?_
 go_wp2_with fail
 go_ret
 exact ⟨rfl,HB.out⟩
end
set_option maxRecDepth 100000 in
set_option maxHeartbeats 1000000 in
theorem tail_any (G:Nat→Prop) (v:Value) (l:Bytes) (w:World) (hG:Dom G w) (hv:BytesAt G w v l) (hl:l.length≤20000):Calls Tryz.prog 203 #[v] w (NewN 8 w):=by
 obtain ⟨p,c,rfl⟩:=shape_of hv rfl
 have HV:=Lib.hid hv
 have HG:=Lib.hid hG
 have HL:=Lib.hid hl
 clear hv hG hl
 go_enter Tryz.func203,Tryz.ntmps203
 go_wp2_with fail
 refine (put32_any _ _).mono ?_
 rintro e w1 ⟨p1,c1,rfl,hq1,hb1⟩
 have hv1:=HV.out.up hb1
 have HC:=Lib.hid (crcOf_any G _ l w1 (HG.out.below hb1) hv1)
 have H1:=Lib.hid (some_w hq1)
 have HB1:=Lib.hid hb1
 clear hv1 hq1 hb1
 go_wp2_with fail
 refine (HC.out).mono ?_
 rintro e w2 ⟨⟨y,rfl⟩,hb2⟩
 have H12:=Lib.hid (up_some H1.out hb2.out)
 have HB2:=Lib.hid (Below.up HB1.out hb2.out)
 clear hb2 HC H1 HB1
 go_wp2_with fail
 refine (put32_any y _).mono ?_
 rintro e w3 ⟨p3,c3,rfl,hq3,hb3⟩
 have H13:=Lib.hid (up_some H12.out hb3)
 have H3:=Lib.hid (some_w hq3)
 have HB3:=Lib.hid (Below.up HB2.out hb3)
 clear hq3 hb3 H12 HB2
 have hx:=below_alloc w3 (.cells #[.slice p1 4 c1,.slice p3 4 c3] 40 (0,0))
 have hnw:=heap_alloc_new w3 (.cells #[.slice p1 4 c1,.slice p3 4 c3] 40 (0,0))
 obtain ⟨l1,hl1,hy1⟩:=up_some H13.out hx
 obtain ⟨l3,hl3,hy3⟩:=up_some H3.out hx
 have r0:(w3.alloc (.cells #[.slice p1 4 c1,.slice p3 4 c3] 40 (0,0))).cell? ⟨w3.heap.size,0,none⟩=some (.slice p1 l1.length c1):=by rw [hl1,cell_row hnw];rfl
 have r1:(w3.alloc (.cells #[.slice p1 4 c1,.slice p3 4 c3] 40 (0,0))).cell? ⟨w3.heap.size,1,none⟩=some (.slice p3 l3.length c3):=by rw [hl3,cell_row hnw];rfl
 have k1:BytesAt (fun _=>True) (w3.alloc (.cells #[.slice p1 4 c1,.slice p3 4 c3] 40 (0,0))) (.slice p1 l1.length c1) l1:=by rw [hl1];exact hy1
 have k3:BytesAt (fun _=>True) (w3.alloc (.cells #[.slice p1 4 c1,.slice p3 4 c3] 40 (0,0))) (.slice p3 l3.length c3) l3:=by rw [hl3];exact hy3
 have htot:[l1,l3].flatten.length=8:=by simp [hl1,hl3]
 have hcat:=concatB_any (fun _=>True) w3.heap.size 2 [l1,l3] _ rfl (by omega) (fun j hj=>by
  simp only [List.length_cons,List.length_nil] at hj
  rcases (show j=0∨j=1 by omega) with rfl | rfl
  ·exact ⟨_,_,r0,k1⟩
  ·exact ⟨_,_,r1,k3⟩) (by rw [htot];omega)
 have HBX:=Lib.hid (Below.up HB3.out hx)
 have HCAT:=Lib.hid hcat
 have HT:=Lib.hid htot
 clear hx hnw hl1 hl3 hy1 hy3 r0 r1 k1 k3 htot hcat
 generalize [l1,l3].flatten=fl at *
 go_wp2_with fail
 refine (HCAT.out).mono ?_
 rintro e w5 ⟨v5,rfl,hrow,hb5⟩
 have hrow1:=hrow.out
 rw [HT.out] at hrow1
 obtain ⟨g,cap,rfl⟩:∃ g cap,v5=.slice (some ⟨g,0,none⟩) 8 cap:=by
  obtain ⟨_,⟨_,h0⟩ | ⟨g,cap,cur,e,_⟩⟩:=hrow1
  ·omega
  ·exact ⟨g,cap,e⟩
 have hz:=HBX.out.size
 have HW:=Lib.hid (bytesW_own (New w w5) HT.out (fun q h1 h2=>⟨by omega,h2⟩) hrow1)
 have HB5:=Lib.hid (Below.up HBX.out hb5.out)
 clear hrow hrow1 hb5 hz
 go_wp2_with fail
 go_ret
 exact ⟨_,_,rfl,⟨fl,HT.out,HW.out⟩,HB5.out⟩
end Go.Proofs
namespace Go.Proofs
open Go.RowKit Sc
theorem idxNil (fv:Value) (w:World):Calls Tryz.prog 138 #[.slice none 0 0,fv] w fun e w'=>e=.returned (.int .i64 (-1))∧w=w':=by
 go_enter Tryz.func138,Tryz.ntmps138
 go_wp2_with fail
 go_loopw [8] (fun s8 wr=>s8=.int .i64 0∧wr=w) (fun _ _=>0)
 case atStart=>exact ⟨rfl,rfl⟩
 case round =>
  obtain ⟨rfl,hw⟩:=hrel
  rw [hw]
  go_wp2_with fail
  go_ret
  exact ⟨rfl,rfl⟩
theorem hasNil (fv:Value) (w:World):Calls Tryz.prog 77 #[.slice none 0 0,fv] w fun e w'=>e=.returned (.bool false)∧w=w':=by
 go_enter Tryz.func77,Tryz.ntmps77
 go_wp2_with fail
 refine (idxNil _ _).mono ?_
 rintro e w1 ⟨rfl,rfl⟩
 go_wp2_with fail
 go_ret
 exact ⟨rfl,rfl⟩
theorem readNil (w:World):Calls Tryz.prog 134 #[.slice none 0 0] w fun e w'=>e=.returned (.tuple #[.slice none 0 0,.int .i64 0])∧w=w':=by
 go_enter Tryz.func134,Tryz.ntmps134
 go_wp2_with fail
 go_step3
 go_wp2_with fail
 go_step3
 go_wp2_with fail
 go_loopw [10] (fun s10 wr=>s10=.int .i64 0∧wr=w) (fun _ _=>0)
 case atStart=>exact ⟨rfl,rfl⟩
 case round =>
  obtain ⟨rfl,hw⟩:=hrel
  rw [hw]
  go_wp2_with fail
  try rw [Exit.noGoto_ret]
  go_ret2
  exact ⟨rfl,rfl⟩
section
variable {W w:World} {L:List Asn}
set_option maxRecDepth 100000 in
set_option maxHeartbeats 1000000 in
theorem slotBlocks0 (h:Hid (Sep W L w)) (i j:Nat) {s d inn cnt n:Nat} {zs:List Nat} (hi:L[i]? = some (SlotA s d inn cnt n)) (hj:L[j]? = some (DevA (pt d) zs)) (k:Nat) (hk:k < 2) (hz:zs[3 * k]? = some 0) :
  Calls Tryz.prog 132 #[pt s,.int .i64 k] w fun e w'=>e=.returned (.slice none 0 0)∧w=w':=by
 obtain ⟨F,tv,l,hh,_,_⟩:=slot_told h.out i hi
 have c0:w.cell? ⟨s,0,none⟩=some (pt d):=by rw [cell_row hh];rfl
 have c1:w.cell? ⟨s,1,none⟩=some (.int .i64 0):=by rw [cell_row hh];rfl
 have c2:w.cell? ⟨s,2,none⟩=some (.int .i64 3):=by rw [cell_row hh];rfl
 have c3:w.cell? ⟨s,3,none⟩=some (.int .i64 6):=by rw [cell_row hh];rfl
 have c4:w.cell? ⟨s,4,none⟩=some (.int .i64 96):=by rw [cell_row hh];rfl
 have HP:=Lib.hid (devPointer h j hj (k:=3 * k) (n:=0) (by omega) hz)
 clear hh h hi hj hz
 rcases (show k=0∨k=1 by omega) with rfl | rfl
 ·have HQ:Hid (Calls Tryz.prog 86 #[pt d,.int .i64 0] w fun e w'=>e=.returned (.tuple #[.int .i64 0,.int .i64 0])∧w=w'):=HP
  clear HP
  go_enter Tryz.func132,Tryz.ntmps132
  go_wp2_with fail
  go_loopw [4,5] (fun s4 s5 wr=>s4=.slice none 0 0∧s5=.int .i64 0∧wr=w) (fun _ _ _=>0)
  case atStart=>exact ⟨rfl,rfl,rfl⟩
  case round =>
   obtain ⟨rfl,rfl,hw⟩:=hrel
   rw [hw]
   go_wp2_with fail
   refine (HQ.out).mono ?_
   rintro e w2 ⟨rfl,rfl⟩
   go_wp2_with fail
   go_loopw [4,38] (fun s4 s38 wr=>s4=.slice none 0 0∧s38=.int .i64 0∧wr=w) (fun _ _ _=>0)
   case atStart=>exact ⟨rfl,rfl,rfl⟩
   case round =>
    obtain ⟨rfl,rfl,hw2⟩:=hrel
    rw [hw2]
    go_wp2_with fail
    go_ret
    exact ⟨rfl,rfl⟩
 ·have HQ:Hid (Calls Tryz.prog 86 #[pt d,.int .i64 3] w fun e w'=>e=.returned (.tuple #[.int .i64 0,.int .i64 0])∧w=w'):=HP
  clear HP
  go_enter Tryz.func132,Tryz.ntmps132
  go_wp2_with fail
  go_loopw [4,5] (fun s4 s5 wr=>s4=.slice none 0 0∧s5=.int .i64 3∧wr=w) (fun _ _ _=>0)
  case atStart=>exact ⟨rfl,rfl,rfl⟩
  case round =>
   obtain ⟨rfl,rfl,hw⟩:=hrel
   rw [hw]
   go_wp2_with fail
   refine (HQ.out).mono ?_
   rintro e w2 ⟨rfl,rfl⟩
   go_wp2_with fail
   go_loopw [4,38] (fun s4 s38 wr=>s4=.slice none 0 0∧s38=.int .i64 0∧wr=w) (fun _ _ _=>0)
   case atStart=>exact ⟨rfl,rfl,rfl⟩
   case round =>
    obtain ⟨rfl,rfl,hw2⟩:=hrel
    rw [hw2]
    go_wp2_with fail
    go_ret
    exact ⟨rfl,rfl⟩
set_option maxRecDepth 100000 in
set_option maxHeartbeats 1000000 in
theorem slotOpen0 (h:Hid (Sep W L w)) (j:Nat) {d:Nat} (hj:L[j]? = some (DevA (pt d) (List.replicate 8 0))) :
  Calls Tryz.prog 73 #[pt d,.int .i64 0,.int .i64 3,.int .i64 6] w fun e w'=>∃ s:Nat,e=.returned (.tuple #[pt s,.int .i64 0])∧Hid (Sep W (L++[SlotA s d 1 0 0]) w'):=by
 have HGE:=Lib.hid (devGeometry h j hj)
 have HJ:=Lib.hid hj
 clear hj
 go_enter Tryz.func73,Tryz.ntmps73
 go_wp2_with fail
 refine (HGE.out).mono ?_
 rintro e w1 ⟨rfl,hb1⟩
 have HS1:=Lib.hid (h.out.up hb1.out)
 clear HGE hb1 h
 have hba:=below_alloc w1 (.cells #[.int .i64 8,.int .i64 96] 62 (0,0))
 have hs2:=Go.Proofs.Sep.boxT (HS1.out.up hba) (slotRow d 1 (.slice none 0 0) 0) 223
 have hz2:(w1.alloc (.cells #[.int .i64 8,.int .i64 96] 62 (0,0))).heap.size=w1.heap.size+1:=by simp
 rw [hz2] at hs2
 have hs3:=hs2.imp L.length (A:=BoxA (w1.heap.size+1) (slotRow d 1 (.slice none 0 0) 0) 223) (A':=SlotA (w1.heap.size+1) d 1 0 0) (by rw [List.getElem?_append_right (Nat.le_refl _),Nat.sub_self];rfl) fun F _ hP=>⟨_,[],hP.1,hP.2,SlAt.nil,rfl,by omega⟩
 rw [List.set_append_right _ _ (Nat.le_refl _),Nat.sub_self] at hs3
 have HS3:Hid (Sep W (L++[SlotA (w1.heap.size+1) d 1 0 0]) ((w1.alloc (.cells #[.int .i64 8,.int .i64 96] 62 (0,0))).alloc (.cells #[pt d,.int .i64 0,.int .i64 3,.int .i64 6,.int .i64 96,.int .i64 1,.slice none 0 0,.int .i64 0,.bool false] 223 (0,0)))):=hs3
 clear hba hs2 hs3 hz2 HS1
 go_wp2_with fail
 generalize (w1.alloc (.cells #[.int .i64 8,.int .i64 96] 62 (0,0))).alloc (.cells #[pt d,.int .i64 0,.int .i64 3,.int .i64 6,.int .i64 96,.int .i64 1,.slice none 0 0,.int .i64 0,.bool false] 223 (0,0))=w3 at *
 generalize w1.heap.size+1=s at *
 have HJ3:Hid ((L++[SlotA s d 1 0 0])[j]? = some (DevA (pt d) (List.replicate 8 0))):=by
  show _=_
  rw [List.getElem?_append_left (List.getElem?_eq_some_iff.1 HJ.out).1]
  exact HJ.out
 have HI3:Hid ((L++[SlotA s d 1 0 0])[L.length]? = some (SlotA s d 1 0 0)):=by
  show _=_
  rw [List.getElem?_append_right (Nat.le_refl _),Nat.sub_self];rfl
 go_loopw [51] (fun s51 wr=>∃ k:Nat,k≤2∧s51=.int .i64 (k:Int)∧wr=w3) (fun s51 _=>2 - (intOf s51).toNat)
 case atStart=>exact ⟨0,by omega,by go_num,rfl⟩
 case round =>
  obtain ⟨k,hk,rfl,hw⟩:=hrel
  rw [hw]
  clear hw
  by_cases hlt:k < 2
  case pos =>
   have hk2:(k:Int) < 2:=by omega
   have HBL:=Lib.hid (slotBlocks0 HS3 L.length j HI3.out HJ3.out k hlt (by rcases (show k=0∨k=1 by omega) with rfl | rfl <;> rfl))
   go_wp2_with fail
   refine (HBL.out).mono ?_
   rintro e w4 ⟨rfl,rfl⟩
   go_wp2_with fail
   refine (hasNil _ _).mono ?_
   rintro e w4 ⟨rfl,rfl⟩
   go_wp2_with fail
   refine (readNil _).mono ?_
   rintro e w4 ⟨rfl,rfl⟩
   obtain ⟨F,tv,l,hh,_,_⟩:=slot_told HS3.out L.length HI3.out
   have c7:w3.cell? ⟨s,7,none⟩=some (.int .i64 0):=by rw [cell_row hh];rfl
   clear hh HBL
   go_wp2_with fail
   go_roundw
   case rel=>exact ⟨k+1,by omega,by go_num,by first | rfl | trivial⟩
   case measure=>simp [intOf];omega
  case neg =>
   obtain rfl:k=2:=by omega
   have HFL:=Lib.hid (devFlush HS3 j HJ3.out)
   go_wp2_with fail
   refine (HFL.out).mono ?_
   rintro e w4 ⟨rfl,HS4⟩
   go_wp2_with fail
   go_ret2
   exact ⟨s,rfl,HS4⟩
end
end Go.Proofs
namespace Go.Proofs
open Go.RowKit Sc
def storeRow (d m s pos num:Nat):Array Value:=#[pt d,.int .i64 0,.int .i64 3,.int .i64 6,.int .i64 7,pt m,pt s,.int .i64 pos,.int .i64 num,.bool false]
def StoreB (st d m s pos num:Nat):Asn:=BoxA st (storeRow d m s pos num) 118
section
variable {W w:World} {L:List Asn} {st d m s pos num:Nat}
theorem st_cells (h:Sep W L w) (i:Nat) (hi:L[i]? = some (StoreB st d m s pos num)):w.heap[st]? = some (.cells (storeRow d m s pos num) 118 (0,0)):=by
 obtain ⟨F,hF,_⟩:=h.get i hi
 exact hF.2
theorem stDead (h:Sep W L w) (i:Nat) (hi:L[i]? = some (StoreB st d m s pos num)):Calls Tryz.prog 52 #[pt st] w fun e w'=>e=.returned (.bool false)∧w=w':=by
 have hh:=st_cells h i hi
 have c0:w.cell? ⟨st,0,none⟩=some (pt d):=by rw [cell_row hh];rfl
 have c9:w.cell? ⟨st,9,none⟩=some (.bool false):=by rw [cell_row hh];rfl
 clear hh h
 go_enter Tryz.func52,Tryz.ntmps52
 go_wp2_with fail
 go_ret
 exact ⟨rfl,rfl⟩
theorem stManager (h:Sep W L w) (i:Nat) (hi:L[i]? = some (StoreB st d m s pos num)):Calls Tryz.prog 46 #[pt st] w fun e w'=>e=.returned (pt m)∧w=w':=by
 have hh:=st_cells h i hi
 have c5:w.cell? ⟨st,5,none⟩=some (pt m):=by rw [cell_row hh];rfl
 clear hh h
 go_enter Tryz.func46,Tryz.ntmps46
 go_wp2_with fail
 go_ret
 exact ⟨rfl,rfl⟩
theorem stBegin (h:Sep W L w) (i:Nat) (hi:L[i]? = some (StoreB st d m s pos num))  {R:Ending→World→Prop} (hq:Calls Tryz.prog 155 #[pt m] w R) (hR:∀ e w',R e w'→∃ x y,e=.returned (.tuple #[x,y])):Calls Tryz.prog 94 #[pt st] w R:=by
 have HD:=Lib.hid (stDead h i hi)
 have hh:=st_cells h i hi
 have c5:w.cell? ⟨st,5,none⟩=some (pt m):=by rw [cell_row hh];rfl
 have HQ:=Lib.hid hq
 clear hh h hi hq
 go_enter Tryz.func94,Tryz.ntmps94
 go_wp2_with fail
 refine (HD.out).mono ?_
 rintro e w1 ⟨rfl,rfl⟩
 go_wp2_with fail
 refine (HQ.out).mono ?_
 rintro e w2 hr
 obtain ⟨x,y,rfl⟩:=hR _ _ hr
 go_wp2_with fail
 first
  | exact hr
  | (go_ret2;exact hr)
theorem stWrite (h:Sep W L w) (i:Nat) (hi:L[i]? = some (StoreB st d m s pos num)) (a:Value) (b:Value) {R:Ending→World→Prop} (hq:Calls Tryz.prog 157 #[pt m,a,b] w R) (hR:∀ e w',R e w'→∃ x,e=.returned x):Calls Tryz.prog 96 #[pt st,a,b] w R:=by
 have HD:=Lib.hid (stDead h i hi)
 have hh:=st_cells h i hi
 have c5:w.cell? ⟨st,5,none⟩=some (pt m):=by rw [cell_row hh];rfl
 have HQ:=Lib.hid hq
 clear hh h hi hq
 go_enter Tryz.func96,Tryz.ntmps96
 go_wp2_with fail
 refine (HD.out).mono ?_
 rintro e w1 ⟨rfl,rfl⟩
 go_wp2_with fail
 refine (HQ.out).mono ?_
 rintro e w2 hr
 obtain ⟨x,rfl⟩:=hR _ _ hr
 go_wp2_with fail
 first
  | exact hr
  | (go_ret;exact hr)
theorem stAbort (h:Sep W L w) (i:Nat) (hi:L[i]? = some (StoreB st d m s pos num)) (a:Value) {R:Ending→World→Prop} (hq:Calls Tryz.prog 158 #[pt m,a] w R) (hR:∀ e w',R e w'→∃ x,e=.returned x):Calls Tryz.prog 97 #[pt st,a] w R:=by
 have HD:=Lib.hid (stDead h i hi)
 have hh:=st_cells h i hi
 have c5:w.cell? ⟨st,5,none⟩=some (pt m):=by rw [cell_row hh];rfl
 have HQ:=Lib.hid hq
 clear hh h hi hq
 go_enter Tryz.func97,Tryz.ntmps97
 go_wp2_with fail
 refine (HD.out).mono ?_
 rintro e w1 ⟨rfl,rfl⟩
 go_wp2_with fail
 refine (HQ.out).mono ?_
 rintro e w2 hr
 obtain ⟨x,rfl⟩:=hR _ _ hr
 go_wp2_with fail
 first
  | exact hr
  | (go_ret;exact hr)
theorem stCommit (h:Sep W L w) (i:Nat) (hi:L[i]? = some (StoreB st d m s pos num)) (a:Value) {R:Ending→World→Prop} (hq:Calls Tryz.prog 222 #[pt m,a] w R) (hR:∀ e w',R e w'→∃ x,e=.returned x):Calls Tryz.prog 160 #[pt st,a] w R:=by
 have HD:=Lib.hid (stDead h i hi)
 have hh:=st_cells h i hi
 have c5:w.cell? ⟨st,5,none⟩=some (pt m):=by rw [cell_row hh];rfl
 have HQ:=Lib.hid hq
 clear hh h hi hq
 go_enter Tryz.func160,Tryz.ntmps160
 go_wp2_with fail
 refine (HD.out).mono ?_
 rintro e w1 ⟨rfl,rfl⟩
 go_wp2_with fail
 refine (HQ.out).mono ?_
 rintro e w2 hr
 obtain ⟨x,rfl⟩:=hR _ _ hr
 go_wp2_with fail
 first
  | exact hr
  | (go_ret;exact hr)
theorem stClean (h:Sep W L w) (i:Nat) (hi:L[i]? = some (StoreB st d m s pos num))  {R:Ending→World→Prop} (hq:Calls Tryz.prog 88 #[pt m] w R) (hR:∀ e w',R e w'→∃ x,e=.returned x):Calls Tryz.prog 41 #[pt st] w R:=by
 have HD:=Lib.hid (stDead h i hi)
 have hh:=st_cells h i hi
 have c5:w.cell? ⟨st,5,none⟩=some (pt m):=by rw [cell_row hh];rfl
 have HQ:=Lib.hid hq
 clear hh h hi hq
 go_enter Tryz.func41,Tryz.ntmps41
 go_wp2_with fail
 refine (HD.out).mono ?_
 rintro e w1 ⟨rfl,rfl⟩
 go_wp2_with fail
 refine (HQ.out).mono ?_
 rintro e w2 hr
 obtain ⟨x,rfl⟩:=hR _ _ hr
 go_wp2_with fail
 first
  | exact hr
  | (go_ret;exact hr)
theorem stResult (h:Sep W L w) (i:Nat) (hi:L[i]? = some (StoreB st d m s pos num)) (a:Value) {R:Ending→World→Prop} (hq:Calls Tryz.prog 221 #[pt m,a] w R) (hR:∀ e w',R e w'→∃ x y z,e=.returned (.tuple #[x,y,z])):Calls Tryz.prog 159 #[pt st,a] w R:=by
 have HD:=Lib.hid (stManager h i hi)
 have hh:=st_cells h i hi
 have c5:w.cell? ⟨st,5,none⟩=some (pt m):=by rw [cell_row hh];rfl
 have HQ:=Lib.hid hq
 clear hh h hi hq
 go_enter Tryz.func159,Tryz.ntmps159
 go_wp2_with fail
 refine (HD.out).mono ?_
 rintro e w1 ⟨rfl,rfl⟩
 go_wp2_with fail
 refine (HQ.out).mono ?_
 rintro e w2 hr
 obtain ⟨x,y,z,rfl⟩:=hR _ _ hr
 go_wp2_with fail
 first
  | exact hr
  | (go_ret3;exact hr)
theorem stLast (h:Sep W L w) (i:Nat) (hi:L[i]? = some (StoreB st d m s pos num))  {R:Ending→World→Prop} (hq:Calls Tryz.prog 148 #[pt m] w R) (hR:∀ e w',R e w'→∃ x,e=.returned x):Calls Tryz.prog 93 #[pt st] w R:=by
 have HD:=Lib.hid (stManager h i hi)
 have hh:=st_cells h i hi
 have c5:w.cell? ⟨st,5,none⟩=some (pt m):=by rw [cell_row hh];rfl
 have HQ:=Lib.hid hq
 clear hh h hi hq
 go_enter Tryz.func93,Tryz.ntmps93
 go_wp2_with fail
 refine (HD.out).mono ?_
 rintro e w1 ⟨rfl,rfl⟩
 go_wp2_with fail
 refine (HQ.out).mono ?_
 rintro e w2 hr
 obtain ⟨x,rfl⟩:=hR _ _ hr
 go_wp2_with fail
 first
  | exact hr
  | (go_ret;exact hr)
theorem stOpen (h:Sep W L w) (i:Nat) (hi:L[i]? = some (StoreB st d m s pos num))  {R:Ending→World→Prop} (hq:Calls Tryz.prog 190 #[pt m] w R) (hR:∀ e w',R e w'→∃ x,e=.returned x):Calls Tryz.prog 120 #[pt st] w R:=by
 have HD:=Lib.hid (stManager h i hi)
 have hh:=st_cells h i hi
 have c5:w.cell? ⟨st,5,none⟩=some (pt m):=by rw [cell_row hh];rfl
 have HQ:=Lib.hid hq
 clear hh h hi hq
 go_enter Tryz.func120,Tryz.ntmps120
 go_wp2_with fail
 refine (HD.out).mono ?_
 rintro e w1 ⟨rfl,rfl⟩
 go_wp2_with fail
 refine (HQ.out).mono ?_
 rintro e w2 hr
 obtain ⟨x,rfl⟩:=hR _ _ hr
 go_wp2_with fail
 first
  | exact hr
  | (go_ret;exact hr)
theorem stQueue (h:Sep W L w) (i:Nat) (hi:L[i]? = some (StoreB st d m s pos num))  {R:Ending→World→Prop} (hq:Calls Tryz.prog 191 #[pt m] w R) (hR:∀ e w',R e w'→∃ x,e=.returned x):Calls Tryz.prog 121 #[pt st] w R:=by
 have HD:=Lib.hid (stManager h i hi)
 have hh:=st_cells h i hi
 have c5:w.cell? ⟨st,5,none⟩=some (pt m):=by rw [cell_row hh];rfl
 have HQ:=Lib.hid hq
 clear hh h hi hq
 go_enter Tryz.func121,Tryz.ntmps121
 go_wp2_with fail
 refine (HD.out).mono ?_
 rintro e w1 ⟨rfl,rfl⟩
 go_wp2_with fail
 refine (HQ.out).mono ?_
 rintro e w2 hr
 obtain ⟨x,rfl⟩:=hR _ _ hr
 go_wp2_with fail
 first
  | exact hr
  | (go_ret;exact hr)
theorem stReadOnly (h:Sep W L w) (i:Nat) (hi:L[i]? = some (StoreB st d m s pos num)) (a:Value) {R:Ending→World→Prop} (hq:Calls Tryz.prog 89 #[pt m,a] w R) (hR:∀ e w',R e w'→e=.returned (.tuple #[])):Calls Tryz.prog 42 #[pt st,a] w R:=by
 have HD:=Lib.hid (stManager h i hi)
 have hh:=st_cells h i hi
 have c5:w.cell? ⟨st,5,none⟩=some (pt m):=by rw [cell_row hh];rfl
 have HQ:=Lib.hid hq
 clear hh h hi hq
 go_enter Tryz.func42,Tryz.ntmps42
 go_wp2_with fail
 refine (HD.out).mono ?_
 rintro e w1 ⟨rfl,rfl⟩
 go_wp2_with fail
 refine (HQ.out).mono ?_
 rintro e w2 hr
 obtain rfl:=hR _ _ hr
 go_wp2_with fail
 first
  | exact hr
  | (go_end0;exact hr)
end
end Go.Proofs
namespace Go.Proofs
open Go.RowKit Sc
section
variable {W w:World} {L:List Asn} {i:Nat} {c:MgC} {s:MgS}
set_option maxRecDepth 100000 in
set_option maxHeartbeats 1000000 in
theorem history_far (h:Hid (Sep W (OL L i (mgrItems c s)) w)) (hc:c.cs.length=s.txs.length) (hi:i < L.length) {n:Int} (hn:¬ (1≤n∧n≤s.txs.length)) :
  Calls Tryz.prog 47 #[.pointer (some ⟨c.mb,0,none⟩),.int .i64 n] w fun e w'=>e=.returned (histV default none none 0 0)∧Hid (Below w.heap.size w w'):=by
 have h':Hid (Sep W (OL (L++[BoxA w.heap.size #[.int .i64 0,.int .i64 0,.int .i64 0,.int .i64 0,.int .i64 0,.slice none 0 0,.slice none 0 0] 39]) i (mgrItems c s)) (w.alloc (.cells #[.int .i64 0,.int .i64 0,.int .i64 0,.int .i64 0,.int .i64 0,.slice none 0 0,.slice none 0 0] 39))):=h.out.boxed hi _ _
 obtain ⟨c0,_,c2,_⟩:=mgr_cells h'.out
 have hl:=(mgr_map h'.out).lookup Tryz.underlying174 Tryz.underlying3 (Tryz.zeroValue170 (w.alloc (.cells #[.int .i64 0,.int .i64 0,.int .i64 0,.int .i64 0,.int .i64 0,.slice none 0 0,.slice none 0 0] 39))) n true
 rw [look_ml_no (by rw [hc];exact hn)] at hl
 simp only [Option.getD_none,Option.isSome_none,if_true] at hl
 have hnw:=heap_alloc_new w (.cells #[.int .i64 0,.int .i64 0,.int .i64 0,.int .i64 0,.int .i64 0,.slice none 0 0,.slice none 0 0] 39)
 have HB:=Lib.hid (below_alloc w (.cells #[.int .i64 0,.int .i64 0,.int .i64 0,.int .i64 0,.int .i64 0,.slice none 0 0,.slice none 0 0] 39))
 have HNW:=Lib.hid hnw
 clear h h' hi hn hc hnw
 go_enter Tryz.func47,Tryz.ntmps47
 go_wp2_with fail
 refine (gone_any c.mb c.m _ c0).mono ?_
 rintro e w1 ⟨rfl,rfl⟩
 clear c0
 go_wp2_with fail
 (try simp only [Exit.inBlock,Exit.then])
 refine ret_cell_one rfl (b:=w.heap.size) (t:=39) (fr:=(0,0)) rfl (cs:=#[.int .i64 0,.int .i64 0,.int .i64 0,.int .i64 0,.int .i64 0,.slice none 0 0,.slice none 0 0]) ?_ (Tryz.underlying39) rfl (by kernel_rfl) rfl ?_
 ·exact HNW.out
 ·exact ⟨rfl,HB.out⟩
end
theorem mgHistory_all {W w:World} {L:List Asn} (h:Hid (Sep W L w)) (i:Nat) {b:Nat} {s:MgS} (hi:L[i]? = some (MgrA (pt b) s)) {n:Nat} (g:MgG n s) (hn:n≤1000000) {hd:Int} (h1:1≤hd) :
  Calls Tryz.prog 47 #[.pointer (some ⟨b,0,none⟩),.int .i64 hd] w fun e w'=>∃ rp rc pp pc,e=.returned (histV (txAt s.txs hd) rp pp rc pc) ∧
   Hid (Sep W (L++[ReadsWA (.slice rp (txAt s.txs hd).R.length rc) (txAt s.txs hd).R,PutsWA (.slice pp (txAt s.txs hd).buf.length pc) (bufPuts (txAt s.txs hd).buf)]) w'):=by
 have hil:=(List.getElem?_eq_some_iff.1 hi).1
 by_cases h2:hd≤s.txs.length
 ·refine (mgHistory_sep h i hi g hn h1 h2).mono ?_
  rintro e w' ⟨rp,rc,pp,pc,rfl,hS⟩
  rw [set_same (by rw [List.getElem?_append_left hil];exact hi)] at hS
  exact ⟨rp,rc,pp,pc,rfl,hS⟩
 ·obtain ⟨c,e1,hc,hS,_⟩:=MgrA.open' h i hi
  cases e1
  have e0:txAt s.txs hd=default:=by
   unfold txAt
   rw [List.getElem?_eq_none (by omega)];rfl
  rw [e0]
  refine (history_far hS hc hil (n:=hd) (fun hh=>h2 hh.2)).mono ?_
  rintro e w' ⟨rfl,hb⟩
  refine ⟨none,0,none,0,rfl,?_⟩
  have h3:=(h.out.up hb.out).new (Below.refl _ _) (ReadsWA (.slice none 0 0) []) (F:=fun _=>False) (fun _ h=>h.elim) SlAt.nil
  have h4:=h3.new (Below.refl _ _) (PutsWA (.slice none 0 0) []) (F:=fun _=>False) (fun _ h=>h.elim) SlAt.nil
  rw [List.append_assoc] at h4
  have e1:(bufPuts (default:TxS).buf)=[]:=by show bufPuts []=[];unfold bufPuts keysUp;simp
  rw [e1]
  exact h4
end Go.Proofs
namespace Go.Proofs
open Go.RowKit Sc
section
variable {W w:World} {L:List Asn} {st d m s pos num:Nat}
set_option maxRecDepth 100000 in
set_option maxHeartbeats 1000000 in
theorem stHistory (h:Hid (Sep W L w)) (i:Nat) (hi:L[i]? = some (StoreB st d m s pos num)) (j:Nat) {S:MgS} (hj:L[j]? = some (MgrA (pt m) S)) {n:Nat} (g:MgG n S) (hn:n≤1000000) {hd:Int} (h1:1≤hd) :
  Calls Tryz.prog 26 #[pt st,.int .i64 hd] w fun e w'=>∃ rp rc pp pc,e=.returned (histV (txAt S.txs hd) rp pp rc pc) ∧
   Hid (Sep W (L++[ReadsWA (.slice rp (txAt S.txs hd).R.length rc) (txAt S.txs hd).R,PutsWA (.slice pp (txAt S.txs hd).buf.length pc) (bufPuts (txAt S.txs hd).buf)]) w'):=by
 have hil:=(List.getElem?_eq_some_iff.1 hi).1
 have hjl:=(List.getElem?_eq_some_iff.1 hj).1
 have hs1:=Go.Proofs.Sep.boxT h.out #[.int .i64 0,.int .i64 0,.int .i64 0,.int .i64 0,.int .i64 0,.slice none 0 0,.slice none 0 0] 39
 obtain ⟨B,hB⟩:∃ B,w.heap.size=B:=⟨_,rfl⟩
 rw [hB] at hs1
 have HM:=Lib.hid (stManager hs1 i (by rw [List.getElem?_append_left hil];exact hi))
 have HH:=Lib.hid (mgHistory_all (Lib.hid hs1) j (by rw [List.getElem?_append_left hjl];exact hj) g hn h1)
 clear h hi hj hs1 g h1 hil hjl
 go_enter Tryz.func26,Tryz.ntmps26
 go_wp2_with fail
 refine (HM.out).mono ?_
 rintro e w1 ⟨rfl,rfl⟩
 go_wp2_with fail
 refine (HH.out).mono ?_
 rintro e w2 ⟨rp,rc,pp,pc,rfl,hS2⟩
 have hs2:=hS2.out
 rw [List.append_assoc] at hs2
 have hbi:(L++([BoxA B #[.int .i64 0,.int .i64 0,.int .i64 0,.int .i64 0,.int .i64 0,.slice none 0 0,.slice none 0 0] 39]++[ReadsWA (.slice rp (txAt S.txs hd).R.length rc) (txAt S.txs hd).R,PutsWA (.slice pp (txAt S.txs hd).buf.length pc) (bufPuts (txAt S.txs hd).buf)]))[L.length]? = some (BoxA B #[.int .i64 0,.int .i64 0,.int .i64 0,.int .i64 0,.int .i64 0,.slice none 0 0,.slice none 0 0] 39):=by
  rw [List.getElem?_append_right (Nat.le_refl _),Nat.sub_self];rfl
 obtain ⟨F,hF,_⟩:=hs2.get L.length hbi
 have hh:=hF.2
 have q0:w2.cell? ⟨B,0,none⟩=some (.int .i64 0):=by rw [cell_row hh];rfl
 have q1:w2.cell? ⟨B,1,none⟩=some (.int .i64 0):=by rw [cell_row hh];rfl
 have q2:w2.cell? ⟨B,2,none⟩=some (.int .i64 0):=by rw [cell_row hh];rfl
 have q3:w2.cell? ⟨B,3,none⟩=some (.int .i64 0):=by rw [cell_row hh];rfl
 have q4:w2.cell? ⟨B,4,none⟩=some (.int .i64 0):=by rw [cell_row hh];rfl
 have q5:w2.cell? ⟨B,5,none⟩=some (.slice none 0 0):=by rw [cell_row hh];rfl
 have q6:w2.cell? ⟨B,6,none⟩=some (.slice none 0 0):=by rw [cell_row hh];rfl
 have f0:=frozen_row0 hh 0
 have f1:=frozen_row0 hh 1
 have f2:=frozen_row0 hh 2
 have f3:=frozen_row0 hh 3
 have f4:=frozen_row0 hh 4
 have f5:=frozen_row0 hh 5
 have f6:=frozen_row0 hh 6
 have hs3:=box_fill7 hs2 hbi (.int .i64 (txAt S.txs hd).st) (.int .i64 (txAt S.txs hd).at') (.int .i64 (txAt S.txs hd).tm) (.int .i64 0) (.int .i64 0) (.slice rp (txAt S.txs hd).R.length rc) (.slice pp (txAt S.txs hd).buf.length pc)
 rw [List.set_append_right _ _ (Nat.le_refl _),Nat.sub_self] at hs3
 obtain ⟨F3,hF3,_⟩:=hs3.get L.length (A:=BoxA B #[.int .i64 (txAt S.txs hd).st,.int .i64 (txAt S.txs hd).at',.int .i64 (txAt S.txs hd).tm,.int .i64 0,.int .i64 0,.slice rp (txAt S.txs hd).R.length rc,.slice pp (txAt S.txs hd).buf.length pc] 39) (by rw [List.getElem?_append_right (Nat.le_refl _),Nat.sub_self];rfl)
 have HF3:=Lib.hid hF3.2
 have hs4:=hs3.erase L.length
 rw [List.eraseIdx_append_of_length_le (Nat.le_refl _),Nat.sub_self] at hs4
 have HS4:Hid (Sep W (L++[ReadsWA (.slice rp (txAt S.txs hd).R.length rc) (txAt S.txs hd).R,PutsWA (.slice pp (txAt S.txs hd).buf.length pc) (bufPuts (txAt S.txs hd).buf)]) _):=hs4
 have HB:=Lib.hid hB
 clear hs2 hs3 hs4 hF hF3 hh hbi hS2 HM HH
 unfold histV
 go_wp2_with fail
 (try simp only [Exit.inBlock,Exit.then])
 refine ret_cell_one rfl (b:=B) (t:=39) (fr:=(0,0)) ?_ (cs:=#[.int .i64 (txAt S.txs hd).st,.int .i64 (txAt S.txs hd).at',.int .i64 (txAt S.txs hd).tm,.int .i64 0,.int .i64 0,.slice rp (txAt S.txs hd).R.length rc,.slice pp (txAt S.txs hd).buf.length pc]) ?_ (Tryz.underlying39) rfl (by kernel_rfl) rfl ?_
 ·rfl
 ·exact HF3.out
 ·exact ⟨rp,rc,pp,pc,rfl,HS4⟩
end
end Go.Proofs
namespace Go.Proofs
open Go.RowKit Sc
set_option maxRecDepth 100000 in
set_option maxHeartbeats 1000000 in
theorem parseNil {W w:World} {L:List Asn} (h:Hid (Sep W L w)) (p:Option Addr) (c:Nat):Calls Tryz.prog 75 #[.slice p 0 c] w fun e w'=>∃ b r:Nat,e=.returned (.tuple #[pt b,.bool true])∧Hid (Sep W (L++[MapA r [],BoxA b #[.int .i64 0,.map (some r)] 162]) w'):=by
 have hmm:=@run_makeMap Tryz.prog
 have hs1:=h.out.new (below_alloc w (.map #[] 0)) (MapA w.heap.size []) (F:=New w (w.alloc (.map #[] 0))) (fun _ h=>h) ⟨⟨Nat.le_refl _,by simp⟩,MapIs.made w⟩
 have hs2:=Go.Proofs.Sep.boxT hs1 #[.int .i64 0,.map (some w.heap.size)] 162
 have hz:(w.alloc (.map #[] 0)).heap.size=w.heap.size+1:=by simp
 rw [List.append_assoc,hz] at hs2
 have HS:=Lib.hid hs2
 clear hs1 hs2 h hz
 go_enter Tryz.func75,Tryz.ntmps75
 go_wp2_with fail
 go_ret2
 exact ⟨_,_,rfl,HS.out⟩
set_option maxRecDepth 100000 in
set_option maxHeartbeats 1000000 in
theorem putsNil (b r:Nat) (w:World) (hc:w.cell? ⟨b,1,none⟩=some (.map (some r))) (hm:MapIs w r []):Calls Tryz.prog 83 #[pt b] w fun e w'=>e=.returned (.slice none 0 0)∧Hid (Below w.heap.size w w'):=by
 have HM:=Lib.hid hm
 clear hm
 go_enter Tryz.func83,Tryz.ntmps83
 go_wp2_with fail
 refine (keysDat_any r _).mono ?_
 rintro e w1 ⟨rfl,hw1⟩
 have hba:=below_alloc w (.cells #[.map (some r)] 160 (0,0))
 have hnw:=heap_alloc_new w (.cells #[.map (some r)] 160 (0,0))
 have hm1:MapIs (w.alloc (.cells #[.map (some r)] 160 (0,0))) r []:=by
  obtain ⟨es,clock,hb,he⟩:=HM.out
  exact ⟨es,clock,by rw [heap_old (Array.getElem?_eq_some_iff.1 hb).1];exact hb,he⟩
 have hbx:(w.alloc (.cells #[.map (some r)] 160 (0,0))).cell? ⟨w.heap.size,0,none⟩=some (.map (some r)):=by rw [cell_row hnw];rfl
 have HSO:=Lib.hid (sortedDat_any r w.heap.size [] _ hm1 (by simp) (by simp) (by simp) hbx)
 rw [hw1] at HSO hba
 have HBA:=Lib.hid hba
 clear hw1 hba hnw hm1 hbx HM
 go_wp2_with fail
 refine (HSO.out).mono ?_
 rintro e w2 ⟨v,rfl,hrow,hb2⟩
 obtain ⟨g,cap,rfl⟩:∃ g cap,v=.slice g 0 cap:=by
  obtain ⟨_,⟨e,_⟩ | ⟨g,cap,cur,e,_⟩⟩:=hrow
  ·exact ⟨_,_,e⟩
  ·exact ⟨_,_,e⟩
 have HB2:=Lib.hid (Below.up HBA.out hb2)
 clear hrow hb2 HSO HBA
 go_wp2_with fail
 go_loopw [2,12] (fun s2 s12 wr=>s2=.slice none 0 0∧s12=.int .i64 0∧wr=w2) (fun _ _ _=>0)
 case atStart=>exact ⟨rfl,rfl,rfl⟩
 case round =>
  obtain ⟨rfl,rfl,hw⟩:=hrel
  rw [hw]
  go_wp2_with fail
  go_ret
  exact ⟨rfl,HB2.out⟩
section
variable {W w:World} {L:List Asn} {st d m s pos num:Nat}
set_option maxRecDepth 100000 in
set_option maxHeartbeats 1000000 in
theorem logNil (h:Hid (Sep W L w)) (i:Nat) (hi:L[i]? = some (BoxA st #[pt d,.int .i64 0,.int .i64 3,.int .i64 6,.int .i64 7,.pointer none,pt s,.int .i64 0,.int .i64 0,.bool false] 118)) (j:Nat) (hj:L[j]? = some (DevA (pt d) (List.replicate 8 0))) :
  Calls Tryz.prog 76 #[pt st] w fun e w'=>e=.returned (.tuple #[.slice none 0 0,.slice none 0 0])∧Hid (Below w.heap.size w w'):=by
 obtain ⟨F,hF,_⟩:=h.out.get i hi
 have hh:=hF.2
 have c0:w.cell? ⟨st,0,none⟩=some (pt d):=by rw [cell_row hh];rfl
 have HGE:=Lib.hid (devGeometry h j hj)
 have HI:=Lib.hid hi
 have HJ:=Lib.hid hj
 clear hi hj hh hF
 go_enter Tryz.func76,Tryz.ntmps76
 go_wp2_with fail
 refine (HGE.out).mono ?_
 rintro e w1 ⟨rfl,hb1⟩
 have HS1:=Lib.hid (h.out.up hb1.out)
 obtain ⟨F,hF,_⟩:=HS1.out.get i HI.out
 have hh:=hF.2
 have d0:w1.cell? ⟨st,0,none⟩=some (pt d):=by rw [cell_row hh];rfl
 have d3:w1.cell? ⟨st,3,none⟩=some (.int .i64 6):=by rw [cell_row hh];rfl
 have d4:w1.cell? ⟨st,4,none⟩=some (.int .i64 7):=by rw [cell_row hh];rfl
 clear c0 hh hF HGE h
 have hfd:∀ w:World,(Instr.field 62 gLeast 1).run Tryz.prog w=.ok (.int .i64 96) w:=fun _=>by kernel_rfl
 go_wp2_with fail
 go_loopw [2,3,5,6] (fun s2 s3 s5 s6 wr=>∃ k:Nat,∃ q:Bool,6≤k∧k≤8∧s2=.slice none 0 0∧s3=.slice none 0 0∧s5=.bool q∧s6=.int .i64 (k:Int)∧wr=w1) (fun _ _ _ s6 _=>8 - (intOf s6).toNat)
 case atStart=>exact ⟨6,false,by omega,by omega,rfl,rfl,rfl,by go_num,rfl⟩
 case round =>
  obtain ⟨k,q,hk6,hk,rfl,rfl,rfl,rfl,hw⟩:=hrel
  rw [hw]
  clear hw
  by_cases hlt:k < 8
  case pos =>
   have hk7:(k:Int)≤7:=by omega
   have HP:=Lib.hid (devPointer HS1 j HJ.out (k:=k) (n:=0) hlt (by rw [List.getElem?_replicate,if_pos hlt]))
   go_wp2_with fail
   go_step3
   go_wp2_with fail
   refine (HP.out).mono ?_
   rintro e w4 ⟨rfl,rfl⟩
   go_wp2_with fail
   try (go_step3;go_wp2_with fail)
   go_loopw [2,3,42] (fun s2 s3 s42 wr=>s2=.slice none 0 0∧s3=.slice none 0 0∧s42=.int .i64 0∧wr=w1) (fun _ _ _ _=>0)
   case atStart=>exact ⟨rfl,rfl,rfl,rfl⟩
   case round =>
    obtain ⟨rfl,rfl,rfl,hw2⟩:=hrel
    rw [hw2]
    cases q
    all_goals
     go_wp2_with fail
     (try simp only [Exit.noGoto,Exit.inBlock,Exit.then])
     rename_i hA1 _ _ _
     refine hA1 _ _ ?_
     go_wp2_with fail
     go_roundw
     case rel=>exact ⟨k+1,true,by omega,by omega,rfl,rfl,rfl,by go_num,by first | rfl | trivial⟩
     case measure=>simp [intOf];omega
  case neg =>
   obtain rfl:k=8:=by omega
   go_wp2_with fail
   go_ret2
   exact ⟨rfl,hb1.out⟩
set_option maxRecDepth 100000 in
set_option maxHeartbeats 1000000 in
theorem replayNil (h:Hid (Sep W L w)) (i:Nat) (hi:L[i]? = some (BoxA st #[pt d,.int .i64 0,.int .i64 3,.int .i64 6,.int .i64 7,.pointer none,pt s,.int .i64 0,.int .i64 0,.bool false] 118)) (j:Nat) {inn cnt n:Nat} (hj:L[j]? = some (SlotA s d inn cnt n)) (b:Value) :
  Calls Tryz.prog 79 #[pt st,b,.slice none 0 0] w fun e w'=>e=.returned (.bool false)∧Hid (Below w.heap.size w w'):=by
 obtain ⟨F,hF,_⟩:=h.out.get i hi
 have hh:=hF.2
 have c6:w.cell? ⟨st,6,none⟩=some (pt s):=by rw [cell_row hh];rfl
 have HLO:=Lib.hid (slotLoad h j hj)
 have HI:=Lib.hid hi
 clear hi hj hh hF
 go_enter Tryz.func79,Tryz.ntmps79
 go_wp2_with fail
 try (go_step3;go_wp2_with fail)
 try (go_step3;go_wp2_with fail)
 refine (HLO.out).mono ?_
 rintro e w1 ⟨p,c,rfl,_,hb1⟩
 have HS1:=Lib.hid (h.out.up hb1)
 obtain ⟨F,hF,_⟩:=HS1.out.get i HI.out
 have hh:=hF.2
 have d7:w1.cell? ⟨st,7,none⟩=some (.int .i64 0):=by rw [cell_row hh];rfl
 have HB:=Lib.hid hb1
 clear c6 hh hF HLO h hb1
 go_wp2_with fail
 try (go_step3;go_wp2_with fail)
 try (go_step3;go_wp2_with fail)
 go_loopw [6] (fun s6 wr=>s6=.bool false∧wr=w1) (fun _ _=>0)
 case atStart=>exact ⟨rfl,rfl⟩
 case round =>
  obtain ⟨rfl,hw⟩:=hrel
  rw [hw]
  go_wp2_with fail
  rw [Exit.noGoto_ret]
  go_ret
  exact ⟨rfl,HB.out⟩
end
end Go.Proofs
namespace Go.Proofs
open Go.RowKit Sc
def stRow0 (d:Nat) (mv sv:Value):Array Value:=#[pt d,.int .i64 0,.int .i64 3,.int .i64 6,.int .i64 7,mv,sv,.int .i64 0,.int .i64 0,.bool false]
set_option maxRecDepth 100000 in
set_option maxHeartbeats 4000000 in
theorem mount0 {W w:World} {L:List Asn} (h:Hid (Sep W L w)) (j:Nat) {d:Nat} (hj:L[j]? = some (DevA (pt d) (List.replicate 8 0))) :
  Calls Tryz.prog 39 #[pt d] w fun e w'=>∃ st m s:Nat,e=.returned (.tuple #[pt st,.int .i64 0])∧Hid (Sep W (L++[StoreB st d m s 0 0,SlotA s d 1 0 0,MgrA (pt m) (mgNew 258 0)]) w'):=by
 have hjl:=(List.getElem?_eq_some_iff.1 hj).1
 have HGE:=Lib.hid (devGeometry h j hj)
 have HJ:=Lib.hid hj
 have HJL:=Lib.hid hjl
 have HOLD:=h
 clear hj hjl h
 go_enter Tryz.func39,Tryz.ntmps39
 go_wp2_with fail
 refine (HGE.out).mono ?_
 rintro e w1 ⟨rfl,hb1⟩
 have HS1:=Lib.hid (HOLD.out.up hb1.out)
 clear hb1 HGE HOLD
 go_wp2_with fail
 refine (split_least _).mono ?_
 rintro e w2 ⟨rfl,hb2⟩
 have hs2:=Go.Proofs.Sep.boxT (HS1.out.up hb2.out) #[.int .i64 0,.int .i64 3,.int .i64 6,.int .i64 7] 115
 have hs3:=Go.Proofs.Sep.boxT hs2 (stRow0 d (.pointer none) (.pointer none)) 118
 have hz:(w2.alloc (.cells #[.int .i64 0,.int .i64 3,.int .i64 6,.int .i64 7] 115 (0,0))).heap.size=w2.heap.size+1:=by simp
 rw [hz,List.append_assoc] at hs3
 have HS3:Hid (Sep W (L++[BoxA w2.heap.size #[.int .i64 0,.int .i64 3,.int .i64 6,.int .i64 7] 115,BoxA (w2.heap.size+1) (stRow0 d (.pointer none) (.pointer none)) 118]) ((w2.alloc (.cells #[.int .i64 0,.int .i64 3,.int .i64 6,.int .i64 7] 115 (0,0))).alloc (.cells #[pt d,.int .i64 0,.int .i64 3,.int .i64 6,.int .i64 7,.pointer none,.pointer none,.int .i64 0,.int .i64 0,.bool false] 118 (0,0)))):=hs3
 clear hs2 hs3 hz hb2 HS1
 go_upto_region 5 with fail
 generalize (w2.alloc (.cells #[.int .i64 0,.int .i64 3,.int .i64 6,.int .i64 7] 115 (0,0))).alloc (.cells #[pt d,.int .i64 0,.int .i64 3,.int .i64 6,.int .i64 7,.pointer none,.pointer none,.int .i64 0,.int .i64 0,.bool false] 118 (0,0))=w3 at *
 generalize w2.heap.size+1=st at *
 generalize w2.heap.size=lx at *
 have hget:∀ (Cs:List Asn) k,(L++Cs)[L.length+k]? = Cs[k]? := fun Cs k=>by
  rw [List.getElem?_append_right (by omega),Nat.add_sub_cancel_left]
 have hset:∀ (Cs:List Asn) k (A:Asn),(L++Cs).set (L.length+k) A=L++Cs.set k A:=fun Cs k A=>by
  rw [List.set_append_right _ _ (by omega),Nat.add_sub_cancel_left]
 have hjj:∀ Cs:List Asn,(L++Cs)[j]? = some (DevA (pt d) (List.replicate 8 0)):=fun Cs=>by
  rw [List.getElem?_append_left HJL.out];exact HJ.out
 have HGET:=Lib.hid hget
 have HSET:=Lib.hid hset
 have HJJ:=Lib.hid hjj
 clear hget hset hjj
 obtain ⟨F0,hF0,_⟩:=HS3.out.get (L.length+0) ((HGET.out _ 0).trans rfl)
 have l0:w3.cell? ⟨lx,0,none⟩=some (.int .i64 0):=by rw [cell_row hF0.2];rfl
 have l1:w3.cell? ⟨lx,1,none⟩=some (.int .i64 3):=by rw [cell_row hF0.2];rfl
 have l2:w3.cell? ⟨lx,2,none⟩=some (.int .i64 6):=by rw [cell_row hF0.2];rfl
 have HOP:=Lib.hid (slotOpen0 HS3 j (HJJ.out _))
 clear hF0
 go_wp2_with fail
 refine (HOP.out).mono ?_
 rintro e w4 ⟨s,rfl,hS4⟩
 have hs4:=hS4.out
 rw [List.append_assoc] at hs4
 obtain ⟨F1,hF1,_⟩:=hs4.get (L.length+1) ((HGET.out _ 1).trans rfl)
 have s6:w4.cell? ⟨st,6,none⟩=some (.pointer none):=by rw [cell_row hF1.2];rfl
 have f6:=fz_row hF1.2 6
 have hs5:=hs4.box_store (L.length+1) ((HGET.out _ 1).trans rfl) 6 (pt s)
 rw [HSET.out] at hs5
 have HS5:Hid (Sep W (L++[BoxA lx #[.int .i64 0,.int .i64 3,.int .i64 6,.int .i64 7] 115,BoxA st (stRow0 d (.pointer none) (pt s)) 118,SlotA s d 1 0 0]) (w4.setCell ⟨st,6,none⟩ (pt s))):=hs5
 clear hS4 hs4 hF1 hs5 HOP HS3 l0 l1 l2
 go_upto_region 8 with fail
 clear s6 f6
 generalize w4.setCell ⟨st,6,none⟩ (pt s)=w5 at *
 obtain ⟨F1,hF1,_⟩:=HS5.out.get (L.length+1) ((HGET.out _ 1).trans rfl)
 have s6:w5.cell? ⟨st,6,none⟩=some (pt s):=by rw [cell_row hF1.2];rfl
 have HLO:=Lib.hid (slotLoad HS5 (L.length+2) ((HGET.out _ 2).trans rfl))
 clear hF1
 go_wp2_with fail
 refine (HLO.out).mono ?_
 rintro e w6 ⟨p,c,rfl,_,hb6⟩
 have HS6:=Lib.hid (HS5.out.up hb6)
 clear HS5 HLO s6 hb6
 have HPA:=Lib.hid (parseNil HS6 p c)
 go_wp2_with fail
 refine (HPA.out).mono ?_
 rintro e w7 ⟨b,r,rfl,hS7⟩
 have hs7:=hS7.out
 rw [List.append_assoc] at hs7
 have HS7:Hid (Sep W (L++[BoxA lx #[.int .i64 0,.int .i64 3,.int .i64 6,.int .i64 7] 115,BoxA st (stRow0 d (.pointer none) (pt s)) 118,SlotA s d 1 0 0,MapA r [],BoxA b #[.int .i64 0,.map (some r)] 162]) w7):=hs7
 clear hS7 hs7 HPA HS6
 have HLG:=Lib.hid (logNil HS7 (L.length+1) ((HGET.out _ 1).trans rfl) j (HJJ.out _))
 go_wp2_with fail
 refine (HLG.out).mono ?_
 rintro e w8 ⟨rfl,hb8⟩
 have HS8:=Lib.hid (HS7.out.up hb8.out)
 clear HLG HS7 hb8
 go_wp2_with fail
 refine (hasNil _ _).mono ?_
 rintro e w9 ⟨rfl,rfl⟩
 go_wp2_with fail
 refine (hasNil _ _).mono ?_
 rintro e w9 ⟨rfl,rfl⟩
 have HRE:=Lib.hid (replayNil HS8 (L.length+1) ((HGET.out _ 1).trans rfl) (L.length+2) ((HGET.out _ 2).trans rfl) (pt b))
 go_wp2_with fail
 refine (HRE.out).mono ?_
 rintro e w9 ⟨rfl,hb9⟩
 have HS9:=Lib.hid (HS8.out.up hb9.out)
 clear HRE HS8 hb9
 go_upto_region 16 with fail
 have HS10:Hid (Sep W _ w9.drew):=HS9.out.up (below_drewN (Below.refl w9.heap.size w9) 1)
 obtain ⟨F2,hF2,_⟩:=HS10.out.get (L.length+4) ((HGET.out _ 4).trans rfl)
 have b0:w9.drew.cell? ⟨b,0,none⟩=some (.int .i64 0):=by rw [cell_row hF2.2];rfl
 clear hF2 HS9
 refine wp_regionG (fun W=>W.cell? ⟨b,0,none⟩=some (.int .i64 0)) (n:=16) (by kernel_rfl) (by kernel_rfl) ?_
 generalize w9.drew=w10 at *
 have HGE:=Lib.hid (devGeometry HS10 j (HJJ.out _))
 refine wpG.tk 0 ?_
 refine wpG.tk 1 ?_
 refine wpG.tk 4 ?_
 refine wpG.tk 5 ?_
 refine wpG.tk 6 ?_
 refine wpG.tk 7 ?_ (hy:=by intro W hW;have hld0:=hW;go_simp;try with_reducible rfl)
 refine wpG.alone 2 rfl (by kernel_rfl) (by kernel_rfl) (b0) (fun K hK=>?_)
 go_simp
 go_at_call 72
 refine (HGE.out).mono ?_
 rintro e w11 ⟨rfl,hb11⟩
 have e0:=cell_up hb11.out b0
 have HS11:=Lib.hid (HS10.out.up hb11.out)
 clear HGE HS10 b0 hb11
 try go_simp
 refine hK _ _ ?_
 clear hK K
 refine wpG.alone 3 rfl (by kernel_rfl) (by kernel_rfl) (e0) (fun K hK=>?_)
 go_simp
 go_at_call 81
 refine (capacity_least _).mono ?_
 rintro e w12 ⟨rfl,hb12⟩
 have f0:=cell_up hb12.out e0
 have HS12:=Lib.hid (HS11.out.up hb12.out)
 have HMN:=Lib.hid (mgrNew_sep HS12 258 0 (by omega) (by omega) (by omega) (by omega))
 clear HS11 e0 hb12
 try go_simp
 refine hK _ _ ?_
 clear hK K
 refine wpG.alone 8 rfl (by kernel_rfl) (by kernel_rfl) (f0) (fun K hK=>?_)
 go_simp
 go_at_call 80
 refine (HMN.out).mono ?_
 rintro e w13 ⟨m,rfl,hS13⟩
 have hs13:=hS13.out
 rw [List.append_assoc] at hs13
 obtain ⟨F1,hF1,_⟩:=hs13.get (L.length+1) ((HGET.out _ 1).trans rfl)
 have m5:w13.cell? ⟨st,5,none⟩=some (.pointer none):=by rw [cell_row hF1.2];rfl
 have g5:=fz_row hF1.2 5
 obtain ⟨F2,hF2,_⟩:=hs13.get (L.length+4) ((HGET.out _ 4).trans rfl)
 have g0:w13.cell? ⟨b,0,none⟩=some (.int .i64 0):=by rw [cell_row hF2.2];rfl
 have hs14:=hs13.box_store (L.length+1) ((HGET.out _ 1).trans rfl) 5 (pt m)
 rw [HSET.out] at hs14
 have HS14:Hid (Sep W (L++[BoxA lx #[.int .i64 0,.int .i64 3,.int .i64 6,.int .i64 7] 115,StoreB st d m s 0 0,SlotA s d 1 0 0,MapA r [],BoxA b #[.int .i64 0,.map (some r)] 162,MgrA (pt m) (mgNew 258 0)]) (w13.setCell ⟨st,5,none⟩ (pt m))):=hs14
 obtain ⟨F3,hF3,_⟩:=HS14.out.get (L.length+4) ((HGET.out _ 4).trans rfl)
 have k0:(w13.setCell ⟨st,5,none⟩ (pt m)).cell? ⟨b,0,none⟩=some (.int .i64 0):=by rw [cell_row hF3.2];rfl
 clear hS13 hs13 hs14 hF1 hF2 hF3 HMN HS12 f0
 try go_simp
 refine hK _ _ ?_
 clear hK K
 refine wpG.tk 9 ?_
 refine wpG.tk 10 ?_
 refine wpG.tk 11 ?_
 refine wpG.tk 12 ?_
 refine wpG.tk 13 ?_
 refine wpG.alone 14 rfl (by kernel_rfl) (by kernel_rfl) g0 (fun K hK=>?_)
 go_simp
 try go_simp
 refine hK _ _ ?_
 clear hK K
 refine wpG.tk 15 ?_
 refine wpG.done (by kernel_rfl) k0 ?_
 clear g0 k0 m5 g5
 generalize w13.setCell ⟨st,5,none⟩ (pt m)=w14 at *
 go_upto_region 18 with fail
 have HS15:Hid (Sep W _ w14.drew):=HS14.out.up (below_drewN (Below.refl w14.heap.size w14) 1)
 obtain ⟨F1,hF1,_⟩:=HS15.out.get (L.length+1) ((HGET.out _ 1).trans rfl)
 have n5:w14.drew.cell? ⟨st,5,none⟩=some (pt m):=by rw [cell_row hF1.2];rfl
 obtain ⟨F2,hF2,_⟩:=HS15.out.get (L.length+4) ((HGET.out _ 4).trans rfl)
 have n1:w14.drew.cell? ⟨b,1,none⟩=some (.map (some r)):=by rw [cell_row hF2.2];rfl
 obtain ⟨F3,hF3,_⟩:=HS15.out.get (L.length+3) ((HGET.out _ 3).trans rfl)
 have HPN:=Lib.hid (putsNil b r _ n1 hF3.2)
 clear hF1 hF2 hF3 n1 HS14
 refine wp_regionG (fun W=>W.cell? ⟨st,5,none⟩=some (pt m)) (n:=8) (by kernel_rfl) (by kernel_rfl) ?_
 generalize w14.drew=w15 at *
 refine wpG.tk 0 ?_
 refine wpG.tk 1 ?_
 refine wpG.tk 2 ?_
 refine wpG.tk 3 ?_ (hy:=by intro W hW;have hld0:=hW;go_simp;try with_reducible rfl)
 refine wpG.tk 4 ?_
 refine wpG.alone 5 rfl (by kernel_rfl) (by kernel_rfl) (n5) (fun K hK=>?_)
 go_simp
 go_at_call 83
 refine (HPN.out).mono ?_
 rintro e w16 ⟨rfl,hb16⟩
 have q5:=cell_up hb16.out n5
 have HS16:=Lib.hid (HS15.out.up hb16.out)
 clear HPN HS15 hb16 n5
 have hld:=mgLoad_sep HS16 (L.length+5) ((HGET.out _ 5).trans rfl) (MgG.new (blocks:=258) (last:=0) (by omega) (by omega) (by omega) (by omega)) (by omega) (.slice none 0 0) [] (fun _ _ _=>SlAt.nil) (by simp)
 have hlc:ldCode (mgNew 258 0) []=0:=rfl
 have hln:ldNext (mgNew 258 0) []=mgNew 258 0:=rfl
 rw [hlc,hln,HSET.out] at hld
 have HLD:=Lib.hid hld
 clear hld hlc hln
 try go_simp
 refine hK _ _ ?_
 clear hK K
 refine wpG.alone 6 rfl (by kernel_rfl) (by kernel_rfl) (q5) (fun K hK=>?_)
 go_simp
 go_at_call 82
 refine (HLD.out).mono ?_
 rintro e w17 ⟨rfl,hS17⟩
 have hs17:=hS17.out
 have HS17:Hid (Sep W (L++[BoxA lx #[.int .i64 0,.int .i64 3,.int .i64 6,.int .i64 7] 115,StoreB st d m s 0 0,SlotA s d 1 0 0,MapA r [],BoxA b #[.int .i64 0,.map (some r)] 162,MgrA (pt m) (mgNew 258 0)]) w17):=hs17
 obtain ⟨F1,hF1,_⟩:=HS17.out.get (L.length+1) ((HGET.out _ 1).trans rfl)
 have r5:w17.cell? ⟨st,5,none⟩=some (pt m):=by rw [cell_row hF1.2];rfl
 have h1:=HS17.out.erase L.length
 rw [List.eraseIdx_append_of_length_le (Nat.le_refl _),Nat.sub_self] at h1
 have h2:=h1.erase (L.length+2)
 rw [List.eraseIdx_append_of_length_le (by omega),Nat.add_sub_cancel_left] at h2
 have h3:=h2.erase (L.length+2)
 rw [List.eraseIdx_append_of_length_le (by omega),Nat.add_sub_cancel_left] at h3
 have HFIN:Hid (Sep W (L++[StoreB st d m s 0 0,SlotA s d 1 0 0,MgrA (pt m) (mgNew 258 0)]) w17):=h3
 clear hS17 hs17 HS16 HLD hF1 h1 h2 h3 q5 HS17
 try go_simp
 refine hK _ _ ?_
 clear hK K
 refine wpG.tk 7 ?_
 refine wpG.done (by kernel_rfl) r5 ?_
 go_wp2_with fail
 go_ret2
 exact ⟨st,m,s,rfl,HFIN.out⟩
end Go.Proofs
namespace Go.Proofs
open Go.RowKit Sc
theorem Sep.row_bytes {W w:World} {L:List Asn} (h:Sep W L w) (i:Nat) {g n cap:Nat} {l:Bytes} (hi:L[i]? = some (RowA 5 1 (.slice (some ⟨g,0,none⟩) n cap) n (byV l))) {p:Option Addr} {m c:Nat} {G:Nat→Prop} {l4:Bytes} (hl4:l4.length=m) (hb:BytesAt G w (.slice p m c) l4) (h0:0 < n) (hn:n≤1000000) (hm:m≤1000000) :
  ∃ g' cap' w',(Builtin.append_ #[40,40] 40 #[.slice (some ⟨g,0,none⟩) n cap,.slice p m c]).run Tryz.prog w=.ok (.slice (some ⟨g',0,none⟩) (n+m) cap') w'∧Sep W (L.set i (RowA 5 1 (.slice (some ⟨g',0,none⟩) (n+m) cap') (n+m) (byV (l++l4)))) w'∧w.grownBy w' (some g):=by
 obtain ⟨F,hF,_⟩:=h.get i hi
 obtain ⟨i0,hi0,hz0,hz1,hz2⟩:=info_parts infoU8
 subst hl4
 have hp:p=none→l4.length=0∧c=0:=by
  rintro rfl
  obtain ⟨p',c',hh,h1,h2,h3,_⟩:=hb
  cases hh
  have:=h3 rfl
  omega
 obtain ⟨v',w',hr,hown',hgrow,hat'⟩:=run_append_any (P:=Tryz.prog) w 40 40 0 5 i0 (.int .u8 0) 1 1 Tryz.underlying40 hi0 hz0 hz1 hz2 rfl (by decide) _ _ _ hF.1 p l4.length c hp (byV l4) (by rw [byV_len,Nat.mul_one]) (byV_news hb) (byV_one l4) (by unfold maxLen;omega) (by omega) (Nat.zero_le _)
 rw [← byV_app] at hown'
 have hlt:=hown'.lt
 obtain ⟨g',cap',rfl⟩:∃ g' cap',v'=.slice (some ⟨g',0,none⟩) (n+l4.length) cap':=by
  obtain ⟨_,⟨_,h1⟩ | ⟨g',cap',cur,e,_⟩⟩:=hown'
  ·omega
  ·exact ⟨g',cap',e⟩
 refine ⟨g',cap',w',hr,h.row_app i hi (Below.refl _ _) hown' hgrow (H:=w.heap.size) ?_ rfl (hlt g' rfl).2,hgrow⟩
 rcases hat' with e | e
 ·exact .inl e.symm
 ·refine .inr ?_
  simpa [Value.ownBlock] using e
section
variable {W w:World} {L:List Asn} {st d m s pos num:Nat}
set_option maxRecDepth 100000 in
set_option maxHeartbeats 4000000 in
theorem stText (h:Hid (Sep W L w)) (i:Nat) (hi:L[i]? = some (StoreB st d m s pos num)) (j:Nat) {S:MgS} (hj:L[j]? = some (MgrA (pt m) S)) {n:Nat} (g:MgG n S) (hn:n≤1000000) (hd:(dumpV S.vs).length≤1000) :
  Calls Tryz.prog 85 #[pt st] w (NewO (8+44 * (dumpV S.vs).length) w):=by
 have hh:=st_cells h.out i hi
 have c5:w.cell? ⟨st,5,none⟩=some (pt m):=by rw [cell_row hh];rfl
 have HLA:=Lib.hid (mgLast_sep h j hj)
 have h40:∀ p∈dumpV S.vs,p.data.length=40:=fun p hp=>by
  obtain ⟨k,hk,rfl⟩:=List.mem_map.1 hp
  obtain ⟨x,hx,e⟩:=List.mem_map.1 ((List.mergeSort_perm _ _).subset hk)
  have ha:alook S.vs k=some x.2:=alook_mem g.ge.nd (by rw [← e];exact hx)
  obtain ⟨h1,_,h3⟩:=g.ge.ts k _ ha
  show (lastD ((alook S.vs k).getD [])).length=40
  rw [ha,Option.getD_some]
  unfold lastD
  cases hq:x.2.getLast? with
  | none=>exact absurd (List.getLast?_eq_none_iff.1 hq) h1
  | some q=>exact (h3 q (List.mem_of_getLast? hq)).1
 have H40:=Lib.hid h40
 have HG:Hid (MgG n S):=g
 have HI:=Lib.hid hi
 have HJ:=Lib.hid hj
 clear hh h40 g hi hj
 go_enter Tryz.func85,Tryz.ntmps85
 go_wp2_with fail
 refine (HLA.out).mono ?_
 rintro e w1 ⟨rfl,rfl⟩
 go_wp2_with fail
 refine (put64_own _ _).mono ?_
 rintro e w2 ⟨g2,cap2,rfl,⟨l2,hl2,ho2⟩,hb2⟩
 have HS2:=Lib.hid (h.out.up hb2)
 have c5':=cell_up hb2 c5
 have HDU:=Lib.hid (mgDump_sep HS2 j HJ.out HG.out hn)
 have HO2:=Lib.hid ho2
 have HL2:=Lib.hid hl2
 have HB2:=Lib.hid hb2
 clear hl2 ho2 hb2 HLA c5 h
 go_wp2_with fail
 refine (HDU.out).mono ?_
 rintro e w3 ⟨dp,dc,rfl,hpw,hb3⟩
 have HB3:=Lib.hid (Below.up HB2.out hb3.out)
 have HO3:Hid (w3.ownsRow _ _ _ _ _ _):=ownsRow_up HO2.out hb3.out
 have hsp:=(((Sep.start w1).new HB2.out (RowA 5 1 (.slice (some ⟨g2,0,none⟩) 8 cap2) 8 (byV l2)) (F:=New w1 w2) (fun _ h=>h) ⟨ownsRow_base0 HO2.out,fun q hq=>by
  obtain rfl:g2=q:=by simpa [Value.ownBlock] using hq
  exact HO2.out.lt g2 rfl⟩).new hb3.out (PutsWA (.slice dp (dumpV S.vs).length dc) (dumpV S.vs)) (fun _ h=>h) hpw.out)
 have HS3:Hid (Sep w1 [OldA w1,RowA 5 1 (.slice (some ⟨g2,0,none⟩) 8 cap2) 8 (byV l2),PutsWA (.slice dp (dumpV S.vs).length dc) (dumpV S.vs)] w3):=hsp
 obtain ⟨dn,hdn⟩:∃ dn,(dumpV S.vs).length=dn:=⟨_,rfl⟩
 generalize dumpV S.vs=D at *
 rw [hdn] at hd HS3 ⊢
 have HDN:=Lib.hid hdn
 clear hpw hb3 c5' HDU HO2 HS2 HB2 hdn HO3 HB3 hsp
 go_wp2_with fail
 go_loopw [3,19] (fun s3 s19 wr=>∃ k N g cap:Nat,∃ l:Bytes,k≤dn∧s19=.int .i64 (k:Int)∧s3=.slice (some ⟨g,0,none⟩) N cap∧Hid (N=8+44 * k)∧Hid (l.length=N)∧Hid (Sep w1 [OldA w1,RowA 5 1 (.slice (some ⟨g,0,none⟩) N cap) N (byV l),PutsWA (.slice dp dn dc) D] wr)) (fun _ s19 _=>dn - (intOf s19).toNat)
 case atStart=>exact ⟨0,8,g2,cap2,l2,by omega,by go_num,rfl,rfl,HL2.out,HS3.out⟩
 case round =>
  obtain ⟨k,N,g,cap,l,hk,rfl,rfl,HN,HLN,HS⟩:=hrel
  clear HS3 HL2
  by_cases hlt:k < dn
  case neg =>
   obtain rfl:k=dn:=by omega
   go_wp2_with fail
   go_ret
   have hrow:=Go.Proofs.Sep.rowFresh HS.out 0 rfl
   have hk':N=8+44 * D.length:=by rw [HN.out,HDN.out]
   exact ⟨g,cap,by rw [← hk'];rfl,⟨l,by rw [HLN.out,hk'],by rw [hk'] at hrow;exact hrow⟩,HS.out.old⟩
  case pos =>
   have hkd:(k:Int) < (dn:Int):=by omega
   obtain ⟨F1,F2,_,hF1,hF2,hdis,_,_,_,hD2,_⟩:=HS.out.both 1 2 (by omega) (A:=RowA 5 1 (.slice (some ⟨g,0,none⟩) N cap) N (byV l)) (B:=PutsWA (.slice dp dn dc) D) rfl rfl
   have hgF:¬ F2 g:=hdis g (hF1.2 g rfl)
   have hpa:=PutsW.puts hF2
   obtain ⟨_,_,he,_,_,_,h4⟩:=hpa
   rw [← HDN.out] at he
   cases he
   have hkD:k < D.length:=by rw [HDN.out];exact hlt
   obtain ⟨pb,po,rfl,_,hc0,_,dv,hc1,hdb⟩:=h4 k hkD
   have hdl:=H40.out _ (List.getElem_mem hkD)
   obtain ⟨vp,vc,rfl⟩:=shape_of hdb hdl
   generalize D[k].lba=lba at *
   generalize D[k].data=dd at *
   have hN:=HN.out
   have hNb:N≤50000:=by omega
   obtain ⟨wa,hwa⟩:∃ wa,wr.alloc (.cells #[.int .i64 lba,.slice vp 40 vc] 44 (0,0))=wa:=⟨_,rfl⟩
   have hba:=below_alloc wr (.cells #[.int .i64 lba,.slice vp 40 vc] 44 (0,0))
   have hnw:=heap_alloc_new wr (.cells #[.int .i64 lba,.slice vp 40 vc] 44 (0,0))
   rw [hwa] at hba hnw
   have hbd:=Below.up hba (below_drewN (Below.refl wa.heap.size wa) 1)
   obtain ⟨B,hB⟩:∃ B,wr.heap.size=B:=⟨_,rfl⟩
   have hbox:=Go.Proofs.Sep.boxT HS.out #[.int .i64 lba,.slice vp 40 vc] 44
   rw [hwa,hB] at hbox
   have HSA:Hid (Sep w1 [OldA w1,RowA 5 1 (.slice (some ⟨g,0,none⟩) N cap) N (byV l),PutsWA (.slice (some ⟨pb,po,none⟩) dn dc) D,BoxA B #[.int .i64 lba,.slice vp 40 vc] 44] wa.drew):=hbox.up (below_drewN (Below.refl wa.heap.size wa) 1)
   have HDB:Hid (BytesAt F2 wa.drew (.slice vp 40 vc) dd):=hdb.up hbd
   have HDL:=Lib.hid hdl
   have HNN:=Lib.hid hN
   have HFG:Hid (∀ q,F2 q→q < wr.heap.size):=hD2
   have HGF:=Lib.hid hgF
   have hbs:=hbd.size
   have hbs':wr.heap.size≤wa.drew.heap.size:=hbs
   clear hF1 hF2 hD2 h4 hdb hdl hN hbox hba hnw hbd hgF hdis hbs
   go_upto_region 5 with fail
   obtain ⟨F3,hF3,_⟩:=HSA.out.get 3 rfl
   have b0:wa.drew.cell? ⟨B,0,none⟩=some (.int .i64 lba):=by rw [cell_row hF3.2];rfl
   have b1:wa.drew.cell? ⟨B,1,none⟩=some (.slice vp 40 vc):=by rw [cell_row hF3.2];rfl
   clear hF3 hc0 hc1 hwa hB
   refine wp_regionG (fun W=>W.cell? ⟨B,0,none⟩=some (.int .i64 lba)∧W.cell? ⟨B,1,none⟩=some (.slice vp 40 vc)) (n:=10) (by kernel_rfl) (by kernel_rfl) ?_
   generalize wa.drew=wx at *
   refine wpG.tk 0 ?_
   refine wpG.tk 1 ?_
   refine wpG.tk 2 ?_ (hy:=by intro W hW;have hld0:=hW.1;go_simp;try with_reducible rfl)
   refine wpG.tk 3 ?_
   refine wpG.tk 6 ?_
   refine wpG.tk 7 ?_ (hy:=by intro W hW;have hld0:=hW.2;go_simp;try with_reducible rfl)
   refine wpG.alone 4 rfl (by kernel_rfl) (by kernel_rfl) (⟨b0,b1⟩) (fun K hK=>?_)
   go_simp
   go_at_call 150
   refine (put32_any _ _).mono ?_
   rintro e w4 ⟨p4,c4,rfl,⟨l4,hl4,hq4⟩,hb4⟩
   have HS4:=Lib.hid (HSA.out.up hb4)
   have HD4:Hid (BytesAt F2 w4 (.slice vp 40 vc) dd):=HDB.out.up hb4
   have k0:=cell_up hb4 b0
   have k1:=cell_up hb4 b1
   have hz4:=hb4.size
   obtain ⟨g5,cap5,w5,hr5,hS5,hgr5⟩:=Go.Proofs.Sep.row_bytes HS4.out 1 rfl hl4 hq4.bytes (by have:=HNN.out;omega) (by omega) (by omega)
   have hd5:BytesAt F2 w5 (.slice vp 40 vc) dd:=HD4.out.same fun q hq=>hgr5.block q (by have:=HFG.out q hq;omega) (fun e=>by cases e;exact HGF.out hq)
   obtain ⟨F4,hF4,_⟩:=hS5.get 3 (A:=BoxA B #[.int .i64 lba,.slice vp 40 vc] 44) rfl
   have m0:w5.cell? ⟨B,0,none⟩=some (.int .i64 lba):=by rw [cell_row hF4.2];rfl
   have m1:w5.cell? ⟨B,1,none⟩=some (.slice vp 40 vc):=by rw [cell_row hF4.2];rfl
   obtain ⟨g6,cap6,w6,hr6,hS6,_⟩:=Go.Proofs.Sep.row_bytes hS5 1 rfl HDL.out hd5 (by omega) (by omega) (by omega)
   obtain ⟨F5,hF5,_⟩:=hS6.get 3 (A:=BoxA B #[.int .i64 lba,.slice vp 40 vc] 44) rfl
   have o0:w6.cell? ⟨B,0,none⟩=some (.int .i64 lba):=by rw [cell_row hF5.2];rfl
   have o1:w6.cell? ⟨B,1,none⟩=some (.slice vp 40 vc):=by rw [cell_row hF5.2];rfl
   have HS6:Hid (Sep w1 [OldA w1,RowA 5 1 (.slice (some ⟨g6,0,none⟩) (N+4+40) cap6) (N+4+40) (byV (l++l4++dd)),PutsWA (.slice (some ⟨pb,po,none⟩) dn dc) D] w6):=hS6.take 3
   have HL6:Hid ((l++l4++dd).length=N+4+40):=by show _=_;rw [List.length_append,List.length_append,HLN.out,hl4,HDL.out]
   have HN6:Hid (N+4+40=8+44 * (k+1)):=by show _=_;have:=HNN.out;omega
   clear hS5 hS6 hF4 hF5 hd5 hgr5 hq4 hl4 hb4 HSA HS4 HD4 HDB hz4 hbs'
   try go_simp
   refine hK _ _ ?_
   clear hK K
   refine wpG.alone 5 rfl (by kernel_rfl) (by kernel_rfl) ⟨k0,k1⟩ (fun K hK=>?_)
   refine wp_append_run (v:=.slice (some ⟨g,0,none⟩) N cap) (u:=.slice p4 4 c4) (.tmp 23) (.tmp 27) 40 rfl ?_ ?_ hr5 ?_
   ·go_simp
   ·go_simp
   try go_simp
   refine hK _ _ ?_
   clear hK K
   refine wpG.alone 8 rfl (by kernel_rfl) (by kernel_rfl) ⟨m0,m1⟩ (fun K hK=>?_)
   refine wp_append_run (v:=.slice (some ⟨g5,0,none⟩) (N+4) cap5) (u:=.slice vp 40 vc) (.tmp 28) (.tmp 30) 40 rfl ?_ ?_ hr6 ?_
   ·go_simp
   ·go_simp
   try go_simp
   refine hK _ _ ?_
   clear hK K
   refine wpG.tk 9 ?_
   refine wpG.done (by kernel_rfl) ⟨o0,o1⟩ ?_
   clear hr5 hr6 b0 b1 k0 k1 m0 m1 o0 o1
   generalize N+4+40=N6 at *
   go_wp2_with fail
   go_roundw
   case rel=>exact ⟨k+1,N6,g6,cap6,_,by omega,by go_num,rfl,HN6,HL6,HS6⟩
   case measure=>simp [intOf];omega
end
end Go.Proofs
