/- Texts of this claim, one behind the other: Batch2, StRead, SlotW, RegB, SlotSave, StCp, StPut, StFlushP, StFlush, Sched1. -/
import Derived.Test.YtcbgpeamondhmaaGreatDoorTs9
namespace Go.Proofs
open Go.RowKit Sc
theorem infoRowU8:(Tryz.prog.info? 40).map (fun i=>(i.zero,i.size,i.bytes))=some (some (.slice none 0 0),1,24):=by kernel_rfl
theorem Sep.dpush {W w w2:World} {L:List Asn} (h:Sep W L w) (i:Nat) {n:Nat} {v:Value} {xs:List Value} (hi:L[i]? = some (ORowA 1 v n xs)) (hb:Below w.heap.size w w2) (u:Value) (hu:u.oneCell'=true) (b:Nat) (hc:w2.cell? ⟨b,0,none⟩=some u) (hn:n≤1000000) :
  ∃ p cap w',(Builtin.append_ #[140,140] 140 #[v,.slice (some ⟨b,0,none⟩) 1 1]).run Tryz.prog w2=.ok (.slice p (n+1) cap) w'∧Sep W (L.set i (ORowA 1 (.slice p (n+1) cap) (n+1) (xs++[u]))) w':=by
 obtain ⟨i0,hi0,hz0,hz1,hz2⟩:=info_parts infoRowU8
 obtain ⟨v',w',hr,hS⟩:=Sc.Sep.orow_push (P:=Tryz.prog) h i hi hb 140 140 40 i0 _ 24 Tryz.underlying140 hi0 hz0 hz1 hz2 rfl (by decide) ⟨b,0,none⟩ 1 1 [u] rfl (fun j x hx=>by
  obtain rfl:j=0:=by
   have:=(List.getElem?_eq_some_iff.1 hx).1
   simpa using this
  cases hx
  rw [addr_addO];exact hc) (fun x hx=>by rw [List.mem_singleton.1 hx];exact hu) (by decide) (by unfold maxLen;omega) (by omega)
 obtain ⟨F,hF,_⟩:=hS.get i (List.getElem?_set_self (List.getElem?_eq_some_iff.1 hi).1)
 obtain ⟨p,cap,rfl,_⟩:=ORowP.shape hF
 exact ⟨p,cap,w',hr,hS⟩
theorem Sep.bpush {W w w2:World} {L:List Asn} (h:Sep W L w) (i:Nat) {n:Nat} {v:Value} {xs:List Value} (hi:L[i]? = some (ORowA 1 v n xs)) (hb:Below w.heap.size w w2) (l:Bytes) (m:Nat) (hl:l.length=m) (h0:0 < m) (b:Nat) (hc:∀ j u,(byV l)[j]? = some u→w2.cell? ⟨b,j,none⟩=some u) (hn:n+m≤1000000) :
  ∃ p cap w',(Builtin.append_ #[40,40] 40 #[v,.slice (some ⟨b,0,none⟩) m m]).run Tryz.prog w2=.ok (.slice p (n+m) cap) w'∧Sep W (L.set i (ORowA 1 (.slice p (n+m) cap) (n+m) (xs++byV l))) w':=by
 obtain ⟨i0,hi0,hz0,hz1,hz2⟩:=info_parts infoU8
 obtain ⟨v',w',hr,hS⟩:=Sc.Sep.orow_push (P:=Tryz.prog) h i hi hb 40 40 5 i0 _ 1 Tryz.underlying40 hi0 hz0 hz1 hz2 rfl (by decide) ⟨b,0,none⟩ m m (byV l) (by rw [byV_len,hl];omega) (fun j x hx=>by
  rw [addr_addO,Nat.zero_add];exact hc j x hx) (byV_one l) h0 (by unfold maxLen;omega) (by omega)
 obtain ⟨F,hF,_⟩:=hS.get i (List.getElem?_set_self (List.getElem?_eq_some_iff.1 hi).1)
 obtain ⟨p,cap,rfl,_⟩:=ORowP.shape hF
 exact ⟨p,cap,w',hr,hS⟩
theorem orow_bytes {n:Nat} {v:Value} {l:Bytes} {F:Foot} {w:World} (h:ORowP 1 v n (byV l) F w):BytesAt F w v l:=by
 obtain ⟨h1,⟨rfl,rfl⟩ | ⟨g,o,cap,rfl,hF,q1,q2,q3,q4⟩⟩:=h
 ·obtain rfl:l=[]:=List.length_eq_zero_iff.1 (by rw [byV_len] at h1;omega)
  exact SlAt.nil
 ·rw [byV_len] at h1
  obtain rfl:n=l.length:=by omega
  refine ⟨some ⟨g,o,none⟩,cap,rfl,q1,by unfold maxLen at q2;omega,(fun e=>by cases e),fun i hi=>⟨g,o,rfl,hF,?_⟩⟩
  show w.cell? ⟨g,o+i * 1,none⟩=_
  rw [Nat.mul_one]
  exact q4 i _ (by unfold byV;rw [List.getElem?_map,List.getElem?_eq_getElem hi];rfl)
theorem byV_at {w:World} {b:Nat} {T:TypeId} {l:Bytes} (h:w.heap[b]? = some (.cells (byV l).toArray T (0,0))):∀ j u,(byV l)[j]? = some u→w.cell? ⟨b,j,none⟩=some u:=fun j u hu=>by
 rw [cell_row h];simpa using hu
theorem Sep.bpush1 {W w w2:World} {L:List Asn} (h:Sep W L w) (i:Nat) {n:Nat} {v:Value} {l:Bytes} (hi:L[i]? = some (ORowA 1 v n (byV l))) (hb:Below w.heap.size w w2) (x:Int) (b:Nat) (T:TypeId) (hx:w2.heap[b]? = some (.cells #[.int .u8 (IntKind.u8.wrap x)] T (0,0))) (hn:n+1≤1000000) :
  ∃ p cap w' y,(Builtin.append_ #[40,40] 40 #[v,.slice (some ⟨b,0,none⟩) 1 1]).run Tryz.prog w2=.ok (.slice p (n+1) cap) w'∧Sep W (L.set i (ORowA 1 (.slice p (n+1) cap) (n+1) (byV (l++[y])))) w':=by
 obtain ⟨y,hy⟩:=u8_some x
 rw [IntKind.wrap_u8,hy] at hx
 obtain ⟨p,cap,w',hr,hS⟩:=Go.Proofs.Sep.bpush h i hi hb [y] 1 rfl (by omega) b (byV_at hx) hn
 exact ⟨p,cap,w',y,hr,by rw [byV_app];exact hS⟩
theorem Sep.bpush2 {W w w2:World} {L:List Asn} (h:Sep W L w) (i:Nat) {n:Nat} {v:Value} {l:Bytes} (hi:L[i]? = some (ORowA 1 v n (byV l))) (hb:Below w.heap.size w w2) (x x':Int) (b:Nat) (T:TypeId) (hx:w2.heap[b]? = some (.cells #[.int .u8 (IntKind.u8.wrap x),.int .u8 (IntKind.u8.wrap x')] T (0,0))) (hn:n+2≤1000000) :
  ∃ p cap w' l2,(Builtin.append_ #[40,40] 40 #[v,.slice (some ⟨b,0,none⟩) 2 2]).run Tryz.prog w2=.ok (.slice p (n+2) cap) w'∧Sep W (L.set i (ORowA 1 (.slice p (n+2) cap) (n+2) (byV (l++l2)))) w'∧l2.length=2:=by
 obtain ⟨y,hy⟩:=u8_some x
 obtain ⟨y',hy'⟩:=u8_some x'
 rw [IntKind.wrap_u8,IntKind.wrap_u8,hy,hy'] at hx
 obtain ⟨p,cap,w',hr,hS⟩:=Go.Proofs.Sep.bpush h i hi hb [y,y'] 2 rfl (by omega) b (byV_at hx) hn
 exact ⟨p,cap,w',[y,y'],hr,by rw [byV_app];exact hS,rfl⟩
theorem wpList_push2 {W w:World} {L:List Asn} (h:Hid (Sep W L w)) (i:Nat) {n c:Nat} {p:Option Addr} {l:Bytes} (hi:L[i]? = some (ORowA 1 (.slice p n c) n (byV l))) (hn:n+2≤1000000) {ops:Array Oper} {rest:List Oper} {o:Oper} {a:Act} {Q:Exit→Act→World→Prop} (hgd:o.guard=none) (s x:Operand)
  (ho:o.op=.call { callee:=.builtin .append,args:=#[s,x],argTypes:=#[40,40] }) (ht:o.type=40) (y z:Int) (T:TypeId) (b:Nat) (hs:a.eval s=.slice p n c) (hx:a.eval x=.slice (some ⟨b,0,none⟩) 2 2) (hb:b=w.heap.size)
  (hk:∀ p' c' w' l2,l2.length=2→Hid (Sep W (L.set i (ORowA 1 (.slice p' (n+2) c') (n+2) (byV (l++l2)))) w')→wpList Tryz.prog ops Q rest (a.put o.dst (.slice p' (n+2) c')) w') :
  wpList Tryz.prog ops Q (o :: rest) a (w.alloc (.cells #[.int .u8 (IntKind.u8.wrap y),.int .u8 (IntKind.u8.wrap z)] T (0,0))):=by
 subst hb
 obtain ⟨p',c',w',l2,hr,hS,hl⟩:=Go.Proofs.Sep.bpush2 h.out i hi (below_alloc w _) y z w.heap.size T (heap_alloc_new w _) hn
 exact wpList_append_run hgd s x 40 ho hs hx (by rw [ht];exact hr) (hk p' c' w' l2 hl hS)
theorem wpList_push1 {W w:World} {L:List Asn} (h:Hid (Sep W L w)) (i:Nat) {n c:Nat} {p:Option Addr} {l:Bytes} (hi:L[i]? = some (ORowA 1 (.slice p n c) n (byV l))) (hn:n+1≤1000000) {ops:Array Oper} {rest:List Oper} {o:Oper} {a:Act} {Q:Exit→Act→World→Prop} (hgd:o.guard=none) (s x:Operand)
  (ho:o.op=.call { callee:=.builtin .append,args:=#[s,x],argTypes:=#[40,40] }) (ht:o.type=40) (y:Int) (T:TypeId) (b:Nat) (hs:a.eval s=.slice p n c) (hx:a.eval x=.slice (some ⟨b,0,none⟩) 1 1) (hb:b=w.heap.size)
  (hk:∀ p' c' w' b,Hid (Sep W (L.set i (ORowA 1 (.slice p' (n+1) c') (n+1) (byV (l++[b])))) w')→wpList Tryz.prog ops Q rest (a.put o.dst (.slice p' (n+1) c')) w') :
  wpList Tryz.prog ops Q (o :: rest) a (w.alloc (.cells #[.int .u8 (IntKind.u8.wrap y)] T (0,0))):=by
 subst hb
 obtain ⟨p',c',w',b,hr,hS⟩:=Go.Proofs.Sep.bpush1 h.out i hi (below_alloc w _) y w.heap.size T (heap_alloc_new w _) hn
 exact wpList_append_run hgd s x 40 ho hs hx (by rw [ht];exact hr) (hk p' c' w' b hS)
def EncSaid (w:World) (l:List Tx) (e:Ending) (w':World):Prop:=∃ c,CheckOk l c ∧
 ((c≠0∧e=.returned (.tuple #[.slice none 0 0,.int .i64 1])∧Hid (Below w.heap.size w w')) ∨
  (c=0∧∃ p cap vals ls,e=.returned (.tuple #[.slice p (blocksN l) cap,.int .i64 0])∧ls.length=blocksN l∧(∀ x∈ls,x.length=64)∧Hid (Sep w [OldA w,ORowA 1 (.slice p (blocksN l) cap) (blocksN l) vals,DatA vals ls] w')))
section
variable (G:Nat→Prop) (v:Value) (num:Int) (l:List Tx) (w:World)
set_option maxRecDepth 100000 in
set_option maxHeartbeats 8000000 in
theorem encode_bat (hG:Dom G w) (hl:TxsAt G w v l) (h:BatOk num l) (ep:Int) (e1:0≤ep) (e2:ep≤4294967295) :
  Calls Tryz.prog 101 #[.agg #[.int .i64 num,v],.int .i64 ep] w (EncSaid w l):=by
 obtain ⟨p,c,rfl,h1,h2,h3,h4⟩:=hl
 have hba:=below_alloc w (.cells #[.int .i64 num,.slice p l.length c] 112 (0,0))
 have hs1:=Go.Proofs.Sep.boxT (Sep.start w) #[.int .i64 num,.slice p l.length c] 112
 obtain ⟨wa,hwa⟩:∃ wa,w.alloc (.cells #[.int .i64 num,.slice p l.length c] 112 (0,0))=wa:=⟨_,rfl⟩
 obtain ⟨B,hB⟩:∃ B,w.heap.size=B:=⟨_,rfl⟩
 rw [hwa,hB] at hs1
 rw [hwa] at hba
 have hla:TxsAt G w (.slice p l.length c) l:=⟨p,c,rfl,h1,h2,h3,h4⟩
 have HLA:=Lib.hid hla
 have HG:=Lib.hid hG
 have H4:=Lib.hid h4
 have HOK:=Lib.hid h
 have HS1:Hid (Sep w [OldA w,BoxA B #[.int .i64 num,.slice p l.length c] 112] wa):=hs1
 have HCH:=Lib.hid (check_ok G _ num l wa (hG.below hba) (hla.up hba) h)
 have hl1:=h.l1
 have hl8:=h.l8
 obtain ⟨F,hF,_⟩:=HS1.out.get 1 rfl
 have b0:wa.cell? ⟨B,0,none⟩=some (.int .i64 num):=by rw [cell_row hF.2];rfl
 have b1:wa.cell? ⟨B,1,none⟩=some (.slice p l.length c):=by rw [cell_row hF.2];rfl
 clear hba hs1 hla h4 h h3 hG hF
 go_enter Tryz.func101,Tryz.ntmps101
 go_wp2_with fail
 try rw [hwa]
 try rw [hB]
 refine (HCH.out).mono ?_
 rintro e w1 ⟨⟨cc,rfl,hck⟩,hb1⟩
 have HS2:=Lib.hid (HS1.out.up hb1.out)
 have HCK:=Lib.hid hck
 have k1:=cell_up hb1.out b1
 clear HS1 HCH b0 b1 hck
 by_cases hc0:cc=0
 case neg =>
  have hcc:cc=1:=by have:=HCK.out.1;omega
  subst hcc
  go_wp2_with fail
  go_ret2
  exact ⟨1,HCK.out,.inl ⟨by omega,rfl,Lib.hid HS2.out.old⟩⟩
 case pos =>
 subst hc0
 have e1':¬ ep < 0:=by omega
 have e2':¬ 4294967295 < ep:=by omega
 obtain ⟨tb,tof,rfl,hGb,t0,ti0,_⟩:=H4.out 0 hl1
 replace t0:=cell_up HS2.out.old t0
 have htm0:=HOK.out.tm _ (List.getElem_mem hl1)
 generalize l[0].time=tf at *
 rw [Nat.zero_mul,Nat.add_zero] at t0
 go_upto_region 4 with fail
 have HS3:Hid (Sep w [OldA w,BoxA B #[.int .i64 num,.slice (some ⟨tb,tof,none⟩) l.length c] 112] w1.drew):=HS2.out.up (below_drewN (Below.refl w1.heap.size w1) 1)
 obtain ⟨F,hF,_⟩:=HS3.out.get 1 rfl
 have m1:w1.drew.cell? ⟨B,1,none⟩=some (.slice (some ⟨tb,tof,none⟩) l.length c):=by rw [cell_row hF.2];rfl
 clear hF HS2 k1 t0
 refine wp_regionG (fun W=>W.cell? ⟨B,1,none⟩=some (.slice (some ⟨tb,tof,none⟩) l.length c)) (n:=10) (by kernel_rfl) (by kernel_rfl) ?_
 generalize w1.drew=w2 at *
 refine wpG.tk 0 ?_
 refine wpG.tk 1 ?_
 refine wpG.tk 3 ?_
 refine wpG.tk 4 ?_ (hy:=by intro W hW;have hld0:=hW;go_simp;try with_reducible rfl)
 refine wpG.tk 5 ?_
 refine wpG.tk 6 ?_
 refine wpG.two 2 7 rfl rfl (by kernel_rfl) (by kernel_rfl) (by kernel_rfl) m1 (fun K hK=>?ba) (fun K hK=>?bb)
 case' ba =>
  go_simp
  go_at_call 147
  refine (put64_own _ _).mono ?_
  rintro e w3 ⟨g3,c3,rfl,⟨l8,hl8,ho8⟩,hb3⟩
  have hs4:=HS3.out.new hb3 (ORowA 1 (.slice (some ⟨g3,0,none⟩) 8 c3) 8 (byV l8)) (F:=New w2 w3) (fun _ h=>h) (orow_own ho8 fun q hq=>ho8.lt q hq)
  have m3:=cell_up hb3 m1
  have hba4:=below_alloc w3 (.cells #[.int .u8 (IntKind.u8.wrap (l.length:Int))] 5 (0,0))
  obtain ⟨p5,c5,w5,y5,hr5,hS5⟩:=Go.Proofs.Sep.bpush1 hs4 2 rfl hba4 (l.length:Int) w3.heap.size 5 (heap_alloc_new w3 _) (by omega)
  have m4:=cell_up hba4 m3
  have HS5:Hid (Sep w [OldA w,BoxA B #[.int .i64 num,.slice (some ⟨tb,tof,none⟩) l.length c] 112,ORowA 1 (.slice p5 9 c5) 9 (byV (l8++[y5]))] w5):=hS5
  clear hs4 ho8 hb3 hba4 hS5
  try go_simp
  refine hK _ _ ?_
  clear hK K
  refine wpG.alone 7 rfl (by kernel_rfl) (by kernel_rfl) m3 (fun K hK=>?_)
  go_simp
  try go_simp
  refine hK _ _ ?_
  clear hK K
  refine wpG.alone 8 rfl (by kernel_rfl) (by kernel_rfl) m4 (fun K hK=>?_)
  refine wp_append_run (v:=.slice (some ⟨g3,0,none⟩) 8 c3) (u:=.slice (some ⟨w3.heap.size,0,none⟩) 1 1) (.tmp 38) (.tmp 43) 40 rfl ?_ ?_ hr5 ?_
  ·go_simp
  ·go_simp
  try go_simp
  refine hK _ _ ?_
  clear hK K
  clear hr5 m3 m4 m1 HS3
 case' bb =>
  have hba4:=below_alloc w2 (.cells #[.int .u8 (IntKind.u8.wrap (l.length:Int))] 5 (0,0))
  have hnw4:=heap_alloc_new w2 (.cells #[.int .u8 (IntKind.u8.wrap (l.length:Int))] 5 (0,0))
  have hs4:=HS3.out.up hba4
  have m3:=cell_up hba4 m1
  obtain ⟨b4,hb4⟩:∃ b4,w2.heap.size=b4:=⟨_,rfl⟩
  go_simp
  try go_simp
  refine hK _ _ ?_
  clear hK K
  rw [hb4] at hnw4
  try rw [hb4]
  generalize w2.alloc (.cells #[.int .u8 (IntKind.u8.wrap (l.length:Int))] 5 (0,0))=w4 at *
  refine wpG.alone 2 rfl (by kernel_rfl) (by kernel_rfl) m3 (fun K hK=>?_)
  go_simp
  go_at_call 147
  refine (put64_own _ _).mono ?_
  rintro e w3 ⟨g3,c3,rfl,⟨l8,hl8,ho8⟩,hb3⟩
  have hs5:=hs4.new hb3 (ORowA 1 (.slice (some ⟨g3,0,none⟩) 8 c3) 8 (byV l8)) (F:=New w4 w3) (fun _ h=>h) (orow_own ho8 fun q hq=>ho8.lt q hq)
  have m4:=cell_up hb3 m3
  obtain ⟨p5,c5,w5,y5,hr5,hS5⟩:=Go.Proofs.Sep.bpush1 hs5 2 rfl (Below.refl _ _) (l.length:Int) b4 5 ((hb3.block b4 (Array.getElem?_eq_some_iff.1 hnw4).1).trans hnw4) (by omega)
  have HS5:Hid (Sep w [OldA w,BoxA B #[.int .i64 num,.slice (some ⟨tb,tof,none⟩) l.length c] 112,ORowA 1 (.slice p5 9 c5) 9 (byV (l8++[y5]))] w5):=hS5
  clear hs4 hs5 ho8 hb3 hba4 hnw4 hS5
  try go_simp
  refine hK _ _ ?_
  clear hK K
  refine wpG.alone 8 rfl (by kernel_rfl) (by kernel_rfl) m4 (fun K hK=>?_)
  refine wp_append_run (v:=.slice (some ⟨g3,0,none⟩) 8 c3) (u:=.slice (some ⟨b4,0,none⟩) 1 1) (.tmp 38) (.tmp 43) 40 rfl ?_ ?_ hr5 ?_
  ·go_simp
  ·go_simp
  try go_simp
  refine hK _ _ ?_
  clear hK K
  clear hr5 m3 m4 m1 HS3
 all_goals
  have HBL:Hid ((l8++[y5]).length=9):=by show _=_;rw [List.length_append,hl8];rfl
  generalize l8++[y5]=bl at *
  clear hl8
  obtain ⟨F,hF,_⟩:=HS5.out.get 1 rfl
  have m5:w5.cell? ⟨B,1,none⟩=some (.slice (some ⟨tb,tof,none⟩) l.length c):=by rw [cell_row hF.2];rfl
  clear hF
  refine wpG.tk 9 ?_
  refine wpG.done (by kernel_rfl) m5 ?_
  have hs6:=(HS5.out.new (Below.refl _ _) (ORowA 1 (.slice none 0 0) 0 []) (F:=fun _=>False) (fun _ h=>h.elim) (orow_nil _ _ _)).new (Below.refl _ _) (DatA [] []) (F:=fun _=>False) (fun _ h=>h.elim) trivial
  have HS6:Hid (Sep w [OldA w,BoxA B #[.int .i64 num,.slice (some ⟨tb,tof,none⟩) l.length c] 112,ORowA 1 (.slice p5 9 c5) 9 (byV bl),ORowA 1 (.slice none 0 0) 0 [],DatA [] []] w5):=hs6
  clear hs6 HS5
  generalize IntKind.u64.wrap tf=u37
  generalize IntKind.u8.wrap (l.length:Int)=u41
  go_wp2_with fail
  clear m5
  go_loopw [4,7,8,49] (fun s4 s7 s8 s49 wr=>∃ k n m:Nat,∃ op oc bp bc vals ls bl,∃ lst:Int,k≤l.length∧s49=.int .i64 k∧s4=.slice op n oc∧s7=.slice bp m bc∧s8=.int .i64 lst∧0≤lst∧lst≤1099511627776∧Hid (n+1=blocksTo l k)∧Hid (m=9+2 * k)∧Hid (bl.length=m)∧Hid (ls.length=n∧∀ x∈ls,x.length=64)∧Hid (Sep w [OldA w,BoxA B #[.int .i64 num,.slice (some ⟨tb,tof,none⟩) l.length c] 112,ORowA 1 (.slice bp m bc) m (byV bl),ORowA 1 (.slice op n oc) n vals,DatA vals ls] wr)) (fun _ _ _ s49 _=>l.length - (intOf s49).toNat)
  case atStart=>exact ⟨0,0,9,none,0,p5,c5,[],[],bl,tf,Nat.zero_le _,by go_num,rfl,rfl,rfl,htm0.1,htm0.2,rfl,rfl,HBL.out,⟨rfl,fun x hx=>by cases hx⟩,HS6.out⟩
  case round =>
   obtain ⟨k,n,m,op,oc,bp,bc,vals,ls,bl,lst,hk,rfl,rfl,rfl,rfl,hls0,hls1,HN,HM,HBL2,HLS,HS⟩:=hrel
   clear HBL HS6
   by_cases hlt:k < l.length
   case neg =>
    obtain rfl:k=l.length:=by omega
    obtain ⟨F,hF,_⟩:=HS.out.get 1 rfl
    have m6:wr.cell? ⟨B,1,none⟩=some (.slice (some ⟨tb,tof,none⟩) l.length c):=by rw [cell_row hF.2];rfl
    clear hF
    go_wp2_with fail
    clear m6
    go_loopw [7,95] (fun s7 s95 wx=>∃ k2 m:Nat,∃ bp bc bl,k2≤l.length∧s95=.int .i64 k2∧s7=.slice bp m bc∧Hid (m=9+2 * l.length+k2)∧Hid (bl.length=m)∧Hid (Sep w [OldA w,BoxA B #[.int .i64 num,.slice (some ⟨tb,tof,none⟩) l.length c] 112,ORowA 1 (.slice bp m bc) m (byV bl),ORowA 1 (.slice op n oc) n vals,DatA vals ls] wx)) (fun _ s95 _=>l.length - (intOf s95).toNat)
    case atStart=>exact ⟨0,m,bp,bc,bl,Nat.zero_le _,by go_num,rfl,HM.out,HBL2.out,HS.out⟩
    case round =>
     clear HS HBL2 HM
     obtain ⟨k2,m,bp,bc,bl,hk2,rfl,rfl,HM,HBL2,HS⟩:=hrel
     by_cases hlt2:k2 < l.length
     case pos =>
      obtain ⟨b,o,e',hGb,c0,ci,pv,c1,hp⟩:=H4.out k2 hlt2
      cases e'
      have hold:=HS.out.old
      replace c0:=cell_up hold c0
      replace c1:=cell_up hold c1
      obtain ⟨pp,pc,rfl,p1,p2,-⟩:=hp
      clear ci
      generalize l[k2].puts.length=pn at *
      generalize l[k2].time=tm at *
      have HSX:Hid (Sep w _ (wr.alloc (.cells #[.int .i64 tm,.slice pp pn pc] 198 (0,0)))):=HS.out.up (below_alloc wr (.cells #[.int .i64 tm,.slice pp pn pc] 198 (0,0)))
      have hm1:m+1≤1000000:=by have:=HM.out;omega
      clear hold
      go_wp2_with (at_builtin;refine wpList_push1 HSX 2 rfl hm1 rfl _ _ rfl rfl _ _ _ rfl rfl (by simp) ?_;rintro bp' bc' w5 b2 HS5)
      have HM6:Hid (m+1=9+2 * l.length+(k2+1)):=by show _=_;have:=HM.out;omega
      have HB6:Hid ((bl++[b2]).length=m+1):=by show _=_;rw [List.length_append,HBL2.out];rfl
      have HS6:Hid (Sep w [OldA w,BoxA B #[.int .i64 num,.slice (some ⟨tb,tof,none⟩) l.length c] 112,ORowA 1 (.slice bp' (m+1) bc') (m+1) (byV (bl++[b2])),ORowA 1 (.slice op n oc) n vals,DatA vals ls] w5):=HS5
      clear HS HSX HS5
      go_roundw
      case rel=>exact ⟨k2+1,m+1,bp',bc',_,by omega,by go_num,rfl,HM6,HB6,HS6⟩
      case measure=>simp [intOf];omega
     case neg =>
      obtain rfl:k2=l.length:=by omega
      obtain ⟨F,hF,_⟩:=HS.out.get 1 rfl
      have m7:wr.cell? ⟨B,0,none⟩=some (.int .i64 num):=by rw [cell_row hF.2];rfl
      obtain ⟨F2,hF2,hD2⟩:=HS.out.get 2 rfl
      have hn33:n≤32:=by have:=HN.out;have:=HOK.out.b33;unfold blocksN at this;omega
      have hm40:m≤40:=by have:=HM.out;omega
      have HEN:=Lib.hid (encode_any F2 2 ep num n bp m bc bl wr hD2 (orow_bytes hF2) HBL2.out hm40 (by omega) (by omega) e1 e2 (by have:=HOK.out.n1;omega) HOK.out.n2 (by omega) (by omega))
      clear hF hF2 hD2
      go_wp2_with fail
      refine (HEN.out).mono ?_
      rintro e w4 ⟨p4,c4,rfl,⟨l4,hl4,hq4⟩,hb4⟩
      have hs4:=Sc.Sep.dat_new HS.out 4 rfl hb4 hq4.bytes
      have hba:=below_alloc w4 (.cells #[.slice p4 64 c4] 40 (0,0))
      obtain ⟨op',oc',w5,hr5,hS5⟩:=Go.Proofs.Sep.dpush hs4 3 rfl hba (.slice p4 64 c4) rfl w4.heap.size (by rw [cell_row (heap_alloc_new w4 _)];rfl) (by omega)
      have HR5:=Lib.hid hr5
      have hs6:=hS5.erase 2
      have hs7:=hs6.erase 1
      have HN6:Hid (n+1=blocksN l):=HN.out
      have HL6:Hid ((ls++[l4]).length=blocksN l∧∀ x∈ls++[l4],x.length=64):=⟨by rw [List.length_append,HLS.out.1,← HN6.out];rfl,fun x hx=>by
       rcases List.mem_append.1 hx with hx | hx
       ·exact HLS.out.2 x hx
       ·rw [List.mem_singleton.1 hx];exact hl4⟩
      have HS7:Hid (Sep w [OldA w,ORowA 1 (.slice op' (n+1) oc') (n+1) (vals++[.slice p4 64 c4]),DatA (vals++[.slice p4 64 c4]) (ls++[l4])] w5):=hs7
      clear hs4 hba hr5 hS5 hq4 hb4 hl4 HS HEN m7 hs6 hs7
      go_wp2_with (at_builtin;refine Lib.wpList_append_run _ rfl _ _ _ _ rfl _ _ rfl rfl _ _ HR5.out ?_)
      go_ret2
      have hs8:=HS7.out
      rw [HN6.out] at hs8
      exact ⟨0,HCK.out,.inr ⟨rfl,op',oc',_,_,by rw [← HN6.out];rfl,HL6.out.1,HL6.out.2,hs8⟩⟩
   case pos =>
    obtain ⟨b,o,e',hGb,c0,ci,pv,c1,hp⟩:=H4.out k hlt
    cases e'
    have hold:=HS.out.old
    replace c0:=cell_up hold c0
    replace c1:=cell_up hold c1
    obtain ⟨pp,pc,rfl,p1,p2,p3,p4⟩:=hp
    have HP4:=Lib.hid p4
    have htk:=HOK.out.tm _ (List.getElem_mem hlt)
    have hpk:=HOK.out.p16 _ (List.getElem_mem hlt)
    have HPO:=Lib.hid (HOK.out.po _ (List.getElem_mem hlt))
    have HST:=Lib.hid (blocksTo_succ l hlt)
    have HBT:=Lib.hid (blocksTo_le HOK.out.p16 k hk)
    clear p3 p4 ci
    generalize l[k].puts=pl at *
    generalize l[k].time=tm at *
    have hba:=below_alloc wr (.cells #[.int .i64 tm,.slice pp pl.length pc] 198 (0,0))
    have hsx:=Go.Proofs.Sep.boxT HS.out #[.int .i64 tm,.slice pp pl.length pc] 198
    obtain ⟨wx,hwx⟩:∃ wx,wr.alloc (.cells #[.int .i64 tm,.slice pp pl.length pc] 198 (0,0))=wx:=⟨_,rfl⟩
    obtain ⟨D,hD⟩:∃ D,wr.heap.size=D:=⟨_,rfl⟩
    rw [hwx,hD] at hsx
    have HSX:Hid (Sep w [OldA w,BoxA B #[.int .i64 num,.slice (some ⟨tb,tof,none⟩) l.length c] 112,ORowA 1 (.slice bp m bc) m (byV bl),ORowA 1 (.slice op n oc) n vals,DatA vals ls,BoxA D #[.int .i64 tm,.slice pp pl.length pc] 198] wx):=hsx
    clear hsx hba HS hold
    go_upto_region 9 with fail
    try rw [hwx]
    try rw [hD]
    clear hwx hD
    obtain ⟨F,hF,_⟩:=HSX.out.get 5 rfl
    have d1:wx.cell? ⟨D,1,none⟩=some (.slice pp pl.length pc):=by rw [cell_row hF.2];rfl
    clear hF c0 c1
    go_wp2_with fail
    clear d1
    go_loopw [4,56] (fun s4 s56 wy=>∃ i n2:Nat,∃ op oc vals ls,i≤pl.length∧s56=.int .i64 i∧s4=.slice op n2 oc∧Hid (n2+1=blocksTo l k+i)∧Hid (ls.length=n2∧∀ x∈ls,x.length=64)∧Hid (Sep w [OldA w,BoxA B #[.int .i64 num,.slice (some ⟨tb,tof,none⟩) l.length c] 112,ORowA 1 (.slice bp m bc) m (byV bl),ORowA 1 (.slice op n2 oc) n2 vals,DatA vals ls,BoxA D #[.int .i64 tm,.slice pp pl.length pc] 198] wy)) (fun _ s56 _=>pl.length - (intOf s56).toNat)
    case atStart=>exact ⟨0,n,op,oc,vals,ls,Nat.zero_le _,by go_num,rfl,HN.out,HLS.out,HSX.out⟩
    case round =>
     clear HSX HLS HN
     obtain ⟨i,n2,op,oc,vals,ls,hi,rfl,rfl,HN,HLS,HS⟩:=hrel
     by_cases hlt2:i < pl.length
     case neg =>
      obtain rfl:i=pl.length:=by omega
      obtain ⟨F,hF,_⟩:=HS.out.get 5 rfl
      have d0:wr.cell? ⟨D,0,none⟩=some (.int .i64 tm):=by rw [cell_row hF.2];rfl
      clear hF
      have hst0:-1099511627776≤tm - lst:=by omega
      have hst1:tm - lst≤1099511627776:=by omega
      go_upto_region 17 with fail
      clear d0 hst0 hst1
      generalize tm - lst=stp at *
      have hm1:m+2≤1000000:=by have:=HM.out;omega
      go_wp2_with (at_builtin;refine wpList_push2 HS 2 rfl hm1 rfl _ _ rfl rfl _ _ _ _ rfl rfl (by simp) ?_;rintro bp' bc' w5 l2 hl2 HS5)
      have hs6:=HS5.out.take 5
      have HM6:Hid (m+2=9+2 * (k+1)):=by show _=_;have:=HM.out;omega
      have HB6:Hid ((bl++l2).length=m+2):=by show _=_;rw [List.length_append,HBL2.out,hl2]
      have HN6:Hid (n2+1=blocksTo l (k+1)):=by show _=_;rw [HST.out];exact HN.out
      have HS6:Hid (Sep w [OldA w,BoxA B #[.int .i64 num,.slice (some ⟨tb,tof,none⟩) l.length c] 112,ORowA 1 (.slice bp' (m+2) bc') (m+2) (byV (bl++l2)),ORowA 1 (.slice op n2 oc) n2 vals,DatA vals ls] w5):=hs6
      clear hs6 HS5 hl2 HS
      go_roundw
      case rel=>exact ⟨k+1,n2,m+2,op,oc,bp',bc',vals,ls,_,tm,by omega,by go_num,rfl,rfl,rfl,htk.1,htk.2,HN6,HM6,HB6,HLS,HS6⟩
      case measure=>simp [intOf];omega
     case pos =>
      obtain ⟨pb,po,e',hGp,q0,qi,dv,q1,hd⟩:=HP4.out i hlt2
      cases e'
      have hold:=HS.out.old
      replace q0:=cell_up hold q0
      replace q1:=cell_up hold q1
      obtain ⟨k0,k1,k2⟩:=HPO.out _ (List.getElem_mem hlt2)
      obtain ⟨dp,dc,rfl⟩:=shape_of hd k2
      have hd2:=hd.up hold
      generalize pl[i].lba=lb at *
      generalize pl[i].data=dd at *
      have hba:=below_alloc wr (.cells #[.int .i64 lb,.slice dp 40 dc] 44 (0,0))
      have hnw:=heap_alloc_new wr (.cells #[.int .i64 lb,.slice dp 40 dc] 44 (0,0))
      obtain ⟨wz,hwz⟩:∃ wz,wr.alloc (.cells #[.int .i64 lb,.slice dp 40 dc] 44 (0,0))=wz:=⟨_,rfl⟩
      obtain ⟨E,hE⟩:∃ E,wr.heap.size=E:=⟨_,rfl⟩
      have HSZ:=Lib.hid (HS.out.up hba)
      rw [hwz] at hba hnw HSZ
      rw [hE] at hnw
      have HEN:=Lib.hid (encode_any G 1 ep num lb dp 40 dc dd wz (((HG.out.below hold).below hba)) (hd2.up hba) k2 (by omega) (by omega) (by omega) e1 e2 (by have:=HOK.out.n1;omega) HOK.out.n2 k0 k1)
      obtain ⟨F,hF,_⟩:=HSZ.out.get 1 rfl
      have z0:wz.cell? ⟨B,0,none⟩=some (.int .i64 num):=by rw [cell_row hF.2];rfl
      have y0:wz.cell? ⟨E,0,none⟩=some (.int .i64 lb):=by rw [cell_row hnw];rfl
      have y1:wz.cell? ⟨E,1,none⟩=some (.slice dp 40 dc):=by rw [cell_row hnw];rfl
      clear hba hnw hd hd2 hF HS hold qi
      go_upto_region 12 with fail
      try rw [hwz]
      try rw [hE]
      clear hwz hE q0 q1
      go_wp2_with fail
      refine (HEN.out).mono ?_
      rintro e w4 ⟨p4,c4,rfl,⟨l4,hl4,hq4⟩,hb4⟩
      have hs4:=Sc.Sep.dat_new HSZ.out 4 rfl hb4 hq4.bytes
      have hba:=below_alloc w4 (.cells #[.slice p4 64 c4] 40 (0,0))
      have hn2:n2≤1000000:=by have:=HN.out;have:=HBT.out;omega
      obtain ⟨op',oc',w5,hr5,hS5⟩:=Go.Proofs.Sep.dpush hs4 3 rfl hba (.slice p4 64 c4) rfl w4.heap.size (by rw [cell_row (heap_alloc_new w4 _)];rfl) hn2
      have HR5:=Lib.hid hr5
      have HS5:Hid (Sep w [OldA w,BoxA B #[.int .i64 num,.slice (some ⟨tb,tof,none⟩) l.length c] 112,ORowA 1 (.slice bp m bc) m (byV bl),ORowA 1 (.slice op' (n2+1) oc') (n2+1) (vals++[.slice p4 64 c4]),DatA (vals++[.slice p4 64 c4]) (ls++[l4]),BoxA D #[.int .i64 tm,.slice (some ⟨pb,po,none⟩) pl.length pc] 198] w5):=hS5
      have HN5:Hid (n2+1+1=blocksTo l k+(i+1)):=by show _=_;have:=HN.out;omega
      have HL5:Hid ((ls++[l4]).length=n2+1∧∀ x∈ls++[l4],x.length=64):=⟨by rw [List.length_append,HLS.out.1];rfl,fun x hx=>by
       rcases List.mem_append.1 hx with hx | hx
       ·exact HLS.out.2 x hx
       ·rw [List.mem_singleton.1 hx];exact hl4⟩
      clear hs4 hba hr5 hS5 hq4 hb4 hl4 HSZ HEN z0 y0 y1 hn2
      go_wp2_with (at_builtin;refine Lib.wpList_append_run _ rfl _ _ _ _ rfl _ _ rfl rfl _ _ HR5.out ?_)
      go_roundw
      case rel=>exact ⟨i+1,n2+1,op',oc',_,_,by omega,by go_num,rfl,HN5,HL5,HS5⟩
      case measure=>simp [intOf];omega
end
end Go.Proofs
namespace Go.Proofs
open Go.RowKit Sc
section
variable {W w:World} {L:List Asn} {st d m s pos num:Nat}
set_option maxRecDepth 100000 in
set_option maxHeartbeats 1000000 in
theorem stRead (h:Hid (Sep W L w)) (i:Nat) (hi:L[i]? = some (StoreB st d m s pos num)) (j:Nat) {S:MgS} (hj:L[j]? = some (MgrA (pt m) S)) (hij:i≠j) {n:Nat} (g:MgG n S) (hn:n≤1000000) (hd f l:Int) (i1:I64 f) (i2:I64 l) :
  Calls Tryz.prog 95 #[pt st,.int .i64 hd,.agg #[.int .i64 f,.int .i64 l]] w fun r w' =>
   (rdCode S hd ⟨f,l⟩≠0∧r=.returned (.tuple #[.slice none 0 0,.int .i64 (rdCode S hd ⟨f,l⟩)])∧Hid (Sep W L w')) ∨
   (rdCode S hd ⟨f,l⟩=0∧∃ g o cp,r=.returned (.tuple #[.slice (some ⟨g,o,none⟩) (40 * l.toNat) cp,.int .i64 0]) ∧
     Hid (Sep W ((L++[BytesWA (.slice (some ⟨g,o,none⟩) (40 * l.toNat) cp) (rdOut S hd ⟨f,l⟩)]).set j (MgrA (pt m) (rdNext S hd ⟨f,l⟩))) w')):=by
 have hil:=(List.getElem?_eq_some_iff.1 hi).1
 have hjl:=(List.getElem?_eq_some_iff.1 hj).1
 have hs0:=Go.Proofs.Sep.boxT h.out #[.int .i64 f,.int .i64 l] 186
 obtain ⟨w1,hw1⟩:∃ w1,w.alloc (.cells #[.int .i64 f,.int .i64 l] 186 (0,0))=w1:=⟨_,rfl⟩
 obtain ⟨B,hB⟩:∃ B,w.heap.size=B:=⟨_,rfl⟩
 rw [hw1,hB] at hs0
 have hi':(L++[BoxA B #[.int .i64 f,.int .i64 l] 186])[i]? = some (StoreB st d m s pos num):=by rw [List.getElem?_append_left hil];exact hi
 have hj':(L++[BoxA B #[.int .i64 f,.int .i64 l] 186])[j]? = some (MgrA (pt m) S):=by rw [List.getElem?_append_left hjl];exact hj
 have hb':(L++[BoxA B #[.int .i64 f,.int .i64 l] 186])[L.length]? = some (BoxA B #[.int .i64 f,.int .i64 l] 186):=by rw [List.getElem?_append_right (Nat.le_refl _),Nat.sub_self];rfl
 have HD:=Lib.hid (stDead hs0 i hi')
 have hs1:Sep W _ w1.drew:=hs0.up (below_drewN (Below.refl w1.heap.size w1) 1)
 have HQ:=Lib.hid (mgRead_sep (Lib.hid hs1) j hj' g hn hd ⟨f,l⟩ i1 i2)
 have c5:w1.drew.cell? ⟨st,5,none⟩=some (pt m):=(cell_row (st_cells hs1 i hi') 5).trans rfl
 obtain ⟨F,hF,_⟩:=hs1.get _ hb'
 have e0:w1.drew.cell? ⟨B,0,none⟩=some (.int .i64 f):=by rw [cell_row hF.2];rfl
 have e1:w1.drew.cell? ⟨B,1,none⟩=some (.int .i64 l):=by rw [cell_row hF.2];rfl
 have HI:=Lib.hid hi
 have HIL:=Lib.hid hil
 have HJL:=Lib.hid hjl
 have HIJ:=Lib.hid hij
 have HI':=Lib.hid hi'
 have HB':=Lib.hid hb'
 clear h hi hj hs0 hs1 hi' hj' hb' hF g i1 i2 hil hjl hij
 go_enter Tryz.func95,Tryz.ntmps95
 go_wp2_with fail
 try rw [hw1]
 try rw [hB]
 clear hw1 hB
 refine (HD.out).mono ?_
 rintro e w2 ⟨rfl,rfl⟩
 go_upto_region 3 with fail
 refine wp_regionG (fun W=>W.cell? ⟨st,5,none⟩=some (pt m)∧W.cell? ⟨B,0,none⟩=some (.int .i64 f)∧W.cell? ⟨B,1,none⟩=some (.int .i64 l)) (n:=11) (by kernel_rfl) (by kernel_rfl) ?_
 generalize w1.drew=wd at *
 refine wpG.tk 0 ?_
 refine wpG.tk 1 ?_
 refine wpG.tk 2 ?_
 refine wpG.tk 3 ?_ (hy:=by intro W hW;have hld0:=hW.1;go_simp;try with_reducible rfl)
 refine wpG.tk 4 ?_
 refine wpG.tk 5 ?_ (hy:=by intro W hW;have hld0:=hW.2.1;have hld1:=hW.2.2;go_simp;try with_reducible rfl)
 refine wpG.alone 6 rfl (by kernel_rfl) (by kernel_rfl) ⟨c5,e0,e1⟩ (fun K hK=>?_)
 go_simp
 go_at_call 156
 refine (HQ.out).mono ?_
 rintro e w2 (⟨hc,rfl,hS⟩ | ⟨hc,gg,o,cp,rfl,hS⟩)
 ·have d5:w2.cell? ⟨st,5,none⟩=some (pt m):=(cell_row (st_cells hS.out i HI'.out) 5).trans rfl
  obtain ⟨F,hF,_⟩:=hS.out.get _ HB'.out
  have x0:w2.cell? ⟨B,0,none⟩=some (.int .i64 f):=by rw [cell_row hF.2];rfl
  have x1:w2.cell? ⟨B,1,none⟩=some (.int .i64 l):=by rw [cell_row hF.2];rfl
  have hs9:=hS.out.take L.length
  rw [List.take_left' rfl] at hs9
  have HS9:=Lib.hid hs9
  have HC:=Lib.hid hc
  clear hF hS hs9 hc HQ
  try go_simp
  refine hK _ _ ?_
  clear hK K
  refine wpG.tk 7 ?_
  refine wpG.tk 8 ?_
  refine wpG.tk 9 ?_
  refine wpG.tk 10 ?_
  refine wpG.done (by kernel_rfl) ⟨d5,x0,x1⟩ ?_
  go_wp2_with fail
  go_ret2
  exact .inl ⟨HC.out,rfl,HS9.out⟩
 ·have hs8:=hS.out
  rw [List.append_assoc,List.set_append_left _ _ HJL.out] at hs8
  have d5:w2.cell? ⟨st,5,none⟩=some (pt m):=(cell_row (st_cells hs8 i (by rw [List.getElem?_append_left (by rw [List.length_set];exact HIL.out),List.getElem?_set_ne (fun e=>HIJ.out e.symm)];exact HI.out)) 5).trans rfl
  obtain ⟨F,hF,_⟩:=hs8.get L.length (A:=BoxA B #[.int .i64 f,.int .i64 l] 186) (by rw [List.getElem?_append_right (by rw [List.length_set];exact Nat.le_refl _),List.length_set,Nat.sub_self];rfl)
  have x0:w2.cell? ⟨B,0,none⟩=some (.int .i64 f):=by rw [cell_row hF.2];rfl
  have x1:w2.cell? ⟨B,1,none⟩=some (.int .i64 l):=by rw [cell_row hF.2];rfl
  have hs9:=hs8.erase L.length
  rw [List.eraseIdx_append_of_length_le (by rw [List.length_set];exact Nat.le_refl _),List.length_set,Nat.sub_self] at hs9
  have HS9:Hid (Sep W ((L++[BytesWA (.slice (some ⟨gg,o,none⟩) (40 * l.toNat) cp) (rdOut S hd ⟨f,l⟩)]).set j (MgrA (pt m) (rdNext S hd ⟨f,l⟩))) w2):=by
   show Sep _ _ _
   rw [List.set_append_left _ _ HJL.out]
   exact hs9
  have HC:=Lib.hid hc
  clear hF hS hs8 hs9 hc HQ
  try go_simp
  refine hK _ _ ?_
  clear hK K
  refine wpG.tk 7 ?_
  refine wpG.tk 8 ?_
  refine wpG.tk 9 ?_
  refine wpG.tk 10 ?_
  refine wpG.done (by kernel_rfl) ⟨d5,x0,x1⟩ ?_
  go_wp2_with fail
  go_ret2
  exact .inr ⟨HC.out,gg,o,cp,rfl,HS9.out⟩
end
end Go.Proofs
namespace Go.Proofs
open Go.RowKit Sc
def emptied (zs:List Nat) (a:Nat):Nat→List Nat
 | 0=>zs
 | q+1=>(emptied zs a q).set (a+q) 0
theorem emptied_len (zs:List Nat) (a q:Nat):(emptied zs a q).length=zs.length:=by
 induction q with
 | zero=>rfl
 | succ q ih=>rw [emptied,List.length_set,ih]
theorem emptied_get (zs:List Nat) (a q j:Nat) (h:j < zs.length):(emptied zs a q)[j]? = if a≤j∧j < a+q then some 0 else zs[j]? := by
 induction q with
 | zero=>rw [if_neg (by omega)];rfl
 | succ q ih =>
  rw [emptied,List.getElem?_set,emptied_len]
  by_cases hq:a+q=j
  ·rw [if_pos hq,if_pos (by omega),if_pos (by omega)]
  ·rw [if_neg hq,ih]
   by_cases h2:a≤j∧j < a+q
   ·rw [if_pos h2,if_pos (by omega)]
   ·rw [if_neg h2,if_neg (by omega)]
def filled (zs:List Nat) (a:Nat):Nat→List Nat
 | 0=>zs
 | q+1=>(filled zs a q).set (a+q / 96) (q % 96+1)
theorem filled_len (zs:List Nat) (a q:Nat):(filled zs a q).length=zs.length:=by
 induction q with
 | zero=>rfl
 | succ q ih=>rw [filled,List.length_set,ih]
theorem filled_get (zs:List Nat) (a q z:Nat) (hl:a+3≤zs.length) (hz:z < 3) (h0:∀ z,z < 3→zs[a+z]? = some 0):(filled zs a q)[a+z]? = some (min 96 (q - 96 * z)):=by
 induction q with
 | zero=>rw [filled,h0 z hz];congr 1;omega
 | succ q ih =>
  rw [filled,List.getElem?_set,filled_len]
  by_cases hq:a+q / 96=a+z
  ·rw [if_pos hq,if_pos (by omega)];congr 1;omega
  ·rw [if_neg hq,ih];congr 1;omega
theorem filled_out (zs:List Nat) (a q j:Nat) (h:j < a∨a+3≤j) (hq:q≤288):(filled zs a q)[j]? = zs[j]? := by
 induction q with
 | zero=>rfl
 | succ q ih=>rw [filled,List.getElem?_set_ne (by omega),ih (by omega)]
theorem infoBlk:(Tryz.prog.info? 257).map (fun i=>(i.zero,i.size,i.bytes))=some (some (.agg #[.int .i64 0,.int .i64 0,.int .i64 0,.int .i64 0,.slice none 0 0]),5,56):=by kernel_rfl
structure Blk where
 kd:Int
 lb:Int
 p:Option Addr
 n:Nat
 c:Nat
abbrev Blk.arr (b:Blk) (sq:Int):Array Value:=#[.int .i64 b.kd,.int .i64 0,.int .i64 sq,.int .i64 b.lb,.slice b.p b.n b.c]
abbrev Blk.cells (b:Blk) (sq:Int):List Value:=[.int .i64 b.kd,.int .i64 0,.int .i64 sq,.int .i64 b.lb,.slice b.p b.n b.c]
theorem row_one (b:Blk) (sq:Int) (w:World):(w.alloc (.cells (b.arr sq) 257 (0,0))).ownsRow w.heap.size 257 5 (.slice (some ⟨w.heap.size,0,none⟩) 1 1) 1 (b.cells sq) :=
 ⟨rfl,.inr ⟨w.heap.size,1,b.arr sq,rfl,Nat.le_refl _,heap_alloc_new w _,Nat.le_refl _,by decide,rfl,rfl⟩⟩
theorem Sep.blk_push {W w:World} {L:List Asn} (h:Sep W L w) (i:Nat) {g n cap:Nat} {xs:List Value} (hi:L[i]? = some (RowA 257 5 (.slice (some ⟨g,0,none⟩) n cap) n xs)) (b:Blk) (sq:Int) (hn:n≤100000) :
  ∃ g' cap' w',(Builtin.append_ #[299,299] 299 #[.slice (some ⟨g,0,none⟩) n cap,.slice (some ⟨w.heap.size,0,none⟩) 1 1]).run Tryz.prog (w.alloc (.cells (b.arr sq) 257 (0,0)))=.ok (.slice (some ⟨g',0,none⟩) (n+1) cap') w'∧Sep W (L.set i (RowA 257 5 (.slice (some ⟨g',0,none⟩) (n+1) cap') (n+1) (xs++b.cells sq))) w':=by
 obtain ⟨i0,hi0,hz0,hz1,hz2⟩:=info_parts infoBlk
 have hb:=below_alloc w (.cells (b.arr sq) 257 (0,0))
 obtain ⟨F,hF,_⟩:=(h.up hb).get i hi
 obtain ⟨v',w',hr,ho,hg,_,hat⟩:=run_append_own_at (P:=Tryz.prog) (w.alloc (.cells (b.arr sq) 257 (0,0))) 0 299 299 257 i0 _ 5 56 Tryz.underlying299 hi0 hz0 hz1 hz2 rfl (by decide) _ n xs hF.1 ⟨w.heap.size,0,none⟩ 1 1 (b.cells sq) rfl (World.news_of_block (cs:=b.arr sq) (heap_alloc_new w _)) (by simp [Value.oneCell']) (by unfold maxLen;omega) (by omega) (Nat.zero_le _)
 have hlt:=ho.lt
 obtain ⟨g',cap',rfl⟩:∃ g' cap',v'=.slice (some ⟨g',0,none⟩) (n+1) cap':=by
  obtain ⟨_,⟨_,h1⟩ | ⟨g',cap',cur,e,_⟩⟩:=ho
  ·omega
  ·exact ⟨g',cap',e⟩
 refine ⟨g',cap',w',hr,h.row_app i hi hb ho hg (H:=(w.alloc (.cells (b.arr sq) 257 (0,0))).heap.size) ?_ rfl (hlt g' rfl).2⟩
 rcases hat with e | e
 ·exact .inl e.symm
 ·refine .inr ?_
  simpa [Value.ownBlock] using e
def BlkOk (M:List Asn) (j:Nat) (b:Blk):Prop:=1≤b.kd∧b.kd≤4∧0≤b.lb∧b.lb≤1048576∧b.n≤40∧∃ l:Bytes,l.length=b.n∧∀ G w',Sc.Rest M j G w'→BytesAt G w' (.slice b.p b.n b.c) l
theorem BlkOk.pre {M N:List Asn} {j:Nat} {b:Blk} (h:BlkOk M j b):BlkOk (M++N) j b:=by
 obtain ⟨h1,h2,h3,h4,h5,l,h6,h7⟩:=h
 refine ⟨h1,h2,h3,h4,h5,l,h6,fun G w' hR=>h7 G w' fun q A hq hA=>hR q A hq ?_⟩
 rw [List.getElem?_append_left (List.getElem?_eq_some_iff.1 hA).1]
 exact hA
theorem bytes_sub {G:Nat→Prop} {w:World} {g n c:Nat} {l:Bytes} (h:BytesAt G w (.slice (some ⟨g,0,none⟩) n c) l) (a m:Nat) (ha:a+m≤n) (hl:l.length=n):BytesAt G w (.slice (some ⟨g,a,none⟩) m (c - a)) ((l.drop a).take m):=by
 obtain ⟨p,c',hh,h1,h2,h3,h4⟩:=h
 cases hh
 have hlen:((l.drop a).take m).length=m:=by rw [List.length_take,List.length_drop];omega
 refine ⟨some ⟨g,a,none⟩,c - a,by rw [hlen],by omega,by omega,(fun e=>by cases e),fun i hi=>?_⟩
 have hia:a+i < l.length:=by omega
 obtain ⟨b,o,e,hG,hc⟩:=h4 (a+i) hia
 cases e
 refine ⟨_,_,rfl,hG,?_⟩
 rw [List.getElem_take,List.getElem_drop]
 rw [show a+i * 1=0+(a+i) * 1 by omega]
 exact hc
theorem rest_other {L:List Asn} {j:Nat} {X:Asn} {G:Foot} {w:World} (h:Sc.Rest (L.set j X) j G w):Sc.Rest L j G w:=fun q A hq hA=>h q A hq (by rw [List.getElem?_set_ne (Ne.symm hq)];exact hA)
theorem rest_pre {M N:List Asn} {j:Nat} {G:Foot} {w:World} (h:Sc.Rest (M++N) j G w):Sc.Rest M j G w:=fun q A hq hA=>h q A hq (by rw [List.getElem?_append_left (List.getElem?_eq_some_iff.1 hA).1];exact hA)
theorem rest_swap {L X:List Asn} {j:Nat} {A B:Asn} {G:Foot} {w:World} (h:Sc.Rest (L.set j A++X) j G w):Sc.Rest (L.set j B++X) j G w:=fun q C hq hC=>h q C hq (by
 rw [List.getElem?_append] at hC ⊢
 rw [List.length_set,List.getElem?_set_ne (Ne.symm hq)] at hC ⊢
 exact hC)
section
variable {W w:World} {L:List Asn}
set_option maxRecDepth 100000 in
set_option maxHeartbeats 4000000 in
theorem slotWrite (h:Hid (Sep W L w)) (i j:Nat) {s d inn cnt n:Nat} {zs:List Nat} (hi:L[i]? = some (SlotA s d inn cnt n)) (hj:L[j]? = some (DevA (pt d) zs)) (hij:i≠j) (k:Nat) (hk:k < 2) (hz:zs.length=8) (sq:Int) (hsq0:0≤sq) (hsq1:sq≤1099511627776) (tg tc tn:Nat) (txt:Bytes) (htl:txt.length=tn) (htn:tn≤11440) (htc:tn≤tc) (htm:tc≤9223372036854775807) (ht:∀ G w',Sc.Rest L j G w'→BytesAt G w' (.slice (some ⟨tg,0,none⟩) tn tc) txt) :
  Calls Tryz.prog 146 #[pt s,.int .i64 k,.int .i64 sq,   .slice (some ⟨tg,0,none⟩) tn tc] w fun e w'=>e=.returned (.int .i64 0)∧∃ zs':List Nat,zs'.length=8∧(∀ z,z < 3 * k∨3 * k+3≤z→zs'[z]? = zs[z]?)∧Hid (Sep W (L.set j (DevA (pt d) zs')) w'):=by
 have HZ:=Lib.hid hz
 have HT:=Lib.hid ht
 have HI:∀ zs',Hid ((L.set j (DevA (pt d) zs'))[i]? = some (SlotA s d inn cnt n)):=fun zs'=>by
  show _=_
  rw [List.getElem?_set_ne (Ne.symm hij)];exact hi
 have hil:=(List.getElem?_eq_some_iff.1 hi).1
 have hjl:=(List.getElem?_eq_some_iff.1 hj).1
 have HJ:∀ zs',Hid ((L.set j (DevA (pt d) zs'))[j]? = some (DevA (pt d) zs')):=fun zs'=>List.getElem?_set_self hjl
 have HS0:Hid (Sep W (L.set j (DevA (pt d) (emptied zs (3 * k) 0))) w):=by
  show Sep _ _ _
  rw [emptied,set_same hj];exact h.out
 obtain ⟨F,tv,l,hh,_,_⟩:=slot_told h.out i hi
 have c1:w.cell? ⟨s,1+k,none⟩=some (.int .i64 (3 * k:Nat)):=by
  rw [cell_row hh]
  rcases (show k=0∨k=1 by omega) with rfl | rfl <;> rfl
 clear hh h hi hj hz hij ht
 go_enter Tryz.func146,Tryz.ntmps146
 go_wp2_with fail
 go_loopw [9] (fun s9 wr=>∃ q:Nat,q≤3∧s9=.int .i64 (3 * k+q:Nat)∧Hid (Sep W (L.set j (DevA (pt d) (emptied zs (3 * k) q))) wr)) (fun s9 _=>3+3 * k - (intOf s9).toNat)
 case atStart=>exact ⟨0,by omega,by go_num,HS0⟩
 case round =>
  obtain ⟨q,hq,rfl,HS⟩:=hrel
  obtain ⟨F,tv,l,hh,_,_⟩:=slot_told HS.out i (HI _).out
  have d0:wr.cell? ⟨s,0,none⟩=some (pt d):=by rw [cell_row hh];rfl
  have d2:wr.cell? ⟨s,1+(k+1),none⟩=some (.int .i64 (3 * k+3:Nat)):=by
   rw [cell_row hh]
   rcases (show k=0∨k=1 by omega) with rfl | rfl <;> rfl
  clear hh HS0
  by_cases hlt:q < 3
  case pos =>
   have hq3:((3 * k+q:Nat):Int) < ((3 * k+3:Nat):Int):=by omega
   obtain ⟨y,hy⟩:∃ y,(emptied zs (3 * k) q)[3 * k+q]? = some y:=⟨_,List.getElem?_eq_getElem (by rw [emptied_len,HZ.out];omega)⟩
   have HP:=Lib.hid (devPointer HS j (HJ _).out (k:=3 * k+q) (by omega) hy)
   have HR:=Lib.hid (devReset HS j (HJ _).out (k:=3 * k+q) (by omega))
   have HY:=Lib.hid hy
   clear hy
   go_wp2_with fail
   refine (HP.out).mono ?_
   rintro e w2 ⟨rfl,rfl⟩
   by_cases h0:0 < y
   ·have h0':(0:Int) < (y:Int):=by omega
    go_wp2_with fail
    refine (HR.out).mono ?_
    rintro e w3 ⟨rfl,HS3⟩
    have HS4:Hid (Sep W (L.set j (DevA (pt d) (emptied zs (3 * k) (q+1)))) w3):=by
     show Sep _ _ _
     have:=HS3.out
     rw [List.set_set] at this
     exact this
    go_wp2_with fail
    go_roundw
    case rel=>exact ⟨q+1,by omega,by go_num,HS4⟩
    case measure=>simp [intOf];omega
   ·obtain rfl:y=0:=by omega
    have HS4:Hid (Sep W (L.set j (DevA (pt d) (emptied zs (3 * k) (q+1)))) wr):=by
     show Sep _ _ _
     rw [emptied,set_same HY.out]
     exact HS.out
    go_wp2_with fail
    go_roundw
    case rel=>exact ⟨q+1,by omega,by go_num,HS4⟩
    case measure=>simp [intOf];omega
  case neg =>
   obtain rfl:q=3:=by omega
   generalize hz9:((3 * k+3:Nat):Int)=z9 at *
   clear hz9
   go_wp2_with fail
   have hnew:=HS.out.new (below_alloc wr (.cells ((Blk.mk 3 0 none 0 0).arr sq) 257 (0,0))) (RowA 257 5 (.slice (some ⟨wr.heap.size,0,none⟩) 1 1) 1 ((Blk.mk 3 0 none 0 0).cells sq)) (F:=New wr (wr.alloc (.cells ((Blk.mk 3 0 none 0 0).arr sq) 257 (0,0)))) (fun _ h=>h) ⟨ownsRow_base0 (row_one _ sq wr),fun q hq=>(row_one (Blk.mk 3 0 none 0 0) sq wr).lt q hq⟩
   have HSN:=Lib.hid hnew
   clear hnew
   go_loopw [13,14] (fun s13 s14 wx=>∃ t N g cap:Nat,∃ bs:List Blk,t≤286∧s14=.int .i64 ((40 * t:Nat):Int)∧s13=.slice (some ⟨g,0,none⟩) N cap∧Hid (N=t+1)∧Hid (bs.length=N)∧Hid (∀ b∈bs,BlkOk (L.set j (DevA (pt d) (emptied zs (3 * k) 3))) j b)∧Hid (Sep W (L.set j (DevA (pt d) (emptied zs (3 * k) 3))++[RowA 257 5 (.slice (some ⟨g,0,none⟩) N cap) N (bs.map (fun b=>b.cells sq)).flatten]) wx)) (fun _ s14 _=>tn+40 - (intOf s14).toNat)
   case atStart=>exact ⟨0,1,wr.heap.size,1,[Blk.mk 3 0 none 0 0],by omega,by go_num,rfl,rfl,rfl,fun b hb=>by
    obtain rfl:=List.mem_singleton.1 hb
    exact ⟨by decide,by decide,by decide,by decide,by decide,[],rfl,fun _ _ _=>SlAt.nil⟩,HSN⟩
   case round =>
    obtain ⟨t,N,g,cap,bs,ht2,rfl,rfl,HN,HBL,HOK,HX⟩:=hrel
    by_cases hlt2:40 * t < tn
    case pos =>
     have hlt2':((40 * t:Nat):Int) < (tn:Int):=by omega
     clear HS HSN d0 d2
     obtain ⟨m,hm,hm40,hmt⟩:∃ m,((min (40 * (t:Int)+40) (tn:Int)).toNat - 40 * t)=m∧m≤40∧40 * t+m≤tn:=⟨_,rfl,by omega,by omega⟩
     have hb1:BlkOk (L.set j (DevA (pt d) (emptied zs (3 * k) 3))) j (Blk.mk 1 0 (some ⟨tg,40 * t,none⟩) m (tc - 40 * t)):=⟨show (1:Int)≤1 by decide,show (1:Int)≤4 by decide,show (0:Int)≤0 by decide,show (0:Int)≤1048576 by decide,hm40,(txt.drop (40 * t)).take m,(by rw [List.length_take,List.length_drop];show min m (txt.length - 40 * t)=m;omega),fun G w' hR=>bytes_sub (HT.out G w' (rest_other hR)) (40 * t) m hmt htl⟩
     obtain ⟨g',cap',w',hr,hS'⟩:=Go.Proofs.Sep.blk_push HX.out L.length (g:=g) (n:=N) (cap:=cap) (by rw [List.getElem?_append_right (by simp),List.length_set,Nat.sub_self];rfl) (Blk.mk 1 0 (some ⟨tg,40 * t,none⟩) m (tc - 40 * t)) sq (by have:=HN.out;omega)
     rw [List.set_append_right _ _ (by simp),List.length_set,Nat.sub_self,show ∀ X Y:Asn,[X].set 0 Y=[Y] from fun _ _=>rfl,show (bs.map (fun b=>b.cells sq)).flatten++(Blk.mk 1 0 (some ⟨tg,40 * t,none⟩) m (tc - 40 * t)).cells sq=((bs++[Blk.mk 1 0 (some ⟨tg,40 * t,none⟩) m (tc - 40 * t)]).map (fun b=>b.cells sq)).flatten by rw [List.map_append,List.flatten_append];rfl] at hS'
     have HOK2:Hid (∀ b∈bs++[Blk.mk 1 0 (some ⟨tg,40 * t,none⟩) m (tc - 40 * t)],BlkOk (L.set j (DevA (pt d) (emptied zs (3 * k) 3))) j b):=fun b hb=>by
      rcases List.mem_append.1 hb with hb | hb
      ·exact HOK.out b hb
      ·obtain rfl:=List.mem_singleton.1 hb;exact hb1
     have HBL2:Hid ((bs++[Blk.mk 1 0 (some ⟨tg,40 * t,none⟩) m (tc - 40 * t)]).length=N+1):=by show _=_;rw [List.length_append,HBL.out];rfl
     have HN2:Hid (N+1=t+1+1):=by show _=_;rw [HN.out]
     have HS2:=Lib.hid hS'
     subst hm
     generalize bs++[Blk.mk 1 0 (some ⟨tg,40 * t,none⟩) ((min (40 * (t:Int)+40) (tn:Int)).toNat - 40 * t) (tc - 40 * t)]=bs2 at *
     have HR:=Lib.hid hr
     clear hb1 hS' HBL HX HOK hr hm40 hmt
     go_wp2_with (at_builtin;refine Lib.wpList_append_run _ rfl _ _ _ _ rfl _ _ rfl rfl _ _ HR.out ?_)
     go_roundw
     case rel=>exact ⟨t+1,N+1,g',cap',bs2,by omega,by go_num,rfl,HN2,HBL2,HOK2,HS2⟩
     case measure=>simp [intOf];omega
    case neg =>
     clear HSN HS d0 d2
     obtain ⟨_,G,_,hR,_,_,hdG,_⟩:=HX.out.at j (A:=DevA (pt d) (emptied zs (3 * k) 3)) (by rw [List.getElem?_append_left (by rw [List.length_set];exact hjl)];exact (HJ _).out)
     have hbt:=HT.out G wr (rest_other (rest_pre hR))
     have HTA:=Lib.hid (tail_any G _ txt wr hdG hbt (by omega))
     clear hR hdG hbt
     go_wp2_with fail
     refine (HTA.out).mono ?_
     rintro e w2 ⟨p2,c2,rfl,⟨l2,hl2,hq2⟩,hb2⟩
     have hS2:=HX.out.new hb2 (BytesWA (.slice p2 8 c2) l2) (F:=New wr w2) (fun _ h=>h) hq2
     rw [List.append_assoc] at hS2
     clear HX HTA hb2 hq2
     obtain ⟨g3,cap3,w3,hr3,hS3⟩:=Go.Proofs.Sep.blk_push hS2 L.length (g:=g) (n:=N) (cap:=cap) (by rw [List.getElem?_append_right (by simp),List.length_set,Nat.sub_self];rfl) (Blk.mk 2 (wrap64 ((N:Int) - 1)) p2 8 c2) sq (by have:=HN.out;omega)
     rw [List.set_append_right _ _ (by simp),List.length_set,Nat.sub_self] at hS3
     have HS3:Hid (Sep W (L.set j (DevA (pt d) (emptied zs (3 * k) 3))++[RowA 257 5 (.slice (some ⟨g3,0,none⟩) (N+1) cap3) (N+1) (((bs++[Blk.mk 2 (wrap64 ((N:Int) - 1)) p2 8 c2]).map (fun b=>b.cells sq)).flatten),BytesWA (.slice p2 8 c2) l2]) w3):=by
      show Sep _ _ _
      rw [List.map_append,List.flatten_append]
      exact hS3
     have HOK3:Hid (∀ b∈bs++[Blk.mk 2 (wrap64 ((N:Int) - 1)) p2 8 c2],BlkOk (L.set j (DevA (pt d) (emptied zs (3 * k) 3))++[RowA 257 5 (.slice (some ⟨g3,0,none⟩) (N+1) cap3) (N+1) (((bs++[Blk.mk 2 (wrap64 ((N:Int) - 1)) p2 8 c2]).map (fun b=>b.cells sq)).flatten),BytesWA (.slice p2 8 c2) l2]) j b):=fun b hb=>by
      rcases List.mem_append.1 hb with hb | hb
      ·exact (HOK.out b hb).pre
      ·obtain rfl:=List.mem_singleton.1 hb
       have hN:=HN.out
       have hwr:wrap64 ((N:Int) - 1)=(N:Int) - 1:=by unfold wrap64;omega
       refine ⟨show (1:Int)≤2 by decide,show (2:Int)≤4 by decide,show (0:Int)≤wrap64 ((N:Int) - 1) by rw [hwr];omega,show wrap64 ((N:Int) - 1)≤1048576 by rw [hwr];omega,show 8≤40 by decide,l2,hl2,fun G w' hR=>?_⟩
       obtain ⟨F,hF,hP⟩:=hR (L.length+1) (BytesWA (.slice p2 8 c2) l2) (by omega) (by rw [List.getElem?_append_right (by simp),List.length_set,Nat.add_sub_cancel_left];rfl)
       exact (BytesW.bytes hP).mono hF
     have HBL3:Hid ((bs++[Blk.mk 2 (wrap64 ((N:Int) - 1)) p2 8 c2]).length=N+1):=by show _=_;rw [List.length_append,HBL.out];rfl
     have HR3:=Lib.hid hr3
     clear hS2 hS3 hr3 HBL HOK hl2
     generalize bs++[Blk.mk 2 (wrap64 ((N:Int) - 1)) p2 8 c2]=bs3 at *
     have n0:1≤N:=by have:=HN.out;omega
     have n1:N≤287:=by have:=HN.out;omega
     go_wp2_with (at_builtin;refine Lib.wpList_append_run _ rfl _ _ _ _ rfl _ _ rfl rfl _ _ HR3.out ?_)
     have HLL:Hid (∀ X zs',((L.set j (DevA (pt d) (emptied zs (3 * k) 3))++X).set j (DevA (pt d) zs'))=L.set j (DevA (pt d) zs')++X):=fun X zs'=>by
      rw [List.set_append_left _ _ (by rw [List.length_set];exact hjl),List.set_set]
     obtain ⟨xs3,hxs⟩:∃ x,(bs3.map (fun b=>b.cells sq)).flatten=x:=⟨_,rfl⟩
     rw [hxs] at HS3 HOK3
     have HXS:=Lib.hid hxs
     clear hxs
     go_loopw [90] (fun s90 wx=>∃ q:Nat,q≤N+1∧s90=.int .i64 (q:Int)∧Hid (Sep W (L.set j (DevA (pt d) (filled (emptied zs (3 * k) 3) (3 * k) q))++[RowA 257 5 (.slice (some ⟨g3,0,none⟩) (N+1) cap3) (N+1) xs3,BytesWA (.slice p2 8 c2) l2]) wx)) (fun s90 _=>N+1 - (intOf s90).toNat)
     case atStart=>exact ⟨0,by omega,by go_num,HS3⟩
     case round =>
      obtain ⟨q,hq3,rfl,HY⟩:=hrel
      by_cases hlt3:q < N+1
      case pos =>
       have hlt3':(q:Int) < (N:Int)+1:=by omega
       have hqb:q < bs3.length:=by rw [HBL3.out];exact hlt3
       have hLl:(L.set j (DevA (pt d) (filled (emptied zs (3 * k) 3) (3 * k) q))).length=L.length:=by rw [List.length_set]
       obtain ⟨F,hF,_⟩:=HY.out.get L.length (A:=RowA 257 5 (.slice (some ⟨g3,0,none⟩) (N+1) cap3) (N+1) xs3) (by rw [List.getElem?_append_right (by omega),hLl,Nat.sub_self];rfl)
       have kc:∀ r,r < 5→wr.cell? ⟨g3,q * 5+r,none⟩=((bs3[q].cells sq)[r]?):=fun r hr=>by
        rw [hF.1.cellAt (q * 5+r) (by omega),← HXS.out,flat_get (k:=5) (by intro cs hcs;obtain ⟨b,_,rfl⟩:=List.mem_map.1 hcs;rfl) q (by rw [List.length_map];exact hqb) r hr,List.getElem_map]
       have hok:=HOK3.out _ (List.getElem_mem hqb)
       generalize bs3[q]=b at *
       have k0:wr.cell? ⟨g3,q * 5,none⟩=some (.int .i64 b.kd):=kc 0 (by omega)
       have k1:wr.cell? ⟨g3,q * 5+1,none⟩=some (.int .i64 0):=kc 1 (by omega)
       have k2:wr.cell? ⟨g3,q * 5+2,none⟩=some (.int .i64 sq):=kc 2 (by omega)
       have k3:wr.cell? ⟨g3,q * 5+3,none⟩=some (.int .i64 b.lb):=kc 3 (by omega)
       have k4:wr.cell? ⟨g3,q * 5+4,none⟩=some (.slice b.p b.n b.c):=kc 4 (by omega)
       have HOK4:=Lib.hid hok
       clear kc hF HS3 hok hqb
       go_upto_region 18 with fail
       have hYA:=HY.out.up (below_alloc wr (.cells (b.arr sq) 257 (0,0)))
       obtain ⟨_,G,_,hR,_,_,hdG,_⟩:=hYA.at j (A:=DevA (pt d) (filled (emptied zs (3 * k) 3) (3 * k) q)) (by rw [List.getElem?_append_left (by omega)];exact (HJ _).out)
       obtain ⟨o1,o2,o3,o4,o5,l6,o6,o7⟩:=HOK4.out
       have HEN:=Lib.hid (encode_any G b.kd 0 sq b.lb b.p b.n b.c l6 _ hdG (o7 G _ (rest_swap hR)) o6 o5 o1 o2 (by decide) (by decide) hsq0 hsq1 o3 o4)
       have HYA:=Lib.hid hYA
       clear hYA hR hdG o1 o2 o3 o4 o5 o6 o7 k0 k1 k2 k3 k4 HY
       go_wp2_with fail
       refine (HEN.out).mono ?_
       rintro e w4 ⟨p4,c4,rfl,⟨l4,hl4,hq4⟩,hb4⟩
       have HS4:=Lib.hid (HYA.out.new hb4 (BytesWA (.slice p4 64 c4) l4) (F:=New _ w4) (fun _ h=>h) hq4)
       clear HYA HEN hb4 hq4
       go_upto_region 20 with fail
       have HD4:Hid (Sep W (L.set j (DevA (pt d) (filled (emptied zs (3 * k) 3) (3 * k) q))++[RowA 257 5 (.slice (some ⟨g3,0,none⟩) (N+1) cap3) (N+1) xs3,BytesWA (.slice p2 8 c2) l2]++[BytesWA (.slice p4 64 c4) l4]) w4.drew):=HS4.out.up (below_drewN (Below.refl w4.heap.size w4) 1)
       have hil2:∀ zs',((L.set j (DevA (pt d) zs')++[RowA 257 5 (.slice (some ⟨g3,0,none⟩) (N+1) cap3) (N+1) xs3,BytesWA (.slice p2 8 c2) l2]++[BytesWA (.slice p4 64 c4) l4]))[i]? = some (SlotA s d inn cnt n):=fun zs'=>by
        rw [List.append_assoc,List.getElem?_append_left (by rw [List.length_set];exact hil)];exact (HI _).out
       have hjl2:∀ zs',((L.set j (DevA (pt d) zs')++[RowA 257 5 (.slice (some ⟨g3,0,none⟩) (N+1) cap3) (N+1) xs3,BytesWA (.slice p2 8 c2) l2]++[BytesWA (.slice p4 64 c4) l4]))[j]? = some (DevA (pt d) zs'):=fun zs'=>by
        rw [List.append_assoc,List.getElem?_append_left (by rw [List.length_set];exact hjl)];exact (HJ _).out
       have hset:∀ zs' zs2,(L.set j (DevA (pt d) zs')++[RowA 257 5 (.slice (some ⟨g3,0,none⟩) (N+1) cap3) (N+1) xs3,BytesWA (.slice p2 8 c2) l2]++[BytesWA (.slice p4 64 c4) l4]).set j (DevA (pt d) zs2)=L.set j (DevA (pt d) zs2)++[RowA 257 5 (.slice (some ⟨g3,0,none⟩) (N+1) cap3) (N+1) xs3,BytesWA (.slice p2 8 c2) l2]++[BytesWA (.slice p4 64 c4) l4]:=fun zs' zs2=>by
        rw [List.append_assoc,List.set_append_left _ _ (by rw [List.length_set];exact hjl),List.set_set,List.append_assoc]
       have hrm:(filled (emptied zs (3 * k) 3) (3 * k) q)[3 * k+q / 96]? = some (q % 96):=by
        rw [filled_get _ _ _ _ (by rw [emptied_len,HZ.out];omega) (by omega) (fun z hz=>by rw [emptied_get _ _ _ _ (by rw [HZ.out];omega),if_pos (by omega)])]
        congr 1
        omega
       have HAP:=devAppend HD4 j (hjl2 _) (k:=3 * k+q / 96) (n:=q % 96) (by omega) hrm (by omega) p4 c4 l4 (fun G w' hR=>by
        obtain ⟨F,hF,hP⟩:=hR (L.length+2) (BytesWA (.slice p4 64 c4) l4) (by omega) (by rw [List.getElem?_append_right (by simp)];simp)
        exact (BytesW.bytes hP).mono hF) hl4
       rw [hset] at HAP
       have HAQ:Hid (∀ z:Int,z=((3 * k+q / 96:Nat):Int)→Calls Tryz.prog 102 #[pt d,.int .i64 z,.slice p4 64 c4] w4.drew _):=fun z hz=>by rw [hz];exact HAP
       obtain ⟨F,tv,l,hh,_,_⟩:=slot_told HD4.out i (hil2 _)
       have y0:w4.drew.cell? ⟨s,0,none⟩=some (pt d):=by rw [cell_row hh];rfl
       have y1:w4.drew.cell? ⟨s,1+k,none⟩=some (.int .i64 (3 * k:Nat)):=by
        rw [cell_row hh]
        rcases (show k=0∨k=1 by omega) with rfl | rfl <;> rfl
       have y4:w4.drew.cell? ⟨s,4,none⟩=some (.int .i64 96):=by rw [cell_row hh];rfl
       have HIL2:=Lib.hid hil2
       clear hh HAP hjl2 hset hrm HS4 HD4 hil2
       refine wp_regionG (fun W=>W.cell? ⟨s,0,none⟩=some (pt d)∧W.cell? ⟨s,1+k,none⟩=some (.int .i64 (3 * k:Nat))∧W.cell? ⟨s,4,none⟩=some (.int .i64 96)) (n:=23) (by kernel_rfl) (by kernel_rfl) ?_
       generalize w4.drew=w5 at *
       refine wpG.tk 0 ?_
       refine wpG.tk 1 ?_
       refine wpG.tk 2 ?_
       refine wpG.tk 3 ?_ (hy:=by intro W hW;have hld0:=hW.1;go_simp;try with_reducible rfl)
       have hk3:(k:Int) < 3:=by omega
       refine wpG.tk 4 ?_
       refine wpG.tk 5 ?_
       refine wpG.tk 6 ?_
       refine wpG.tk 7 ?_
       refine wpG.tk 8 ?_
       refine wpG.tk 9 ?_ (hy:=by intro W hW;have hld0:=hW.2.1;go_simp;try with_reducible rfl)
       refine wpG.tk 10 ?_
       refine wpG.tk 11 ?_
       refine wpG.tk 12 ?_
       refine wpG.tk 13 ?_
       refine wpG.tk 14 ?_ (hy:=by intro W hW;have hld0:=hW.2.2;go_simp;try with_reducible rfl)
       refine wpG.tk 15 ?_
       refine wpG.tk 16 ?_
       refine wpG.tk 17 ?_
       have hqd:IntKind.i64.wrap ((q:Int) / 96)=(q:Int) / 96:=IntWalk.i64_in _ (by omega)
       have hz:IntKind.i64.wrap (3 * (k:Int)+IntKind.i64.wrap ((q:Int) / 96))=((3 * k+q / 96:Nat):Int):=by rw [hqd,IntWalk.i64_in _ (by omega)];omega
       clear hqd
       have HZZ:=Lib.hid hz
       clear hz
       refine wpG.alone 18 rfl (by kernel_rfl) (by kernel_rfl) (⟨y0,y1,y4⟩) (fun K hK=>?_)
       go_simp
       go_at_call 102
       refine (HAQ.out _ HZZ.out).mono ?_
       rintro e w6 ⟨rfl,HS6⟩
       obtain ⟨F,tv,l,hh,_,_⟩:=slot_told HS6.out i (HIL2.out _)
       have v0:w6.cell? ⟨s,0,none⟩=some (pt d):=by rw [cell_row hh];rfl
       have v1:w6.cell? ⟨s,1+k,none⟩=some (.int .i64 (3 * k:Nat)):=by
        rw [cell_row hh]
        rcases (show k=0∨k=1 by omega) with rfl | rfl <;> rfl
       have v4:w6.cell? ⟨s,4,none⟩=some (.int .i64 96):=by rw [cell_row hh];rfl
       have hS7:=HS6.out.take (L.length+2)
       rw [List.take_left' (by simp)] at hS7
       have HS7:=Lib.hid hS7
       clear hS7 HS6 hh HAQ y0 y1 y4
       try go_simp
       refine hK _ _ ?_
       clear hK K
       refine wpG.tk 19 ?_
       refine wpG.tk 20 ?_
       refine wpG.tk 21 ?_
       refine wpG.tk 22 ?_
       refine wpG.done (by kernel_rfl) ⟨v0,v1,v4⟩ ?_
       clear v0 v1 v4
       go_wp2_with fail
       go_roundw
       case rel=>exact ⟨q+1,by omega,by go_num,HS7⟩
       case measure=>simp [intOf];omega
      case neg =>
       obtain rfl:q=N+1:=by omega
       have HFL:=Lib.hid (devFlush HY j (d:=d) (zs:=filled (emptied zs (3 * k) 3) (3 * k) (N+1)) (by rw [List.getElem?_append_left (by rw [List.length_set];exact hjl)];exact (HJ _).out))
       obtain ⟨F,tv,l,hh,_,_⟩:=slot_told HY.out i (by rw [List.getElem?_append_left (by rw [List.length_set];exact hil)];exact (HI _).out)
       have d0:wr.cell? ⟨s,0,none⟩=some (pt d):=by rw [cell_row hh];rfl
       clear hh
       go_wp2_with fail
       have HN2:=HN.out
       have hq288:N+1≤288:=by omega
       have HFO:Hid ((filled (emptied zs (3 * k) 3) (3 * k) (N+1)).length=8∧∀ z,z < 3 * k∨3 * k+3≤z→(filled (emptied zs (3 * k) 3) (3 * k) (N+1))[z]? = zs[z]?):=by
        refine ⟨by rw [filled_len,emptied_len,HZ.out],fun z hz=>?_⟩
        rw [filled_out _ _ _ _ hz hq288]
        by_cases hz8:z < zs.length
        ·rw [emptied_get _ _ _ _ hz8,if_neg (by omega)]
        ·rw [List.getElem?_eq_none (by rw [emptied_len];omega),List.getElem?_eq_none (by omega)]
       clear HN2 hq288
       refine (HFL.out).mono ?_
       rintro e w5 ⟨rfl,HS5⟩
       have HS6:Hid (Sep W (L.set j (DevA (pt d) (filled (emptied zs (3 * k) 3) (3 * k) (N+1)))) w5):=by
        have:=HS5.out.take L.length
        rwa [List.take_left' (by rw [List.length_set])] at this
       go_wp2_with fail
       go_ret
       exact ⟨rfl,_,HFO.out.1,HFO.out.2,HS6⟩
end
end Go.Proofs
namespace Sc
open Go
section
variable {P:Program} {ops:Array Oper} {Q:Exit→Act→World→Prop} {md:Region.Mode}
def wpB (P:Program) (md:Region.Mode) (ops:Array Oper) (Q:Exit→Act→World→Prop) (G:World→Prop) (b:Nat):Nat→Array Bool→Act→World→Prop
 | 0,listed,a,w=>(listed.getD b true=false→G w)∧Region.ready md ops listed=[]∧Q .normal a w
 | fuel+1,listed,a,w =>
  (listed.getD b true=false→G w)∧(Region.ready md ops listed=[]→Q .normal a w) ∧
  ∀ i∈Region.ready md ops listed,wpOp P ops Q i (wpB P md ops Q G b fuel (listed.setIfInBounds i true)) a w
theorem wpB.g {G:World→Prop} {b:Nat}:∀ {fuel:Nat} {listed:Array Bool} {a:Act} {w:World},wpB P md ops Q G b fuel listed a w→listed.getD b true=false→G w
 | 0,_,_,_,h=>h.1
 | _+1,_,_,_,h=>h.1
theorem wpB.any {G:World→Prop} {b:Nat}:∀ {fuel:Nat} {listed:Array Bool} {a:Act} {w:World},wpB P md ops Q G b fuel listed a w→wpAny P md ops Q fuel listed a w
 | 0,_,_,_,h=>h.2
 | _+1,_,_,_,h=>⟨h.2.1,fun i hi=>wpOp_mono (fun _ _ h=>wpB.any h) (h.2.2 i hi)⟩
def hangsB (md:Region.Mode) (ops:Array Oper) (listed:Array Bool) (b i:Nat):Bool :=
 b != i && !(listed.getD b true) && (match ops[b]? with | some ol=>ol.after.toList.any (fun e=>Region.binds md e && e.on == i) | none=>false)
def HangsB (md:Region.Mode) (ops:Array Oper) (listed:Array Bool) (b i:Nat):Prop :=
 ∃ (ol:Oper) (e:_),b≠i∧listed.getD b true=false∧ops[b]? = some ol∧e∈ol.after∧Region.binds md e=true∧e.on=i
theorem hangsB_spec {listed:Array Bool} {b i:Nat} (h:hangsB md ops listed b i=true):HangsB md ops listed b i:=by
 unfold hangsB at h
 rw [Bool.and_eq_true,Bool.and_eq_true] at h
 obtain ⟨⟨h1,h2⟩,h3⟩:=h
 cases ho:ops[b]? with
 | none=>rw [ho] at h3;cases h3
 | some ol =>
  rw [ho] at h3
  simp only [List.any_eq_true] at h3
  obtain ⟨e,he,h4⟩:=h3
  rw [Bool.and_eq_true] at h4
  exact ⟨ol,e,by simpa using h1,by simpa using h2,ho,by simpa using he,h4.1,by simpa using h4.2⟩
theorem takeB_all {G G':World→Prop} {b i:Nat} {oi:Oper} {v:Value} (hi:ops[i]? = some oi) (hbi:i≠b) (hsel:∀ (j:Nat) (o:Oper) cs b,ops[j]? = some o→o.op≠.select cs b)
  (hQ:∀ c a w,Q (.panic c) (a.put oi.dst v) w→Q (.panic c) a w) :
  ∀ (fuel:Nat) (listed:Array Bool) (a:Act) (w:World),
   (∀ j oj,ops[j]? = some oj→j≠i→listed.getD j true=false→(∀ e∈oj.after,Region.binds md e=true→e.on≠i)→oi.apart ops oj=true) →
   ((∀ w,G' w)∨(HangsB md ops listed b i∧∀ w,G w→G' w))→i∈Region.ready md ops listed→YieldsG P ops G' oi v a →
   wpB P md ops Q G b fuel (listed.setIfInBounds i true) (a.put oi.dst v) w→wpB P md ops Q G b (fuel+1) listed a w:=by
 have key:∀ {listed:Array Bool} {w:World},((∀ w,G' w)∨(HangsB md ops listed b i∧∀ w,G w→G' w))→(listed.getD b true=false→G w)→G' w:=by
  rintro listed w (h | ⟨⟨_,_,_,h2,_⟩,h3⟩) hg
  ·exact h w
  ·exact h3 w (hg h2)
 intro fuel
 induction fuel with
 | zero =>
  intro listed a w _ hh hr hy H
  have hg:listed.getD b true=false→G w:=fun h=>H.1 (by rw [getD_set_ne true hbi];exact h)
  refine ⟨hg,fun h=>absurd (h ▸ hr) (by simp),fun j hj=>?_⟩
  by_cases hji:j=i
  ·subst hji;exact hy.wpOp hi (key hh hg) H
  ·exact absurd (H.2.1 ▸ ready_mono hj hji) (by simp)
 | succ fuel ih =>
  intro listed a w hfree hh hr hy H
  have hg:listed.getD b true=false→G w:=fun h=>H.1 (by rw [getD_set_ne true hbi];exact h)
  refine ⟨hg,fun h=>absurd (h ▸ hr) (by simp),fun j hj=>?_⟩
  by_cases hji:j=i
  ·subst hji;exact hy.wpOp hi (key hh hg) H
  ·obtain ⟨hjun,oj,hoj,hall⟩:=mem_ready.1 hj
   have hiun:=(mem_ready.1 hr).1
   have hap:=hfree j oj hoj hji hjun fun e he hb heq=>by
    have h1:=hall e he hb
    rw [heq,Array.getD_eq_getD_getElem?] at h1
    rw [Array.getD_eq_getD_getElem?] at hiun
    cases hx:listed[i]? with
    | none=>rw [hx] at h1;cases h1
    | some b=>rw [hx] at h1 hiun;simp only [Option.getD_some] at h1 hiun;rw [h1] at hiun;cases hiun
   have h1:=H.2.2 j (ready_mono hj hji)
   have h2:=wpOp_track hoj (wpOp_put hoj (fake_apart (v:=v) hap) (fun cs b e=>by cases e) (fun cs b=>hsel j oj cs b hoj) hQ (fake_yields a) h1)
   refine wpOp_mono (fun a' w' h3=>?_) h2
   obtain ⟨⟨_,h4⟩,u,ds,rfl⟩:=h3
   have hh':(∀ w,G' w)∨(HangsB md ops (listed.setIfInBounds j true) b i∧∀ w,G w→G' w):=by
    rcases hh with hh | ⟨⟨ol,e,q1,q3,q4,q5,q6,q7⟩,hm⟩
    ·exact .inl hh
    ·have hlj:j≠b:=fun hx=>by
      subst hx
      rw [hoj] at q4;cases q4
      have h1:=hall e q5 q6
      rw [q7] at h1
      have hiun:=(mem_ready.1 hr).1
      rw [Array.getD_eq_getD_getElem?] at h1 hiun
      cases hx:listed[i]? with
      | none=>rw [hx] at h1;cases h1
      | some b=>rw [hx] at h1 hiun;simp only [Option.getD_some] at h1 hiun;rw [h1] at hiun;cases hiun
     exact .inr ⟨⟨ol,e,q1,by rw [getD_set_ne true hlj];exact q3,q4,q5,q6,q7⟩,hm⟩
   refine ih _ _ w' (fun k ok hk hki hun hno=>hfree k ok hk hki ?_ hno) hh' (ready_mono hr (Ne.symm hji)) (hy.track (fun cs b=>hsel i oi cs b hi) (Oper.apart_spec hap).2.2 u ds) ?_
   ·by_cases hjk:j=k
    ·subst hjk;exact hjun
    ·rw [getD_set_ne true hjk] at hun;exact hun
   ·rw [Array.setIfInBounds_comm _ _ hji];exact h4
theorem wpB.tk {G:World→Prop} {b:Nat} (i:Nat) {oi:Oper} {v:Value} {fuel:Nat} {listed:Array Bool} {a a':Act} {w:World} (h:wpB P md ops Q G b fuel (listed.setIfInBounds i true) a' w)
  (hi:ops[i]? = some oi:=by rfl) (hs:Region.noSelect ops=true:=by kernel_rfl) (hf:Region.free md ops listed i=true:=by kernel_rfl) (hr:(Region.ready md ops listed).contains i=true:=by kernel_rfl) (hb:i≠b:=by decide)
  (hw:Region.wanted oi (yielded ops a.tmps)=true:=by kernel_rfl) (hQ:∀ c a w,Q (.panic c) (a.put oi.dst v) w→Q (.panic c) a w:=by exact fun _ _ _ h=>h)
  (hy:∀ w,(execOp a.eval oi).run P w=.ok (.value v) w:=by intro W;go_simp;try with_reducible rfl) (ha:a.put oi.dst v=a':=by go_simp;try with_reducible rfl):wpB P md ops Q G b (fuel+1) listed a w:=by
 subst ha
 exact takeB_all (G':=fun _=>True) hi hb (Region.noSelect_spec hs) hQ fuel listed a w (Region.free_spec hi hf) (.inl fun _=>trivial) (by simpa using hr) (.inl ⟨hw,fun w _=>hy w⟩) h
theorem wpB.ld {G:World→Prop} {b:Nat} (i:Nat) {oi:Oper} {v:Value} {fuel:Nat} {listed:Array Bool} {a a':Act} {w:World} (h:wpB P md ops Q G b fuel (listed.setIfInBounds i true) a' w)
  (hi:ops[i]? = some oi:=by rfl) (hs:Region.noSelect ops=true:=by kernel_rfl) (hf:Region.free md ops listed i=true:=by kernel_rfl) (hr:(Region.ready md ops listed).contains i=true:=by kernel_rfl) (hb:i≠b:=by decide) (hd:hangsB md ops listed b i=true:=by kernel_rfl)
  (hw:Region.wanted oi (yielded ops a.tmps)=true:=by kernel_rfl) (hQ:∀ c a w,Q (.panic c) (a.put oi.dst v) w→Q (.panic c) a w:=by exact fun _ _ _ h=>h)
  (hy:∀ w,G w→(execOp a.eval oi).run P w=.ok (.value v) w:=by intro W hW;go_simp;try with_reducible rfl) (ha:a.put oi.dst v=a':=by go_simp;try with_reducible rfl):wpB P md ops Q G b (fuel+1) listed a w:=by
 subst ha
 exact takeB_all (G':=G) hi hb (Region.noSelect_spec hs) hQ fuel listed a w (Region.free_spec hi hf) (.inr ⟨hangsB_spec hd,fun _ h=>h⟩) (by simpa using hr) (.inl ⟨hw,hy⟩) h
theorem wpB.alone {G:World→Prop} {b:Nat} (i:Nat) {oi:Oper} {fuel:Nat} {listed:Array Bool} {a:Act} {w:World} (hi:ops[i]? = some oi) (hr:Region.ready md ops listed=[i]) (hw:Region.wanted oi (yielded ops a.tmps)=true) (hG:listed.getD b true=false→G w)
  (h:∀ K:Act→World→Prop,(∀ a w,wpB P md ops Q G b fuel (listed.setIfInBounds i true) a w→K a w)→oi.wp P a w K Q):wpB P md ops Q G b (fuel+1) listed a w:=by
 refine ⟨hG,fun h0=>absurd (hr ▸ h0) (by simp),fun j hj=>?_⟩
 rw [hr,List.mem_singleton] at hj
 subst hj
 unfold Go.wpOp
 simp only [hi]
 rw [if_pos hw]
 exact .inl (h _ fun _ _ h=>h)
theorem wpB.done {G:World→Prop} {b:Nat} {listed:Array Bool} {a:Act} {w:World} (hl:listed.getD b true=true) (hr:Region.ready md ops listed=[]) (h:Q .normal a w):wpB P md ops Q G b 0 listed a w :=
 ⟨fun h=>absurd (hl.symm.trans h) (by decide),hr,h⟩
theorem wp_regionB {id:Nat} (G:World→Prop) (b:Nat) {a:Act} {w:World} {l:List Oper} (hm:P.follows .mixedOrders=true) {n:Nat} (hn:l.length=n)
  (h:wpB P .any l.toArray Q G b n (Array.replicate n false) a w.drew):(Code.region id l.toArray true).wp P Q a w:=by
 refine wp_region_any hm ?_
 have:l.toArray.size=n:=by simpa using hn
 rw [this]
 exact h.any
end
end Sc
namespace Go.Proofs
open Go.RowKit Sc
theorem Sep.slot_set {W w:World} {L:List Asn} (h:Sep W L w) (i:Nat) {s d inn cnt n:Nat} (hi:L[i]? = some (SlotA s d inn cnt n)) {G:Foot} {w2:World} (hb:Below w.heap.size w w2) {tv:Value} {l:Bytes} (ht:BytesAt G w2 tv l) (hG:∀ q,G q→New w w2 q) (inn' cnt':Nat) (hl:l.length≤20000) :
  Sep W (L.set i (SlotA s d inn' cnt' l.length)) (((w2.setCell ⟨s,5,none⟩ (.int .i64 inn')).setCell ⟨s,6,none⟩ tv).setCell ⟨s,7,none⟩ (.int .i64 cnt')):=by
 obtain ⟨F,G2,⟨tv0,l0,h1,h2,h3,h4,h5⟩,_,_,hdF,_,K⟩:=h.at i hi
 have hs:=hdF s h1
 have h2':w2.heap[s]? = some (.cells (slotRow d inn tv0 cnt) 223 (0,0)):=(hb.block s hs).trans h2
 have a1:=Go.heap_setCell_same w2 s 5 _ _ (.int .i64 inn') h2'
 have a2:=Go.heap_setCell_same _ s 6 _ _ tv a1
 have a3:=Go.heap_setCell_same _ s 7 _ _ (.int .i64 cnt') a2
 refine K _ (fun q=>F q∨G q) (SlotA s d inn' cnt' l.length) (Chg.after_up hb (((chg_set w2 s 5 _ h1).trans (chg_set _ s 6 _ h1)).trans (chg_set _ s 7 _ h1))) (fun q hq=>?_) ⟨tv,l,.inl h1,?_,?_,rfl,hl⟩
 ·rcases hq with hq | hq
  ·exact .inl hq
  ·have:=hG q hq
   exact .inr ⟨this.1,by simpa using this.2⟩
 ·exact a3
 ·refine BytesAt.mono (G:=G) (ht.same fun q hq=>?_) (fun q hq=>.inr hq)
  have hne:q≠s:=by have:=(hG q hq).1;omega
  rw [Below.heap_setCell _ _ _ q hne,Below.heap_setCell _ _ _ q hne,Below.heap_setCell _ _ _ q hne]
section
variable {W w:World} {L:List Asn}
set_option maxRecDepth 100000 in
set_option maxHeartbeats 4000000 in
theorem slotSave (h:Hid (Sep W L w)) (i j:Nat) {s d inn cnt n:Nat} {zs:List Nat} (hi:L[i]? = some (SlotA s d inn cnt n)) (hj:L[j]? = some (DevA (pt d) zs)) (hij:i≠j) (hinn:inn≤1) (hz:zs.length=8) (hc:cnt≤1000000) (tg tc tn:Nat) (txt:Bytes) (htl:txt.length=tn) (htn:tn≤11440) (htc:tn≤tc) (htm:tc≤9223372036854775807) (ht:∀ G w',Sc.Rest L j G w'→BytesAt G w' (.slice (some ⟨tg,0,none⟩) tn tc) txt) :
  Calls Tryz.prog 84 #[pt s,.slice (some ⟨tg,0,none⟩) tn tc] w fun e w'=>e=.returned (.int .i64 0)∧∃ zs':List Nat,zs'.length=8∧(∀ z,6≤z→zs'[z]? = zs[z]?)∧Hid (Sep W ((L.set j (DevA (pt d) zs')).set i (SlotA s d (1 - inn) (cnt+1) tn)) w'):=by
 have hkin:1 - inn < 2:=by omega
 have hil:=(List.getElem?_eq_some_iff.1 hi).1
 have HI:=Lib.hid hi
 have HJ:=Lib.hid hj
 have HT:=Lib.hid ht
 have HZ:=Lib.hid hz
 have HIJ:=Lib.hid hij
 have HTL:=Lib.hid htl
 have HRO:=Lib.hid (slotRoom h i hi)
 have htn':¬ (11440:Int) < (tn:Int):=by omega
 clear hi hj ht hz hij htl
 go_enter Tryz.func84,Tryz.ntmps84
 go_wp2_with fail
 refine (HRO.out).mono ?_
 rintro e w1 ⟨rfl,hb1⟩
 have HS1:=Lib.hid (h.out.up hb1.out)
 have HDE:=Lib.hid (slotDead HS1.out i HI.out)
 clear hb1 HRO h
 go_wp2_with fail
 refine (HDE.out).mono ?_
 rintro e w2 ⟨rfl,rfl⟩
 clear HDE
 go_upto_region 5 with fail
 have hsd:Sep W L w1.drew:=HS1.out.up (below_drewN (Below.refl w1.heap.size w1) 1)
 obtain ⟨F,tv,l,hh,_,_⟩:=slot_told hsd i HI.out
 have c5:w1.drew.cell? ⟨s,5,none⟩=some (.int .i64 inn):=by rw [cell_row hh];rfl
 have c7:w1.drew.cell? ⟨s,7,none⟩=some (.int .i64 cnt):=by rw [cell_row hh];rfl
 have hcn:((cnt:Int)+1)≤1099511627776:=by omega
 have hwr:=slotWrite (Lib.hid hsd) i j HI.out HJ.out HIJ.out (1 - inn) hkin HZ.out ((cnt:Int)+1) (by omega) hcn tg tc tn txt HTL.out htn htc htm HT.out
 have HWR:Hid (∀ z:Int,z=((1 - inn:Nat):Int)→Calls Tryz.prog 146 #[pt s,.int .i64 z,.int .i64 ((cnt:Int)+1),.slice (some ⟨tg,0,none⟩) tn tc] w1.drew _):=fun z hz=>by rw [hz];exact hwr
 have hzz:(1:Int) - (inn:Int)=((1 - inn:Nat):Int):=by omega
 have hw1:IntKind.i64.wrap ((1 - inn:Nat):Int)=((1 - inn:Nat):Int):=IntWalk.i64_in _ (by omega)
 have hw2:IntKind.i64.wrap ((cnt:Int)+1)=(cnt:Int)+1:=IntWalk.i64_in _ (by omega)
 clear hh hsd hwr hcn
 have hin0:(inn:Int)≤1:=by omega
 have hcn0:(cnt:Int)≤1000000:=by omega
 refine wp_regionG (fun W=>W.cell? ⟨s,5,none⟩=some (.int .i64 inn)∧W.cell? ⟨s,7,none⟩=some (.int .i64 cnt)) (n:=14) (by kernel_rfl) (by kernel_rfl) ?_
 generalize w1.drew=wd at *
 refine wpG.tk 0 ?_
 refine wpG.tk 1 ?_
 refine wpG.tk 2 ?_
 refine wpG.tk 3 ?_
 refine wpG.tk 4 ?_ (hy:=by intro W hW;have hld0:=hW.1;go_simp;try with_reducible rfl)
 refine wpG.tk 5 ?_
 refine wpG.tk 6 ?_
 refine wpG.tk 7 ?_
 refine wpG.tk 8 ?_
 refine wpG.tk 9 ?_ (hy:=by intro W hW;have hld0:=hW.2;go_simp;try with_reducible rfl)
 refine wpG.tk 10 ?_
 refine wpG.tk 11 ?_
 refine wpG.alone 12 rfl (by kernel_rfl) (by kernel_rfl) (⟨c5,c7⟩) (fun K hK=>?_)
 go_simp
 go_at_call 146
 refine (HWR.out _ rfl).mono ?_
 rintro e w3 ⟨rfl,zs',hz8,hzo,HS3⟩
 have HI3:Hid ((L.set j (DevA (pt d) zs'))[i]? = some (SlotA s d inn cnt n)):=by
  show _=_
  rw [List.getElem?_set_ne (Ne.symm HIJ.out)];exact HI.out
 obtain ⟨F,tv2,l2,hh,_,_⟩:=slot_told HS3.out i HI3.out
 have d5:w3.cell? ⟨s,5,none⟩=some (.int .i64 inn):=by rw [cell_row hh];rfl
 have d7:w3.cell? ⟨s,7,none⟩=some (.int .i64 cnt):=by rw [cell_row hh];rfl
 have HZ8:=Lib.hid hz8
 have HZO:=Lib.hid hzo
 clear hh hz8 hzo c5 c7 HWR HS1
 try go_simp
 refine hK _ _ ?_
 clear hK K
 refine wpG.tk 13 ?_
 refine wpG.done (by kernel_rfl) ⟨d5,d7⟩ ?_
 clear d5 d7
 go_upto_region 9 with fail
 have HS4:Hid (Sep W (L.set j (DevA (pt d) zs')) w3.drew):=HS3.out.up (below_drewN (Below.refl w3.heap.size w3) 1)
 obtain ⟨F,tv2,l2,hh,_,_⟩:=slot_told HS4.out i HI3.out
 have e5:w3.drew.cell? ⟨s,5,none⟩=some (.int .i64 inn):=by rw [cell_row hh];rfl
 have e7:w3.drew.cell? ⟨s,7,none⟩=some (.int .i64 cnt):=by rw [cell_row hh];rfl
 obtain ⟨_,G,_,hR,_,_,hdG,_⟩:=HS4.out.at j (A:=DevA (pt d) zs') (List.getElem?_set_self (List.getElem?_eq_some_iff.1 HJ.out).1)
 have HCL:=Lib.hid (clone_w G _ txt w3.drew (HT.out G _ (rest_other hR)) (by rw [HTL.out];omega))
 clear hh hR hdG HS3
 refine wp_regionB (fun W=>W.cell? ⟨s,5,none⟩=some (.int .i64 inn)∧W.cell? ⟨s,7,none⟩=some (.int .i64 cnt)) 17 (n:=24) (by kernel_rfl) (by kernel_rfl) ?_
 generalize w3.drew=w4 at *
 refine wpB.tk 0 ?_
 refine wpB.tk 1 ?_
 refine wpB.tk 2 ?_
 refine wpB.tk 3 ?_
 refine wpB.tk 4 ?_
 refine wpB.tk 5 ?_
 refine wpB.ld 6 ?_ (hy:=by intro W hW;have hld0:=hW.1;go_simp;try with_reducible rfl)
 refine wpB.tk 7 ?_
 refine wpB.tk 8 ?_
 refine wpB.tk 10 ?_
 refine wpB.tk 11 ?_
 refine wpB.tk 12 ?_
 refine wpB.ld 13 ?_ (hy:=by intro W hW;have hld0:=hW.2;go_simp;try with_reducible rfl)
 refine wpB.tk 14 ?_
 refine wpB.alone 9 rfl (by kernel_rfl) (by kernel_rfl) (fun _=>⟨e5,e7⟩) (fun K hK=>?_)
 go_simp
 go_at_call 45
 refine (HCL.out).mono ?_
 rintro e w5 ⟨tv5,rfl,htv,hb5⟩
 have hs5:=HS4.out.up hb5
 obtain ⟨F,tv6,l6,hh,_,_⟩:=slot_told hs5 i HI3.out
 have q5:w5.cell? ⟨s,5,none⟩=some (.int .i64 inn):=by rw [cell_row hh];rfl
 have q6:w5.cell? ⟨s,6,none⟩=some tv6:=by rw [cell_row hh];rfl
 have q7:w5.cell? ⟨s,7,none⟩=some (.int .i64 cnt):=by rw [cell_row hh];rfl
 have f5:=fz_row hh 5
 have f6:=fz_row hh 6
 have f7:=fz_row hh 7
 have hs9:=Go.Proofs.Sep.slot_set HS4.out i HI3.out hb5 htv.bytes (fun q hq=>hq) (1 - inn) (cnt+1) (by rw [HTL.out];omega)
 rw [show ((cnt+1:Nat):Int)=(cnt:Int)+1 by omega,HTL.out] at hs9
 have HS9:=Lib.hid hs9
 obtain ⟨vp,vc,rfl⟩:=shape_of htv.bytes HTL.out
 clear hs9 hs5 hh htv hb5 HCL HS4 e5 e7
 try go_simp
 refine hK _ _ ?_
 clear hK K
 refine wpB.tk 15 ?_
 refine wpB.tk 16 ?_
 refine wpB.alone 17 rfl (by kernel_rfl) (by kernel_rfl) (fun _=>⟨q5,q7⟩) (fun K hK=>?_)
 go_simp
 try go_simp
 refine hK _ _ ?_
 clear hK K
 refine wpB.tk 18 ?_
 refine wpB.tk 19 ?_
 refine wpB.alone 20 rfl (by kernel_rfl) (by kernel_rfl) (fun h=>absurd h (by decide)) (fun K hK=>?_)
 go_simp
 try go_simp
 refine hK _ _ ?_
 clear hK K
 refine wpB.tk 21 ?_
 refine wpB.tk 22 ?_
 refine wpB.alone 23 rfl (by kernel_rfl) (by kernel_rfl) (fun h=>absurd h (by decide)) (fun K hK=>?_)
 go_simp
 try go_simp
 refine hK _ _ ?_
 clear hK K
 refine wpB.done (by kernel_rfl) (by kernel_rfl) ?_
 go_wp2_with fail
 go_ret
 exact ⟨rfl,zs',HZ8.out,fun z hz=>HZO.out z (by omega),HS9⟩
end
end Go.Proofs
namespace Go.Proofs
open Go.RowKit Sc
theorem set2_app (L M:List Asn) {i j:Nat} (A B:Asn) (hi:i < L.length) (hj:j < L.length):((L++M).set i A).set j B=(L.set i A).set j B++M:=by
 rw [List.set_append_left _ _ hi,List.set_append_left _ _ (by rw [List.length_set];exact hj)]
section
variable {W w:World} {L:List Asn} {st d m s pos num:Nat}
theorem st_set2 {h:Sep W L w} {i:Nat} (hi:L[i]? = some (StoreB st d m s pos num)) (pos' num':Nat):Sep W (L.set i (StoreB st d m s pos' num')) ((w.setCell ⟨st,7,none⟩ (.int .i64 pos')).setCell ⟨st,8,none⟩ (.int .i64 num')):=by
 have h1:=h.box_store i hi 7 (.int .i64 pos')
 have hil:=(List.getElem?_eq_some_iff.1 hi).1
 have h2:=h1.box_store i (List.getElem?_set_self hil) 8 (.int .i64 num')
 rw [List.set_set] at h2
 exact h2
set_option maxRecDepth 100000 in
set_option maxHeartbeats 4000000 in
theorem stCheckpoint (h:Hid (Sep W L w)) (i is jd jm:Nat) (hi:L[i]? = some (StoreB st d m s pos num)) {inn cnt n:Nat} (his:L[is]? = some (SlotA s d inn cnt n)) {zs:List Nat} (hjd:L[jd]? = some (DevA (pt d) zs)) {S:MgS} (hjm:L[jm]? = some (MgrA (pt m) S))
  (h1:is≠jd) (h2:i≠jd) (h3:i≠is) (hinn:inn≤1) (hz:zs.length=8) (hc:cnt≤1000000) {N:Nat} (g:MgG N S) (hN:N≤1000000) (hdl:(dumpV S.vs).length≤258) :
  Calls Tryz.prog 40 #[pt st] w fun e w'=>e=.returned (.int .i64 0)∧∃ (zs2:List Nat) (n2:Nat),zs2.length=8∧zs2[6]? = some 0∧zs2[7]? = some 0 ∧
   Hid (Sep W (((L.set jd (DevA (pt d) zs2)).set is (SlotA s d (1 - inn) (cnt+1) n2)).set i (StoreB st d m s 0 0)) w'):=by
 have hil:=(List.getElem?_eq_some_iff.1 hi).1
 have hisl:=(List.getElem?_eq_some_iff.1 his).1
 have hjdl:=(List.getElem?_eq_some_iff.1 hjd).1
 have HDE:=Lib.hid (stDead h.out i hi)
 have hsd:Sep W L w.drew:=h.out.up (below_drewN (Below.refl w.heap.size w) 1)
 have HTX:=Lib.hid (stText (Lib.hid hsd) i hi jm hjm g hN (by omega))
 have c6:w.drew.cell? ⟨st,6,none⟩=some (pt s):=(cell_row (st_cells hsd i hi) 6).trans rfl
 have HSD:=Lib.hid hsd
 generalize hdn:(dumpV S.vs).length=dn at *
 have HI:=Lib.hid hi
 have HIS:=Lib.hid his
 have HJD:=Lib.hid hjd
 have H1:=Lib.hid h1
 have H2:=Lib.hid h2
 have H3:=Lib.hid h3
 have HZ:=Lib.hid hz
 clear hi his hjd hjm h1 h2 h3 hsd h g hdn hz
 go_enter Tryz.func40,Tryz.ntmps40
 go_wp2_with fail
 refine (HDE.out).mono ?_
 rintro e w1 ⟨rfl,rfl⟩
 clear HDE
 go_upto_region 3 with fail
 refine wp_regionG (fun W=>W.cell? ⟨st,6,none⟩=some (pt s)) (n:=8) (by kernel_rfl) (by kernel_rfl) ?_
 generalize w.drew=wd at *
 refine wpG.tk 0 ?_
 refine wpG.tk 1 ?_
 refine wpG.tk 2 ?_
 refine wpG.tk 3 ?_ (hy:=by intro W hW;have hld0:=hW;go_simp;try with_reducible rfl)
 refine wpG.tk 4 ?_
 refine wpG.alone 5 rfl (by kernel_rfl) (by kernel_rfl) (c6) (fun K hK=>?_)
 go_simp
 go_at_call 85
 refine (HTX.out).mono ?_
 rintro e w2 ⟨tg,tc,rfl,⟨txt,htl,hown⟩,hb2⟩
 have d6:=cell_up hb2 c6
 have hbw:=bytesW_own (New wd w2) htl (fun q h1 h2=>⟨h1,h2⟩) hown
 have hs2:=HSD.out.new hb2 (BytesWA (.slice (some ⟨tg,0,none⟩) (8+44 * dn) tc) txt) (F:=New wd w2) (fun _ h=>h) hbw
 obtain ⟨htc1,htc2⟩:8+44 * dn≤tc∧tc≤9223372036854775807:=by
  have hbw':=hbw
  rw [← htl] at hbw'
  obtain ⟨_,_,e',q1,q2,_⟩:=hbw'
  cases e'
  rw [htl] at q1
  exact ⟨q1,q2⟩
 have happ:∀ {k:Nat} {A:Asn},L[k]? = some A→(L++[BytesWA (.slice (some ⟨tg,0,none⟩) (8+44 * dn) tc) txt])[k]? = some A:=fun {k A} hk=>by
  rw [List.getElem?_append_left (List.getElem?_eq_some_iff.1 hk).1];exact hk
 have HSV:=Lib.hid (slotSave (Lib.hid hs2) is jd (happ HIS.out) (happ HJD.out) H1.out hinn HZ.out hc tg tc (8+44 * dn) txt htl (by omega) htc1 htc2 (fun G w' hR=>by
  obtain ⟨F,hF,hP⟩:=hR L.length (BytesWA (.slice (some ⟨tg,0,none⟩) (8+44 * dn) tc) txt) (by omega) (by rw [List.getElem?_append_right (Nat.le_refl _),Nat.sub_self];rfl)
  exact (BytesW.bytes hP).mono hF))
 generalize 8+44 * dn=tn at *
 clear hs2 happ hbw hown htl hb2 HTX HSD htc1 htc2
 try go_simp
 refine hK _ _ ?_
 clear hK K
 refine wpG.alone 6 rfl (by kernel_rfl) (by kernel_rfl) (d6) (fun K hK=>?_)
 go_simp
 go_at_call 84
 refine (HSV.out).mono ?_
 rintro e w3 ⟨rfl,zs',hz8,hzo,HS3⟩
 have hs4:=HS3.out
 rw [set2_app L _ _ _ hjdl hisl] at hs4
 have hs5:=hs4.take L.length
 rw [List.take_left' (by rw [List.length_set,List.length_set])] at hs5
 have HI5:Hid (∀ zs2,((L.set jd (DevA (pt d) zs2)).set is (SlotA s d (1 - inn) (cnt+1) tn))[i]? = some (StoreB st d m s pos num)):=fun zs2=>by
  rw [List.getElem?_set_ne (Ne.symm H3.out),List.getElem?_set_ne (Ne.symm H2.out)];exact HI.out
 have HJ5:Hid (∀ zs2,((L.set jd (DevA (pt d) zs2)).set is (SlotA s d (1 - inn) (cnt+1) tn))[jd]? = some (DevA (pt d) zs2)):=fun zs2=>by
  show _=_
  rw [List.getElem?_set_ne H1.out,List.getElem?_set_self hjdl]
 have HK5:Hid (∀ zs2 zs3,((L.set jd (DevA (pt d) zs2)).set is (SlotA s d (1 - inn) (cnt+1) tn)).set jd (DevA (pt d) zs3)=(L.set jd (DevA (pt d) zs3)).set is (SlotA s d (1 - inn) (cnt+1) tn)):=fun zs2 zs3=>by
  rw [List.set_comm _ _ H1.out,List.set_set]
 have x6:w3.cell? ⟨st,6,none⟩=some (pt s):=(cell_row (st_cells hs5 i (HI5.out _)) 6).trans rfl
 have HS5:Hid (Sep W ((L.set jd (DevA (pt d) (emptied zs' 6 0))).set is (SlotA s d (1 - inn) (cnt+1) tn)) w3):=hs5
 have HZ8:=Lib.hid hz8
 clear hz8 hzo HS3 hs4 hs5 HSV c6 d6 HI HIS HJD H1 H2 H3
 try go_simp
 refine hK _ _ ?_
 clear hK K
 refine wpG.tk 7 ?_
 refine wpG.done (by kernel_rfl) x6 ?_
 clear x6
 have y3:w3.cell? ⟨st,3,none⟩=some (.int .i64 6):=(cell_row (st_cells HS5.out i (HI5.out _)) 3).trans rfl
 go_upto_region 5 with fail
 clear y3
 go_loopw [3,4] (fun s3 s4 wr=>∃ q:Nat,q≤2∧s4=.int .i64 (6+q:Nat)∧s3=.int .i64 0∧Hid (Sep W ((L.set jd (DevA (pt d) (emptied zs' 6 q))).set is (SlotA s d (1 - inn) (cnt+1) tn)) wr)) (fun _ s4 _=>8 - (intOf s4).toNat)
 case atStart=>exact ⟨0,by omega,by go_num,rfl,HS5⟩
 case round =>
  obtain ⟨q,hq,rfl,rfl,HS⟩:=hrel
  clear HS5
  have d0:wr.cell? ⟨st,0,none⟩=some (pt d):=(cell_row (st_cells HS.out i (HI5.out _)) 0).trans rfl
  have d4:wr.cell? ⟨st,4,none⟩=some (.int .i64 7):=(cell_row (st_cells HS.out i (HI5.out _)) 4).trans rfl
  by_cases hlt:q < 2
  case pos =>
   have hq7:((6+q:Nat):Int)≤7:=by omega
   obtain ⟨y,hy⟩:∃ y,(emptied zs' 6 q)[6+q]? = some y:=⟨_,List.getElem?_eq_getElem (by rw [emptied_len,HZ8.out];omega)⟩
   have HP:=Lib.hid (devPointer HS jd (HJ5.out _) (k:=6+q) (by omega) hy)
   have HR:=Lib.hid (devReset HS jd (HJ5.out _) (k:=6+q) (by omega))
   have HY:=Lib.hid hy
   clear hy
   go_wp2_with fail
   refine (HP.out).mono ?_
   rintro e w2 ⟨rfl,rfl⟩
   by_cases h0:0 < y
   ·have h0':(0:Int) < (y:Int):=by omega
    go_wp2_with fail
    refine (HR.out).mono ?_
    rintro e w3 ⟨rfl,HS3⟩
    have HS4:Hid (Sep W ((L.set jd (DevA (pt d) (emptied zs' 6 (q+1)))).set is (SlotA s d (1 - inn) (cnt+1) tn)) w3):=by
     show Sep _ _ _
     have:=HS3.out
     rw [HK5.out] at this
     exact this
    go_wp2_with fail
    go_roundw
    case rel=>exact ⟨q+1,by omega,by go_num,rfl,HS4⟩
    case measure=>simp [intOf];omega
   ·obtain rfl:y=0:=by omega
    have HS4:Hid (Sep W ((L.set jd (DevA (pt d) (emptied zs' 6 (q+1)))).set is (SlotA s d (1 - inn) (cnt+1) tn)) wr):=by
     show Sep _ _ _
     rw [emptied,set_same HY.out]
     exact HS.out
    go_wp2_with fail
    go_roundw
    case rel=>exact ⟨q+1,by omega,by go_num,rfl,HS4⟩
    case measure=>simp [intOf];omega
  case neg =>
   obtain rfl:q=2:=by omega
   have hh:=st_cells HS.out i (HI5.out _)
   have x7:wr.cell? ⟨st,7,none⟩=some (.int .i64 pos):=by rw [cell_row hh];rfl
   have x8:wr.cell? ⟨st,8,none⟩=some (.int .i64 num):=by rw [cell_row hh];rfl
   have f7:=fz_row hh 7
   have f8:=fz_row hh 8
   have HS9:=Lib.hid (st_set2 (h:=HS.out) (HI5.out _) 0 0)
   have HF:Hid ((emptied zs' 6 2).length=8∧(emptied zs' 6 2)[6]? = some 0∧(emptied zs' 6 2)[7]? = some 0):=by
    refine ⟨by rw [emptied_len,HZ8.out],?_,?_⟩
    ·rw [emptied_get _ _ _ _ (by rw [HZ8.out];omega),if_pos (by omega)]
    ·rw [emptied_get _ _ _ _ (by rw [HZ8.out];omega),if_pos (by omega)]
   clear hh HS
   go_wp2_with fail
   go_ret
   exact ⟨rfl,_,tn,HF.out.1,HF.out.2.1,HF.out.2.2,HS9⟩
end
end Go.Proofs
namespace Go.Proofs
open Go.RowKit Sc
def logz (zs:List Nat) (p:Nat):List Nat:=(zs.set 6 (min 96 p)).set 7 (min 96 (p - 96))
theorem logz_at {zs:List Nat} (hz:zs.length=8) {q:Nat} (hq:q < 192):(logz zs q)[6+q / 96]? = some (q % 96):=by
 unfold logz
 by_cases h:q < 96
 ·rw [show 6+q / 96=6 by omega,List.getElem?_set_ne (by omega),List.getElem?_set_self (by omega)]
  congr 1;omega
 ·rw [show 6+q / 96=7 by omega,List.getElem?_set_self (by rw [List.length_set];omega)]
  congr 1;omega
theorem logz_step {zs:List Nat} (hz:zs.length=8) {q:Nat} (hq:q < 192):(logz zs q).set (6+q / 96) (q % 96+1)=logz zs (q+1):=by
 unfold logz
 by_cases h:q < 96
 ·rw [show 6+q / 96=6 by omega,List.set_comm _ _ (by omega:(7:Nat)≠6),List.set_set]
  congr 1
  ·congr 1;omega
  ·omega
 ·rw [show 6+q / 96=7 by omega,List.set_set]
  congr 1
  ·congr 1;omega
  ·omega
section
variable {W w:World} {L:List Asn} {st d m s pos num:Nat}
set_option maxRecDepth 100000 in
set_option maxHeartbeats 4000000 in
theorem stPut (h:Hid (Sep W L w)) (i is jd:Nat) (hi:L[i]? = some (StoreB st d m s pos num)) {inn cnt n:Nat} (his:L[is]? = some (SlotA s d inn cnt n)) {zs:List Nat} (hjd:L[jd]? = some (DevA (pt d) (logz zs pos)))
  (h2:i≠jd) (hz:zs.length=8) (hc:cnt≤1000000) (hpos:pos≤192) (hnum:num≤1000000) (v:Value) (num0:Int) (l:List Tx) (ht:∀ G w',Sc.Rest L jd G w'→TxsAt G w' v l) (hb:BatOk ((num:Int)+1) l) :
  Calls Tryz.prog 54 #[pt st,.agg #[.int .i64 num0,v]] w fun e w' =>
   (e=.returned (.int .i64 9)∧¬ ((∀ k (h:k+1 < l.length),l[k+1].time - (l[k]'(by omega)).time≤65535)∧pos+blocksN l≤192)∧Hid (Sep W L w')) ∨
   (e=.returned (.int .i64 0)∧pos+blocksN l≤192∧Hid (Sep W ((L.set jd (DevA (pt d) (logz zs (pos+blocksN l)))).set i (StoreB st d m s (pos+blocksN l) (num+1))) w')):=by
 have hil:=(List.getElem?_eq_some_iff.1 hi).1
 have hjl:=(List.getElem?_eq_some_iff.1 hjd).1
 obtain ⟨vp,vc,rfl⟩:∃ vp vc,v=.slice vp l.length vc:=by
  obtain ⟨_,G,_,hR,_,_,_,_⟩:=h.out.at jd hjd
  obtain ⟨p,c,e,_⟩:=ht G w hR
  exact ⟨p,c,e⟩
 have hs1:=Go.Proofs.Sep.boxT h.out #[.int .i64 num0,.slice vp l.length vc] 112
 obtain ⟨wa,hwa⟩:∃ wa,w.alloc (.cells #[.int .i64 num0,.slice vp l.length vc] 112 (0,0))=wa:=⟨_,rfl⟩
 obtain ⟨B,hB⟩:∃ B,w.heap.size=B:=⟨_,rfl⟩
 rw [hwa,hB] at hs1
 have HS1:=Lib.hid hs1
 have HI:=Lib.hid hi
 have HIS:=Lib.hid his
 have HJD:=Lib.hid hjd
 have HT:=Lib.hid ht
 have HB:=Lib.hid hb
 have HZ:=Lib.hid hz
 have H2:=Lib.hid h2
 have hap:Hid (∀ {k:Nat} {A:Asn} (X:List Asn),L[k]? = some A→(L++X)[k]? = some A):=fun {k A} X hk=>by
  rw [List.getElem?_append_left (List.getElem?_eq_some_iff.1 hk).1];exact hk
 have hla:Hid (∀ (X:List Asn) k,(L++X)[L.length+k]? = X[k]?):=fun X k=>by
  show _=_
  rw [List.getElem?_append_right (by omega),Nat.add_sub_cancel_left]
 have hfd:∀ w:World,(Instr.field 62 gLeast 1).run Tryz.prog w=.ok (.int .i64 96) w:=fun _=>by kernel_rfl
 have HLO:=Lib.hid (slotLoad HS1 is (hap.out _ his))
 have c3:wa.cell? ⟨st,6,none⟩=some (pt s):=(cell_row (st_cells hs1 i (hap.out _ hi)) 6).trans rfl
 have h1l:=hb.l1
 clear hi his hjd ht hb hs1 h h2 hz
 go_enter Tryz.func54,Tryz.ntmps54
 go_wp2_with fail
 try rw [hwa]
 try rw [hB]
 clear hwa hB
 refine (HLO.out).mono ?_
 rintro e w1 ⟨tp,tc,rfl,_,hb1⟩
 have HS2:=Lib.hid (HS1.out.up hb1)
 clear HLO HS1 hb1 c3
 obtain ⟨F,hF,_⟩:=HS2.out.get (L.length+0) ((hla.out _ 0).trans rfl)
 have b0:w1.cell? ⟨B,0,none⟩=some (.int .i64 num0):=by rw [cell_row hF.2];rfl
 have b1:w1.cell? ⟨B,1,none⟩=some (.slice vp l.length vc):=by rw [cell_row hF.2];rfl
 have f0:=fz_row hF.2 0
 have c8:w1.cell? ⟨st,8,none⟩=some (.int .i64 num):=(cell_row (st_cells HS2.out i (hap.out _ HI.out)) 8).trans rfl
 have hs3:=HS2.out.box_store (L.length+0) ((hla.out _ 0).trans rfl) 0 (.int .i64 ((num:Int)+1))
 rw [List.set_append_right _ _ (by omega),Nat.add_zero,Nat.sub_self] at hs3
 have HS3:Hid (Sep W (L++[BoxA B #[.int .i64 ((num:Int)+1),.slice vp l.length vc] 112]) (w1.setCell ⟨B,0,none⟩ (.int .i64 ((num:Int)+1)))):=hs3
 clear hF hs3 HS2
 go_upto_region 3 with fail
 clear b0 b1 f0 c8
 generalize w1.setCell ⟨B,0,none⟩ (.int .i64 ((num:Int)+1))=w2 at *
 obtain ⟨F,hF,_⟩:=HS3.out.get (L.length+0) ((hla.out _ 0).trans rfl)
 have b0:w2.cell? ⟨B,0,none⟩=some (.int .i64 ((num:Int)+1)):=by rw [cell_row hF.2];rfl
 have b1:w2.cell? ⟨B,1,none⟩=some (.slice vp l.length vc):=by rw [cell_row hF.2];rfl
 obtain ⟨_,G,_,hR,_,_,hdG,_⟩:=HS3.out.at jd (hap.out _ HJD.out)
 have HEN:=Lib.hid (encode_bat G _ ((num:Int)+1) l w2 hdG (HT.out G w2 (rest_pre hR)) HB.out cnt (by omega) (by omega))
 clear hF hR hdG
 go_wp2_with fail
 refine (HEN.out).mono ?_
 rintro e w3 ⟨cc,hck,hor⟩
 have HCK:=Lib.hid hck
 clear HEN b0 b1 hck
 rcases hor with ⟨hc0,rfl,hb3⟩ | ⟨rfl,p,cap,vals,ls,rfl,hls,h64,hS4⟩
 ·have HS4:=Lib.hid (HS3.out.up hb3.out)
  have HC0:=Lib.hid hc0
  have HGE:=Lib.hid (devGeometry HS4 jd (hap.out _ HJD.out))
  have c0:w3.cell? ⟨st,0,none⟩=some (pt d):=(cell_row (st_cells HS4.out i (hap.out _ HI.out)) 0).trans rfl
  clear hc0 hb3 HS3
  go_wp2_with fail
  refine (HGE.out).mono ?_
  rintro e w4 ⟨rfl,hb4⟩
  have HS5:Hid (Sep W L w4):=by
   have:=(HS4.out.up hb4.out).take L.length
   rwa [List.take_left' rfl] at this
  clear HGE HS4 hb4 c0
  have hcne:(1:Int)≠0:=by omega
  go_upto_region 5 with fail
  have HS6:Hid (Sep W L w4.drew):=HS5.out.up (below_drewN (Below.refl w4.heap.size w4) 1)
  clear HS5
  refine wp_regionG (fun _=>True) (n:=26) (by kernel_rfl) (by kernel_rfl) ?_
  generalize w4.drew=w5 at *
  refine wpG.tk 0 ?_
  refine wpG.tk 1 ?_
  refine wpG.tk 2 ?_
  refine wpG.sk 3 ?_
  refine wpG.sk 4 ?_
  refine wpG.sk 5 ?_
  refine wpG.sk 6 ?_
  refine wpG.sk 7 ?_
  refine wpG.sk 8 ?_
  refine wpG.sk 9 ?_
  refine wpG.sk 10 ?_
  refine wpG.sk 11 ?_
  refine wpG.sk 12 ?_
  refine wpG.sk 13 ?_
  refine wpG.sk 14 ?_
  refine wpG.sk 15 ?_
  refine wpG.sk 16 ?_
  refine wpG.sk 17 ?_
  refine wpG.sk 18 ?_
  refine wpG.sk 19 ?_
  refine wpG.sk 20 ?_
  refine wpG.sk 21 ?_
  refine wpG.sk 22 ?_
  refine wpG.sk 23 ?_
  refine wpG.sk 24 ?_
  refine wpG.tk 25 ?_
  refine wpG.done (by kernel_rfl) trivial ?_
  go_wp2_with fail
  go_ret
  exact .inl ⟨rfl,fun hh=>HC0.out (HCK.out.2 hh.1),HS6⟩
 ·have hs4:=Sc.Sep.append HS3.out hS4.out
  rw [List.append_assoc] at hs4
  obtain ⟨bn,hbn⟩:∃ bn,blocksN l=bn:=⟨_,rfl⟩
  have hbn1:1≤bn:=by rw [← hbn];unfold blocksN blocksTo;omega
  have hbn33:bn≤33:=by rw [← hbn];exact HB.out.b33
  rw [hbn] at hs4 hls ⊢
  obtain ⟨F,hF,_⟩:=hs4.get (L.length+1) ((hla.out _ 1).trans rfl)
  obtain ⟨og,oo,cap',hsl,hcp1,hcp2⟩:=ORowP.base hF hbn1
  cases hsl
  have HS4:Hid (Sep W (L++[BoxA B #[.int .i64 ((num:Int)+1),.slice vp l.length vc] 112,ORowA 1 (.slice (some ⟨og,oo,none⟩) bn cap) bn vals,DatA vals ls]) w3):=hs4
  have HLS:Hid (ls.length=bn∧∀ x∈ls,x.length=64):=⟨hls,h64⟩
  have HGE:=Lib.hid (devGeometry HS4 jd (hap.out _ HJD.out))
  have c0:w3.cell? ⟨st,0,none⟩=some (pt d):=(cell_row (st_cells HS4.out i (hap.out _ HI.out)) 0).trans rfl
  have HBN:=Lib.hid hbn
  clear hs4 hF hls h64 hS4 HS3 hbn
  go_wp2_with fail
  refine (HGE.out).mono ?_
  rintro e w4 ⟨rfl,hb4⟩
  have HS5:=Lib.hid (HS4.out.up hb4.out)
  clear HGE HS4 hb4 c0
  go_upto_region 5 with fail
  have HS6:Hid (Sep W _ w4.drew):=HS5.out.up (below_drewN (Below.refl w4.heap.size w4) 1)
  clear HS5
  have c2:w4.drew.cell? ⟨st,3,none⟩=some (.int .i64 6):=(cell_row (st_cells HS6.out i (hap.out _ HI.out)) 3).trans rfl
  have c4:w4.drew.cell? ⟨st,4,none⟩=some (.int .i64 7):=(cell_row (st_cells HS6.out i (hap.out _ HI.out)) 4).trans rfl
  have c7:w4.drew.cell? ⟨st,7,none⟩=some (.int .i64 pos):=(cell_row (st_cells HS6.out i (hap.out _ HI.out)) 7).trans rfl
  have hw1:IntKind.i64.wrap ((pos:Int)+(bn:Int))=(pos:Int)+(bn:Int):=IntWalk.i64_in _ (by omega)
  have hw2:IntKind.i64.wrap 1=1:=by decide
  have hw3:IntKind.i64.wrap 2=2:=by decide
  have hw4:IntKind.i64.wrap 192=192:=by decide
  refine wp_regionG (fun W=>W.cell? ⟨st,3,none⟩=some (.int .i64 6)∧W.cell? ⟨st,4,none⟩=some (.int .i64 7)∧W.cell? ⟨st,7,none⟩=some (.int .i64 pos)) (n:=26) (by kernel_rfl) (by kernel_rfl) ?_
  generalize w4.drew=w5 at *
  refine wpG.tk 0 ?_
  refine wpG.tk 1 ?_
  refine wpG.tk 2 ?_
  refine wpG.tk 3 ?_
  refine wpG.tk 4 ?_
  refine wpG.tk 5 ?_
  refine wpG.tk 6 ?_ (hy:=by intro W hW;have hld0:=hW.2.2;go_simp;try with_reducible rfl)
  refine wpG.tk 7 ?_
  refine wpG.tk 8 ?_
  refine wpG.tk 9 ?_
  refine wpG.tk 10 ?_
  refine wpG.tk 11 ?_
  refine wpG.tk 12 ?_
  refine wpG.tk 13 ?_
  refine wpG.tk 14 ?_ (hy:=by intro W hW;have hld0:=hW.2.1;go_simp;try with_reducible rfl)
  refine wpG.tk 15 ?_
  refine wpG.tk 16 ?_
  refine wpG.tk 17 ?_
  refine wpG.tk 18 ?_
  refine wpG.tk 19 ?_ (hy:=by intro W hW;have hld0:=hW.1;go_simp;try with_reducible rfl)
  refine wpG.tk 20 ?_
  refine wpG.tk 21 ?_
  refine wpG.tk 22 ?_
  refine wpG.tk 23 ?_
  refine wpG.tk 24 ?_
  refine wpG.tk 25 ?_
  refine wpG.done (by kernel_rfl) ⟨c2,c4,c7⟩ ?_
  clear c2 c4 c7
  by_cases hroom:192 < pos+bn
  ·have hr1:(192:Int) < (pos:Int)+(bn:Int):=by omega
   have HS7:Hid (Sep W L w5):=by
    have:=HS6.out.take L.length
    rwa [List.take_left' rfl] at this
   go_wp2_with fail
   go_ret
   exact .inl ⟨rfl,fun hh=>by have:=hh.2;have:=HBN.out;omega,HS7⟩
  ·have hr1:¬ (192:Int) < (pos:Int)+(bn:Int):=by omega
   clear hw1 hw2 hw3 hw4
   go_wp2_with fail
   have HLS0:Hid (∀ zs',(L++[BoxA B #[.int .i64 ((num:Int)+1),.slice vp l.length vc] 112,ORowA 1 (.slice (some ⟨og,oo,none⟩) bn cap) bn vals,DatA vals ls]).set jd (DevA (pt d) zs')=L.set jd (DevA (pt d) zs')++[BoxA B #[.int .i64 ((num:Int)+1),.slice vp l.length vc] 112,ORowA 1 (.slice (some ⟨og,oo,none⟩) bn cap) bn vals,DatA vals ls]):=fun zs'=>List.set_append_left _ _ hjl
   have HL2:Hid (∀ zs' zs2,(L.set jd (DevA (pt d) zs')++[BoxA B #[.int .i64 ((num:Int)+1),.slice vp l.length vc] 112,ORowA 1 (.slice (some ⟨og,oo,none⟩) bn cap) bn vals,DatA vals ls]).set jd (DevA (pt d) zs2)=L.set jd (DevA (pt d) zs2)++[BoxA B #[.int .i64 ((num:Int)+1),.slice vp l.length vc] 112,ORowA 1 (.slice (some ⟨og,oo,none⟩) bn cap) bn vals,DatA vals ls]):=fun zs' zs2=>by
    rw [List.set_append_left _ _ (by rw [List.length_set];exact hjl),List.set_set]
   have HI2:Hid (∀ zs',(L.set jd (DevA (pt d) zs')++[BoxA B #[.int .i64 ((num:Int)+1),.slice vp l.length vc] 112,ORowA 1 (.slice (some ⟨og,oo,none⟩) bn cap) bn vals,DatA vals ls])[i]? = some (StoreB st d m s pos num)):=fun zs'=>by
    rw [List.getElem?_append_left (by rw [List.length_set];exact hil),List.getElem?_set_ne (Ne.symm H2.out)];exact HI.out
   have HJ2:Hid (∀ zs',(L.set jd (DevA (pt d) zs')++[BoxA B #[.int .i64 ((num:Int)+1),.slice vp l.length vc] 112,ORowA 1 (.slice (some ⟨og,oo,none⟩) bn cap) bn vals,DatA vals ls])[jd]? = some (DevA (pt d) zs')):=fun zs'=>by
    rw [List.getElem?_append_left (by rw [List.length_set];exact hjl),List.getElem?_set_self hjl]
   have HX2:Hid (∀ zs' k,(L.set jd (DevA (pt d) zs')++[BoxA B #[.int .i64 ((num:Int)+1),.slice vp l.length vc] 112,ORowA 1 (.slice (some ⟨og,oo,none⟩) bn cap) bn vals,DatA vals ls])[L.length+k]? = [BoxA B #[.int .i64 ((num:Int)+1),.slice vp l.length vc] 112,ORowA 1 (.slice (some ⟨og,oo,none⟩) bn cap) bn vals,DatA vals ls][k]?):=fun zs' k=>by
    rw [List.getElem?_append_right (by rw [List.length_set];omega),List.length_set,Nat.add_sub_cancel_left]
   have HS7:Hid (Sep W (L.set jd (DevA (pt d) (logz zs (pos+0)))++[BoxA B #[.int .i64 ((num:Int)+1),.slice vp l.length vc] 112,ORowA 1 (.slice (some ⟨og,oo,none⟩) bn cap) bn vals,DatA vals ls]) w5):=by
    show Sep _ _ _
    rw [Nat.add_zero,set_same HJD.out]
    exact HS6.out
   clear HS6 HLS0 hap hla
   generalize hX:[BoxA B #[.int .i64 ((num:Int)+1),.slice vp l.length vc] 112,ORowA 1 (.slice (some ⟨og,oo,none⟩) bn cap) bn vals,DatA vals ls]=X at *
   have HXX:=Lib.hid hX
   clear hX
   go_loopw [68] (fun s68 wr=>∃ q:Nat,q≤bn∧s68=.int .i64 q∧Hid (Sep W (L.set jd (DevA (pt d) (logz zs (pos+q)))++X) wr)) (fun s68 _=>bn - (intOf s68).toNat)
   case atStart=>exact ⟨0,Nat.zero_le _,by go_num,HS7⟩
   case round =>
    obtain ⟨q,hq,rfl,HS⟩:=hrel
    clear HS7
    by_cases hlt:q < bn
    case neg =>
     obtain rfl:q=bn:=by omega
     have HFL:=Lib.hid (devFlush HS jd (d:=d) (HJ2.out _))
     have c0:wr.cell? ⟨st,0,none⟩=some (pt d):=(cell_row (st_cells HS.out i (HI2.out _)) 0).trans rfl
     go_wp2_with fail
     refine (HFL.out).mono ?_
     rintro e w7 ⟨rfl,HS8⟩
     have hh:=st_cells HS8.out i (HI2.out _)
     have x7:w7.cell? ⟨st,7,none⟩=some (.int .i64 pos):=by rw [cell_row hh];rfl
     have x8:w7.cell? ⟨st,8,none⟩=some (.int .i64 num):=by rw [cell_row hh];rfl
     have f7:=fz_row hh 7
     have f8:=fz_row hh 8
     have hs9:=st_set2 (h:=HS8.out) (HI2.out _) (pos+q) (num+1)
     rw [List.set_append_left _ _ (by rw [List.length_set];exact hil)] at hs9
     have hs10:=hs9.take L.length
     rw [List.take_left' (by rw [List.length_set,List.length_set]),show ((pos+q:Nat):Int)=(pos:Int)+(q:Int) by omega,show ((num+1:Nat):Int)=(num:Int)+1 by omega] at hs10
     have HS10:=Lib.hid hs10
     clear hh hs9 hs10 HS HFL c0 HS8
     go_wp2_with fail
     go_ret
     have hbe:=HBN.out
     subst hbe
     exact .inr ⟨rfl,by omega,HS10.out⟩
    case pos =>
     have hqb:(q:Int) < (bn:Int):=by omega
     have hq192:pos+q < 192:=by omega
     obtain ⟨F,hF,hDF⟩:=HS.out.get (L.length+2) (A:=DatA vals ls) ((HX2.out _ 2).trans (by rw [← HXX.out];rfl))
     have hvl:vals.length=bn:=(All2.length hF).trans HLS.out.1
     have hqv:q < vals.length:=by omega
     have hql:q < ls.length:=by rw [HLS.out.1];exact hlt
     have hbq:=All2.get hF q hqv hql
     have hl64:=HLS.out.2 _ (List.getElem_mem hql)
     obtain ⟨pp,pc,hvq⟩:=shape_of hbq hl64
     obtain ⟨F1,hF1,_⟩:=HS.out.get (L.length+1) (A:=ORowA 1 (.slice (some ⟨og,oo,none⟩) bn cap) bn vals) ((HX2.out _ 1).trans (by rw [← HXX.out];rfl))
     have cq:wr.cell? ⟨og,oo+q,none⟩=some (.slice pp 64 pc):=by
      rw [← hvq]
      exact ORowP.cell hF1 rfl (List.getElem?_eq_getElem hqv)
     have HSd:Hid (Sep W (L.set jd (DevA (pt d) (logz zs (pos+q)))++X) wr.drew):=HS.out.up (below_drewN (Below.refl wr.heap.size wr) 1)
     have hap2:=devAppend HSd jd (HJ2.out _) (k:=6+(pos+q) / 96) (n:=(pos+q) % 96) (by omega) (logz_at HZ.out hq192) (by omega) pp pc ls[q] (fun G w' hR=>by
      obtain ⟨F',hF',hP⟩:=hR (L.length+2) (DatA vals ls) (by omega) ((HX2.out _ 2).trans (by rw [← HXX.out];rfl))
      have:=All2.get hP q hqv hql
      rw [hvq] at this
      exact BytesAt.mono this hF') hl64
     rw [HL2.out,logz_step HZ.out hq192] at hap2
     have HAP:Hid (∀ z:Int,z=((6+(pos+q) / 96:Nat):Int)→Calls Tryz.prog 102 #[pt d,.int .i64 z,.slice pp 64 pc] wr.drew _):=fun z hz=>by rw [hz];exact hap2
     clear hF hDF hvl hqv hql hbq hl64 hF1 hap2 hvq
     have y0:wr.drew.cell? ⟨st,0,none⟩=some (pt d):=(cell_row (st_cells HSd.out i (HI2.out _)) 0).trans rfl
     have y3:wr.drew.cell? ⟨st,3,none⟩=some (.int .i64 6):=(cell_row (st_cells HSd.out i (HI2.out _)) 3).trans rfl
     have y7:wr.drew.cell? ⟨st,7,none⟩=some (.int .i64 pos):=(cell_row (st_cells HSd.out i (HI2.out _)) 7).trans rfl
     have hw1:IntKind.i64.wrap ((pos:Int)+(q:Int))=(pos:Int)+(q:Int):=IntWalk.i64_in _ (by omega)
     have hw2:IntKind.i64.wrap (((pos:Int)+(q:Int)).tdiv 96)=((pos:Int)+(q:Int)) / 96:=by rw [Int.tdiv_eq_ediv_of_nonneg (by omega)];exact IntWalk.i64_in _ (by omega)
     have hw3:IntKind.i64.wrap (6+((pos:Int)+(q:Int)) / 96)=6+((pos:Int)+(q:Int)) / 96:=IntWalk.i64_in _ (by omega)
     have HZQ:Hid (6+((pos:Int)+(q:Int)) / 96=((6+(pos+q) / 96:Nat):Int)):=by show _=_;omega
     have hpq0:(0:Int)≤(pos:Int)+(q:Int):=by omega
     clear HS
     go_upto_region 10 with fail
     clear cq
     refine wp_regionG (fun W=>W.cell? ⟨st,0,none⟩=some (pt d)∧W.cell? ⟨st,3,none⟩=some (.int .i64 6)∧W.cell? ⟨st,7,none⟩=some (.int .i64 pos)) (n:=25) (by kernel_rfl) (by kernel_rfl) ?_
     generalize wr.drew=wd at *
     refine wpG.tk 0 ?_
     refine wpG.tk 1 ?_
     refine wpG.tk 2 ?_
     refine wpG.tk 3 ?_ (hy:=by intro W hW;have hld0:=hW.1;go_simp;try with_reducible rfl)
     refine wpG.tk 4 ?_
     refine wpG.tk 5 ?_
     refine wpG.tk 6 ?_
     refine wpG.tk 7 ?_
     refine wpG.tk 8 ?_ (hy:=by intro W hW;have hld0:=hW.2.1;go_simp;try with_reducible rfl)
     refine wpG.tk 9 ?_
     refine wpG.tk 10 ?_
     refine wpG.tk 11 ?_
     refine wpG.tk 12 ?_ (hy:=by intro W hW;have hld0:=hW.2.2;go_simp;try with_reducible rfl)
     refine wpG.tk 13 ?_
     refine wpG.tk 14 ?_
     refine wpG.tk 15 ?_
     refine wpG.tk 16 ?_
     refine wpG.tk 17 ?_
     refine wpG.tk 18 ?_
     refine wpG.alone 19 rfl (by kernel_rfl) (by kernel_rfl) (⟨y0,y3,y7⟩) (fun K hK=>?_)
     go_simp
     go_at_call 102
     refine (HAP.out _ HZQ.out).mono ?_
     rintro e w6 ⟨rfl,HS6⟩
     have v0:w6.cell? ⟨st,0,none⟩=some (pt d):=(cell_row (st_cells HS6.out i (HI2.out _)) 0).trans rfl
     have v3:w6.cell? ⟨st,3,none⟩=some (.int .i64 6):=(cell_row (st_cells HS6.out i (HI2.out _)) 3).trans rfl
     have v7:w6.cell? ⟨st,7,none⟩=some (.int .i64 pos):=(cell_row (st_cells HS6.out i (HI2.out _)) 7).trans rfl
     clear HAP HSd y0 y3 y7 hw1 hw2 hw3 HZQ
     try go_simp
     refine hK _ _ ?_
     clear hK K
     refine wpG.tk 20 ?_
     refine wpG.tk 21 ?_
     refine wpG.tk 22 ?_
     refine wpG.tk 23 ?_
     refine wpG.tk 24 ?_
     refine wpG.done (by kernel_rfl) ⟨v0,v3,v7⟩ ?_
     clear v0 v3 v7
     go_wp2_with fail
     go_roundw
     case rel=>exact ⟨q+1,by omega,by go_num,HS6⟩
     case measure=>simp [intOf];omega
end
end Go.Proofs
namespace Go.Proofs
open Go.RowKit Sc
def sumP (l:List Tx):Nat:=(l.map fun t=>t.puts.length).sum
theorem formGo_sum:∀ (l:List Tx) (n p:Nat),(n≤1∨p≤32)→formGo n p l≤1∨p+sumP (l.take (formGo n p l - n))≤32
 | [],n,p,h=>by
  unfold formGo
  rcases h with h | h
  ·exact .inl h
  ·exact .inr (by simpa [sumP] using h)
 | t :: ts,n,p,h=>by
  unfold formGo
  split
  ·rename_i hc
   rw [Nat.sub_self]
   rcases h with h | h
   ·exact .inl h
   ·exact .inr (by simpa [sumP] using h)
  ·rename_i hc
   have hb:=(formGo_bd ts (n+1) (p+t.puts.length) (by omega)).1
   rcases formGo_sum ts (n+1) (p+t.puts.length) (by omega) with h1 | h1
   ·exact .inl h1
   ·refine .inr ?_
    obtain ⟨m,hm⟩:∃ m,formGo (n+1) (p+t.puts.length) ts - n=m+1:=⟨formGo (n+1) (p+t.puts.length) ts - n - 1,by omega⟩
    rw [hm,List.take_succ_cons]
    rw [show formGo (n+1) (p+t.puts.length) ts - (n+1)=m by omega] at h1
    unfold sumP at h1 ⊢
    rw [List.map_cons,List.sum_cons]
    omega
theorem blocksN_take (l:List Tx) (m:Nat):blocksN (l.take m)=1+sumP (l.take m):=by
 unfold blocksN blocksTo sumP
 rw [List.take_length]
theorem form_blocks {l:List Tx} (h16:∀ t∈l,t.puts.length≤16):blocksN (l.take (formN l))≤33:=by
 rw [blocksN_take]
 have h:=formGo_sum l 0 0 (.inl (by omega))
 change formN l≤1∨0+sumP (l.take (formN l - 0))≤32 at h
 rw [Nat.sub_zero,Nat.zero_add] at h
 rcases h with h | h
 ·cases l with
  | nil=>simp [sumP]
  | cons t ts =>
   have ht:=h16 t (by simp)
   have:sumP ((t :: ts).take (formN (t :: ts)))≤t.puts.length:=by
    rcases (show formN (t :: ts)=0∨formN (t :: ts)=1 by omega) with e | e
    ·rw [e];simp [sumP]
    ·rw [e];simp [sumP]
   omega
 ·omega
theorem ordFrom_ok:∀ (l:List Tx) (last:Int),(∀ t∈l,last < t.time∧t.time≤1099511627776∧riseB t.puts=true)→(l.map (·.time)).Pairwise (· < ·)→ordFrom last l=true
 | [],_,_,_=>rfl
 | t :: l,last,h,hp=>by
  obtain ⟨h1,h2,h3⟩:=h t (by simp)
  rw [List.map_cons,List.pairwise_cons] at hp
  have ih:=ordFrom_ok l t.time (fun x hx=>⟨hp.1 _ (List.mem_map_of_mem hx),(h x (by simp [hx])).2⟩) hp.2
  show (decide (last < t.time) && decide (t.time≤1099511627776) && riseB t.puts && ordFrom t.time l)=true
  rw [decide_eq_true h1,decide_eq_true h2,h3,ih];rfl
theorem waitL_mem {s:MgS} {t:Tx} (h:t∈waitL s):∃ x∈s.queue,waitTx s x=t:=List.mem_map.1 h
theorem bat_ok {N:Nat} {s:MgS} (g:MgG N s) (hq:0 < s.queue.length) (num:Int) (n1:1≤num) (n2:num≤1099511627776):BatOk num ((waitL s).take (formN (waitL s))):=by
 have hl:=g.lt
 have hb2:=g.b2
 have hbd:=formN_bd (waitL s)
 have hps:=formN_pos (l:=waitL s) (by rw [waitL_len];exact hq)
 have hin:∀ t∈waitL s,(0 < t.time∧t.time≤1099511627776)∧t.puts.length≤16∧riseB t.puts=true∧∀ p∈t.puts,PutOk p:=fun t ht=>by
  obtain ⟨x,hx,rfl⟩:=waitL_mem ht
  obtain ⟨w1,w2,w3⟩:=sn_wait g hx
  obtain ⟨b1,b3⟩:=g.qb x hx
  obtain ⟨q1,q2⟩:=g.qr x hx
  have htm:(waitTx s x).time=(txAt s.txs x).tm:=rfl
  refine ⟨by rw [htm];omega,?_,sn_rise w1 w3,fun p hp=>?_⟩
  ·show (bufPuts (txAt s.txs x).buf).length≤16
   rw [bufPuts_len]
   exact (g.tx _ (txAt_mem q1 q2)).bl
  ·have:=w2 p hp
   exact ⟨this.1,by omega,this.2.2⟩
 have htk:∀ t∈(waitL s).take (formN (waitL s)),t∈waitL s:=fun t ht=>List.mem_of_mem_take ht
 have hlen:((waitL s).take (formN (waitL s))).length=formN (waitL s):=by rw [List.length_take];omega
 refine ⟨n1,n2,by omega,by omega,ordFrom_ok _ 0 (fun t ht=>⟨(hin t (htk t ht)).1.1,(hin t (htk t ht)).1.2,(hin t (htk t ht)).2.2.1⟩) ?_,form_blocks fun t ht=>(hin t ht).2.1,fun t ht=>⟨by have:=(hin t (htk t ht)).1.1;omega,(hin t (htk t ht)).1.2⟩,fun t ht=>(hin t (htk t ht)).2.1,fun t ht=>(hin t (htk t ht)).2.2.2⟩
 have:((waitL s).map (·.time))=s.queue.map fun h=>(txAt s.txs h).tm:=by
  unfold waitL
  rw [List.map_map];rfl
 rw [List.map_take,this]
 exact g.qt.sublist (List.take_sublist _ _)
end Go.Proofs
namespace Go.Proofs
open Go.RowKit Sc
theorem logz_self {zs:List Nat} (_hz:zs.length=8) (p:Nat) (h6:zs[6]? = some (min 96 p)) (h7:zs[7]? = some (min 96 (p - 96))):logz zs p=zs:=by
 unfold logz
 rw [set_same h6,set_same h7]
def StepsOk (l:List Tx):Prop:=∀ k (h:k+1 < l.length),l[k+1].time - (l[k]'(by omega)).time≤65535
def fEnd (S:MgS) (c:Int):MgS:=doneNext (baNext S) c
section
variable {W w:World} {L:List Asn} {st d m s pos num:Nat}
set_option maxRecDepth 100000 in
set_option maxHeartbeats 4000000 in
theorem stFlush (h:Hid (Sep W L w)) (i is jd jm:Nat) (hi:L[i]? = some (StoreB st d m s pos num)) {inn cnt n:Nat} (his:L[is]? = some (SlotA s d inn cnt n)) {zs:List Nat} (hjd:L[jd]? = some (DevA (pt d) (logz zs pos))) {S:MgS} (hjm:L[jm]? = some (MgrA (pt m) S))
  (h2:i≠jd) (h3:i≠jm) (h4:is≠jm) (h5:jd≠jm) (hz:zs.length=8) (hc:cnt≤1000000) (hpos:pos≤192) (hnum:num≤1000000) {N:Nat} (g:MgG N S) (hN:N≤900000) (hql:S.queue.length≤1000000) :
  Calls Tryz.prog 33 #[pt st] w fun e w' =>
   (baCode S≠0∧e=.returned (.int .i64 (baCode S))∧Hid (Sep W L w')) ∨
   (baCode S=0∧e=.returned (.int .i64 9)∧¬ (StepsOk ((waitL S).take (formN (waitL S)))∧pos+blocksN ((waitL S).take (formN (waitL S)))≤192)∧Hid (Sep W (L.set jm (MgrA (pt m) (fEnd S 9))) w')) ∨
   (baCode S=0∧e=.returned (.int .i64 0)∧pos+blocksN ((waitL S).take (formN (waitL S)))≤192∧Hid (Sep W (((L.set jd (DevA (pt d) (logz zs (pos+blocksN ((waitL S).take (formN (waitL S))))))).set i (StoreB st d m s (pos+blocksN ((waitL S).take (formN (waitL S)))) (num+1))).set jm (MgrA (pt m) (fEnd S 0))) w')):=by
 have hil:=(List.getElem?_eq_some_iff.1 hi).1
 have hisl:=(List.getElem?_eq_some_iff.1 his).1
 have hjl:=(List.getElem?_eq_some_iff.1 hjd).1
 have hml:=(List.getElem?_eq_some_iff.1 hjm).1
 have HDE:=Lib.hid (stDead h.out i hi)
 have HBA:=Lib.hid (mgBatch_sep h jm hjm g hql (by omega))
 have c5:w.cell? ⟨st,5,none⟩=some (pt m):=(cell_row (st_cells h.out i hi) 5).trans rfl
 have HI:=Lib.hid hi
 have HIS:=Lib.hid his
 have HJD:=Lib.hid hjd
 have HJM:=Lib.hid hjm
 have HG:Hid (MgG N S):=g
 have H2:=Lib.hid h2
 have H3:=Lib.hid h3
 have H4:=Lib.hid h4
 have H5:=Lib.hid h5
 have HZ:=Lib.hid hz
 clear hi his hjd hjm g h2 h3 h4 h5 h hz
 go_enter Tryz.func33,Tryz.ntmps33
 go_wp2_with fail
 refine (HDE.out).mono ?_
 rintro e w1 ⟨rfl,rfl⟩
 clear HDE
 go_wp2_with fail
 refine (HBA.out).mono ?_
 rintro e w2 (⟨hb,rfl,hS⟩ | ⟨hb,p,cp,rfl,hS⟩)
 ·have HB:=Lib.hid hb
  obtain ⟨bc,hbc⟩:∃ bc,baCode S=bc:=⟨_,rfl⟩
  rw [hbc] at hb ⊢
  have HBC:=Lib.hid hbc
  clear HBA hbc c5
  go_wp2_with fail
  go_ret
  exact .inl ⟨HB.out,by rw [HBC.out];rfl,Lib.hid (hS.out.up (below_alloc _ _))⟩
 ·have hq:0 < S.queue.length:=by
   unfold baCode at hb
   split at hb
   ·cases hb
   ·split at hb
    ·cases hb
    ·omega
  have HBO:=Lib.hid (bat_ok HG.out hq ((num:Int)+1) (by omega) (by omega))
  have HBC:=Lib.hid hb
  have h8:(baNext S).out≤8:=by
   unfold baNext
   rw [if_pos hb]
   have:=(formN_bd (waitL S)).2
   show ((formN (waitL S):Nat):Int)≤8
   omega
  have hqn:(baNext S).queue.length≤1000000:=by
   unfold baNext
   rw [if_pos hb];exact hql
  have HGB:=Lib.hid HG.out.batches
  have hlen:((waitL S).take (formN (waitL S))).length=formN (waitL S):=by
   rw [List.length_take]
   have:=(formN_bd (waitL S)).1
   omega
  have HH8:=Lib.hid h8
  have HQN:=Lib.hid hqn
  clear hb hq h8 hqn HBA
  have hs3:=hS.out
  rw [List.set_append_left _ _ hml] at hs3
  generalize hF:(waitL S).take (formN (waitL S))=T at *
  have HF:=Lib.hid hF
  clear hF
  obtain ⟨fn,hfn⟩:∃ fn,formN (waitL S)=fn:=⟨_,rfl⟩
  rw [hfn] at hs3 hlen ⊢
  have HS3:=Lib.hid (hs3.up (below_alloc w2 (.cells #[.int .i64 (S.num+1),.slice p fn cp] 112 (0,0))))
  have hnw:=heap_alloc_new w2 (.cells #[.int .i64 (S.num+1),.slice p fn cp] 112 (0,0))
  obtain ⟨wa,hwa⟩:∃ wa,w2.alloc (.cells #[.int .i64 (S.num+1),.slice p fn cp] 112 (0,0))=wa:=⟨_,rfl⟩
  obtain ⟨B,hB⟩:∃ B,w2.heap.size=B:=⟨_,rfl⟩
  rw [hwa] at HS3 hnw
  rw [hB] at hnw
  have b0:wa.cell? ⟨B,0,none⟩=some (.int .i64 (S.num+1)):=by rw [cell_row hnw];rfl
  have b1:wa.cell? ⟨B,1,none⟩=some (.slice p fn cp):=by rw [cell_row hnw];rfl
  have HLN:=Lib.hid hlen
  clear hs3 hnw hS hlen
  have hI1:(L.set jm (MgrA (pt m) (baNext S))++[TxsA (.slice p fn cp) T])[i]? = some (StoreB st d m s pos num):=by
   rw [List.getElem?_append_left (by rw [List.length_set];exact hil),List.getElem?_set_ne (Ne.symm H3.out)];exact HI.out
  have hS1:(L.set jm (MgrA (pt m) (baNext S))++[TxsA (.slice p fn cp) T])[is]? = some (SlotA s d inn cnt n):=by
   rw [List.getElem?_append_left (by rw [List.length_set];exact hisl),List.getElem?_set_ne (Ne.symm H4.out)];exact HIS.out
  have hJ1:(L.set jm (MgrA (pt m) (baNext S))++[TxsA (.slice p fn cp) T])[jd]? = some (DevA (pt d) (logz zs pos)):=by
   rw [List.getElem?_append_left (by rw [List.length_set];exact hjl),List.getElem?_set_ne (Ne.symm H5.out)];exact HJD.out
  have HPU:=Lib.hid (stPut HS3 i is jd hI1 hS1 hJ1 H2.out HZ.out hc hpos hnum (.slice p fn cp) (S.num+1) T (fun G w' hR=>by
   obtain ⟨F,hF,hP⟩:=hR L.length (TxsA (.slice p fn cp) T) (by omega) (by rw [List.getElem?_append_right (by simp),List.length_set,Nat.sub_self];rfl)
   exact Go.Proofs.TxsAt.mono hP hF) HBO.out)
  have c5':wa.cell? ⟨st,5,none⟩=some (pt m):=(cell_row (st_cells HS3.out i hI1) 5).trans rfl
  have HI1:=Lib.hid hI1
  clear hI1 hS1 hJ1 c5
  go_wp2_with fail
  try rw [hwa]
  try rw [hB]
  clear hwa hB
  refine (HPU.out).mono ?_
  rintro e w3 (⟨rfl,hng,hS4⟩ | ⟨rfl,hle,hS4⟩)
  ·have HMD:=Lib.hid (mgDone_sep hS4 jm (by rw [List.getElem?_append_left (by rw [List.length_set];exact hml),List.getElem?_set_self hml]) HGB.out HQN.out hN HH8.out 9)
   have d5:w3.cell? ⟨st,5,none⟩=some (pt m):=(cell_row (st_cells hS4.out i HI1.out) 5).trans rfl
   clear HPU HS3 b0 b1 c5' hS4
   go_wp2_with fail
   refine (HMD.out).mono ?_
   rintro e w5 ⟨rfl,hS5⟩
   have hs6:=hS5.out.take L.length
   rw [List.set_append_left _ _ (by rw [List.length_set];exact hml),List.set_set,List.take_left' (by rw [List.length_set])] at hs6
   have HS6:=Lib.hid hs6
   have HNG:=Lib.hid hng
   clear hs6 hS5 HMD d5 hng
   go_wp2_with fail
   go_ret
   exact .inr (.inl ⟨HBC.out,rfl,by rw [HF.out];exact HNG.out,HS6⟩)
  ·have hne:i≠jm:=H3.out
   have hlist:∀ A B:Asn,(((L.set jm (MgrA (pt m) (baNext S))++[TxsA (.slice p fn cp) T]).set jd A).set i B)=((L.set jd A).set i B).set jm (MgrA (pt m) (baNext S))++[TxsA (.slice p fn cp) T]:=fun A B=>by
    rw [List.set_append_left _ _ (by rw [List.length_set];exact hjl),List.set_append_left _ _ (by rw [List.length_set,List.length_set];exact hil),List.set_comm _ _ (fun e=>H5.out e.symm),List.set_comm _ _ (fun e=>H3.out e.symm)]
   have hs4:=hS4.out
   rw [hlist] at hs4
   have hml2:∀ A B:Asn,jm < ((L.set jd A).set i B).length:=fun A B=>by rw [List.length_set,List.length_set];exact hml
   have HMD:=Lib.hid (mgDone_sep (Lib.hid hs4) jm (by rw [List.getElem?_append_left (by rw [List.length_set];exact hml2 _ _),List.getElem?_set_self (hml2 _ _)]) HGB.out HQN.out hN HH8.out 0)
   have d5:w3.cell? ⟨st,5,none⟩=some (pt m):=(cell_row (st_cells (pos:=pos+blocksN T) (num:=num+1) hs4 i (by
    rw [List.getElem?_append_left (by rw [List.length_set,List.length_set,List.length_set];exact hil),List.getElem?_set_ne (Ne.symm H3.out),List.getElem?_set_self (by rw [List.length_set];exact hil)])) 5).trans rfl
   clear HPU HS3 b0 b1 c5' hS4 hs4 hlist
   go_wp2_with fail
   refine (HMD.out).mono ?_
   rintro e w5 ⟨rfl,hS5⟩
   have hs6:=hS5.out.take L.length
   rw [List.set_append_left _ _ (by rw [List.length_set];exact hml2 _ _),List.set_set,List.take_left' (by rw [List.length_set,List.length_set,List.length_set])] at hs6
   have HS6:=Lib.hid hs6
   have HLE:=Lib.hid hle
   clear hs6 hS5 HMD d5 hle hml2
   go_wp2_with fail
   go_ret
   exact .inr (.inr ⟨HBC.out,rfl,by rw [HF.out];exact HLE.out,by rw [HF.out];exact HS6⟩)
end
end Go.Proofs
namespace Go.Proofs
open Go.RowKit Sc
structure OpS where
 kind:Int
 h:Int
 lba:Int
 len:Int
 puts:List Put
structure BgS where
 h:Int
 fr:Int
 en:Int
structure ClS where
 ops:List OpS
 bs:List Nat
 na:Nat
 asked:Bool
structure SdS where
 cl:List ClS
 bg:List BgS
 ev:Int
structure ClC where
 ov:Value
 bv:Value
 av:Value
 pv:List Value
 bb:List Nat
 ax:List Value
structure SdC where
 cl:List ClC
 av:Value
 bb:List Nat
 ps:List (Value × List Put)
instance:Inhabited OpS:=⟨⟨0,0,0,0,[]⟩⟩
instance:Inhabited BgS:=⟨⟨0,0,0⟩⟩
def opCells (o:OpS) (pv:Value):List Value:=[.int .i64 o.kind,.int .i64 o.h,.int .i64 o.lba,.int .i64 o.len,pv]
def opsX (l:List OpS) (pvs:List Value):List Value:=(List.zipWith opCells l pvs).flatten
def clRow (c:ClC) (s:ClS):List Value:=[c.ov,c.bv,c.av,.bool s.asked]
def sdRow (d st:Nat) (c:SdC) (s:SdS):Array Value:=([pt d,pt st]++(List.zipWith clRow c.cl s.cl).flatten++[c.av,.int .i64 s.ev]).toArray
def bgRow (b:BgS):Array Value:=#[.int .i64 b.h,.int .i64 b.fr,.int .i64 b.en,.int .i64 0,.int .i64 0,.int .i64 0,.int .i64 0,.int .i64 0,.slice none 0 0,.slice none 0 0]
def BegsA (bb:List Nat) (bg:List BgS):Asn:=⟨fun F w=>∀ j (h:j < bg.length),∃ b,bb[j]? = some b∧F b∧w.heap[b]? = some (.cells (bgRow bg[j]) 79 (0,0)),fun F w w' hs _ h j hj=>let ⟨b,h1,h2,h3⟩:=h j hj;⟨b,h1,h2,(hs b h2).trans h3⟩⟩
def PutKA (ps:List (Value × List Put)):Asn:=⟨fun F w=>∀ p∈ps,PutsAt F w p.1 p.2,fun F w w' hs _ h p hp=>(h p hp).same hs⟩
def clItems (c:ClC) (s:ClS):List Asn:=[ORowA 5 c.ov s.ops.length (opsX s.ops c.pv),ORowA 1 c.bv s.bs.length (c.bb.map pt),ORowA 5 c.av s.na c.ax,TrueA]
def sdHead (p d st:Nat) (c:SdC) (s:SdS):List Asn:=[BoxA p (sdRow d st c s) 75,ORowA 1 c.av s.bg.length (c.bb.map pt),BegsA c.bb s.bg,PutKA c.ps]
def clList (c:SdC) (s:SdS):List (List Asn):=List.zipWith clItems c.cl s.cl
def sdItems (p d st:Nat) (c:SdC) (s:SdS):List Asn:=sdHead p d st c s++(clList c s).flatten
structure ClOk (c:SdC) (s:SdS) (k:ClC) (q:ClS):Prop where
 pl:k.pv.length=q.ops.length
 pm:∀ j (h:j < q.ops.length) (h':j < k.pv.length),(k.pv[j],q.ops[j].puts)∈c.ps
 oi:∀ o∈q.ops,I64 o.kind∧I64 o.h∧I64 o.lba∧I64 o.len
 ol:q.ops.length≤200
 bl:k.bb.length=q.bs.length
 bm:∀ j (h:j < q.bs.length),q.bs[j] < s.bg.length∧k.bb[j]? = c.bb[q.bs[j]]?
 bq:q.bs.length≤s.bg.length
structure Sd8 (c:SdC) (s:SdS):Prop where
 c8:c.cl.length=8
 s8:s.cl.length=8
structure SdOk (c:SdC) (s:SdS):Prop extends Sd8 c s where
 bl:c.bb.length=s.bg.length
 nd:c.bb.Nodup
 cl:∀ i (h:i < c.cl.length) (h':i < s.cl.length),ClOk c s c.cl[i] s.cl[i]
 hb:∀ b∈s.bg,1≤b.h
instance {c:SdC} {s:SdS}:Coe (SdOk c s) (Sd8 c s):=⟨SdOk.toSd8⟩
def SchA (p d st:Nat) (s:SdS):Asn:=⟨fun F w=>∃ c:SdC,SdOk c s∧(StarA (sdItems p d st c s)).P F w,fun F w w' hs hz ⟨c,h1,h2⟩=>⟨c,h1,(StarA (sdItems p d st c s)).loc F w w' hs hz h2⟩⟩
section
variable {W w:World} {L:List Asn} {x p d st:Nat} {s:SdS} {c:SdC}
theorem SchA.opened (h:Sep W L w) (hx:L[x]? = some (SchA p d st s)):∃ c,SdOk c s∧Sep W (OL L x (sdItems p d st c s)) w∧x < L.length:=by
 obtain ⟨F,G,⟨c,h1,h2⟩,_,_,_,_,K⟩:=h.at x hx
 have hil:=(List.getElem?_eq_some_iff.1 hx).1
 have h3:=K w F (StarA (sdItems p d st c s)) (Chg.refl _ _) (fun k hk=>.inl hk) h2
 have h4:=h3.openStar x (List.getElem?_set_self hil)
 rw [OL_again] at h4
 exact ⟨c,h1,h4,hil⟩
theorem SchA.closed (h:Sep W (OL L x (sdItems p d st c s)) w) (hx:x < L.length) (hc:SdOk c s):Sep W (L.set x (SchA p d st s)) w:=by
 have h1:=h.closeStar hx
 have h2:=h1.imp x (A:=StarA (sdItems p d st c s)) (A':=SchA p d st s) (List.getElem?_set_self hx) fun F _ hP=>⟨c,hc,hP⟩
 rw [List.set_set] at h2
 exact h2
theorem zip_set2 {α β γ:Type} (f:α→β→γ):∀ (xs:List α) (bs:List β) (k:Nat) (a:α) (b:β),List.zipWith f (xs.set k a) (bs.set k b)=(List.zipWith f xs bs).set k (f a b)
 | [],_,_,_,_=>by simp
 | _ :: _,[],_,_,_=>by simp
 | _ :: xs,_ :: bs,0,_,_=>by simp
 | _ :: xs,_ :: bs,k+1,a,b=>by simp [zip_set2 f xs bs k a b]
theorem flatV_set {l:List (List Value)} (h4:∀ x∈l,x.length=4):∀ {i:Nat} (hi:i < l.length) (j:Nat),j < 4→∀ A:Value,l.flatten.set (i * 4+j) A=(l.set i (l[i].set j A)).flatten:=by
 induction l with
 | nil=>intro i hi;simp at hi
 | cons x t ih =>
  intro i hi j hj A
  have hx:=h4 x (by simp)
  cases i with
  | zero =>
   rw [List.flatten_cons,List.set_append_left _ _ (by omega)]
   simp
  | succ i =>
   rw [List.flatten_cons,List.set_append_right _ _ (by omega),hx,show (i+1) * 4+j - 4=i * 4+j by omega,ih (fun y hy=>h4 y (List.mem_cons_of_mem _ hy)) (by simpa using hi) j hj A]
   simp
theorem clRows_four (c:SdC) (s:SdS):∀ x∈List.zipWith clRow c.cl s.cl,x.length=4:=by
 intro x hx
 obtain ⟨i,hi,rfl⟩:=List.mem_iff_getElem.1 hx
 rw [List.getElem_zipWith];rfl
theorem clList_four (c:SdC) (s:SdS):∀ x∈clList c s,x.length=4:=by
 intro x hx
 unfold clList at hx
 obtain ⟨i,hi,rfl⟩:=List.mem_iff_getElem.1 hx
 rw [List.getElem_zipWith];rfl
theorem clList_len (hc:Sd8 c s):(clList c s).length=8:=by unfold clList;rw [List.length_zipWith,hc.c8,hc.s8];rfl
theorem clRows_len (hc:Sd8 c s):(List.zipWith clRow c.cl s.cl).length=8:=by rw [List.length_zipWith,hc.c8,hc.s8];rfl
theorem flat4_len {α:Type}:∀ {l:List (List α)},(∀ x∈l,x.length=4)→l.flatten.length=4 * l.length
 | [],_=>rfl
 | x :: l,h=>by
  rw [List.flatten_cons,List.length_append,flat4_len (fun y hy=>h y (List.mem_cons_of_mem _ hy)),h x (by simp),List.length_cons];omega
theorem sd_item (hc:Sd8 c s) {i:Nat} (hi:i < 8) (j:Nat) (hj:j < 4):(sdItems p d st c s)[4+(4 * i+j)]? = (clItems (c.cl[i]'(by rw [hc.c8];exact hi)) (s.cl[i]'(by rw [hc.s8];exact hi)))[j]? := by
 unfold sdItems
 rw [List.getElem?_append_right (by show 4≤_;omega),show 4+(4 * i+j) - (sdHead p d st c s).length=4 * i+j by show 4+(4 * i+j) - 4=_;omega,flat4_get (clList_four c s) (by rw [clList_len hc];exact hi) j hj]
 unfold clList
 rw [List.getElem_zipWith]
theorem sd_head (j:Nat) (hj:j < 4):(sdItems p d st c s)[j]? = (sdHead p d st c s)[j]? := by
 unfold sdItems
 rw [List.getElem?_append_left (by show j < 4;exact hj)]
theorem sd_upd (hc:Sd8 c s) {i:Nat} (hi:i < 8) (k:ClC) (q:ClS) (j:Nat) (hj:j < 4) (A:Asn) (hA:clItems k q=(clItems (c.cl[i]'(by rw [hc.c8];exact hi)) (s.cl[i]'(by rw [hc.s8];exact hi))).set j A) :
  ((sdItems p d st c s).set 0 (BoxA p (sdRow d st { c with cl:=c.cl.set i k } { s with cl:=s.cl.set i q }) 75)).set (4+(4 * i+j)) A=sdItems p d st { c with cl:=c.cl.set i k } { s with cl:=s.cl.set i q }:=by
 have h1:clList { c with cl:=c.cl.set i k } { s with cl:=s.cl.set i q }=(clList c s).set i (clItems k q):=zip_set2 clItems c.cl s.cl i k q
 unfold sdItems
 rw [h1,hA]
 have h2:=flat4_set (clList_four c s) (i:=i) (by rw [clList_len hc];exact hi) j hj A
 have h3:(clList c s)[i]'(by rw [clList_len hc];exact hi)=clItems (c.cl[i]'(by rw [hc.c8];exact hi)) (s.cl[i]'(by rw [hc.s8];exact hi)):=List.getElem_zipWith ..
 rw [h3] at h2
 rw [← h2]
 show (_ :: _ :: _ :: _ :: (clList c s).flatten).set (4+(4 * i+j)) A=_
 rw [show 4+(4 * i+j)=4 * i+j+1+1+1+1 by omega]
 rfl
theorem sdRow_get (hc:Sd8 c s) {i:Nat} (hi:i < 8) (j:Nat) (hj:j < 4):(sdRow d st c s)[2+i * 4+j]? = (clRow (c.cl[i]'(by rw [hc.c8];exact hi)) (s.cl[i]'(by rw [hc.s8];exact hi)))[j]? := by
 unfold sdRow
 rw [List.getElem?_toArray,List.getElem?_append_left (by rw [List.length_append,flat4_len (clRows_four c s),clRows_len hc];show _ < 2+4 * 8;omega),List.getElem?_append_right (by show 2≤_;omega),show 2+i * 4+j - [pt d,pt st].length=i * 4+j by show 2+i * 4+j - 2=_;omega,flat_get (k:=4) (clRows_four c s) i (by rw [clRows_len hc];exact hi) j hj,List.getElem_zipWith]
theorem sdRow_set (hc:Sd8 c s) {i:Nat} (hi:i < 8) (j:Nat) (hj:j < 4) (v:Value) (k:ClC) (q:ClS) (hkq:clRow k q=(clRow (c.cl[i]'(by rw [hc.c8];exact hi)) (s.cl[i]'(by rw [hc.s8];exact hi))).set j v) :
  (sdRow d st c s).setIfInBounds (2+i * 4+j) v=sdRow d st { c with cl:=c.cl.set i k } { s with cl:=s.cl.set i q }:=by
 unfold sdRow
 rw [List.setIfInBounds_toArray,List.set_append_left _ _ (by rw [List.length_append,flat4_len (clRows_four c s),clRows_len hc];show _ < 2+4 * 8;omega),List.set_append_right _ _ (by show 2≤_;omega),show 2+i * 4+j - [pt d,pt st].length=i * 4+j by show 2+i * 4+j - 2=_;omega,flatV_set (clRows_four c s) (by rw [clRows_len hc];exact hi) j hj v]
 show ([pt d,pt st]++_++_:List Value).toArray=([pt d,pt st]++(List.zipWith clRow (c.cl.set i k) (s.cl.set i q)).flatten++[c.av,.int .i64 s.ev]).toArray
 rw [zip_set2,hkq,List.getElem_zipWith]
theorem sdRow_all (hc:Sd8 c s):(sdRow d st c s)[34]? = some c.av∧(sdRow d st c s)[35]? = some (.int .i64 s.ev):=by
 have hl:([pt d,pt st]++(List.zipWith clRow c.cl s.cl).flatten).length=34:=by rw [List.length_append,flat4_len (clRows_four c s),clRows_len hc];rfl
 unfold sdRow
 rw [List.getElem?_toArray,List.getElem?_toArray,List.getElem?_append_right (by omega),List.getElem?_append_right (by omega),hl]
 exact ⟨rfl,rfl⟩
theorem sdRow_setAll (hc:Sd8 c s) (v:Value):(sdRow d st c s).setIfInBounds 34 v=sdRow d st { c with av:=v } s:=by
 have hl:([pt d,pt st]++(List.zipWith clRow c.cl s.cl).flatten).length=34:=by rw [List.length_append,flat4_len (clRows_four c s),clRows_len hc];rfl
 unfold sdRow
 rw [List.setIfInBounds_toArray,List.set_append_right _ _ (by omega),hl]
 rfl
theorem sdRow_setEv (hc:Sd8 c s) (e:Int):(sdRow d st c s).setIfInBounds 35 (.int .i64 e)=sdRow d st c { s with ev:=e }:=by
 have hl:([pt d,pt st]++(List.zipWith clRow c.cl s.cl).flatten).length=34:=by rw [List.length_append,flat4_len (clRows_four c s),clRows_len hc];rfl
 unfold sdRow
 rw [List.setIfInBounds_toArray,List.set_append_right _ _ (by omega),hl]
 rfl
theorem sd_box (h:Sep W (OL L x (sdItems p d st c s)) w):w.heap[p]? = some (.cells (sdRow d st c s) 75 (0,0)):=by
 obtain ⟨F,hF,_⟩:=h.get (L.length+0) (A:=BoxA p (sdRow d st c s) 75) (by rw [OL_get,sd_head 0 (by omega)];rfl)
 exact hF.2
theorem sd_cells (h:Sep W (OL L x (sdItems p d st c s)) w):w.cell? ⟨p,0,none⟩=some (pt d)∧w.cell? ⟨p,1,none⟩=some (pt st):=by
 have hb:=sd_box h
 rw [cell_row hb,cell_row hb]
 unfold sdRow
 exact ⟨by rw [List.getElem?_toArray];rfl,by rw [List.getElem?_toArray];rfl⟩
theorem sd_cl (h:Sep W (OL L x (sdItems p d st c s)) w) (hc:Sd8 c s) {i:Nat} (hi:i < 8) (j:Nat) (hj:j < 4):w.cell? ⟨p,2+i * 4+j,none⟩=(clRow (c.cl[i]'(by rw [hc.c8];exact hi)) (s.cl[i]'(by rw [hc.s8];exact hi)))[j]? := by
 rw [cell_row (sd_box h),sdRow_get hc hi j hj]
end
end Go.Proofs
