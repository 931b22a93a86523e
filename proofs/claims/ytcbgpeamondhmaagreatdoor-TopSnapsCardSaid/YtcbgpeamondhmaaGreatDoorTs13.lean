/- Texts of this claim, one behind the other: Sched21, Top3, TopS, TopW1, LayStr, Strs, Shell1, Shell2, Shell3, HistOut, Replay23H, Sched22, TopA, TopSm. -/
import Derived.Shelf.Small.Wraps
import Derived.Shelf.Strings.SplitShaped
import Derived.Shelf.Strings.OnBuilder
import Derived.Shelf.Strings.Cut
import Derived.Shelf.Strconv.Itoa3
import Derived.Ground.NamesProg
import Derived.Test.YtcbgpeamondhmaaGreatDoorChecked
import Derived.Lib.AppendStr
import Derived.Lib.BufStepsIn
import Derived.Maps.AppendAt
import Derived.Test.YtcbgpeamondhmaaGreatDoorTs12
namespace Go.Proofs
open Go.RowKit Sc
set_option maxHeartbeats 1000000 in
theorem sdAddNo (p st:Nat) (w:World) (c1:w.cell? ⟨p,1,none⟩=some (pt st)) (k:Int) (hk:k < 1∨8 < k) (vp:Option Addr) (vn vc:Nat):Calls Tryz.prog 13 #[pt p,.int .i64 k,.slice vp vn vc] w fun e w'=>e=.returned (.int .i64 1)∧w=w':=by
 have HC:=Lib.hid (sdClientNo p st w c1 k hk)
 clear c1 hk
 go_enter Tryz.func13,Tryz.ntmps13
 go_wp2_with fail
 refine (HC.out).mono ?_
 rintro e w1 ⟨rfl,rfl⟩
 go_wp2_with fail
 go_ret
 exact ⟨rfl,rfl⟩
set_option maxHeartbeats 1000000 in
theorem sdStepNo (p st:Nat) (w:World) (c1:w.cell? ⟨p,1,none⟩=some (pt st)) (k:Int) (hk:k < 1∨8 < k):Calls Tryz.prog 15 #[pt p,.int .i64 k] w fun e w'=>(∃ v,e=.returned v)∧Hid (Below w.heap.size w w'):=by
 have hs1:=Go.Proofs.Sep.boxT (Sep.start w) #[.int .i64 0,.int .i64 0,.int .i64 0,.int .i64 0,.slice none 0 0] 54
 have hb:=below_alloc w (.cells #[.int .i64 0,.int .i64 0,.int .i64 0,.int .i64 0,.slice none 0 0] 54 (0,0))
 obtain ⟨wa,hwa⟩:∃ wa,w.alloc (.cells #[.int .i64 0,.int .i64 0,.int .i64 0,.int .i64 0,.slice none 0 0] 54 (0,0))=wa:=⟨_,rfl⟩
 obtain ⟨R,hR⟩:∃ R,w.heap.size=R:=⟨_,rfl⟩
 rw [hwa] at hs1 hb
 rw [hR] at hs1
 have HC:=Lib.hid (sdClientNo p st wa (cell_up hb c1) k hk)
 obtain ⟨⟨y0,y1,y2,y3,y4⟩,⟨f0,f1,f2,f3,f4⟩⟩:=box5 hs1 (i:=1) rfl
 have hs2:=box_fill5 hs1 (i:=1) rfl (.int .i64 0) (.int .i64 0) (.int .i64 0) (.int .i64 0) (.slice none 0 0)
 obtain ⟨F,hF,_⟩:=hs2.get 1 rfl
 have HF:=Lib.hid hF.2
 have HOLD:=Lib.hid hs2.old
 clear c1 hk hs1 hs2 hF hb
 go_enter Tryz.func15,Tryz.ntmps15
 go_wp2_with fail
 try rw [hwa]
 try rw [hR]
 clear hwa hR
 refine (HC.out).mono ?_
 rintro e w1 ⟨rfl,rfl⟩
 go_wp2_with fail
 (try simp only [Exit.inBlock,Exit.then])
 refine ret_cell_two rfl (b:=R) (t:=54) (fr:=(0,0)) rfl (cs:=#[.int .i64 0,.int .i64 0,.int .i64 0,.int .i64 0,.slice none 0 0]) HF.out (Tryz.underlying54) rfl (by kernel_rfl) rfl rfl ⟨⟨_,rfl⟩,HOLD.out⟩
end Go.Proofs
namespace Go.Proofs
open Go.RowKit Sc
set_option maxRecDepth 100000 in
set_option maxHeartbeats 2000000 in
theorem topOne {w:World} {p:Nat} {kd cl n:Int} {op pp tp:Option Addr} {ol oc pl pc tl tc:Nat} {R:World→Prop}
  (hA:∀ wa,Hid (Below w.heap.size w wa)→kd=1→Calls Tryz.prog 13 #[pt p,.int .i64 cl,.slice op ol oc] wa fun e w'=>(∃ v,e=.returned v)∧R w')
  (hS:∀ wa,Hid (Below w.heap.size w wa)→kd=2→Calls Tryz.prog 15 #[pt p,.int .i64 cl] wa fun e w'=>(∃ v,e=.returned v)∧R w')
  (hF:∀ wa,Hid (Below w.heap.size w wa)→kd=3→Calls Tryz.prog 20 #[pt p] wa fun e w'=>(∃ v,e=.returned v)∧R w')
  (hC:∀ wa,Hid (Below w.heap.size w wa)→kd=4→Calls Tryz.prog 21 #[pt p] wa fun e w'=>(∃ v,e=.returned v)∧R w')
  (hK:∀ wa,Hid (Below w.heap.size w wa)→kd=5→Calls Tryz.prog 22 #[pt p] wa fun e w'=>(∃ v,e=.returned v)∧R w')
  (hR:∀ (q:Bool) wa,Hid (Below w.heap.size w wa)→kd=6→Calls Tryz.prog 23 #[pt p,.bool q] wa fun e w'=>e=.returned (.tuple #[])∧R w')
  (hN:∀ wa,Hid (Below w.heap.size w wa)→(kd < 1∨6 < kd)→R wa) :
  Calls Tryz.prog 7 #[pt p,.agg #[.int .i64 kd,.int .i64 cl,.slice op ol oc,.int .i64 n,.slice pp pl pc,.slice tp tl tc]] w fun e w'=>e=.returned (.tuple #[])∧R w':=by
 have hb:=below_alloc w (.cells #[.int .i64 kd,.int .i64 cl,.slice op ol oc,.int .i64 n,.slice pp pl pc,.slice tp tl tc] 32 (0,0))
 have hg:=heap_alloc_new w (.cells #[.int .i64 kd,.int .i64 cl,.slice op ol oc,.int .i64 n,.slice pp pl pc,.slice tp tl tc] 32 (0,0))
 obtain ⟨wa,hwa⟩:∃ wa,w.alloc (.cells #[.int .i64 kd,.int .i64 cl,.slice op ol oc,.int .i64 n,.slice pp pl pc,.slice tp tl tc] 32 (0,0))=wa:=⟨_,rfl⟩
 obtain ⟨B,hB⟩:∃ B,w.heap.size=B:=⟨_,rfl⟩
 rw [hwa] at hb hg
 rw [hB] at hg
 have c0:wa.cell? ⟨B,0,none⟩=some (.int .i64 kd):=by rw [cell_row hg];rfl
 have c1:wa.cell? ⟨B,1,none⟩=some (.int .i64 cl):=by rw [cell_row hg];rfl
 have c2:wa.cell? ⟨B,2,none⟩=some (.slice op ol oc):=by rw [cell_row hg];rfl
 have HA:=Lib.hid (hA wa hb)
 have HS:=Lib.hid (hS wa hb)
 have HF:=Lib.hid (hF wa hb)
 have HC:=Lib.hid (hC wa hb)
 have HK:=Lib.hid (hK wa hb)
 have HR:=Lib.hid (fun q=>hR q wa hb)
 have HN:=Lib.hid (hN wa hb)
 clear hA hS hF hC hK hR hN hb hg
 go_enter Tryz.func7,Tryz.ntmps7
 go_upto_region 1 with fail
 try rw [hwa]
 try rw [hB]
 clear hwa hB
 by_cases k1:kd=1
 ·subst k1
  go_wp2_with fail
  refine (HA.out (by trivial)).mono ?_
  rintro e w1 ⟨⟨v,rfl⟩,hr⟩
  have HRR:=Lib.hid hr
  clear hr
  go_wp2_with fail
  first
   | exact ⟨rfl,HRR.out⟩
   | (go_end0;exact ⟨rfl,HRR.out⟩)
 by_cases k2:kd=2
 ·subst k2
  go_wp2_with fail
  refine (HS.out (by trivial)).mono ?_
  rintro e w1 ⟨⟨v,rfl⟩,hr⟩
  have HRR:=Lib.hid hr
  clear hr
  go_wp2_with fail
  first
   | exact ⟨rfl,HRR.out⟩
   | (go_end0;exact ⟨rfl,HRR.out⟩)
 by_cases k3:kd=3
 ·subst k3
  go_wp2_with fail
  refine (HF.out (by trivial)).mono ?_
  rintro e w1 ⟨⟨v,rfl⟩,hr⟩
  have HRR:=Lib.hid hr
  clear hr
  go_wp2_with fail
  first
   | exact ⟨rfl,HRR.out⟩
   | (go_end0;exact ⟨rfl,HRR.out⟩)
 by_cases k4:kd=4
 ·subst k4
  go_wp2_with fail
  refine (HC.out (by trivial)).mono ?_
  rintro e w1 ⟨⟨v,rfl⟩,hr⟩
  have HRR:=Lib.hid hr
  clear hr
  go_wp2_with fail
  first
   | exact ⟨rfl,HRR.out⟩
   | (go_end0;exact ⟨rfl,HRR.out⟩)
 by_cases k5:kd=5
 ·subst k5
  go_wp2_with fail
  refine (HK.out (by trivial)).mono ?_
  rintro e w1 ⟨⟨v,rfl⟩,hr⟩
  have HRR:=Lib.hid hr
  clear hr
  go_wp2_with fail
  first
   | exact ⟨rfl,HRR.out⟩
   | (go_end0;exact ⟨rfl,HRR.out⟩)
 by_cases k6:kd=6
 ·subst k6
  go_wp2_with fail
  refine (HR.out _ (by trivial)).mono ?_
  rintro e w1 ⟨rfl,hr⟩
  have HRR:=Lib.hid hr
  clear hr
  go_wp2_with fail
  first
   | exact ⟨rfl,HRR.out⟩
   | (go_end0;exact ⟨rfl,HRR.out⟩)
 have HRR:=Lib.hid (HN.out (by omega))
 go_wp2_with fail
 first
  | exact ⟨rfl,HRR.out⟩
  | (go_end0;exact ⟨rfl,HRR.out⟩)
end Go.Proofs
namespace Go.Proofs
open Go.RowKit Sc
structure StepT where
 kind:Int
 cl:Int
 ops:List OpS
 n:Int
 picks:List Int
 torn:List Int
def stepTE (G:Nat→Prop):Elem StepT:=fun w b o x=>(w.cell? ⟨b,o,none⟩=some (.int .i64 x.kind)∧I64 x.kind∧w.cell? ⟨b,o+1,none⟩=some (.int .i64 x.cl)∧I64 x.cl)∧(∃ v,w.cell? ⟨b,o+2,none⟩=some v∧OpsAt G w v x.ops)∧(w.cell? ⟨b,o+3,none⟩=some (.int .i64 x.n)∧I64 x.n)∧(∃ v,w.cell? ⟨b,o+4,none⟩=some v∧IntsAt G w v x.picks)∧∃ v,w.cell? ⟨b,o+5,none⟩=some v∧IntsAt G w v x.torn
def StepsT (G:Nat→Prop):World→Value→List StepT→Prop:=SlAt G 6 (stepTE G)
theorem OpsAt.up {G:Nat→Prop} {w w':World} {v:Value} {l:List OpS} (h:OpsAt G w v l) (hb:Below w.heap.size w w'):OpsAt G w' v l :=
 SlAt.up h (fun _ _ _ ⟨h1,h2,h3,h4,h5,u,h6,h7⟩=>⟨cell_up hb h1,cell_up hb h2,cell_up hb h3,cell_up hb h4,h5,u,cell_up hb h6,h7.up hb⟩)
theorem OpsAt.mono {G G':Nat→Prop} {w:World} {v:Value} {l:List OpS} (h:OpsAt G w v l) (hg:∀ b,G b→G' b):OpsAt G' w v l :=
 SlAt.mono h hg (fun _ _ _ ⟨h1,h2,h3,h4,h5,u,h6,h7⟩=>⟨h1,h2,h3,h4,h5,u,h6,h7.mono hg⟩)
theorem OpsAt.shape {G:Nat→Prop} {w:World} {v:Value} {l:List OpS} (h:OpsAt G w v l):∃ p c,v=.slice p l.length c∧l.length≤9223372036854775807:=by
 obtain ⟨p,c,e,h1,h2,_⟩:=h
 exact ⟨p,c,e,by omega⟩
theorem ints_shape {G:Nat→Prop} {w:World} {v:Value} {l:List Int} (h:IntsAt G w v l):∃ p c,v=.slice p l.length c∧l.length≤9223372036854775807:=by
 obtain ⟨p,c,e,h1,h2,_⟩:=h
 exact ⟨p,c,e,by omega⟩
def osz (l:List OpS):Nat:=(l.map fun o=>psz o.puts).sum
def tsz1 (x:StepT):Nat:=x.ops.length+x.picks.length+x.torn.length+3+osz x.ops
def tszT (l:List StepT):Nat:=(l.map tsz1).sum
theorem sumTo_low:∀ (l:List Int) (n:Int),0≤n→n≤1099511627776→(∀ x∈l,0≤x)→0≤sumTo n l∧sumTo n l≤1099511627776∧n≤sumTo n l∧(sumTo n l < 1099511627776→sumTo n l=n+l.sum)
 | [],n,h1,h2,_=>⟨h1,h2,Int.le_refl _,fun _=>by show n=n+0;omega⟩
 | x :: r,n,h1,h2,hx=>by
  have h0:=hx x (List.mem_cons_self ..)
  unfold sumTo
  split
  ·exact ⟨by omega,by omega,by omega,fun h=>by omega⟩
  ·obtain ⟨a1,a2,a3,a4⟩:=sumTo_low r (n+x) (by omega) (by omega) fun y hy=>hx y (List.mem_cons_of_mem _ hy)
   refine ⟨a1,a2,by omega,fun h=>?_⟩
   rw [a4 h,List.sum_cons];omega
theorem psz_le {o:OpS} {l:List OpS} (h:o∈l):psz o.puts≤osz l:=by
 unfold osz
 induction l with
 | nil=>cases h
 | cons a t ih =>
  rw [List.map_cons,List.sum_cons]
  rcases List.mem_cons.1 h with rfl | h
  ·omega
  ·have:=ih h;omega
theorem tsz1_le {x:StepT} {l:List StepT} (h:x∈l):tsz1 x≤tszT l:=by
 unfold tszT
 induction l with
 | nil=>cases h
 | cons a t ih =>
  rw [List.map_cons,List.sum_cons]
  rcases List.mem_cons.1 h with rfl | h
  ·omega
  ·have:=ih h;omega
theorem dsz_le {p:Put} {l:List Put} (h:p∈l):p.data.length≤psz l:=by
 unfold psz
 have:p.data.length≤(l.map fun p=>p.data.length).sum:=by
  induction l with
  | nil=>cases h
  | cons a t ih =>
   rw [List.map_cons,List.sum_cons]
   rcases List.mem_cons.1 h with rfl | h
   ·omega
   ·have:=ih h;omega
 omega
theorem small_ops {l:List StepT} (h:tszT l≤20000) {x:StepT} (hx:x∈l):∀ o∈x.ops,o.puts.length≤100000∧∀ q∈o.puts,q.data.length≤1000000:=fun o ho=>by
 have h1:=tsz1_le hx
 have h2:=psz_le ho
 unfold tsz1 at h1
 refine ⟨?_,fun q hq=>?_⟩
 ·have:o.puts.length≤psz o.puts:=by unfold psz;omega
  omega
 ·have:=dsz_le hq
  omega
end Go.Proofs
namespace Go.Proofs
open Go.RowKit Sc
structure QS where
 zs:List Nat
 pos:Nat
 num:Nat
 inn:Nat
 cnt:Nat
 n:Nat
structure TopK (N B:Nat) (Q:QS) (s:SdS) (S:MgS):Prop where
 b:BothI N B s S
 z8:Q.zs.length=8
 p192:Q.pos≤192
 i1:Q.inn≤1
 cn:Q.cnt≤B
 nm:Q.num≤B
 nt:S.txs.length≤B
def topL (W:World) (p d st m sl:Nat) (Q:QS) (s:SdS) (S:MgS):List Asn:=[OldA W,DevA (pt d) (logz Q.zs Q.pos),StoreB st d m sl Q.pos Q.num,SlotA sl d Q.inn Q.cnt Q.n,MgrA (pt m) S,SchA p d st s]
theorem TopK.mono {N M A B:Nat} {Q:QS} {s:SdS} {S:MgS} (h:TopK N A Q s S) (h1:N≤M) (h2:A≤B):TopK M B Q s S:=⟨h.b.mono h1 h2,h.z8,h.p192,h.i1,by have:=h.cn;omega,by have:=h.nm;omega,by have:=h.nt;omega⟩
def TopR (W:World) (p d st m sl N B:Nat) (w':World):Prop:=∃ Q s S,Hid (TopK N B Q s S)∧Hid (Sep W (topL W p d st m sl Q s S) w')
theorem TopR.mono {W w':World} {p d st m sl N M A B:Nat} (h:TopR W p d st m sl N A w') (h1:N≤M) (h2:A≤B):TopR W p d st m sl M B w':=let ⟨Q,s,S,a,b⟩:=h;⟨Q,s,S,a.out.mono h1 h2,b⟩
theorem TopR.of {W w':World} {p d st m sl N B:Nat} {Q:QS} {s:SdS} {S:MgS} (h:TopK N B Q s S) (h2:Sep W (topL W p d st m sl Q s S) w'):TopR W p d st m sl N B w':=⟨Q,s,S,h,h2⟩
section
variable {W w:World} {p d st m sl N B:Nat} {Q:QS} {s:SdS} {S:MgS}
theorem topCp1 (h:Hid (Sep W (topL W p d st m sl Q s S) w)) (hk:TopK N B Q s S) (hN:N≤1000000) (hB:B≤1000000) :
  Calls Tryz.prog 40 #[pt st] w fun e w'=>e=.returned (.int .i64 0)∧∃ Q',Hid (TopK N (B+1) Q' s S)∧Hid (Sep W (topL W p d st m sl Q' s S) w'):=by
 refine (stCheckpoint h 2 3 1 4 rfl rfl rfl rfl (by decide) (by decide) (by decide) hk.i1 (by unfold logz;rw [List.length_set,List.length_set];exact hk.z8) (by have:=hk.cn;omega) hk.b.v.g hN hk.b.v.dump).mono ?_
 rintro e w' ⟨rfl,zs2,n2,h8,h6,h7,hS⟩
 refine ⟨rfl,⟨zs2,0,0,1 - Q.inn,Q.cnt+1,n2⟩,⟨hk.b.mono (Nat.le_refl _) (by omega),h8,Nat.zero_le _,by show 1 - Q.inn≤1;omega,by show Q.cnt+1≤B+1;have:=hk.cn;omega,Nat.zero_le _,by have:=hk.nt;omega⟩,?_⟩
 have e:logz zs2 0=zs2:=logz_self h8 0 h6 h7
 show Sep W [OldA W,DevA (pt d) (logz zs2 0),StoreB st d m sl 0 0,SlotA sl d (1 - Q.inn) (Q.cnt+1) n2,MgrA (pt m) S,SchA p d st s] w'
 rw [e]
 exact hS.out
theorem topCp (h:Hid (Sep W (topL W p d st m sl Q s S) w)) (hk:TopK N B Q s S) (hN:N≤1000000) (hB:B≤900000) :
  Calls Tryz.prog 21 #[pt p] w fun e w'=>(∃ k,e=.returned (.int .i64 k))∧TopR W p d st m sl N (B+1) w':=by
 refine (sdCheckpoint h (x:=5) rfl (by have:=hk.b.d.ev;omega) (R:=fun e w'=>e=.returned (.int .i64 0)∧TopR W p d st m sl N (B+1) w') (fun w1 h1=>?_) (fun e w' hr=>⟨_,hr.1⟩)).mono (fun e w' hr=>⟨⟨_,hr.1⟩,hr.2⟩)
 have h1':Hid (Sep W (topL W p d st m sl Q (evUp s) S) w1):=h1
 have hku:TopK N (B+1) Q (evUp s) S:=⟨hk.b.up,hk.z8,hk.p192,hk.i1,by have:=hk.cn;omega,by have:=hk.nm;omega,by have:=hk.nt;omega⟩
 have hkc:TopK N B Q s S:=hk
 refine (stCheckpoint h1' 2 3 1 4 rfl rfl rfl rfl (by decide) (by decide) (by decide) hk.i1 (by unfold logz;rw [List.length_set,List.length_set];exact hk.z8) (by have:=hk.cn;omega) hk.b.v.g hN hk.b.v.dump).mono ?_
 rintro e w' ⟨rfl,zs2,n2,h8,h6,h7,hS⟩
 refine ⟨rfl,⟨zs2,0,0,1 - Q.inn,Q.cnt+1,n2⟩,evUp s,S,⟨hku.b,h8,Nat.zero_le _,by show 1 - Q.inn≤1;omega,by show Q.cnt+1≤B+1;have:=hk.cn;omega,Nat.zero_le _,by have:=hk.nt;omega⟩,?_⟩
 have e:logz zs2 0=zs2:=logz_self h8 0 h6 h7
 show Sep W [OldA W,DevA (pt d) (logz zs2 0),StoreB st d m sl 0 0,SlotA sl d (1 - Q.inn) (Q.cnt+1) n2,MgrA (pt m) S,SchA p d st (evUp s)] w'
 rw [e]
 exact hS.out
theorem topFl (h:Hid (Sep W (topL W p d st m sl Q s S) w)) (hk:TopK N B Q s S) (hN:N≤900000) (hB:B≤900000) :
  Calls Tryz.prog 16 #[pt p] w fun e w'=>∃ k,e=.returned (.int .i64 k)∧(TopR W p d st m sl (N+128) (B+1) w'∧(baCode S=0∧Q.pos+blocksN ((waitL S).take (formN (waitL S)))≤192∧StepsOk ((waitL S).take (formN (waitL S)))→k=0∧Hid (Sep W (topL W p d st m sl { Q with pos:=Q.pos+blocksN ((waitL S).take (formN (waitL S))),num:=Q.num+1 } (evUp s) (fEnd S 0)) w'))):=by
 refine sdFlush h (x:=5) rfl (by have:=hk.b.d.ev;omega) (fun w1 h1=>?_) (fun e w' ⟨k,hr,_⟩=>⟨_,hr⟩)
 have h1':Hid (Sep W (topL W p d st m sl Q (evUp s) S) w1):=h1
 have hku:TopK N (B+1) Q (evUp s) S:=⟨hk.b.up,hk.z8,hk.p192,hk.i1,by have:=hk.cn;omega,by have:=hk.nm;omega,by have:=hk.nt;omega⟩
 have hql:=hk.b.v.g.qlen16
 refine (stFlush h1' 2 3 1 4 rfl rfl (zs:=Q.zs) rfl rfl (by decide) (by decide) (by decide) (by decide) hk.z8 (by have:=hk.cn;omega) hk.p192 (by have:=hk.nm;omega) hk.b.v.g hN (by omega)).mono ?_
 rintro e w' (⟨hb,rfl,hS⟩ | ⟨hb,rfl,hno,hS⟩ | ⟨hb,rfl,hp,hS⟩)
 ·refine ⟨_,rfl,TopR.of (hku.mono (by omega) (Nat.le_refl _)) hS.out,fun hh=>absurd hh.1 hb⟩
 ·have hf:=hk.b.v.flush 9
  refine ⟨_,rfl,TopR.of (Q:=Q) (s:=evUp s) (S:=fEnd S 9) ⟨hku.b.to hf,hk.z8,hk.p192,hk.i1,hku.cn,hku.nm,by rw [hf.2];exact hku.nt⟩ hS.out,fun hh=>absurd ⟨hh.2.2,hh.2.1⟩ hno⟩
 ·have hf:=hk.b.v.flush 0
  refine ⟨_,rfl,TopR.of (Q:={ Q with pos:=Q.pos+blocksN ((waitL S).take (formN (waitL S))),num:=Q.num+1 }) (s:=evUp s) (S:=fEnd S 0) ⟨hku.b.to hf,hk.z8,hp,hk.i1,hku.cn,by show Q.num+1≤B+1;have:=hk.nm;omega,by rw [hf.2];exact hku.nt⟩ hS.out,fun _=>⟨rfl,hS⟩⟩
theorem topStep (h:Hid (Sep W (topL W p d st m sl Q s S) w)) (hk:TopK N B Q s S) (hN:N≤90000) (hB:B≤90000) {kd cl n:Int} {op pp tp:Option Addr} {oc pl pc tl tc:Nat} {ops:List OpS}
  (ho:OpsAt (Old W) W (.slice op ops.length oc) ops) (hsm:∀ o∈ops,o.puts.length≤100000∧∀ q∈o.puts,q.data.length≤1000000) :
  Calls Tryz.prog 7 #[pt p,.agg #[.int .i64 kd,.int .i64 cl,.slice op ops.length oc,.int .i64 n,.slice pp pl pc,.slice tp tl tc]] w fun e w'=>e=.returned (.tuple #[])∧TopR W p d st m sl (N+128) (B+2) w':=by
 have hcell:∀ wa,Sep W (topL W p d st m sl Q s S) wa→wa.cell? ⟨p,1,none⟩=some (pt st):=fun wa hs=>by
  obtain ⟨c,hc,hS,_⟩:=SchA.opened hs (x:=5) rfl
  have hs0:Sep W (OL (topL W p d st m sl Q s S) 5 (sdItems p d st c s++[])) wa:=by rw [List.append_nil];exact hS
  exact (sdT_cells hs0).2
 have hbg:s.bg.length≤100000:=by
  have h1:=hk.b.d.bl
  have h2:=hk.b.v.g.hn
  omega
 refine topOne (R:=TopR W p d st m sl (N+128) (B+2)) (fun wa hb hkd=>?_) (fun wa hb hkd=>?_) (fun wa hb hkd=>?_) (fun wa hb hkd=>?_) (fun wa hb hkd=>?_) (fun q wa hb hkd=>?_) (fun wa hb hkd=>?_)
 ·have hs:=Lib.hid (h.out.up hb.out)
  by_cases hc:1≤cl∧cl≤8
  ·obtain ⟨i,rfl⟩:∃ i:Nat,cl=(i:Int)+1:=⟨(cl - 1).toNat,by omega⟩
   have hi:i < 8:=by omega
   refine (sdAdd hs (x:=5) rfl i hi _ ops (fun G w' hR=>?_) hsm).mono ?_
   ·obtain ⟨F0,hF0,hO⟩:=hR 0 _ (by decide) rfl
    exact (ho.same hO.2).mono fun q hq=>hF0 q (hO.1 q hq)
   ·rintro e w' (⟨_,rfl,hS⟩ | ⟨_,rfl,hS⟩)
    ·exact ⟨⟨_,rfl⟩,TopR.of (hk.mono (by omega) (by omega)) hS.out⟩
    ·exact ⟨⟨_,rfl⟩,TopR.of (Q:=Q) (s:=addOps s i ops) (S:=S) (TopK.mono (N:=N) (A:=B) ⟨hk.b.add hi hsm,hk.z8,hk.p192,hk.i1,hk.cn,hk.nm,hk.nt⟩ (by omega) (by omega)) hS.out⟩
  ·refine (sdAddNo p st wa (hcell wa hs.out) cl (by omega) _ _ _).mono ?_
   rintro e w' ⟨rfl,rfl⟩
   exact ⟨⟨_,rfl⟩,TopR.of (hk.mono (by omega) (by omega)) hs.out⟩
 ·have hs:=Lib.hid (h.out.up hb.out)
  by_cases hc:1≤cl∧cl≤8
  ·obtain ⟨i,rfl⟩:∃ i:Nat,cl=(i:Int)+1:=⟨(cl - 1).toNat,by omega⟩
   have hi:i < 8:=by omega
   have hcg:=hk.b.d.at hi
   refine (sdStep hs (x:=5) rfl (ist:=2) (jm:=4) rfl rfl (by decide) (by decide) (by decide) hk.b.v.g (by omega) (by have:=hk.b.v.g.qlen16;omega) i hi hbg (by have:=hk.b.d.ev;omega) (by have:=hcg.1;omega) (fun o ho'=>by have:=(hcg.2 o ho').1;omega)).mono ?_
   rintro e w' ⟨b0,b1,b2,b3,dp,dn,dc,cd,_,rfl,hS⟩
   have hb2:=hk.b.step (by omega) hi
   exact ⟨⟨_,rfl⟩,TopR.of (Q:=Q) (s:=(stepSd s S i).1) (S:=(stepSd s S i).2.1) (TopK.mono (N:=N+16) (A:=B+2) ⟨hb2,hk.z8,hk.p192,hk.i1,by have:=hk.cn;omega,by have:=hk.nm;omega,by have h1:=hk.b.step_len (by omega) i;have h2:=hk.nt;omega⟩ (by omega) (Nat.le_refl _)) hS.out⟩
  ·refine (sdStepNo p st wa (hcell wa hs.out) cl (by omega)).mono ?_
   rintro e w' ⟨hv,hb2⟩
   exact ⟨hv,TopR.of (hk.mono (by omega) (by omega)) (hs.out.up hb2.out)⟩
 ·have hs:=Lib.hid (h.out.up hb.out)
  refine topFlush (R1:=fun _ w'=>TopR W p d st m sl (N+128) (B+1) w') ((topFl hs hk (by omega) (by omega)).mono fun e w' ⟨k,h1,h2,_⟩=>⟨k,h1,h2⟩) (fun w' hr=>?_) (fun k w' _ hr=>⟨⟨_,rfl⟩,hr.mono (Nat.le_refl _) (by omega)⟩)
  obtain ⟨Q',s',S',hk',hS'⟩:=hr
  refine (topCp hS' hk'.out (by omega) (by omega)).mono ?_
  rintro e w2 ⟨h1,h2⟩
  exact ⟨h1,⟨_,rfl⟩,h2⟩
 ·have hs:=Lib.hid (h.out.up hb.out)
  refine (topCp hs hk (by omega) (by omega)).mono ?_
  rintro e w2 ⟨⟨k,rfl⟩,h2⟩
  exact ⟨⟨_,rfl⟩,h2.mono (by omega) (by omega)⟩
 ·have hs:=Lib.hid (h.out.up hb.out)
  refine (sdClean hs (x:=5) rfl (by have:=hk.b.d.ev;omega) (R:=fun e w'=>(∃ v,e=.returned v)∧TopR W p d st m sl (N+128) (B+2) w') (fun w1 h1=>?_) (fun e w' hr=>hr.1)).mono (fun e w' hr=>hr)
  have h1':Hid (Sep W (topL W p d st m sl Q (evUp s) S) w1):=h1
  refine stClean h1'.out 2 rfl ((mgPrune_sep h1' 4 rfl hk.b.v.g (by omega)).mono fun e w' ⟨e1,hS⟩=>⟨⟨_,e1⟩,?_⟩) (fun e w' hr=>hr.1)
  exact TopR.of (Q:=Q) (s:=evUp s) (S:=prNext S) (TopK.mono (N:=N) (A:=B+1) ⟨hk.b.up.to hk.b.v.prunes,hk.z8,hk.p192,hk.i1,by have:=hk.cn;omega,by have:=hk.nm;omega,by rw [hk.b.v.prunes.2];have:=hk.nt;omega⟩ (by omega) (by omega)) hS.out
 ·have hs:=Lib.hid (h.out.up hb.out)
  refine sdReadOnly hs (x:=5) rfl q (stReadOnly hs.out 2 rfl (.bool q) ((mgReadOnly_sep hs 4 rfl q).mono fun e w' ⟨e1,hS⟩=>⟨e1,?_⟩) (fun e w' hr=>hr.1)) (fun e w' hr=>hr.1)
  exact TopR.of (Q:=Q) (s:=s) (S:={ S with ro:=q }) (TopK.mono (N:=N) (A:=B) ⟨⟨hk.b.v.ro q,hk.b.d⟩,hk.z8,hk.p192,hk.i1,hk.cn,hk.nm,hk.nt⟩ (by omega) (by omega)) hS.out
 ·exact TopR.of (hk.mono (by omega) (by omega)) (h.out.up hb.out)
end
end Go.Proofs
/-
 DERIVED: THE SHELF's CONTRACTS AT THIS DUMP, IN PLAIN WORDS (tools/lay-plain.mjs out of 'TmpShelf.lean', which tools/lay-shelf.mjs wrote): THE SAME DECLARATIONS UNDER THE SAME NAMES: 'import', 'namespace', 'open', 'def', 'theorem' AND NOTHING ELSE: no command of the shelf's: FOR A HAND-IN. Each laying: the table of numbers ('.._ren') and one theorem, a field a fact of the dump's own or the kernel's comparison; each contract: ONE APPLICATION.
-/
namespace Go.Proofs
open Go.Shelf
def Tryz.strCount_ren:Go.Shelf.Ren:=⟨fun | 138=>34 | 195=>56 | 218=>57 | 143=>58 | 219=>107 | 217=>169 | 225=>170 | 224=>171 | 267=>172 | 266=>232 | 314=>233 | n=>n,fun | 9=>9 | 3=>3 | 4=>4 | 5=>5 | 0=>0 | 46=>258 | 146=>313 | 51=>229 | n=>n,fun | 1=>0 | n=>n⟩
theorem Tryz.strCount:Go.Proofs.Lays.n138 Tryz.prog Tryz.strCount_ren:={
 mixed:=by kernel_rfl
 f138:=Tryz.func34.trans (congrArg some (by kernel_rfl))
 f143:=Tryz.func58.trans (congrArg some (by kernel_rfl))
 f195:=Tryz.func56.trans (congrArg some (by kernel_rfl))
 f217:=Tryz.func169.trans (congrArg some (by kernel_rfl))
 f218:=Tryz.func57.trans (congrArg some (by kernel_rfl))
 f219:=Tryz.func107.trans (congrArg some (by kernel_rfl))
 f224:=Tryz.func171.trans (congrArg some (by kernel_rfl))
 f225:=Tryz.func170.trans (congrArg some (by kernel_rfl))
 f266:=Tryz.func232.trans (congrArg some (by kernel_rfl))
 f267:=Tryz.func172.trans (congrArg some (by kernel_rfl))
 f314:=Tryz.func233.trans (congrArg some (by kernel_rfl))
 t0:=Tryz.underlying0
 a0:=Tryz.isAgg0
 z0:=Tryz.sizeOf0
 v0:=Tryz.zeroValue0
 t3:=Tryz.underlying3
 a3:=Tryz.isAgg3
 z3:=Tryz.sizeOf3
 v3:=Tryz.zeroValue3
 t4:=Tryz.underlying4
 a4:=Tryz.isAgg4
 z4:=Tryz.sizeOf4
 v4:=Tryz.zeroValue4
 t5:=Tryz.underlying5
 a5:=Tryz.isAgg5
 z5:=Tryz.sizeOf5
 v5:=Tryz.zeroValue5
 t9:=Tryz.underlying9
 a9:=Tryz.isAgg9
 z9:=Tryz.sizeOf9
 v9:=Tryz.zeroValue9
 t46:=Tryz.underlying258
 a46:=Tryz.isAgg258
 z46:=Tryz.sizeOf258
 v46:=Tryz.zeroValue258
 t51:=Tryz.underlying229
 a51:=Tryz.isAgg229
 z51:=Tryz.sizeOf229
 v51:=Tryz.zeroValue229
 t146:=Tryz.underlying313
 a146:=Tryz.isAgg313
 z146:=Tryz.sizeOf313
 v146:=Tryz.zeroValue313
 g1:=by kernel_rfl }
def Tryz.strCut_ren:Go.Shelf.Ren:=⟨fun | 145=>35 | 220=>59 | 219=>107 | 217=>169 | 225=>170 | 224=>171 | 267=>172 | 266=>232 | 314=>233 | n=>n,fun | 9=>9 | 4=>4 | 59=>93 | 3=>3 | 5=>5 | 46=>258 | 146=>313 | 51=>229 | n=>n,fun | 1=>0 | n=>n⟩
theorem Tryz.strCut:Go.Proofs.Lays.n145 Tryz.prog Tryz.strCut_ren:={
 mixed:=by kernel_rfl
 f145:=Tryz.func35.trans (congrArg some (by kernel_rfl))
 f217:=Tryz.func169.trans (congrArg some (by kernel_rfl))
 f219:=Tryz.func107.trans (congrArg some (by kernel_rfl))
 f220:=Tryz.func59.trans (congrArg some (by kernel_rfl))
 f224:=Tryz.func171.trans (congrArg some (by kernel_rfl))
 f225:=Tryz.func170.trans (congrArg some (by kernel_rfl))
 f266:=Tryz.func232.trans (congrArg some (by kernel_rfl))
 f267:=Tryz.func172.trans (congrArg some (by kernel_rfl))
 f314:=Tryz.func233.trans (congrArg some (by kernel_rfl))
 t3:=Tryz.underlying3
 a3:=Tryz.isAgg3
 z3:=Tryz.sizeOf3
 v3:=Tryz.zeroValue3
 t4:=Tryz.underlying4
 a4:=Tryz.isAgg4
 z4:=Tryz.sizeOf4
 v4:=Tryz.zeroValue4
 t5:=Tryz.underlying5
 a5:=Tryz.isAgg5
 z5:=Tryz.sizeOf5
 v5:=Tryz.zeroValue5
 t9:=Tryz.underlying9
 a9:=Tryz.isAgg9
 z9:=Tryz.sizeOf9
 v9:=Tryz.zeroValue9
 t46:=Tryz.underlying258
 a46:=Tryz.isAgg258
 z46:=Tryz.sizeOf258
 v46:=Tryz.zeroValue258
 t51:=Tryz.underlying229
 a51:=Tryz.isAgg229
 z51:=Tryz.sizeOf229
 v51:=Tryz.zeroValue229
 t59:=Tryz.underlying93
 a59:=Tryz.isAgg93
 z59:=Tryz.sizeOf93
 v59:=Tryz.zeroValue93
 t146:=Tryz.underlying313
 a146:=Tryz.isAgg313
 z146:=Tryz.sizeOf313
 v146:=Tryz.zeroValue313
 g1:=by kernel_rfl }
def Tryz.strCutPrefix_ren:Go.Shelf.Ren:=⟨fun | 103=>60 | 210=>108 | 206=>173 | n=>n,fun | 9=>9 | 4=>4 | 24=>124 | 3=>3 | n=>n,fun | n=>n⟩
theorem Tryz.strCutPrefix:Go.Proofs.Lays.n103 Tryz.prog Tryz.strCutPrefix_ren:={
 mixed:=by kernel_rfl
 f103:=Tryz.func60.trans (congrArg some (by kernel_rfl))
 f206:=Tryz.func173.trans (congrArg some (by kernel_rfl))
 f210:=Tryz.func108.trans (congrArg some (by kernel_rfl))
 t3:=Tryz.underlying3
 a3:=Tryz.isAgg3
 z3:=Tryz.sizeOf3
 v3:=Tryz.zeroValue3
 t4:=Tryz.underlying4
 a4:=Tryz.isAgg4
 z4:=Tryz.sizeOf4
 v4:=Tryz.zeroValue4
 t9:=Tryz.underlying9
 a9:=Tryz.isAgg9
 z9:=Tryz.sizeOf9
 v9:=Tryz.zeroValue9
 t24:=Tryz.underlying124
 a24:=Tryz.isAgg124
 z24:=Tryz.sizeOf124
 v24:=Tryz.zeroValue124 }
def Tryz.strSplit_ren:Go.Shelf.Ren:=⟨fun | 146=>62 | 221=>111 | 268=>181 | 138=>34 | 143=>58 | 195=>56 | 197=>235 | 218=>57 | 219=>107 | 260=>278 | 217=>169 | 225=>170 | 224=>171 | 267=>172 | 266=>232 | 314=>233 | n=>n,fun | 9=>9 | 31=>126 | 3=>3 | 4=>4 | 0=>0 | 105=>317 | 21=>21 | 5=>5 | 46=>258 | 119=>402 | 139=>405 | 138=>404 | 146=>313 | 51=>229 | n=>n,fun | 1=>0 | 3=>4 | 4=>5 | n=>n⟩
theorem Tryz.strSplit:Go.Proofs.Lays.n146 Tryz.prog Tryz.strSplit_ren:={
 mixed:=by kernel_rfl
 f138:=Tryz.func34.trans (congrArg some (by kernel_rfl))
 f143:=Tryz.func58.trans (congrArg some (by kernel_rfl))
 f146:=Tryz.func62.trans (congrArg some (by kernel_rfl))
 f195:=Tryz.func56.trans (congrArg some (by kernel_rfl))
 f197:=Tryz.func235.trans (congrArg some (by kernel_rfl))
 f217:=Tryz.func169.trans (congrArg some (by kernel_rfl))
 f218:=Tryz.func57.trans (congrArg some (by kernel_rfl))
 f219:=Tryz.func107.trans (congrArg some (by kernel_rfl))
 f221:=Tryz.func111.trans (congrArg some (by kernel_rfl))
 f224:=Tryz.func171.trans (congrArg some (by kernel_rfl))
 f225:=Tryz.func170.trans (congrArg some (by kernel_rfl))
 f260:=Tryz.func278.trans (congrArg some (by kernel_rfl))
 f266:=Tryz.func232.trans (congrArg some (by kernel_rfl))
 f267:=Tryz.func172.trans (congrArg some (by kernel_rfl))
 f268:=Tryz.func181.trans (congrArg some (by kernel_rfl))
 f314:=Tryz.func233.trans (congrArg some (by kernel_rfl))
 t0:=Tryz.underlying0
 a0:=Tryz.isAgg0
 z0:=Tryz.sizeOf0
 v0:=Tryz.zeroValue0
 t3:=Tryz.underlying3
 a3:=Tryz.isAgg3
 z3:=Tryz.sizeOf3
 v3:=Tryz.zeroValue3
 t4:=Tryz.underlying4
 a4:=Tryz.isAgg4
 z4:=Tryz.sizeOf4
 v4:=Tryz.zeroValue4
 t5:=Tryz.underlying5
 a5:=Tryz.isAgg5
 z5:=Tryz.sizeOf5
 v5:=Tryz.zeroValue5
 t9:=Tryz.underlying9
 a9:=Tryz.isAgg9
 z9:=Tryz.sizeOf9
 v9:=Tryz.zeroValue9
 t21:=Tryz.underlying21
 a21:=Tryz.isAgg21
 z21:=Tryz.sizeOf21
 v21:=Tryz.zeroValue21
 t31:=Tryz.underlying126
 a31:=Tryz.isAgg126
 z31:=Tryz.sizeOf126
 v31:=Tryz.zeroValue126
 t46:=Tryz.underlying258
 a46:=Tryz.isAgg258
 z46:=Tryz.sizeOf258
 v46:=Tryz.zeroValue258
 t51:=Tryz.underlying229
 a51:=Tryz.isAgg229
 z51:=Tryz.sizeOf229
 v51:=Tryz.zeroValue229
 t105:=Tryz.underlying317
 a105:=Tryz.isAgg317
 z105:=Tryz.sizeOf317
 v105:=Tryz.zeroValue317
 t119:=Tryz.underlying402
 a119:=Tryz.isAgg402
 z119:=Tryz.sizeOf402
 t138:=Tryz.underlying404
 a138:=Tryz.isAgg404
 z138:=Tryz.sizeOf404
 v138:=Tryz.zeroValue404
 t139:=Tryz.underlying405
 a139:=Tryz.isAgg405
 z139:=Tryz.sizeOf405
 v139:=Tryz.zeroValue405
 t146:=Tryz.underlying313
 a146:=Tryz.isAgg313
 z146:=Tryz.sizeOf313
 v146:=Tryz.zeroValue313
 g1:=by kernel_rfl
 g3:=by kernel_rfl
 g4:=by kernel_rfl }
def Tryz.strJoin_ren:Go.Shelf.Ren:=⟨fun | 156=>70 | 165=>127 | 166=>128 | 169=>129 | 240=>199 | 241=>200 | 276=>257 | 277=>258 | n=>n,fun | 31=>126 | 9=>9 | 3=>3 | 4=>4 | 0=>0 | 20=>20 | 72=>219 | 76=>205 | 70=>217 | 37=>40 | 75=>204 | 127=>287 | 164=>337 | 5=>5 | 80=>220 | n=>n,fun | n=>n⟩
theorem Tryz.strJoin:Go.Proofs.Lays.n156 Tryz.prog Tryz.strJoin_ren:={
 mixed:=by kernel_rfl
 f156:=Tryz.func70.trans (congrArg some (by kernel_rfl))
 f165:=Tryz.func127.trans (congrArg some (by kernel_rfl))
 f166:=Tryz.func128.trans (congrArg some (by kernel_rfl))
 f169:=Tryz.func129.trans (congrArg some (by kernel_rfl))
 f240:=Tryz.func199.trans (congrArg some (by kernel_rfl))
 f241:=Tryz.func200.trans (congrArg some (by kernel_rfl))
 f276:=Tryz.func257.trans (congrArg some (by kernel_rfl))
 f277:=Tryz.func258.trans (congrArg some (by kernel_rfl))
 t0:=Tryz.underlying0
 a0:=Tryz.isAgg0
 z0:=Tryz.sizeOf0
 v0:=Tryz.zeroValue0
 t3:=Tryz.underlying3
 a3:=Tryz.isAgg3
 z3:=Tryz.sizeOf3
 v3:=Tryz.zeroValue3
 t4:=Tryz.underlying4
 a4:=Tryz.isAgg4
 z4:=Tryz.sizeOf4
 v4:=Tryz.zeroValue4
 t9:=Tryz.underlying9
 a9:=Tryz.isAgg9
 z9:=Tryz.sizeOf9
 v9:=Tryz.zeroValue9
 t20:=Tryz.underlying20
 a20:=Tryz.isAgg20
 z20:=Tryz.sizeOf20
 v20:=Tryz.zeroValue20
 t31:=Tryz.underlying126
 a31:=Tryz.isAgg126
 z31:=Tryz.sizeOf126
 v31:=Tryz.zeroValue126
 t37:=Tryz.underlying40
 a37:=Tryz.isAgg40
 z37:=Tryz.sizeOf40
 v37:=Tryz.zeroValue40
 t70:=Tryz.underlying217
 a70:=Tryz.isAgg217
 z70:=Tryz.sizeOf217
 v70:=Tryz.zeroValue217
 t72:=Tryz.underlying219
 a72:=Tryz.isAgg219
 z72:=Tryz.sizeOf219
 v72:=Tryz.zeroValue219
 t75:=Tryz.underlying204
 a75:=Tryz.isAgg204
 z75:=Tryz.sizeOf204
 v75:=Tryz.zeroValue204
 t76:=Tryz.underlying205
 a76:=Tryz.isAgg205
 z76:=Tryz.sizeOf205
 v76:=Tryz.zeroValue205
 t127:=Tryz.underlying287
 a127:=Tryz.isAgg287
 z127:=Tryz.sizeOf287
 v127:=Tryz.zeroValue287
 t164:=Tryz.underlying337
 a164:=Tryz.isAgg337
 z164:=Tryz.sizeOf337
 v164:=Tryz.zeroValue337 }
def Tryz.strItoa_ren:Go.Shelf.Ren:=⟨fun | 171=>113 | 243=>184 | 246=>241 | 283=>282 | 284=>283 | 285=>284 | 286=>285 | 129=>319 | 317=>331 | 318=>332 | 319=>333 | 320=>334 | 337=>368 | 338=>369 | n=>n,fun | 3=>3 | 9=>9 | 2=>2 | 4=>4 | 171=>358 | 0=>0 | 53=>226 | 37=>40 | 5=>5 | 173=>361 | 212=>411 | 51=>229 | 20=>20 | 213=>412 | 46=>258 | 232=>457 | 233=>458 | n=>n,fun | 17=>6 | 18=>7 | 19=>8 | n=>n⟩
theorem Tryz.strItoa:Go.Proofs.LaysM.n171 Tryz.prog Tryz.strItoa_ren:={
 mixed:=by kernel_rfl
 f129:=Tryz.func319.trans (congrArg some (by kernel_rfl))
 f171:=Tryz.func113.trans (congrArg some (by kernel_rfl))
 f243:=Tryz.func184.trans (congrArg some (by kernel_rfl))
 f246:=Tryz.func241.trans (congrArg some (by kernel_rfl))
 f283:=Tryz.func282.trans (congrArg some (by kernel_rfl))
 f284:=Tryz.func283.trans (congrArg some (by kernel_rfl))
 f285:=Tryz.func284.trans (congrArg some (by kernel_rfl))
 f286:=Tryz.func285.trans (congrArg some (by kernel_rfl))
 f317:=Tryz.func331.trans (congrArg some (by kernel_rfl))
 f318:=Tryz.func332.trans (congrArg some (by kernel_rfl))
 f319:=Tryz.func333.trans (congrArg some (by kernel_rfl))
 f320:=Tryz.func334.trans (congrArg some (by kernel_rfl))
 f337:=Tryz.func368.trans (congrArg some (by kernel_rfl))
 f338:=Tryz.func369.trans (congrArg some (by kernel_rfl))
 t0:=Tryz.underlying0
 a0:=Tryz.isAgg0
 z0:=Tryz.sizeOf0
 v0:=Tryz.zeroValue0
 t2:=Tryz.underlying2
 a2:=Tryz.isAgg2
 z2:=Tryz.sizeOf2
 v2:=Tryz.zeroValue2
 t3:=Tryz.underlying3
 a3:=Tryz.isAgg3
 z3:=Tryz.sizeOf3
 v3:=Tryz.zeroValue3
 t4:=Tryz.underlying4
 a4:=Tryz.isAgg4
 z4:=Tryz.sizeOf4
 v4:=Tryz.zeroValue4
 t5:=Tryz.underlying5
 a5:=Tryz.isAgg5
 z5:=Tryz.sizeOf5
 v5:=Tryz.zeroValue5
 t9:=Tryz.underlying9
 a9:=Tryz.isAgg9
 z9:=Tryz.sizeOf9
 v9:=Tryz.zeroValue9
 t20:=Tryz.underlying20
 a20:=Tryz.isAgg20
 z20:=Tryz.sizeOf20
 v20:=Tryz.zeroValue20
 t37:=Tryz.underlying40
 a37:=Tryz.isAgg40
 z37:=Tryz.sizeOf40
 v37:=Tryz.zeroValue40
 t46:=Tryz.underlying258
 a46:=Tryz.isAgg258
 z46:=Tryz.sizeOf258
 v46:=Tryz.zeroValue258
 t51:=Tryz.underlying229
 a51:=Tryz.isAgg229
 z51:=Tryz.sizeOf229
 v51:=Tryz.zeroValue229
 t53:=Tryz.underlying226
 a53:=Tryz.isAgg226
 z53:=Tryz.sizeOf226
 v53:=Tryz.zeroValue226
 t171:=Tryz.underlying358
 a171:=Tryz.isAgg358
 z171:=Tryz.sizeOf358
 v171:=Tryz.zeroValue358
 t173:=Tryz.underlying361
 a173:=Tryz.isAgg361
 z173:=Tryz.sizeOf361
 v173:=Tryz.zeroValue361
 t212:=Tryz.underlying411
 a212:=Tryz.isAgg411
 z212:=Tryz.sizeOf411
 v212:=Tryz.zeroValue411
 t213:=Tryz.underlying412
 a213:=Tryz.isAgg412
 z213:=Tryz.sizeOf412
 t232:=Tryz.underlying457
 a232:=Tryz.isAgg457
 z232:=Tryz.sizeOf457
 v232:=Tryz.zeroValue457
 t233:=Tryz.underlying458
 a233:=Tryz.isAgg458
 z233:=Tryz.sizeOf458
 v233:=Tryz.zeroValue458
 g17:=by kernel_rfl
 g18:=by kernel_rfl
 g19:=by kernel_rfl
 i0:=by kernel_rfl
 i2:=by kernel_rfl
 i3:=by kernel_rfl
 i4:=by kernel_rfl
 i5:=by kernel_rfl
 i9:=by kernel_rfl
 i20:=by kernel_rfl
 i37:=by kernel_rfl
 i46:=by kernel_rfl
 i51:=by kernel_rfl
 i53:=by kernel_rfl
 i171:=by kernel_rfl
 i173:=by kernel_rfl
 i212:=by kernel_rfl
 i232:=by kernel_rfl
 i233:=by kernel_rfl
 m17:=by kernel_rfl
 m18:=by kernel_rfl
 m19:=by kernel_rfl }
end Go.Proofs
namespace Go.Proofs
open Go.RowKit Sc
theorem tabIs_up {w w':World} {B:Nat} (hb:Below B w w') (hB:∀ g,Tryz.prog.globalNamed "internal/strconv.uint64pow10" = some g→g < B) {k:IntKind} {zs:List Int} (h:Lib.TabIs Tryz.prog w "internal/strconv.uint64pow10" k zs):Lib.TabIs Tryz.prog w' "internal/strconv.uint64pow10" k zs:=by
 unfold Lib.TabIs World.var? at *
 cases hg:Tryz.prog.globalNamed "internal/strconv.uint64pow10" with
 | none=>rw [hg] at h;exact h
 | some g =>
  rw [hg] at h
  simp only [Option.bind_some] at h ⊢
  rw [hb.block g (hB g hg)]
  exact h
structure StrW (w:World):Prop where
 m:∃ m,w.cell? ⟨0,0,none⟩=some (.int .i64 m)
 t:Lib.TabIs Tryz.prog w "internal/strconv.uint64pow10" .u64 Lib.pow10Tab
 z:6 < w.heap.size
theorem pow10_global:Tryz.prog.globalNamed "internal/strconv.uint64pow10" = some 6:=by kernel_rfl
theorem StrW.up {w w':World} (h:StrW w) {B:Nat} (hB:6 < B) (hb:Below B w w'):StrW w':=by
 refine ⟨?_,tabIs_up hb (fun g hg=>?_) h.t,Nat.lt_of_lt_of_le h.z hb.size⟩
 ·obtain ⟨m,hm⟩:=h.m
  exact ⟨m,by rw [World.cell?_of_block (w:=w) (hb.block 0 (by omega))];exact hm⟩
 ·rw [pow10_global] at hg
  cases hg
  exact hB
theorem str_count (w:World):Calls Tryz.prog 34 #[.string ⟨#[115,116,97,116,10]⟩,.string ⟨#[10]⟩] w fun e w'=>e=.returned (.int .i64 1)∧w'=w :=
 (Any.strings_Count_one Tryz.strCount ⟨#[115,116,97,116,10]⟩ 10 w).mono fun e w' ⟨h1,h2⟩=>⟨h1.trans (congrArg Ending.returned (by kernel_rfl)),h2⟩
theorem str_cut (w:World) (hw:StrW w):Calls Tryz.prog 35 #[.string ⟨#[115,116,97,116,10]⟩,.string ⟨#[10]⟩] w fun e w'=>e=.returned (.tuple #[.string ⟨#[115,116,97,116]⟩,.string ⟨#[]⟩,.bool true])∧Hid (Below w.heap.size w w'):=by
 obtain ⟨m,hm⟩:=hw.m
 refine (Any.strings_Cut Tryz.strCut ⟨#[115,116,97,116,10]⟩ ⟨#[10]⟩ m w (by decide) hm).mono ?_
 rintro e w' ⟨h1,n,rfl⟩
 exact ⟨h1.trans (congrArg Ending.returned (by kernel_rfl)),below_drewN (Below.refl _ _) n⟩
theorem str_cutPrefix (w:World):Calls Tryz.prog 60 #[.string ⟨#[115,116,97,116]⟩,.string ⟨#[111,112,32]⟩] w fun e w'=>e=.returned (.tuple #[.string ⟨#[115,116,97,116]⟩,.bool false])∧w'=w :=
 (Any.strings_CutPrefix Tryz.strCutPrefix ⟨#[115,116,97,116]⟩ ⟨#[111,112,32]⟩ w).mono fun e w' ⟨h1,h2⟩=>⟨h1.trans (congrArg Ending.returned (by kernel_rfl)),h2⟩
theorem str_split (w:World) (hw:StrW w):Calls Tryz.prog 62 #[.string ⟨#[115,116,97,116]⟩,.string ⟨#[32]⟩] w fun e w'=>e=.returned (.slice (some ⟨w.heap.size,0,none⟩) 1 1)∧w'=w.alloc (.cells #[.string ⟨#[115,116,97,116]⟩] 9):=by
 obtain ⟨m,hm⟩:=hw.m
 refine (Any.strings_Split Tryz.strSplit (by kernel_rfl) ⟨#[115,116,97,116]⟩ ⟨#[32]⟩ m w (by decide) hm (by decide)).mono ?_
 rintro e w' ⟨rfl,rfl⟩
 have e1:Lib.countB ⟨#[115,116,97,116]⟩ ⟨#[32]⟩=0:=by decide +kernel
 rw [e1]
 exact ⟨rfl,rfl⟩
theorem str_itoa (n:Int) (h0:-9223372036854775808≤n) (h1:n≤9223372036854775807) (w:World) (hw:StrW w):Calls Tryz.prog 113 #[.int .i64 n] w fun e w'=>e=.returned (.string ⟨(Lib.itoa n).toArray⟩)∧Hid (Below w.heap.size w w'):=by
 refine (Any.strconv_Itoa Tryz.strItoa n h0 h1 w hw.t).mono ?_
 rintro e w' ⟨rfl,k,os,rfl⟩
 refine ⟨rfl,?_⟩
 have hu:Below w.heap.size w (w.drewN k):=below_drewN (Below.refl _ _) k
 exact ⟨hu.os,hu.tape,hu.output,by show w.heap.size≤((w.drewN k).heap++os).size;rw [Array.size_append];have:=hu.size;omega,fun j hj=>by
  show ((w.drewN k).heap++os)[j]? = _
  rw [Array.getElem?_append_left (Nat.lt_of_lt_of_le hj hu.size)]
  exact hu.block j hj⟩
end Go.Proofs
namespace Go.Proofs
open Go.RowKit Sc
section
variable {W w:World} {L:List Asn}
theorem infoU8s:(Tryz.prog.info? 5).map (fun i=>(i.zero,i.size,i.bytes))=some (some (.int .u8 0),1,1):=by kernel_rfl
theorem strJoin_extra:Builder.Extra Tryz.prog Tryz.strJoin_ren where
 sizeBuilder:=by kernel_rfl
 liesBuilder:=by kernel_rfl
 t5:=Tryz.underlying5
 a5:=Tryz.isAgg5
 z5:=Tryz.sizeOf5
 v5:=Tryz.zeroValue5
 infoByte:=by kernel_rfl
 cellsByte:=by kernel_rfl
 sizeByte:=by kernel_rfl
 neB5:=by decide
theorem Sep.str_new (h:Sep W L w) (s:ByteArray) (h1:1≤s.size) (h2:s.size≤1000000) :
  ∃ g cap w',(Builtin.append_ #[40,9] 40 #[.slice none 0 0,.string s]).run Tryz.prog w=.ok (.slice (some ⟨g,0,none⟩) s.size cap) w'∧Below w.heap.size w w'∧Sep W (L++[RowA 5 1 (.slice (some ⟨g,0,none⟩) s.size cap) s.size (Lib.strCells s)]) w':=by
 obtain ⟨ii,hii,hiz,hiy,hix⟩:=info_parts infoU8s
 obtain ⟨v',w',hr,ho,hg,hn⟩:=Lib.run_append_own_string (P:=Tryz.prog) w w.heap.size 40 9 40 5 ii Tryz.underlying40 Tryz.underlying9 hii hiz hiy hix (.slice none 0 0) 0 [] (World.ownsRow_nil _ _ _ _) s (by unfold maxLen;omega) (by omega) (Nat.le_refl _)
 rw [Nat.zero_add,List.nil_append] at ho
 have hb:Below w.heap.size w w':=(Below.refl _ _).grown hg (Nat.le_refl _) (fun j hj=>by cases hj)
 have hs:=Sc.Sep.row_new h hb ho
 rcases ho.2 with ⟨rfl,h0⟩ | ⟨g,cap,cur,rfl,_⟩
 ·omega
 ·exact ⟨g,cap,w',hr,hb,hs⟩
set_option maxRecDepth 100000 in
set_option maxHeartbeats 2000000 in
theorem shSay (h:Hid (Sep W L w)) (i:Nat) {sb:Nat} {pv:Value} (hi:L[i]? = some (BoxA sb #[pv,.slice none 0 0] 91)) (bk o c:Nat) (xs:List ByteArray) (hc:∀ (j:Nat) x,xs[j]? = some x→w.cell? ⟨bk,o+j,none⟩=some (.string x)) (hbk:bk < w.heap.size) (hcap:xs.length≤c) (hN:xs.length≤1000)
  {s:ByteArray} (hs:Lib.join (xs.map (·.data.toList)) [32]=s.data.toList) (h1:1≤s.size) (h2:s.size≤1000000) :
  Calls Tryz.prog 37 #[pt sb,.slice (some ⟨bk,o,none⟩) xs.length c] w fun e w'=>e=.returned (.tuple #[])∧∃ g cap,Hid (Sep W (L.set i (BoxA sb #[pv,.slice (some ⟨g,0,none⟩) (s.size+1) cap] 91)++[RowA 5 1 (.slice (some ⟨g,0,none⟩) (s.size+1) cap) (s.size+1) (Lib.strCells s++[.int .u8 10])]) w'):=by
 have hil:=(List.getElem?_eq_some_iff.1 hi).1
 have hsz:s.data.toList.length=s.size:=Array.length_toList
 have hdr:Sep W L w.drew:=h.out.up (below_drewN (Below.refl w.heap.size w) 1)
 have hjn:=Any.strings_Join Tryz.strJoin strJoin_extra bk o c xs ⟨#[32]⟩ w.drew hc hbk (by omega) hcap (by show (Lib.join (xs.map (·.data.toList)) [32]).length≤_;rw [hs,hsz];omega)
 have hje:(⟨(Lib.join (xs.map (·.data.toList)) (⟨#[32]⟩:ByteArray).data.toList).toArray⟩:ByteArray)=s:=by
  show (⟨(Lib.join (xs.map (·.data.toList)) [32]).toArray⟩:ByteArray)=s
  rw [hs]
 rw [hje] at hjn
 have HJ:=Lib.hid hjn
 have HS:=Lib.hid hdr
 obtain ⟨F,hF,_⟩:=hdr.get i hi
 have c1:w.drew.cell? ⟨sb,1,none⟩=some (.slice none 0 0):=by rw [cell_row hF.2];rfl
 have f1:=fz_row hF.2 1
 have HI:=Lib.hid hi
 have HIL:=Lib.hid hil
 clear hF hdr hjn hje hc h hi hil hsz hs
 go_enter Tryz.func37,Tryz.ntmps37
 go_upto_region 0 with fail
 refine wp_regionH (fun W=>W.cell? ⟨sb,1,none⟩=some (.slice none 0 0)) (n:=11) (by kernel_rfl) (by kernel_rfl) ?_
 generalize w.drew=wd at *
 refine wpH.tk 0 ?_
 refine wpH.tk 1 ?_
 refine wpH.tk 2 ?_
 refine wpH.tk 3 ?_
 refine wpH.tk 4 ?_ (hy:=by intro W hW;have hld0:=hW;go_simp;try with_reducible rfl)
 refine wpH.tk 5 ?_
 refine wpH.alone 6 rfl (by kernel_rfl) (by kernel_rfl) c1 (fun K hK=>?_)
 go_simp
 go_at_call 70
 refine (HJ.out).mono ?_
 rintro e w2 ⟨rfl,hb2⟩
 have hs2:=HS.out.up hb2
 obtain ⟨g,cap,w3,hr3,hb3,hs3⟩:=Go.Proofs.Sep.str_new hs2 s h1 h2
 have c2:=cell_up hb2 c1
 have c3:=cell_up hb3 c2
 have e3:(L++[RowA 5 1 (.slice (some ⟨g,0,none⟩) s.size cap) s.size (Lib.strCells s)])[i]? = some (BoxA sb #[pv,.slice none 0 0] 91):=by rw [List.getElem?_append_left HIL.out];exact HI.out
 obtain ⟨F3,hF3,_⟩:=hs3.get i e3
 have f3:=fz_row hF3.2 1
 have hs4:=hs3.box_store i e3 1 (.slice (some ⟨g,0,none⟩) s.size cap)
 rw [List.set_append_left _ _ HIL.out] at hs4
 have HS4:Hid (Sep W (L.set i (BoxA sb #[pv,.slice (some ⟨g,0,none⟩) s.size cap] 91)++[RowA 5 1 (.slice (some ⟨g,0,none⟩) s.size cap) s.size (Lib.strCells s)]) (w3.setCell ⟨sb,1,none⟩ (.slice (some ⟨g,0,none⟩) s.size cap))):=hs4
 clear hs2 hs3 hs4 hF3 hb2 hb3 e3 HS
 try go_simp
 refine hK _ _ ?_
 clear hK K
 refine wpH.alone 7 rfl (by kernel_rfl) (by kernel_rfl) c2 (fun K hK=>?_)
 refine Lib.wp_append_run _ (.tmp 8) (.tmp 10) 40 9 rfl _ _ ?_ ?_ _ _ hr3 ?_
 ·go_simp
 ·go_simp
 try go_simp
 refine hK _ _ ?_
 clear hK K
 refine wpH.tk 8 ?_
 refine wpH.tk 9 ?_
 refine wpH.alone 10 rfl (by kernel_rfl) (by kernel_rfl) c3 (fun K hK=>?_)
 go_simp
 try go_simp
 refine hK _ _ ?_
 clear hK K
 refine wpH.done (by kernel_rfl) (by kernel_rfl) ?_
 clear hr3 c1 c2 c3 f1 f3
 generalize w3.setCell ⟨sb,1,none⟩ (.slice (some ⟨g,0,none⟩) s.size cap)=w4 at *
 have e4:(L.set i (BoxA sb #[pv,.slice (some ⟨g,0,none⟩) s.size cap] 91)++[RowA 5 1 (.slice (some ⟨g,0,none⟩) s.size cap) s.size (Lib.strCells s)])[i]? = some (BoxA sb #[pv,.slice (some ⟨g,0,none⟩) s.size cap] 91):=by rw [List.getElem?_append_left (by rw [List.length_set];exact HIL.out),List.getElem?_set_self HIL.out]
 obtain ⟨F4,hF4,_⟩:=HS4.out.get i e4
 have q1:w4.cell? ⟨sb,1,none⟩=some (.slice (some ⟨g,0,none⟩) s.size cap):=by rw [cell_row hF4.2];rfl
 obtain ⟨ii,hii,hiz,hiy,hix⟩:=info_parts infoU8s
 have e5:(L.set i (BoxA sb #[pv,.slice (some ⟨g,0,none⟩) s.size cap] 91)++[RowA 5 1 (.slice (some ⟨g,0,none⟩) s.size cap) s.size (Lib.strCells s)])[L.length]? = some (RowA 5 1 (.slice (some ⟨g,0,none⟩) s.size cap) s.size (Lib.strCells s)):=by rw [List.getElem?_append_right (by rw [List.length_set];omega),List.length_set,Nat.sub_self];rfl
 obtain ⟨g5,cap5,w5,hr5,hs5⟩:=Sc.Sep.row_push (P:=Tryz.prog) HS4.out L.length e5 40 40 ii (.int .u8 0) 1 Tryz.underlying40 hii hiz hiy hix rfl (by decide) (cs:=#[.int .u8 10]) rfl (by simp [Value.oneCell']) (by unfold maxLen;omega) (by omega) w4.heap.size rfl
 rw [List.set_append_right _ _ (by rw [List.length_set];omega),List.length_set,Nat.sub_self] at hs5
 have e6:(L.set i (BoxA sb #[pv,.slice (some ⟨g,0,none⟩) s.size cap] 91)++[RowA 5 1 (.slice (some ⟨g5,0,none⟩) (s.size+1) cap5) (s.size+1) (Lib.strCells s++[.int .u8 10])])[i]? = some (BoxA sb #[pv,.slice (some ⟨g,0,none⟩) s.size cap] 91):=by rw [List.getElem?_append_left (by rw [List.length_set];exact HIL.out),List.getElem?_set_self HIL.out]
 have hs6:Sep W (L.set i (BoxA sb #[pv,.slice (some ⟨g,0,none⟩) s.size cap] 91)++[RowA 5 1 (.slice (some ⟨g5,0,none⟩) (s.size+1) cap5) (s.size+1) (Lib.strCells s++[.int .u8 10])]) w5:=hs5
 obtain ⟨F6,hF6,_⟩:=hs6.get i e6
 have q2:w5.cell? ⟨sb,1,none⟩=some (.slice (some ⟨g,0,none⟩) s.size cap):=by rw [cell_row hF6.2];rfl
 have f2:=fz_row hF6.2 1
 have hs7:=hs6.box_store i e6 1 (.slice (some ⟨g5,0,none⟩) (s.size+1) cap5)
 rw [List.set_append_left _ _ (by rw [List.length_set];exact HIL.out),List.set_set] at hs7
 have HS7:Hid (Sep W (L.set i (BoxA sb #[pv,.slice (some ⟨g5,0,none⟩) (s.size+1) cap5] 91)++[RowA 5 1 (.slice (some ⟨g5,0,none⟩) (s.size+1) cap5) (s.size+1) (Lib.strCells s++[.int .u8 10])]) (w5.setCell ⟨sb,1,none⟩ (.slice (some ⟨g5,0,none⟩) (s.size+1) cap5))):=hs7
 have HR5:=Lib.hid hr5
 clear hF4 hF6 hs5 hs6 hs7 hr5 e4 e5 e6 HS4 hii hiz hiy hix
 go_wp2_with (at_builtin;refine Lib.wpList_append_run _ rfl _ _ _ _ rfl _ _ rfl rfl _ _ HR5.out ?_)
 first
  | exact ⟨rfl,g5,cap5,HS7⟩
  | (go_end0;exact ⟨rfl,g5,cap5,HS7⟩)
end
end Go.Proofs
namespace Go.Proofs
open Go.RowKit Sc
section
variable {W w:World} {L:List Asn}
set_option maxRecDepth 100000 in
theorem stBlocks {st d m s pos num:Nat} (h:Hid (Sep W L w)) (i:Nat) (hi:L[i]? = some (StoreB st d m s pos num)) (j:Nat) {zs:List Nat} (hj:L[j]? = some (DevA (pt d) zs)) :
  Calls Tryz.prog 122 #[pt st] w fun e w'=>e=.returned (.int .i64 258)∧Hid (Sep W L w'):=by
 have hh:=st_cells h.out i hi
 have c0:w.cell? ⟨st,0,none⟩=some (pt d):=by rw [cell_row hh];rfl
 have HG:=Lib.hid (devGeometry h j hj)
 clear hh hi hj
 go_enter Tryz.func122,Tryz.ntmps122
 go_wp2_with fail
 refine (HG.out).mono ?_
 rintro e w1 ⟨rfl,hb1⟩
 have HS1:=Lib.hid (h.out.up hb1.out)
 have HC:=Lib.hid (capacity_least w1)
 unfold gLeast at HC
 clear HG c0 h hb1
 go_wp2_with fail
 refine (HC.out).mono ?_
 rintro e w2 ⟨rfl,hb2⟩
 have HS2:=Lib.hid (HS1.out.up hb2.out)
 clear HC HS1 hb2
 go_wp2_with fail
 go_ret
 exact ⟨rfl,HS2.out⟩
def shL (W:World) (sb:Nat) (pv ov:Value) (p d st m s:Nat):List Asn:=[OldA W,BoxA sb #[pv,ov] 91,DevA (pt d) (List.replicate 8 0),StoreB st d m s 0 0,SlotA s d 1 0 0,MgrA (pt m) (mgNew 258 0),SchA p d st sd0]
theorem itoa_0:(⟨(Lib.itoa 0).toArray⟩:ByteArray)=⟨#[48]⟩:=by decide +kernel
theorem itoa_258:(⟨(Lib.itoa 258).toArray⟩:ByteArray)=⟨#[50,53,56]⟩:=by decide +kernel
def statS:ByteArray:=⟨#[108,97,115,116,32,48,32,111,112,101,110,32,48,32,113,117,101,117,101,32,48,32,98,108,111,99,107,115,32,50,53,56]⟩
set_option maxRecDepth 100000 in
set_option maxHeartbeats 4000000 in
theorem shBare {sb p d st m s:Nat} (h:Hid (Sep W (shL W sb (pt p) (.slice none 0 0) p d st m s) w)) (hw:StrW W) :
  Calls Tryz.prog 66 #[pt sb,.string ⟨#[115,116,97,116]⟩] w fun e w'=>e=.returned (.bool true)∧∃ g cap,Hid (Sep W (shL W sb (pt p) (.slice (some ⟨g,0,none⟩) 33 cap) p d st m s++[RowA 5 1 (.slice (some ⟨g,0,none⟩) 33 cap) 33 (Lib.strCells statS++[.int .u8 10])]) w'):=by
 have hW:∀ w',Sep W (shL W sb (pt p) (.slice none 0 0) p d st m s) w'→StrW w':=fun w' hs=>hw.up hw.z hs.old
 have HW:=Lib.hid hW
 have hbx:∀ w',Sep W (shL W sb (pt p) (.slice none 0 0) p d st m s) w'→w'.cell? ⟨sb,0,none⟩=some (pt p):=fun w' hs=>by
  obtain ⟨F,hF,_⟩:=hs.get 1 rfl
  rw [cell_row hF.2];rfl
 have HBX:=Lib.hid hbx
 have c0:=hbx _ h.out
 have HST:=Lib.hid (sdStore h (x:=6) rfl)
 clear hW hbx hw
 go_enter Tryz.func66,Tryz.ntmps66
 go_wp2_with fail
 refine (HST.out).mono ?_
 rintro e w1 ⟨rfl,rfl⟩
 clear HST
 have HLA:=Lib.hid (stLast h.out 3 rfl (R:=fun e w'=>e=.returned (.int .i64 0)∧w'=w) ((mgLast_sep h 5 rfl).mono fun e w' ⟨h1,h2⟩=>⟨h1,h2⟩) (fun e w' hr=>⟨_,hr.1⟩))
 go_wp2_with fail
 refine (HLA.out).mono ?_
 rintro e w1 ⟨rfl,hw1⟩
 subst hw1
 have HI1:=Lib.hid (str_itoa 0 (by decide) (by decide) w1 (HW.out _ h.out))
 rw [itoa_0] at HI1
 clear HLA c0
 go_wp2_with fail
 refine (HI1.out).mono ?_
 rintro e w2 ⟨rfl,hb2⟩
 have H2:=Lib.hid (h.out.up hb2.out)
 have HOP:=Lib.hid (stOpen H2.out 3 rfl (R:=fun e w'=>e=.returned (.int .i64 0)∧Hid (Sep W (shL W sb (pt p) (.slice none 0 0) p d st m s) w')) ((mgOpen_sep H2 5 rfl (MgG.new (by omega) (by omega) (by omega) (by omega))).mono fun e w' ⟨h1,h2⟩=>⟨h1,h2⟩) (fun e w' hr=>⟨_,hr.1⟩))
 clear HI1 hb2 h
 go_wp2_with fail
 refine (HOP.out).mono ?_
 rintro e w3 ⟨rfl,H3⟩
 have HI2:=Lib.hid (str_itoa 0 (by decide) (by decide) w3 (HW.out _ H3.out))
 rw [itoa_0] at HI2
 clear HOP H2
 go_wp2_with fail
 refine (HI2.out).mono ?_
 rintro e w4 ⟨rfl,hb4⟩
 have H4:=Lib.hid (H3.out.up hb4.out)
 have HQU:=Lib.hid (stQueue H4.out 3 rfl (R:=fun e w'=>e=.returned (.int .i64 0)∧w'=w4) ((mgQueue_sep H4 5 rfl).mono fun e w' ⟨h1,h2⟩=>⟨h1,h2⟩) (fun e w' hr=>⟨_,hr.1⟩))
 clear HI2 hb4 H3
 go_wp2_with fail
 refine (HQU.out).mono ?_
 rintro e w5 ⟨rfl,hw5⟩
 subst hw5
 have HI3:=Lib.hid (str_itoa 0 (by decide) (by decide) w5 (HW.out _ H4.out))
 rw [itoa_0] at HI3
 clear HQU
 go_wp2_with fail
 refine (HI3.out).mono ?_
 rintro e w6 ⟨rfl,hb6⟩
 have H6:=Lib.hid (H4.out.up hb6.out)
 have HBL:=Lib.hid (stBlocks H6 3 rfl 2 rfl)
 clear HI3 hb6 H4
 go_wp2_with fail
 refine (HBL.out).mono ?_
 rintro e w7 ⟨rfl,H7⟩
 have HI4:=Lib.hid (str_itoa 258 (by decide) (by decide) w7 (HW.out _ H7.out))
 rw [itoa_258] at HI4
 clear HBL H6
 go_wp2_with fail
 refine (HI4.out).mono ?_
 rintro e w8 ⟨rfl,hb8⟩
 have H8:=Lib.hid (H7.out.up (Below.up hb8.out (below_alloc w8 (.cells #[.string ⟨#[108,97,115,116]⟩,.string ⟨#[48]⟩,.string ⟨#[111,112,101,110]⟩,.string ⟨#[48]⟩,.string ⟨#[113,117,101,117,101]⟩,.string ⟨#[48]⟩,.string ⟨#[98,108,111,99,107,115]⟩,.string ⟨#[50,53,56]⟩] 9 (0,0)))))
 have HSY:=Lib.hid (shSay (s:=statS) H8 1 rfl w8.heap.size 0 8 [⟨#[108,97,115,116]⟩,⟨#[48]⟩,⟨#[111,112,101,110]⟩,⟨#[48]⟩,⟨#[113,117,101,117,101]⟩,⟨#[48]⟩,⟨#[98,108,111,99,107,115]⟩,⟨#[50,53,56]⟩] (fun j x hx=>by
  rw [cell_row (heap_alloc_new w8 _)]
  rcases (show j=0∨j=1∨j=2∨j=3∨j=4∨j=5∨j=6∨j=7 by
   have:=(List.getElem?_eq_some_iff.1 hx).1
   simp only [List.length_cons,List.length_nil] at this
   omega) with rfl | rfl | rfl | rfl | rfl | rfl | rfl | rfl
  all_goals (cases hx;rfl)) (by simp) (by decide) (by decide) (by decide +kernel) (by decide) (by decide))
 clear HI4 hb8 H7 HW HBX
 go_wp2_with fail
 refine (HSY.out).mono ?_
 rintro e w9 ⟨rfl,g,cap,HS9⟩
 clear HSY H8
 go_wp2_with fail
 go_ret
 exact ⟨rfl,g,cap,HS9⟩
end
end Go.Proofs
namespace Go.Proofs
open Go.RowKit Sc
section
variable {W w:World} {L:List Asn}
theorem numbers_none (p:Option Addr) (c:Nat) (w:World):Calls Tryz.prog 63 #[.slice p 0 c] w fun e w'=>e=.returned (.tuple #[.slice none 0 0,.bool true])∧w=w':=by
 go_enter Tryz.func63,Tryz.ntmps63
 go_wp2_with fail
 go_loopw [2,10] (fun s2 s10 wr=>s2=.slice none 0 0∧s10=.int .i64 0∧wr=w) (fun _ _ _=>0)
 case atStart=>exact ⟨rfl,rfl,rfl⟩
 case round =>
  obtain ⟨rfl,rfl,hw⟩:=hrel
  subst hw
  go_wp2_with fail
  go_ret2
  exact ⟨rfl,rfl⟩
set_option maxRecDepth 100000 in
set_option maxHeartbeats 4000000 in
theorem shLine {sb p d st m s:Nat} (h:Hid (Sep W (shL W sb (pt p) (.slice none 0 0) p d st m s) w)) (hw:StrW W) :
  Calls Tryz.prog 36 #[pt sb,.string ⟨#[115,116,97,116]⟩] w fun e w'=>e=.returned (.bool true)∧∃ g cap,Hid (Sep W (shL W sb (pt p) (.slice (some ⟨g,0,none⟩) 33 cap) p d st m s++[RowA 5 1 (.slice (some ⟨g,0,none⟩) 33 cap) 33 (Lib.strCells statS++[.int .u8 10])]) w'):=by
 have HW:=Lib.hid hw
 have HC:=Lib.hid (str_cutPrefix w)
 have HSP:=Lib.hid (str_split w (hw.up hw.z h.out.old))
 have H1:=Lib.hid (h.out.up (below_alloc w (.cells #[.string ⟨#[115,116,97,116]⟩] 9 (0,0))))
 have c0:(w.alloc (.cells #[.string ⟨#[115,116,97,116]⟩] 9 (0,0))).cell? ⟨w.heap.size,0,none⟩=some (.string ⟨#[115,116,97,116]⟩):=by rw [cell_row (heap_alloc_new w _)];rfl
 have HB:=Lib.hid (shBare H1 hw)
 clear hw h
 go_enter Tryz.func36,Tryz.ntmps36
 go_wp2_with fail
 refine (HC.out).mono ?_
 rintro e w1 ⟨rfl,hw1⟩
 subst hw1
 clear HC
 go_wp2_with fail
 refine (HSP.out).mono ?_
 rintro e w2 ⟨rfl,hw2⟩
 obtain ⟨wa,hwa⟩:∃ wa,w1.alloc (.cells #[.string ⟨#[115,116,97,116]⟩] 9 (0,0))=wa:=⟨_,rfl⟩
 rw [hwa] at c0 H1 HB hw2
 subst hw2
 clear hwa HSP
 go_wp2_with fail
 refine (numbers_none _ _ _).mono ?_
 rintro e w3 ⟨rfl,hw3⟩
 subst hw3
 go_wp2_with fail
 refine (HB.out).mono ?_
 rintro e w4 ⟨rfl,g,cap,HS4⟩
 clear HB H1 c0
 go_wp2_with fail
 first
  | exact ⟨rfl,g,cap,HS4⟩
  | (go_ret;exact ⟨rfl,g,cap,HS4⟩)
def strLen (v:Value):Nat:=match v with
 | .string s=>s.size
 | _=>0
def PlayS (w:World) (B p d st m s:Nat) (t:ByteArray) (wr:World):Prop:=(t=⟨#[115,116,97,116,10]⟩∧Hid (Sep w (shL w B (pt p) (.slice none 0 0) p d st m s) wr))∨(t=⟨#[]⟩∧∃ g cap,Hid (Sep w (shL w B (pt p) (.slice (some ⟨g,0,none⟩) 33 cap) p d st m s++[RowA 5 1 (.slice (some ⟨g,0,none⟩) 33 cap) 33 (Lib.strCells statS++[.int .u8 10])]) wr))
def statL:List UInt8:=[108,97,115,116,32,48,32,111,112,101,110,32,48,32,113,117,101,117,101,32,48,32,98,108,111,99,107,115,32,50,53,56,10]
theorem statL_cells:Lib.strCells statS++[.int .u8 10]=statL.map fun b=>Value.int .u8 (b.toNat:Int):=by kernel_rfl
theorem stat_convert {g cap:Nat} {w:World} {F:Foot} (h:(RowA 5 1 (.slice (some ⟨g,0,none⟩) 33 cap) 33 (Lib.strCells statS++[.int .u8 10])).P F w):(convert 40 9 (.slice (some ⟨g,0,none⟩) 33 cap)).run Tryz.prog w=.ok (.string ⟨#[108,97,115,116,32,48,32,111,112,101,110,32,48,32,113,117,101,117,101,32,48,32,98,108,111,99,107,115,32,50,53,56,10]⟩) w:=by
 have h1:=h.1
 rw [statL_cells] at h1
 exact run_convert_bytes_back w 40 9 5 ⟨g,0,none⟩ cap statL Tryz.underlying40 Tryz.underlying5 Tryz.underlying9 (fun j hj=>h1.cells (g:=g) rfl j _ (by rw [List.getElem?_map,List.getElem?_eq_getElem hj];rfl))
set_option maxRecDepth 100000 in
set_option maxHeartbeats 4000000 in
theorem shPlay (w:World) (hw:StrW w):Calls Tryz.prog 17 #[.string ⟨#[115,116,97,116,10]⟩] w fun e w'=>e=.returned (.string ⟨#[108,97,115,116,32,48,32,111,112,101,110,32,48,32,113,117,101,117,101,32,48,32,98,108,111,99,107,115,32,50,53,56,10]⟩)∧Below w.heap.size w w':=by
 have hs1:=Go.Proofs.Sep.boxT (Sep.start w) #[.pointer none,.slice none 0 0] 91
 obtain ⟨wa,hwa⟩:∃ wa,w.alloc (.cells #[.pointer none,.slice none 0 0] 91 (0,0))=wa:=⟨_,rfl⟩
 obtain ⟨B,hB⟩:∃ B,w.heap.size=B:=⟨_,rfl⟩
 have HBZ:=Lib.hid hB
 rw [hwa,hB] at hs1
 have HS1:Hid (Sep w [OldA w,BoxA B #[.pointer none,.slice none 0 0] 91] wa):=hs1
 have HN:=Lib.hid (sdNew HS1)
 unfold gLeast at HN
 have HW:=Lib.hid hw
 clear hs1 hw
 go_enter Tryz.func17,Tryz.ntmps17
 go_wp2_with fail
 go_step3
 go_wp2_with fail
 try rw [hwa]
 try rw [hB]
 clear hwa hB
 refine (HN.out).mono ?_
 rintro e w2 ⟨p,d,st,m,s,rfl,HS2⟩
 clear HN HS1
 have hs2:Sep w (shL w B (.pointer none) (.slice none 0 0) p d st m s) w2:=HS2.out
 obtain ⟨F,hF,_⟩:=hs2.get 1 rfl
 have c0:w2.cell? ⟨B,0,none⟩=some (.pointer none):=by rw [cell_row hF.2];rfl
 have f0:=fz_row hF.2 0
 have hs3:=hs2.box_store 1 rfl 0 (pt p)
 have HS3:Hid (Sep w (shL w B (pt p) (.slice none 0 0) p d st m s) (w2.setCell ⟨B,0,none⟩ (pt p))):=hs3
 clear hs2 hs3 hF HS2
 go_upto_region 3 with fail
 clear c0 f0
 generalize w2.setCell ⟨B,0,none⟩ (pt p)=w3 at *
 have HCT:=Lib.hid (str_count w3)
 go_wp2_with fail
 refine (HCT.out).mono ?_
 rintro e w4 ⟨rfl,hw4⟩
 subst hw4
 clear HCT
 go_wp2_with fail
 go_step3
 go_wp2_with fail
 have e4:((((⟨#[115,116,97,116,10]⟩:ByteArray)[4]'(by decide)).toNat:Int) != 10)=false:=by decide
 simp only [e4]
 go_loopw [0] (fun s0 wr=>∃ t:ByteArray,s0=.string t∧Hid (PlayS w B p d st m s t wr)) (fun s0 _=>strLen s0)
 case atStart=>exact ⟨_,rfl,Lib.hid (Or.inl ⟨rfl,HS3⟩)⟩
 case round =>
  clear HS3
  obtain ⟨t,rfl,HP⟩:=hrel
  rcases HP.out with ⟨rfl,HS⟩ | ⟨rfl,g,cap,HS⟩
  all_goals clear HP
  case inl =>
   have HCU:=Lib.hid (str_cut wr (HW.out.up HW.out.z HS.out.old))
   go_wp2_with fail
   refine (HCU.out).mono ?_
   rintro e w5 ⟨rfl,hb5⟩
   have HS5:=Lib.hid (HS.out.up hb5.out)
   have HLI:=Lib.hid (shLine HS5 HW.out)
   clear HCU hb5 HS
   go_wp2_with fail
   refine (HLI.out).mono ?_
   rintro e w6 ⟨rfl,g,cap,HS6⟩
   clear HLI HS5
   go_wp2_with fail
   go_roundw
   case rel=>exact ⟨_,rfl,Lib.hid (Or.inr ⟨rfl,g,cap,HS6⟩)⟩
   case measure=>exact (by decide:(0:Nat) < 5)
  case inr =>
   obtain ⟨F,hF,_⟩:=HS.out.get 1 rfl
   have c1:wr.cell? ⟨B,1,none⟩=some (.slice (some ⟨g,0,none⟩) 33 cap):=by rw [cell_row hF.2];rfl
   obtain ⟨F2,hF2,_⟩:=HS.out.get 7 rfl
   have hcv:=stat_convert hF2
   have HOLD:=Lib.hid HS.out.old
   clear hF hF2 HS
   go_wp2_with fail
   go_ret
   exact ⟨rfl,HOLD.out⟩
end
end Go.Proofs
namespace Sc
open Go Go.RowKit
section
variable {α:Type} {T k:Nat} {R:(Nat→Prop)→World→List Value→α→Prop}
def OutA (T k:Nat) (R:(Nat→Prop)→World→List Value→α→Prop) (hR:RStable R) (v:Value) (l:List α):Asn :=
 ⟨fun F w=>∃ D,OutS T k R 0 w v l D∧(∀ g,v.ownBlock=some g→F g)∧(∀ b,D b→F b),fun _ _ _ hs hz ⟨D,h1,h2,h3⟩=>⟨D,h1.same hR hs hz h2 h3,h2,h3⟩⟩
end
def histR (D:Nat→Prop) (w:World) (cs:List Value) (x:Hist):Prop:=∃ rv pv,cs=[.int .i64 x.state,.int .i64 x.begun,.int .i64 x.time,.int .i64 x.since,.int .i64 x.upto,rv,pv]∧(I64 x.state∧I64 x.begun∧I64 x.time∧I64 x.since∧I64 x.upto)∧ReadsAt D w rv x.reads∧PutsAt D w pv x.puts
theorem histR_stable:RStable histR:=fun _ _ _ _ _ _ hd hs ⟨rv,pv,h1,h2,h3,h4⟩=>⟨rv,pv,h1,h2,SlAt.mono (h3.same hs) hd (fun _ _ _ ⟨a1,a2,⟨v,a3,a4⟩,a5⟩=>⟨a1,a2,⟨v,a3,a4.mono hd⟩,a5⟩),(h4.same hs).mono hd⟩
end Sc
namespace Sc
open Go Go.RowKit
theorem ReadsW.reads {G:Nat→Prop} {w:World} {v:Value} {l:List Sc.Read} (h:Go.Proofs.ReadsW G w v l):ReadsAt G w v l :=
 SlAt.mono h (fun _ h=>h) (fun _ _ _ ⟨h1,h2,⟨v,h3,h4⟩,h5⟩=>⟨h1,h2,⟨v,h3,h4.bytes⟩,h5⟩)
theorem histR_mono {D D':Nat→Prop} {w:World} {cs:List Value} {x:Hist} (h:histR D w cs x) (hd:∀ k,D k→D' k):histR D' w cs x:=histR_stable D D' w w cs x hd (Same.refl _ _) h
def DatHs (css:List (List Value)) (l:List Hist):Asn:=⟨fun F w=>All2 (histR F w) css l,fun F w w' hs _ h=>h.imp fun _ _ hb=>histR_stable F F w w' _ _ (fun _ h=>h) hs hb⟩
def PenHs (css:List (List Value)) (l:List Hist) (rv:Value) (rs:List Sc.Read):Asn:=⟨fun F w=>All2 (histR F w) css l∧ReadsAt F w rv rs,fun F w w' hs _ h=>⟨h.1.imp fun _ _ hb=>histR_stable F F w w' _ _ (fun _ h=>h) hs hb,h.2.same hs⟩⟩
theorem all2_snocH {α β:Type} {R:α→β→Prop} {a:α} {b:β} (h:R a b):∀ {l:List α} {m:List β},All2 R l m→All2 R (l++[a]) (m++[b])
 | [],[],_=>⟨h,trivial⟩
 | _ :: _,_ :: _,⟨h1,h2⟩=>⟨h1,all2_snocH h h2⟩
 | [],_ :: _,h'=>h'.elim
 | _ :: _,[],h'=>h'.elim
theorem Sep.hist_join {W w:World} {L:List Asn} {rv pv:Value} {rs:List Sc.Read} {ps:List Put} (h:Sep W (L++[Go.Proofs.ReadsWA rv rs,PutsWA pv ps]) w) (i:Nat) {css:List (List Value)} {l:List Hist} (hi:L[i]? = some (DatHs css l)) (x:Hist) (h1:x.reads=rs) (h2:x.puts=ps) (h3:I64 x.state∧I64 x.begun∧I64 x.time∧I64 x.since∧I64 x.upto) :
  Sep W (L.set i (DatHs (css++[[.int .i64 x.state,.int .i64 x.begun,.int .i64 x.time,.int .i64 x.since,.int .i64 x.upto,rv,pv]]) (l++[x]))) w:=by
 subst h1 h2
 have hil:=(List.getElem?_eq_some_iff.1 hi).1
 have e1:(L++[Go.Proofs.ReadsWA rv x.reads,PutsWA pv x.puts])[i]? = some (DatHs css l):=by rw [List.getElem?_append_left hil];exact hi
 have e2:(L++[Go.Proofs.ReadsWA rv x.reads,PutsWA pv x.puts])[L.length]? = some (Go.Proofs.ReadsWA rv x.reads):=by rw [List.getElem?_append_right (Nat.le_refl _),Nat.sub_self];rfl
 obtain ⟨F,F2,G,hA,hB,_,_,_,_,_,_,K⟩:=h.both i L.length (by omega) e1 e2
 have k1:=K w (fun k=>F k∨F2 k) (PenHs css l rv x.reads) (Chg.refl _ _) (fun k hk=>.inl hk) ⟨All2.imp (fun _ _ (h:histR F w _ _)=>histR_mono h fun _ h=>.inl h) hA,SlAt.mono (ReadsW.reads hB) (fun _ h=>.inr h) (fun _ _ _ ⟨a1,a2,⟨v,a3,a4⟩,a5⟩=>⟨a1,a2,⟨v,a3,a4.mono fun _ h=>.inr h⟩,a5⟩)⟩
 rw [List.set_append_right _ _ (Nat.le_refl _),Nat.sub_self] at k1
 change Sep W ((L++[TrueA,PutsWA pv x.puts]).set i (PenHs css l rv x.reads)) w at k1
 rw [List.set_append_left _ _ hil] at k1
 have hsl:(L.set i (PenHs css l rv x.reads)).length=L.length:=List.length_set ..
 have e3:(L.set i (PenHs css l rv x.reads)++[TrueA,PutsWA pv x.puts])[i]? = some (PenHs css l rv x.reads):=by rw [List.getElem?_append_left (by omega),List.getElem?_set_self hil]
 have e4:(L.set i (PenHs css l rv x.reads)++[TrueA,PutsWA pv x.puts])[L.length+1]? = some (PutsWA pv x.puts):=by
  rw [List.getElem?_append_right (by omega),hsl,show L.length+1 - L.length=1 by omega];rfl
 obtain ⟨F3,F4,G',⟨hC1,hC2⟩,hD,_,_,_,_,_,_,K'⟩:=k1.both i (L.length+1) (by omega) e3 e4
 have k2:=K' w (fun k=>F3 k∨F4 k) (DatHs (css++[[.int .i64 x.state,.int .i64 x.begun,.int .i64 x.time,.int .i64 x.since,.int .i64 x.upto,rv,pv]]) (l++[x])) (Chg.refl _ _) (fun k hk=>.inl hk) (all2_snocH ⟨rv,pv,rfl,h3,SlAt.mono hC2 (fun _ h=>.inl h) (fun _ _ _ ⟨a1,a2,⟨v,a3,a4⟩,a5⟩=>⟨a1,a2,⟨v,a3,a4.mono fun _ h=>.inl h⟩,a5⟩),PutsAt.mono (PutsW.puts hD) fun _ h=>.inr h⟩ (All2.imp (fun _ _ (h:histR F3 w _ _)=>histR_mono h fun _ h=>.inl h) hC1))
 have k3:=k2.take L.length
 rw [List.set_append_right _ _ (by omega),hsl,show L.length+1 - L.length=1 by omega] at k3
 change Sep W (((L.set i (PenHs css l rv x.reads)++[TrueA,TrueA]).set i (DatHs (css++[[.int .i64 x.state,.int .i64 x.begun,.int .i64 x.time,.int .i64 x.since,.int .i64 x.upto,rv,pv]]) (l++[x]))).take L.length) w at k3
 rw [List.set_append_left _ _ (by omega),List.set_set,List.take_left' (by simp)] at k3
 exact k3
theorem hists_row {T n c:Nat} {p:Option Addr} {css:List (List Value)} {l:List Hist} {F D G:Foot} {w:World} (hr:(RowA T 7 (.slice p n c) n css.flatten).P F w) (hd:All2 (histR D w) css l) (hn:l.length=n) (hF:∀ k,F k→G k) (hD:∀ k,D k→G k):HistsAt G w (.slice p n c) l:=by
 subst hn
 have hc7:∀ cs∈css,cs.length=7:=by
  intro cs hcs
  obtain ⟨i,hi,rfl⟩:=List.getElem_of_mem hcs
  obtain ⟨rv,pv,e,_⟩:=All2.get hd i hi (by rw [← All2.length hd];exact hi)
  rw [e];rfl
 obtain ⟨a3,h2⟩:=hr
 have hrow:=a3
 have hll:=All2.length hd
 obtain ⟨hx,hc | ⟨g,cap,cur,e,hb,hg,hnc,hcm,hcs,htake⟩⟩:=a3
 ·obtain ⟨e,hl0⟩:=hc
  obtain rfl:l=[]:=List.length_eq_zero_iff.1 hl0
  rw [e]
  exact SlAt.nil
 ·cases e
  refine ⟨_,c,rfl,hnc,by unfold maxLen at hcm;omega,(by intro hh;cases hh),fun i hi=>⟨g,0,rfl,hF _ (h2 g rfl),?_⟩⟩
  have hi':i < css.length:=by omega
  obtain ⟨rv,pv,e1,e2,e3,e4⟩:=All2.get hd i hi' hi
  have hf:∀ j,j < 7→w.cell? ⟨g,0+i * 7+j,none⟩=css[i][j]? := fun j hj=>by
   rw [Nat.zero_add,hrow.cellAt (i * 7+j) (by omega)]
   exact flat_get hc7 i hi' j hj
  have f0:=hf 0 (by omega)
  rw [Nat.add_zero] at f0
  rw [e1] at hf f0
  have hr':ReadsAt G w rv l[i].reads:=SlAt.mono e3 hD (fun _ _ _ ⟨a1,a2,⟨v,a3,a4⟩,a5⟩=>⟨a1,a2,⟨v,a3,a4.mono hD⟩,a5⟩)
  exact ⟨f0,hf 1 (by omega),hf 2 (by omega),hf 3 (by omega),hf 4 (by omega),e2,⟨rv,hf 5 (by omega),hr'⟩,pv,hf 6 (by omega),e4.mono hD⟩
end Sc
namespace Go.Proofs
theorem infoHistR:(Tryz.prog.info? 39).map (fun i=>(i.zero,i.size,i.bytes))=some (some (.agg #[.int .i64 0,.int .i64 0,.int .i64 0,.int .i64 0,.int .i64 0,.slice none 0 0,.slice none 0 0]),7,88):=by kernel_rfl
end Go.Proofs
namespace Go.Proofs
open Go.RowKit Sc
section
variable {W w:World} {L T:List Asn} {x p d st:Nat} {s:SdS} {c:SdC}
theorem mr_get {M T:List Asn} {k:Nat}:(M++T)[M.length+k]? = T[k]? := by rw [List.getElem?_append_right (by omega),Nat.add_sub_cancel_left]
theorem mr_set {M T:List Asn} {k:Nat} {A:Asn}:(M++T).set (M.length+k) A=M++T.set k A:=by rw [List.set_append_right _ _ (by omega),Nat.add_sub_cancel_left]
structure HstF (M:List Asn) (p st:Nat) (s:SdS) (c:SdC) (W:World):Prop where
 c1:∀ T w',Sep W (M++T) w'→w'.cell? ⟨p,1,none⟩=some (pt st)∧w'.cell? ⟨p,34,none⟩=some c.av
 bg:∀ T w' j b,Sep W (M++T) w'→c.bb[j]? = some b→∃ hj:j < s.bg.length,w'.heap[b]? = some (.cells (bgRow s.bg[j]) 79 (0,0))
 rw':∀ T w' j b g o cap,Sep W (M++T) w'→c.bb[j]? = some b→c.av=.slice (some ⟨g,o,none⟩) s.bg.length cap→w'.cell? ⟨g,o+j,none⟩=some (pt b)
theorem hstF (hc:SdOk c s):HstF (OL L x (sdItems p d st c s)) p st s c W:=by
 refine ⟨fun T w' h=>?_,fun T w' j b h hb=>?_,fun T w' j b g o cap h hb he=>?_⟩
 ·rw [OL_app] at h
  exact ⟨(sdT_cells h).2,(sdT_all h hc.toSd8).1⟩
 ·rw [OL_app] at h
  exact sdT_beg h hc hb
 ·rw [OL_app] at h
  obtain ⟨F,hF,_⟩:=h.get (L.length+1) (A:=ORowA 1 c.av s.bg.length (c.bb.map pt)) (sdT_get (by rw [sd_head 1 (by omega)];rfl))
  exact ORowP.cell hF he (by rw [List.getElem?_map,hb];rfl)
theorem sd_avShape (h:Sep W (OL L x (sdItems p d st c s)) w):∃ vp cap,c.av=.slice vp s.bg.length cap∧(0 < s.bg.length→∃ g o,vp=some ⟨g,o,none⟩):=by
 have h':Sep W (OL L x (sdItems p d st c s++[])) w:=by rw [List.append_nil];exact h
 obtain ⟨F,hF,_⟩:=h'.get (L.length+1) (A:=ORowA 1 c.av s.bg.length (c.bb.map pt)) (sdT_get (by rw [sd_head 1 (by omega)];rfl))
 by_cases h0:0 < s.bg.length
 ·obtain ⟨g,o,cap,e,_⟩:=ORowP.base hF h0
  exact ⟨_,cap,e,fun _=>⟨g,o,rfl⟩⟩
 ·obtain ⟨vp,cap,e,_⟩:=ORowP.shape hF
  exact ⟨vp,cap,e,fun h=>absurd h h0⟩
theorem box7_q {W w:World} {L:List Asn} {i b:Nat} {u0 u1 u2 u3 u4 u5 u6:Value} {T:TypeId} (h:Sep W L w) (hi:L[i]? = some (BoxA b #[u0,u1,u2,u3,u4,u5,u6] T)) :
  (w.cell? ⟨b,0,none⟩=some u0∧w.cell? ⟨b,1,none⟩=some u1∧w.cell? ⟨b,2,none⟩=some u2∧w.cell? ⟨b,3,none⟩=some u3∧w.cell? ⟨b,4,none⟩=some u4∧w.cell? ⟨b,5,none⟩=some u5∧w.cell? ⟨b,6,none⟩=some u6) ∧
  ∀ j,w.frozen? ⟨b,j,none⟩=false:=by
 obtain ⟨F,hF,_⟩:=h.get i hi
 exact ⟨⟨by rw [cell_row hF.2];rfl,by rw [cell_row hF.2];rfl,by rw [cell_row hF.2];rfl,by rw [cell_row hF.2];rfl,by rw [cell_row hF.2];rfl,by rw [cell_row hF.2];rfl,by rw [cell_row hF.2];rfl⟩,fun j=>fz_row hF.2 j⟩
set_option maxRecDepth 100000 in
set_option maxHeartbeats 4000000 in
theorem sdHistories (h:Hid (Sep W L w)) (hx:L[x]? = some (SchA p d st s)) {ist jm m sl pos num:Nat} {S:MgS} (hist:L[ist]? = some (StoreB st d m sl pos num)) (hjm:L[jm]? = some (MgrA (pt m) S)) (h1:ist≠x) (h2:jm≠x) {N:Nat} (g:MgG N S) (hN:N≤1000000) (hbn:s.bg.length≤100000)
  (hI:∀ j (hj:j < s.bg.length),I64 (histB S s.bg[j]).state∧I64 (histB S s.bg[j]).begun∧I64 (histB S s.bg[j]).time∧I64 (histB S s.bg[j]).since∧I64 (histB S s.bg[j]).upto) :
  Calls Tryz.prog 8 #[pt p] w fun e w'=>∃ css pr cr,e=.returned (.slice pr s.bg.length cr)∧Hid (Sep W (L++[DatHs css (hsB s S s.bg.length),RowA 39 7 (.slice pr s.bg.length cr) s.bg.length css.flatten]) w'):=by
 obtain ⟨c,hc,hS,hxl⟩:=SchA.opened h.out hx
 have hil:=(List.getElem?_eq_some_iff.1 hist).1
 have hml:=(List.getElem?_eq_some_iff.1 hjm).1
 have HF:Hid (HstF (OL L x (sdItems p d st c s)) p st s c W):=hstF hc
 obtain ⟨vp,vc,hav,hvp⟩:=sd_avShape hS
 have HBL:=Lib.hid hc.bl
 have HHB:=Lib.hid hc.hb
 have HIST:Hid ((OL L x (sdItems p d st c s))[ist]? = some (StoreB st d m sl pos num)):=(OL_old hil h1).trans hist
 have HJM:Hid ((OL L x (sdItems p d st c s))[jm]? = some (MgrA (pt m) S)):=(OL_old hml h2).trans hjm
 have HEND:Hid (∀ T w',Sep W (OL L x (sdItems p d st c s)++T) w'→Sep W (L++T) w'):=fun T w' hh=>by
  rw [OL_app] at hh
  have hq:=SchA.closed (OL_in hxl hh) (by rw [List.length_append];omega) hc
  rw [List.set_append_left _ _ hxl,set_same hx] at hq
  exact hq
 have hs0:=(hS.new (Below.refl _ _) (DatHs [] []) (F:=fun _=>False) (fun _ h=>h.elim) trivial).new (Below.refl _ _) (RowA 39 7 (.slice none 0 0) 0 []) (F:=fun _=>False) (fun _ h=>h.elim) ⟨World.ownsRow_nil _ _ _ _,by simp [Value.ownBlock]⟩
 rw [List.append_assoc] at hs0
 obtain ⟨M,hM⟩:∃ M,OL L x (sdItems p d st c s)=M:=⟨_,rfl⟩
 rw [hM] at HF HIST HJM HEND hs0
 obtain ⟨n,hn⟩:∃ n,s.bg.length=n:=⟨_,rfl⟩
 have HNN:=Lib.hid hn
 rw [hn] at hav hvp hbn
 have HS0:Hid (Sep W (M++[DatHs [] (hsB s S 0),RowA 39 7 (.slice none 0 0) 0 ([]:List (List Value)).flatten]) w):=hs0
 obtain ⟨c1,c34⟩:=HF.out.c1 _ _ HS0.out
 rw [hav] at c34
 have HAV:=Lib.hid hav
 have HVP:=Lib.hid hvp
 have HG:Hid (MgG N S):=g
 have HII:=Lib.hid hI
 have HGO:=Lib.hid (sdGone p st w c1)
 rw [hn]
 clear hc hS hil hml hist hjm h hx hM hs0 hn hav hvp g hI h1 h2 hxl
 go_enter Tryz.func8,Tryz.ntmps8
 go_wp2_with fail
 refine (HGO.out).mono ?_
 rintro e w1 ⟨rfl,rfl⟩
 clear HGO c1
 go_wp2_with fail
 clear c34
 go_loopw [2,13] (fun s2 s13 wr=>∃ k:Nat,∃ css pr cr,k≤n∧s13=.int .i64 (k:Int)∧s2=.slice pr k cr∧Hid (Sep W (M++[DatHs css (hsB s S k),RowA 39 7 (.slice pr k cr) k css.flatten]) wr)) (fun _ s13 _=>n - (intOf s13).toNat)
 case atStart=>exact ⟨0,[],none,0,Nat.zero_le _,by go_num,rfl,HS0⟩
 case round =>
  clear HS0
  obtain ⟨k,css,pr,cr,hk,rfl,rfl,HS⟩:=hrel
  by_cases hlt:k < n
  case pos =>
   have hki:(k:Int) < (n:Int):=by omega
   have hkb:k < s.bg.length:=by rw [HNN.out];exact hlt
   obtain ⟨bk,hbk⟩:∃ b,c.bb[k]? = some b:=⟨_,List.getElem?_eq_getElem (by rw [HBL.out];exact hkb)⟩
   have HBK:=Lib.hid hbk
   obtain ⟨gg,oo,rfl⟩:=HVP.out (by omega)
   have crow:=HF.out.rw' _ _ k bk gg oo vc HS.out hbk (by rw [HAV.out,HNN.out])
   obtain ⟨_,hbx⟩:=HF.out.bg _ _ k bk HS.out hbk
   have b3:wr.cell? ⟨bk,3,none⟩=some (.int .i64 0):=by rw [cell_row hbx];rfl
   have b4:wr.cell? ⟨bk,4,none⟩=some (.int .i64 0):=by rw [cell_row hbx];rfl
   have b5:wr.cell? ⟨bk,5,none⟩=some (.int .i64 0):=by rw [cell_row hbx];rfl
   have b6:wr.cell? ⟨bk,6,none⟩=some (.int .i64 0):=by rw [cell_row hbx];rfl
   have b7:wr.cell? ⟨bk,7,none⟩=some (.int .i64 0):=by rw [cell_row hbx];rfl
   have b8:wr.cell? ⟨bk,8,none⟩=some (.slice none 0 0):=by rw [cell_row hbx];rfl
   have b9:wr.cell? ⟨bk,9,none⟩=some (.slice none 0 0):=by rw [cell_row hbx];rfl
   have HCP:=Lib.hid (sdCopied0 wr)
   have HX:=Lib.hid (hsB_succ s S hkb)
   have HH1:=Lib.hid (HHB.out _ (List.getElem_mem hkb))
   have HIK:=Lib.hid (HII.out k hkb)
   have HBX:Hid (∀ T w',Sep W (M++T) w'→w'.heap[bk]? = some (.cells (bgRow (s.bg[k]'hkb)) 79 (0,0))):=fun T w' hh=>(HF.out.bg T w' k bk hh HBK.out).2
   generalize s.bg[k]'hkb=B at *
   clear hbk hbx
   go_wp2_with fail
   refine (HCP.out).mono ?_
   rintro e w1 ⟨rfl,HB1⟩
   clear HCP crow b3 b4 b5 b6 b7 b8 b9
   have hs2:=Go.Proofs.Sep.boxT (HS.out.up HB1.out) #[.int .i64 0,.int .i64 0,.int .i64 0,.int .i64 0,.int .i64 0,.slice none 0 0,.slice none 0 0] 39
   rw [List.append_assoc] at hs2
   obtain ⟨wb,hwb⟩:∃ wb,w1.alloc (.cells #[.int .i64 0,.int .i64 0,.int .i64 0,.int .i64 0,.int .i64 0,.slice none 0 0,.slice none 0 0] 39 (0,0))=wb:=⟨_,rfl⟩
   obtain ⟨H,hH⟩:∃ H,w1.heap.size=H:=⟨_,rfl⟩
   rw [hwb,hH] at hs2
   have HS2:Hid (Sep W (M++[DatHs css (hsB s S k),RowA 39 7 (.slice pr k cr) k css.flatten,BoxA H #[.int .i64 0,.int .i64 0,.int .i64 0,.int .i64 0,.int .i64 0,.slice none 0 0,.slice none 0 0] 39]) wb):=hs2
   obtain ⟨⟨y0,y1,y2,y3,y4,y5,y6⟩,hfz⟩:=box7_q HS2.out (i:=M.length+2) (by rw [mr_get];rfl)
   have f0:=hfz 0
   have f1:=hfz 1
   have f2:=hfz 2
   have f3:=hfz 3
   have f4:=hfz 4
   have f5:=hfz 5
   have f6:=hfz 6
   have hs3:=box_fill7 HS2.out (i:=M.length+2) (by rw [mr_get];rfl) (.int .i64 0) (.int .i64 0) (.int .i64 0) (.int .i64 0) (.int .i64 0) (.slice none 0 0) (.slice none 0 0)
   rw [mr_set] at hs3
   have HS3:Hid (Sep W (M++[DatHs css (hsB s S k),RowA 39 7 (.slice pr k cr) k css.flatten,BoxA H #[.int .i64 0,.int .i64 0,.int .i64 0,.int .i64 0,.int .i64 0,.slice none 0 0,.slice none 0 0] 39]) (((((((wb.setCell ⟨H,0,none⟩ (.int .i64 0)).setCell ⟨H,1,none⟩ (.int .i64 0)).setCell ⟨H,2,none⟩ (.int .i64 0)).setCell ⟨H,3,none⟩ (.int .i64 0)).setCell ⟨H,4,none⟩ (.int .i64 0)).setCell ⟨H,5,none⟩ (.slice none 0 0)).setCell ⟨H,6,none⟩ (.slice none 0 0))):=hs3
   clear hs2 hs3 HS2 HS HB1 hfz
   go_upto_region 7 with fail
   try rw [hwb]
   try rw [hH]
   clear hwb hH y0 y1 y2 y3 y4 y5 y6 f0 f1 f2 f3 f4 f5 f6
   generalize ((((((wb.setCell ⟨H,0,none⟩ (.int .i64 0)).setCell ⟨H,1,none⟩ (.int .i64 0)).setCell ⟨H,2,none⟩ (.int .i64 0)).setCell ⟨H,3,none⟩ (.int .i64 0)).setCell ⟨H,4,none⟩ (.int .i64 0)).setCell ⟨H,5,none⟩ (.slice none 0 0)).setCell ⟨H,6,none⟩ (.slice none 0 0)=w2 at *
   have hbx:=HBX.out _ _ HS3.out
   have b0:w2.cell? ⟨bk,0,none⟩=some (.int .i64 B.h):=by rw [cell_row hbx];rfl
   have hpos:0 < B.h:=by have:=HH1.out;omega
   clear hbx
   go_upto_region 8 with fail
   clear b0
   have hdr:Sep W _ w2.drew:=HS3.out.up (below_drewN (Below.refl w2.heap.size w2) 1)
   have HS4:Hid (Sep W (M++[DatHs css (hsB s S k),RowA 39 7 (.slice pr k cr) k css.flatten,BoxA H #[.int .i64 0,.int .i64 0,.int .i64 0,.int .i64 0,.int .i64 0,.slice none 0 0,.slice none 0 0] 39]) w2.drew):=hdr
   clear hdr HS3 hpos
   refine wp_regionH (fun W=>W.cell? ⟨p,1,none⟩=some (pt st)∧W.cell? ⟨bk,0,none⟩=some (.int .i64 B.h)) (n:=10) (by kernel_rfl) (by kernel_rfl) ?_
   generalize w2.drew=wd at *
   have q1:=(HF.out.c1 _ _ HS4.out).1
   have hbx:=HBX.out _ _ HS4.out
   have q2:wd.cell? ⟨bk,0,none⟩=some (.int .i64 B.h):=by rw [cell_row hbx];rfl
   have HHY:=Lib.hid (stHistory HS4 ist (by rw [List.getElem?_append_left (List.getElem?_eq_some_iff.1 HIST.out).1];exact HIST.out) jm (by rw [List.getElem?_append_left (List.getElem?_eq_some_iff.1 HJM.out).1];exact HJM.out) HG.out hN HH1.out)
   clear hbx
   refine wpH.tk 0 ?_
   refine wpH.tk 1 ?_
   refine wpH.tk 2 ?_
   refine wpH.tk 3 ?_ (hy:=by intro W hW;have hld0:=hW.1;go_simp;try with_reducible rfl)
   refine wpH.tk 4 ?_
   refine wpH.tk 5 ?_
   refine wpH.tk 6 ?_
   refine wpH.tk 7 ?_ (hy:=by intro W hW;have hld0:=hW.2;go_simp;try with_reducible rfl)
   refine wpH.alone 8 rfl (by kernel_rfl) (by kernel_rfl) ⟨q1,q2⟩ (fun K hK=>?_)
   go_simp
   go_at_call 26
   refine (HHY.out).mono ?_
   rintro e w4 ⟨rp,rc,pp,pc,rfl,hS5⟩
   have hs5:=hS5.out
   rw [List.append_assoc] at hs5
   have HS5:Hid (Sep W (M++[DatHs css (hsB s S k),RowA 39 7 (.slice pr k cr) k css.flatten,BoxA H #[.int .i64 0,.int .i64 0,.int .i64 0,.int .i64 0,.int .i64 0,.slice none 0 0,.slice none 0 0] 39,Go.Proofs.ReadsWA (.slice rp (txAt S.txs B.h).R.length rc) (txAt S.txs B.h).R,PutsWA (.slice pp (txAt S.txs B.h).buf.length pc) (bufPuts (txAt S.txs B.h).buf)]) w4):=hs5
   clear hs5 hS5 HHY HS4 q1 q2
   obtain ⟨t0,ht0⟩:∃ t,(txAt S.txs B.h).st=t:=⟨_,rfl⟩
   obtain ⟨t1,ht1⟩:∃ t,(txAt S.txs B.h).at'=t:=⟨_,rfl⟩
   obtain ⟨t2,ht2⟩:∃ t,(txAt S.txs B.h).tm=t:=⟨_,rfl⟩
   obtain ⟨rn,hrn⟩:∃ t,(txAt S.txs B.h).R.length=t:=⟨_,rfl⟩
   obtain ⟨bn,hbn2⟩:∃ t,(txAt S.txs B.h).buf.length=t:=⟨_,rfl⟩
   have HT:Hid ((txAt S.txs B.h).st=t0∧(txAt S.txs B.h).at'=t1∧(txAt S.txs B.h).tm=t2):=⟨ht0,ht1,ht2⟩
   rw [hrn,hbn2] at HS5
   unfold histV
   rw [ht0,ht1,ht2,hrn,hbn2]
   clear ht0 ht1 ht2 hrn hbn2
   obtain ⟨⟨y0,y1,y2,y3,y4,y5,y6⟩,hfz⟩:=box7_q HS5.out (i:=M.length+2) (by rw [mr_get];rfl)
   have f0:=hfz 0
   have f1:=hfz 1
   have f2:=hfz 2
   have f3:=hfz 3
   have f4:=hfz 4
   have f5:=hfz 5
   have f6:=hfz 6
   have hs6:=box_fill7 HS5.out (i:=M.length+2) (by rw [mr_get];rfl) (.int .i64 t0) (.int .i64 t1) (.int .i64 t2) (.int .i64 0) (.int .i64 0) (.slice rp rn rc) (.slice pp bn pc)
   rw [mr_set] at hs6
   have HS6:Hid (Sep W (M++[DatHs css (hsB s S k),RowA 39 7 (.slice pr k cr) k css.flatten,BoxA H #[.int .i64 t0,.int .i64 t1,.int .i64 t2,.int .i64 0,.int .i64 0,.slice rp rn rc,.slice pp bn pc] 39,Go.Proofs.ReadsWA (.slice rp rn rc) (txAt S.txs B.h).R,PutsWA (.slice pp bn pc) (bufPuts (txAt S.txs B.h).buf)]) (((((((w4.setCell ⟨H,0,none⟩ (.int .i64 t0)).setCell ⟨H,1,none⟩ (.int .i64 t1)).setCell ⟨H,2,none⟩ (.int .i64 t2)).setCell ⟨H,3,none⟩ (.int .i64 0)).setCell ⟨H,4,none⟩ (.int .i64 0)).setCell ⟨H,5,none⟩ (.slice rp rn rc)).setCell ⟨H,6,none⟩ (.slice pp bn pc))):=hs6
   have k1:=(HF.out.c1 _ _ HS5.out).1
   have hbx:=HBX.out _ _ HS5.out
   have k2:w4.cell? ⟨bk,0,none⟩=some (.int .i64 B.h):=by rw [cell_row hbx];rfl
   clear hs6 HS5 hfz hbx
   try go_simp
   refine hK _ _ ?_
   clear hK K
   refine wpH.alone 9 rfl (by kernel_rfl) (by kernel_rfl) ⟨k1,k2⟩ (fun K hK=>?_)
   go_simp
   try go_simp
   refine hK _ _ ?_
   clear hK K
   refine wpH.done (by kernel_rfl) (by kernel_rfl) ?_
   clear y0 y1 y2 y3 y4 y5 y6 f0 f1 f2 f3 f4 f5 f6 k1 k2
   generalize ((((((w4.setCell ⟨H,0,none⟩ (.int .i64 t0)).setCell ⟨H,1,none⟩ (.int .i64 t1)).setCell ⟨H,2,none⟩ (.int .i64 t2)).setCell ⟨H,3,none⟩ (.int .i64 0)).setCell ⟨H,4,none⟩ (.int .i64 0)).setCell ⟨H,5,none⟩ (.slice rp rn rc)).setCell ⟨H,6,none⟩ (.slice pp bn pc)=w5 at *
   go_upto_region 9 with fail
   have hdr:Sep W _ w5.drew:=HS6.out.up (below_drewN (Below.refl w5.heap.size w5) 1)
   have HS7:Hid (Sep W (M++[DatHs css (hsB s S k),RowA 39 7 (.slice pr k cr) k css.flatten,BoxA H #[.int .i64 t0,.int .i64 t1,.int .i64 t2,.int .i64 0,.int .i64 0,.slice rp rn rc,.slice pp bn pc] 39,Go.Proofs.ReadsWA (.slice rp rn rc) (txAt S.txs B.h).R,PutsWA (.slice pp bn pc) (bufPuts (txAt S.txs B.h).buf)]) w5.drew):=hdr
   clear hdr HS6
   refine wp_regionG (fun W=>W.cell? ⟨bk,1,none⟩=some (.int .i64 B.fr)∧W.cell? ⟨bk,2,none⟩=some (.int .i64 B.en)) (n:=12) (by kernel_rfl) (by kernel_rfl) ?_
   generalize w5.drew=wd2 at *
   have hbx:=HBX.out _ _ HS7.out
   have q1:wd2.cell? ⟨bk,1,none⟩=some (.int .i64 B.fr):=by rw [cell_row hbx];rfl
   have q2:wd2.cell? ⟨bk,2,none⟩=some (.int .i64 B.en):=by rw [cell_row hbx];rfl
   obtain ⟨⟨_,_,_,y3,y4,_,_⟩,hfz⟩:=box7_q HS7.out (i:=M.length+2) (by rw [mr_get];rfl)
   have f3:=hfz 3
   have f4:=hfz 4
   have hs8:=HS7.out.box_store (M.length+2) (by rw [mr_get];rfl) 3 (.int .i64 B.fr)
   rw [mr_set] at hs8
   have hs8':Sep W (M++[DatHs css (hsB s S k),RowA 39 7 (.slice pr k cr) k css.flatten,BoxA H #[.int .i64 t0,.int .i64 t1,.int .i64 t2,.int .i64 B.fr,.int .i64 0,.slice rp rn rc,.slice pp bn pc] 39,Go.Proofs.ReadsWA (.slice rp rn rc) (txAt S.txs B.h).R,PutsWA (.slice pp bn pc) (bufPuts (txAt S.txs B.h).buf)]) (wd2.setCell ⟨H,3,none⟩ (.int .i64 B.fr)):=hs8
   obtain ⟨⟨_,_,_,_,z4,_,_⟩,hfz2⟩:=box7_q hs8' (i:=M.length+2) (by rw [mr_get];rfl)
   have e4:=hfz2 4
   have hs9:=hs8'.box_store (M.length+2) (by rw [mr_get];rfl) 4 (.int .i64 B.en)
   rw [mr_set] at hs9
   have HS9:Hid (Sep W (M++[DatHs css (hsB s S k),RowA 39 7 (.slice pr k cr) k css.flatten,BoxA H #[.int .i64 t0,.int .i64 t1,.int .i64 t2,.int .i64 B.fr,.int .i64 B.en,.slice rp rn rc,.slice pp bn pc] 39,Go.Proofs.ReadsWA (.slice rp rn rc) (txAt S.txs B.h).R,PutsWA (.slice pp bn pc) (bufPuts (txAt S.txs B.h).buf)]) ((wd2.setCell ⟨H,3,none⟩ (.int .i64 B.fr)).setCell ⟨H,4,none⟩ (.int .i64 B.en))):=hs9
   have hbx8:=HBX.out _ _ hs8'
   have s1:(wd2.setCell ⟨H,3,none⟩ (.int .i64 B.fr)).cell? ⟨bk,1,none⟩=some (.int .i64 B.fr):=by rw [cell_row hbx8];rfl
   have s2:(wd2.setCell ⟨H,3,none⟩ (.int .i64 B.fr)).cell? ⟨bk,2,none⟩=some (.int .i64 B.en):=by rw [cell_row hbx8];rfl
   have hbx9:=HBX.out _ _ HS9.out
   have S9:Hid (((wd2.setCell ⟨H,3,none⟩ (.int .i64 B.fr)).setCell ⟨H,4,none⟩ (.int .i64 B.en)).cell? ⟨bk,1,none⟩=some (.int .i64 B.fr)∧((wd2.setCell ⟨H,3,none⟩ (.int .i64 B.fr)).setCell ⟨H,4,none⟩ (.int .i64 B.en)).cell? ⟨bk,2,none⟩=some (.int .i64 B.en)):=⟨by rw [cell_row hbx9];rfl,by rw [cell_row hbx9];rfl⟩
   clear hs8 hs8' hs9 hfz hfz2 HS7 hbx hbx8 hbx9
   refine wpG.tk 0 ?_
   refine wpG.tk 1 ?_
   refine wpG.tk 2 ?_
   refine wpG.tk 3 ?_ (hy:=by intro W hW;have hld0:=hW.1;go_simp;try with_reducible rfl)
   refine wpG.tk 4 ?_
   refine wpG.tk 5 ?_
   refine wpG.tk 6 ?_
   refine wpG.tk 7 ?_ (hy:=by intro W hW;have hld0:=hW.2;go_simp;try with_reducible rfl)
   refine wpG.tk 8 ?_
   refine wpG.alone 9 rfl (by kernel_rfl) (by kernel_rfl) ⟨q1,q2⟩ (fun K hK=>?_)
   go_simp
   try go_simp
   refine hK _ _ ?_
   clear hK K
   refine wpG.tk 10 ?_
   refine wpG.alone 11 rfl (by kernel_rfl) (by kernel_rfl) ⟨s1,s2⟩ (fun K hK=>?_)
   go_simp
   try go_simp
   refine hK _ _ ?_
   clear hK K
   refine wpG.done (by kernel_rfl) S9.out ?_
   clear q1 q2 y3 y4 f3 f4 z4 e4 s1 s2 S9
   generalize (wd2.setCell ⟨H,3,none⟩ (.int .i64 B.fr)).setCell ⟨H,4,none⟩ (.int .i64 B.en)=w6 at *
   obtain ⟨⟨y0,y1,y2,y3,y4,y5,y6⟩,_⟩:=box7_q HS9.out (i:=M.length+2) (by rw [mr_get];rfl)
   have hs10:=Go.Proofs.Sep.drop1 (A:=M++[DatHs css (hsB s S k),RowA 39 7 (.slice pr k cr) k css.flatten]) (B:=[Go.Proofs.ReadsWA (.slice rp rn rc) (txAt S.txs B.h).R,PutsWA (.slice pp bn pc) (bufPuts (txAt S.txs B.h).buf)]) (by rw [List.append_assoc];exact HS9.out)
   have hs11:=Sc.Sep.hist_join hs10 M.length (by rw [List.getElem?_append_right (Nat.le_refl _),Nat.sub_self];rfl) (histB S B) rfl rfl HIK.out
   rw [← HX.out] at hs11
   have e0:=HT.out
   have hcs:[Value.int .i64 (histB S B).state,.int .i64 (histB S B).begun,.int .i64 (histB S B).time,.int .i64 (histB S B).since,.int .i64 (histB S B).upto,.slice rp rn rc,.slice pp bn pc]=[.int .i64 t0,.int .i64 t1,.int .i64 t2,.int .i64 B.fr,.int .i64 B.en,.slice rp rn rc,.slice pp bn pc]:=by
    show [Value.int .i64 (txAt S.txs B.h).st,.int .i64 (txAt S.txs B.h).at',.int .i64 (txAt S.txs B.h).tm,.int .i64 B.fr,.int .i64 B.en,.slice rp rn rc,.slice pp bn pc]=_
    rw [e0.1,e0.2.1,e0.2.2]
   rw [hcs,List.set_append_right _ _ (Nat.le_refl _),Nat.sub_self] at hs11
   have HS11:Hid (Sep W (M++[DatHs (css++[[.int .i64 t0,.int .i64 t1,.int .i64 t2,.int .i64 B.fr,.int .i64 B.en,.slice rp rn rc,.slice pp bn pc]]) (hsB s S (k+1)),RowA 39 7 (.slice pr k cr) k css.flatten]) w6):=hs11
   obtain ⟨ii,hii,hiz,hiy,hix⟩:=info_parts infoHistR
   obtain ⟨g9,cap9,w9,hr9,hs12⟩:=Sc.Sep.row_push (P:=Tryz.prog) HS11.out (M.length+1) (by rw [mr_get];rfl) 33 33 ii (.agg #[.int .i64 0,.int .i64 0,.int .i64 0,.int .i64 0,.int .i64 0,.slice none 0 0,.slice none 0 0]) 88 Tryz.underlying33 hii hiz hiy hix rfl (by decide) (cs:=#[.int .i64 t0,.int .i64 t1,.int .i64 t2,.int .i64 B.fr,.int .i64 B.en,.slice rp rn rc,.slice pp bn pc]) rfl (by simp [Value.oneCell']) (by unfold maxLen;omega) (by omega) w6.heap.size rfl
   rw [mr_set] at hs12
   have HS12:Hid (Sep W (M++[DatHs (css++[[.int .i64 t0,.int .i64 t1,.int .i64 t2,.int .i64 B.fr,.int .i64 B.en,.slice rp rn rc,.slice pp bn pc]]) (hsB s S (k+1)),RowA 39 7 (.slice (some ⟨g9,0,none⟩) (k+1) cap9) (k+1) (css++[[Value.int .i64 t0,.int .i64 t1,.int .i64 t2,.int .i64 B.fr,.int .i64 B.en,.slice rp rn rc,.slice pp bn pc]]).flatten]) w9):=by
    rw [List.flatten_append,List.flatten_singleton]
    exact hs12
   have HR9:=Lib.hid hr9
   clear hs10 hs11 hs12 hr9 hcs e0 HS9 HS11 hii hiz hiy hix
   go_wp2_with (at_builtin;refine Lib.wpList_append_run _ rfl _ _ _ _ rfl _ _ rfl rfl _ _ HR9.out ?_)
   go_roundw
   case rel=>exact ⟨k+1,_,_,_,by omega,by go_num,rfl,HS12⟩
   case measure=>simp [intOf];omega
  case neg =>
   obtain rfl:k=n:=by omega
   have hki:¬ ((k:Int) < (k:Int)):=by omega
   have HE:=Lib.hid (HEND.out _ _ HS.out)
   have HNK:Hid (hsB s S s.bg.length=hsB s S k):=by show _=_;rw [HNN.out]
   clear HS
   go_wp2_with fail
   go_ret
   refine ⟨css,pr,cr,rfl,?_⟩
   first
    | exact HE
    | (rw [HNK.out];exact HE)
end
end Go.Proofs
namespace Go.Proofs
open Go.RowKit Sc
section
variable {W w:World} {p d st m sl N B:Nat} {Q:QS} {s:SdS} {S:MgS}
theorem TopK.step (hk:TopK N B Q s S) (hN:N < 1000000) {i:Nat} (hi:i < 8):TopK (N+16) (B+2) Q (stepSd s S i).1 (stepSd s S i).2.1 :=
 ⟨hk.b.step hN hi,hk.z8,hk.p192,hk.i1,by have:=hk.cn;omega,by have:=hk.nm;omega,by have h1:=hk.b.step_len hN i;have h2:=hk.nt;omega⟩
theorem topSt1 (h:Hid (Sep W (topL W p d st m sl Q s S) w)) (hk:TopK N B Q s S) (hN:N≤90000) (hB:B≤90000) {i:Nat} (hi:i < 8) :
  Calls Tryz.prog 15 #[pt p,.int .i64 ((i:Int)+1)] w fun e w'=>(∃ v,e=.returned v)∧Hid (Sep W (topL W p d st m sl Q (stepSd s S i).1 (stepSd s S i).2.1) w'):=by
 have hbg:s.bg.length≤100000:=by
  have h1:=hk.b.d.bl
  have h2:=hk.b.v.g.hn
  omega
 have hcg:=hk.b.d.at hi
 refine (sdStep h (x:=5) rfl (ist:=2) (jm:=4) rfl rfl (by decide) (by decide) (by decide) hk.b.v.g (by omega) (by have:=hk.b.v.g.qlen16;omega) i hi hbg (by have:=hk.b.d.ev;omega) (by have:=hcg.1;omega) (fun o ho'=>by have:=(hcg.2 o ho').1;omega)).mono ?_
 rintro e w' ⟨b0,b1,b2,b3,dp,dn,dc,cd,_,rfl,hS⟩
 exact ⟨⟨_,rfl⟩,hS⟩
end
def OpsA (v:Value) (l:List OpS):Asn:=⟨fun F w=>OpsAt F w v l,fun _ _ _ hs _ h=>h.same hs⟩
def awOps (d:Bytes):List OpS:=[⟨1,0,0,0,[]⟩,⟨3,0,0,0,[⟨1,d⟩]⟩,⟨4,0,0,0,[]⟩]
def awTx (st tm:Int) (b:List (Int × Bytes)):TxS:=⟨st,tm,0,0,b,[],[]⟩
def awM (st tm gv:Int) (b:List (Int × Bytes)) (q:List Int):MgS:=⟨258,0,[],1,[(1,0)],[awTx st tm b],q,0,0,0,0,gv,false⟩
def awC (ops:List OpS) (bs:List Nat) (na:Nat) (a:Bool) (bg:List BgS) (ev:Int):SdS:=⟨⟨ops,bs,na,a⟩ :: List.replicate 7 ⟨[],[],0,false⟩,bg,ev⟩
def awSt (d:Bytes):Nat→SdS × MgS
 | 0=>(addOps sd0 0 (awOps d),mgNew 258 0)
 | 1=>(awC [⟨3,0,0,0,[⟨1,d⟩]⟩,⟨4,0,0,0,[]⟩] [0] 1 false [⟨1,1,0⟩] 1,awM 1 0 0 [] [])
 | 2=>(awC [⟨4,0,0,0,[]⟩] [0] 2 false [⟨1,1,0⟩] 2,awM 1 0 0 [(1,d)] [])
 | _=>(awC [⟨4,0,0,0,[]⟩] [0] 2 true [⟨1,1,0⟩] 3,awM 2 1 1 [(1,d)] [1])
theorem aw_wr {d:Bytes} (hd:d.length=40):wrNext (awM 1 0 0 [] []) 1 [⟨1,d⟩]=awM 1 0 0 [(1,d)] []:=by
 obtain ⟨_,h2⟩:=wr_one (s:=awM 1 0 0 [] []) (h:=1) (k:=1) (d:=d) rfl ⟨by omega,by show (1:Int) < 258;omega⟩ hd (by show 0 < 16;omega)
 exact h2.trans rfl
theorem aw_cm (d:Bytes):cmCode (awM 1 0 0 [(1,d)] []) 1=0∧cmNext (awM 1 0 0 [(1,d)] []) 1=awM 2 1 1 [(1,d)] [1]:=by
 obtain ⟨h1,h2⟩:=cm_ok (s:=awM 1 0 0 [(1,d)] []) (h:=1) rfl (by show 0 < 1;omega) (may_ok rfl (check_none _ _ _) (by show (0:Int) < 1099511627776;omega))
 exact ⟨h1,h2.trans rfl⟩
theorem aw_step {d:Bytes} (hd:d.length=40):∀ i,i < 3→(stepSd (awSt d i).1 (awSt d i).2 0).1=(awSt d (i+1)).1∧(stepSd (awSt d i).1 (awSt d i).2 0).2.1=(awSt d (i+1)).2
 | 0,_=>⟨rfl,rfl⟩
 | 1,_=>⟨rfl,aw_wr hd⟩
 | 2,_=>by
  have hc:comDo (evUp (awSt d 2).1) (awM 1 0 0 [(1,d)] []) 0 0=(evUp (awSt d 2).1,awM 2 1 1 [(1,d)] [1],false):=by
   show (if false=true then _ else if cmCode (awM 1 0 0 [(1,d)] []) 1=0 then askDo (evUp (awSt d 2).1) (cmNext (awM 1 0 0 [(1,d)] []) 1) 0 else _)=_
   rw [if_neg (by decide),if_pos (aw_cm d).1,(aw_cm d).2]
   rfl
  have ho:opDo (evUp (awSt d 2).1) (awM 1 0 0 [(1,d)] []) 0 ⟨4,0,0,0,[]⟩=(evUp (awSt d 2).1,awM 2 1 1 [(1,d)] [1],false):=hc
  have hs:stepSd (awSt d 2).1 (awSt d 2).2 0=(setAsk (evUp (awSt d 2).1) 0 true,awM 2 1 1 [(1,d)] [1],16):=by
   show (if (opDo (evUp (awSt d 2).1) (awM 1 0 0 [(1,d)] []) 0 ⟨4,0,0,0,[]⟩).2.2=true then _ else (setAsk (opDo (evUp (awSt d 2).1) (awM 1 0 0 [(1,d)] []) 0 ⟨4,0,0,0,[]⟩).1 0 true,(opDo (evUp (awSt d 2).1) (awM 1 0 0 [(1,d)] []) 0 ⟨4,0,0,0,[]⟩).2.1,(16:Int)))=_
   rw [ho,if_neg (by intro h;cases h)]
  rw [hs]
  exact ⟨rfl,rfl⟩
 | _+3,h=>absurd h (by omega)
theorem aw_wait (d:Bytes):waitL (awM 2 1 1 [(1,d)] [1])=[⟨1,[⟨1,d⟩]⟩]:=by
 show [waitTx (awM 2 1 1 [(1,d)] [1]) 1]=_
 show [(⟨1,bufPuts [(1,d)]⟩:Tx)]=_
 rw [bufPuts_one]
theorem aw_ba (d:Bytes):baCode (awM 2 1 1 [(1,d)] [1])=0∧baNext (awM 2 1 1 [(1,d)] [1])={ awM 2 1 1 [(1,d)] [1] with out:=1 }∧formN (waitL (awM 2 1 1 [(1,d)] [1]))=1:=by
 obtain ⟨h1,h2⟩:=ba_ok (s:=awM 2 1 1 [(1,d)] [1]) rfl (by show 0 < 1;omega)
 have hp:=formN_pos (l:=waitL (awM 2 1 1 [(1,d)] [1])) (by show 0 < 1;omega)
 have hb:=(formN_bd (waitL (awM 2 1 1 [(1,d)] [1]))).1
 rw [waitL_len] at hb
 have hb':formN (waitL (awM 2 1 1 [(1,d)] [1]))≤1:=hb
 have e:formN (waitL (awM 2 1 1 [(1,d)] [1]))=1:=by omega
 refine ⟨h1,h2.trans ?_,e⟩
 rw [e];rfl
theorem aw_end (d:Bytes):(fEnd (awM 2 1 1 [(1,d)] [1]) 0).txs=[awTx 3 1 [(1,d)]]:=by
 unfold fEnd
 rw [(aw_ba d).2.1]
 rfl
def awF (d:Bytes):SdS:=awC [] [0] 3 false [⟨1,1,5⟩] 5
theorem aw_last (d:Bytes):(stepSd (evUp (awSt d 3).1) (fEnd (awM 2 1 1 [(1,d)] [1]) 0) 0).1=awF d∧(stepSd (evUp (awSt d 3).1) (fEnd (awM 2 1 1 [(1,d)] [1]) 0) 0).2.1=fEnd (awM 2 1 1 [(1,d)] [1]) 0:=by
 have hr:(resOf (fEnd (awM 2 1 1 [(1,d)] [1]) 0) 1).1=3:=by
  rw [res_at (by omega) (by rw [aw_end];show (1:Int)≤1;omega),aw_end];rfl
 generalize fEnd (awM 2 1 1 [(1,d)] [1]) 0=S at *
 have hc:comDo (evUp (evUp (awSt d 3).1)) S 0 0=(setEn (evUp (evUp (awSt d 3).1)) 0,S,true):=by
  show (if (resOf S 1).1=2 then _ else (setEn (evUp (evUp (awSt d 3).1)) 0,S,true))=_
  rw [hr,if_neg (by decide)]
 have ho:opDo (evUp (evUp (awSt d 3).1)) S 0 ⟨4,0,0,0,[]⟩=(setEn (evUp (evUp (awSt d 3).1)) 0,S,true):=hc
 have hs:stepSd (evUp (awSt d 3).1) S 0=(ansUp (setAsk (popOp (setEn (evUp (evUp (awSt d 3).1)) 0) 0) 0 false) 0,S,0):=by
  show (if (opDo (evUp (evUp (awSt d 3).1)) S 0 ⟨4,0,0,0,[]⟩).2.2=true then (ansUp (setAsk (popOp (opDo (evUp (evUp (awSt d 3).1)) S 0 ⟨4,0,0,0,[]⟩).1 0) 0 false) 0,(opDo (evUp (evUp (awSt d 3).1)) S 0 ⟨4,0,0,0,[]⟩).2.1,(0:Int)) else _)=_
  rw [ho,if_pos rfl]
 rw [hs]
 exact ⟨rfl,rfl⟩
theorem aw_flush (d:Bytes):0+blocksN ((waitL (awM 2 1 1 [(1,d)] [1])).take (formN (waitL (awM 2 1 1 [(1,d)] [1]))))≤192∧StepsOk ((waitL (awM 2 1 1 [(1,d)] [1])).take (formN (waitL (awM 2 1 1 [(1,d)] [1])))):=by
 rw [(aw_ba d).2.2,aw_wait]
 refine ⟨by show 0+2≤192;omega,fun k h=>absurd h (by simp)⟩
theorem aw_opsAt {w:World} {G:Foot} {g h:Nat} {d:Bytes} {dv:Value} (hh:w.heap[h]? = some (.cells #[.int .i64 1,dv] 44 (0,0))) (hg:w.heap[g]? = some (.cells #[.int .i64 1,.int .i64 0,.int .i64 0,.int .i64 0,.slice none 0 0,.int .i64 3,.int .i64 0,.int .i64 0,.int .i64 0,.slice (some ⟨h,0,none⟩) 1 1,.int .i64 4,.int .i64 0,.int .i64 0,.int .i64 0,.slice none 0 0] 49 (0,0))) (hGh:G h) (hGg:G g) (hd:BytesAt G w dv d):OpsAt G w (.slice (some ⟨g,0,none⟩) 3 3) (awOps d):=by
 refine ⟨_,3,rfl,Nat.le_refl _,by omega,(by intro h;cases h),fun i hi=>⟨g,0,rfl,hGg,?_⟩⟩
 have hp:=puts_box1 hh hGh (by unfold I64;omega) hd
 have I0:I64 0:=i64_zero
 rcases (show i=0∨i=1∨i=2 by have:i < 3:=hi;omega) with rfl | rfl | rfl
 ·exact ⟨by rw [cell_row hg];rfl,by rw [cell_row hg];rfl,by rw [cell_row hg];rfl,by rw [cell_row hg];rfl,⟨by show I64 1;unfold I64;omega,I0,I0,I0⟩,.slice none 0 0,by rw [cell_row hg];rfl,SlAt.nil⟩
 ·exact ⟨by rw [cell_row hg];rfl,by rw [cell_row hg];rfl,by rw [cell_row hg];rfl,by rw [cell_row hg];rfl,⟨by show I64 3;unfold I64;omega,I0,I0,I0⟩,.slice (some ⟨h,0,none⟩) 1 1,by rw [cell_row hg];rfl,hp⟩
 ·exact ⟨by rw [cell_row hg];rfl,by rw [cell_row hg];rfl,by rw [cell_row hg];rfl,by rw [cell_row hg];rfl,⟨by show I64 4;unfold I64;omega,I0,I0,I0⟩,.slice none 0 0,by rw [cell_row hg];rfl,SlAt.nil⟩
def awQ:QS:=⟨List.replicate 8 0,0,0,1,0,0⟩
theorem aw_k0:TopK 0 0 awQ sd0 (mgNew 258 0):=⟨BothI.start,rfl,Nat.zero_le _,Nat.le_refl _,Nat.zero_le _,Nat.zero_le _,Nat.zero_le _⟩
theorem aw_k {d:Bytes} (hd:d.length=40):∀ i,i≤3→TopK (16 * i) (2 * i) awQ (awSt d i).1 (awSt d i).2
 | 0,_=>⟨aw_k0.b.add (by omega) (by
   intro o ho
   simp only [awOps,List.mem_cons,List.not_mem_nil,or_false] at ho
   rcases ho with rfl | rfl | rfl
   ·exact ⟨by simp,fun q hq=>by cases hq⟩
   ·exact ⟨by simp,fun q hq=>by rw [List.mem_singleton.1 hq];show d.length≤_;omega⟩
   ·exact ⟨by simp,fun q hq=>by cases hq⟩),rfl,Nat.zero_le _,Nat.le_refl _,Nat.zero_le _,Nat.zero_le _,Nat.zero_le _⟩
 | i+1,hi=>by
  have h:=(aw_k hd i (by omega)).step (by omega) (i:=0) (by omega)
  rw [(aw_step hd i (by omega)).1,(aw_step hd i (by omega)).2] at h
  exact h
set_option maxRecDepth 100000 in
set_option maxHeartbeats 8000000 in
theorem awakeTop (w:World) (hw:StrW w):Calls Tryz.prog 5 #[] w (Tru w):=by
 have hd40:(dataB 1).length=40:=data_sz 1
 have HW:=Lib.hid hw
 have HS0:=Lib.hid (Sep.start w)
 have HD40:=Lib.hid hd40
 clear hw hd40
 go_enter Tryz.func5,Tryz.ntmps5
 go_wp2_with fail
 refine (topBegin HS0).mono ?_
 rintro e w1 ⟨p,d,st,m,sl,rfl,HS1⟩
 have HS1':Hid (Sep w (topL w p d st m sl awQ sd0 (mgNew 258 0)) w1):=HS1
 clear HS0 HS1
 go_wp2_with fail
 refine (data_any 1 _).mono ?_
 rintro e w2 ⟨dv,rfl,hdv,hb2⟩
 obtain ⟨dp,dc,rfl⟩:=shape_of hdv HD40.out
 have HB2:=Lib.hid hb2
 obtain ⟨w3,hw3⟩:∃ w3,w2.alloc (.cells #[.int .i64 1,.slice dp 40 dc] 44 (0,0))=w3:=⟨_,rfl⟩
 obtain ⟨h3,hh3⟩:∃ h3,w2.heap.size=h3:=⟨_,rfl⟩
 have hz3:w3.heap.size=h3+1:=by rw [← hw3,← hh3];simp
 obtain ⟨w4,hw4⟩:∃ w4,w3.alloc (.cells #[.int .i64 1,.int .i64 0,.int .i64 0,.int .i64 0,.slice none 0 0,.int .i64 3,.int .i64 0,.int .i64 0,.int .i64 0,.slice (some ⟨h3,0,none⟩) 1 1,.int .i64 4,.int .i64 0,.int .i64 0,.int .i64 0,.slice none 0 0] 49 (0,0))=w4:=⟨_,rfl⟩
 have hba:=below_alloc w2 (.cells #[.int .i64 1,.slice dp 40 dc] 44 (0,0))
 rw [hw3] at hba
 have hbb:=below_alloc w3 (.cells #[.int .i64 1,.int .i64 0,.int .i64 0,.int .i64 0,.slice none 0 0,.int .i64 3,.int .i64 0,.int .i64 0,.int .i64 0,.slice (some ⟨h3,0,none⟩) 1 1,.int .i64 4,.int .i64 0,.int .i64 0,.int .i64 0,.slice none 0 0] 49 (0,0))
 rw [hw4] at hbb
 have hg3:=heap_alloc_new w2 (.cells #[.int .i64 1,.slice dp 40 dc] 44 (0,0))
 rw [hw3,hh3] at hg3
 have hg4:=heap_alloc_new w3 (.cells #[.int .i64 1,.int .i64 0,.int .i64 0,.int .i64 0,.slice none 0 0,.int .i64 3,.int .i64 0,.int .i64 0,.int .i64 0,.slice (some ⟨h3,0,none⟩) 1 1,.int .i64 4,.int .i64 0,.int .i64 0,.int .i64 0,.slice none 0 0] 49 (0,0))
 rw [hw4,hz3] at hg4
 have hg3':w4.heap[h3]? = some (.cells #[.int .i64 1,.slice dp 40 dc] 44 (0,0)):=by rw [hbb.block h3 (by omega)];exact hg3
 have hb14:Below w1.heap.size w1 w4:=Below.up hb2 (Below.up hba hbb)
 have hz4:w4.heap.size=h3+2:=by rw [← hw4];simp [hz3]
 have hsz:=hb2.size
 have HS4:=HS1'.out.new hb14 (OpsA (.slice (some ⟨h3+1,0,none⟩) 3 3) (awOps (dataB 1))) (F:=New w1 w4) (fun _ h=>h) (aw_opsAt hg3' hg4 ⟨by omega,by omega⟩ ⟨by omega,by omega⟩ (((hdv.up (Below.up hba hbb))).mono fun q hq=>⟨hq.1,Nat.lt_of_lt_of_le hq.2 (by omega)⟩))
 have HAD:=Lib.hid (sdAdd (Lib.hid HS4) (x:=5) rfl 0 (by omega) (.slice (some ⟨h3+1,0,none⟩) 3 3) (awOps (dataB 1)) (fun G w' hR=>by
  obtain ⟨F,hF,hO⟩:=hR 6 (OpsA (.slice (some ⟨h3+1,0,none⟩) 3 3) (awOps (dataB 1))) (by decide) rfl
  exact OpsAt.mono hO hF) (by
   intro o ho
   simp only [awOps,List.mem_cons,List.not_mem_nil,or_false] at ho
   rcases ho with rfl | rfl | rfl
   ·exact ⟨by simp,fun q hq=>by cases hq⟩
   ·exact ⟨by simp,fun q hq=>by rw [List.mem_singleton.1 hq];show (dataB 1).length≤_;rw [HD40.out];omega⟩
   ·exact ⟨by simp,fun q hq=>by cases hq⟩))
 clear hdv hb2 hba hbb hg3 hg4 hg3' hb14 hz4 hsz HS4 HS1' HB2
 have hz3':=Lib.hid hz3
 clear hz3
 go_wp2_with fail
 try rw [hz3'.out]
 refine (HAD.out).mono ?_
 rintro e w5 (⟨hbad,_⟩ | ⟨_,rfl,HS5⟩)
 ·exact absurd hbad (by decide)
 have hs6:=HS5.out.take 6
 have HS6:Hid (Sep w (topL w p d st m sl awQ (awSt (dataB 1) 0).1 (awSt (dataB 1) 0).2) w5):=hs6
 obtain ⟨D,hD⟩:∃ D,dataB 1=D:=⟨_,rfl⟩
 rw [hD] at HD40 HS6
 clear HAD HS5 hs6 hz3' hw3 hw4 hh3 hD
 go_wp2_with fail
 go_loopw [3] (fun s3 wr=>∃ i:Nat,i≤3∧s3=.int .i64 (i:Int)∧Hid (Sep w (topL w p d st m sl awQ (awSt D i).1 (awSt D i).2) wr)) (fun s3 _=>3 - (intOf s3).toNat)
 case atStart=>exact ⟨0,by omega,by go_num,HS6⟩
 case round =>
  clear HS6
  obtain ⟨i,hi,rfl,HS⟩:=hrel
  by_cases hlt:i < 3
  case pos =>
   have hii:(i:Int) < 3:=by omega
   have hk:=aw_k HD40.out i hi
   have hst:=aw_step HD40.out i hlt
   have h1:=topSt1 HS hk (by omega) (by omega) (i:=0) (by omega)
   rw [hst.1,hst.2] at h1
   have HST:=Lib.hid h1
   clear hk hst h1 HS
   go_wp2_with fail
   refine (HST.out).mono ?_
   rintro e w6 ⟨⟨v,rfl⟩,HS6⟩
   clear HST
   go_wp2_with fail
   go_roundw
   case rel=>exact ⟨i+1,by omega,by go_num,HS6⟩
   case measure=>simp [intOf];omega
  case neg =>
   obtain rfl:i=3:=by omega
   have hk:=aw_k HD40.out 3 (by omega)
   have HK:=Lib.hid hk
   have hfl:=topFl HS hk (by omega) (by omega)
   have HFL:=Lib.hid hfl
   obtain ⟨w6,rfl⟩:∃ w6:World,w6=wr:=⟨_,rfl⟩
   clear hk hfl HS hlt
   go_wp2_with fail
   refine (HFL.out).mono ?_
   rintro e w7 ⟨k,rfl,_,hgo⟩
   obtain ⟨rfl,HS7⟩:=hgo ⟨(aw_ba D).1,(aw_flush D).1,(aw_flush D).2⟩
   clear hgo HFL
   have HK7:Hid (TopK (16 * 3+128) (2 * 3+1) { awQ with pos:=0+blocksN ((waitL (awM 2 1 1 [(1,D)] [1])).take (formN (waitL (awM 2 1 1 [(1,D)] [1])))),num:=0+1 } (evUp (awSt D 3).1) (fEnd (awM 2 1 1 [(1,D)] [1]) 0)):=by
    have hf:=HK.out.b.v.flush 0
    exact ⟨HK.out.b.up.to hf,rfl,(aw_flush D).1,Nat.le_refl _,Nat.zero_le _,by show 0+1≤7;omega,by have h1:=hf.2;have h2:=HK.out.nt;show (fEnd (awSt D 3).2 0).txs.length≤_;omega⟩
   have HS7':Hid (Sep w (topL w p d st m sl { awQ with pos:=0+blocksN ((waitL (awM 2 1 1 [(1,D)] [1])).take (formN (waitL (awM 2 1 1 [(1,D)] [1])))),num:=0+1 } (evUp (awSt D 3).1) (fEnd (awM 2 1 1 [(1,D)] [1]) 0)) w7):=HS7
   generalize ({ awQ with pos:=0+blocksN ((waitL (awM 2 1 1 [(1,D)] [1])).take (formN (waitL (awM 2 1 1 [(1,D)] [1])))),num:=0+1 }:QS)=Q7 at *
   have h1:=topSt1 HS7' HK7.out (by omega) (by omega) (i:=0) (by omega)
   have hk8:=HK7.out.step (by omega) (i:=0) (by omega)
   rw [(aw_last D).1,(aw_last D).2] at h1 hk8
   have HST:=Lib.hid h1
   have HK8:=Lib.hid hk8
   have HTX:=Lib.hid (aw_end D)
   generalize fEnd (awM 2 1 1 [(1,D)] [1]) 0=S9 at *
   clear h1 hk8 HS7 HS7' HK7 HK
   go_wp2_with fail
   refine (HST.out).mono ?_
   rintro e w8 ⟨⟨v,rfl⟩,HS8⟩
   clear HST
   have HHY:=Lib.hid (sdHistories HS8 (x:=5) rfl (ist:=2) (jm:=4) rfl rfl (by decide) (by decide) HK8.out.b.v.g (by omega) (by show 1≤100000;omega) (fun j hj=>HK8.out.b.i64 (by omega) hj))
   go_wp2_with fail
   refine (HHY.out).mono ?_
   rintro e w9 ⟨css,pr,cr,rfl,HS9⟩
   obtain ⟨F6,hF6,hD6⟩:=HS9.out.get 6 rfl
   obtain ⟨F7,hF7,hD7⟩:=HS9.out.get 7 rfl
   have hh:=hists_row (G:=fun q=>q < w9.heap.size) hF7 hF6 (hsB_len (awF D) S9 (Nat.le_refl _)) hD7 hD6
   have HB9:=Lib.hid HS9.out.old
   have hx:(hsB (awF D) S9 (awF D).bg.length)[0]? = some (histB S9 ⟨1,1,5⟩):=rfl
   obtain ⟨p9,c9,e9,_,_,_,h4⟩:=hh
   obtain ⟨b,o,e1,hbg,q0,q1,q2,q3,q4,_⟩:=h4 0 (by show 0 < 1;omega)
   cases e9
   cases e1
   have t0:w9.cell? ⟨b,o,none⟩=some (.int .i64 3):=by
    have:(histB S9 ⟨1,1,5⟩).state=3:=by
     show (txAt S9.txs 1).st=3
     rw [HTX.out];rfl
    rw [← this]
    rw [Nat.zero_mul,Nat.add_zero] at q0
    exact q0
   have t4:w9.cell? ⟨b,o+4,none⟩=some (.int .i64 5):=by
    rw [Nat.zero_mul,Nat.add_zero] at q4
    exact q4
   have hone:(awF D).bg.length=1:=rfl
   have HPL:=Lib.hid (shPlay w9 (HW.out.up HW.out.z HB9.out))
   clear q0 q1 q2 q3 q4 hF6 hF7 hD6 hD7 HS9 HHY HS8 hbg h4 hx
   go_wp2_with fail
   refine (HPL.out).mono ?_
   rintro e w10 ⟨rfl,hb10⟩
   have HB10:=Lib.hid (Below.up HB9.out hb10)
   clear hb10 HPL
   go_wp2_with fail
   first
    | exact ⟨rfl,HB10.out⟩
    | (go_ret;exact ⟨rfl,HB10.out⟩)
end Go.Proofs
namespace Go.Proofs
open Go.RowKit Sc
def SmallT (l:List StepT) (w:World) (e:Ending) (w':World):Prop:=∃ q:Bool,e=.returned (.bool q)∧(q=true→tszT l≤20000∧l.length≤150)∧Below w.heap.size w w'
def CntT (t:Nat) (q:Int):Prop:=0≤q∧q≤1099511627776∧(q≤20000→q=(t:Int))
theorem CntT.sum {t u:Nat} {q:Int} (h:CntT t q) (hq:q≤20000) (l:List Int) (hl:∀ x∈l,0≤x) (hs:l.sum=(u:Int)):CntT (t+u) (sumTo q l):=by
 obtain ⟨h1,h2,h3⟩:=h
 obtain ⟨a1,a2,_,a4⟩:=sumTo_low l q h1 h2 hl
 refine ⟨a1,a2,fun h=>?_⟩
 rw [a4 (by omega),hs,h3 hq];omega
theorem osz_succ {l:List OpS} {m:Nat} (h:m < l.length):osz (l.take (m+1))=osz (l.take m)+psz l[m].puts:=sum_take_succ (fun o:OpS=>psz o.puts) l m h
set_option maxRecDepth 100000 in
set_option maxHeartbeats 4000000 in
theorem smallT_any (G:Nat→Prop) (v:Value) (l:List StepT) (w:World) (hv:StepsT G w v l):Calls Tryz.prog 4 #[v] w (SmallT l w):=by
 obtain ⟨p,c,rfl,h1,h2,h3,h4⟩:=hv
 have H4:=Lib.hid h4
 clear h4
 clear h3
 go_enter Tryz.func4,Tryz.ntmps4
 go_wp2_with fail
 go_loopw [3,4] (fun s i wr=>∃ k n:Nat,k≤l.length∧i=.int .i64 (k:Int)∧s=.int .i64 (n:Int)∧Hid (n=((l.take k).map tsz1).sum∧n≤20000)∧Hid (Below w.heap.size w wr)) (fun _ i _=>l.length - (intOf i).toNat)
 case atStart=>exact ⟨0,0,by omega,by go_num,by go_num,by unfold Hid;simp,Below.refl _ _⟩
 case round =>
  obtain ⟨k,n,hk,rfl,rfl,HS,HB⟩:=hrel
  by_cases hlt:k < l.length
  case pos =>
   have hki:(k:Int) < (l.length:Int):=by omega
   obtain ⟨b,o,rfl,hb,_,⟨ov,hco,ho⟩,_,⟨iv,hci,hi⟩,jv,hcj,hj⟩:=H4.out k hlt
   have hs:=sum_take_succ tsz1 l k hlt
   obtain ⟨op,oc,rfl,hol⟩:=OpsAt.shape ho
   obtain ⟨ip,ic,rfl,hil⟩:=ints_shape hi
   obtain ⟨jp,jc,rfl,hjl⟩:=ints_shape hj
   have hco':=cell_up HB.out hco
   have hci':=cell_up HB.out hci
   have hcj':=cell_up HB.out hcj
   have HO:=Lib.hid ho
   have HCO:=Lib.hid hco
   generalize l[k]=x at *
   obtain ⟨lo,hlo⟩:∃ lo,x.ops.length=lo:=⟨_,rfl⟩
   obtain ⟨li,hli⟩:∃ li,x.picks.length=li:=⟨_,rfl⟩
   obtain ⟨lj,hlj⟩:∃ lj,x.torn.length=lj:=⟨_,rfl⟩
   rw [hlo] at hco' hol HCO
   rw [hli] at hci' hil
   rw [hlj] at hcj' hjl
   have HT:Hid (tsz1 x=lo+li+lj+3+osz x.ops):=by show _=_;unfold tsz1;rw [hlo,hli,hlj]
   have HLO:=Lib.hid hlo
   have HSS:=Lib.hid hs
   clear ho hi hj hco hci hcj hlo hli hlj hs
   go_upto_region 5 with fail
   have hdr:=below_drewN (Below.refl wr.heap.size wr) 1
   refine wp_regionG (fun W=>Below wr.heap.size wr W) (n:=22) (by kernel_rfl) (by kernel_rfl) ?_
   have HB1:Hid (Below wr.heap.size wr wr.drew):=hdr
   clear hdr
   generalize wr.drew=wd at *
   refine wpG.tk 0 ?_
   refine wpG.tk 1 ?_
   refine wpG.tk 2 ?_
   refine wpG.tk 3 ?_
   refine wpG.tk 4 ?_
   refine wpG.tk 5 ?_ (hy:=by intro W hW;have hld0:=cell_up hW hco';go_simp;try with_reducible rfl)
   refine wpG.tk 6 ?_
   refine wpG.tk 7 ?_
   refine wpG.tk 8 ?_
   refine wpG.tk 9 ?_
   refine wpG.tk 10 ?_
   refine wpG.tk 11 ?_ (hy:=by intro W hW;have hld0:=cell_up hW hci';go_simp;try with_reducible rfl)
   refine wpG.tk 12 ?_
   refine wpG.tk 13 ?_
   refine wpG.tk 14 ?_
   refine wpG.tk 15 ?_
   refine wpG.tk 16 ?_
   refine wpG.tk 17 ?_ (hy:=by intro W hW;have hld0:=cell_up hW hcj';go_simp;try with_reducible rfl)
   refine wpG.tk 18 ?_
   refine wpG.alone 19 rfl (by kernel_rfl) (by kernel_rfl) HB1.out (fun K hK=>?_)
   go_simp
   try go_simp
   refine hK _ _ ?_
   clear hK K
   have HB3:Hid (Below wr.heap.size wr (wd.alloc (.cells #[.int .i64 lo,.int .i64 li,.int .i64 lj,.int .i64 3] 3 (0,0)))):=Below.up HB1.out (below_alloc _ _)
   have hsum:=sum_any n [(lo:Int),(li:Int),(lj:Int),3] wd.heap.size 0 4 (wd.alloc (.cells #[.int .i64 lo,.int .i64 li,.int .i64 lj,.int .i64 3] 3 (0,0))) (by omega) (by have:=HS.out.2;omega) (fun i hi=>by
    simp only [List.length_cons,List.length_nil] at hi
    rcases (show i=0∨i=1∨i=2∨i=3 by omega) with rfl | rfl | rfl | rfl
    ·exact ⟨by simp,by simp;omega⟩
    ·exact ⟨by simp,by simp;omega⟩
    ·exact ⟨by simp,by simp;omega⟩
    ·exact ⟨by simp,by simp⟩) (by simp) (fun i hi=>by
    simp only [List.length_cons,List.length_nil] at hi
    rcases (show i=0∨i=1∨i=2∨i=3 by omega) with rfl | rfl | rfl | rfl
    ·rw [cell_row (heap_alloc_new _ _)];rfl
    ·rw [cell_row (heap_alloc_new _ _)];rfl
    ·rw [cell_row (heap_alloc_new _ _)];rfl
    ·rw [cell_row (heap_alloc_new _ _)];rfl)
   have HSUM:=Lib.hid hsum
   clear hsum
   refine wpG.alone 20 rfl (by kernel_rfl) (by kernel_rfl) (HB3.out) (fun K hK=>?_)
   go_simp
   go_at_call 11
   refine (HSUM.out).mono ?_
   rintro e w2 ⟨rfl,hw2⟩
   have HBW:Hid (Below wr.heap.size wr w2):=by rw [← hw2];exact HB3.out
   have HB2:Hid (Below w.heap.size w w2):=Below.up HB.out HBW.out
   have HC:Hid (CntT (n+(lo+li+lj+3)) (sumTo n [(lo:Int),(li:Int),(lj:Int),3])):=CntT.sum (t:=n) ⟨by omega,by have:=HS.out.2;omega,fun _=>rfl⟩ (by have:=HS.out.2;omega) _ (by simp) (by simp;omega)
   generalize sumTo n [(lo:Int),(li:Int),(lj:Int),3]=q at *
   try go_simp
   refine hK _ _ ?_
   clear hK K
   refine wpG.tk 21 ?_
   refine wpG.done (by kernel_rfl) HBW.out ?_
   clear hw2 hco' hci' hcj' HBW HSUM HB3 HB1
   go_wp2_with fail
   go_loopw [3,5] (fun s i wr=>∃ m:Nat,∃ z:Int,m≤lo∧i=.int .i64 (m:Int)∧s=.int .i64 z∧Hid (CntT (n+(lo+li+lj+3)+osz (x.ops.take m)) z)∧Hid (Below w.heap.size w wr)) (fun _ i _=>lo - (intOf i).toNat)
   case atStart=>exact ⟨0,q,by omega,by go_num,rfl,HC,HB2⟩
   case round =>
    clear HC HB2 HB
    obtain ⟨m,z,hm,rfl,rfl,HC,HB⟩:=hrel
    have hco':=cell_up HB.out HCO.out
    by_cases hz:z≤20000
    case pos =>
     by_cases hml:m < lo
     case pos =>
      have hmi:(m:Int) < (lo:Int):=by omega
      have hdz:decide (z≤20000)=true:=decide_eq_true hz
      obtain ⟨op',oc',e1,_,_,_,hel⟩:=HO.out
      cases e1
      obtain ⟨b2,o2,rfl,_,_,_,_,_,_,pv,hcp,hp⟩:=hel m (by rw [HLO.out];exact hml)
      have hcp':=cell_up HB.out hcp
      have HPV:=Lib.hid (hp.up HB.out)
      have HSC:=Lib.hid (osz_succ (l:=x.ops) (m:=m) (by rw [HLO.out];exact hml))
      generalize x.ops[m]'(by rw [HLO.out];exact hml)=y at *
      clear hel hcp hp
      go_wp2_with fail
      refine (puts_any G _ y.puts 20000 _ (by have:=HPV.out;simpa using this) (by omega) (by omega)).mono ?_
      rintro e w3 ⟨n1,rfl,hn1,hn2,hn3,hb3⟩
      have HB3:=Lib.hid (Below.up HB.out hb3)
      have HN3:=Lib.hid hn3
      clear hn3 hb3
      have hz0:=HC.out.1
      go_wp2_with fail
      refine (sum_any z [n1] _ 0 _ _ hz0 (by omega) (fun i hi=>?_) (by simp) (fun i hi=>?_)).mono ?_
      ·simp only [List.length_cons,List.length_nil] at hi
       obtain rfl:i=0:=by omega
       exact ⟨hn1,by simp;omega⟩
      ·simp only [List.length_cons,List.length_nil] at hi
       obtain rfl:i=0:=by omega
       rw [cell_row (heap_alloc_new w3 _)];rfl
      rintro e w4 ⟨rfl,hw4⟩
      have HB4:Hid (Below w.heap.size w w4):=by
       rw [← hw4]
       exact HB3.out.alloc (by have:=HB3.out.size;omega) _
      have HC4:Hid (CntT (n+(lo+li+lj+3)+osz (x.ops.take (m+1))) (sumTo z [n1])):=by
       show CntT _ _
       obtain ⟨a1,a2,a3,a4⟩:=sumTo_low [n1] z hz0 (by omega) (by simpa using hn1)
       refine ⟨a1,a2,fun h=>?_⟩
       have e5:=a4 (by omega)
       simp only [List.sum_cons,List.sum_nil] at e5
       have e6:=HN3.out (by omega)
       have e7:=HC.out.2.2 hz
       rw [HSC.out,e5,e6,e7];omega
      generalize sumTo z [n1]=z2 at *
      clear hw4 hco' hcp' hn1 hn2
      go_wp2_with fail
      go_roundw
      case rel=>exact ⟨m+1,z2,by omega,by go_num,rfl,HC4,HB4⟩
      case measure=>simp [intOf];omega
     case neg =>
      obtain rfl:m=lo:=by omega
      have hmi:¬ (m:Int) < (m:Int):=by omega
      have hz3:¬ 20000 < z:=by omega
      have HF:Hid (z=((n+tsz1 x:Nat):Int)):=by
       show _=_
       rw [HC.out.2.2 hz,HT.out,← HLO.out,List.take_length];omega
      obtain ⟨z0,rfl⟩:∃ z0:Nat,z=(z0:Int):=⟨z.toNat,by have:=HC.out.1;omega⟩
      have HF2:Hid (z0=((l.take (k+1)).map tsz1).sum∧z0≤20000):=⟨by have:=HF.out;have:=HSS.out;have:=HS.out.1;omega,by omega⟩
      clear HF
      go_wp2_with fail
      go_roundw
      case rel=>exact ⟨k+1,z0,by omega,by go_num,rfl,HF2,HB⟩
      case measure=>simp [intOf];omega
    case neg =>
     have hdz:decide (z≤20000)=false:=decide_eq_false hz
     have hz3:20000 < z:=by omega
     by_cases hml:m < lo
     case' pos=>have hmi:(m:Int) < (lo:Int):=by omega
     case' neg=>have hmi:¬ (m:Int) < (lo:Int):=by omega
     all_goals
      go_wp2_with fail
      go_ret
      exact ⟨false,rfl,fun h=>(by cases h),HB.out⟩
  case neg =>
   obtain rfl:k=l.length:=by omega
   have hki:¬ (l.length:Int) < (l.length:Int):=by omega
   have HF:Hid (tszT l≤20000):=by show _≤_;have:=HS.out;rw [List.take_length] at this;unfold tszT;omega
   by_cases h150:l.length≤150
   ·have h150':(l.length:Int)≤150:=by omega
    go_wp2_with fail
    go_ret
    exact ⟨true,rfl,fun _=>⟨HF.out,h150⟩,HB.out⟩
   ·have h150':¬ (l.length:Int)≤150:=by omega
    go_wp2_with fail
    go_ret
    exact ⟨false,rfl,fun h=>(by cases h),HB.out⟩
end Go.Proofs
