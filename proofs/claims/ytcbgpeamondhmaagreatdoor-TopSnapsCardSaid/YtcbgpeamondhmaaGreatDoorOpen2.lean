/- More arguments opened. -/
import Derived.Test.YtcbgpeamondhmaaGreatDoorOpen
namespace Go.Proofs
open Go.RowKit Sc Go.ChangeShapes Go.WideShapes
theorem len_n {α:Type} {l:List α} {n:Nat} (h:l.length=n+1):∃ a t,l=a :: t∧t.length=n:=by
 cases l with
 | nil=>simp at h
 | cons a t=>exact ⟨a,t,rfl,by simpa using h⟩
section
variable {H:Type} {enc:TypeId × Value→H} {w:World}
theorem opn_ints {fuel:Nat} {cs:List Value} {x:DataW H × List MemPlace} (h:DataW.trod enc Tryz.prog w 0 (fun _=>true) true fuel 30 cs=some x):∃ v l,cs=[v]∧IntsAt (Old w) w v l:=by
 refine open_sl (k:=1) Tryz.underlying30 (by kernel_rfl) (by omega) h fun n cs' y b o hl hc ht=>?_
 obtain ⟨c,rfl⟩:=List.length_eq_one_iff.1 hl
 obtain ⟨z,rfl,hz⟩:=trod_i64 Tryz.underlying3 ht
 exact ⟨z,by first | (simp;done) | (have:=hc 0 (by omega);simpa using this),hz⟩
theorem opn_ext {fuel:Nat} {cs:List Value} {x:DataW H × List MemPlace} (h:DataW.trod enc Tryz.prog w 0 (fun _=>true) true fuel 186 cs=some x) :
  ∃ a b,cs=[.int .i64 a,.int .i64 b]∧I64 a∧I64 b:=by
 obtain ⟨m,hl,hf⟩:=open_st Tryz.underlying186 h
 rw [show Tryz.prog.cellsOf 186=2 by kernel_rfl] at hl
 obtain ⟨c0,t0,rfl,hl0⟩:=len_n hl
 obtain ⟨c1,t1,rfl,hl1⟩:=len_n hl0
 obtain rfl:t1=[]:=List.length_eq_zero_iff.1 hl1
 obtain ⟨y0,h0⟩:=hf _ (List.mem_cons_self ..)
 obtain ⟨y1,h1⟩:=hf _ (List.mem_cons_of_mem _ (List.mem_cons_self ..))
 have k0:Tryz.prog.cellsOf 3=1:=by kernel_rfl
 simp only [k0,List.drop_zero,List.drop_succ_cons,List.take_succ_cons,List.take_zero] at h0 h1
 obtain ⟨a,rfl,ha⟩:=trod_i64 Tryz.underlying3 h0
 obtain ⟨b,rfl,hb⟩:=trod_i64 Tryz.underlying3 h1
 exact ⟨a,b,rfl,ha,hb⟩
theorem opn_exts {fuel:Nat} {cs:List Value} {x:DataW H × List MemPlace} (h:DataW.trod enc Tryz.prog w 0 (fun _=>true) true fuel 390 cs=some x):∃ v l,cs=[v]∧ExtsAt (Old w) w v l:=by
 refine open_sl (k:=2) Tryz.underlying390 (by kernel_rfl) (by omega) h fun n cs' y b o hl hc ht=>?_
 obtain ⟨a,c,rfl,ha,hb⟩:=opn_ext ht
 exact ⟨⟨a,c⟩,by first | (simp;done) | (have:=hc 0 (by omega);simpa using this),by first | (simp;done) | (have:=hc 1 (by omega);simpa using this),ha,hb⟩
theorem opn_read {fuel:Nat} {cs:List Value} {x:DataW H × List MemPlace} (h:DataW.trod enc Tryz.prog w 0 (fun _=>true) true fuel 42 cs=some x) :
  ∃ n dv d q,cs=[.int .i64 n,dv,.bool q]∧I64 n∧BytesAt (Old w) w dv d:=by
 obtain ⟨m,hl,hf⟩:=open_st Tryz.underlying42 h
 rw [show Tryz.prog.cellsOf 42=3 by kernel_rfl] at hl
 obtain ⟨c0,t0,rfl,hl0⟩:=len_n hl
 obtain ⟨c1,t1,rfl,hl1⟩:=len_n hl0
 obtain ⟨c2,t2,rfl,hl2⟩:=len_n hl1
 obtain rfl:t2=[]:=List.length_eq_zero_iff.1 hl2
 obtain ⟨y0,h0⟩:=hf _ (List.mem_cons_self ..)
 obtain ⟨y1,h1⟩:=hf _ (List.mem_cons_of_mem _ (List.mem_cons_self ..))
 obtain ⟨y2,h2⟩:=hf _ (List.mem_cons_of_mem _ (List.mem_cons_of_mem _ (List.mem_cons_self ..)))
 have k0:Tryz.prog.cellsOf 3=1:=by kernel_rfl
 have k1:Tryz.prog.cellsOf 40=1:=by kernel_rfl
 have k2:Tryz.prog.cellsOf 4=1:=by kernel_rfl
 simp only [k0,k1,k2,List.drop_zero,List.drop_succ_cons,List.take_succ_cons,List.take_zero] at h0 h1 h2
 obtain ⟨n,rfl,hn⟩:=trod_i64 Tryz.underlying3 h0
 obtain ⟨dv,d,hc,hd⟩:=open_bytes h1
 obtain ⟨q,hq,_⟩:=DataW.trod_bool Tryz.underlying4 h2
 cases hc
 cases hq
 exact ⟨n,_,d,q,rfl,hn,hd⟩
theorem opn_reads {fuel:Nat} {cs:List Value} {x:DataW H × List MemPlace} (h:DataW.trod enc Tryz.prog w 0 (fun _=>true) true fuel 36 cs=some x):∃ v l,cs=[v]∧ReadsAt (Old w) w v l:=by
 refine open_sl (k:=3) Tryz.underlying36 (by kernel_rfl) (by omega) h fun n cs' y b o hl hc ht=>?_
 obtain ⟨n,dv,d,q,rfl,hn,hd⟩:=opn_read ht
 exact ⟨⟨n,d,q⟩,by first | (simp;done) | (have:=hc 0 (by omega);simpa using this),hn,⟨dv,by first | (simp;done) | (have:=hc 1 (by omega);simpa using this),hd⟩,by first | (simp;done) | (have:=hc 2 (by omega);simpa using this)⟩
theorem opn_hist {fuel:Nat} {cs:List Value} {x:DataW H × List MemPlace} (h:DataW.trod enc Tryz.prog w 0 (fun _=>true) true fuel 39 cs=some x) :
  ∃ a b c d e rv pv rl pl,cs=[.int .i64 a,.int .i64 b,.int .i64 c,.int .i64 d,.int .i64 e,rv,pv]∧(I64 a∧I64 b∧I64 c∧I64 d∧I64 e)∧ReadsAt (Old w) w rv rl∧PutsAt (Old w) w pv pl:=by
 obtain ⟨m,hl,hf⟩:=open_st Tryz.underlying39 h
 rw [show Tryz.prog.cellsOf 39=7 by kernel_rfl] at hl
 obtain ⟨c0,t0,rfl,hl0⟩:=len_n hl
 obtain ⟨c1,t1,rfl,hl1⟩:=len_n hl0
 obtain ⟨c2,t2,rfl,hl2⟩:=len_n hl1
 obtain ⟨c3,t3,rfl,hl3⟩:=len_n hl2
 obtain ⟨c4,t4,rfl,hl4⟩:=len_n hl3
 obtain ⟨c5,t5,rfl,hl5⟩:=len_n hl4
 obtain ⟨c6,t6,rfl,hl6⟩:=len_n hl5
 obtain rfl:t6=[]:=List.length_eq_zero_iff.1 hl6
 obtain ⟨y0,h0⟩:=hf _ (List.mem_cons_self ..)
 obtain ⟨y1,h1⟩:=hf _ (List.mem_cons_of_mem _ (List.mem_cons_self ..))
 obtain ⟨y2,h2⟩:=hf _ (List.mem_cons_of_mem _ (List.mem_cons_of_mem _ (List.mem_cons_self ..)))
 obtain ⟨y3,h3⟩:=hf _ (List.mem_cons_of_mem _ (List.mem_cons_of_mem _ (List.mem_cons_of_mem _ (List.mem_cons_self ..))))
 obtain ⟨y4,h4⟩:=hf _ (List.mem_cons_of_mem _ (List.mem_cons_of_mem _ (List.mem_cons_of_mem _ (List.mem_cons_of_mem _ (List.mem_cons_self ..)))))
 obtain ⟨y5,h5⟩:=hf _ (List.mem_cons_of_mem _ (List.mem_cons_of_mem _ (List.mem_cons_of_mem _ (List.mem_cons_of_mem _ (List.mem_cons_of_mem _ (List.mem_cons_self ..))))))
 obtain ⟨y6,h6⟩:=hf _ (List.mem_cons_of_mem _ (List.mem_cons_of_mem _ (List.mem_cons_of_mem _ (List.mem_cons_of_mem _ (List.mem_cons_of_mem _ (List.mem_cons_of_mem _ (List.mem_cons_self ..)))))))
 have k0:Tryz.prog.cellsOf 3=1:=by kernel_rfl
 have k1:Tryz.prog.cellsOf 36=1:=by kernel_rfl
 have k2:Tryz.prog.cellsOf 37=1:=by kernel_rfl
 simp only [k0,k1,k2,List.drop_zero,List.drop_succ_cons,List.take_succ_cons,List.take_zero] at h0 h1 h2 h3 h4 h5 h6
 obtain ⟨a,rfl,ha⟩:=trod_i64 Tryz.underlying3 h0
 obtain ⟨b,rfl,hb⟩:=trod_i64 Tryz.underlying3 h1
 obtain ⟨c,rfl,hc⟩:=trod_i64 Tryz.underlying3 h2
 obtain ⟨d,rfl,hd⟩:=trod_i64 Tryz.underlying3 h3
 obtain ⟨e,rfl,he⟩:=trod_i64 Tryz.underlying3 h4
 obtain ⟨rv,rl,hr,hrl⟩:=opn_reads h5
 obtain ⟨pv,pl,hp,hpl⟩:=open_puts h6
 cases hr
 cases hp
 exact ⟨a,b,c,d,e,_,_,rl,pl,rfl,⟨ha,hb,hc,hd,he⟩,hrl,hpl⟩
theorem opn_hists {fuel:Nat} {cs:List Value} {x:DataW H × List MemPlace} (h:DataW.trod enc Tryz.prog w 0 (fun _=>true) true fuel 33 cs=some x):∃ v l,cs=[v]∧HistsAt (Old w) w v l:=by
 refine open_sl (k:=7) Tryz.underlying33 (by kernel_rfl) (by omega) h fun n cs' y b o hl hc ht=>?_
 obtain ⟨a,q,c,d,e,rv,pv,rl,pl,rfl,hi,hr,hp⟩:=opn_hist ht
 exact ⟨⟨a,q,c,d,e,rl,pl⟩,by first | (simp;done) | (have:=hc 0 (by omega);simpa using this),by first | (simp;done) | (have:=hc 1 (by omega);simpa using this),by first | (simp;done) | (have:=hc 2 (by omega);simpa using this),by first | (simp;done) | (have:=hc 3 (by omega);simpa using this),by first | (simp;done) | (have:=hc 4 (by omega);simpa using this),hi,⟨rv,by first | (simp;done) | (have:=hc 5 (by omega);simpa using this),hr⟩,pv,by first | (simp;done) | (have:=hc 6 (by omega);simpa using this),hp⟩
end
end Go.Proofs
