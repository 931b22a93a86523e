/- Scripts, opened. -/
import Derived.Test.YtcbgpeamondhmaaGreatDoorOpen2
import Derived.Test.YtcbgpeamondhmaaGreatDoorTs14
namespace Go.Proofs
open Go.RowKit Sc Go.ChangeShapes Go.WideShapes
section
variable {H:Type} {enc:TypeId × Value→H} {w:World}
theorem opn_op {fuel:Nat} {cs:List Value} {x:DataW H × List MemPlace} (h:DataW.trod enc Tryz.prog w 0 (fun _=>true) true fuel 49 cs=some x) :
  ∃ a hh b c pv pl,cs=[.int .i64 a,.int .i64 hh,.int .i64 b,.int .i64 c,pv]∧(I64 a∧I64 hh∧I64 b∧I64 c)∧PutsAt (Old w) w pv pl:=by
 obtain ⟨m,hl,hf⟩:=open_st Tryz.underlying49 h
 rw [show Tryz.prog.cellsOf 49=5 by kernel_rfl] at hl
 obtain ⟨c0,t0,rfl,hl0⟩:=len_n hl
 obtain ⟨c1,t1,rfl,hl1⟩:=len_n hl0
 obtain ⟨c2,t2,rfl,hl2⟩:=len_n hl1
 obtain ⟨c3,t3,rfl,hl3⟩:=len_n hl2
 obtain ⟨c4,t4,rfl,hl4⟩:=len_n hl3
 obtain rfl:t4=[]:=List.length_eq_zero_iff.1 hl4
 obtain ⟨y0,h0⟩:=hf _ (List.mem_cons_self ..)
 obtain ⟨y1,h1⟩:=hf _ (List.mem_cons_of_mem _ (List.mem_cons_self ..))
 obtain ⟨y2,h2⟩:=hf _ (List.mem_cons_of_mem _ (List.mem_cons_of_mem _ (List.mem_cons_self ..)))
 obtain ⟨y3,h3⟩:=hf _ (List.mem_cons_of_mem _ (List.mem_cons_of_mem _ (List.mem_cons_of_mem _ (List.mem_cons_self ..))))
 obtain ⟨y4,h4⟩:=hf _ (List.mem_cons_of_mem _ (List.mem_cons_of_mem _ (List.mem_cons_of_mem _ (List.mem_cons_of_mem _ (List.mem_cons_self ..)))))
 have k0:Tryz.prog.cellsOf 3=1:=by kernel_rfl
 have k2:Tryz.prog.cellsOf 37=1:=by kernel_rfl
 simp only [k0,k2,List.drop_zero,List.drop_succ_cons,List.take_succ_cons,List.take_zero] at h0 h1 h2 h3 h4
 obtain ⟨a,rfl,ha⟩:=trod_i64 Tryz.underlying3 h0
 obtain ⟨hh,rfl,hhh⟩:=trod_i64 Tryz.underlying3 h1
 obtain ⟨b,rfl,hb⟩:=trod_i64 Tryz.underlying3 h2
 obtain ⟨c,rfl,hc⟩:=trod_i64 Tryz.underlying3 h3
 obtain ⟨pv,pl,hp0,hp⟩:=open_puts h4
 cases hp0
 exact ⟨a,hh,b,c,_,pl,rfl,⟨ha,hhh,hb,hc⟩,hp⟩
theorem opn_ops {fuel:Nat} {cs:List Value} {x:DataW H × List MemPlace} (h:DataW.trod enc Tryz.prog w 0 (fun _=>true) true fuel 29 cs=some x):∃ v l,cs=[v]∧OpsAt (Old w) w v l:=by
 refine open_sl (k:=5) Tryz.underlying29 (by kernel_rfl) (by omega) h fun n cs' y b o hl hc ht=>?_
 obtain ⟨a,hh,q,z,pv,pl,rfl,hI,hp⟩:=opn_op ht
 exact ⟨⟨a,hh,q,z,pl⟩,by exact hc 0 (by omega),by exact hc 1 (by omega),by exact hc 2 (by omega),by exact hc 3 (by omega),hI,pv,by exact hc 4 (by omega),hp⟩
theorem opn_stepT {fuel:Nat} {cs:List Value} {x:DataW H × List MemPlace} (h:DataW.trod enc Tryz.prog w 0 (fun _=>true) true fuel 32 cs=some x) :
  ∃ a b ov ol c iv il jv jl,cs=[.int .i64 a,.int .i64 b,ov,.int .i64 c,iv,jv]∧(I64 a∧I64 b∧I64 c)∧OpsAt (Old w) w ov ol∧IntsAt (Old w) w iv il∧IntsAt (Old w) w jv jl:=by
 obtain ⟨m,hl,hf⟩:=open_st Tryz.underlying32 h
 rw [show Tryz.prog.cellsOf 32=6 by kernel_rfl] at hl
 obtain ⟨c0,t0,rfl,hl0⟩:=len_n hl
 obtain ⟨c1,t1,rfl,hl1⟩:=len_n hl0
 obtain ⟨c2,t2,rfl,hl2⟩:=len_n hl1
 obtain ⟨c3,t3,rfl,hl3⟩:=len_n hl2
 obtain ⟨c4,t4,rfl,hl4⟩:=len_n hl3
 obtain ⟨c5,t5,rfl,hl5⟩:=len_n hl4
 obtain rfl:t5=[]:=List.length_eq_zero_iff.1 hl5
 obtain ⟨y0,h0⟩:=hf _ (List.mem_cons_self ..)
 obtain ⟨y1,h1⟩:=hf _ (List.mem_cons_of_mem _ (List.mem_cons_self ..))
 obtain ⟨y2,h2⟩:=hf _ (List.mem_cons_of_mem _ (List.mem_cons_of_mem _ (List.mem_cons_self ..)))
 obtain ⟨y3,h3⟩:=hf _ (List.mem_cons_of_mem _ (List.mem_cons_of_mem _ (List.mem_cons_of_mem _ (List.mem_cons_self ..))))
 obtain ⟨y4,h4⟩:=hf _ (List.mem_cons_of_mem _ (List.mem_cons_of_mem _ (List.mem_cons_of_mem _ (List.mem_cons_of_mem _ (List.mem_cons_self ..)))))
 obtain ⟨y5,h5⟩:=hf _ (List.mem_cons_of_mem _ (List.mem_cons_of_mem _ (List.mem_cons_of_mem _ (List.mem_cons_of_mem _ (List.mem_cons_of_mem _ (List.mem_cons_self ..))))))
 have k0:Tryz.prog.cellsOf 3=1:=by kernel_rfl
 have k1:Tryz.prog.cellsOf 29=1:=by kernel_rfl
 have k2:Tryz.prog.cellsOf 30=1:=by kernel_rfl
 simp only [k0,k1,k2,List.drop_zero,List.drop_succ_cons,List.take_succ_cons,List.take_zero] at h0 h1 h2 h3 h4 h5
 obtain ⟨a,rfl,ha⟩:=trod_i64 Tryz.underlying3 h0
 obtain ⟨b,rfl,hb⟩:=trod_i64 Tryz.underlying3 h1
 obtain ⟨ov,ol,ho0,ho⟩:=opn_ops h2
 cases ho0
 obtain ⟨c,rfl,hc⟩:=trod_i64 Tryz.underlying3 h3
 obtain ⟨iv,il,hi0,hi⟩:=opn_ints h4
 cases hi0
 obtain ⟨jv,jl,hj0,hj⟩:=opn_ints h5
 cases hj0
 exact ⟨a,b,_,ol,c,_,il,_,jl,rfl,⟨ha,hb,hc⟩,ho,hi,hj⟩
theorem opn_stepsT {fuel:Nat} {cs:List Value} {x:DataW H × List MemPlace} (h:DataW.trod enc Tryz.prog w 0 (fun _=>true) true fuel 22 cs=some x):∃ v l,cs=[v]∧StepsT (Old w) w v l:=by
 refine open_sl (k:=6) Tryz.underlying22 (by kernel_rfl) (by omega) h fun n cs' y b o hl hc ht=>?_
 obtain ⟨a,q,ov,ol,c,iv,il,jv,jl,rfl,⟨ha,hq,hc'⟩,ho,hi,hj⟩:=opn_stepT ht
 exact ⟨⟨a,q,ol,c,il,jl⟩,⟨by exact hc 0 (by omega),ha,by exact hc 1 (by omega),hq⟩,⟨ov,by exact hc 2 (by omega),ho⟩,⟨by exact hc 3 (by omega),hc'⟩,⟨iv,by exact hc 4 (by omega),hi⟩,jv,by exact hc 5 (by omega),hj⟩
end
end Go.Proofs
