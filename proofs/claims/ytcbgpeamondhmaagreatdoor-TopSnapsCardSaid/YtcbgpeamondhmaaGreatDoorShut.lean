/- A law's row shut: a call that returns true, behind which all that was there is as it was. -/
import Derived.Test.YtcbgpeamondhmaaGreatDoorOpen
import Derived.Below
import Derived.ChangeSame
import Derived.Carry
namespace Go.Proofs
open Go.RowKit Sc Go.ChangeShapes Go.WideShapes
theorem i64_of_wf {n:Int} (h:(Lit.int .i64 n).wf=true):I64 n:=by
 simp [Lit.wf,IntKind.min,IntKind.max,IntKind.signed,IntKind.bits] at h
 unfold I64
 omega
section
variable {H:Type} {enc:TypeId × Value→H} {P:Program}
theorem trodAll_below (hl:laidOutB P=true) {W W':World} (hb:Below W.heap.size W W'):∀ {ts:List TypeId} {vs:List Value} {ds:List (DataW H)} {ps:List MemPlace},
  DataW.TrodAll enc P W 0 (fun _=>true) true ts vs ds ps→(ts.all fun t=>P.readableRec t && decide (t < P.types.size))=true→(∀ x∈ps,x.block < W.heap.size) →
  DataW.TrodAll enc P W' 0 (fun b=>decide (b < W.heap.size)) true ts vs ds ps
 | [],[],[],_,h,_,_=>h
 | t :: ts,v :: vs,d :: ds,ps,h,ht,hp=>by
  obtain ⟨p,q,h1,h2,rfl⟩:=h
  simp only [List.all_cons,Bool.and_eq_true,decide_eq_true_eq] at ht
  exact ⟨p,q,Below.trod hl ht.1.1 ht.1.2 h1 hb (fun x hx=>hp x (List.mem_append_left _ hx)),
   trodAll_below hl hb h2 (by simpa using ht.2) (fun x hx=>hp x (List.mem_append_right _ hx)),rfl⟩
 | [],_ :: _,_,_,h,_,_=>h.elim
 | [],[],_ :: _,_,h,_,_=>h.elim
 | _ :: _,[],_,_,h,_,_=>h.elim
 | _ :: _,_ :: _,[],_,h,_,_=>h.elim
theorem law_post {f:Func} {s:ChangeSpec} {W W':World} {args:Array Value} {ds:List (DataW H)} {before:List MemPlace} {tb:TypeId}
  (hl:laidOutB P=true) (hts:(f.params.toList.all fun t=>P.readableRec t && decide (t < P.types.size))=true) (hrt:f.resultTypes=#[tb]) (htb:P.underlying tb=some .bool) (hvars:s.vars=[])
  (hfn:s.fn H (ds++[])={ results:=[.lit (.bool true)],args:=ds })
  (hW:DataW.Whole enc P f.params.toList s.vars false W args.toList ds [] before) (hb:Below W.heap.size W W') :
  s.post enc P f false true false false W args (.bool true) W':=by
 have hlt:∀ p∈before,p.block < W.heap.size:=fun p hp=>hW.lt p hp
 have hW':=hW
 obtain ⟨pa,pv,hA,hV,rfl,hz,_⟩:=hW
 rw [hvars] at hV
 obtain rfl:pv=[]:=hV
 have hA':=trodAll_below hl hb hA hts (fun x hx=>hlt x (by simpa using hx))
 refine ⟨ds,[],pa++[],[],pa,[],hW',?_,?_,?_,World.keptBut_mono (fun p hp=>⟨hp,?_⟩) (hb.frame (· ∈ pa++[])),fun h=>by cases h⟩
 ·rw [hfn,hrt]
  exact trodAll_mk1 (shut_bool htb true)
 ·rw [hfn];exact hA'
 ·rw [hvars,hfn];rfl
 ·simpa using hp
end
end Go.Proofs
