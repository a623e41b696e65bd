/-
  OWN WORK, A PART: an abstract machine for the program's text that the kernel can run, and the proof that it is sound: what it answers is what the program answers; contracts of functions by it. No condition.
-/
import Derived.Test.YtcboepooglaogaaGreatDoorRows
import Derived.Test.YtcboepooglaogaaGreatDoorWaF
import Derived.WalkKit
import Derived.ProofKit
import Derived.OpenVars
import Derived.OpenShut
import Derived.LaidMore
import Derived.Lay
import Derived.Stop.Joined
section
namespace Go.Proofs.YtcboepooglaogaaGreatDoor.globPart
open Go.ChangeShapes Go.WideShapes Go.ChangeAt Go.RowKit Go.Ax
set_option linter.unusedVariables false
section
variable {P:Program} {w:World}
theorem laid_at:∀{laid:List (String×DataW Unit)} {ps:List MemPlace},DataW.LaidVars P w laid ps→∀n d,(n,d)∈laid→∃g t cs fuel p,P.globalNamed n=some g∧(P.globals[g]?).map (·.type)=some t∧w.var? P n=some cs∧DataW.trod (fun _=>()) P w 0 (fun _=>true) false fuel t cs.toList=some (d,p)
 | [],ps,h,n,d,hm=>by cases hm
 | (n0,d0)::r,ps,h,n,d,hm=>by
  obtain⟨g,t,cs,fuel,p,q,h1,h2,h3,h4,h5,_⟩:=h
  rcases List.mem_cons.1 hm with e | hm
  ·cases e
   exact⟨g,t,cs,fuel,p,h1,h2,h3,h4⟩
  ·exact laid_at h5 n d hm
theorem heap_at {n:String} {g:Nat} {cs:Array Value} (hn:P.globalNamed n=some g) (hv:w.var? P n=some cs):∃e m,w.heap[g]? = some (.cells cs e m):=by
 unfold World.var? at hv
 rw[hn] at hv
 simp only[Option.bind_some] at hv
 split at hv
 ·rename_i c e m hc
  simp only[Option.some.injEq] at hv;subst hv
  exact⟨e,m,hc⟩
 ·cases hv
theorem ints_at {n:String} {g at_ et:Nat} {k:IntKind} {zs:List Int} {ds:List AV} {laid:List (String×DataW Unit)} {ps:List MemPlace} (h:DataW.LaidVars P w laid ps) (hm:(n,DataW.agg (zs.map fun z=>.lit (.int k z)))∈laid)
  (hn:P.globalNamed n=some g) (ht:(P.globals[g]?).map (·.type)=some at_) (hu:P.underlying at_=some (.array zs.length et)) (he:P.underlying et=some (.int k)) (hc:P.cellsOf et=1) (hca:P.cellsOf at_=zs.length) (hds:ds=zs.map fun z=>.int k z) :
  (∀v,v∈ds→v.isCell=true)∧∃cs e m,w.heap[g]? = some (.cells cs e m)∧ds.length=cs.size∧∀(i:Nat) v v',ds[i]? = some v→cs[i]? = some v'→∀ι,VR ι v v':=by
 subst hds
 refine⟨fun v hv=>by obtain⟨z,_,rfl⟩:=List.mem_map.1 hv;rfl,?_⟩
 obtain⟨g',t',cs,fuel,p,h1,h2,h3,h4⟩:=laid_at h n _ hm
 obtain rfl:=Option.some.inj (hn.symm.trans h1)
 obtain rfl:=Option.some.inj (ht.symm.trans h2)
 obtain⟨e,m,hw⟩:=heap_at hn h3
 obtain⟨xs,m2,_,ex,hcl,hl,hel⟩:=DataW.trod_array hu h4
 have e3:xs.map (·.1)=zs.map fun z=>.lit (.int k z):=(DataW.agg.inj (Prod.mk.inj ex).1).symm
 refine⟨cs,e,m,hw,?_,fun i v v' hv hv' ι=>?_⟩
 ·rw[List.length_map]
  rw[hca] at hcl
  simpa using hcl.symm
 ·rw[List.getElem?_map,Option.map_eq_some_iff] at hv
  obtain⟨z,hz,rfl⟩:=hv
  have hi:i<zs.length:=(List.getElem?_eq_some_iff.1 hz).1
  have hE:=hel i hi
  rw[hc,Nat.mul_one,List.getElem?_eq_getElem (by omega)] at hE
  obtain⟨z',e1,e2,_⟩:=DataW.trod_int he hE
  have e4:(xs.map (·.1))[i]? = (zs.map fun z=>(DataW.lit (.int k z):DataW Unit))[i]?:=by rw[e3]
  rw[List.getElem?_map,List.getElem?_map,List.getElem?_eq_getElem (by omega:i<xs.length),hz,e2] at e4
  simp only[Option.map_some,Option.some.injEq,DataW.lit.injEq,Lit.int.injEq,true_and] at e4
  have h0:((cs.toList.drop i).take 1)[0]? = some (.int k z'):=by rw[e1];rfl
  have h6:cs[i]? = some (.int k z'):=by simpa using h0
  rw[h6] at hv'
  cases hv'
  rw[e4]
  exact .int _ _
end
def tab0:List Int:=[1,10,100,1000,10000,100000,1000000,10000000,100000000,1000000000,10000000000,100000000000,1000000000000,10000000000000,100000000000000,1000000000000000,10000000000000000,100000000000000000,1000000000000000000,10000000000000000000]
def tab1:List Int:=[0,1,28,2,29,14,24,3,30,22,20,15,25,17,4,8,31,27,13,23,21,19,16,7,26,12,18,6,11,5,10,9]
def tab2:List Int:=[0,1,56,2,57,49,28,3,61,58,42,50,38,29,17,4,62,47,59,36,45,43,51,22,53,39,33,30,24,18,12,5,63,55,48,27,60,41,37,16,46,35,44,21,52,32,23,11,54,26,40,15,34,20,31,10,25,14,19,9,13,8,7,6]
theorem globOK {W:World} (h:laidMetH Tryz.prog [("math/bits.deBruijn32tab", Rows.laid_math_bits_deBruijn32tab),("math/bits.deBruijn64tab", Rows.laid_math_bits_deBruijn64tab),("internal/strconv.uint64pow10", Rows.laid_internal_strconv_uint64pow10),("unicode/utf8.acceptRanges", Rows.laid_unicode_utf8_acceptRanges),("unicode/utf8.first", Rows.laid_unicode_utf8_first)] W):GlobOK W:=by
 rw[MakeChecks.laidMetH_plain _ _ _ (by kernel_rfl)] at h
 obtain⟨ps,hl,_,_⟩:=h
 intro g ds hgl
 unfold glV at hgl
 cases hb0:Nat.beq g 1 with
 | true =>
  rw[hb0,cond_true,Option.some.injEq] at hgl
  obtain rfl:=Nat.eq_of_beq_eq_true hb0
  have q:=ints_at (g:=1) (zs:=tab0) hl (List.mem_cons_of_mem _ (List.mem_cons_of_mem _ List.mem_cons_self)) (by kernel_rfl) (by kernel_rfl:_=some 315) Tryz.underlying315 Tryz.underlying22 (by kernel_rfl) (by kernel_rfl) (hgl.symm.trans (by rfl))
  exact⟨q.1,q.2⟩
 | false =>
 rw[hb0,cond_false] at hgl
 cases hb1:Nat.beq g 4 with
 | true =>
  rw[hb1,cond_true,Option.some.injEq] at hgl
  obtain rfl:=Nat.eq_of_beq_eq_true hb1
  have q:=ints_at (g:=4) (zs:=tab1) hl List.mem_cons_self (by kernel_rfl) (by kernel_rfl:_=some 329) Tryz.underlying329 Tryz.underlying5 (by kernel_rfl) (by kernel_rfl) (hgl.symm.trans (by rfl))
  exact⟨q.1,q.2⟩
 | false =>
 rw[hb1,cond_false] at hgl
 cases hb2:Nat.beq g 5 with
 | true =>
  rw[hb2,cond_true,Option.some.injEq] at hgl
  obtain rfl:=Nat.eq_of_beq_eq_true hb2
  have q:=ints_at (g:=5) (zs:=tab2) hl (List.mem_cons_of_mem _ List.mem_cons_self) (by kernel_rfl) (by kernel_rfl:_=some 330) Tryz.underlying330 Tryz.underlying5 (by kernel_rfl) (by kernel_rfl) (hgl.symm.trans (by rfl))
  exact⟨q.1,q.2⟩
 | false =>
 rw[hb2,cond_false] at hgl
 cases hgl
end Go.Proofs.YtcboepooglaogaaGreatDoor.globPart
end
