/-
  PROVED HERE: 'Rows.MetaPutsCardSaid': for every size, every list of written blocks and every meta the call of the law's function returns true, and what came in reads as it did; what the row lists is tied to the program's text by the given tie. No condition. THE WALK is a run of the function's text in an abstract machine (the texts WaA to WaF show that it is sound), at any memory: the disk, the codecs, Take and Put by contracts (MtA to MtI, NtA to NtD), the hashes and the closed call 'known' by runs of the kernel (HaA to HaR, KaA, KaK).
-/
import Derived.Test.YtiafochainjglaaGreatDoorRows
import Derived.Test.YtiafochainjglaaGreatDoorWaF
import Derived.WalkKit
import Derived.ProofKit
import Derived.OpenVars
import Derived.OpenShut
import Derived.LaidMore
import Derived.Lay
import Derived.Stop.Joined
import Derived.Test.YtiafochainjglaaGreatDoorMtI
import Derived.Test.YtiafochainjglaaGreatDoorCards
import Derived.Test.YtiafochainjglaaGreatDoorTie
import Derived.ShutString
import Derived.ChangeOld
import Derived.ChangeSlices
import Derived.Below
import Derived.Deep.SlicePairs
import Derived.Deep.Grids
import Derived.WideKeyArgs
import Derived.SevenTiedAt
import Derived.Test.YtiafochainjglaaGreatDoorNtD
section
namespace Go.Proofs.YtiafochainjglaaGreatDoor.glob4
open Go.ChangeShapes Go.WideShapes Go.ChangeAt Go.RowKit Go.Ax
set_option linter.unusedVariables false
section
variable {P:Program} {w:World}
theorem laid_at:∀{laid:List (String×DataW Unit)} {ps:List MemPlace},DataW.LaidVars P w laid ps→∀n d,(n,d)∈laid→∃g t cs fuel p,P.globalNamed n=some g∧(P.globals[g]?).map (·.type)=some t∧w.var? P n=some cs∧DataW.trod (fun _=>()) P w 0 (fun _=>true) false fuel t cs.toList=some (d,p)
 | [],ps,h,n,d,hm=>by cases hm
 | (n0,d0)::r,ps,h,n,d,hm=>by
  obtain⟨g,t,cs,fuel,p,q,h1,h2,h3,h4,h5,_⟩:=h
  rcases List.mem_cons.1 hm with e | hm
  ·cases e
   exact⟨g,t,cs,fuel,p,h1,h2,h3,h4⟩
  ·exact laid_at h5 n d hm
theorem heap_at {n:String} {g:Nat} {cs:Array Value} (hn:P.globalNamed n=some g) (hv:w.var? P n=some cs):∃e m,w.heap[g]? = some (.cells cs e m):=by
 unfold World.var? at hv
 rw[hn] at hv
 simp only[Option.bind_some] at hv
 split at hv
 ·rename_i c e m hc
  simp only[Option.some.injEq] at hv;subst hv
  exact⟨e,m,hc⟩
 ·cases hv
theorem ints_at {n:String} {g at_ et:Nat} {k:IntKind} {zs:List Int} {ds:List AV} {laid:List (String×DataW Unit)} {ps:List MemPlace} (h:DataW.LaidVars P w laid ps) (hm:(n,DataW.agg (zs.map fun z=>.lit (.int k z)))∈laid)
  (hn:P.globalNamed n=some g) (ht:(P.globals[g]?).map (·.type)=some at_) (hu:P.underlying at_=some (.array zs.length et)) (he:P.underlying et=some (.int k)) (hc:P.cellsOf et=1) (hca:P.cellsOf at_=zs.length) (hds:ds=zs.map fun z=>.int k z) :
  (∀v,v∈ds→v.isCell=true)∧∃cs e m,w.heap[g]? = some (.cells cs e m)∧ds.length=cs.size∧∀(i:Nat) v v',ds[i]? = some v→cs[i]? = some v'→∀ι,VR ι v v':=by
 subst hds
 refine⟨fun v hv=>by obtain⟨z,_,rfl⟩:=List.mem_map.1 hv;rfl,?_⟩
 obtain⟨g',t',cs,fuel,p,h1,h2,h3,h4⟩:=laid_at h n _ hm
 obtain rfl:=Option.some.inj (hn.symm.trans h1)
 obtain rfl:=Option.some.inj (ht.symm.trans h2)
 obtain⟨e,m,hw⟩:=heap_at hn h3
 obtain⟨xs,m2,_,ex,hcl,hl,hel⟩:=DataW.trod_array hu h4
 have e3:xs.map (·.1)=zs.map fun z=>.lit (.int k z):=(DataW.agg.inj (Prod.mk.inj ex).1).symm
 refine⟨cs,e,m,hw,?_,fun i v v' hv hv' ι=>?_⟩
 ·rw[List.length_map]
  rw[hca] at hcl
  simpa using hcl.symm
 ·rw[List.getElem?_map,Option.map_eq_some_iff] at hv
  obtain⟨z,hz,rfl⟩:=hv
  have hi:i<zs.length:=(List.getElem?_eq_some_iff.1 hz).1
  have hE:=hel i hi
  rw[hc,Nat.mul_one,List.getElem?_eq_getElem (by omega)] at hE
  obtain⟨z',e1,e2,_⟩:=DataW.trod_int he hE
  have e4:(xs.map (·.1))[i]? = (zs.map fun z=>(DataW.lit (.int k z):DataW Unit))[i]?:=by rw[e3]
  rw[List.getElem?_map,List.getElem?_map,List.getElem?_eq_getElem (by omega:i<xs.length),hz,e2] at e4
  simp only[Option.map_some,Option.some.injEq,DataW.lit.injEq,Lit.int.injEq,true_and] at e4
  have h0:((cs.toList.drop i).take 1)[0]? = some (.int k z'):=by rw[e1];rfl
  have h6:cs[i]? = some (.int k z'):=by simpa using h0
  rw[h6] at hv'
  cases hv'
  rw[e4]
  exact .int _ _
theorem strs_at {n:String} {g at_ et:Nat} {zs:List (List UInt8)} {ds:List AV} {laid:List (String×DataW Unit)} {ps:List MemPlace} (h:DataW.LaidVars P w laid ps) (hm:(n,DataW.agg (zs.map fun z=>.lit (.string z)))∈laid)
  (hn:P.globalNamed n=some g) (ht:(P.globals[g]?).map (·.type)=some at_) (hu:P.underlying at_=some (.array zs.length et)) (he:P.underlying et=some .string) (hc:P.cellsOf et=1) (hca:P.cellsOf at_=zs.length) (hds:ds=zs.map fun z=>.str (z.map UInt8.toNat)) :
  (∀v,v∈ds→v.isCell=true)∧∃cs e m,w.heap[g]? = some (.cells cs e m)∧ds.length=cs.size∧∀(i:Nat) v v',ds[i]? = some v→cs[i]? = some v'→∀ι,VR ι v v':=by
 subst hds
 refine⟨fun v hv=>by obtain⟨z,_,rfl⟩:=List.mem_map.1 hv;rfl,?_⟩
 obtain⟨g',t',cs,fuel,p,h1,h2,h3,h4⟩:=laid_at h n _ hm
 obtain rfl:=Option.some.inj (hn.symm.trans h1)
 obtain rfl:=Option.some.inj (ht.symm.trans h2)
 obtain⟨e,m,hw⟩:=heap_at hn h3
 obtain⟨xs,m2,_,ex,hcl,hl,hel⟩:=DataW.trod_array hu h4
 have e3:xs.map (·.1)=zs.map fun z=>.lit (.string z):=(DataW.agg.inj (Prod.mk.inj ex).1).symm
 refine⟨cs,e,m,hw,?_,fun i v v' hv hv' ι=>?_⟩
 ·rw[List.length_map]
  rw[hca] at hcl
  simpa using hcl.symm
 ·rw[List.getElem?_map,Option.map_eq_some_iff] at hv
  obtain⟨z,hz,rfl⟩:=hv
  have hi:i<zs.length:=(List.getElem?_eq_some_iff.1 hz).1
  have hE:=hel i hi
  rw[hc,Nat.mul_one,List.getElem?_eq_getElem (by omega)] at hE
  obtain⟨s,e1,e2,_⟩:=DataW.trod_string he hE
  have e4:(xs.map (·.1))[i]? = (zs.map fun z=>(DataW.lit (.string z):DataW Unit))[i]?:=by rw[e3]
  rw[List.getElem?_map,List.getElem?_map,List.getElem?_eq_getElem (by omega:i<xs.length),hz,e2] at e4
  simp only[Option.map_some,Option.some.injEq,DataW.lit.injEq,Lit.string.injEq] at e4
  have h0:((cs.toList.drop i).take 1)[0]? = some (.string s):=by rw[e1];rfl
  have h6:cs[i]? = some (.string s):=by simpa using h0
  rw[h6] at hv'
  cases hv'
  exact .str _ _ (by rw[e4])
end
def tab0:List (List UInt8):=[[109,101,116,97],[115,117,112,101,114],[108,105,110,101],[116,97,98,108,101],[107,101,121],[109,97,112],[104,111,116]]
def tab1:List Int:=[1,10,100,1000,10000,100000,1000000,10000000,100000000,1000000000,10000000000,100000000000,1000000000000,10000000000000,100000000000000,1000000000000000,10000000000000000,100000000000000000,1000000000000000000,10000000000000000000]
def tab2:List Int:=[0,1,28,2,29,14,24,3,30,22,20,15,25,17,4,8,31,27,13,23,21,19,16,7,26,12,18,6,11,5,10,9]
def tab3:List Int:=[0,1,56,2,57,49,28,3,61,58,42,50,38,29,17,4,62,47,59,36,45,43,51,22,53,39,33,30,24,18,12,5,63,55,48,27,60,41,37,16,46,35,44,21,52,32,23,11,54,26,40,15,34,20,31,10,25,14,19,9,13,8,7,6]
theorem globOK {W:World} (h:laidMetH Tryz.prog [("math/bits.deBruijn32tab", Rows.laid_math_bits_deBruijn32tab),("math/bits.deBruijn64tab", Rows.laid_math_bits_deBruijn64tab),("internal/strconv.uint64pow10", Rows.laid_internal_strconv_uint64pow10),("gemel/meta.words", Rows.laid_gemel_meta_words)] W):GlobOK W:=by
 rw[MakeChecks.laidMetH_plain _ _ _ (by kernel_rfl)] at h
 obtain⟨ps,hl,_,_⟩:=h
 intro g ds hgl
 unfold glV at hgl
 cases hb0:Nat.beq g 0 with
 | true =>
  rw[hb0,cond_true,Option.some.injEq] at hgl
  obtain rfl:=Nat.eq_of_beq_eq_true hb0
  have q:=strs_at (g:=0) (zs:=tab0) hl (List.mem_cons_of_mem _ (List.mem_cons_of_mem _ (List.mem_cons_of_mem _ List.mem_cons_self))) (by kernel_rfl) (by kernel_rfl:_=some 155) Tryz.underlying155 Tryz.underlying9 (by kernel_rfl) (by kernel_rfl) (hgl.symm.trans (by rfl))
  exact⟨q.1,q.2⟩
 | false =>
 rw[hb0,cond_false] at hgl
 cases hb1:Nat.beq g 4 with
 | true =>
  rw[hb1,cond_true,Option.some.injEq] at hgl
  obtain rfl:=Nat.eq_of_beq_eq_true hb1
  have q:=ints_at (g:=4) (zs:=tab1) hl (List.mem_cons_of_mem _ (List.mem_cons_of_mem _ List.mem_cons_self)) (by kernel_rfl) (by kernel_rfl:_=some 314) Tryz.underlying314 Tryz.underlying24 (by kernel_rfl) (by kernel_rfl) (hgl.symm.trans (by rfl))
  exact⟨q.1,q.2⟩
 | false =>
 rw[hb1,cond_false] at hgl
 cases hb2:Nat.beq g 7 with
 | true =>
  rw[hb2,cond_true,Option.some.injEq] at hgl
  obtain rfl:=Nat.eq_of_beq_eq_true hb2
  have q:=ints_at (g:=7) (zs:=tab2) hl List.mem_cons_self (by kernel_rfl) (by kernel_rfl:_=some 190) Tryz.underlying190 Tryz.underlying5 (by kernel_rfl) (by kernel_rfl) (hgl.symm.trans (by rfl))
  exact⟨q.1,q.2⟩
 | false =>
 rw[hb2,cond_false] at hgl
 cases hb3:Nat.beq g 8 with
 | true =>
  rw[hb3,cond_true,Option.some.injEq] at hgl
  obtain rfl:=Nat.eq_of_beq_eq_true hb3
  have q:=ints_at (g:=8) (zs:=tab3) hl (List.mem_cons_of_mem _ List.mem_cons_self) (by kernel_rfl) (by kernel_rfl:_=some 323) Tryz.underlying323 Tryz.underlying5 (by kernel_rfl) (by kernel_rfl) (hgl.symm.trans (by rfl))
  exact⟨q.1,q.2⟩
 | false =>
 rw[hb3,cond_false] at hgl
 cases hgl
end Go.Proofs.YtiafochainjglaaGreatDoor.glob4
end

section
open Go Go.Ax Go.Proofs
namespace Go.Proofs.YtiafochainjglaaGreatDoor.drp.lw
set_option linter.unusedVariables false
noncomputable section
open Go.ChangeShapes Go.WideShapes Go.ChangeAt Go.RowKit Go.Deep
section
variable {H:Type} {enc:TypeId×Value→H} {P:Program} {w:World} {base:Nat} {spare:Nat→Bool} {held:Bool} {fuel:Nat} {t:TypeId} {cs:List Value} {x:DataW H×List MemPlace}
theorem fieldOf {fs:Array Field} (ht:P.underlying t=some (.struct fs)) (h:DataW.trod enc P w base spare held fuel t cs=some x) {i:Nat} {f:Field} (hi:fs[i]? = some f) :
  ∃n y,DataW.trod enc P w base spare held n f.type ((cs.drop f.offset).take (P.cellsOf f.type))=some y:=by
 obtain⟨xs,n,_,_,_,hl,hf⟩:=DataW.trod_struct ht h
 have h1:=(Array.getElem?_eq_some_iff.1 hi).1
 exact⟨n,xs[i]'(by omega),by rw[hf i f hi];simp⟩
theorem elemOf {n:Nat} {e:TypeId} (ht:P.underlying t=some (.array n e)) (h:DataW.trod enc P w base spare held fuel t cs=some x) {i:Nat} (hi:i<n) :
  ∃m y,DataW.trod enc P w base spare held m e ((cs.drop (i*P.cellsOf e)).take (P.cellsOf e))=some y:=by
 obtain⟨xs,m,_,_,_,hl,hf⟩:=DataW.trod_array ht h
 exact⟨m,xs[i]'(by omega),by rw[hf i hi];simp⟩
theorem one_int {k:IntKind} {o:Nat} (ht:P.underlying t=some (.int k)) (h:DataW.trod enc P w base spare held fuel t ((cs.drop o).take 1)=some x):∃z,cs[o]? = some (.int k z)∧(Lit.int k z).wf=true:=by
 obtain⟨z,e,_,hw⟩:=DataW.trod_int ht h
 refine⟨z,?_,hw⟩
 have:((cs.drop o).take 1)[0]? = some (.int k z):=by rw[e];rfl
 simpa using this
end
theorem own:ownKnob Tryz.prog.godebug=none:=by kernel_rfl
theorem laidOut:laidOutB Tryz.prog=true:=by kernel_rfl
theorem same_below {W W':World} (h:Below W.heap.size W W') {p:MemPlace} (hp:p.block<W.heap.size):W.sameAt W' p:=by
 cases p with
 | cell b off=>exact h.cell (p:=⟨b,off,none⟩) hp
 | map b=>exact h.block b hp
theorem spot_none {W:World} {a:Addr} {v:Value} (h:W.cell? (a.add 0)=some v):a.spot=none:=by
 obtain⟨b,off,spot⟩:=a
 cases spot with
 | none=>rfl
 | some s =>
  unfold World.cell? at h
  simp only[Addr.add,if_true] at h
  split at h
  ·simp at h
  ·cases h
theorem law_at {P:Program} {f:Nat} {args:List AV} {args':Array Value} {B:Prot} {W:World} (hall:∀k,k<W.heap.size→B.all k) {ι:Ren} {st:ASt} (hsr:SR B W ι st W) (hv:VRs ι args args') {v:AV×ASt} (hv1:v.1=.bool true)
  (h:Call1 P f args st v):Calls P f args' W fun e w'=>e=.returned (.bool true)∧Below W.heap.size W w':=by
 have:=(h B W ι W args' hsr hv).2
 rw[callsIn_wide] at this
 refine this.mono ?_
 rintro e w' ⟨x,ι',rfl,_,h2,h3⟩
 obtain⟨v,st'⟩:=v
 simp only at hv1 h3
 subst hv1
 cases h3
 exact⟨rfl,h2.below.os,h2.below.tape,h2.below.output,h2.below.size,fun k hk=>h2.below.block k (hall k hk)⟩
def memO (o:AO):ASt:={h:=T.set 20 .e 0 o,next:=1}
theorem memO_at (o:AO) (i:Nat):(memO o).h.get i=if i=0 then some o else none:=by
 unfold memO
 show (T.set 20 .e 0 o).get i=_
 rw[T.get_set,T.get_e]
theorem memO_get (o:AO):∀i a,(memO o).h.get i=some a→i=0∧a=o:=fun i a h=>by
 rw[memO_at] at h
 by_cases hi:i=0
 ·rw[if_pos hi] at h;cases h;exact⟨hi,rfl⟩
 ·rw[if_neg hi] at h;cases h
theorem memO_tidy (o:AO):Tidy (memO o):=fun k hk=>by
 have hk:1≤k:=hk
 rw[memO_at,if_neg (by omega)]
def vP (p:Int×List Nat):List Value:=.int .i64 p.1::(List.range 256).map fun i=>.int .u8 (.ofNat (p.2.getD i 0))
theorem vP_get {p:Int×List Nat} {j:Nat} {v:AV} (h:(encP p)[j]? = some v):v.isCell=true∧∃v',(vP p)[j]? = some v'∧∀ι,VR ι v v':=by
 cases j with
 | zero =>
  simp only[encP,List.getElem?_cons_zero,Option.some.injEq] at h
  subst h
  exact⟨rfl,_,rfl,fun ι=>.int _ _⟩
 | succ j =>
  unfold encP at h
  rw[List.getElem?_cons_succ] at h
  have hj:j<256:=by
   have:=(List.getElem?_eq_some_iff.1 h).1
   rwa [bl_len] at this
  rw[bl_get hj] at h
  cases h
  exact⟨rfl,.int .u8 (.ofNat (p.2.getD j 0)),by unfold vP;rw[List.getElem?_cons_succ,List.getElem?_map,List.getElem?_range hj];rfl,fun ι=>.int _ _⟩
theorem piece_of {H:Type} {enc:TypeId×Value→H} {W:World} {base fuel:Nat} {spare:Nat→Bool} {held:Bool} {cs:List Value} {x:DataW H×List MemPlace} (hl:cs.length=257)
  (h:DataW.trod enc Tryz.prog W base spare held fuel 56 cs=some x):∃p:Int×List Nat,cs=vP p∧byL p.2:=by
 have c3':Tryz.prog.cellsOf 3=1:=by kernel_rfl
 have c5':Tryz.prog.cellsOf 5=1:=by kernel_rfl
 have c54:Tryz.prog.cellsOf 54=256:=by kernel_rfl
 obtain⟨n0,g0,k0⟩:=fieldOf Tryz.underlying56 h (i:=0) rfl
 obtain⟨n1,g1,k1⟩:=fieldOf Tryz.underlying56 h (i:=1) rfl
 replace k0:DataW.trod enc Tryz.prog W base spare held n0 3 ((cs.drop 0).take (Tryz.prog.cellsOf 3))=some g0:=k0
 replace k1:DataW.trod enc Tryz.prog W base spare held n1 54 ((cs.drop 1).take (Tryz.prog.cellsOf 54))=some g1:=k1
 rw[c3'] at k0
 rw[c54] at k1
 obtain⟨a,e0,_⟩:=one_int Tryz.underlying3 k0
 have each:∀i,i<256→∃b:Nat,cs[1+i]? = some (.int .u8 (.ofNat b))∧b<256:=fun i hi=>by
  obtain⟨m,y,hy⟩:=elemOf Tryz.underlying54 k1 hi
  rw[c5',Nat.mul_one] at hy
  obtain⟨z,ez,wz⟩:=one_int Tryz.underlying5 hy
  have hz:0≤z∧z≤255:=by
   simp only[Lit.wf,Bool.and_eq_true,decide_eq_true_eq] at wz
   exact wz
  refine⟨z.toNat,?_,by omega⟩
  rw[List.getElem?_take_of_lt (by omega),List.getElem?_drop] at ez
  rw[ez,show Int.ofNat z.toNat=z from Int.toNat_of_nonneg hz.1]
 obtain⟨f,hf⟩:=choose_lt each
 refine⟨(a,(List.range 256).map f),?_,fun j=>?_⟩
 ·refine List.ext_getElem? fun j=>?_
  unfold vP
  cases j with
  | zero=>simpa using e0
  | succ j =>
   rw[List.getElem?_cons_succ]
   by_cases hj:j<256
   ·rw[Nat.add_comm j 1,(hf j hj).1,List.getElem?_map,List.getElem?_range hj]
    simp[hj]
   ·rw[List.getElem?_eq_none (by omega),List.getElem?_eq_none (by simp;omega)]
 ·by_cases hj:j<256
  ·rw[List.getD_eq_getElem?_getD,List.getElem?_map,List.getElem?_range hj]
   exact (hf j hj).2
  ·rw[List.getD_eq_getElem?_getD,List.getElem?_eq_none (by simp;omega)]
   decide
theorem sl51:sliceT EWl 51=some 257:=by kernel_rfl
structure PArg (W:World) (ps:List (Int×List Nat)) (v:Value) (vl:AV) (o:AO) (r:Option (Nat×Nat×List AV)):Prop where
 at_:ArgAt EWl W 51 257 0 ps.length v (ps.flatMap encP) vl o r
 byt:∀p,p∈ps→byL p.2
theorem pieces_arg {H:Type} {enc:TypeId×Value→H} {W:World} {fuel:Nat} {spare:Nat→Bool} {held:Bool} {v:Value} {x:DataW H×List MemPlace} (h:DataW.trod enc Tryz.prog W 0 spare held fuel 51 [v]=some x) :
  ∃ps vl o r,PArg W ps v vl o r:=by
 rcases open_slice Tryz.underlying51 h with⟨hcs,_⟩ | ⟨a,len,cap,mm,n,D,Pl,hcs,_,hl,_,hmm,_,hx⟩
 ·simp at hcs
  subst hcs
  exact⟨[],_,_,_,ArgAt.mk_nil sl51,fun p hp=>by cases hp⟩
 ·simp at hcs
  subst hcs
  by_cases h0:len=0
  ·subst h0
   exact⟨[],_,_,_,ArgAt.mk_zero sl51,fun p hp=>by cases hp⟩
  ·have hlm:len≤mm:=by rw[hmm];split<;>omega
   have c56:Tryz.prog.cellsOf 56=257:=by kernel_rfl
   have each:∀i,i<len→∃p:Int×List Nat,(∀j x,(vP p)[j]? = some x→W.cell? (a.add (i*257+j))=some x)∧byL p.2:=fun i hi=>by
    obtain⟨cs',h1,h2⟩:=hx i (by omega)
    rw[c56] at h1
    obtain⟨_,hlen,hcell⟩:=World.cells?_some h1
    obtain⟨p,hp,hb⟩:=piece_of hlen h2
    refine⟨p,fun j y hy=>?_,hb⟩
    have hj:j<257:=by
     have:=(List.getElem?_eq_some_iff.1 hy).1
     simpa [vP] using this
    have e:=hcell j (by omega)
    rw[add_add] at e
    rw[e,hp]
    exact hy
   haveI:Inhabited (Int×List Nat):=⟨(0,[])⟩
   obtain⟨q,hq⟩:=choose_lt each
   have hsp:=spot_none (a:=a) (v:=.int .i64 (q 0).1) (by
    have:=(hq 0 (by omega)).1 0 _ rfl
    rwa [Nat.zero_mul] at this)
   obtain⟨b,off,spot⟩:=a
   simp only at hsp
   subst hsp
   have hpl:((List.range len).map q).length=len:=by simp
   have hne:((List.range len).map q).flatMap encP≠[]:=fun e=>by
    have:=congrArg List.length e
    rw[fm_len encP_len,hpl] at this
    simp at this
    omega
   have hrow:RowAt W b off (((List.range len).map q).flatMap encP):=fun k v hk=>by
    have hk2:k<len*257:=by
     have:=(List.getElem?_eq_some_iff.1 hk).1
     rwa [fm_len encP_len,hpl] at this
    have hd:k / 257<len:=by omega
    have hp:((List.range len).map q)[k / 257]? = some (q (k / 257)):=by simp[hd]
    have hr:k % 257<(encP (q (k / 257))).length:=by rw[encP_len];exact Nat.mod_lt _ (by decide)
    have hv:=fm_get (enc:=encP) encP_len hp (List.getElem?_eq_getElem hr)
    rw[show k / 257*257+k % 257=k by omega] at hv
    have hkv:(encP (q (k / 257)))[k % 257]? = some v:=by
     rw[List.getElem?_eq_getElem hr]
     exact hv.symm.trans hk
    obtain⟨g1,v',g2,g3⟩:=vP_get hkv
    refine⟨g1,v',?_,g3⟩
    have:=(hq (k / 257) (by omega)).1 _ _ g2
    rw[add_plain] at this
    rw[show off+k=off+(k / 257*257+k % 257) by omega]
    exact this
   refine⟨(List.range len).map q,.slice (some (0,0)) len (.atl len),.cells (((List.range len).map q).flatMap encP) false,some (b,off,((List.range len).map q).flatMap encP),?_,fun p hp=>?_⟩
   ·rw[hpl]
    exact ArgAt.mk_row sl51 hne hl hrow
   ·obtain⟨i,hi,rfl⟩:=List.mem_map.1 hp
    exact (hq i (List.mem_range.1 hi)).2
def row0 (r:Option (Nat×Nat×List AV)):Nat→Option (Nat×Nat×List AV)
 | 0=>r
 | _=>none
def laidAll:List (String×DataW Unit):=[("math/bits.deBruijn32tab", Rows.laid_math_bits_deBruijn32tab),("math/bits.deBruijn64tab", Rows.laid_math_bits_deBruijn64tab),("internal/strconv.uint64pow10", Rows.laid_internal_strconv_uint64pow10),("gemel/meta.words", Rows.laid_gemel_meta_words)]
theorem door_met (os:Os) (args:Array Value):laidMetH Tryz.prog laidAll ((World.laidAll Tryz.prog os laidAll).forCall (fun _ _=>0) ⟨#[],args,[]⟩).memory:=by
 rw[MakeChecks.laidMetH_plain _ _ _ (by kernel_rfl)]
 exact laidMet_laidAll _ (by kernel_rfl) (by kernel_rfl)
end
end Go.Proofs.YtiafochainjglaaGreatDoor.drp.lw
end

section
open Go Go.Ax Go.Proofs
namespace Go.Proofs.YtiafochainjglaaGreatDoor.drp.pu
set_option linter.unusedVariables false
noncomputable section
open Go.ChangeShapes Go.WideShapes Go.ChangeAt Go.RowKit Go.Deep
open lw (fieldOf one_int own laidOut same_below law_at memO memO_at memO_get memO_tidy PArg pieces_arg row0 laidAll door_met encP)
def cV:AV→Value
 | .int k z=>.int k z
 | .bool b=>.bool b
 | _=>.bool false
def okV:AV→Bool
 | .int _ _=>true
 | .bool _=>true
 | _=>false
theorem okV_p {v:AV} (h:okV v=true) (ι:Ren):v.isCell=true∧VR ι v (cV v):=by
 unfold okV at h
 split at h
 ·exact⟨rfl,.int _ _⟩
 ·exact⟨rfl,.bool _⟩
 ·cases h
theorem agg_vr {l:List AV} (h:l.all okV=true) (ι:Ren):VR ι (.agg l) (.agg (l.map cV).toArray):=.agg l _ (by simp) (fun v hv=>(okV_p (List.all_eq_true.1 h v hv) ι).1) (fun i v v' hi hi'=>by
 have e:((l.map cV).toArray)[i]? = (l[i]?).map cV:=by simp
 rw[e,hi] at hi'
 cases hi'
 exact (okV_p (List.all_eq_true.1 h v (List.mem_of_getElem? hi)) ι).2)
theorem sub_get {cs:List Value} {o n j:Nat} {v:Value} (h:((cs.drop o).take n)[j]? = some v):cs[o+j]? = some v:=by
 rw[List.getElem?_take] at h
 split at h
 ·rwa [List.getElem?_drop] at h
 ·cases h
theorem u64of {z:Int} (w:(Lit.int .u64 z).wf=true):∃n:Nat,z=.ofNat n∧n<18446744073709551616:=by
 have hz:0≤z∧z≤18446744073709551615:=by
  simp only[Lit.wf,Bool.and_eq_true,decide_eq_true_eq] at w
  exact w
 exact⟨z.toNat,(Int.toNat_of_nonneg hz.1).symm,by omega⟩
theorem u16of {z:Int} (w:(Lit.int .u16 z).wf=true):∃n:Nat,z=.ofNat n∧n<65536:=by
 have hz:0≤z∧z≤65535:=by
  simp only[Lit.wf,Bool.and_eq_true,decide_eq_true_eq] at w
  exact w
 exact⟨z.toNat,(Int.toNat_of_nonneg hz.1).symm,by omega⟩
section
variable {H:Type} {enc:TypeId×Value→H} {P:Program} {w:World} {base:Nat} {spare:Nat→Bool} {held:Bool} {fuel:Nat} {t:TypeId} {cs:List Value} {x:DataW H×List MemPlace}
theorem one_bool {o:Nat} (ht:P.underlying t=some .bool) (h:DataW.trod enc P w base spare held fuel t ((cs.drop o).take 1)=some x):∃b,cs[o]? = some (.bool b):=by
 obtain⟨z,e,_⟩:=DataW.trod_bool ht h
 refine⟨z,?_⟩
 have:((cs.drop o).take 1)[0]? = some (.bool z):=by rw[e];rfl
 simpa using this
end
section
variable {H:Type} {enc:TypeId×Value→H} {W:World} {base:Nat} {spare:Nat→Bool} {held:Bool} {fuel:Nat} {cs:List Value} {x:DataW H×List MemPlace}
theorem c1:Tryz.prog.cellsOf 3=1∧Tryz.prog.cellsOf 4=1∧Tryz.prog.cellsOf 23=1∧Tryz.prog.cellsOf 24=1∧Tryz.prog.cellsOf 31=1∧Tryz.prog.cellsOf 34=1:=⟨by kernel_rfl,by kernel_rfl,by kernel_rfl,by kernel_rfl,by kernel_rfl,by kernel_rfl⟩
theorem cN:Tryz.prog.cellsOf 25=2∧Tryz.prog.cellsOf 27=4∧Tryz.prog.cellsOf 29=7∧Tryz.prog.cellsOf 30=16∧Tryz.prog.cellsOf 33=19:=⟨by kernel_rfl,by kernel_rfl,by kernel_rfl,by kernel_rfl,by kernel_rfl⟩
theorem f_int {t ft:TypeId} {fs:Array Field} {kd:IntKind} (ht:Tryz.prog.underlying t=some (.struct fs)) (h:DataW.trod enc Tryz.prog W base spare held fuel t cs=some x) (i o:Nat) {f:Field} (hi:fs[i]? = some f) (ho:f.offset=o) (hft:f.type=ft) (hc:Tryz.prog.cellsOf ft=1) (hk:Tryz.prog.underlying ft=some (.int kd)) :
  ∃z,cs[o]? = some (.int kd z)∧(Lit.int kd z).wf=true:=by
 obtain⟨n,y,hy⟩:=fieldOf ht h hi
 rw[hft,ho,hc] at hy
 exact one_int hk hy
theorem f_bool {t ft:TypeId} {fs:Array Field} (ht:Tryz.prog.underlying t=some (.struct fs)) (h:DataW.trod enc Tryz.prog W base spare held fuel t cs=some x) (i o:Nat) {f:Field} (hi:fs[i]? = some f) (ho:f.offset=o) (hft:f.type=ft) (hc:Tryz.prog.cellsOf ft=1) (hk:Tryz.prog.underlying ft=some .bool) :
  ∃z,cs[o]? = some (.bool z):=by
 obtain⟨n,y,hy⟩:=fieldOf ht h hi
 rw[hft,ho,hc] at hy
 exact one_bool hk hy
theorem f_sub {t ft:TypeId} {fs:Array Field} {m:Nat} (ht:Tryz.prog.underlying t=some (.struct fs)) (h:DataW.trod enc Tryz.prog W base spare held fuel t cs=some x) (i o:Nat) {f:Field} (hi:fs[i]? = some f) (ho:f.offset=o) (hft:f.type=ft) (hc:Tryz.prog.cellsOf ft=m) :
  ∃n y,DataW.trod enc Tryz.prog W base spare held n ft ((cs.drop o).take m)=some y:=by
 obtain⟨n,y,hy⟩:=fieldOf ht h hi
 rw[hft,ho,hc] at hy
 exact⟨n,y,hy⟩
theorem a_int {t:TypeId} {m:Nat} (ht:Tryz.prog.underlying t=some (.array m 24)) (h:DataW.trod enc Tryz.prog W base spare held fuel t cs=some x) {i:Nat} (hi:i<m):∃z,cs[i]? = some (.int .u64 z)∧(Lit.int .u64 z).wf=true:=by
 obtain⟨n,y,hy⟩:=lw.elemOf ht h hi
 rw[c1.2.2.2.1,Nat.mul_one] at hy
 exact one_int Tryz.underlying24 hy
theorem meta_of (hl:cs.length=32) (h:DataW.trod enc Tryz.prog W base spare held fuel 36 cs=some x) :
  ∃(b s:Int) (c mk:Bool) (X:Nat→Nat) (Z:Nat→Int) (t se nu ho:Nat),cs=(mG b s c X Z t mk se nu ho).map cV∧(∀i,X i<18446744073709551616)∧(∀i,i<17→∃w:Nat,Z i=.ofNat w∧w<18446744073709551616)∧t<18446744073709551616∧se<18446744073709551616∧nu<18446744073709551616∧ho<65536:=by
 obtain⟨b,e0,_⟩:=f_int Tryz.underlying36 h 0 0 rfl rfl rfl c1.1 Tryz.underlying3
 obtain⟨ns,ys,hs⟩:=f_sub Tryz.underlying36 h 1 1 rfl rfl rfl cN.2.2.1
 obtain⟨nt,yt,ht⟩:=f_sub Tryz.underlying36 h 2 8 rfl rfl rfl cN.2.2.2.2
 obtain⟨t',e27,w27⟩:=f_int Tryz.underlying36 h 3 27 rfl rfl rfl c1.2.2.2.1 Tryz.underlying24
 obtain⟨mk,e28⟩:=f_bool Tryz.underlying36 h 4 28 rfl rfl rfl c1.2.1 Tryz.underlying4
 obtain⟨se',e29,w29⟩:=f_int Tryz.underlying36 h 5 29 rfl rfl rfl c1.2.2.2.1 Tryz.underlying24
 obtain⟨nu',e30,w30⟩:=f_int Tryz.underlying36 h 6 30 rfl rfl rfl c1.2.2.2.1 Tryz.underlying24
 obtain⟨ho',e31,w31⟩:=f_int Tryz.underlying36 h 7 31 rfl rfl rfl c1.2.2.2.2.2 Tryz.underlying34
 obtain⟨t,rfl,bt⟩:=u64of w27
 obtain⟨se,rfl,bse⟩:=u64of w29
 obtain⟨nu,rfl,bnu⟩:=u64of w30
 obtain⟨ho,rfl,bho⟩:=u16of w31
 obtain⟨s,e1,_⟩:=f_int Tryz.underlying29 hs 0 0 rfl rfl rfl c1.2.2.1 Tryz.underlying23
 obtain⟨c,e2⟩:=f_bool Tryz.underlying29 hs 1 1 rfl rfl rfl c1.2.1 Tryz.underlying4
 obtain⟨nl,yl,hln⟩:=f_sub Tryz.underlying29 hs 2 2 rfl rfl rfl cN.2.1
 obtain⟨x5,e7,w7⟩:=f_int Tryz.underlying29 hs 3 6 rfl rfl rfl c1.2.2.2.1 Tryz.underlying24
 obtain⟨x1,e3,w3⟩:=f_int Tryz.underlying27 hln 0 0 rfl rfl rfl c1.2.2.2.1 Tryz.underlying24
 obtain⟨x2,e4,w4⟩:=f_int Tryz.underlying27 hln 1 1 rfl rfl rfl c1.2.2.2.1 Tryz.underlying24
 obtain⟨nh,yh,hh⟩:=f_sub Tryz.underlying27 hln 2 2 rfl rfl rfl cN.1
 obtain⟨x3,e5,w5⟩:=a_int Tryz.underlying25 hh (i:=0) (by decide)
 obtain⟨x4,e6,w6⟩:=a_int Tryz.underlying25 hh (i:=1) (by decide)
 replace e1:=sub_get e1
 replace e2:=sub_get e2
 replace e3:=sub_get (sub_get e3)
 replace e4:=sub_get (sub_get e4)
 replace e5:=sub_get (sub_get (sub_get e5))
 replace e6:=sub_get (sub_get (sub_get e6))
 replace e7:=sub_get e7
 have eX:∀i:Nat,∃w:Nat,w<18446744073709551616∧(1≤i→i<6→cs[2+i]? = some (.int .u64 (.ofNat w))):=fun i=>by
  match i with
  | 0=>exact⟨0,by decide,fun h=>absurd h (by decide)⟩
  | 1=>obtain⟨w,rfl,hw⟩:=u64of w3;exact⟨w,hw,fun _ _=>e3⟩
  | 2=>obtain⟨w,rfl,hw⟩:=u64of w4;exact⟨w,hw,fun _ _=>e4⟩
  | 3=>obtain⟨w,rfl,hw⟩:=u64of w5;exact⟨w,hw,fun _ _=>e5⟩
  | 4=>obtain⟨w,rfl,hw⟩:=u64of w6;exact⟨w,hw,fun _ _=>e6⟩
  | 5=>obtain⟨w,rfl,hw⟩:=u64of w7;exact⟨w,hw,fun _ _=>e7⟩
  | i+6=>exact⟨0,by decide,fun _ h=>absurd h (by omega)⟩
 obtain⟨X,hX⟩:=Classical.axiomOfChoice eX
 obtain⟨g,e8,w8⟩:=f_int Tryz.underlying33 ht 0 0 rfl rfl rfl c1.2.2.2.1 Tryz.underlying24
 obtain⟨nk,yk,hk⟩:=f_sub Tryz.underlying33 ht 1 1 rfl rfl rfl cN.2.2.2.1
 obtain⟨ty,e25,_⟩:=f_int Tryz.underlying33 ht 2 17 rfl rfl rfl c1.2.2.2.2.1 Tryz.underlying31
 obtain⟨hd,e26,_⟩:=f_int Tryz.underlying33 ht 3 18 rfl rfl rfl c1.1 Tryz.underlying3
 replace e8:=sub_get e8
 replace e25:=sub_get e25
 replace e26:=sub_get e26
 have eZ:∀i,i<19→∃z:Int,cs[8+i]? = some (.int (if i<17 then .u64 else .i64) z)∧(i<17→∃w:Nat,z=.ofNat w∧w<18446744073709551616):=fun i hi=>by
  rcases Nat.lt_or_ge i 17 with h17 | h17
  ·rw[if_pos h17]
   rcases Nat.eq_zero_or_pos i with h0 | h0
   ·subst h0;exact⟨g,e8,fun _=>u64of w8⟩
   ·obtain⟨z,ez,wz⟩:=a_int Tryz.underlying30 hk (i:=i - 1) (by omega)
    replace ez:=sub_get (sub_get ez)
    rw[show 8+(1+(i - 1))=8+i by omega] at ez
    exact⟨z,ez,fun _=>u64of wz⟩
  ·rw[if_neg (by omega)]
   rcases Nat.lt_or_ge i 18 with h18 | h18
   ·obtain rfl:i=17:=by omega
    exact⟨ty,e25,fun h=>absurd h (by decide)⟩
   ·obtain rfl:i=18:=by omega
    exact⟨hd,e26,fun h=>absurd h (by decide)⟩
 obtain⟨Z,hZ⟩:=choose_lt eZ
 refine⟨b,s,c,mk,X,Z,t,se,nu,ho,?_,fun i=>(hX i).1,fun i hi=>(hZ i (by omega)).2 hi,bt,bse,bnu,bho⟩
 refine List.ext_getElem? fun j=>?_
 match j with
 | 0=>exact (e0).trans (by kernel_rfl)
 | 1=>exact (e1).trans (by kernel_rfl)
 | 2=>exact (e2).trans (by kernel_rfl)
 | 3=>exact ((hX 1).2 (by decide) (by decide)).trans (by kernel_rfl)
 | 4=>exact ((hX 2).2 (by decide) (by decide)).trans (by kernel_rfl)
 | 5=>exact ((hX 3).2 (by decide) (by decide)).trans (by kernel_rfl)
 | 6=>exact ((hX 4).2 (by decide) (by decide)).trans (by kernel_rfl)
 | 7=>exact ((hX 5).2 (by decide) (by decide)).trans (by kernel_rfl)
 | 8=>exact ((hZ 0 (by decide)).1).trans (by kernel_rfl)
 | 9=>exact ((hZ 1 (by decide)).1).trans (by kernel_rfl)
 | 10=>exact ((hZ 2 (by decide)).1).trans (by kernel_rfl)
 | 11=>exact ((hZ 3 (by decide)).1).trans (by kernel_rfl)
 | 12=>exact ((hZ 4 (by decide)).1).trans (by kernel_rfl)
 | 13=>exact ((hZ 5 (by decide)).1).trans (by kernel_rfl)
 | 14=>exact ((hZ 6 (by decide)).1).trans (by kernel_rfl)
 | 15=>exact ((hZ 7 (by decide)).1).trans (by kernel_rfl)
 | 16=>exact ((hZ 8 (by decide)).1).trans (by kernel_rfl)
 | 17=>exact ((hZ 9 (by decide)).1).trans (by kernel_rfl)
 | 18=>exact ((hZ 10 (by decide)).1).trans (by kernel_rfl)
 | 19=>exact ((hZ 11 (by decide)).1).trans (by kernel_rfl)
 | 20=>exact ((hZ 12 (by decide)).1).trans (by kernel_rfl)
 | 21=>exact ((hZ 13 (by decide)).1).trans (by kernel_rfl)
 | 22=>exact ((hZ 14 (by decide)).1).trans (by kernel_rfl)
 | 23=>exact ((hZ 15 (by decide)).1).trans (by kernel_rfl)
 | 24=>exact ((hZ 16 (by decide)).1).trans (by kernel_rfl)
 | 25=>exact ((hZ 17 (by decide)).1).trans (by kernel_rfl)
 | 26=>exact ((hZ 18 (by decide)).1).trans (by kernel_rfl)
 | 27=>exact (e27).trans (by kernel_rfl)
 | 28=>exact (e28).trans (by kernel_rfl)
 | 29=>exact (e29).trans (by kernel_rfl)
 | 30=>exact (e30).trans (by kernel_rfl)
 | 31=>exact (e31).trans (by kernel_rfl)
 | j+32=>rw[List.getElem?_eq_none (by omega),List.getElem?_eq_none (by have:((mG b s c X Z t mk se nu ho).map cV).length=32:=(by kernel_rfl);omega)]
end
theorem sl_conv {pi n:Nat} {v:AV} {o:AO} {cs:List AV} (h:SlArg lw.EWl 51 257 pi n v o cs):SlArg EW8 51 257 pi n v o cs :=
 ⟨fun st=>(by kernel_rfl:aBuiltinM EW8 .len [51] [v] st=aBuiltinM lw.EWl .len [51] [v] st).trans (h.len st),fun k kd hk=>(by kernel_rfl:aIndexAddr EW8 51 v (.int kd (.ofNat k))=aIndexAddr lw.EWl 51 v (.int kd (.ofNat k))).trans (h.idx k kd hk),h.obj⟩
theorem walk {W:World} (hgl:GlobOK W) {v0:Value} {ps:List (Int×List Nat)} {u0:AV} {o0:AO} {r0:Option (Nat×Nat×List AV)} {z:Int} (A:PArg W ps v0 u0 o0 r0) {b s:Int} {c mk:Bool} {X:Nat→Nat} {Z:Nat→Int} {t se nu ho:Nat}
  (hx:∀i,X i<18446744073709551616) (hZ:∀i,i<17→∃w:Nat,Z i=.ofNat w∧w<18446744073709551616) (htt:t<18446744073709551616) (hse:se<18446744073709551616) (hnu:nu<18446744073709551616) (hho:ho<65536) :
  Calls Tryz.prog 8 #[.int .i64 z,v0,.agg ((mG b s c X Z t mk se nu ho).map cV).toArray] W fun e w'=>e=.returned (.bool true)∧Below W.heap.size W w':=by
 have hrow:∀i r,row0 r0 i=some r→r.2.2≠[]∧RowAt W r.1 r.2.1 r.2.2:=fun i r h=>by
  match i,h with
  | 0,h=>exact A.at_.row r h
 have hsr:=rowsO_ok hgl (n:=1) (rows:=row0 r0) hrow (st:=memO o0) rfl (fun i a hi=>by
  obtain⟨rfl,rfl⟩:=memO_get _ i a hi
  exact⟨by omega,A.at_.obj⟩)
 have w0:VR (rowsRen W 1 (row0 r0)) u0 v0:=A.at_.vr _ fun q hq=>rowsRen_at (i:=0) (by omega) hq (A.at_.row q hq).1 (A.at_.row q hq).2
 have w1:=agg_vr (l:=mG b s c X Z t mk se nu ho) (by kernel_rfl) (rowsRen W 1 (row0 r0))
 have hv:VRs (rowsRen W 1 (row0 r0)) [.int .i64 z,u0,.agg (mG b s c X Z t mk se nu ho)] #[.int .i64 z,v0,.agg ((mG b s c X Z t mk se nu ho).map cV).toArray]:=⟨rfl,fun i x x' hx hx'=>by
  match i with
  | 0=>cases hx;cases hx';exact .int _ _
  | 1=>cases hx;cases hx';exact w0
  | 2=>cases hx;cases hx';exact w1
  | i+3=>cases hx⟩
 exact law_at (fun k hk=>.inr hk) hsr hv rfl (law_c (memO_tidy o0) (pi:=0) (o:=o0) ⟨sl_conv A.at_.sl,fun _=>⟨by rw[memO_at,if_pos rfl],by show 0<1;omega⟩,A.byt⟩ z hx hZ htt hse hnu hho)
def wit:Array Value:=#[.int .i64 0,.slice none 0 0,.agg #[.int .i64 0,.int .i64 0,.bool false,.int .u64 0,.int .u64 0,.int .u64 0,.int .u64 0,.int .u64 0,.int .u64 0,.int .u64 0,.int .u64 0,.int .u64 0,.int .u64 0,.int .u64 0,.int .u64 0,.int .u64 0,.int .u64 0,.int .u64 0,.int .u64 0,.int .u64 0,.int .u64 0,.int .u64 0,.int .u64 0,.int .u64 0,.int .u64 0,.int .i64 0,.int .i64 0,.int .u64 0,.bool false,.int .u64 0,.int .u64 0,.int .u16 0]]
set_option maxRecDepth 100000 in
theorem lifted (os:Os) (started:os.Started) (H:Type) (enc:TypeId×Value→H) :
  ReturnsInHanded {} Tryz.checked os 8 .any (fun w args=>(Rows.metaPutsSpec.pre enc Tryz.prog Tryz.f8 [] false w args∧laidMetH Tryz.prog laidAll w)∧sizedMet enc Tryz.prog Tryz.f8 (OpenSpec.ofChange Rows.metaPutsSpec) false w args)
   (Rows.metaPutsSpec.post enc Tryz.prog Tryz.f8 false true false false):=by
 refine returnsInHanded_of_change_and (C:=Tryz.checked) (X:=fun w _=>laidMetH Tryz.prog laidAll w) (fun _ _ _ hh h=>h.of_heap hh) own started (by kernel_rfl) Tryz.func8
  (ChangeSpec.witness_shaped (enc:=enc) (C:=Tryz.checked) (os:=os) (X:=fun w _=>laidMetH Tryz.prog laidAll w) false (World.laidAll Tryz.prog os laidAll) wit 8 (World.laidAll_os _ _ _) (World.shaped_of_ZipB (by kernel_rfl) (by kernel_rfl)) (by kernel_rfl) (by kernel_rfl) (by kernel_rfl) (door_met os _)) ?_
 intro W base args ds gs before hval0 hW _ _ hL _
 have hval:∀(j:Nat) t v,Tryz.f8.params[j]? = some t→args[j]? = some v→Value.okWide Tryz.prog W .any base t v:=hval0
 have hW':=hW
 obtain⟨p,q,hA0,hV,rfl,hfz,hnd⟩:=hW
 have hA:DataW.TrodAll enc Tryz.prog W 0 (fun _=>true) true Tryz.f8.params.toList args.toList ds p:=hA0
 rw[Tryz.params8] at hA hval
 obtain⟨v0,v1,v2,d0,d1,d2,p0,p1,p2,rfl,rfl,rfl,h0,h1,h2⟩:=trodAll_three hA
 obtain⟨rfl,rfl⟩:=trodVars_none hV
 obtain⟨g,rfl,rfl,rfl,wg⟩:=open_int Tryz.underlying3 (hval 0 3 v0 rfl rfl) h0
 obtain⟨a0,len,cap,rfl⟩:=okWide_slice Tryz.underlying51 (hval 1 51 v1 rfl rfl)
 obtain⟨ms,rfl,hsm⟩:=okWide_struct Tryz.underlying36 (hval 2 36 v2 rfl rfl)
 have h1k:=h1
 have h2k:=h2
 obtain⟨fu1,hf1⟩:=h1
 obtain⟨fu2,hf2⟩:=h2
 clear hA0 hval0
 simp only[List.append_nil,List.nil_append] at hW'
 have hlt1:∀x∈p1,x.block<W.heap.size:=fun x hx=>by simpa using hW'.lt x (by simp only[List.mem_append];exact .inl hx)
 have hlt2:∀x∈p2,x.block<W.heap.size:=fun x hx=>by simpa using hW'.lt x (by simp only[List.mem_append];exact .inr hx)
 rw[show (Value.slice a0 len cap).cells.toList=[.slice a0 len cap] by simp[Value.cells]] at hf1
 obtain⟨ps,vl,o0,r0,A⟩:=pieces_arg hf1
 have hf2':DataW.trod enc Tryz.prog W 0 (fun _=>true) true fu2 36 ms.toList=some (d2,p2):=hf2
 have hl32:ms.toList.length=32:=by
  have h36:Tryz.prog.cellsOf 36=32:=by kernel_rfl
  rw[Array.length_toList,hsm,h36]
 obtain⟨b,s,c,mk,X,Z,t,se,nu,ho,em,b1,b2,b3,b4,b5,b6⟩:=meta_of hl32 hf2'
 have ems:ms=((mG b s c X Z t mk se nu ho).map cV).toArray:=Array.ext' (by rw[em])
 have wk:=walk (glob4.globOK hL) (z:=g) A (b:=b) (s:=s) (c:=c) (mk:=mk) b1 b2 b3 b4 b5 b6
 rw[←ems] at wk
 refine wk.mono fun e W' ⟨he,bel⟩=>?_
 subst he
 have ARG1:DataW.Trod enc Tryz.prog W' 0 (fun x=>decide (x<W.heap.size)) true 51 (.slice a0 len cap) d1 p1 :=
  WideElems.Trod_stays laidOut (by kernel_rfl) (of_decide_eq_true (by kernel_rfl)) h1k (fun x hx=>same_below bel (hlt1 x hx)) (fun x hx=>by simpa using hlt1 x hx)
 have ARG2:DataW.Trod enc Tryz.prog W' 0 (fun x=>decide (x<W.heap.size)) true 36 (.agg ms) d2 p2 :=
  WideElems.Trod_stays laidOut (by kernel_rfl) (of_decide_eq_true (by kernel_rfl)) h2k (fun x hx=>same_below bel (hlt2 x hx)) (fun x hx=>by simpa using hlt2 x hx)
 exact⟨_,rfl,_,_,_,[],_,[],hW',trodAll_mk1 (shut_bool Tryz.underlying4 _),trodAll_mk3 (shut_int Tryz.underlying3 wg) ARG1 ARG2,rfl,bel.frame _,fun h=>by cases h⟩
set_option maxRecDepth 100000 in
theorem over:Rows.metaPutsRow.holds Tryz.pinned (OpenSpec.ofChange Rows.metaPutsSpec) :=
 OpenClaim.holds_of_wide 8 Tryz.f8 rfl rfl rfl rfl rfl rfl rfl ⟨rfl,rfl,rfl,rfl,rfl⟩ rfl rfl rfl rfl rfl (by kernel_rfl) Tryz.func8 (by kernel_rfl)
  (of_decide_eq_true (by kernel_rfl)) (by unfold Func.isWrapper;first | (rw[if_pos (by decide +kernel)];kernel_rfl) | (rw[if_neg (by decide +kernel)];exact⟨rfl,rfl⟩))
  (fun os started H enc _=>lifted os started H enc)
set_option maxRecDepth 100000 in
theorem proved:Rows.MetaPutsCardSaid :=
 Claim7.holds_tied_plain_at .later [] [.data,.data,.data,.data] true (true,"5cb5d186f9a595697ffe3857efde8c74350049c5a8ee1f3809f9d2b7d4aab2c2") true
  over (fun _ h=>by cases h) (by kernel_rfl) (fun _ h=>by cases h) metaPuts_row_tie rfl ⟨rfl,rfl⟩ (by kernel_rfl) rfl
  (fun f fn hf hfn=>by
   obtain rfl:f=8:=Option.some.inj ((show Tryz.prog.funcNamed "gemel/gemellaw29.MetaPuts" = some 8 by kernel_rfl).symm.trans hf) |>.symm
   obtain rfl:fn=Tryz.f8:=(Option.some.inj (Tryz.func8.symm.trans hfn)).symm
   exact⟨by kernel_rfl,fun j t ht=>by
    rw[Tryz.params8] at ht
    match j with
    | 0=>simp at ht;subst ht;exact (by kernel_rfl:Tryz.prog.wantsStandIn 3=false)
    | 1=>simp at ht;subst ht;exact (by kernel_rfl:Tryz.prog.wantsStandIn 51=false)
    | 2=>simp at ht;subst ht;exact (by kernel_rfl:Tryz.prog.wantsStandIn 36=false)
    | j+3=>simp at ht⟩)
  (by kernel_rfl)
end
end Go.Proofs.YtiafochainjglaaGreatDoor.drp.pu
end
