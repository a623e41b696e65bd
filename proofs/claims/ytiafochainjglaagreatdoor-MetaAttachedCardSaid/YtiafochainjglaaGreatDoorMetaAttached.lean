/-
  PROVED HERE: 'Rows.MetaAttachedCardSaid': for every meta and every room the call of the law's function returns true, and what came in reads as it did; what the row lists is tied to the program's text by the given tie. No condition. THE WALK is a run of the function's text in an abstract machine (the texts WaA to WaF show that it is sound), at any memory: the disk, the codecs, Put, the store's Attach (with the log's Open, the bitmap's Load, Fill, Mark and Save) by contracts (MtA to MtI, NtA to NtD, XtA to XtD), the hashes and the closed call 'known' by runs of the kernel (HaA to HaR, KaA, KaK).
-/
import Derived.Test.YtiafochainjglaaGreatDoorRows
import Derived.Test.YtiafochainjglaaGreatDoorWaF
import Derived.WalkKit
import Derived.ProofKit
import Derived.OpenVars
import Derived.OpenShut
import Derived.LaidMore
import Derived.Lay
import Derived.Stop.Joined
import Derived.Test.YtiafochainjglaaGreatDoorMtI
import Derived.Test.YtiafochainjglaaGreatDoorCards
import Derived.Test.YtiafochainjglaaGreatDoorTie
import Derived.ShutString
import Derived.ChangeOld
import Derived.ChangeSlices
import Derived.Below
import Derived.Deep.SlicePairs
import Derived.Deep.Grids
import Derived.WideKeyArgs
import Derived.SevenTiedAt
import Derived.Test.YtiafochainjglaaGreatDoorNtD
import Derived.Test.YtiafochainjglaaGreatDoorXtD
section
namespace Go.Proofs.YtiafochainjglaaGreatDoor.glob4
open Go.ChangeShapes Go.WideShapes Go.ChangeAt Go.RowKit Go.Ax
set_option linter.unusedVariables false
section
variable {P:Program} {w:World}
theorem laid_at:∀{laid:List (String×DataW Unit)} {ps:List MemPlace},DataW.LaidVars P w laid ps→∀n d,(n,d)∈laid→∃g t cs fuel p,P.globalNamed n=some g∧(P.globals[g]?).map (·.type)=some t∧w.var? P n=some cs∧DataW.trod (fun _=>()) P w 0 (fun _=>true) false fuel t cs.toList=some (d,p)
 | [],ps,h,n,d,hm=>by cases hm
 | (n0,d0)::r,ps,h,n,d,hm=>by
  obtain⟨g,t,cs,fuel,p,q,h1,h2,h3,h4,h5,_⟩:=h
  rcases List.mem_cons.1 hm with e | hm
  ·cases e
   exact⟨g,t,cs,fuel,p,h1,h2,h3,h4⟩
  ·exact laid_at h5 n d hm
theorem heap_at {n:String} {g:Nat} {cs:Array Value} (hn:P.globalNamed n=some g) (hv:w.var? P n=some cs):∃e m,w.heap[g]? = some (.cells cs e m):=by
 unfold World.var? at hv
 rw[hn] at hv
 simp only[Option.bind_some] at hv
 split at hv
 ·rename_i c e m hc
  simp only[Option.some.injEq] at hv;subst hv
  exact⟨e,m,hc⟩
 ·cases hv
theorem ints_at {n:String} {g at_ et:Nat} {k:IntKind} {zs:List Int} {ds:List AV} {laid:List (String×DataW Unit)} {ps:List MemPlace} (h:DataW.LaidVars P w laid ps) (hm:(n,DataW.agg (zs.map fun z=>.lit (.int k z)))∈laid)
  (hn:P.globalNamed n=some g) (ht:(P.globals[g]?).map (·.type)=some at_) (hu:P.underlying at_=some (.array zs.length et)) (he:P.underlying et=some (.int k)) (hc:P.cellsOf et=1) (hca:P.cellsOf at_=zs.length) (hds:ds=zs.map fun z=>.int k z) :
  (∀v,v∈ds→v.isCell=true)∧∃cs e m,w.heap[g]? = some (.cells cs e m)∧ds.length=cs.size∧∀(i:Nat) v v',ds[i]? = some v→cs[i]? = some v'→∀ι,VR ι v v':=by
 subst hds
 refine⟨fun v hv=>by obtain⟨z,_,rfl⟩:=List.mem_map.1 hv;rfl,?_⟩
 obtain⟨g',t',cs,fuel,p,h1,h2,h3,h4⟩:=laid_at h n _ hm
 obtain rfl:=Option.some.inj (hn.symm.trans h1)
 obtain rfl:=Option.some.inj (ht.symm.trans h2)
 obtain⟨e,m,hw⟩:=heap_at hn h3
 obtain⟨xs,m2,_,ex,hcl,hl,hel⟩:=DataW.trod_array hu h4
 have e3:xs.map (·.1)=zs.map fun z=>.lit (.int k z):=(DataW.agg.inj (Prod.mk.inj ex).1).symm
 refine⟨cs,e,m,hw,?_,fun i v v' hv hv' ι=>?_⟩
 ·rw[List.length_map]
  rw[hca] at hcl
  simpa using hcl.symm
 ·rw[List.getElem?_map,Option.map_eq_some_iff] at hv
  obtain⟨z,hz,rfl⟩:=hv
  have hi:i<zs.length:=(List.getElem?_eq_some_iff.1 hz).1
  have hE:=hel i hi
  rw[hc,Nat.mul_one,List.getElem?_eq_getElem (by omega)] at hE
  obtain⟨z',e1,e2,_⟩:=DataW.trod_int he hE
  have e4:(xs.map (·.1))[i]? = (zs.map fun z=>(DataW.lit (.int k z):DataW Unit))[i]?:=by rw[e3]
  rw[List.getElem?_map,List.getElem?_map,List.getElem?_eq_getElem (by omega:i<xs.length),hz,e2] at e4
  simp only[Option.map_some,Option.some.injEq,DataW.lit.injEq,Lit.int.injEq,true_and] at e4
  have h0:((cs.toList.drop i).take 1)[0]? = some (.int k z'):=by rw[e1];rfl
  have h6:cs[i]? = some (.int k z'):=by simpa using h0
  rw[h6] at hv'
  cases hv'
  rw[e4]
  exact .int _ _
theorem strs_at {n:String} {g at_ et:Nat} {zs:List (List UInt8)} {ds:List AV} {laid:List (String×DataW Unit)} {ps:List MemPlace} (h:DataW.LaidVars P w laid ps) (hm:(n,DataW.agg (zs.map fun z=>.lit (.string z)))∈laid)
  (hn:P.globalNamed n=some g) (ht:(P.globals[g]?).map (·.type)=some at_) (hu:P.underlying at_=some (.array zs.length et)) (he:P.underlying et=some .string) (hc:P.cellsOf et=1) (hca:P.cellsOf at_=zs.length) (hds:ds=zs.map fun z=>.str (z.map UInt8.toNat)) :
  (∀v,v∈ds→v.isCell=true)∧∃cs e m,w.heap[g]? = some (.cells cs e m)∧ds.length=cs.size∧∀(i:Nat) v v',ds[i]? = some v→cs[i]? = some v'→∀ι,VR ι v v':=by
 subst hds
 refine⟨fun v hv=>by obtain⟨z,_,rfl⟩:=List.mem_map.1 hv;rfl,?_⟩
 obtain⟨g',t',cs,fuel,p,h1,h2,h3,h4⟩:=laid_at h n _ hm
 obtain rfl:=Option.some.inj (hn.symm.trans h1)
 obtain rfl:=Option.some.inj (ht.symm.trans h2)
 obtain⟨e,m,hw⟩:=heap_at hn h3
 obtain⟨xs,m2,_,ex,hcl,hl,hel⟩:=DataW.trod_array hu h4
 have e3:xs.map (·.1)=zs.map fun z=>.lit (.string z):=(DataW.agg.inj (Prod.mk.inj ex).1).symm
 refine⟨cs,e,m,hw,?_,fun i v v' hv hv' ι=>?_⟩
 ·rw[List.length_map]
  rw[hca] at hcl
  simpa using hcl.symm
 ·rw[List.getElem?_map,Option.map_eq_some_iff] at hv
  obtain⟨z,hz,rfl⟩:=hv
  have hi:i<zs.length:=(List.getElem?_eq_some_iff.1 hz).1
  have hE:=hel i hi
  rw[hc,Nat.mul_one,List.getElem?_eq_getElem (by omega)] at hE
  obtain⟨s,e1,e2,_⟩:=DataW.trod_string he hE
  have e4:(xs.map (·.1))[i]? = (zs.map fun z=>(DataW.lit (.string z):DataW Unit))[i]?:=by rw[e3]
  rw[List.getElem?_map,List.getElem?_map,List.getElem?_eq_getElem (by omega:i<xs.length),hz,e2] at e4
  simp only[Option.map_some,Option.some.injEq,DataW.lit.injEq,Lit.string.injEq] at e4
  have h0:((cs.toList.drop i).take 1)[0]? = some (.string s):=by rw[e1];rfl
  have h6:cs[i]? = some (.string s):=by simpa using h0
  rw[h6] at hv'
  cases hv'
  exact .str _ _ (by rw[e4])
end
def tab0:List (List UInt8):=[[109,101,116,97],[115,117,112,101,114],[108,105,110,101],[116,97,98,108,101],[107,101,121],[109,97,112],[104,111,116]]
def tab1:List Int:=[1,10,100,1000,10000,100000,1000000,10000000,100000000,1000000000,10000000000,100000000000,1000000000000,10000000000000,100000000000000,1000000000000000,10000000000000000,100000000000000000,1000000000000000000,10000000000000000000]
def tab2:List Int:=[0,1,28,2,29,14,24,3,30,22,20,15,25,17,4,8,31,27,13,23,21,19,16,7,26,12,18,6,11,5,10,9]
def tab3:List Int:=[0,1,56,2,57,49,28,3,61,58,42,50,38,29,17,4,62,47,59,36,45,43,51,22,53,39,33,30,24,18,12,5,63,55,48,27,60,41,37,16,46,35,44,21,52,32,23,11,54,26,40,15,34,20,31,10,25,14,19,9,13,8,7,6]
theorem globOK {W:World} (h:laidMetH Tryz.prog [("math/bits.deBruijn32tab", Rows.laid_math_bits_deBruijn32tab),("math/bits.deBruijn64tab", Rows.laid_math_bits_deBruijn64tab),("internal/strconv.uint64pow10", Rows.laid_internal_strconv_uint64pow10),("gemel/meta.words", Rows.laid_gemel_meta_words)] W):GlobOK W:=by
 rw[MakeChecks.laidMetH_plain _ _ _ (by kernel_rfl)] at h
 obtain⟨ps,hl,_,_⟩:=h
 intro g ds hgl
 unfold glV at hgl
 cases hb0:Nat.beq g 0 with
 | true =>
  rw[hb0,cond_true,Option.some.injEq] at hgl
  obtain rfl:=Nat.eq_of_beq_eq_true hb0
  have q:=strs_at (g:=0) (zs:=tab0) hl (List.mem_cons_of_mem _ (List.mem_cons_of_mem _ (List.mem_cons_of_mem _ List.mem_cons_self))) (by kernel_rfl) (by kernel_rfl:_=some 155) Tryz.underlying155 Tryz.underlying9 (by kernel_rfl) (by kernel_rfl) (hgl.symm.trans (by rfl))
  exact⟨q.1,q.2⟩
 | false =>
 rw[hb0,cond_false] at hgl
 cases hb1:Nat.beq g 4 with
 | true =>
  rw[hb1,cond_true,Option.some.injEq] at hgl
  obtain rfl:=Nat.eq_of_beq_eq_true hb1
  have q:=ints_at (g:=4) (zs:=tab1) hl (List.mem_cons_of_mem _ (List.mem_cons_of_mem _ List.mem_cons_self)) (by kernel_rfl) (by kernel_rfl:_=some 314) Tryz.underlying314 Tryz.underlying24 (by kernel_rfl) (by kernel_rfl) (hgl.symm.trans (by rfl))
  exact⟨q.1,q.2⟩
 | false =>
 rw[hb1,cond_false] at hgl
 cases hb2:Nat.beq g 7 with
 | true =>
  rw[hb2,cond_true,Option.some.injEq] at hgl
  obtain rfl:=Nat.eq_of_beq_eq_true hb2
  have q:=ints_at (g:=7) (zs:=tab2) hl List.mem_cons_self (by kernel_rfl) (by kernel_rfl:_=some 190) Tryz.underlying190 Tryz.underlying5 (by kernel_rfl) (by kernel_rfl) (hgl.symm.trans (by rfl))
  exact⟨q.1,q.2⟩
 | false =>
 rw[hb2,cond_false] at hgl
 cases hb3:Nat.beq g 8 with
 | true =>
  rw[hb3,cond_true,Option.some.injEq] at hgl
  obtain rfl:=Nat.eq_of_beq_eq_true hb3
  have q:=ints_at (g:=8) (zs:=tab3) hl (List.mem_cons_of_mem _ List.mem_cons_self) (by kernel_rfl) (by kernel_rfl:_=some 323) Tryz.underlying323 Tryz.underlying5 (by kernel_rfl) (by kernel_rfl) (hgl.symm.trans (by rfl))
  exact⟨q.1,q.2⟩
 | false =>
 rw[hb3,cond_false] at hgl
 cases hgl
end Go.Proofs.YtiafochainjglaaGreatDoor.glob4
end

section
open Go Go.Ax Go.Proofs
namespace Go.Proofs.YtiafochainjglaaGreatDoor.drp.lw
set_option linter.unusedVariables false
noncomputable section
open Go.ChangeShapes Go.WideShapes Go.ChangeAt Go.RowKit Go.Deep
section
variable {H:Type} {enc:TypeId×Value→H} {P:Program} {w:World} {base:Nat} {spare:Nat→Bool} {held:Bool} {fuel:Nat} {t:TypeId} {cs:List Value} {x:DataW H×List MemPlace}
theorem fieldOf {fs:Array Field} (ht:P.underlying t=some (.struct fs)) (h:DataW.trod enc P w base spare held fuel t cs=some x) {i:Nat} {f:Field} (hi:fs[i]? = some f) :
  ∃n y,DataW.trod enc P w base spare held n f.type ((cs.drop f.offset).take (P.cellsOf f.type))=some y:=by
 obtain⟨xs,n,_,_,_,hl,hf⟩:=DataW.trod_struct ht h
 have h1:=(Array.getElem?_eq_some_iff.1 hi).1
 exact⟨n,xs[i]'(by omega),by rw[hf i f hi];simp⟩
theorem elemOf {n:Nat} {e:TypeId} (ht:P.underlying t=some (.array n e)) (h:DataW.trod enc P w base spare held fuel t cs=some x) {i:Nat} (hi:i<n) :
  ∃m y,DataW.trod enc P w base spare held m e ((cs.drop (i*P.cellsOf e)).take (P.cellsOf e))=some y:=by
 obtain⟨xs,m,_,_,_,hl,hf⟩:=DataW.trod_array ht h
 exact⟨m,xs[i]'(by omega),by rw[hf i hi];simp⟩
theorem one_int {k:IntKind} {o:Nat} (ht:P.underlying t=some (.int k)) (h:DataW.trod enc P w base spare held fuel t ((cs.drop o).take 1)=some x):∃z,cs[o]? = some (.int k z)∧(Lit.int k z).wf=true:=by
 obtain⟨z,e,_,hw⟩:=DataW.trod_int ht h
 refine⟨z,?_,hw⟩
 have:((cs.drop o).take 1)[0]? = some (.int k z):=by rw[e];rfl
 simpa using this
end
theorem own:ownKnob Tryz.prog.godebug=none:=by kernel_rfl
theorem laidOut:laidOutB Tryz.prog=true:=by kernel_rfl
theorem same_below {W W':World} (h:Below W.heap.size W W') {p:MemPlace} (hp:p.block<W.heap.size):W.sameAt W' p:=by
 cases p with
 | cell b off=>exact h.cell (p:=⟨b,off,none⟩) hp
 | map b=>exact h.block b hp
theorem law_at {P:Program} {f:Nat} {args:List AV} {args':Array Value} {B:Prot} {W:World} (hall:∀k,k<W.heap.size→B.all k) {ι:Ren} {st:ASt} (hsr:SR B W ι st W) (hv:VRs ι args args') {v:AV×ASt} (hv1:v.1=.bool true)
  (h:Call1 P f args st v):Calls P f args' W fun e w'=>e=.returned (.bool true)∧Below W.heap.size W w':=by
 have:=(h B W ι W args' hsr hv).2
 rw[callsIn_wide] at this
 refine this.mono ?_
 rintro e w' ⟨x,ι',rfl,_,h2,h3⟩
 obtain⟨v,st'⟩:=v
 simp only at hv1 h3
 subst hv1
 cases h3
 exact⟨rfl,h2.below.os,h2.below.tape,h2.below.output,h2.below.size,fun k hk=>h2.below.block k (hall k hk)⟩
def laidAll:List (String×DataW Unit):=[("math/bits.deBruijn32tab", Rows.laid_math_bits_deBruijn32tab),("math/bits.deBruijn64tab", Rows.laid_math_bits_deBruijn64tab),("internal/strconv.uint64pow10", Rows.laid_internal_strconv_uint64pow10),("gemel/meta.words", Rows.laid_gemel_meta_words)]
theorem door_met (os:Os) (args:Array Value):laidMetH Tryz.prog laidAll ((World.laidAll Tryz.prog os laidAll).forCall (fun _ _=>0) ⟨#[],args,[]⟩).memory:=by
 rw[MakeChecks.laidMetH_plain _ _ _ (by kernel_rfl)]
 exact laidMet_laidAll _ (by kernel_rfl) (by kernel_rfl)
end
end Go.Proofs.YtiafochainjglaaGreatDoor.drp.lw
end

section
open Go Go.Ax Go.Proofs
namespace Go.Proofs.YtiafochainjglaaGreatDoor.drp.pu
set_option linter.unusedVariables false
noncomputable section
open Go.ChangeShapes Go.WideShapes Go.ChangeAt Go.RowKit Go.Deep
open lw (fieldOf one_int own laidOut same_below law_at laidAll door_met)
def cV:AV→Value
 | .int k z=>.int k z
 | .bool b=>.bool b
 | _=>.bool false
def okV:AV→Bool
 | .int _ _=>true
 | .bool _=>true
 | _=>false
theorem okV_p {v:AV} (h:okV v=true) (ι:Ren):v.isCell=true∧VR ι v (cV v):=by
 unfold okV at h
 split at h
 ·exact⟨rfl,.int _ _⟩
 ·exact⟨rfl,.bool _⟩
 ·cases h
theorem agg_vr {l:List AV} (h:l.all okV=true) (ι:Ren):VR ι (.agg l) (.agg (l.map cV).toArray):=.agg l _ (by simp) (fun v hv=>(okV_p (List.all_eq_true.1 h v hv) ι).1) (fun i v v' hi hi'=>by
 have e:((l.map cV).toArray)[i]? = (l[i]?).map cV:=by simp
 rw[e,hi] at hi'
 cases hi'
 exact (okV_p (List.all_eq_true.1 h v (List.mem_of_getElem? hi)) ι).2)
theorem sub_get {cs:List Value} {o n j:Nat} {v:Value} (h:((cs.drop o).take n)[j]? = some v):cs[o+j]? = some v:=by
 rw[List.getElem?_take] at h
 split at h
 ·rwa [List.getElem?_drop] at h
 ·cases h
theorem u64of {z:Int} (w:(Lit.int .u64 z).wf=true):∃n:Nat,z=.ofNat n∧n<18446744073709551616:=by
 have hz:0≤z∧z≤18446744073709551615:=by
  simp only[Lit.wf,Bool.and_eq_true,decide_eq_true_eq] at w
  exact w
 exact⟨z.toNat,(Int.toNat_of_nonneg hz.1).symm,by omega⟩
theorem u16of {z:Int} (w:(Lit.int .u16 z).wf=true):∃n:Nat,z=.ofNat n∧n<65536:=by
 have hz:0≤z∧z≤65535:=by
  simp only[Lit.wf,Bool.and_eq_true,decide_eq_true_eq] at w
  exact w
 exact⟨z.toNat,(Int.toNat_of_nonneg hz.1).symm,by omega⟩
section
variable {H:Type} {enc:TypeId×Value→H} {P:Program} {w:World} {base:Nat} {spare:Nat→Bool} {held:Bool} {fuel:Nat} {t:TypeId} {cs:List Value} {x:DataW H×List MemPlace}
theorem one_bool {o:Nat} (ht:P.underlying t=some .bool) (h:DataW.trod enc P w base spare held fuel t ((cs.drop o).take 1)=some x):∃b,cs[o]? = some (.bool b):=by
 obtain⟨z,e,_⟩:=DataW.trod_bool ht h
 refine⟨z,?_⟩
 have:((cs.drop o).take 1)[0]? = some (.bool z):=by rw[e];rfl
 simpa using this
end
section
variable {H:Type} {enc:TypeId×Value→H} {W:World} {base:Nat} {spare:Nat→Bool} {held:Bool} {fuel:Nat} {cs:List Value} {x:DataW H×List MemPlace}
theorem c1:Tryz.prog.cellsOf 3=1∧Tryz.prog.cellsOf 4=1∧Tryz.prog.cellsOf 23=1∧Tryz.prog.cellsOf 24=1∧Tryz.prog.cellsOf 31=1∧Tryz.prog.cellsOf 34=1:=⟨by kernel_rfl,by kernel_rfl,by kernel_rfl,by kernel_rfl,by kernel_rfl,by kernel_rfl⟩
theorem cN:Tryz.prog.cellsOf 25=2∧Tryz.prog.cellsOf 27=4∧Tryz.prog.cellsOf 29=7∧Tryz.prog.cellsOf 30=16∧Tryz.prog.cellsOf 33=19:=⟨by kernel_rfl,by kernel_rfl,by kernel_rfl,by kernel_rfl,by kernel_rfl⟩
theorem f_int {t ft:TypeId} {fs:Array Field} {kd:IntKind} (ht:Tryz.prog.underlying t=some (.struct fs)) (h:DataW.trod enc Tryz.prog W base spare held fuel t cs=some x) (i o:Nat) {f:Field} (hi:fs[i]? = some f) (ho:f.offset=o) (hft:f.type=ft) (hc:Tryz.prog.cellsOf ft=1) (hk:Tryz.prog.underlying ft=some (.int kd)) :
  ∃z,cs[o]? = some (.int kd z)∧(Lit.int kd z).wf=true:=by
 obtain⟨n,y,hy⟩:=fieldOf ht h hi
 rw[hft,ho,hc] at hy
 exact one_int hk hy
theorem f_bool {t ft:TypeId} {fs:Array Field} (ht:Tryz.prog.underlying t=some (.struct fs)) (h:DataW.trod enc Tryz.prog W base spare held fuel t cs=some x) (i o:Nat) {f:Field} (hi:fs[i]? = some f) (ho:f.offset=o) (hft:f.type=ft) (hc:Tryz.prog.cellsOf ft=1) (hk:Tryz.prog.underlying ft=some .bool) :
  ∃z,cs[o]? = some (.bool z):=by
 obtain⟨n,y,hy⟩:=fieldOf ht h hi
 rw[hft,ho,hc] at hy
 exact one_bool hk hy
theorem f_sub {t ft:TypeId} {fs:Array Field} {m:Nat} (ht:Tryz.prog.underlying t=some (.struct fs)) (h:DataW.trod enc Tryz.prog W base spare held fuel t cs=some x) (i o:Nat) {f:Field} (hi:fs[i]? = some f) (ho:f.offset=o) (hft:f.type=ft) (hc:Tryz.prog.cellsOf ft=m) :
  ∃n y,DataW.trod enc Tryz.prog W base spare held n ft ((cs.drop o).take m)=some y:=by
 obtain⟨n,y,hy⟩:=fieldOf ht h hi
 rw[hft,ho,hc] at hy
 exact⟨n,y,hy⟩
theorem a_int {t:TypeId} {m:Nat} (ht:Tryz.prog.underlying t=some (.array m 24)) (h:DataW.trod enc Tryz.prog W base spare held fuel t cs=some x) {i:Nat} (hi:i<m):∃z,cs[i]? = some (.int .u64 z)∧(Lit.int .u64 z).wf=true:=by
 obtain⟨n,y,hy⟩:=lw.elemOf ht h hi
 rw[c1.2.2.2.1,Nat.mul_one] at hy
 exact one_int Tryz.underlying24 hy
theorem meta_of (hl:cs.length=32) (h:DataW.trod enc Tryz.prog W base spare held fuel 36 cs=some x) :
  ∃(b s:Int) (c mk:Bool) (X:Nat→Nat) (Z:Nat→Int) (t se nu ho:Nat),cs=(mG b s c X Z t mk se nu ho).map cV∧(∀i,X i<18446744073709551616)∧(∀i,i<17→∃w:Nat,Z i=.ofNat w∧w<18446744073709551616)∧t<18446744073709551616∧se<18446744073709551616∧nu<18446744073709551616∧ho<65536:=by
 obtain⟨b,e0,_⟩:=f_int Tryz.underlying36 h 0 0 rfl rfl rfl c1.1 Tryz.underlying3
 obtain⟨ns,ys,hs⟩:=f_sub Tryz.underlying36 h 1 1 rfl rfl rfl cN.2.2.1
 obtain⟨nt,yt,ht⟩:=f_sub Tryz.underlying36 h 2 8 rfl rfl rfl cN.2.2.2.2
 obtain⟨t',e27,w27⟩:=f_int Tryz.underlying36 h 3 27 rfl rfl rfl c1.2.2.2.1 Tryz.underlying24
 obtain⟨mk,e28⟩:=f_bool Tryz.underlying36 h 4 28 rfl rfl rfl c1.2.1 Tryz.underlying4
 obtain⟨se',e29,w29⟩:=f_int Tryz.underlying36 h 5 29 rfl rfl rfl c1.2.2.2.1 Tryz.underlying24
 obtain⟨nu',e30,w30⟩:=f_int Tryz.underlying36 h 6 30 rfl rfl rfl c1.2.2.2.1 Tryz.underlying24
 obtain⟨ho',e31,w31⟩:=f_int Tryz.underlying36 h 7 31 rfl rfl rfl c1.2.2.2.2.2 Tryz.underlying34
 obtain⟨t,rfl,bt⟩:=u64of w27
 obtain⟨se,rfl,bse⟩:=u64of w29
 obtain⟨nu,rfl,bnu⟩:=u64of w30
 obtain⟨ho,rfl,bho⟩:=u16of w31
 obtain⟨s,e1,_⟩:=f_int Tryz.underlying29 hs 0 0 rfl rfl rfl c1.2.2.1 Tryz.underlying23
 obtain⟨c,e2⟩:=f_bool Tryz.underlying29 hs 1 1 rfl rfl rfl c1.2.1 Tryz.underlying4
 obtain⟨nl,yl,hln⟩:=f_sub Tryz.underlying29 hs 2 2 rfl rfl rfl cN.2.1
 obtain⟨x5,e7,w7⟩:=f_int Tryz.underlying29 hs 3 6 rfl rfl rfl c1.2.2.2.1 Tryz.underlying24
 obtain⟨x1,e3,w3⟩:=f_int Tryz.underlying27 hln 0 0 rfl rfl rfl c1.2.2.2.1 Tryz.underlying24
 obtain⟨x2,e4,w4⟩:=f_int Tryz.underlying27 hln 1 1 rfl rfl rfl c1.2.2.2.1 Tryz.underlying24
 obtain⟨nh,yh,hh⟩:=f_sub Tryz.underlying27 hln 2 2 rfl rfl rfl cN.1
 obtain⟨x3,e5,w5⟩:=a_int Tryz.underlying25 hh (i:=0) (by decide)
 obtain⟨x4,e6,w6⟩:=a_int Tryz.underlying25 hh (i:=1) (by decide)
 replace e1:=sub_get e1
 replace e2:=sub_get e2
 replace e3:=sub_get (sub_get e3)
 replace e4:=sub_get (sub_get e4)
 replace e5:=sub_get (sub_get (sub_get e5))
 replace e6:=sub_get (sub_get (sub_get e6))
 replace e7:=sub_get e7
 have eX:∀i:Nat,∃w:Nat,w<18446744073709551616∧(1≤i→i<6→cs[2+i]? = some (.int .u64 (.ofNat w))):=fun i=>by
  match i with
  | 0=>exact⟨0,by decide,fun h=>absurd h (by decide)⟩
  | 1=>obtain⟨w,rfl,hw⟩:=u64of w3;exact⟨w,hw,fun _ _=>e3⟩
  | 2=>obtain⟨w,rfl,hw⟩:=u64of w4;exact⟨w,hw,fun _ _=>e4⟩
  | 3=>obtain⟨w,rfl,hw⟩:=u64of w5;exact⟨w,hw,fun _ _=>e5⟩
  | 4=>obtain⟨w,rfl,hw⟩:=u64of w6;exact⟨w,hw,fun _ _=>e6⟩
  | 5=>obtain⟨w,rfl,hw⟩:=u64of w7;exact⟨w,hw,fun _ _=>e7⟩
  | i+6=>exact⟨0,by decide,fun _ h=>absurd h (by omega)⟩
 obtain⟨X,hX⟩:=Classical.axiomOfChoice eX
 obtain⟨g,e8,w8⟩:=f_int Tryz.underlying33 ht 0 0 rfl rfl rfl c1.2.2.2.1 Tryz.underlying24
 obtain⟨nk,yk,hk⟩:=f_sub Tryz.underlying33 ht 1 1 rfl rfl rfl cN.2.2.2.1
 obtain⟨ty,e25,_⟩:=f_int Tryz.underlying33 ht 2 17 rfl rfl rfl c1.2.2.2.2.1 Tryz.underlying31
 obtain⟨hd,e26,_⟩:=f_int Tryz.underlying33 ht 3 18 rfl rfl rfl c1.1 Tryz.underlying3
 replace e8:=sub_get e8
 replace e25:=sub_get e25
 replace e26:=sub_get e26
 have eZ:∀i,i<19→∃z:Int,cs[8+i]? = some (.int (if i<17 then .u64 else .i64) z)∧(i<17→∃w:Nat,z=.ofNat w∧w<18446744073709551616):=fun i hi=>by
  rcases Nat.lt_or_ge i 17 with h17 | h17
  ·rw[if_pos h17]
   rcases Nat.eq_zero_or_pos i with h0 | h0
   ·subst h0;exact⟨g,e8,fun _=>u64of w8⟩
   ·obtain⟨z,ez,wz⟩:=a_int Tryz.underlying30 hk (i:=i - 1) (by omega)
    replace ez:=sub_get (sub_get ez)
    rw[show 8+(1+(i - 1))=8+i by omega] at ez
    exact⟨z,ez,fun _=>u64of wz⟩
  ·rw[if_neg (by omega)]
   rcases Nat.lt_or_ge i 18 with h18 | h18
   ·obtain rfl:i=17:=by omega
    exact⟨ty,e25,fun h=>absurd h (by decide)⟩
   ·obtain rfl:i=18:=by omega
    exact⟨hd,e26,fun h=>absurd h (by decide)⟩
 obtain⟨Z,hZ⟩:=choose_lt eZ
 refine⟨b,s,c,mk,X,Z,t,se,nu,ho,?_,fun i=>(hX i).1,fun i hi=>(hZ i (by omega)).2 hi,bt,bse,bnu,bho⟩
 refine List.ext_getElem? fun j=>?_
 match j with
 | 0=>exact (e0).trans (by kernel_rfl)
 | 1=>exact (e1).trans (by kernel_rfl)
 | 2=>exact (e2).trans (by kernel_rfl)
 | 3=>exact ((hX 1).2 (by decide) (by decide)).trans (by kernel_rfl)
 | 4=>exact ((hX 2).2 (by decide) (by decide)).trans (by kernel_rfl)
 | 5=>exact ((hX 3).2 (by decide) (by decide)).trans (by kernel_rfl)
 | 6=>exact ((hX 4).2 (by decide) (by decide)).trans (by kernel_rfl)
 | 7=>exact ((hX 5).2 (by decide) (by decide)).trans (by kernel_rfl)
 | 8=>exact ((hZ 0 (by decide)).1).trans (by kernel_rfl)
 | 9=>exact ((hZ 1 (by decide)).1).trans (by kernel_rfl)
 | 10=>exact ((hZ 2 (by decide)).1).trans (by kernel_rfl)
 | 11=>exact ((hZ 3 (by decide)).1).trans (by kernel_rfl)
 | 12=>exact ((hZ 4 (by decide)).1).trans (by kernel_rfl)
 | 13=>exact ((hZ 5 (by decide)).1).trans (by kernel_rfl)
 | 14=>exact ((hZ 6 (by decide)).1).trans (by kernel_rfl)
 | 15=>exact ((hZ 7 (by decide)).1).trans (by kernel_rfl)
 | 16=>exact ((hZ 8 (by decide)).1).trans (by kernel_rfl)
 | 17=>exact ((hZ 9 (by decide)).1).trans (by kernel_rfl)
 | 18=>exact ((hZ 10 (by decide)).1).trans (by kernel_rfl)
 | 19=>exact ((hZ 11 (by decide)).1).trans (by kernel_rfl)
 | 20=>exact ((hZ 12 (by decide)).1).trans (by kernel_rfl)
 | 21=>exact ((hZ 13 (by decide)).1).trans (by kernel_rfl)
 | 22=>exact ((hZ 14 (by decide)).1).trans (by kernel_rfl)
 | 23=>exact ((hZ 15 (by decide)).1).trans (by kernel_rfl)
 | 24=>exact ((hZ 16 (by decide)).1).trans (by kernel_rfl)
 | 25=>exact ((hZ 17 (by decide)).1).trans (by kernel_rfl)
 | 26=>exact ((hZ 18 (by decide)).1).trans (by kernel_rfl)
 | 27=>exact (e27).trans (by kernel_rfl)
 | 28=>exact (e28).trans (by kernel_rfl)
 | 29=>exact (e29).trans (by kernel_rfl)
 | 30=>exact (e30).trans (by kernel_rfl)
 | 31=>exact (e31).trans (by kernel_rfl)
 | j+32=>rw[List.getElem?_eq_none (by omega),List.getElem?_eq_none (by have:((mG b s c X Z t mk se nu ho).map cV).length=32:=(by kernel_rfl);omega)]
end
end
end Go.Proofs.YtiafochainjglaaGreatDoor.drp.pu
end

section
open Go Go.Ax Go.Proofs
namespace Go.Proofs.YtiafochainjglaaGreatDoor.drp.atu
set_option linter.unusedVariables false
noncomputable section
open oo cd cd2 cd3 cd4 cd5 cd9 pu atc my fm
open sh (HH XX sumsP shortsP)
open lw (known_at)
theorem opLssI {E:Env} {Y:ASt} {k:IntKind} {z w:Int} {x y:Operand} {t:TypeId}:still Y (aBin E .lss t x y (.int k z) (.int k w))=some (.bool (decide (z<w)),Y):=by
 have e:aBin E .lss t x y (.int k z) (.int k w)=some (.bool (ltF z w)):=by cases k<;>rfl
 rw[ltF_eq] at e
 exact still_of e
theorem opGtrI {E:Env} {Y:ASt} {k:IntKind} {z w:Int} {x y:Operand} {t:TypeId}:still Y (aBin E .gtr t x y (.int k z) (.int k w))=some (.bool (decide (w<z)),Y):=by
 have e:aBin E .gtr t x y (.int k z) (.int k w)=some (.bool (ltF w z)):=by cases k<;>rfl
 rw[ltF_eq] at e
 exact still_of e
theorem fin6 {S X:ASt} (h:∀k,k<S.next→X.h.get k=S.h.get k):Left EAu Tryz.f6 120 S (.bool true) (.ret,xFr [(4,.bool true)] 120,X) :=
 ⟨.inr rfl,rfl,leave_of (rs:=[.tmp 4]) (by kernel_rfl) rfl (res_tmp (by kernel_rfl) res_nil) rfl,h⟩
theorem same_hot {S:ASt} {b1 b2:Nat} {P1 P2:AV} {L:List Nat} (ht:Tidy S) (h1:HotP b1 S P1 L) (h2:HotP b2 S P2 L) (hn:L.length<1000):Call1 Tryz.prog 29 [P1,P2] S (.bool true,S):=by
 rcases h1 with⟨rfl,e1⟩ | ⟨r1,p0,rfl,p2,p3⟩
 ·rcases h2 with⟨rfl,e2⟩ | ⟨r2,q0,rfl,q2,q3⟩
  ·exact Call1.of_tm EAtok noSum_ok (Eq.mp (vcSn S (fun q=>q=(.bool true,S))) ⟨by kernel_rfl,by kernel_rfl,neqA,by kernel_rfl,lF (Nat.le_refl _),rfl⟩)
  ·rw[e1] at q0;cases q0
 ·rcases h2 with⟨rfl,e2⟩ | ⟨r2,q0,rfl,q2,q3⟩
  ·rw[e2] at p0;cases p0
  ·exact same29 (g:=fun i=>L.getD i 0) ht p3 (fun i hi=>rowI_at hi) q3 (fun i hi=>rowI_at hi) hn
theorem mx_lt {H:List Nat→Nat→Nat} {B:List Nat} (hB:∀i,B.getD i 0<256):mX H B<18446744073709551616:=by
 unfold mX
 cases iM H B
 ·show 0<_;decide
 ·exact p8 hB 4
section
variable {S S1:ASt} {k rm:Nat} {c:Bool} {x y:Nat→Nat} {t:Nat} {mk:Bool} {se nu ho:Nat}
theorem law_yes (ht:Tidy S) (h1:1≤k) (h2:k≤64) (hr1:1≤rm) (hr2:rm≤16)
  (m24:∀S,Call1 Tryz.prog 24 [.agg (mL k x c y t mk se nu ho)] S (.bool true,S)) (m11:∀S,Call1 Tryz.prog 11 [.agg (mL k x c y t mk se nu ho)] S (.bool true,S))
  (U:U6 (x 0) (x 1) (x 2) (x 3) (x 4) (x 5)) (hsm:supM (x 0) (x 1) (x 2)=true) (htt:t<18446744073709551616) (hy:∀i,y i<18446744073709551616) (h17:y 17<256) (h18:y 18<256) (hrm:resM (y 0) (y 17) (y 18) (fun i=>y (i+1))=true)
  (hse:se<18446744073709551616) (hnu:nu<18446744073709551616) (hho:ho<65536) (hbey:beyS se k=false) (hms:(mk || decide (se=0))=true) (hnh:(!decide (nu=0) || decide (ho=0))=true) :
  Call1 Tryz.prog 6 [.agg (mL k x c y t mk se nu ho),.int .i64 (.ofNat rm)] S (.bool true,S):=by
 obtain⟨S1,e1⟩:∃X,X=S.add (.cells (mL k x c y t mk se nu ho) true):=⟨_,rfl⟩
 have ht1:Tidy S1:=by rw[e1];exact ht.add
 have n1:S1.next=S.next+1:=by rw[e1];rfl
 have g1:S1.h.get S.next=some (.cells (mL k x c y t mk se nu ho) true):=by rw[e1];exact add_at
 have old1:∀i,i<S.next→S1.h.get i=S.h.get i:=fun i hi=>by rw[e1];exact add_ne (by omega)
 obtain⟨S2,d,l,m,c0,hf,⟨las,es,hv⟩,hc⟩:=formatted_p ht1 h1 h2
 have UKy:UK t (y 0) (y 17) (y 18) (fun i=>y (i+1)):=⟨htt,hy 0,h17,h18,fun i=>hy (i+1)⟩
 have c60:∀S,Call1 Tryz.prog 60 [.agg (sL x c)] S (.tuple [.agg (bl (sB HH x c)),.int .i64 (.ofNat 0)],S):=fun S=>(supOwn sumsP).yes (c:=c) S U hsm
 have c61:∀S,Call1 Tryz.prog 61 [.agg (rL y),.int .u64 (.ofNat t)] S (.tuple [.agg (bl (kB XX t y)),.int .i64 (.ofNat 0)],S):=fun S=>blkKt shortsP UKy hrm S
 have c62:=fun S=>atMB sumsP hse S
 have c63:=fun S=>atLB sumsP hnu hho S
 have b0:byL (sB HH x c):=seal_by sumsP.lt (supL_by _ _ _ _ _ _ _ (by cases c<;>decide))
 have b2:byL (kB XX t y):=resB_by XX _ _ _ _ _
 have b4:byL (sealN HH (mapL se)):=seal_by sumsP.lt (mapL_by se)
 have bL:byL (sealN HH (logL nu ho)):=seal_by sumsP.lt (logL_by nu ho)
 obtain⟨S3,las3,hput,hv3,hnb3,hn3,hk3⟩:=put_ok hv (by omega) rfl h1 h2 m24 c60 c61 c62 c63 b0 b2 b4 bL
 obtain⟨q1,q2,q3,q4,q5,q6,q7⟩:=parts_of (H:=HH) (X:=XX) (k:=k) (take_put (b:=nb las3 []) (fun i hi=>by rw[hnb3 i (by omega),if_pos hi]) U hsm htt (fun i _=>hy i) h17 h18 hrm hse hnu hho hbey hms hnh)
 have hD3:=hv3.dsk (by omega)
 have hmx:mX HH (nb las3 [] 4)<18446744073709551616:=mx_lt (hD3.bk 4).2
 obtain⟨sp,lp,mp,P,S4,las4,es4,hatt,hA,hv4,hk4,_⟩:=attach_at sumsP shortsP hv3 (by omega) h1 h2 hr1 hr2 hmx q1 q2
 rw[q7] at hA
 have hcc:LSc HH (nb las3 [])=c:=by
  have:=congrArg (fun l:List AV=>l[1]?) q3
  simp only[sL,List.getElem?_cons_succ,List.getElem?_cons_zero,Option.some.injEq,AV.bool.injEq] at this
  exact this
 obtain⟨L,hL⟩:∃L,L=hotL ho rm 16:=⟨_,rfl⟩
 rw[hcc] at hA
 simp only at hA
 rw[←hL] at hA
 obtain⟨s,hs⟩:∃s,s=(if c=true then mrkL k (setA HH (nb las3 []) k) L L.length else setA HH (nb las3 []) k):=⟨_,rfl⟩
 rw[←hs] at hA
 have hLn:L.length<1000:=by rw[hL];have:=(hotL_len ho rm 16).2;omega
 have hsA:=setA_lt (H:=HH) (b:=nb las3 []) h2 hmx
 have hslt:s<18446744073709551616:=by
  rw[hs]
  split
  ·exact mrkL_lt (m:=64) hsA h2 _
  ·exact hsA
 -- behind the attaching
 obtain⟨W,eW⟩:∃W,W=ASt.mk S4.h (S4.next+20):=⟨_,rfl⟩
 have htW:Tidy W:=by rw[eW];exact hA.tidy.mk (Nat.le_add_right _ _)
 have nW:W.next=S4.next+20:=by rw[eW]
 have kW:∀i,W.h.get i=S4.h.get i:=fun i=>by rw[eW]
 have AW:=hA.keep (X':=W) (fun i _ _=>kW i) htW (by have:=hA.next;omega)
 have c26:Call1 Tryz.prog 26 [.ptr (some (sp,0))] W (.agg (sL x c),W):=by
  have:=super_at htW AW.st
  rw[←hcc,q3] at this
  exact this
 have c27:Call1 Tryz.prog 27 [.ptr (some (sp,0))] W (.agg (rL y),W):=by
  have:=table_at htW AW.st
  rw[q4] at this
  exact this
 obtain⟨P5,S5,c28,hot5,ht5,n5,k5⟩:=srt_at (room:=rm) htW hho (by omega)
 rw[←hL] at hot5
 have A5:=AW.keep (X':=S5) (fun i _ hi=>k5 i hi) ht5 (by have:=AW.next;omega)
 obtain⟨P6,S6,c30,hot6,ht6,n6,k6⟩:=hot_at ht5 A5.st A5.lg A5.hot hLn
 have A6:=A5.keep (X':=S6) (fun i _ hi=>k6 i hi) ht6 (by have:=A5.next;omega)
 have hot56:HotP W.next S6 P5 L:=hot5.keep (fun i _ hi=>k6 i hi) ht5
 have c29:=same_hot ht6 hot6 hot56 hLn
 have c31:=map_at A6.st
 -- the meta's own cells
 have l3:S.next<S3.next:=by have:=hv.next;omega
 have g2:S2.h.get S.next=some (.cells (mL k x c y t mk se nu ho) true):=(hv.same _ (by omega)).trans g1
 have g3:S3.h.get S.next=some (.cells (mL k x c y t mk se nu ho) true):=(hv3.same _ (by omega)).trans g1
 have g4:S4.h.get S.next=some (.cells (mL k x c y t mk se nu ho) true):=(hv4.same _ (by omega)).trans g1
 have gW:W.h.get S.next=some (.cells (mL k x c y t mk se nu ho) true):=(kW _).trans g4
 have l4:S.next<S4.next:=by have:=hA.next;omega
 have g5:S5.h.get S.next=some (.cells (mL k x c y t mk se nu ho) true):=(k5 _ (by omega)).trans gW
 have g6:S6.h.get S.next=some (.cells (mL k x c y t mk se nu ho) true):=(k6 _ (by omega)).trans g5
 have old6:∀i,i<S.next→S6.h.get i=S.h.get i:=fun i hi=>by rw[k6 i (by omega),k5 i (by omega),kW i,hv4.same i (by omega),old1 i hi]
 have ldA:∀{Y:ASt},Y.h.get S.next=some (.cells (mL k x c y t mk se nu ho) true)→aLoad EAu 36 (.ptr (some (S.next,0))) Y=some (.agg (mL k x c y t mk se nu ho),Y):=fun g=>load_agg (z:=32) (by kernel_rfl) g (by kernel_rfl)
 have ldK:∀{Y:ASt},Y.h.get S.next=some (.cells (mL k x c y t mk se nu ho) true)→aLoad EAu 3 (.ptr (some (S.next,0))) Y=some (.int .i64 (.ofNat k),Y):=fun g=>load_at (by kernel_rfl) g (by kernel_rfl)
 have ldS:aLoad EAu 29 (.ptr (some (S.next,1))) W=some (.agg (sL x c),W):=load_agg (z:=7) (by kernel_rfl) gW (by kernel_rfl)
 have ldT:aLoad EAu 33 (.ptr (some (S.next,8))) W=some (.agg (rL y),W):=load_agg (z:=19) (by kernel_rfl) gW (by kernel_rfl)
 have ldH:aLoad EAu 34 (.ptr (some (S.next,31))) W=some (.int .u16 (.ofNat ho),W):=load_at (by kernel_rfl) gW (by kernel_rfl)
 -- what is marked
 have he:∀i,i<k→has s i=mkdG mk c se L i L.length:=fun i hi=>by
  have hA0:has (setA HH (nb las3 []) k) i=(!mk || has se i):=by
   unfold setA
   rw[q5]
   cases hmk:mk with
   | true =>
    have:mX HH (nb las3 [] 4)=se:=by
     rw[←q6]
     unfold seM
     rw[q5,hmk];rfl
    rw[if_pos rfl,this];rfl
   | false=>rw[if_neg (by decide),all_has hi];rfl
  unfold mkdG
  rw[hs]
  cases hcq:c with
  | true=>rw[if_pos rfl,mrkL_has hi L.length (Nat.le_refl _),hA0,Bool.true_and]
  | false=>rw[if_neg (by decide),hA0,Bool.false_and,Bool.or_false]
 subst eW
 have hok:=orC_ok (pureC_ok m11) (orC_ok (oneC_ok hf) (orC_ok (oneC_ok hput) (orC_ok (oneC_ok hatt) (orC_ok (oneC_ok c26) (orC_ok (oneC_ok c27) (orC_ok (oneC_ok c28) (orC_ok (oneC_ok c30) (orC_ok (oneC_ok c29) (oneC_ok c31)))))))))
 refine Call1.tripDrop EAuok (fn:=Tryz.f6) (c:=c6) (by kernel_rfl) (by kernel_rfl) (by kernel_rfl) (N:=120) (by kernel_rfl) (bool_p ..) (by simp[refsD]) ?_
 refine Trip.preR EAuok (onlyC_ok hok) (k:=8) (kf:=[2,8,9]) (by kernel_rfl) (Q1:=fun z=>z=(.normal,f6 S.next mp P5,S6)) (Eq.mp (vcWd _ k t se nu ho x y c mk rm S.next d sp mp P5 P6 S S1 S2 S3 S4 S5 S6 (fun z=>z=(.normal,f6 S.next mp P5,S6)))
  ⟨by rw[e1];rfl,ldA g1,ca (orC_l (pureC_at ..)),lF hr1,gF hr2,ldK g1,ca (orC_r (pureC_no (by decide)) (orC_l oneC_at)),ldA g2,ca (orC_r (pureC_no (by decide)) (orC_r (oneC_no (by decide)) (orC_l oneC_at))),ldK g3,ca (orC_r (pureC_no (by decide)) (orC_r (oneC_no (by decide)) (orC_r (oneC_no (by decide)) (orC_l oneC_at)))),ca (orC_r (pureC_no (by decide)) (orC_r (oneC_no (by decide)) (orC_r (oneC_no (by decide)) (orC_r (oneC_no (by decide)) (orC_l oneC_at))))),ldS,neqS,ca (orC_r (pureC_no (by decide)) (orC_r (oneC_no (by decide)) (orC_r (oneC_no (by decide)) (orC_r (oneC_no (by decide)) (orC_r (oneC_no (by decide)) (orC_l oneC_at)))))),ldT,neqT,holds_cons (fstO_of ldS) (holds_cons (fstO_of ldT) trivial),ldH,ca (orC_r (pureC_no (by decide)) (orC_r (oneC_no (by decide)) (orC_r (oneC_no (by decide)) (orC_r (oneC_no (by decide)) (orC_r (oneC_no (by decide)) (orC_r (oneC_no (by decide)) (orC_l oneC_at))))))),ca (orC_r (pureC_no (by decide)) (orC_r (oneC_no (by decide)) (orC_r (oneC_no (by decide)) (orC_r (oneC_no (by decide)) (orC_r (oneC_no (by decide)) (orC_r (oneC_no (by decide)) (orC_r (oneC_no (by decide)) (orC_l oneC_at)))))))),ca (orC_r (pureC_no (by decide)) (orC_r (oneC_no (by decide)) (orC_r (oneC_no (by decide)) (orC_r (oneC_no (by decide)) (orC_r (oneC_no (by decide)) (orC_r (oneC_no (by decide)) (orC_r (oneC_no (by decide)) (orC_r (oneC_no (by decide)) (orC_l oneC_at))))))))),ca (orC_r (pureC_no (by decide)) (orC_r (oneC_no (by decide)) (orC_r (oneC_no (by decide)) (orC_r (oneC_no (by decide)) (orC_r (oneC_no (by decide)) (orC_r (oneC_no (by decide)) (orC_r (oneC_no (by decide)) (orC_r (oneC_no (by decide)) (orC_r (oneC_no (by decide)) oneC_at))))))))),rfl⟩) ?_ (fun z h1 h2=>absurd (congrArg (·.1) h2) h1)
 rintro F Y hY
 cases hY
 refine (tail_p g6 hot56 A6.mg hslt h2 hLn hse he).mono fun z hz=>?_
 subst hz
 exact fin6 old6
end
end
end Go.Proofs.YtiafochainjglaaGreatDoor.drp.atu
end

section
open Go Go.Ax Go.Proofs
namespace Go.Proofs.YtiafochainjglaaGreatDoor.drp.atu
set_option linter.unusedVariables false
noncomputable section
open Go.ChangeShapes Go.WideShapes Go.ChangeAt Go.RowKit Go.Deep
open oo cd cd2 cd3 cd4 cd5 cd9 pu atc my fm
open lw (known_at fieldOf one_int own laidOut same_below law_at laidAll door_met)
theorem law_c {S:ASt} (ht:Tidy S) {b s:Int} {c mk:Bool} {x:Nat→Nat} {Z:Nat→Int} {t se nu ho:Nat} (hx:∀i,x i<18446744073709551616) (hZ:∀i,i<17→∃w:Nat,Z i=.ofNat w∧w<18446744073709551616) (htt:t<18446744073709551616) (hse:se<18446744073709551616) (hnu:nu<18446744073709551616) (hho:ho<65536) (room:Int) :
  Call1 Tryz.prog 6 [.agg (mG b s c x Z t mk se nu ho),.int .i64 room] S (.bool true,S):=by
 obtain⟨S1,e1⟩:∃X,X=S.add (.cells (mG b s c x Z t mk se nu ho) true):=⟨_,rfl⟩
 have hbox:aBox (.agg (mG b s c x Z t mk se nu ho)) S=some (.ptr (some (S.next,0)),S1):=by rw[e1];rfl
 have old1:∀k,k<S.next→S1.h.get k=S.h.get k:=fun k hk=>by rw[e1];exact add_ne (by omega)
 have g1:S1.h.get S.next=some (.cells (mG b s c x Z t mk se nu ho) true):=by rw[e1];exact add_at
 have ld:aLoad EAu 36 (.ptr (some (S.next,0))) S1=some (.agg (mG b s c x Z t mk se nu ho),S1):=load_agg (z:=32) (by kernel_rfl) g1 (by kernel_rfl)
 have hmA:=fun S=>may_any b s c x Z t mk se nu ho hse S
 have hok:=orC_ok (pureC_ok (fun S=>(hmA S).2)) (pureC_ok known_at)
 cases hm:mayG b s x Z mk se nu ho
 ·rw[hm] at hok
  exact exD Tryz.f6 c6 120 [4] EAuok (onlyC_ok hok) (bool_p ..)
   (Eq.mp (vcWa _ b s c x Z t mk se nu ho room S.next S S1 (Left EAu Tryz.f6 120 S (.bool true))) ⟨hbox,ld,ca (orC_l (pureC_at ..)),ca (orC_r (pureC_no (by decide)) (pureC_at ..)),fin6 old1⟩)
 rw[hm] at hok
 by_cases r1:room<1
 ·exact exD Tryz.f6 c6 120 [4] EAuok (onlyC_ok hok) (bool_p ..)
   (Eq.mp (vcWb _ b s c x Z t mk se nu ho room S.next S S1 (Left EAu Tryz.f6 120 S (.bool true))) ⟨hbox,ld,ca (orC_l (pureC_at ..)),by rw[opLssI];exact congrArg (fun g=>some (AV.bool g,S1)) (decide_eq_true r1),ca (orC_r (pureC_no (by decide)) (pureC_at ..)),fin6 old1⟩)
 by_cases r2:16<room
 ·exact exD Tryz.f6 c6 120 [4] EAuok (onlyC_ok hok) (bool_p ..)
   (Eq.mp (vcWc _ b s c x Z t mk se nu ho room S.next S S1 (Left EAu Tryz.f6 120 S (.bool true))) ⟨hbox,ld,ca (orC_l (pureC_at ..)),by rw[opLssI];exact congrArg (fun g=>some (AV.bool g,S1)) (decide_eq_false r1),by rw[opGtrI];exact congrArg (fun g=>some (AV.bool g,S1)) (decide_eq_true r2),ca (orC_r (pureC_no (by decide)) (pureC_at ..)),fin6 old1⟩)
 obtain⟨rm,rfl⟩:∃rm:Nat,room=.ofNat rm:=⟨room.toNat,by simp only[Int.ofNat_eq_natCast];omega⟩
 have hm':=hm
 unfold mayG at hm'
 simp only[Bool.and_eq_true,Bool.not_eq_true',decide_eq_false_iff_not] at hm'
 obtain⟨hb1,hb2,hs,hr,hbey,hms,hnh⟩:=hm'
 obtain⟨k,rfl⟩:∃k:Nat,b=.ofNat k:=⟨b.toNat,by simp only[Int.ofNat_eq_natCast];omega⟩
 obtain⟨n,rfl⟩:∃n:Nat,s=.ofNat n:=by
  match s,hs with
  | .ofNat n,_=>exact⟨n,rfl⟩
  | .negSucc n,h=>cases h
 have hsm:supM n (x 1) (x 2)=true:=hs
 have hn:n<9223372036854775808:=by
  unfold supM at hsm
  simp only[Bool.and_eq_true,decide_eq_true_eq] at hsm
  omega
 obtain⟨⟨a17,z17,b17⟩,a18,z18,b18⟩:=may_bd hr
 obtain⟨y,ey⟩:∃y:Nat→Nat,y=fun i=>if i<19 then (Z i).toNat else 0:=⟨_,rfl⟩
 have hZy:∀i,i<19→Z i=.ofNat (y i)∧y i<18446744073709551616:=fun i hi=>by
  rw[ey]
  simp only[hi,if_true]
  rcases Nat.lt_or_ge i 17 with h | h
  ·obtain⟨w,e,hw⟩:=hZ i h
   rw[e];exact⟨rfl,hw⟩
  ·rcases Nat.lt_or_ge i 18 with h' | h'
   ·obtain rfl:i=17:=by omega
    rw[z17];exact⟨rfl,Nat.lt_trans b17 (by decide)⟩
   ·obtain rfl:i=18:=by omega
    rw[z18];exact⟨rfl,Nat.lt_trans b18 (by decide)⟩
 have hy:∀i,y i<18446744073709551616:=fun i=>by
  rcases Nat.lt_or_ge i 19 with h | h
  ·exact (hZy i h).2
  ·rw[ey];simp only[show ¬i<19 by omega,if_false];decide
 have y17:y 17<256:=by have:=(hZy 17 (by decide)).1;rw[z17] at this;injection this with h;omega
 have y18:y 18<256:=by have:=(hZy 18 (by decide)).1;rw[z18] at this;injection this with h;omega
 have etL:cd6.tL Z=rL y:=tL_nat fun i hi=>(hZy i hi).1
 have hrm:resM (y 0) (y 17) (y 18) (fun i=>y (i+1))=true:=by
  unfold resM
  rw[zOf_y,←etL];exact hr
 have eM:mG (.ofNat k) (.ofNat n) c x Z t mk se nu ho=mL k (fun i=>if i=0 then n else x i) c y t mk se nu ho:=by
  unfold mG mL
  rw[etL];rfl
 rw[hm] at hmA
 rw[eM] at hmA ⊢
 exact law_yes (x:=fun i=>if i=0 then n else x i) ht (by simp only[Int.ofNat_eq_natCast] at hb1;omega) (by simp only[Int.ofNat_eq_natCast] at hb2;omega) (by simp only[Int.ofNat_eq_natCast] at r1;omega) (by simp only[Int.ofNat_eq_natCast] at r2;omega) (fun S=>(hmA S).1) (fun S=>(hmA S).2) ⟨hn,hx 1,hx 2,hx 3,hx 4,hx 5⟩ hsm htt hy y17 y18 hrm hse hnu hho hbey hms hnh
theorem walk {W:World} (hgl:GlobOK W) {b s:Int} {c mk:Bool} {X:Nat→Nat} {Z:Nat→Int} {t se nu ho:Nat} {room:Int}
  (hx:∀i,X i<18446744073709551616) (hZ:∀i,i<17→∃w:Nat,Z i=.ofNat w∧w<18446744073709551616) (htt:t<18446744073709551616) (hse:se<18446744073709551616) (hnu:nu<18446744073709551616) (hho:ho<65536) :
  Calls Tryz.prog 6 #[.agg ((mG b s c X Z t mk se nu ho).map cV).toArray,.int .i64 room] W fun e w'=>e=.returned (.bool true)∧Below W.heap.size W w':=by
 have hsr:=rowsO_ok hgl (n:=1) (rows:=fun _=>none) (fun i r h=>by cases h) (st:=mkSt [] 1) rfl (fun i a hi=>by
  have:(mkSt [] 1).h.get i=none:=T.get_e i
  rw[this] at hi;cases hi)
 have w1:=agg_vr (l:=mG b s c X Z t mk se nu ho) (by kernel_rfl) (rowsRen W 1 (fun _=>none))
 have hv:VRs (rowsRen W 1 (fun _=>none)) [.agg (mG b s c X Z t mk se nu ho),.int .i64 room] #[.agg ((mG b s c X Z t mk se nu ho).map cV).toArray,.int .i64 room]:=⟨rfl,fun i x x' hx hx'=>by
  match i with
  | 0=>cases hx;cases hx';exact w1
  | 1=>cases hx;cases hx';exact .int _ _
  | i+2=>cases hx⟩
 have htd:Tidy (mkSt [] 1):=fun k hk=>T.get_e k
 exact law_at (fun k hk=>.inr hk) hsr hv rfl (law_c htd hx hZ htt hse hnu hho room)
def wit:Array Value:=#[.agg #[.int .i64 0,.int .i64 0,.bool false,.int .u64 0,.int .u64 0,.int .u64 0,.int .u64 0,.int .u64 0,.int .u64 0,.int .u64 0,.int .u64 0,.int .u64 0,.int .u64 0,.int .u64 0,.int .u64 0,.int .u64 0,.int .u64 0,.int .u64 0,.int .u64 0,.int .u64 0,.int .u64 0,.int .u64 0,.int .u64 0,.int .u64 0,.int .u64 0,.int .i64 0,.int .i64 0,.int .u64 0,.bool false,.int .u64 0,.int .u64 0,.int .u16 0],.int .i64 0]
set_option maxRecDepth 100000 in
theorem lifted (os:Os) (started:os.Started) (H:Type) (enc:TypeId×Value→H) :
  ReturnsInHanded {} Tryz.checked os 6 .any (fun w args=>(Rows.metaAttachedSpec.pre enc Tryz.prog Tryz.f6 [] false w args∧laidMetH Tryz.prog laidAll w)∧sizedMet enc Tryz.prog Tryz.f6 (OpenSpec.ofChange Rows.metaAttachedSpec) false w args)
   (Rows.metaAttachedSpec.post enc Tryz.prog Tryz.f6 false true false false):=by
 refine returnsInHanded_of_change_and (C:=Tryz.checked) (X:=fun w _=>laidMetH Tryz.prog laidAll w) (fun _ _ _ hh h=>h.of_heap hh) own started (by kernel_rfl) Tryz.func6
  (ChangeSpec.witness_shaped (enc:=enc) (C:=Tryz.checked) (os:=os) (X:=fun w _=>laidMetH Tryz.prog laidAll w) false (World.laidAll Tryz.prog os laidAll) wit 8 (World.laidAll_os _ _ _) (World.shaped_of_ZipB (by kernel_rfl) (by kernel_rfl)) (by kernel_rfl) (by kernel_rfl) (by kernel_rfl) (door_met os _)) ?_
 intro W base args ds gs before hval0 hW _ _ hL _
 have hval:∀(j:Nat) t v,Tryz.f6.params[j]? = some t→args[j]? = some v→Value.okWide Tryz.prog W .any base t v:=hval0
 have hW':=hW
 obtain⟨p,q,hA0,hV,rfl,hfz,hnd⟩:=hW
 have hA:DataW.TrodAll enc Tryz.prog W 0 (fun _=>true) true Tryz.f6.params.toList args.toList ds p:=hA0
 rw[Tryz.params6] at hA hval
 obtain⟨v0,v1,d0,d1,p0,p1,rfl,rfl,rfl,h0,h1⟩:=trodAll_two hA
 obtain⟨rfl,rfl⟩:=trodVars_none hV
 obtain⟨g,rfl,rfl,rfl,wg⟩:=open_int Tryz.underlying3 (hval 1 3 v1 rfl rfl) h1
 obtain⟨ms,rfl,hsm⟩:=okWide_struct Tryz.underlying36 (hval 0 36 v0 rfl rfl)
 have h0k:=h0
 obtain⟨fu0,hf0⟩:=h0
 clear hA0 hval0
 simp only[List.append_nil] at hW'
 have hlt0:∀x∈p0,x.block<W.heap.size:=fun x hx=>by simpa using hW'.lt x hx
 have hf0':DataW.trod enc Tryz.prog W 0 (fun _=>true) true fu0 36 ms.toList=some (d0,p0):=hf0
 have hl32:ms.toList.length=32:=by
  have h36:Tryz.prog.cellsOf 36=32:=by kernel_rfl
  rw[Array.length_toList,hsm,h36]
 obtain⟨b,s,c,mk,X,Z,t,se,nu,ho,em,b1,b2,b3,b4,b5,b6⟩:=meta_of hl32 hf0'
 have ems:ms=((mG b s c X Z t mk se nu ho).map cV).toArray:=Array.ext' (by rw[em])
 have wk:=walk (glob4.globOK hL) (b:=b) (s:=s) (c:=c) (mk:=mk) (room:=g) b1 b2 b3 b4 b5 b6
 rw[←ems] at wk
 refine wk.mono fun e W' ⟨he,bel⟩=>?_
 subst he
 have ARG0:DataW.Trod enc Tryz.prog W' 0 (fun x=>decide (x<W.heap.size)) true 36 (.agg ms) d0 p0 :=
  WideElems.Trod_stays laidOut (by kernel_rfl) (of_decide_eq_true (by kernel_rfl)) h0k (fun x hx=>same_below bel (hlt0 x hx)) (fun x hx=>by simpa using hlt0 x hx)
 exact⟨_,rfl,_,_,_,[],_,[],hW',trodAll_mk1 (shut_bool Tryz.underlying4 _),trodAll_mk2 ARG0 (shut_int Tryz.underlying3 wg),rfl,bel.frame _,fun h=>by cases h⟩
set_option maxRecDepth 100000 in
theorem over:Rows.metaAttachedRow.holds Tryz.pinned (OpenSpec.ofChange Rows.metaAttachedSpec) :=
 OpenClaim.holds_of_wide 6 Tryz.f6 rfl rfl rfl rfl rfl rfl rfl ⟨rfl,rfl,rfl,rfl,rfl⟩ rfl rfl rfl rfl rfl (by kernel_rfl) Tryz.func6 (by kernel_rfl)
  (of_decide_eq_true (by kernel_rfl)) (by unfold Func.isWrapper;first | (rw[if_pos (by decide +kernel)];kernel_rfl) | (rw[if_neg (by decide +kernel)];exact⟨rfl,rfl⟩))
  (fun os started H enc _=>lifted os started H enc)
set_option maxRecDepth 100000 in
theorem proved:Rows.MetaAttachedCardSaid :=
 Claim7.holds_tied_plain_at .later [] [.data,.data,.data,.data] true (true,"5cb5d186f9a595697ffe3857efde8c74350049c5a8ee1f3809f9d2b7d4aab2c2") true
  over (fun _ h=>by cases h) (by kernel_rfl) (fun _ h=>by cases h) metaAttached_row_tie rfl ⟨rfl,rfl⟩ (by kernel_rfl) rfl
  (fun f fn hf hfn=>by
   obtain rfl:f=6:=Option.some.inj ((show Tryz.prog.funcNamed "gemel/gemellaw29.MetaAttached" = some 6 by kernel_rfl).symm.trans hf) |>.symm
   obtain rfl:fn=Tryz.f6:=(Option.some.inj (Tryz.func6.symm.trans hfn)).symm
   exact⟨by kernel_rfl,fun j t ht=>by
    rw[Tryz.params6] at ht
    match j with
    | 0=>simp at ht;subst ht;exact (by kernel_rfl:Tryz.prog.wantsStandIn 36=false)
    | 1=>simp at ht;subst ht;exact (by kernel_rfl:Tryz.prog.wantsStandIn 3=false)
    | j+2=>simp at ht⟩)
  (by kernel_rfl)
end
end Go.Proofs.YtiafochainjglaaGreatDoor.drp.atu
end
