/-
  PROVED HERE: 'Rows.MetaStoreCardSaid': for every number of blocks, every room and every list of deeds the call of the law's function returns true, and what came in reads as it did; what the row lists is tied to the program's text by the given tie. No condition. THE WALK is a run of the function's text in an abstract machine (the texts WaA to WaF show that it is sound), at any memory: the disk, the codecs, the store's Attach, its six deeds by an invariant (what the disk says is what the store knows) by contracts (MtA to MtI, NtA to NtD, XtA to XtD, YtA to YtC), the hashes and the closed call 'known' by runs of the kernel (HaA to HaR, KaA, KaK).
-/
import Derived.Test.YtiafochainjglaaGreatDoorRows
import Derived.Test.YtiafochainjglaaGreatDoorWaF
import Derived.WalkKit
import Derived.ProofKit
import Derived.OpenVars
import Derived.OpenShut
import Derived.LaidMore
import Derived.Lay
import Derived.Stop.Joined
import Derived.Test.YtiafochainjglaaGreatDoorMtI
import Derived.Test.YtiafochainjglaaGreatDoorCards
import Derived.Test.YtiafochainjglaaGreatDoorTie
import Derived.ShutString
import Derived.ChangeOld
import Derived.ChangeSlices
import Derived.Below
import Derived.Deep.SlicePairs
import Derived.Deep.Grids
import Derived.WideKeyArgs
import Derived.SevenTiedAt
import Derived.Test.YtiafochainjglaaGreatDoorNtD
import Derived.Test.YtiafochainjglaaGreatDoorYtC
section
namespace Go.Proofs.YtiafochainjglaaGreatDoor.glob4
open Go.ChangeShapes Go.WideShapes Go.ChangeAt Go.RowKit Go.Ax
set_option linter.unusedVariables false
section
variable {P:Program} {w:World}
theorem qMG:∀{laid:List (String×DataW Unit)} {ps:List MemPlace},DataW.LaidVars P w laid ps→∀n d,(n,d)∈laid→∃g t cs fuel p,P.globalNamed n=some g∧(P.globals[g]?).map (·.type)=some t∧w.var? P n=some cs∧DataW.trod (fun _=>()) P w 0 (fun _=>true) false fuel t cs.toList=some (d,p)
 | [],ps,h,n,d,hm=>by cases hm
 | (n0,d0)::r,ps,h,n,d,hm=>by
  obtain⟨g,t,cs,fuel,p,q,h1,h2,h3,h4,h5,_⟩:=h;rcases List.mem_cons.1 hm with e | hm
  ·cases e;exact⟨g,t,cs,fuel,p,h1,h2,h3,h4⟩
  ·exact qMG h5 n d hm
theorem qRI {n:String} {g:Nat} {cs:Array Value} (hn:P.globalNamed n=some g) (hv:w.var? P n=some cs):∃e m,w.heap[g]? = some (.cells cs e m):=by
 unfold World.var? at hv;rw[hn] at hv;simp only[Option.bind_some] at hv
 split at hv
 ·rename_i c e m hc;simp only[qz1] at hv;subst hv;exact⟨e,m,hc⟩
 ·cases hv
theorem ints_at {n:String} {g at_ et:Nat} {k:IntKind} {zs:List Int} {ds:List AV} {laid:List (String×DataW Unit)} {ps:List MemPlace} (h:DataW.LaidVars P w laid ps) (hm:(n,DataW.agg (zs.map fun z=>.lit (.int k z)))∈laid)
  (hn:P.globalNamed n=some g) (ht:(P.globals[g]?).map (·.type)=some at_) (hu:P.underlying at_=some (.array zs.length et)) (he:P.underlying et=some (.int k)) (hc:P.cellsOf et=1) (hca:P.cellsOf at_=zs.length) (hds:ds=zs.map fun z=>.int k z) :
  (∀v,v∈ds→v.isCell=true)∧∃cs e m,w.heap[g]? = some (.cells cs e m)∧ds.length=cs.size∧∀(i:Nat) v v',ds[i]? = some v→cs[i]? = some v'→∀ι,VR ι v v':=by
 subst hds;refine⟨fun v hv=>by obtain⟨z,_,rfl⟩:=List.mem_map.1 hv;rfl,?_⟩;obtain⟨g',t',cs,fuel,p,h1,h2,h3,h4⟩:=qMG h n _ hm;obtain rfl:=Option.some.inj (hn.symm.trans h1);obtain rfl:=Option.some.inj (ht.symm.trans h2);obtain⟨e,m,hw⟩:=qRI hn h3;obtain⟨xs,m2,_,ex,hcl,hl,hel⟩:=DataW.trod_array hu h4;have e3:xs.map (·.1)=zs.map fun z=>.lit (.int k z):=(DataW.agg.inj (Prod.mk.inj ex).1).symm;refine⟨cs,e,m,hw,?_,fun i v v' hv hv' ι=>?_⟩
 ·rw[List.length_map];rw[hca] at hcl;simpa using hcl.symm
 ·rw[List.getElem?_map,Option.map_eq_some_iff] at hv;obtain⟨z,hz,rfl⟩:=hv;have hi:i<zs.length:=(List.getElem?_eq_some_iff.1 hz).1;have hE:=hel i hi;rw[hc,Nat.mul_one,List.getElem?_eq_getElem (by omega)] at hE;obtain⟨z',e1,e2,_⟩:=DataW.trod_int he hE;have e4:(xs.map (·.1))[i]? = (zs.map fun z=>(DataW.lit (.int k z):DataW Unit))[i]?:=by rw[e3]
  rw[List.getElem?_map,List.getElem?_map,List.getElem?_eq_getElem (by omega:i<xs.length),hz,e2] at e4;simp only[Option.map_some,qz1,DataW.lit.injEq,Lit.int.injEq,true_and] at e4;have h0:((cs.toList.drop i).take 1)[0]? = some (.int k z'):=by rw[e1];rfl
  have h6:cs[i]? = some (.int k z'):=by simpa using h0
  rw[h6] at hv';cases hv';rw[e4];exact .int _ _
theorem qWD {n:String} {g at_ et:Nat} {zs:List (List UInt8)} {ds:List AV} {laid:List (String×DataW Unit)} {ps:List MemPlace} (h:DataW.LaidVars P w laid ps) (hm:(n,DataW.agg (zs.map fun z=>.lit (.string z)))∈laid)
  (hn:P.globalNamed n=some g) (ht:(P.globals[g]?).map (·.type)=some at_) (hu:P.underlying at_=some (.array zs.length et)) (he:P.underlying et=some .string) (hc:P.cellsOf et=1) (hca:P.cellsOf at_=zs.length) (hds:ds=zs.map fun z=>.str (z.map UInt8.toNat)) :
  (∀v,v∈ds→v.isCell=true)∧∃cs e m,w.heap[g]? = some (.cells cs e m)∧ds.length=cs.size∧∀(i:Nat) v v',ds[i]? = some v→cs[i]? = some v'→∀ι,VR ι v v':=by
 subst hds;refine⟨fun v hv=>by obtain⟨z,_,rfl⟩:=List.mem_map.1 hv;rfl,?_⟩;obtain⟨g',t',cs,fuel,p,h1,h2,h3,h4⟩:=qMG h n _ hm;obtain rfl:=Option.some.inj (hn.symm.trans h1);obtain rfl:=Option.some.inj (ht.symm.trans h2);obtain⟨e,m,hw⟩:=qRI hn h3;obtain⟨xs,m2,_,ex,hcl,hl,hel⟩:=DataW.trod_array hu h4;have e3:xs.map (·.1)=zs.map fun z=>.lit (.string z):=(DataW.agg.inj (Prod.mk.inj ex).1).symm;refine⟨cs,e,m,hw,?_,fun i v v' hv hv' ι=>?_⟩
 ·rw[List.length_map];rw[hca] at hcl;simpa using hcl.symm
 ·rw[List.getElem?_map,Option.map_eq_some_iff] at hv;obtain⟨z,hz,rfl⟩:=hv;have hi:i<zs.length:=(List.getElem?_eq_some_iff.1 hz).1;have hE:=hel i hi;rw[hc,Nat.mul_one,List.getElem?_eq_getElem (by omega)] at hE;obtain⟨s,e1,e2,_⟩:=DataW.trod_string he hE;have e4:(xs.map (·.1))[i]? = (zs.map fun z=>(DataW.lit (.string z):DataW Unit))[i]?:=by rw[e3]
  rw[List.getElem?_map,List.getElem?_map,List.getElem?_eq_getElem (by omega:i<xs.length),hz,e2] at e4;simp only[Option.map_some,qz1,DataW.lit.injEq,Lit.string.injEq] at e4;have h0:((cs.toList.drop i).take 1)[0]? = some (.string s):=by rw[e1];rfl
  have h6:cs[i]? = some (.string s):=by simpa using h0
  rw[h6] at hv';cases hv';exact .str _ _ (by rw[e4])
end
def tab0:List (List UInt8):=[[109,101,116,97],[115,117,112,101,114],[108,105,110,101],[116,97,98,108,101],[107,101,121],[109,97,112],[104,111,116]]
def tab1:List Int:=[1,10,100,1000,10000,100000,1000000,10000000,100000000,1000000000,10000000000,100000000000,1000000000000,10000000000000,100000000000000,1000000000000000,10000000000000000,100000000000000000,1000000000000000000,10000000000000000000]
def tab2:List Int:=[0,1,28,2,29,14,24,3,30,22,20,15,25,17,4,8,31,27,13,23,21,19,16,7,26,12,18,6,11,5,10,9]
def tab3:List Int:=[0,1,56,2,57,49,28,3,61,58,42,50,38,29,17,4,62,47,59,36,45,43,51,22,53,39,33,30,24,18,12,5,63,55,48,27,60,41,37,16,46,35,44,21,52,32,23,11,54,26,40,15,34,20,31,10,25,14,19,9,13,8,7,6]
theorem qZv {W:World} (h:laidMetH Tryz.prog [("math/bits.deBruijn32tab", Rows.laid_math_bits_deBruijn32tab),("math/bits.deBruijn64tab", Rows.laid_math_bits_deBruijn64tab),("internal/strconv.uint64pow10", Rows.laid_internal_strconv_uint64pow10),("gemel/meta.words", Rows.laid_gemel_meta_words)] W):qGG W:=by
 rw[MakeChecks.laidMetH_plain _ _ _ (by kernel_rfl)] at h;obtain⟨ps,hl,_,_⟩:=h;intro g ds hgl;unfold glV at hgl;cases hb0:Nat.beq g 0 with
 | true =>
  rw[hb0,cond_true,qz1] at hgl;obtain rfl:=Nat.eq_of_beq_eq_true hb0;have q:=qWD (g:=0) (zs:=tab0) hl (List.mem_cons_of_mem _ (List.mem_cons_of_mem _ (List.mem_cons_of_mem _ List.mem_cons_self))) (by kernel_rfl) (by kernel_rfl:_=some 155) Tryz.underlying155 Tryz.underlying9 (by kernel_rfl) (by kernel_rfl) (hgl.symm.trans (by rfl));exact⟨q.1,q.2⟩
 | false =>
 rw[hb0,cond_false] at hgl;cases hb1:Nat.beq g 4 with
 | true =>
  rw[hb1,cond_true,qz1] at hgl;obtain rfl:=Nat.eq_of_beq_eq_true hb1;have q:=ints_at (g:=4) (zs:=tab1) hl (List.mem_cons_of_mem _ (List.mem_cons_of_mem _ List.mem_cons_self)) (by kernel_rfl) (by kernel_rfl:_=some 314) Tryz.underlying314 Tryz.underlying24 (by kernel_rfl) (by kernel_rfl) (hgl.symm.trans (by rfl));exact⟨q.1,q.2⟩
 | false =>
 rw[hb1,cond_false] at hgl;cases hb2:Nat.beq g 7 with
 | true =>
  rw[hb2,cond_true,qz1] at hgl;obtain rfl:=Nat.eq_of_beq_eq_true hb2;have q:=ints_at (g:=7) (zs:=tab2) hl List.mem_cons_self (by kernel_rfl) (by kernel_rfl:_=some 190) Tryz.underlying190 Tryz.underlying5 (by kernel_rfl) (by kernel_rfl) (hgl.symm.trans (by rfl));exact⟨q.1,q.2⟩
 | false =>
 rw[hb2,cond_false] at hgl;cases hb3:Nat.beq g 8 with
 | true =>
  rw[hb3,cond_true,qz1] at hgl;obtain rfl:=Nat.eq_of_beq_eq_true hb3;have q:=ints_at (g:=8) (zs:=tab3) hl (List.mem_cons_of_mem _ List.mem_cons_self) (by kernel_rfl) (by kernel_rfl:_=some 323) Tryz.underlying323 Tryz.underlying5 (by kernel_rfl) (by kernel_rfl) (hgl.symm.trans (by rfl));exact⟨q.1,q.2⟩
 | false =>
 rw[hb3,cond_false] at hgl;cases hgl
end Go.Proofs.YtiafochainjglaaGreatDoor.glob4
end
namespace Go.Proofs.YtiafochainjglaaGreatDoor.drp
open Go Go.Ax Go.Proofs
set_option linter.unusedVariables false
namespace lw
noncomputable section
open Go.ChangeShapes Go.WideShapes Go.ChangeAt Go.RowKit Go.Deep
section
variable {H:Type} {enc:TypeId×Value→H} {P:Program} {w:World} {base:Nat} {spare:Nat→Bool} {held:Bool} {fuel:Nat} {t:TypeId} {cs:List Value} {x:DataW H×List MemPlace}
theorem qIM {fs:Array Field} (ht:P.underlying t=some (.struct fs)) (h:DataW.trod enc P w base spare held fuel t cs=some x) {i:Nat} {f:Field} (hi:fs[i]? = some f) :
  ∃n y,DataW.trod enc P w base spare held n f.type ((cs.drop f.offset).take (P.cellsOf f.type))=some y:=by
 obtain⟨xs,n,_,_,_,hl,hf⟩:=DataW.trod_struct ht h;have h1:=(Array.getElem?_eq_some_iff.1 hi).1;exact⟨n,xs[i]'(by omega),by rw[hf i f hi];simp⟩
theorem elemOf {n:Nat} {e:TypeId} (ht:P.underlying t=some (.array n e)) (h:DataW.trod enc P w base spare held fuel t cs=some x) {i:Nat} (hi:i<n) :
  ∃m y,DataW.trod enc P w base spare held m e ((cs.drop (i*P.cellsOf e)).take (P.cellsOf e))=some y:=by
 obtain⟨xs,m,_,_,_,hl,hf⟩:=DataW.trod_array ht h;exact⟨m,xs[i]'(by omega),by rw[hf i hi];simp⟩
theorem qHc {k:IntKind} {o:Nat} (ht:P.underlying t=some (.int k)) (h:DataW.trod enc P w base spare held fuel t ((cs.drop o).take 1)=some x):∃z,cs[o]? = some (.int k z)∧(Lit.int k z).wf=true:=by
 obtain⟨z,e,_,hw⟩:=DataW.trod_int ht h;refine⟨z,?_,hw⟩;have:((cs.drop o).take 1)[0]? = some (.int k z):=by rw[e];rfl
 simpa using this
end
theorem own:ownKnob Tryz.prog.godebug=none:=by kernel_rfl
theorem laidOut:laidOutB Tryz.prog=true:=by kernel_rfl
theorem qGN {W W':World} (h:Below W.heap.size W W') {p:MemPlace} (hp:p.block<W.heap.size):W.sameAt W' p:=by
 cases p with
 | cell b off=>exact h.cell (p:=⟨b,off,none⟩) hp
 | map b=>exact h.block b hp
theorem qK1 {W:World} {a:Addr} {v:Value} (h:W.cell? (a.add 0)=some v):a.spot=none:=by
 obtain⟨b,off,spot⟩:=a;cases spot with
 | none=>rfl
 | some s =>
  unfold World.cell? at h;simp only[Addr.add,if_true] at h
  split at h
  ·simp at h
  ·cases h
theorem qQk {P:Program} {f:Nat} {args:List AV} {args':Array Value} {B:Prot} {W:World} (hall:∀k,k<W.heap.size→B.all k) {ι:Ren} {st:ASt} (hsr:SR B W ι st W) (hv:VRs ι args args') {v:AV×ASt} (hv1:v.1=.bool true)
  (h:qAE P f args st v):Calls P f args' W fun e w'=>e=.returned (.bool true)∧Below W.heap.size W w':=by
 have:=(h B W ι W args' hsr hv).2;rw[callsIn_wide] at this;refine this.mono ?_;rintro e w' ⟨x,ι',rfl,_,h2,h3⟩;obtain⟨v,st'⟩:=v;simp only at hv1 h3;subst hv1;cases h3;exact⟨rfl,h2.below.os,h2.below.tape,h2.below.output,h2.below.size,fun k hk=>h2.below.block k (hall k hk)⟩
def qIj (o:AO):ASt:={h:=T.set 20 .e 0 o,next:=1}
theorem qHh (o:AO) (i:Nat):(qIj o).h.get i=if i=0 then some o else none:=by
 unfold qIj;show (T.set 20 .e 0 o).get i=_;rw[T.get_set,T.get_e]
theorem qJj (o:AO):∀i a,(qIj o).h.get i=some a→i=0∧a=o:=fun i a h=>by
 rw[qHh] at h
 by_cases hi:i=0
 ·rw[if_pos hi] at h;cases h;exact⟨hi,rfl⟩
 ·rw[if_neg hi] at h;cases h
theorem qHg (o:AO):Tidy (qIj o):=fun k hk=>by
 have hk:1≤k:=hk;rw[qHh,if_neg (by omega)]
def qY0 (r:Option (Nat×Nat×List AV)):Nat→Option (Nat×Nat×List AV)
 | 0=>r
 | _=>none
def laidAll:List (String×DataW Unit):=[("math/bits.deBruijn32tab", Rows.laid_math_bits_deBruijn32tab),("math/bits.deBruijn64tab", Rows.laid_math_bits_deBruijn64tab),("internal/strconv.uint64pow10", Rows.laid_internal_strconv_uint64pow10),("gemel/meta.words", Rows.laid_gemel_meta_words)]
theorem qKI (os:Os) (args:Array Value):laidMetH Tryz.prog laidAll ((World.laidAll Tryz.prog os laidAll).forCall (fun _ _=>0) ⟨#[],args,[]⟩).memory:=by
 rw[MakeChecks.laidMetH_plain _ _ _ (by kernel_rfl)];exact laidMet_laidAll _ (by kernel_rfl) (by kernel_rfl)
end
end lw
namespace pu
noncomputable section
open Go.ChangeShapes Go.WideShapes Go.ChangeAt Go.RowKit Go.Deep
open lw (qIM qHc own laidOut qGN qQk qIj qHh qJj qHg qY0 laidAll qKI)
def cV:AV→Value
 | .int k z=>.int k z
 | .bool b=>.bool b
 | _=>.bool false
def okV:AV→Bool
 | .int _ _=>true
 | .bool _=>true
 | _=>false
theorem qZ2 {v:AV} (h:okV v=true) (ι:Ren):v.isCell=true∧VR ι v (cV v):=by
 unfold okV at h
 split at h
 ·exact⟨rfl,.int _ _⟩
 ·exact⟨rfl,.bool _⟩
 ·cases h
theorem qBX {cs:List Value} {o n j:Nat} {v:Value} (h:((cs.drop o).take n)[j]? = some v):cs[o+j]? = some v:=by
 rw[List.getElem?_take] at h
 split at h
 ·rwa [List.getElem?_drop] at h
 ·cases h
theorem qLk {z:Int} (w:(Lit.int .u64 z).wf=true):∃n:Nat,z=.ofNat n∧n<18446744073709551616:=by
 have hz:0≤z∧z≤18446744073709551615:=by
  simp only[Lit.wf,Bool.and_eq_true,decide_eq_true_eq] at w;exact w
 exact⟨z.toNat,(Int.toNat_of_nonneg hz.1).symm,by omega⟩
section
variable {H:Type} {enc:TypeId×Value→H} {P:Program} {w:World} {base:Nat} {spare:Nat→Bool} {held:Bool} {fuel:Nat} {t:TypeId} {cs:List Value} {x:DataW H×List MemPlace}
theorem qTM {o:Nat} (ht:P.underlying t=some .bool) (h:DataW.trod enc P w base spare held fuel t ((cs.drop o).take 1)=some x):∃b,cs[o]? = some (.bool b):=by
 obtain⟨z,e,_⟩:=DataW.trod_bool ht h;refine⟨z,?_⟩;have:((cs.drop o).take 1)[0]? = some (.bool z):=by rw[e];rfl
 simpa using this
end
section
variable {H:Type} {enc:TypeId×Value→H} {W:World} {base:Nat} {spare:Nat→Bool} {held:Bool} {fuel:Nat} {cs:List Value} {x:DataW H×List MemPlace}
theorem c1:Tryz.prog.cellsOf 3=1∧Tryz.prog.cellsOf 4=1∧Tryz.prog.cellsOf 23=1∧Tryz.prog.cellsOf 24=1∧Tryz.prog.cellsOf 31=1∧Tryz.prog.cellsOf 34=1:=⟨by kernel_rfl,by kernel_rfl,by kernel_rfl,by kernel_rfl,by kernel_rfl,by kernel_rfl⟩
theorem cN:Tryz.prog.cellsOf 25=2∧Tryz.prog.cellsOf 27=4∧Tryz.prog.cellsOf 29=7∧Tryz.prog.cellsOf 30=16∧Tryz.prog.cellsOf 33=19:=⟨by kernel_rfl,by kernel_rfl,by kernel_rfl,by kernel_rfl,by kernel_rfl⟩
theorem qKH {t ft:TypeId} {fs:Array Field} {kd:IntKind} (ht:Tryz.prog.underlying t=some (.struct fs)) (h:DataW.trod enc Tryz.prog W base spare held fuel t cs=some x) (i o:Nat) {f:Field} (hi:fs[i]? = some f) (ho:f.offset=o) (hft:f.type=ft) (hc:Tryz.prog.cellsOf ft=1) (hk:Tryz.prog.underlying ft=some (.int kd)) :
  ∃z,cs[o]? = some (.int kd z)∧(Lit.int kd z).wf=true:=by
 obtain⟨n,y,hy⟩:=qIM ht h hi;rw[hft,ho,hc] at hy;exact qHc hk hy
theorem q0A {t ft:TypeId} {fs:Array Field} (ht:Tryz.prog.underlying t=some (.struct fs)) (h:DataW.trod enc Tryz.prog W base spare held fuel t cs=some x) (i o:Nat) {f:Field} (hi:fs[i]? = some f) (ho:f.offset=o) (hft:f.type=ft) (hc:Tryz.prog.cellsOf ft=1) (hk:Tryz.prog.underlying ft=some .bool) :
  ∃z,cs[o]? = some (.bool z):=by
 obtain⟨n,y,hy⟩:=qIM ht h hi;rw[hft,ho,hc] at hy;exact qTM hk hy
theorem qOX {t ft:TypeId} {fs:Array Field} {m:Nat} (ht:Tryz.prog.underlying t=some (.struct fs)) (h:DataW.trod enc Tryz.prog W base spare held fuel t cs=some x) (i o:Nat) {f:Field} (hi:fs[i]? = some f) (ho:f.offset=o) (hft:f.type=ft) (hc:Tryz.prog.cellsOf ft=m) :
  ∃n y,DataW.trod enc Tryz.prog W base spare held n ft ((cs.drop o).take m)=some y:=by
 obtain⟨n,y,hy⟩:=qIM ht h hi;rw[hft,ho,hc] at hy;exact⟨n,y,hy⟩
theorem qYI {t:TypeId} {m:Nat} (ht:Tryz.prog.underlying t=some (.array m 24)) (h:DataW.trod enc Tryz.prog W base spare held fuel t cs=some x) {i:Nat} (hi:i<m):∃z,cs[i]? = some (.int .u64 z)∧(Lit.int .u64 z).wf=true:=by
 obtain⟨n,y,hy⟩:=lw.elemOf ht h hi;rw[c1.2.2.2.1,Nat.mul_one] at hy;exact qHc Tryz.underlying24 hy
end
end
end pu
namespace stv
open oo cd cd2 cd3 cd4 cd5 cd9 pu atc atu
open sh (HH XX qDb qD1)
def x00 (i:Nat):Nat:=if i=0 then 4 else if i=1 then 7 else if i=5 then 1 else 0
theorem bS_is:fm.bS=sB HH x00 false:=by kernel_rfl
theorem qT8 {b:Nat→List Nat} {k:Nat} (h1:1≤k) (h2:k≤64) (hb:∀j,j<9→b j=if j=0 then blV fm.bS else if j=2 then blV fm.bK else if j=4 then blV fm.bM else blV []) :
  Agr HH XX b k (LSx HH b) (LKx XX b) false 0 0 [] 1∧LSc HH b=false∧qU8 HH b k=0∧mkM HH b k=true∧qCX HH b 4=(0,0)∧∀i,LSx HH b i<18446744073709551616:=by
 obtain⟨i0,e0,c0⟩:=qZI (H:=HH) (x:=x00) (c:=false) ⟨by decide,by decide,by decide,by decide,by decide,by decide⟩ rfl;obtain⟨i2,e2,q2⟩:=qZm (X:=XX) (t:=1) (y:=fun _=>0) (by decide) (fun _ _=>by decide) (by decide) (by decide) (by kernel_rfl);obtain⟨i4,e4⟩:=qZq (H:=HH) (se:=0) (by decide);have b0:b 0=blV (sB HH x00 false):=by rw[←bS_is];exact hb 0 (by decide)
 have b1:b 1=blV []:=hb 1 (by decide);have b2:b 2=blV (kB XX 1 (fun _=>0)):=hb 2 (by decide);have b3:b 3=blV []:=hb 3 (by decide);have b4:b 4=blV (qAm HH (qFh 0)):=hb 4 (by decide);have bl5:∀j,j<4→iL HH (b (5+j))=false:=fun j hj=>by
  rw[hb (5+j) (by omega),if_neg (by omega),if_neg (by omega),if_neg (by omega)];exact qXD
 rw[←b0] at i0 e0 c0;rw[←b2] at i2 e2 q2;rw[←b4] at i4 e4;have n0:nS HH b=0:=by unfold nS;rw[b1];exact sN3 i0 qXC
 have n2:nK XX b=0:=by unfold nK;rw[b3];exact sN3 i2 qXE
 have xl:LSx HH b=sX HH (b 0):=qSR n0;have qk:LKq XX b=rQ XX (b 2):=qSS n2;have cl:LSc HH b=false:=by unfold LSc;rw[n0];exact c0
 have hf:qCX HH b 4=(0,0):=by
  have s0:=bl5 0 (by decide);have s1:=bl5 1 (by decide);have s2:=bl5 2 (by decide);have s3:=bl5 3 (by decide);unfold qCX qCX qCX qCX qCX qCK;rw[s0,s1,s2,s3];rfl
 have bey:qRl 0 k=false:=by
  unfold qRl;rw[Nat.zero_div];simp
 have mk:mkM HH b k=true:=by unfold mkM;rw[i4,e4,bey];rfl
 have sa:qU8 HH b k=0:=by unfold qU8;rw[if_pos mk];exact e4
 refine⟨⟨by unfold LSe;rw[n0];rfl,fun _ _=>rfl,cl,by unfold LKe;rw[n2];rfl,fun _ _=>rfl,i4,e4,Nat.pow_pos (by decide),hf,?_,?_,Nat.zero_le _⟩,cl,sa,mk,hf,fun i=>?_⟩
 ·rw[xl,e0 5 (by decide)];decide
 ·rw[qk,q2];decide
 ·rw[xl]
  match i with
  | 0=>rw[e0 0 (by decide)];decide
  | 1=>rw[e0 1 (by decide)];decide
  | 2=>rw[e0 2 (by decide)];decide
  | 3=>rw[e0 3 (by decide)];decide
  | 4=>rw[e0 4 (by decide)];decide
  | i+5 =>
   show sX HH (b 0) 5<_;rw[e0 5 (by decide)];decide
section
variable {q q2:CallT} {H:List Nat→Nat→Nat} {X:List Nat→Nat} {base d l m cc k room:Nat} {S0 S:ASt} {las:List (List Nat)} {es:List dsk.En}
theorem qO7 (hS:Sums q H) (hX:Shorts q2 X) (hv:Dv base S0 S d l m (9+k) cc las es) (hcc:cc<90000) (h1:1≤k) (h2:k≤64) (hr1:1≤room) (hr2:room≤16) (hse:mX H (nb las es 4)<18446744073709551616) (e1:LSe H (nb las es)=0) (e2:LKe X (nb las es)=0) (hc:LSc H (nb las es)=false) (hm:mkM H (nb las es) k=true) :
  ∃sp lp mp P S',qAE Tryz.prog 25 [.ptr (some (d,0)),.int .i64 (.ofNat k),.int .i64 (.ofNat room)] S (.tuple [.ptr (some (sp,0)),.int .i64 (.ofNat 0)],S') ∧
   AtS S S' d k room (qCX H (nb las es) 4).1 sp lp mp (LSx H (nb las es)) (LKx X (nb las es)) false P (qFI (qCX H (nb las es) 4).2 room 16) (qU8 H (nb las es) k) ∧
   Dv base S0 S' d l m (9+k) (cc+1) las es:=by
 obtain⟨b,hb⟩:∃b,b=nb las es:=⟨_,rfl⟩;obtain⟨L,hL⟩:∃L,L=qFI (qCX H b 4).2 room 16:=⟨_,rfl⟩;rw[←hb] at hse e1 e2 hc hm ⊢;rw[←hL];have hD:=hv.dsk (by omega);have hn:=hv.len;obtain⟨dl,ll,ml⟩:=Dv.lt hv;obtain⟨dl',dm',lm'⟩:=Dv.dne hv (by omega);have hdG:Go.Ax.Good S d:=by
  obtain⟨ck,hdk⟩:=hv.dk;exact .inr ⟨_,hdk.hd,by unfold dsk.dK;simp⟩
 have hLlen:L.length<1000:=by rw[hL];have:=(qKD (qCX H b 4).2 room 16).2;omega
 have hLlt:∀e,e∈L→e<1000:=fun e he=>by rw[hL] at he;have:=qRH (qCX H b 4).2 room 16 e he;omega
 have hs0:=qWO (H:=H) (b:=b) h2 hse
 -- up to the map,and the map
 obtain⟨sp,lp,mp,P,Z,hrun,hA,hold⟩:∃sp lp mp P Z,(∀{Q:qz2},Trip Tryz.prog S.next none (.seq (.seq (seqL (seqL (qAg 8 c25))) (.cond (.tmp 98) B25 .skip)) (qAg 9 c25)) (fA3 d sp) Z Q→Trip Tryz.prog S.next none c25 {m:=qAM [.ptr (some (d,0)),.int .i64 (.ofNat k),.int .i64 (.ofNat room)] 0 .e,n:=134,defs:=[]} S Q)∧AtS S Z d k room (qCX H b 4).1 sp lp mp (LSx H b) (LKx X b) (LSc H b) P L (qU8 H b k)∧∀i,i<S.next→Z.h.get i=S.h.get i:=by
  obtain⟨sp,lp,P,Y,hpre,hgo⟩:=qZR (kb:=S.next) hS hX hD hn h1 h2 hr1 hr2 (by rw[←hb];exact e1) (by rw[←hb];exact e2);rw[←hb,←hL] at hpre;have hDY:Dsk Y d las es:=by
   obtain⟨l,m,ck,hdk⟩:=hD.ex;exact⟨⟨l,m,ck,hdk.keep hD.tidy hpre.old⟩,hpre.tidy,hD.few,hD.byt⟩
  obtain⟨mp,Z,g1,g2,g3⟩:=qWm (kb:=S.next) hS hDY hn h1 h2 (by rw[←hb];exact hse) (by rw[←hb];exact hm) hpre;refine⟨sp,lp,mp,P,Z,fun {Q} h=>hgo ?_,?_,g3⟩
  ·rw[sh25];exact Trip.then g1 h
  ·rw[←hb] at g2;have e:qU8 H b k=mX H (b 4):=if_pos hm;rw[e];exact g2
 have hvZ:=hv.keep (S':=Z) hA.next hA.tidy hold;have hlv:∀{Z:ASt},leaveA EAu Tryz.f25 (xFr [(6,.ptr (some (sp,0))),(7,.int .i64 (.ofNat 0))] 134) Z=some (.tuple [.ptr (some (sp,0)),.int .i64 (.ofNat 0)],Z):=fun {Z}=>qBY (rs:=[.tmp 6,.tmp 7]) (by kernel_rfl) rfl (qAV (by kernel_rfl) (qAV (by kernel_rfl) qA9)) rfl;have hvv:qCH (Go.Ax.Good S) (.tuple [.ptr (some (sp,0)),.int .i64 (.ofNat 0)]):=⟨.inl hA.los,trivial,trivial⟩;have hlast:∀W:ASt,Trip Tryz.prog S.next none (qAg 9 c25) (fA9 sp) W fun z=>z=(.ret,xFr [(6,.ptr (some (sp,0))),(7,.int .i64 (.ofNat 0))] 134,W):=fun W=>Trip.ofR qBn qAB (kf:=[6,7]) (Q1:=fun z=>z=(.ret,xFr [(6,.ptr (some (sp,0))),(7,.int .i64 (.ofNat 0))] 134,W)) (Eq.mp (vcAi sp W (fun z=>z=(.ret,xFr [(6,.ptr (some (sp,0))),(7,.int .i64 (.ofNat 0))] 134,W))) rfl) (fun e F Y hz=>hz);have hhead:Trip Tryz.prog S.next none (seqL (seqL (qAg 8 c25))) (fA3 d sp) Z fun z=>z=(.normal,fA4 d sp (LSc H b),Z):=Trip.ofR qBn qAB (kf:=[0,9,98]) (Q1:=fun z=>z=(.normal,fA4 d sp (LSc H b),Z)) (Eq.mp (vcAd d sp (LSc H b) Z (fun z=>z=(.normal,fA4 d sp (LSc H b),Z))) ⟨q2D hA.st,rfl⟩) (fun e F Y hz=>hz);rw[hc] at hA hhead;have hfin:Trip Tryz.prog S.next none c25 {m:=qAM [.ptr (some (d,0)),.int .i64 (.ofNat k),.int .i64 (.ofNat room)] 0 .e,n:=134,defs:=[]} S fun z=>z=(.ret,xFr [(6,.ptr (some (sp,0))),(7,.int .i64 (.ofNat 0))] 134,Z):=by
  refine hrun (Trip.then (F:=fA4 d sp false) (Z:=Z) (Trip.then hhead (Trip.cond (b:=false) (by kernel_rfl) (Trip.exec qBn qAB (n:=3) (r:=(.normal,fA4 d sp false,Z)) (by kernel_rfl) rfl))) (Trip.cut [9] (by kernel_rfl) (hlast Z)))
 obtain⟨S',w1,w2,w3⟩:=qAE.ends qBn (fn:=Tryz.f25) (c:=c25) (by kernel_rfl) (by kernel_rfl) (by kernel_rfl) (N:=134) (by kernel_rfl) hv.tidy hA.nodup hA.next (fun p hp=>hA.tidy.lt (hA.at_ p hp).1) (hA.refs hdG) hvv
  (hfin.mono fun z hz=>by subst hz;exact⟨.inr rfl,_,hlv,⟨fun p hp=>(hA.at_ p hp).1,hA.refs hdG,fun i hi _=>hold i hi⟩,Nat.le_refl _⟩)
 have hko:∀i,i<S.next→S'.h.get i=S.h.get i:=fun i hi=>w2.old i fun p hp=>by have:=(hA.at_ p hp).2;omega
 exact⟨sp,lp,mp,P,S',w1,hA.of w2.at_ w2.tidy w2.next,(hv.keep w2.next w2.tidy hko).mono (Nat.le_succ _)⟩
end
theorem qN8 (room:Nat):∀i,qFI 0 room i=[]
 | 0=>rfl
 | i+1=>by
  show (if 0 / 2 ^ i % 2=1∧(qFI 0 room i).length<room then qFI 0 room i++[i] else qFI 0 room i)=[];rw[Nat.zero_div,if_neg (fun h=>absurd h.1 (by decide)),qN8 room i]
theorem start {S:ASt} {k room:Nat} (ht:Tidy S) (h1:1≤k) (h2:k≤64) (r1:1≤room) (r2:room≤16) :
  ∃S1 d l m X sp lp mp,qAE Tryz.prog 14 [.int .i64 (.ofNat k)] S (.ptr (some (d,0)),S1)∧(∀i,i<S.next→S1.h.get i=S.h.get i)∧qAE Tryz.prog 25 [.ptr (some (d,0)),.int .i64 (.ofNat k),.int .i64 (.ofNat room)] S1 (.tuple [.ptr (some (sp,0)),.int .i64 (.ofNat 0)],X)∧Cx S.next S1 d l m k room∧LvE HH XX S.next S S1 d l m k room sp lp mp X 1:=by
 obtain⟨S1,d,l,m,las,hf,hv,hb⟩:=qIK ht h1 h2;obtain⟨ag,cl,sa,mk,ho,xb⟩:=qT8 h1 h2 hb;obtain⟨sp,lp,mp,P,X,w,hA,hv'⟩:=qO7 qDb qD1 hv (by decide) h1 h2 r1 r2 (by rw[ag.mx];decide) ag.e1 ag.e2 cl mk;have hnil:qFI 0 room 16=[]:=qN8 room 16;rw[ho,sa] at hA;rw[hnil] at hA;obtain⟨g1,g2,g3⟩:=Dv.lt hv;exact⟨S1,d,l,m,X,sp,lp,mp,hf,hv.same,w,⟨hv.next,g1,g2,g3,h1,h2,r1,r2⟩,_,_,_,P,[],_,0,las,101,⟨hA,hv',ag,⟨List.nodup_nil,fun e he=>(by cases he),Nat.zero_le _⟩,by omega,xb⟩⟩
end stv
namespace stv
open oo cd cd2 cd3 cd4 cd5 cd9 pu atc atu
open lw (qFk qC9 qBU)
structure Dd where
 z:Int
 s:Int
 c:Bool
 x:Nat→Nat
 Z:Nat→Int
 w:Int
 B:List Nat
def dL (D:Dd):List AV:=[.int .i64 D.z]++(sG D.s D.c D.x++(cd6.tL D.Z++([.int .i64 D.w]++bl D.B)))
structure DdOk (D:Dd):Prop where
 xs:∀i,D.x i<18446744073709551616
 zs:∀i,i<17→∃w:Nat,D.Z i=.ofNat w∧w<18446744073709551616
 bs:byL D.B
theorem qPb (Z:Nat→Int):(cd6.tL Z).length=19:=by kernel_rfl
theorem qGu (D:Dd):(dL D).length=284:=by
 unfold dL;rw[List.length_append,List.length_append,List.length_append,List.length_append,qPb,qBI];show 1+(7+(19+(1+256)))=284;decide
theorem qM4 {Ds:List Dd} {D:Dd} {i o n:Nat} {A V C:List AV} (h:Ds[i]? = some D) (e:dL D=A++(V++C)) (ha:A.length=o) (hv:V.length=n):qAy (Ds.flatMap dL) (0+i*284+o) n=some V:=by
 obtain⟨hi,rfl⟩:=List.getElem?_eq_some_iff.1 h;have e1:Ds=Ds.take i++Ds[i]::Ds.drop (i+1):=by rw[List.getElem_cons_drop,List.take_append_drop]
 have e2:Ds.flatMap dL=((Ds.take i).flatMap dL++A)++(V++(C++(Ds.drop (i+1)).flatMap dL)):=by
  conv=>lhs;rw[e1]
  rw[List.flatMap_append,List.flatMap_cons,e];simp only[List.append_assoc]
 rw[e2];refine qFk ?_ hv;rw[List.length_append,qIt qGu,List.length_take,Nat.min_eq_left (by omega),ha];omega
theorem dd_z {Ds:List Dd} {D:Dd} {i:Nat} (h:Ds[i]? = some D):(Ds.flatMap dL)[0+i*284+0]? = some (.int .i64 D.z):=by
 rw[Nat.zero_add];exact qRR qGu h rfl
theorem dd_w {Ds:List Dd} {D:Dd} {i:Nat} (h:Ds[i]? = some D):(Ds.flatMap dL)[0+i*284+27]? = some (.int .i64 D.w):=by
 rw[Nat.zero_add];exact qRR qGu h (by kernel_rfl)
theorem dd_s {Ds:List Dd} {D:Dd} {i:Nat} (h:Ds[i]? = some D):qAy (Ds.flatMap dL) (0+i*284+1) 7=some (sG D.s D.c D.x):=qM4 h (A:=[.int .i64 D.z]) rfl rfl rfl
theorem dd_t {Ds:List Dd} {D:Dd} {i:Nat} (h:Ds[i]? = some D):qAy (Ds.flatMap dL) (0+i*284+8) 19=some (cd6.tL D.Z):=qM4 h (A:=[.int .i64 D.z]++sG D.s D.c D.x) (by unfold dL;rw[List.append_assoc]) rfl (qPb _)
theorem dd_b {Ds:List Dd} {D:Dd} {i:Nat} (h:Ds[i]? = some D):qAy (Ds.flatMap dL) (0+i*284+28) 256=some (bl D.B):=qM4 h (A:=[.int .i64 D.z]++(sG D.s D.c D.x++(cd6.tL D.Z++[.int .i64 D.w]))) (C:=[]) (by unfold dL;simp only[List.append_assoc,List.append_nil]) (by rw[List.length_append,List.length_append,List.length_append,qPb];rfl) (qBI _)
structure Dds (S:ASt) (P:AV) (Ds:List Dd) (pi:Nat) (o:AO):Prop where
 arg:SlArg ESv 78 284 pi Ds.length P o (Ds.flatMap dL)
 obj:0<Ds.length→S.h.get pi=some o∧pi<S.next
 ok:∀D,D∈Ds→DdOk D
theorem ezT {Y:ASt} {x y:Operand} {t:TypeId} {z w:Int} (h:z=w):still Y (qAD ESv .eql t x y (.int .i64 z) (.int .i64 w))=some (.bool true,Y):=by rw[qUn,decide_eq_true h]
theorem ezF {Y:ASt} {x y:Operand} {t:TypeId} {z w:Int} (h:z≠w):still Y (qAD ESv .eql t x y (.int .i64 z) (.int .i64 w))=some (.bool false,Y):=by rw[qUn,decide_eq_false h]
noncomputable def f7i (k d sp:Nat) (P:AV) (i:Nat):AFr:=xFr [(0,.int .i64 (.ofNat k)),(2,P),(7,.ptr (some (d,0))),(8,.ptr (some (sp,0))),(10,.int .i64 (.ofNat i))] 165
noncomputable def f7a (k d sp:Nat) (P:AV):AFr:=xFr [(0,.int .i64 (.ofNat k)),(2,P),(7,.ptr (some (d,0))),(8,.ptr (some (sp,0)))] 165
noncomputable def f7e (k d sp:Nat):AFr:=xFr [(0,.int .i64 (.ofNat k)),(7,.ptr (some (d,0))),(8,.ptr (some (sp,0)))] 165
section
variable {q q2:CallT} {H:List Nat→Nat→Nat} {XX:List Nat→Nat} {kb d l m k room sp lp mp t i pi:Nat} {S0 S X:ASt} {P:AV} {Ds:List Dd} {o:AO}
theorem qTW {q:CallT} {base nu s cc:Nat} {S0 X1:ASt} {las:List (List Nat)} {x y:Nat→Nat} {c:Bool} {P:AV} {L:List Nat} {z:Int} {r:Nat} (hS:Sums q H) (C:Cx base S d l m k room) (h1:Lv H XX base S0 S X1 d l m k room sp lp mp x y c P L s nu las cc t) (ht:t<1000) (hr:X1.h.get r=some (.cells [.int .i64 z] true)) :
  ∃a X2 X3 las' s',qAE Tryz.prog 35 [.ptr (some (mp,0)),.slice (some (r,0)) 1 (.known 1)] X1 (.int .i64 (.ofNat a),X2)∧qAE Tryz.prog 36 [.ptr (some (sp,0))] X2 (.int .i64 (.ofNat 0),X3)∧Lv H XX base S0 S X3 d l m k room sp lp mp x y c P L s' nu las' (cc+1) (t+1):=by
 have hcb:=h1.cb;have los:=h1.at_.los;have lom:=h1.at_.lom;obtain⟨c1,c2,c3,c4,c5,c6,c7,c8⟩:=C;obtain⟨a,X2,w2,hm⟩:=qTS (z:=z) h1.at_.tidy h1.at_.mg hr (s64 h1 c6) c5 c6;have A2:=h1.at_.marked hm;have D2:=Dv.keep0 h1.dv (X':=X2) (hm.old d (by omega)) (hm.old l (by omega)) (hm.old m (by omega)) (fun i hi=>hm.old i (by omega)) hm.tidy (by have:=hm.next;have:=h1.dv.next;omega);have hs':qWh k s z<2 ^ k:=qWg h1.ag.fit (Nat.le_refl _);obtain⟨X3,las3,w3,hv,n3,k3,b3⟩:=qPi hS D2 (by omega) (by omega) A2.st A2.mg (Nat.lt_of_lt_of_le hs' (Nat.pow_le_pow_right (n:=2) (by decide) c6)) c5 ⟨by omega,by omega⟩;exact⟨a,X2,X3,las3,qWh k s z,w2,w3,A2.keep (fun i h1 h2=>k3 i h2 (by omega) (by omega)) hv.tidy (by have:=A2.next;omega),hv,(h1.ag.map hs' c6 (by rw[b3 4 (by omega),if_pos rfl]) (fun i hi hne=>by rw[b3 i (by omega),if_neg hne])).le (Nat.le_succ _),h1.hl,by omega,h1.xb⟩
theorem qVr (hS:Sums q H) (hX:Shorts q2 XX) (C:Cx S0.next S d l m k room) (hR:Dds S0 P Ds pi o) (h:i<Ds.length) (hn:Ds.length≤30) (ht:t<900) (hv:LvE H XX S0.next S0 S d l m k room sp lp mp X t) :
  ∃X',Trip Tryz.prog kb none L7 (f7i k d sp P i) X (fun r=>r=(.normal,f7i k d sp P (i+1),X'))∧LvE H XX S0.next S0 S d l m k room sp lp mp X' (t+3):=by
 obtain⟨x,y,c,Q,L,s,nu,las,cc,hL⟩:=hv;obtain⟨D,hD⟩:∃D,Ds[i]? = some D:=⟨Ds[i],List.getElem?_eq_getElem h⟩;have hok:=hR.ok D (List.mem_of_getElem? hD);have hob:∀{Y:ASt},(∀j,j<X.next→Y.h.get j=X.h.get j)→Y.h.get pi=some (.cells (Ds.flatMap dL) false):=fun {Y} hk=>by
  obtain⟨q1,q2⟩:=hR.obj (by omega);have hb:=hL.dv.next;rw[hk pi (by omega),hL.dv.same pi q2,q1,hR.arg.obj (by omega)]
 have ob0:=hob (fun _ _=>rfl);have lz:=qAZ (E:=ESv) (t:=3) (i:=pi) (by kernel_rfl) ob0 (dd_z hD);have ix:∀(Y:ASt),still Y (qA4 ESv 78 P (.int .i64 (.ofNat i)))=some (.ptr (some (pi,0+i*284)),Y):=fun Y=>qAF (hR.arg.idx i .i64 h)
 by_cases z1:D.z=1
 ·-- Set
  obtain⟨e,X',w,hr⟩:∃e X',qAE Tryz.prog 33 [.ptr (some (sp,0)),.agg (sG D.s D.c D.x)] X (.int .i64 e,X')∧LvE H XX S0.next S0 S d l m k room sp lp mp X' (t+3):=by
   cases hs:qZA D.s (D.x 1) (D.x 2)
   ·obtain⟨X',w,h'⟩:=qQ4 (c':=D.c) hS C hL (by omega) hs;exact⟨_,X',w,_,_,_,_,_,_,_,_,_,h'.le (by omega)⟩
   ·obtain⟨n,hn⟩:∃n:Nat,D.s=.ofNat n:=by
     match hq:D.s,hs with
     | .ofNat n,_=>exact⟨n,rfl⟩
     | .negSucc n,g=>cases g
    rw[hn] at hs ⊢;have hsm:qDa n (D.x 1) (D.x 2)=true:=hs;have hnl:n<18446744073709551616:=by
     unfold qDa at hsm;simp only[Bool.and_eq_true,decide_eq_true_eq] at hsm;omega
    obtain⟨X',x'',las',w,h'⟩:=qUu (c':=D.c) (x':=fun j=>if j=0 then n else D.x j) hS C hL (by omega) hsm (fun j=>by
     show (if j=0 then n else D.x j)<_
     split
     ·exact hnl
     ·exact hok.xs j)
    exact⟨_,X',w,_,_,_,_,_,_,_,_,_,h'.le (by omega)⟩
  refine⟨X',tR (qAG (qAJ w)) [0,2,7,8,10] (Eq.mp (vcZg _ d k sp i Ds.length pi D.z D.s e D.c D.x P X X' (fun r=>r=(.normal,f7i k d sp P (i+1),X'))) ⟨hR.arg.len X,lT h,ix X,lz,ezT z1,ix X,qAp (z:=7) (by kernel_rfl) ob0 (dd_s hD),ca qA6,qDt (by omega),rfl⟩),hr⟩
 by_cases z2:D.z=2
 ·have hY:=hL.grow (X':=ASt.mk X.h (X.next+12)) (Nat.le_add_right _ _) (hL.at_.tidy.mk (Nat.le_add_right _ _)) (fun _ _=>rfl);obtain⟨e,X',P',L',nu',las',w,h'⟩:=qTU (z:=D.w) (B:=D.B) hS C hY ht hok.bs;have oY:(ASt.mk X.h (X.next+12)).h.get pi=some (.cells (Ds.flatMap dL) false):=ob0;exact⟨X',tR (qAG (qAJ w)) [0,2,7,8,10] (Eq.mp (vcZh _ d k sp i Ds.length pi D.z D.w (.ofNat e) D.B P X X' (fun r=>r=(.normal,f7i k d sp P (i+1),X'))) ⟨hR.arg.len X,lT h,ix X,lz,ezF z1,ezT z2,ix _,qAZ (by kernel_rfl) oY (dd_w hD),ix _,qAp (z:=256) (by kernel_rfl) oY (dd_b hD),ca qA6,trivial,qDt (by omega),rfl⟩),_,_,_,_,_,_,_,_,_,h'⟩
 by_cases z3:D.z=3
 ·obtain⟨Y,eY⟩:∃Y,Y=ASt.put (ASt.mk X.h (X.next+9)) (X.next+7) (.cells [.int .i64 D.w] true):=⟨_,rfl⟩;have hY:=hL.grow (X':=Y) (by rw[eY];exact Nat.le_add_right _ _) (by rw[eY];exact (hL.at_.tidy.mk (Nat.le_add_right _ _)).put (show X.next+7<X.next+9 by omega)) (fun j hj=>by rw[eY,qA3 (by omega)]);obtain⟨a,X2,X3,las',s',w1,w2,h'⟩:=qTW (r:=X.next+7) (z:=D.w) hS C hY (by omega) (by rw[eY];exact qAl);have oY:(ASt.mk X.h (X.next+9)).h.get pi=some (.cells (Ds.flatMap dL) false):=ob0;have lw:=qAZ (E:=ESv) (t:=3) (i:=pi) (by kernel_rfl) oY (dd_w hD);have hok:=orC_ok (qAJ (qUt (S:=ASt.mk X.h (X.next+9)) hL.at_.st)) (orC_ok (qAJ w1) (qAJ w2));subst eY;exact⟨X3,tR (qAG hok) [0,2,7,8,10] (Eq.mp (vcZi _ d k sp mp i Ds.length pi 0 D.z D.w (.ofNat (i+1)) (.int .i64 (.ofNat a)) P X X2 X3 X3 (fun r=>r=(.normal,f7i k d sp P (i+1),X3))) ⟨hR.arg.len X,lT h,ix X,lz,ezF z1,ezF z2,ezT z3,ca oL,ix _,lw,ca (oR oL),⟨⟨hL.at_.tidy (X.next+7) (by omega),trivial⟩,⟨trivial,trivial⟩,trivial⟩,qA1 (qCD lw) trivial,ca (oR (oR qA6)),qDt (by omega),rfl⟩),_,_,_,_,_,_,_,_,_,h'.le (by omega)⟩
 by_cases z4:D.z=4
 ·obtain⟨e,X',y',las',w,h'⟩:=qZf (Z:=D.Z) hX C hL (by omega) hok.zs;exact⟨X',tR (qAG (qAJ w)) [0,2,7,8,10] (Eq.mp (vcZj _ d k sp i Ds.length pi D.z (.ofNat e) D.Z P X X' (fun r=>r=(.normal,f7i k d sp P (i+1),X'))) ⟨hR.arg.len X,lT h,ix X,lz,ezF z1,ezF z2,ezF z3,ezT z4,ix X,qAp (z:=19) (by kernel_rfl) ob0 (dd_t hD),ca qA6,qDt (by omega),rfl⟩),_,_,_,_,_,_,_,_,_,h'.le (by omega)⟩
 by_cases z5:D.z=5
 ·obtain⟨X',x',P',L',nu',las',w,h'⟩:=qTX hS C hL ht;exact⟨X',tR (qAG (qAJ w)) [0,2,7,8,10] (Eq.mp (vcZk _ d k sp i Ds.length pi D.z (.ofNat 0) P X X' (fun r=>r=(.normal,f7i k d sp P (i+1),X'))) ⟨hR.arg.len X,lT h,ix X,lz,ezF z1,ezF z2,ezF z3,ezF z4,ezT z5,ca qA6,qDt (by omega),rfl⟩),_,_,_,_,_,_,_,_,_,h'⟩
 ·exact⟨X,tR (qAG qAB) [0,2,7,8,10] (Eq.mp (vcZl qAa d k sp i Ds.length pi D.z P X (fun r=>r=(.normal,f7i k d sp P (i+1),X))) ⟨hR.arg.len X,lT h,ix X,lz,ezF z1,ezF z2,ezF z3,ezF z4,ezF z5,qDt (by omega),rfl⟩),_,_,_,_,_,_,_,_,_,hL.le (by omega)⟩
end
end stv
namespace stv
open oo cd cd2 cd3 cd4 cd5 cd9 pu atc atu
open lw (qFk qC9 qBU)
open sh (HH XX qDb qD1)
theorem q2X {S:ASt} {a b:Operand} {x:Nat→Nat} {c:Bool}:still S (qAD ESv .neq 29 a b (.agg (sL x c)) (.agg (sL x c)))=some (.bool false,S):=by
 have e:qAD ESv .neq 29 a b (.agg (sL x c)) (.agg (sL x c))=(match aEq ESv 12 29 (.agg (sL x c)) (.agg (sL x c)) with | some r=>some (.bool (!r)) | none=>none):=by kernel_rfl
 rw[lw.qPr 12 29 _ (by kernel_rfl)] at e;exact qAF e
theorem q2W {S:ASt} {a b:Operand} {y:Nat→Nat}:still S (qAD ESv .neq 33 a b (.agg (rL y)) (.agg (rL y)))=some (.bool false,S):=by
 have e:qAD ESv .neq 33 a b (.agg (rL y)) (.agg (rL y))=(match aEq ESv 12 33 (.agg (rL y)) (.agg (rL y)) with | some r=>some (.bool (!r)) | none=>none):=by kernel_rfl
 rw[lw.qPr 12 33 _ (by kernel_rfl)] at e;exact qAF e
theorem q2V {S:ASt} {a b:Operand} {s:Nat}:still S (qAD ESv .neq 24 a b (.int .u64 (.ofNat s)) (.int .u64 (.ofNat s)))=some (.bool false,S):=by
 have e:qAD ESv .neq 24 a b (.int .u64 (.ofNat s)) (.int .u64 (.ofNat s))=some (.bool (!eqF (.ofNat s) (.ofNat s))):=by kernel_rfl
 rw[oo.qIP,decide_eq_true rfl] at e;exact qAF e
theorem q2q {a:Nat} {Y:ASt} (h:a<1000000):qA5 ESv 3 75 (.int .i64 (.ofNat a)) Y=some (.int .u64 (.ofNat a),Y):=by
 have e:qA5 ESv 3 75 (.int .i64 (.ofNat a)) Y=some (.int .u64 (qAH .u64 (.ofNat a)),Y):=by kernel_rfl
 rw[wU (by omega)] at e;exact e
theorem sh7:qAg 4 c7=.seq (.seq (seqL (seqL (qAg 4 c7))) (.block 0 (.loop L7))) (qAg 5 c7):=by kernel_rfl
theorem sh7b:qAg 9 c7=.seq (.seq (seqL (seqL (qAg 9 c7))) (.block 3 (.loop L7b))) (qAg 10 c7):=by kernel_rfl
theorem qZz {S X:ASt} (h:∀k,k<S.next→X.h.get k=S.h.get k):Left ESv Tryz.f7 165 S (.bool true) (.ret,xFr [(6,.bool true)] 165,X) :=
 ⟨.inr rfl,rfl,qBY (rs:=[.tmp 6]) (by kernel_rfl) rfl (qAV (by kernel_rfl) qA9) rfl,h⟩
noncomputable def g7 (k1:Nat) (P:AV) (h:Nat):AFr:=xFr [(11,.ptr (some (k1,0))),(13,.int .u16 (.ofNat h)),(14,P)] 165
noncomputable def g7i (k1:Nat) (P:AV) (h i:Nat):AFr:=xFr [(11,.ptr (some (k1,0))),(13,.int .u16 (.ofNat h)),(14,P),(15,.int .i64 (.ofNat i))] 165
noncomputable def g7e (k1:Nat) (h:Nat):AFr:=xFr [(11,.ptr (some (k1,0))),(13,.int .u16 (.ofNat h))] 165
section
variable {H:List Nat→Nat→Nat} {X:List Nat→Nat} {b:Nat→List Nat} {k s nu t:Nat} {x y:Nat→Nat} {c:Bool} {L:List Nat}
theorem Agr.says_ (h:Agr H X b k x y c s nu L t):qSh H X b k=.tuple [.agg (mL k x c y (LKq X b) true s nu (qEE L)),.int .i64 (.ofNat 0)]:=by
 have e1:=h.e1;have e2:=h.e2;have hs:says H X b=true:=decide_eq_true ⟨e1,e2⟩;have bey:qRl s k=false:=by
  unfold qRl;rw[Nat.div_eq_of_lt h.fit];simp
 have mk:mkM H b k=true:=by unfold mkM;rw[h.ms,h.mx,bey];rfl
 have se:seM H b k=s:=by unfold seM;rw[mk,h.mx];rfl
 have eS:sL (LSx H b) (LSc H b)=sL x c:=by
  unfold sL;rw[h.xs 0 (by decide),h.xs 1 (by decide),h.xs 2 (by decide),h.xs 3 (by decide),h.xs 4 (by decide),h.xs 5 (by decide),h.cs]
 have eR:rL (LKx X b)=rL y:=by
  unfold rL;rw[h.ys 0 (by decide),h.ys 1 (by decide),h.ys 2 (by decide),h.ys 3 (by decide),h.ys 4 (by decide),h.ys 5 (by decide),h.ys 6 (by decide),h.ys 7 (by decide),h.ys 8 (by decide),h.ys 9 (by decide),h.ys 10 (by decide),h.ys 11 (by decide),h.ys 12 (by decide),h.ys 13 (by decide),h.ys 14 (by decide),h.ys 15 (by decide),h.ys 16 (by decide),h.ys 17 (by decide),h.ys 18 (by decide)]
 unfold qSh;rw[hs];show AV.tuple [.agg (qTQ H X b k),.int .i64 (.ofNat 0)]=_;unfold qTQ mL;rw[eS,eR,mk,se,h.hs]
end
section
variable {base d l m k room nu sp lp mp s cc t k1 kb b1:Nat} {S0 S X:ASt} {las:List (List Nat)} {x y:Nat→Nat} {c:Bool} {P:AV} {L:List Nat}
theorem qUB (hP:qD9 b1 X P L) (hL:∀e,e∈L→e<16) (hLn:L.length<1000) :
  Trip Tryz.prog kb none (.block 3 (.loop L7b)) (g7i k1 P (qH1 L 0) 0) X fun z=>z=(.normal,g7e k1 (qEE L),X):=by
 have hlen:=hP.len (E:=ESv);have hx:Trip Tryz.prog kb none L7b (g7i k1 P (qH1 L L.length) L.length) X fun z=>z=(.exit 3,g7e k1 (qEE L),X):=by
  rw[qMt];exact tR qAB [11,13] (Eq.mp (vcZq k1 (qEE L) L.length L.length P X (fun z=>z=(.exit 3,g7e k1 (qEE L),X))) ⟨hlen,lF (Nat.le_refl _),rfl⟩)
 refine Trip.turns (P:=Tryz.prog) (kb:=kb) (ro:=none) (L:=L7b) (id:=3) (n:=L.length) (T:=fun i=>(g7i k1 P (qH1 L i) i,X)) (F:=g7e k1 (qEE L)) (Z:=X) (fun i hi=>?_) hx;rcases hP with⟨rfl,rfl⟩ | ⟨r,h0,rfl,h2,h3⟩
 ·cases hi
 ·have ix:=qDc (E:=ESv) (t:=69) (z:=1) (i:=r) (o:=0) (n:=L.length) (k:=i) (c:=.rest 1) (kd:=.i64) (st:=X) (by kernel_rfl) hi;rw[Nat.zero_add] at ix;have he:L.getD i 0<16:=hL _ (by rw[List.getD_eq_getElem?_getD,List.getElem?_eq_getElem hi];exact List.getElem_mem hi);have h2e:2 ^ L.getD i 0<65536:=Nat.pow_lt_pow_right (a:=2) (n:=16) (by decide) he;show Trip _ _ _ _ (g7i k1 _ (qH1 L i) i) X fun z=>z=(.normal,g7i k1 _ (qH1 L (i+1)) (i+1),X);rw[qK4 hi];exact tR qAB [11,13,14,15] (Eq.mp (vcZp k1 (qH1 L i) i L.length r (L.getD i 0) (.slice (some (r,0)) L.length (.rest 1)) X (fun z=>z=(.normal,g7i k1 (.slice (some (r,0)) L.length (.rest 1)) (Nat.lor (qH1 L i) (2 ^ L.getD i 0)) (i+1),X))) ⟨hlen,lT hi,ix,qAZ (by kernel_rfl) h3 (qH5 hi),q2q (by omega),qQO he,qUl (qPn hL i) h2e,qDt (by omega),rfl⟩)
theorem q22 (hbase:base=S0.next) (C:Cx base S d l m k room) (h:Lv HH XX base S0 S X d l m k room sp lp mp x y c P L s nu las cc t) (ht:t<1000):Trip Tryz.prog kb none (qAg 5 c7) (f7e k d sp) X (Left ESv Tryz.f7 165 S0 (.bool true)):=by
 have hcb:=h.cb;obtain⟨c1,c2,c3,c4,c5,c6,c7',c8⟩:=C;have hLn:L.length<1000:=by have:=h.hl.len;omega
 have hD:=h.dv.dsk (by omega);have w1:=qYr qDb qD1 hD h.dv.len c5 c6;rw[h.ag.says_] at w1;obtain⟨v,hv⟩:∃v,v=mL k x c y (LKq XX (nb las [])) true s nu (qEE L):=⟨_,rfl⟩;obtain⟨S1,e1⟩:∃Y,Y=X.add (.cells zM true):=⟨_,rfl⟩;obtain⟨S2,e2⟩:∃Y,Y=S1.put X.next (.cells (mL k x c y (LKq XX (nb las [])) true s nu (qEE L)) true):=⟨_,rfl⟩;obtain⟨W,eW⟩:∃Y,Y=ASt.mk S2.h (S2.next+29):=⟨_,rfl⟩;have n2:S2.next=X.next+1:=by rw[e2,e1];rfl
 have g1:S1.h.get X.next=some (.cells zM true):=by rw[e1];exact qBM
 have gW:W.h.get X.next=some (.cells (mL k x c y (LKq XX (nb las [])) true s nu (qEE L)) true):=by rw[eW];show S2.h.get X.next=_;rw[e2];exact qAl
 have kW:∀i,i<X.next→W.h.get i=X.h.get i:=fun i hi=>by rw[eW];show S2.h.get i=_;rw[e2,qA3 (by omega),e1,qAj (by omega)]
 have tW:Tidy W:=by rw[eW,e2,e1];exact (h.at_.tidy.add.put (show X.next<X.next+1 by omega)).mk (Nat.le_add_right _ _)
 have nW:W.next=S2.next+29:=by rw[eW]
 have hW:=h.grow (X':=W) (by omega) tW kW;have AW:=hW.at_;have ldS:qAQ ESv 29 (.ptr (some (X.next,1))) W=some (.agg (sL x c),W):=qAp (z:=7) (by kernel_rfl) gW (by kernel_rfl);have ldT:qAQ ESv 33 (.ptr (some (X.next,8))) W=some (.agg (rL y),W):=qAp (z:=19) (by kernel_rfl) gW (by kernel_rfl);have ldB:qAQ ESv 4 (.ptr (some (X.next,28))) W=some (.bool true,W):=qAZ (by kernel_rfl) gW (by kernel_rfl);have ldU:qAQ ESv 24 (.ptr (some (X.next,29))) W=some (.int .u64 (.ofNat s),W):=qAZ (by kernel_rfl) gW (by kernel_rfl);obtain⟨P2,S3,w30,hot3,t3,n3,k3⟩:=qZr tW AW.st AW.lg AW.hot hLn;have g3:S3.h.get X.next=some (.cells (mL k x c y (LKq XX (nb las [])) true s nu (qEE L)) true):=by rw[k3 _ (by omega)];exact gW
 have ldH:qAQ ESv 34 (.ptr (some (X.next,31))) S3=some (.int .u16 (.ofNat (qEE L)),S3):=qAZ (by kernel_rfl) g3 (by kernel_rfl);have old3:∀i,i<S0.next→S3.h.get i=S0.h.get i:=fun i hi=>by
  have hb:=h.dv.next;rw[k3 i (by omega),kW i (by omega),h.dv.same i (by omega)]
 have hok:=orC_ok (qAJ w1) (orC_ok (qAJ (qSl tW AW.st)) (orC_ok (qAJ (qSi tW AW.st)) (orC_ok (qAJ (qUt AW.st)) (orC_ok (qAJ (qWf AW.mg)) (qAJ w30)))));refine Trip.preR qB3 (qAG hok) (k:=3) (kf:=[11,13,14]) (by kernel_rfl) (Q1:=fun z=>z=(.normal,g7 X.next P2 0,S3)) (Eq.mp (vcZn _ d k sp mp X.next (LKq XX (nb las [])) s nu (qEE L) x y c P2 X S1 S2 S3 (fun z=>z=(.normal,g7 X.next P2 0,S3))) ?_) ?_ (fun r h1 h2=>absurd (congrArg (·.1) h2) h1)
 ·subst eW;exact⟨ca oL,by rw[e1];kernel_rfl,by rw[e2];exact qAz (qCJ (B:=zM) (by kernel_rfl) rfl rfl g1),ldS,ca (oR oL),q2X,ldT,ca (oR (oR oL)),q2W,ldB,ldU,ca (oR (oR (oR oL))),ca (oR (oR (oR (oR oL)))),q2V,qA1 (qCD ldS) (qA1 (qCD ldT) (qA1 (qCD ldU) (qA1 (qCD ldU) trivial))),ca (oR (oR (oR (oR (oR qA6))))),rfl⟩
 rintro F Y hY;cases hY;show Trip Tryz.prog kb none (qAg 9 c7) (g7 X.next P2 0) S3 _;rw[sh7b];refine Trip.then (F:=g7e X.next (qEE L)) (Z:=S3) (Trip.then (F:=g7i X.next P2 (qH1 L 0) 0) (Z:=S3) (tR qAB [11,13,14,15] (Eq.mp (vcZo X.next 0 P2 S3 (fun z=>z=(.normal,g7i X.next P2 0 0,S3))) rfl)) (qUB hot3 h.hl.lt hLn)) ?_;exact tR (qAG (qAi qC9)) [6] (Eq.mp (vcZr _ X.next (qEE L) (qEE L) S3 (Left ESv Tryz.f7 165 S0 (.bool true))) ⟨ldH,eT rfl,ca (qAc ..),qZz old3⟩)
end
theorem qUm {E:Env} {Y:ASt} {k:IntKind} {z w:Int} {x y:Operand} {t:TypeId}:still Y (qAD E .gtr t x y (.int k z) (.int k w))=some (.bool (decide (w<z)),Y):=by
 have e:qAD E .gtr t x y (.int k z) (.int k w)=some (.bool (ltF w z)):=by cases k<;>rfl
 rw[qDH] at e;exact qAF e
theorem qZj {S:ASt} {P:AV} {Ds:List Dd} {pi:Nat} {o:AO} {z room:Int} (ht:Tidy S) (hR:Dds S P Ds pi o):qAE Tryz.prog 7 [.int .i64 z,.int .i64 room,P] S (.bool true,S):=by
 by_cases hz:z<1∨64<z
 ·have hok:=orC_ok (qAJ (qBU hz S)) (qAi qC9);exact exD Tryz.f7 c7 165 [6] qB3 (qAG hok) (qEL ..)
   (Eq.mp (vcZa _ z room P S (Left ESv Tryz.f7 165 S (.bool true))) ⟨ca oL,ca (oR (qAc ..)),qZz (fun _ _=>rfl)⟩)
 obtain⟨k,rfl⟩:∃k:Nat,z=.ofNat k:=⟨z.toNat,by simp only[Int.ofNat_eq_natCast];omega⟩;have h1:1≤k:=by simp only[Int.ofNat_eq_natCast] at hz;omega
 have h2:k≤64:=by simp only[Int.ofNat_eq_natCast] at hz;omega
 by_cases hin:1≤room∧room≤16∧Ds.length≤30
 ·obtain⟨g1,g2,g3⟩:=hin;obtain⟨rm,rfl⟩:∃rm:Nat,room=.ofNat rm:=⟨room.toNat,by simp only[Int.ofNat_eq_natCast];omega⟩;have r1:1≤rm:=by simp only[Int.ofNat_eq_natCast] at g1;omega
  have r2:rm≤16:=by simp only[Int.ofNat_eq_natCast] at g2;omega
  obtain⟨S1,d,l,m,X,sp,lp,mp,w1,old1,w2,C,hv⟩:=start ht h1 h2 r1 r2;have hok:=orC_ok (qAJ w1) (qAJ w2);refine qAE.tripDrop qB3 (fn:=Tryz.f7) (c:=c7) (by kernel_rfl) (by kernel_rfl) (by kernel_rfl) (N:=165) (by kernel_rfl) (qEL ..) (by simp[qCH]) ?_;refine Trip.preR qB3 (qAG hok) (k:=4) (kf:=[0,2,7,8]) (by kernel_rfl) (Q1:=fun r=>r=(.normal,f7a k d sp P,X)) (Eq.mp (vcZe _ d k sp Ds.length rm P S S1 X (fun r=>r=(.normal,f7a k d sp P,X))) ⟨ca oL,lF r1,gF (by omega),hR.arg.len S1,gF (by omega),ca (oR qA6),rfl⟩) ?_ (fun r h1 h2=>absurd (congrArg (·.1) h2) h1);rintro F Y hY;cases hY;rw[sh7];obtain⟨T,t0,hT⟩:=qNo (Inv:=fun i X=>LvE HH XX S.next S S1 d l m k rm sp lp mp X (1+3*i)) (R:=fun i X X'=>Trip Tryz.prog S.next none L7 (f7i k d sp P i) X fun r=>r=(.normal,f7i k d sp P (i+1),X')) hv Ds.length (fun i X hi hI=>qVr (t:=1+3*i) qDb qD1 C hR hi g3 (by omega) hI);have hn:LvE HH XX S.next S S1 d l m k rm sp lp mp (T Ds.length) (1+3*Ds.length):=by
   cases hl:Ds.length with
   | zero=>rw[t0];exact hv
   | succ n=>exact (hT n (by omega)).2.2
  subst t0;refine Trip.then (F:=f7e k d sp) (Z:=T Ds.length) (Trip.then (F:=f7i k d sp P 0) (Z:=T 0) (tR qAB [0,2,7,8,10] (Eq.mp (vcZf d k sp P (T 0) (fun z=>z=(.normal,f7i k d sp P 0,T 0))) rfl)) ?_) ?_
  ·exact Trip.turns (P:=Tryz.prog) (kb:=S.next) (ro:=none) (L:=L7) (id:=0) (n:=Ds.length) (T:=fun i=>(f7i k d sp P i,T i)) (F:=f7e k d sp) (Z:=T Ds.length) (fun i hi=>(hT i hi).2.1)
    (tR qAB [0,7,8] (Eq.mp (vcZm d k sp Ds.length Ds.length P (T Ds.length) (fun z=>z=(.exit 0,f7e k d sp,T Ds.length))) ⟨hR.arg.len _,lF (Nat.le_refl _),rfl⟩))
  ·obtain⟨x,y,c,Q,L,s,nu,las,cc,hL⟩:=hn;exact q22 rfl C hL (by omega)
 ·obtain⟨S1,d,l,m,las,w1,hv,_⟩:=qIK ht h1 h2;have hok:=orC_ok (qAJ w1) (qAi qC9)
  by_cases g1:room<1
  ·exact exD Tryz.f7 c7 165 [6] qB3 (qAG hok) (qEL ..)
    (Eq.mp (vcZb _ d (.ofNat k) room P S S1 (Left ESv Tryz.f7 165 S (.bool true))) ⟨ca oL,by rw[qKi];exact congrArg (fun g=>some (AV.bool g,S1)) (decide_eq_true g1),ca (oR (qAc ..)),qZz hv.same⟩)
  have lr:still S1 (qAD ESv .lss 3 (.tmp 21) (.const (.int .i64 1)) (.int .i64 room) (.int .i64 (.ofNat 1)))=some (.bool false,S1):=by rw[qKi];exact congrArg (fun g=>some (AV.bool g,S1)) (decide_eq_false g1)
  by_cases g2:16<room
  ·exact exD Tryz.f7 c7 165 [6] qB3 (qAG hok) (qEL ..)
    (Eq.mp (vcZc _ d (.ofNat k) room P S S1 (Left ESv Tryz.f7 165 S (.bool true))) ⟨ca oL,lr,by rw[qUm];exact congrArg (fun g=>some (AV.bool g,S1)) (decide_eq_true g2),ca (oR (qAc ..)),qZz hv.same⟩)
  ·exact exD Tryz.f7 c7 165 [6] qB3 (qAG hok) (qEL ..)
    (Eq.mp (vcZd _ d Ds.length (.ofNat k) room P S S1 (Left ESv Tryz.f7 165 S (.bool true))) ⟨ca oL,lr,by rw[qUm];exact congrArg (fun g=>some (AV.bool g,S1)) (decide_eq_false g2),hR.arg.len S1,gT (by omega),ca (oR (qAc ..)),qZz hv.same⟩)
end stv
namespace stv
noncomputable section
open Go.ChangeShapes Go.WideShapes Go.ChangeAt Go.RowKit Go.Deep
open oo cd cd2 cd3 cd4 cd5 cd9 pu atc atu
open lw (qIM qHc elemOf own laidOut qGN qK1 qQk qIj qHh qJj qHg qY0 laidAll qKI)
def aL (D:Dd):List AV:=[.int .i64 D.z]++(sG D.s D.c D.x++(cd6.tL D.Z++[.int .i64 D.w]))
theorem aL_is (D:Dd):dL D=aL D++bl D.B:=by
 unfold dL aL;simp only[List.append_assoc]
theorem q0J (D:Dd):(dL D).all okV=true:=by kernel_rfl
theorem q0K {D:Dd} {j:Nat} {v:AV} (h:(dL D)[j]? = some v):v.isCell=true∧∃v',((dL D).map cV)[j]? = some v'∧∀ι,VR ι v v' :=
 ⟨(qZ2 (List.all_eq_true.1 (q0J D) v (List.mem_of_getElem? h)) (fun _=>none)).1,cV v,by rw[List.getElem?_map,h];rfl,fun ι=>(qZ2 (List.all_eq_true.1 (q0J D) v (List.mem_of_getElem? h)) ι).2⟩
section
variable {H:Type} {enc:TypeId×Value→H} {W:World} {base:Nat} {spare:Nat→Bool} {held:Bool} {fuel:Nat} {cs:List Value} {x:DataW H×List MemPlace}
theorem qXU (hl:cs.length=284) (h:DataW.trod enc Tryz.prog W base spare held fuel 80 cs=some x):∃D:Dd,cs=(dL D).map cV∧DdOk D:=by
 have c54:Tryz.prog.cellsOf 54=256:=by kernel_rfl
 have c5':Tryz.prog.cellsOf 5=1:=by kernel_rfl
 obtain⟨z0,e0,_⟩:=qKH Tryz.underlying80 h 0 0 rfl rfl rfl c1.1 Tryz.underlying3;obtain⟨ns,ys,hs⟩:=qOX Tryz.underlying80 h 1 1 rfl rfl rfl cN.2.2.1;obtain⟨nt,yt,ht⟩:=qOX Tryz.underlying80 h 2 8 rfl rfl rfl cN.2.2.2.2;obtain⟨w0,e27,_⟩:=qKH Tryz.underlying80 h 3 27 rfl rfl rfl c1.1 Tryz.underlying3;obtain⟨nb_,yb,hb⟩:=qOX Tryz.underlying80 h 4 28 rfl rfl rfl c54;obtain⟨s,e1,_⟩:=qKH Tryz.underlying29 hs 0 0 rfl rfl rfl c1.2.2.1 Tryz.underlying23;obtain⟨c,e2⟩:=q0A Tryz.underlying29 hs 1 1 rfl rfl rfl c1.2.1 Tryz.underlying4;obtain⟨nl,yl,hln⟩:=qOX Tryz.underlying29 hs 2 2 rfl rfl rfl cN.2.1;obtain⟨x5,e7,w7⟩:=qKH Tryz.underlying29 hs 3 6 rfl rfl rfl c1.2.2.2.1 Tryz.underlying24;obtain⟨x1,e3,w3⟩:=qKH Tryz.underlying27 hln 0 0 rfl rfl rfl c1.2.2.2.1 Tryz.underlying24;obtain⟨x2,e4,w4⟩:=qKH Tryz.underlying27 hln 1 1 rfl rfl rfl c1.2.2.2.1 Tryz.underlying24;obtain⟨nh,yh,hh⟩:=qOX Tryz.underlying27 hln 2 2 rfl rfl rfl cN.1;obtain⟨x3,e5,w5⟩:=qYI Tryz.underlying25 hh (i:=0) (by decide);obtain⟨x4,e6,w6⟩:=qYI Tryz.underlying25 hh (i:=1) (by decide);replace e1:=qBX e1;replace e2:=qBX e2;replace e3:=qBX (qBX e3);replace e4:=qBX (qBX e4);replace e5:=qBX (qBX (qBX e5));replace e6:=qBX (qBX (qBX e6));replace e7:=qBX e7;have eX:∀i:Nat,∃w:Nat,w<18446744073709551616∧(1≤i→i<6→cs[2+i]? = some (.int .u64 (.ofNat w))):=fun i=>by
  match i with
  | 0=>exact⟨0,by decide,fun h=>absurd h (by decide)⟩
  | 1=>obtain⟨w,rfl,hw⟩:=qLk w3;exact⟨w,hw,fun _ _=>e3⟩
  | 2=>obtain⟨w,rfl,hw⟩:=qLk w4;exact⟨w,hw,fun _ _=>e4⟩
  | 3=>obtain⟨w,rfl,hw⟩:=qLk w5;exact⟨w,hw,fun _ _=>e5⟩
  | 4=>obtain⟨w,rfl,hw⟩:=qLk w6;exact⟨w,hw,fun _ _=>e6⟩
  | 5=>obtain⟨w,rfl,hw⟩:=qLk w7;exact⟨w,hw,fun _ _=>e7⟩
  | i+6=>exact⟨0,by decide,fun _ h=>absurd h (by omega)⟩
 obtain⟨X,hX⟩:=Classical.axiomOfChoice eX;obtain⟨g,e8,w8⟩:=qKH Tryz.underlying33 ht 0 0 rfl rfl rfl c1.2.2.2.1 Tryz.underlying24;obtain⟨nk,yk,hk⟩:=qOX Tryz.underlying33 ht 1 1 rfl rfl rfl cN.2.2.2.1;obtain⟨ty,e25,_⟩:=qKH Tryz.underlying33 ht 2 17 rfl rfl rfl c1.2.2.2.2.1 Tryz.underlying31;obtain⟨hd,e26,_⟩:=qKH Tryz.underlying33 ht 3 18 rfl rfl rfl c1.1 Tryz.underlying3;replace e8:=qBX e8;replace e25:=qBX e25;replace e26:=qBX e26;have eZ:∀i,i<19→∃z:Int,cs[8+i]? = some (.int (if i<17 then .u64 else .i64) z)∧(i<17→∃w:Nat,z=.ofNat w∧w<18446744073709551616):=fun i hi=>by
  rcases Nat.lt_or_ge i 17 with h17 | h17
  ·rw[if_pos h17];rcases Nat.eq_zero_or_pos i with h0 | h0
   ·subst h0;exact⟨g,e8,fun _=>qLk w8⟩
   ·obtain⟨z,ez,wz⟩:=qYI Tryz.underlying30 hk (i:=i - 1) (by omega);replace ez:=qBX (qBX ez);rw[show 8+(1+(i - 1))=8+i by omega] at ez;exact⟨z,ez,fun _=>qLk wz⟩
  ·rw[if_neg (by omega)];rcases Nat.lt_or_ge i 18 with h18 | h18
   ·obtain rfl:i=17:=by omega
    exact⟨ty,e25,fun h=>absurd h (by decide)⟩
   ·obtain rfl:i=18:=by omega
    exact⟨hd,e26,fun h=>absurd h (by decide)⟩
 obtain⟨Z,hZ⟩:=choose_lt eZ;have each:∀i,i<256→∃b:Nat,cs[28+i]? = some (.int .u8 (.ofNat b))∧b<256:=fun i hi=>by
  obtain⟨m,y,hy⟩:=lw.elemOf Tryz.underlying54 hb hi;rw[c5',Nat.mul_one] at hy;obtain⟨z,ez,wz⟩:=qHc Tryz.underlying5 hy;have hz:0≤z∧z≤255:=by
   simp only[Lit.wf,Bool.and_eq_true,decide_eq_true_eq] at wz;exact wz
  exact⟨z.toNat,by rw[qBX ez,show Int.ofNat z.toNat=z from Int.toNat_of_nonneg hz.1],by omega⟩
 obtain⟨f,hf⟩:=choose_lt each;obtain⟨B,hB⟩:∃B,B=(List.range 256).map f:=⟨_,rfl⟩;have gB:∀j,j<256→B.getD j 0=f j:=fun j hj=>by rw[hB,List.getD_eq_getElem?_getD,List.getElem?_map,List.getElem?_range hj];rfl
 refine⟨⟨z0,s,c,X,Z,w0,B⟩,?_,fun i=>(hX i).1,fun i hi=>(hZ i (by omega)).2 hi,fun j=>?_⟩
 ·have q1:cs.take 28=(aL ⟨z0,s,c,X,Z,w0,B⟩).map cV:=by
   refine List.ext_getElem? fun j=>?_
   match j with
   | 0=>exact (List.getElem?_take_of_lt (by decide)).trans ((e0).trans (by kernel_rfl))
   | 1=>exact (List.getElem?_take_of_lt (by decide)).trans ((e1).trans (by kernel_rfl))
   | 2=>exact (List.getElem?_take_of_lt (by decide)).trans ((e2).trans (by kernel_rfl))
   | 3=>exact (List.getElem?_take_of_lt (by decide)).trans ((((hX 1).2 (by decide) (by decide))).trans (by kernel_rfl))
   | 4=>exact (List.getElem?_take_of_lt (by decide)).trans ((((hX 2).2 (by decide) (by decide))).trans (by kernel_rfl))
   | 5=>exact (List.getElem?_take_of_lt (by decide)).trans ((((hX 3).2 (by decide) (by decide))).trans (by kernel_rfl))
   | 6=>exact (List.getElem?_take_of_lt (by decide)).trans ((((hX 4).2 (by decide) (by decide))).trans (by kernel_rfl))
   | 7=>exact (List.getElem?_take_of_lt (by decide)).trans ((((hX 5).2 (by decide) (by decide))).trans (by kernel_rfl))
   | 8=>exact (List.getElem?_take_of_lt (by decide)).trans ((((hZ 0 (by decide)).1)).trans (by kernel_rfl))
   | 9=>exact (List.getElem?_take_of_lt (by decide)).trans ((((hZ 1 (by decide)).1)).trans (by kernel_rfl))
   | 10=>exact (List.getElem?_take_of_lt (by decide)).trans ((((hZ 2 (by decide)).1)).trans (by kernel_rfl))
   | 11=>exact (List.getElem?_take_of_lt (by decide)).trans ((((hZ 3 (by decide)).1)).trans (by kernel_rfl))
   | 12=>exact (List.getElem?_take_of_lt (by decide)).trans ((((hZ 4 (by decide)).1)).trans (by kernel_rfl))
   | 13=>exact (List.getElem?_take_of_lt (by decide)).trans ((((hZ 5 (by decide)).1)).trans (by kernel_rfl))
   | 14=>exact (List.getElem?_take_of_lt (by decide)).trans ((((hZ 6 (by decide)).1)).trans (by kernel_rfl))
   | 15=>exact (List.getElem?_take_of_lt (by decide)).trans ((((hZ 7 (by decide)).1)).trans (by kernel_rfl))
   | 16=>exact (List.getElem?_take_of_lt (by decide)).trans ((((hZ 8 (by decide)).1)).trans (by kernel_rfl))
   | 17=>exact (List.getElem?_take_of_lt (by decide)).trans ((((hZ 9 (by decide)).1)).trans (by kernel_rfl))
   | 18=>exact (List.getElem?_take_of_lt (by decide)).trans ((((hZ 10 (by decide)).1)).trans (by kernel_rfl))
   | 19=>exact (List.getElem?_take_of_lt (by decide)).trans ((((hZ 11 (by decide)).1)).trans (by kernel_rfl))
   | 20=>exact (List.getElem?_take_of_lt (by decide)).trans ((((hZ 12 (by decide)).1)).trans (by kernel_rfl))
   | 21=>exact (List.getElem?_take_of_lt (by decide)).trans ((((hZ 13 (by decide)).1)).trans (by kernel_rfl))
   | 22=>exact (List.getElem?_take_of_lt (by decide)).trans ((((hZ 14 (by decide)).1)).trans (by kernel_rfl))
   | 23=>exact (List.getElem?_take_of_lt (by decide)).trans ((((hZ 15 (by decide)).1)).trans (by kernel_rfl))
   | 24=>exact (List.getElem?_take_of_lt (by decide)).trans ((((hZ 16 (by decide)).1)).trans (by kernel_rfl))
   | 25=>exact (List.getElem?_take_of_lt (by decide)).trans ((((hZ 17 (by decide)).1)).trans (by kernel_rfl))
   | 26=>exact (List.getElem?_take_of_lt (by decide)).trans ((((hZ 18 (by decide)).1)).trans (by kernel_rfl))
   | 27=>exact (List.getElem?_take_of_lt (by decide)).trans ((e27).trans (by kernel_rfl))
   | j+28=>rw[List.getElem?_eq_none (by rw[List.length_take];omega),List.getElem?_eq_none (by have:((aL ⟨z0,s,c,X,Z,w0,B⟩).map cV).length=28:=(by kernel_rfl);omega)]
  have q2:cs.drop 28=(bl B).map cV:=by
   refine List.ext_getElem? fun j=>?_;rw[List.getElem?_drop]
   by_cases hj:j<256
   ·rw[(hf j hj).1,List.getElem?_map,qLR hj];show _=some (cV (.int .u8 (.ofNat (B.getD j 0))));rw[gB j hj];rfl
   ·rw[List.getElem?_eq_none (by omega),List.getElem?_eq_none (by rw[List.length_map,qBI];omega)]
  rw[aL_is,List.map_append,←q1];show cs=cs.take 28++(bl B).map cV;rw[←q2,List.take_append_drop]
 ·show B.getD j 0<256
  by_cases hj:j<256
  ·rw[gB j hj];exact (hf j hj).2
  ·rw[hB,List.getD_eq_getElem?_getD,List.getElem?_eq_none (by simp;omega)];decide
end
theorem q2E:qDR ESv 78=some 284:=by kernel_rfl
structure DArg (W:World) (Ds:List Dd) (v:Value) (vl:AV) (o:AO) (r:Option (Nat×Nat×List AV)):Prop where
 at_:ArgAt ESv W 78 284 0 Ds.length v (Ds.flatMap dL) vl o r
 ok:∀D,D∈Ds→DdOk D
theorem qR9 {H:Type} {enc:TypeId×Value→H} {W:World} {fuel:Nat} {spare:Nat→Bool} {held:Bool} {v:Value} {x:DataW H×List MemPlace} (h:DataW.trod enc Tryz.prog W 0 spare held fuel 78 [v]=some x) :
  ∃Ds vl o r,DArg W Ds v vl o r:=by
 rcases open_slice Tryz.underlying78 h with⟨hcs,_⟩ | ⟨a,len,cap,mm,n,D,Pl,hcs,_,hl,_,hmm,_,hx⟩
 ·simp at hcs;subst hcs;exact⟨[],_,_,_,ArgAt.mk_nil q2E,fun p hp=>by cases hp⟩
 ·simp at hcs;subst hcs
  by_cases h0:len=0
  ·subst h0;exact⟨[],_,_,_,ArgAt.mk_zero q2E,fun p hp=>by cases hp⟩
  ·have hlm:len≤mm:=by rw[hmm];split<;>omega
   have c80:Tryz.prog.cellsOf 80=284:=by kernel_rfl
   have each:∀i,i<len→∃p:Dd,(∀j x,((dL p).map cV)[j]? = some x→W.cell? (a.add (i*284+j))=some x)∧DdOk p:=fun i hi=>by
    obtain⟨cs',h1,h2⟩:=hx i (by omega);rw[c80] at h1;obtain⟨_,hlen,hcell⟩:=World.cells?_some h1;obtain⟨p,hp,hb⟩:=qXU hlen h2;refine⟨p,fun j y hy=>?_,hb⟩;have hj:j<284:=by
     have:=(List.getElem?_eq_some_iff.1 hy).1
     rwa [List.length_map,qGu] at this
    have e:=hcell j (by omega);rw[add_add] at e;rw[e,hp];exact hy
   haveI:Inhabited Dd:=⟨⟨0,0,false,fun _=>0,fun _=>0,0,[]⟩⟩
   obtain⟨q,hq⟩:=choose_lt each;have hsp:=qK1 (a:=a) (v:=.int .i64 (q 0).z) (by
    have:=(hq 0 (by omega)).1 0 _ rfl
    rwa [Nat.zero_mul] at this)
   obtain⟨b,off,spot⟩:=a;simp only at hsp;subst hsp;have hpl:((List.range len).map q).length=len:=by simp
   have hne:((List.range len).map q).flatMap dL≠[]:=fun e=>by
    have:=congrArg List.length e;rw[qIt qGu,hpl] at this;simp at this;omega
   have hrow:qL1 W b off (((List.range len).map q).flatMap dL):=fun k v hk=>by
    have hk2:k<len*284:=by
     have:=(List.getElem?_eq_some_iff.1 hk).1
     rwa [qIt qGu,hpl] at this
    have hd:k / 284<len:=by omega
    have hp:((List.range len).map q)[k / 284]? = some (q (k / 284)):=by simp[hd]
    have hr:k % 284<(dL (q (k / 284))).length:=by rw[qGu];exact Nat.mod_lt _ (by decide)
    have hv:=qRR (enc:=dL) qGu hp (List.getElem?_eq_getElem hr);rw[show k / 284*284+k % 284=k by omega] at hv;have hkv:(dL (q (k / 284)))[k % 284]? = some v:=by
     rw[List.getElem?_eq_getElem hr];exact hv.symm.trans hk
    obtain⟨g1,v',g2,g3⟩:=q0K hkv;refine⟨g1,v',?_,g3⟩;have:=(hq (k / 284) (by omega)).1 _ _ g2;rw[add_plain] at this;rw[show off+k=off+(k / 284*284+k % 284) by omega];exact this
   refine⟨(List.range len).map q,.slice (some (0,0)) len (.atl len),.cells (((List.range len).map q).flatMap dL) false,some (b,off,((List.range len).map q).flatMap dL),?_,fun p hp=>?_⟩
   ·rw[hpl];exact ArgAt.mk_row q2E hne hl hrow
   ·obtain⟨i,hi,rfl⟩:=List.mem_map.1 hp;exact (hq i (List.mem_range.1 hi)).2
theorem walk {W:World} (hgl:qGG W) {v0:Value} {Ds:List Dd} {u0:AV} {o0:AO} {r0:Option (Nat×Nat×List AV)} {z room:Int} (A:DArg W Ds v0 u0 o0 r0) :
  Calls Tryz.prog 7 #[.int .i64 z,.int .i64 room,v0] W fun e w'=>e=.returned (.bool true)∧Below W.heap.size W w':=by
 have hrow:∀i r,qY0 r0 i=some r→r.2.2≠[]∧qL1 W r.1 r.2.1 r.2.2:=fun i r h=>by
  match i,h with
  | 0,h=>exact A.at_.row r h
 have hsr:=qSw hgl (n:=1) (rows:=qY0 r0) hrow (st:=qIj o0) rfl (fun i a hi=>by
  obtain⟨rfl,rfl⟩:=qJj _ i a hi;exact⟨by omega,A.at_.obj⟩)
 have w0:VR (qEa W 1 (qY0 r0)) u0 v0:=A.at_.vr _ fun q hq=>qOI (i:=0) (by omega) hq (A.at_.row q hq).1 (A.at_.row q hq).2;have hv:VRs (qEa W 1 (qY0 r0)) [.int .i64 z,.int .i64 room,u0] #[.int .i64 z,.int .i64 room,v0]:=⟨rfl,fun i x x' hx hx'=>by
  match i with
  | 0=>simp at hx hx';subst hx;subst hx';exact .int _ _
  | 1=>simp at hx hx';subst hx;subst hx';exact .int _ _
  | 2=>simp at hx hx';subst hx;subst hx';exact w0
  | i+3=>simp at hx⟩
 exact qQk (fun k hk=>.inr hk) hsr hv rfl (qZj (pi:=0) (o:=o0) (qHg o0) ⟨A.at_.sl,fun _=>⟨by rw[qHh,if_pos rfl],by show 0<1;omega⟩,A.ok⟩)
def wit:Array Value:=#[.int .i64 0,.int .i64 0,.slice none 0 0]
set_option maxRecDepth 100000 in
theorem lifted (os:Os) (started:os.Started) (H:Type) (enc:TypeId×Value→H) :
  ReturnsInHanded {} Tryz.checked os 7 .any (fun w args=>(Rows.metaStoreSpec.pre enc Tryz.prog Tryz.f7 [] false w args∧laidMetH Tryz.prog laidAll w)∧sizedMet enc Tryz.prog Tryz.f7 (OpenSpec.ofChange Rows.metaStoreSpec) false w args)
   (Rows.metaStoreSpec.post enc Tryz.prog Tryz.f7 false true false false):=by
 refine returnsInHanded_of_change_and (C:=Tryz.checked) (X:=fun w _=>laidMetH Tryz.prog laidAll w) (fun _ _ _ hh h=>h.of_heap hh) own started (by kernel_rfl) Tryz.func7
  (ChangeSpec.witness_shaped (enc:=enc) (C:=Tryz.checked) (os:=os) (X:=fun w _=>laidMetH Tryz.prog laidAll w) false (World.laidAll Tryz.prog os laidAll) wit 8 (World.laidAll_os _ _ _) (World.shaped_of_ZipB (by kernel_rfl) (by kernel_rfl)) (by kernel_rfl) (by kernel_rfl) (by kernel_rfl) (qKI os _)) ?_
 intro W base args ds gs before hval0 hW _ _ hL _;have hval:∀(j:Nat) t v,Tryz.f7.params[j]? = some t→args[j]? = some v→Value.okWide Tryz.prog W .any base t v:=hval0;have hW':=hW;obtain⟨p,q,hA0,hV,rfl,hfz,hnd⟩:=hW;have hA:DataW.TrodAll enc Tryz.prog W 0 (fun _=>true) true Tryz.f7.params.toList args.toList ds p:=hA0;rw[Tryz.params7] at hA hval;obtain⟨v0,v1,v2,d0,d1,d2,p0,p1,p2,rfl,rfl,rfl,h0,h1,h2⟩:=trodAll_three hA;obtain⟨rfl,rfl⟩:=trodVars_none hV;obtain⟨g,rfl,rfl,rfl,wg⟩:=open_int Tryz.underlying3 (hval 0 3 v0 rfl rfl) h0;obtain⟨g1,rfl,rfl,rfl,wg1⟩:=open_int Tryz.underlying3 (hval 1 3 v1 rfl rfl) h1;obtain⟨a0,len,cap,rfl⟩:=okWide_slice Tryz.underlying78 (hval 2 78 v2 rfl rfl);have h2k:=h2;obtain⟨fu2,hf2⟩:=h2;clear hA0 hval0;simp only[List.append_nil,List.nil_append] at hW';have hlt2:∀x∈p2,x.block<W.heap.size:=fun x hx=>by simpa using hW'.lt x hx
 rw[show (Value.slice a0 len cap).cells.toList=[.slice a0 len cap] by simp[Value.cells]] at hf2;obtain⟨Ds,vl,o0,r0,A⟩:=qR9 hf2;refine (walk (glob4.qZv hL) (z:=g) (room:=g1) A).mono fun e W' ⟨he,bel⟩=>?_;subst he;have ARG2:DataW.Trod enc Tryz.prog W' 0 (fun x=>decide (x<W.heap.size)) true 78 (.slice a0 len cap) d2 p2 :=
  WideElems.Trod_stays laidOut (by kernel_rfl) (of_decide_eq_true (by kernel_rfl)) h2k (fun x hx=>qGN bel (hlt2 x hx)) (fun x hx=>by simpa using hlt2 x hx)
 exact⟨_,rfl,_,_,_,[],_,[],hW',trodAll_mk1 (shut_bool Tryz.underlying4 _),trodAll_mk3 (shut_int Tryz.underlying3 wg) (shut_int Tryz.underlying3 wg1) ARG2,rfl,bel.frame _,fun h=>by cases h⟩
set_option maxRecDepth 100000 in
theorem over:Rows.metaStoreRow.holds Tryz.pinned (OpenSpec.ofChange Rows.metaStoreSpec) :=
 OpenClaim.holds_of_wide 7 Tryz.f7 rfl rfl rfl rfl rfl rfl rfl ⟨rfl,rfl,rfl,rfl,rfl⟩ rfl rfl rfl rfl rfl (by kernel_rfl) Tryz.func7 (by kernel_rfl)
  (of_decide_eq_true (by kernel_rfl)) (by unfold Func.isWrapper;first | (rw[if_pos (by decide +kernel)];kernel_rfl) | (rw[if_neg (by decide +kernel)];exact⟨rfl,rfl⟩))
  (fun os started H enc _=>lifted os started H enc)
set_option maxRecDepth 100000 in
theorem proved:Rows.MetaStoreCardSaid :=
 Claim7.holds_tied_plain_at .later [] [.data,.data,.data,.data] true (true,"5cb5d186f9a595697ffe3857efde8c74350049c5a8ee1f3809f9d2b7d4aab2c2") true
  over (fun _ h=>by cases h) (by kernel_rfl) (fun _ h=>by cases h) metaStore_row_tie rfl ⟨rfl,rfl⟩ (by kernel_rfl) rfl
  (fun f fn hf hfn=>by
   obtain rfl:f=7:=Option.some.inj ((show Tryz.prog.funcNamed "gemel/gemellaw29.MetaStore" = some 7 by kernel_rfl).symm.trans hf) |>.symm
   obtain rfl:fn=Tryz.f7:=(Option.some.inj (Tryz.func7.symm.trans hfn)).symm;exact⟨by kernel_rfl,fun j t ht=>by
    rw[Tryz.params7] at ht
    match j with
    | 0=>simp at ht;subst ht;exact (by kernel_rfl:Tryz.prog.wantsStandIn 3=false)
    | 1=>simp at ht;subst ht;exact (by kernel_rfl:Tryz.prog.wantsStandIn 3=false)
    | 2=>simp at ht;subst ht;exact (by kernel_rfl:Tryz.prog.wantsStandIn 78=false)
    | j+3=>simp at ht⟩)
  (by kernel_rfl)
end
end stv
end Go.Proofs.YtiafochainjglaaGreatDoor.drp
