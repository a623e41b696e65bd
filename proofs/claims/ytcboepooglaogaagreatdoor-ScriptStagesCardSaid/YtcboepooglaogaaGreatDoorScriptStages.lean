/-
  PROVED HERE: 'Rows.ScriptStagesCardSaid': for every stage and every text the call of the law's function returns true, and the arguments read as they did; what the row lists is tied to the program's text by the given tie. No condition. THE WALK is a run of the function's text in an abstract machine (the texts WaA to WaF show that it is sound), with the arguments open; what it calls by contracts of its own (XsA to XtD), strings.Split, strings.Join and strconv's functions out of the library's; the package variables are told by XsG.
-/
import Derived.Test.YtcboepooglaogaaGreatDoorXtD
import Derived.Test.YtcboepooglaogaaGreatDoorXsG
import Derived.Test.YtcboepooglaogaaGreatDoorCards
import Derived.Test.YtcboepooglaogaaGreatDoorTie
import Derived.Carry
import Derived.WalkKit
import Derived.ProofKit
import Derived.LaidMore
import Derived.OpenShut
import Derived.ShutString
import Derived.ChangeOld
import Derived.ChangeSlices
import Derived.Below
import Derived.SevenTiedAt
import Derived.Stop.Joined
import Derived.Lay
import Derived.Deep.SlicePairs
import Derived.WideKeyArgs
section
open Go Go.Ax Go.Proofs
namespace Go.Proofs.YtcboepooglaogaaGreatDoor.scr
set_option linter.unusedVariables false
noncomputable section
open spt Go.ChangeShapes Go.WideShapes Go.ChangeAt Go.RowKit Go.Deep
section
variable {H:Type} {enc:TypeId×Value→H} {P:Program} {w:World} {base:Nat} {spare:Nat→Bool} {held:Bool} {fuel:Nat} {t:TypeId} {cs:List Value} {x:DataW H×List MemPlace}
theorem fieldOf {fs:Array Field} (ht:P.underlying t=some (.struct fs)) (h:DataW.trod enc P w base spare held fuel t cs=some x) {i:Nat} {f:Field} (hi:fs[i]? = some f) :
  ∃n y,DataW.trod enc P w base spare held n f.type ((cs.drop f.offset).take (P.cellsOf f.type))=some y:=by
 obtain⟨xs,n,_,_,_,hl,hf⟩:=DataW.trod_struct ht h
 have h1:=(Array.getElem?_eq_some_iff.1 hi).1
 exact⟨n,xs[i]'(by omega),by rw[hf i f hi];simp⟩
theorem one_int {k:IntKind} {o:Nat} (ht:P.underlying t=some (.int k)) (h:DataW.trod enc P w base spare held fuel t ((cs.drop o).take 1)=some x):∃z,cs[o]? = some (.int k z)∧(Lit.int k z).wf=true:=by
 obtain⟨z,e,_,hw⟩:=DataW.trod_int ht h
 refine⟨z,?_,hw⟩
 have:((cs.drop o).take 1)[0]? = some (.int k z):=by rw[e];rfl
 simpa using this
theorem one_bool {o:Nat} (ht:P.underlying t=some .bool) (h:DataW.trod enc P w base spare held fuel t ((cs.drop o).take 1)=some x):∃b,cs[o]? = some (.bool b):=by
 obtain⟨b,e,_⟩:=DataW.trod_bool ht h
 refine⟨b,?_⟩
 have:((cs.drop o).take 1)[0]? = some (.bool b):=by rw[e];rfl
 simpa using this
theorem sub_get {o c i:Nat} {v:Value} (h:((cs.drop o).take c)[i]? = some v):cs[o+i]? = some v:=by
 rw[List.getElem?_take] at h
 split at h
 ·simpa using h
 ·cases h
end
theorem own:ownKnob Tryz.prog.godebug=none:=by kernel_rfl
theorem laidOut:laidOutB Tryz.prog=true:=by kernel_rfl
theorem same_below {W W':World} (h:Below W.heap.size W W') {p:MemPlace} (hp:p.block<W.heap.size):W.sameAt W' p:=by
 cases p with
 | cell b off=>exact h.cell (p:=⟨b,off,none⟩) hp
 | map b=>exact h.block b hp
theorem law_go {P:Program} {f:Nat} {args:List AV} {args':Array Value} {B:Prot} (hB:∀i,¬B.rs i) {W:World} (hall:∀k,k<W.heap.size→B.all k) {ι:Go.Ax.Ren} {st:ASt} (hsr:SR B W ι st W) (hv:VRs ι args args')
  (h:AtMem P f args st (.bool true)):Calls P f args' W fun e w'=>e=.returned (.bool true)∧Below W.heap.size W w':=by
 have:=(h B W ι W args' hB hsr hv).2
 rw[callsIn_wide] at this
 refine this.mono ?_
 rintro e w' ⟨⟨v,st'⟩,hv,x,ι',rfl,_,h2,h3⟩
 simp only at hv h3
 subst hv
 cases h3
 exact⟨rfl,h2.below.os,h2.below.tape,h2.below.output,h2.below.size,fun k hk=>h2.below.block k (hall k hk)⟩
theorem spot_none {W:World} {a:Addr} {v:Value} (h:W.cell? (a.add 0)=some v):a.spot=none:=by
 obtain⟨b,off,spot⟩:=a
 cases spot with
 | none=>rfl
 | some s =>
  unfold World.cell? at h
  simp only[Addr.add,if_true] at h
  split at h
  ·simp at h
  ·cases h
theorem tl49:sliceT ESq 49=some 1:=by kernel_rfl
theorem nums_arg {H:Type} {enc:TypeId×Value→H} {W:World} {base fuel:Nat} {spare:Nat→Bool} {held:Bool} {cs:List Value} {x:DataW H×List MemPlace}
  (hf:DataW.trod enc Tryz.prog W base spare held fuel 49 cs=some x) :
  ∃v,cs=[v]∧∃(L:List Nat) (V:AV) (R:AO) (r:Option (Nat×Nat×List AV)),(∀n,n∈L→n<18446744073709551616)∧ArD L V R∧ArgAt ESq W 49 1 0 L.length v (L.map gN) V R r:=by
 rcases open_ints Tryz.underlying49 Tryz.underlying22 (by kernel_rfl) hf with⟨hcs,_⟩ | ⟨a,len',cap',zs,hcs,_,hl,hmx,hm,_,hi,hw⟩
 ·exact⟨_,hcs,[],_,_,_,(fun x h=>by cases h),.nil rfl,ArgAt.mk_nil tl49⟩
 ·refine⟨_,hcs,?_⟩
  have hi':∀i,i<len'→W.cell? (a.add i)=some (.int .u64 (.ofNat (zs.getD i 0).toNat))∧(zs.getD i 0).toNat<18446744073709551616:=fun i hlt=>by
   have hlz:i<zs.length:=by rw[hm];split<;>omega
   have h1:=hi i hlz
   have h2:=hw (zs.getD i 0) (by rw[List.getD_eq_getElem?_getD,List.getElem?_eq_getElem hlz];exact List.getElem_mem hlz)
   have h3:0≤zs.getD i 0∧zs.getD i 0≤18446744073709551615:=by
    simp only[Lit.wf,Bool.and_eq_true,decide_eq_true_eq] at h2
    exact h2
   refine⟨?_,by omega⟩
   rw[h1]
   congr 2
   show zs.getD i 0=Int.ofNat (zs.getD i 0).toNat
   have:=Int.toNat_of_nonneg h3.1
   exact this.symm
  by_cases h0:len'=0
  ·subst h0
   exact⟨[],_,_,_,(fun x h=>by cases h),.zero rfl,ArgAt.mk_zero tl49⟩
  ·have hsp:=spot_none (hi' 0 (by omega)).1
   obtain⟨b,off,spot⟩:=a
   simp only[] at hsp
   subst hsp
   have hlen:((List.range len').map fun i=>(zs.getD i 0).toNat).length=len':=by simp
   have hne:((List.range len').map fun i=>(zs.getD i 0).toNat)≠[]:=fun e=>by rw[e] at hlen;simp at hlen;omega
   have hD:=ArD.row hne
   rw[hlen] at hD
   refine⟨_,_,_,some (b,off,((List.range len').map fun i=>(zs.getD i 0).toNat).map gN),fun n hn=>?_,hD,?_⟩
   ·obtain⟨i,hi2,rfl⟩:=List.mem_map.1 hn
    exact (hi' i (by simpa using hi2)).2
   rw[hlen]
   refine ArgAt.mk_row tl49 (fun e=>hne (List.map_eq_nil_iff.1 e)) hl (fun k v hk=>?_)
   have hk2:k<len':=by
    have:=(List.getElem?_eq_some_iff.1 hk).1
    simpa using this
   have hv:v=gN (zs.getD k 0).toNat:=by
    simp[hk2] at hk
    exact hk.symm
   subst hv
   exact⟨rfl,_,by have:=(hi' k hk2).1;rw[add_none] at this;exact this,fun ι=>.int _ _⟩
theorem stage_of {H:Type} {enc:TypeId×Value→H} {W:World} {base fuel:Nat} {spare:Nat→Bool} {held:Bool} {cs:List Value} {x:DataW H×List MemPlace} (h:DataW.trod enc Tryz.prog W base spare held fuel 51 cs=some x) :
  ∃(b h c w:Int) (dig:Bool) (p f z o t:Int) (v:Value) (L:List Nat) (V:AV) (R:AO) (r:Option (Nat×Nat×List AV)),cs=[.int .i64 b,.int .i64 h,.int .i64 c,.int .i64 w,.bool dig,.int .i64 p,.int .i64 f,.int .i64 z,.int .i64 o,.int .i64 t,v] ∧
   (∀n,n∈L→n<18446744073709551616)∧ArD L V R∧ArgAt ESq W 49 1 0 L.length v (L.map gN) V R r:=by
 have hlen:cs.length=11:=by
  obtain⟨_,_,_,_,hl,_⟩:=DataW.trod_struct Tryz.underlying51 h
  rw[hl];kernel_rfl
 have c3:Tryz.prog.cellsOf 3=1:=by kernel_rfl
 have c4:Tryz.prog.cellsOf 4=1:=by kernel_rfl
 have c42:Tryz.prog.cellsOf 42=1:=by kernel_rfl
 have c43:Tryz.prog.cellsOf 43=1:=by kernel_rfl
 have c44:Tryz.prog.cellsOf 44=1:=by kernel_rfl
 have c46:Tryz.prog.cellsOf 46=3:=by kernel_rfl
 have c48:Tryz.prog.cellsOf 48=10:=by kernel_rfl
 have c49:Tryz.prog.cellsOf 49=1:=by kernel_rfl
 obtain⟨n0,y0,f0⟩:=fieldOf Tryz.underlying51 h (i:=0) rfl
 obtain⟨n1,y1,f1⟩:=fieldOf Tryz.underlying51 h (i:=1) rfl
 replace f0:DataW.trod enc Tryz.prog W base spare held n0 48 ((cs.drop 0).take (Tryz.prog.cellsOf 48))=some y0:=f0
 replace f1:DataW.trod enc Tryz.prog W base spare held n1 49 ((cs.drop 10).take (Tryz.prog.cellsOf 49))=some y1:=f1
 rw[c48] at f0
 rw[c49] at f1
 obtain⟨v,ev,L,V,R,r,b1,b2,b3⟩:=nums_arg f1
 obtain⟨m0,g0,k0⟩:=fieldOf Tryz.underlying48 f0 (i:=0) rfl
 obtain⟨m1,g1,k1⟩:=fieldOf Tryz.underlying48 f0 (i:=1) rfl
 obtain⟨m2,g2,k2⟩:=fieldOf Tryz.underlying48 f0 (i:=2) rfl
 obtain⟨m3,g3,k3⟩:=fieldOf Tryz.underlying48 f0 (i:=3) rfl
 obtain⟨m4,g4,k4⟩:=fieldOf Tryz.underlying48 f0 (i:=4) rfl
 obtain⟨m5,g5,k5⟩:=fieldOf Tryz.underlying48 f0 (i:=5) rfl
 obtain⟨m6,g6,k6⟩:=fieldOf Tryz.underlying48 f0 (i:=6) rfl
 obtain⟨m7,g7,k7⟩:=fieldOf Tryz.underlying48 f0 (i:=7) rfl
 replace k0:DataW.trod enc Tryz.prog W base spare held m0 3 ((((cs.drop 0).take 10).drop 0).take (Tryz.prog.cellsOf 3))=some g0:=k0
 replace k1:DataW.trod enc Tryz.prog W base spare held m1 3 ((((cs.drop 0).take 10).drop 1).take (Tryz.prog.cellsOf 3))=some g1:=k1
 replace k2:DataW.trod enc Tryz.prog W base spare held m2 3 ((((cs.drop 0).take 10).drop 2).take (Tryz.prog.cellsOf 3))=some g2:=k2
 replace k3:DataW.trod enc Tryz.prog W base spare held m3 3 ((((cs.drop 0).take 10).drop 3).take (Tryz.prog.cellsOf 3))=some g3:=k3
 replace k4:DataW.trod enc Tryz.prog W base spare held m4 4 ((((cs.drop 0).take 10).drop 4).take (Tryz.prog.cellsOf 4))=some g4:=k4
 replace k5:DataW.trod enc Tryz.prog W base spare held m5 42 ((((cs.drop 0).take 10).drop 5).take (Tryz.prog.cellsOf 42))=some g5:=k5
 replace k6:DataW.trod enc Tryz.prog W base spare held m6 43 ((((cs.drop 0).take 10).drop 6).take (Tryz.prog.cellsOf 43))=some g6:=k6
 replace k7:DataW.trod enc Tryz.prog W base spare held m7 46 ((((cs.drop 0).take 10).drop 7).take (Tryz.prog.cellsOf 46))=some g7:=k7
 rw[c3] at k0 k1 k2 k3
 rw[c4] at k4
 rw[c42] at k5
 rw[c43] at k6
 rw[c46] at k7
 obtain⟨u0,i0,l0⟩:=fieldOf Tryz.underlying46 k7 (i:=0) rfl
 obtain⟨u1,i1,l1⟩:=fieldOf Tryz.underlying46 k7 (i:=1) rfl
 obtain⟨u2,i2,l2⟩:=fieldOf Tryz.underlying46 k7 (i:=2) rfl
 replace l0:DataW.trod enc Tryz.prog W base spare held u0 44 ((((((cs.drop 0).take 10).drop 7).take 3).drop 0).take (Tryz.prog.cellsOf 44))=some i0:=l0
 replace l1:DataW.trod enc Tryz.prog W base spare held u1 44 ((((((cs.drop 0).take 10).drop 7).take 3).drop 1).take (Tryz.prog.cellsOf 44))=some i1:=l1
 replace l2:DataW.trod enc Tryz.prog W base spare held u2 44 ((((((cs.drop 0).take 10).drop 7).take 3).drop 2).take (Tryz.prog.cellsOf 44))=some i2:=l2
 rw[c44] at l0 l1 l2
 obtain⟨b,e0,_⟩:=one_int Tryz.underlying3 k0
 obtain⟨h',e1,_⟩:=one_int Tryz.underlying3 k1
 obtain⟨c,e2,_⟩:=one_int Tryz.underlying3 k2
 obtain⟨w,e3,_⟩:=one_int Tryz.underlying3 k3
 obtain⟨dig,e4⟩:=one_bool Tryz.underlying4 k4
 obtain⟨p,e5,_⟩:=one_int Tryz.underlying42 k5
 obtain⟨f,e6,_⟩:=one_int Tryz.underlying43 k6
 obtain⟨z,e7,_⟩:=one_int Tryz.underlying44 l0
 obtain⟨o,e8,_⟩:=one_int Tryz.underlying44 l1
 obtain⟨t,e9,_⟩:=one_int Tryz.underlying44 l2
 have e0:=sub_get e0;have e1:=sub_get e1;have e2:=sub_get e2;have e3:=sub_get e3;have e4:=sub_get e4;have e5:=sub_get e5;have e6:=sub_get e6
 have e7:=sub_get (sub_get e7);have e8:=sub_get (sub_get e8);have e9:=sub_get (sub_get e9)
 have ev':cs[10]? = some v:=by
  have:((cs.drop 10).take 1)[0]? = some v:=by rw[ev];rfl
  simpa using this
 refine⟨b,h',c,w,dig,p,f,z,o,t,v,L,V,R,r,?_,b1,b2,b3⟩
 match cs,hlen with
 | [x0,x1,x2,x3,x4,x5,x6,x7,x8,x9,x10],_ =>
  simp at e0 e1 e2 e3 e4 e5 e6 e7 e8 e9 ev'
  rw[e0,e1,e2,e3,e4,e5,e6,e7,e8,e9,ev']
theorem ArD.cell {L:List Nat} {V:AV} {R:AO} (h:ArD L V R):V.isCell=true:=by cases h<;>rfl
theorem walk {W:World} (hgl:GlobOK W) {b h c w:Int} {dig:Bool} {p f z o t:Int} {v:Value} {L:List Nat} {V:AV} {R:AO} {r:Option (Nat×Nat×List AV)} {s:ByteArray} (hb:∀n,n∈L→n<18446744073709551616) (hD:ArD L V R) (hA:ArgAt ESq W 49 1 0 L.length v (L.map gN) V R r) :
  Calls Tryz.prog 4 #[.agg #[.int .i64 b,.int .i64 h,.int .i64 c,.int .i64 w,.bool dig,.int .i64 p,.int .i64 f,.int .i64 z,.int .i64 o,.int .i64 t,v],.string s] W fun e w'=>e=.returned (.bool true)∧Below W.heap.size W w':=by
 have hsr:=rowsO_ok hgl (n:=1) (rows:=fun _=>r) (fun i q hq=>hA.row q hq) (st:=mkSt [(0,R)] 1) rfl (fun i a hi=>by
  obtain⟨rfl,rfl⟩:=get1 hi
  exact⟨by omega,fun hd=>hA.obj hd⟩)
 have hvr:VR (rowsRen W 1 (fun _=>r)) V v:=hA.vr _ fun q hq=>rowsRen_at (by omega) hq (hA.row q hq).1 (hA.row q hq).2
 have hv:VRs (rowsRen W 1 (fun _=>r)) [.agg (stC ⟨b,h,c,w,dig,p,f,z,o,t,L⟩ V),.str (s.data.toList.map UInt8.toNat)] #[.agg #[.int .i64 b,.int .i64 h,.int .i64 c,.int .i64 w,.bool dig,.int .i64 p,.int .i64 f,.int .i64 z,.int .i64 o,.int .i64 t,v],.string s]:=⟨rfl,fun i x x' hx hx'=>by
  match i with
  | 0 =>
   simp only[List.getElem?_cons_zero,Option.some.injEq] at hx
   simp at hx';subst hx;subst hx'
   refine .agg _ _ rfl (fun c hc=>?_) fun j y y' hy hy'=>?_
   ·unfold stC pre10 at hc
    simp only[List.cons_append,List.nil_append,List.mem_cons,List.not_mem_nil,or_false] at hc
    rcases hc with rfl | rfl | rfl | rfl | rfl | rfl | rfl | rfl | rfl | rfl | rfl
    ·rfl
    ·rfl
    ·rfl
    ·rfl
    ·rfl
    ·rfl
    ·rfl
    ·rfl
    ·rfl
    ·rfl
    ·exact hD.cell
   ·match j with
    | 0=>cases hy;cases hy';exact .int _ _
    | 1=>cases hy;cases hy';exact .int _ _
    | 2=>cases hy;cases hy';exact .int _ _
    | 3=>cases hy;cases hy';exact .int _ _
    | 4=>cases hy;cases hy';exact .bool _
    | 5=>cases hy;cases hy';exact .int _ _
    | 6=>cases hy;cases hy';exact .int _ _
    | 7=>cases hy;cases hy';exact .int _ _
    | 8=>cases hy;cases hy';exact .int _ _
    | 9=>cases hy;cases hy';exact .int _ _
    | 10=>cases hy;cases hy';exact hvr
    | j+11=>cases hy
  | 1=>simp at hx hx';subst hx;subst hx';exact .str _ _ rfl
  | i+2=>simp at hx⟩
 refine law_go (fun _ h=>h) (fun k hk=>.inr hk) hsr hv (Call1.mem (law_at tidy1 (hD.sl at10) hb (fun c hc=>?_)))
 obtain⟨x,_,rfl⟩:=List.mem_map.1 hc
 exact UInt8.toNat_lt x
def laidAll:List (String×DataW Unit):=[("math/bits.deBruijn32tab", Rows.laid_math_bits_deBruijn32tab),("math/bits.deBruijn64tab", Rows.laid_math_bits_deBruijn64tab),("internal/strconv.uint64pow10", Rows.laid_internal_strconv_uint64pow10),("unicode/utf8.acceptRanges", Rows.laid_unicode_utf8_acceptRanges),("unicode/utf8.first", Rows.laid_unicode_utf8_first)]
def wit:Array Value:=#[.agg #[.int .i64 0,.int .i64 0,.int .i64 0,.int .i64 0,.bool false,.int .i64 0,.int .i64 0,.int .i64 0,.int .i64 0,.int .i64 0,.slice none 0 0],.string ⟨#[]⟩]
theorem door_met (os:Os) (args:Array Value):laidMetH Tryz.prog laidAll ((World.laidAll Tryz.prog os laidAll).forCall (fun _ _=>0) ⟨#[],args,[]⟩).memory:=by
 rw[MakeChecks.laidMetH_plain _ _ _ (by kernel_rfl)]
 exact laidMet_laidAll _ (by kernel_rfl) (by kernel_rfl)
set_option maxRecDepth 100000 in
theorem lifted (os:Os) (started:os.Started) (H:Type) (enc:TypeId×Value→H) :
  ReturnsInHanded {} Tryz.checked os 4 .any (fun w args=>(Rows.scriptStagesSpec.pre enc Tryz.prog Tryz.f4 [] false w args∧laidMetH Tryz.prog laidAll w)∧sizedMet enc Tryz.prog Tryz.f4 (OpenSpec.ofChange Rows.scriptStagesSpec) false w args)
   (Rows.scriptStagesSpec.post enc Tryz.prog Tryz.f4 false true false false):=by
 refine returnsInHanded_of_change_and (C:=Tryz.checked) (X:=fun w _=>laidMetH Tryz.prog laidAll w) (fun _ _ _ hh h=>h.of_heap hh) own started (by kernel_rfl) Tryz.func4
  (ChangeSpec.witness_shaped (enc:=enc) (C:=Tryz.checked) (os:=os) (X:=fun w _=>laidMetH Tryz.prog laidAll w) false (World.laidAll Tryz.prog os laidAll) wit 8 (World.laidAll_os _ _ _) (World.shaped_of_ZipB (by kernel_rfl) (by kernel_rfl)) (by kernel_rfl) (by kernel_rfl) (by kernel_rfl) (door_met os _)) ?_
 intro W base args ds gs before hval0 hW _ _ hL _
 have hval:∀(j:Nat) t v,Tryz.f4.params[j]? = some t→args[j]? = some v→Value.okWide Tryz.prog W .any base t v:=hval0
 have hW':=hW
 obtain⟨p,q,hA0,hV,rfl,hfz,hnd⟩:=hW
 have hA:DataW.TrodAll enc Tryz.prog W 0 (fun _=>true) true Tryz.f4.params.toList args.toList ds p:=hA0
 rw[Tryz.params4] at hA hval
 obtain⟨v0,v1,d0,d1,p0,p1,rfl,rfl,rfl,h0,h1⟩:=trodAll_two hA
 obtain⟨rfl,rfl⟩:=trodVars_none hV
 obtain⟨cs,rfl,hsz⟩:=okWide_struct Tryz.underlying51 (hval 0 51 v0 rfl rfl)
 obtain⟨s,rfl,rfl,rfl,hs⟩:=Go.ChangeMaps.open_string Tryz.underlying9 (hval 1 9 v1 rfl rfl) h1
 have h0k:=h0
 obtain⟨fu0,hf0⟩:=h0
 clear hA0 hval0
 have hW0:=hW'
 simp only[List.append_nil] at hW'
 have hlt0:∀x∈p0,x.block<W.heap.size:=fun x hx=>by simpa using hW'.lt x (by simpa using hx)
 have hf0':DataW.trod enc Tryz.prog W 0 (fun _=>true) true fu0 51 cs.toList=some (d0,p0):=hf0
 obtain⟨b,h,c,w,dig,p',f,z,o,t,v,L,V,R,r,hcs,hb,hD,hAt⟩:=stage_of hf0'
 have hcs':cs=#[.int .i64 b,.int .i64 h,.int .i64 c,.int .i64 w,.bool dig,.int .i64 p',.int .i64 f,.int .i64 z,.int .i64 o,.int .i64 t,v]:=Array.toList_inj.1 hcs
 subst hcs'
 refine (walk (globPart.globOK hL) hb hD hAt).mono fun e W' ⟨he,bel⟩=>?_
 subst he
 have ARG0:DataW.Trod enc Tryz.prog W' 0 (fun x=>decide (x<W.heap.size)) true 51 (.agg #[.int .i64 b,.int .i64 h,.int .i64 c,.int .i64 w,.bool dig,.int .i64 p',.int .i64 f,.int .i64 z,.int .i64 o,.int .i64 t,v]) d0 p0 :=
  WideElems.Trod_stays laidOut (by kernel_rfl) (of_decide_eq_true (by kernel_rfl)) h0k (fun x hx=>same_below bel (hlt0 x hx)) (fun x hx=>by simpa using hlt0 x hx)
 exact⟨_,rfl,_,_,_,[],_,[],hW0,trodAll_mk1 (shut_bool Tryz.underlying4 _),trodAll_mk2 ARG0 (Go.ChangeMaps.shut_string Tryz.underlying9 hs),rfl,bel.frame _,fun h=>by cases h⟩
theorem over:Rows.scriptStagesRow.holds Tryz.pinned (OpenSpec.ofChange Rows.scriptStagesSpec) :=
 OpenClaim.holds_of_wide 4 Tryz.f4 rfl rfl rfl rfl rfl rfl rfl ⟨rfl,rfl,rfl,rfl,rfl⟩ rfl rfl rfl rfl rfl (by kernel_rfl) Tryz.func4 (by kernel_rfl)
  (of_decide_eq_true (by kernel_rfl)) (by unfold Func.isWrapper;first | (rw[if_pos (by decide +kernel)];kernel_rfl) | (rw[if_neg (by decide +kernel)];exact⟨rfl,rfl⟩))
  (fun os started H enc _=>lifted os started H enc)
set_option maxRecDepth 100000 in
theorem proved:Rows.ScriptStagesCardSaid :=
 Claim7.holds_tied_plain_at .later [] [.data,.data,.data,.data,.pinned] true (true,"1744fa35d596e300cad6bd3b1f12cab5886ca8eb22f64e2d26da82f587e521ab") false
  over (fun _ h=>by cases h) (by kernel_rfl) (fun _ h=>by cases h) scriptStages_row_tie rfl ⟨rfl,rfl⟩ (by kernel_rfl) rfl
  (fun f fn hf hfn=>by
   obtain rfl:f=4:=Option.some.inj ((show Tryz.prog.funcNamed "gemel/gemellaw25.ScriptStages" = some 4 by kernel_rfl).symm.trans hf) |>.symm
   obtain rfl:fn=Tryz.f4:=(Option.some.inj (Tryz.func4.symm.trans hfn)).symm
   exact⟨by kernel_rfl,fun j t ht=>by
    rw[Tryz.params4] at ht
    match j with
    | 0=>simp at ht;subst ht;exact (by kernel_rfl:Tryz.prog.wantsStandIn 51=false)
    | 1=>simp at ht;subst ht;exact (by kernel_rfl:Tryz.prog.wantsStandIn 9=false)
    | j+2=>simp at ht⟩)
  (by kernel_rfl)
end
end Go.Proofs.YtcboepooglaogaaGreatDoor.scr
end
