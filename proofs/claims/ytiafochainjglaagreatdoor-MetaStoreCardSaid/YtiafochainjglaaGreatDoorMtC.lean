/-
  OWN WORK, A PART: an abstract machine for the program's text that the kernel can run, and the proof that it is sound: what it answers is what the program answers; contracts of functions by it. No condition.
-/
import Derived.Test.YtiafochainjglaaGreatDoorMtB
import Derived.Test.YtiafochainjglaaGreatDoorMtA
import Derived.Test.YtiafochainjglaaGreatDoorRows
import Derived.Test.YtiafochainjglaaGreatDoorWaF
import Derived.KernelRfl
section
open Go Go.Ax Go.Proofs
set_option linter.unusedVariables false
namespace Go.Proofs.YtiafochainjglaaGreatDoor.cd6
noncomputable def E:Env:=envEx Tryz.prog [0,3,4,5,24,30,31,32,33] [(49,Tryz.f49),(77,Tryz.f77),(109,Tryz.f109),(136,Tryz.f136),(137,Tryz.f137),(138,Tryz.f138),(139,Tryz.f139)] []
theorem Eok:Env.Ok Tryz.prog E:=envEx_ok (xs:=[]) ⟨⟨Tryz.func49,Tryz.call49⟩,⟨Tryz.func77,Tryz.call77⟩,⟨Tryz.func109,Tryz.call109⟩,⟨Tryz.func136,Tryz.call136⟩,⟨Tryz.func137,Tryz.call137⟩,⟨Tryz.func138,Tryz.call138⟩,⟨Tryz.func139,Tryz.call139⟩,trivial⟩ trivial (by kernel_rfl)
end Go.Proofs.YtiafochainjglaaGreatDoor.cd6
section
open Go Go.Ax Go.Proofs
namespace Go.Proofs.YtiafochainjglaaGreatDoor.cd6
def fl0:Fl:=⟨[],[],[],[]⟩
def tL (Z:Nat→Int):List AV:=.int .u64 (Z 0)::(((List.range 16).map fun i=>.int .u64 (Z (i+1)))++[.int .i64 (Z 17),.int .i64 (Z 18)])
def zAt (l:List AV) (k:Nat):Int:=match l[k]? with
 | some (.int _ z)=>z
 | _=>0
theorem qYe (Z:Nat→Int) {k:Nat} (h:k<16):(tL Z)[k+1]? = some (.int .u64 (Z (k+1))):=by
 show ((((List.range 16).map fun i=>AV.int .u64 (Z (i+1)))++[.int .i64 (Z 17),.int .i64 (Z 18)]))[k]? = _;rw[List.getElem?_append_left (by simp;omega)];simp[h]
theorem z_at (Z:Nat→Int) {k:Nat} (h:k<16):zAt (tL Z) (k+1)=Z (k+1):=by
 unfold zAt;rw[qYe Z h]
def qFo (z:Int):Bool:=bif !ltF z (.ofNat 1) then !ltF (.ofNat 6) z else false
def qOq (z:Int):Bool:=bif eqF z (.ofNat 5) then true else eqF z (.ofNat 6)
def qIY (z:Int):Bool:=bif !ltF z (.ofNat 0) then ltF z (.ofNat 16) else false
def qUE (l:List AV):Nat→Bool
 | 0=>false
 | k+1=>qUE l k || !eqF (zAt l (k+1)) (.ofNat 0)
def qL6 (l:List AV):Nat→Nat
 | 0=>0
 | k+1=>bif eqF (zAt l (k+1)) (.ofNat 0) then qL6 l k else qL6 l k+1
def qOm (l:List AV):Bool:=qUE l 16
def qY6 (l:List AV):Nat:=qL6 l 16
theorem qRc (l:List AV):∀k,ltF (.ofNat 0) (.ofNat (qL6 l k))=qUE l k
 | 0=>rfl
 | k+1=>by
  have ih:=qRc l k;unfold qL6 qUE;cases h:eqF (zAt l (k+1)) (.ofNat 0)
  ·rw[cond_false,qBN];simp
  ·rw[cond_true,ih];simp
theorem qVU (l:List AV):∀k,qL6 l k≤k
 | 0=>Nat.le_refl 0
 | k+1=>by
  have ih:=qVU l k;unfold qL6;cases eqF (zAt l (k+1)) (.ofNat 0)<;>simp only[cond_true,cond_false]<;>omega
def tyL (l:List AV):Int:=zAt l 17
def hoL (l:List AV):Int:=zAt l 18
def qT5 (l:List AV) (h:Int):Int:=zAt l (h.toNat+1)
def nzL (l:List AV) (h:Int):Bool:=!eqF (qT5 l h) (.ofNat 0)
def qNO (l:List AV):Bool :=
 bif eqF (tyL l) (.ofNat 0) then eqF (hoL l) (.ofNat 0) else bif !qFo (tyL l) then false else bif qOq (tyL l) then (bif eqF (hoL l) (.ofNat 0) then qOm l else false) else bif qIY (hoL l) then nzL l (hoL l) else false
def okU:List AV→Nat→Bool
 | [.int .i64 _,.int .i64 _],0=>true
 | .int .u64 _::l,k+1=>okU l k
 | _,_=>false
def okT (l:List AV):Bool:=okU l 17
theorem qQP:∀{l:List AV} {k:Nat},okU l k=true→∃Z:Nat→Int,l=((List.range k).map fun i=>.int .u64 (Z i))++[.int .i64 (Z k),.int .i64 (Z (k+1))]
 | l,0,h=>by
  unfold okU at h
  split at h
  ·rename_i a b _;exact⟨fun i=>if i=0 then a else b,by simp⟩
  ·rename_i h0;simp at h0
  ·cases h
 | l,k+1,h=>by
  unfold okU at h
  split at h
  ·rename_i h0;simp at h0
  ·rename_i z l' k' h0;obtain rfl:k=k':=by simpa using h0
   obtain⟨Z,e⟩:=qQP h;refine⟨fun i=>if i=0 then z else Z (i - 1),?_⟩;rw[e,List.range_succ_eq_map];simp[Function.comp_def]
  ·cases h
theorem qZ3 {l:List AV} (h:okT l=true):∃Z,l=tL Z:=by
 obtain⟨Z,e⟩:=qQP h;exact⟨Z,by rw[e];rfl⟩
theorem q1R (st:ASt):View [] st (mkSt [] 0):=⟨rfl,fun j x hj=>by
 have:(mkSt [] 0).h.get j=none:=by show (T.e:T AO).get j=none;rw[T.get_e]
 rw[this] at hj;cases hj⟩
theorem qZO (Z:Nat→Int):qFW [] (tL Z)=some (tL Z):=by kernel_rfl
noncomputable def stT (Z:Nat→Int):ASt:=mkSt [(0,.cells (tL Z) true)] 1
theorem qZp {i o:Nat} {n:Int} (h:qIY n=true) (st:ASt):still st (qA4 E 30 (.ptr (some (i,o))) (.int .i64 n))=some (.ptr (some (i,o+n.toNat*1)),st):=by
 match n,h with
 | .ofNat k,h =>
  have hk:k<16:=by
   unfold qIY at h;cases h2:ltF (.ofNat k) (.ofNat 16)
   ·rw[h2] at h;cases h3:(!ltF (.ofNat k) (.ofNat 0))<;>rw[h3] at h<;>cases h
   ·rw[qBN] at h2;simpa using h2
  have e:qA4 E 30 (.ptr (some (i,o))) (.int .i64 (.ofNat k))=bif Nat.blt k 16 then some (.ptr (some (i,o+k*1))) else none:=by kernel_rfl
  rw[e,qFa hk];rfl
 | .negSucc k,h=>cases h
theorem qOt {n:Int} (h:qIY n=true):n.toNat<16:=by
 match n,h with
 | .ofNat k,h =>
  unfold qIY at h;cases h2:ltF (.ofNat k) (.ofNat 16)
  ·rw[h2] at h;cases h3:(!ltF (.ofNat k) (.ofNat 0))<;>rw[h3] at h<;>cases h
  ·rw[qBN] at h2;simpa using h2
 | .negSucc k,h=>cases h
theorem ce28:qLO E 24=true:=by kernel_rfl
theorem qUv (Z:Nat→Int) {n:Int} (h:n.toNat<16):qAQ E 24 (.ptr (some (0,1+n.toNat*1))) (stT Z)=some (.int .u64 (qT5 (tL Z) n),stT Z):=by
 refine qAZ (rw:=true) (cs:=tL Z) ce28 (by kernel_rfl) ?_;rw[Nat.mul_one,Nat.add_comm,qYe Z h];unfold qT5;rw[z_at Z h]
end Go.Proofs.YtiafochainjglaaGreatDoor.cd6
end
section
open Go Go.Ax Go.Proofs
namespace Go.Proofs.YtiafochainjglaaGreatDoor.cd6
def B (b:Bool):Exit×Option AV:=(.ret,some (.bool b))
def Ok (v:AV) (q:Exit×Option AV):Prop:=(q.1=.normal∨q.1=.ret)∧q.2=some v
theorem okB {a b:Bool} (h:a=b):Ok (.bool b) (B a):=by subst h;exact⟨.inr rfl,rfl⟩
noncomputable def cd (f:Func):Code:=Option.getD f.body .skip
noncomputable def anF (f:Func) (r:Exit×AFr×ASt):Exit×Option AV:=(r.1,ans (leaveA E f r.2.1 r.2.2))
noncomputable def fr (args:List AV) (n:Nat):AFr:={m:=qAM args 0 .e,n:=n,defs:=[]}
noncomputable def st0:ASt:=mkSt [] 0
theorem qJC {sm:CallT} (hs:CallsOK Tryz.prog sm) {f:Nat} {fn:Func} (hf:E.fn.get f=some fn) (hc:fn.body=some (cd fn)) {args:List AV} (hb:Nat.ble args.length fn.ntmps=true) {v:AV} {fls:List (Nat×Fl)} {fl:Fl} {y:An}
  (h:((TM E sm fls fl0 80).ex fl none (cd fn) (fr args fn.ntmps) st0).allY (fun r=>Ok v (anF fn r)) y):qAf Tryz.prog f args st0 v :=
 qAf.of_trip Eok hf hc hb (Trip.runY Eok hs h)
theorem pure_ok {f:Nat} {args:List AV} {v:AV} (h:qAf Tryz.prog f args st0 v) (hp:qEO v=true) (hr:qFW [] args=some args) {Bp:Prot} {w0:World} {ι:Ren} {st:ASt} {w:World} (hsr:SR Bp w0 ι st w) {args':Array Value} (hv:VRs ι args args') :
 (callFunc f args').run Tryz.prog w=.ok (.enter f args') w∧CallsIn Fence.wide 0 Tryz.prog f args' w (qGw Bp w0 ι (v,st)):=qT0 h hp hsr (ids:=[]) (q1R st) hr hv
noncomputable def t83 (z:Int):Tr (Exit×AFr×ASt):=(TM E qAa [] fl0 80).ex ⟨[],[],[5],[]⟩ none (cd Tryz.f136) (fr [.int .i64 z] Tryz.f136.ntmps) st0
noncomputable def t84 (z:Int):Tr (Exit×AFr×ASt):=(TM E qAa [] fl0 80).ex ⟨[],[],[5],[]⟩ none (cd Tryz.f137) (fr [.int .i64 z] Tryz.f137.ntmps) st0
noncomputable def t86 (z:Int):Tr (Exit×AFr×ASt):=(TM E qAa [] fl0 80).ex ⟨[],[],[5],[]⟩ none (cd Tryz.f139) (fr [.int .i64 z] Tryz.f139.ntmps) st0
theorem vc83 (z:Int) (Q:Exit×Option AV→Prop):ifB (!ltF z (.ofNat 1)) (Q (B (!ltF (.ofNat 6) z))) (Q (B false))=(t83 z).allY (fun r=>Q (anF Tryz.f136 r)) (.b .nil .nil):=by kernel_rfl
theorem vc84 (z:Int) (Q:Exit×Option AV→Prop):ifB (eqF z (.ofNat 5)) (Q (B true)) (Q (B (eqF z (.ofNat 6))))=(t84 z).allY (fun r=>Q (anF Tryz.f137 r)) (.b .nil .nil):=by kernel_rfl
theorem vc86 (z:Int) (Q:Exit×Option AV→Prop):ifB (!ltF z (.ofNat 0)) (Q (B (ltF z (.ofNat 16)))) (Q (B false))=(t86 z).allY (fun r=>Q (anF Tryz.f139 r)) (.b .nil .nil):=by kernel_rfl
theorem at83 (z:Int):qAf Tryz.prog 136 [.int .i64 z] st0 (.bool (qFo z)) :=
 qJC qAB (fn:=Tryz.f136) (by kernel_rfl) (by kernel_rfl) (by kernel_rfl) (Eq.mp (vc83 z (Ok (.bool (qFo z)))) (qBF (fun h=>okB (by unfold qFo;rw[h];rfl)) (fun h=>okB (by unfold qFo;rw[h];rfl))))
theorem at84 (z:Int):qAf Tryz.prog 137 [.int .i64 z] st0 (.bool (qOq z)) :=
 qJC qAB (fn:=Tryz.f137) (by kernel_rfl) (by kernel_rfl) (by kernel_rfl) (Eq.mp (vc84 z (Ok (.bool (qOq z)))) (qBF (fun h=>okB (by unfold qOq;rw[h];rfl)) (fun h=>okB (by unfold qOq;rw[h];rfl))))
theorem at86 (z:Int):qAf Tryz.prog 139 [.int .i64 z] st0 (.bool (qIY z)) :=
 qJC qAB (fn:=Tryz.f139) (by kernel_rfl) (by kernel_rfl) (by kernel_rfl) (Eq.mp (vc86 z (Ok (.bool (qIY z)))) (qBF (fun h=>okB (by unfold qIY;rw[h];rfl)) (fun h=>okB (by unfold qIY;rw[h];rfl))))
noncomputable def qMn (f:Nat) (g:Int→Bool):CallT:=fun f' args st=>bif Nat.beq f f' then (match args with | [.int .i64 z]=>some (.bool (g z),st) | _=>none) else none
noncomputable def q0o (f:Nat) (g:List AV→AV):CallT:=fun f' args st=>bif Nat.beq f f' then (match args with | [.agg l]=>bif okT l then some (g l,st) else none | _=>none) else none
theorem qLn {f:Nat} {g:Int→Bool} (h:∀z,qAf Tryz.prog f [.int .i64 z] st0 (.bool (g z))):CallsOK Tryz.prog (qMn f g):=by
 intro Bp w0 f' args st r hr ι w args' hsr hv;unfold qMn at hr;cases hf:Nat.beq f f'
 ·simp[hf] at hr
 simp only[hf,cond_true] at hr;have:=qEQ hf;subst this
 split at hr
 ·simp only[qz1] at hr;subst hr;exact pure_ok (h _) rfl rfl hsr hv
 ·cases hr
theorem qPe {f:Nat} {g:List AV→AV} (hp:∀l,qEO (g l)=true) (h:∀Z,qAf Tryz.prog f [.agg (tL Z)] st0 (g (tL Z))):CallsOK Tryz.prog (q0o f g):=by
 intro Bp w0 f' args st r hr ι w args' hsr hv;unfold q0o at hr;cases hf:Nat.beq f f'
 ·simp[hf] at hr
 simp only[hf,cond_true] at hr;have:=qEQ hf;subst this
 split at hr
 ·rename_i l;cases ho:okT l
  ·simp[ho] at hr
  simp only[ho,cond_true,qz1] at hr;subst hr;obtain⟨Z,rfl⟩:=qZ3 ho;exact pure_ok (h Z) (hp _) (by simp[qFW,qCj,qZO]) hsr hv
 ·cases hr
noncomputable def s1:CallT:=orC (qMn 136 qFo) (orC (qMn 137 qOq) (qMn 139 qIY))
theorem q2H:CallsOK Tryz.prog s1:=orC_ok (qLn at83) (orC_ok (qLn at84) (qLn at86))
def ksL (Z:Nat→Int):List AV:=(List.range 16).map fun k=>.int .u64 (Z (k+1))
def zeL:List AV:=(List.range 16).map fun _=>.int .u64 (.ofNat 0)
def qOn (Z:Nat→Int):Nat→Nat→Bool
 | 0,_=>true
 | n+1,i=>bif eqF (Z (i+1)) (.ofNat 0) then qOn Z n (i+1) else false
theorem qVP {e:TypeId} (Z:Nat→Int):∀(n i:Nat),qLL (fun _ x y=>qMb (.int .u64) x y) e n ((List.range n).map fun k=>AV.int .u64 (Z (k+i+1))) ((List.range n).map fun _=>AV.int .u64 (.ofNat 0))=some (qOn Z n i)
 | 0,i=>by unfold qLL;rfl
 | n+1,i=>by
  rw[List.range_succ_eq_map];simp only[List.map_cons,List.map_map,Function.comp_def];unfold qLL;have h0:qMb (.int .u64) (.int .u64 (Z (0+i+1))) (.int .u64 (.ofNat 0))=some (eqF (Z (i+1)) (.ofNat 0)):=by rw[Nat.zero_add];rfl
  simp only[h0];have ih:=qVP (e:=e) Z n (i+1);have e1:(fun k=>AV.int .u64 (Z (k.succ+i+1)))=fun k=>AV.int .u64 (Z (k+(i+1)+1)):=by funext k;rw[show k.succ+i+1=k+(i+1)+1 by omega]
  rw[e1,ih];have e2:qOn Z (n+1) i=bif eqF (Z (i+1)) (.ofNat 0) then qOn Z n (i+1) else false:=rfl;rw[e2];cases eqF (Z (i+1)) (.ofNat 0)<;>rfl
theorem qNz (Z:Nat→Int):∀(n i:Nat),qOn Z n i=true↔∀k,k<n→Z (k+i+1)=0
 | 0,i=>by simp[qOn]
 | n+1,i=>by
  unfold qOn;cases h:eqF (Z (i+1)) (.ofNat 0)
  ·have h2:=q0G h;simp only[cond_false,Bool.false_eq_true,false_iff];intro hc;exact h2 (by simpa using hc 0 (by omega))
  ·have h2:=q0F h;simp only[cond_true];rw[qNz Z n (i+1)]
   constructor
   ·intro hc k hk;cases k with
    | zero=>simpa using h2
    | succ k=>have:=hc k (by omega);rwa [show k+(i+1)+1=k+1+i+1 by omega] at this
   ·intro hc k hk;have:=hc (k+1) (by omega)
    rwa [show k+1+i+1=k+(i+1)+1 by omega] at this
theorem qNy (Z:Nat→Int):∀n,n≤16→(qUE (tL Z) n=true↔∃k,k<n∧Z (k+1)≠0)
 | 0,_=>by simp[qUE]
 | n+1,hn=>by
  unfold qUE;rw[Bool.or_eq_true,qNy Z n (by omega),z_at Z (by omega)]
  constructor
  ·rintro (⟨k,h1,h2⟩ | h)
   ·exact⟨k,by omega,h2⟩
   ·exact⟨n,by omega,qZ9 h⟩
  ·rintro ⟨k,h1,h2⟩
   by_cases e:k=n
   ·subst e;refine .inr ?_;cases h:eqF (Z (k+1)) (.ofNat 0)
    ·rfl
    ·exact absurd (q0F h) h2
   ·exact .inl ⟨k,by omega,h2⟩
theorem qYF (Z:Nat→Int):(!qOn Z 16 0)=qOm (tL Z):=by
 have h1:=qNz Z 16 0;have h2:=qNy Z 16 (by omega);unfold qOm;cases ha:qOn Z 16 0
 ·cases hb:qUE (tL Z) 16
  ·exfalso;have:qOn Z 16 0=true:=h1.2 fun k hk=>Classical.byContradiction fun hc=>by
    have:=h2.2 ⟨k,hk,hc⟩;rw[hb] at this;cases this
   rw[ha] at this;cases this
  ·rfl
 ·cases hb:qUE (tL Z) 16
  ·rfl
  ·obtain⟨k,hk,hc⟩:=h2.1 hb;exact absurd (h1.1 ha k hk) hc
noncomputable def t85 (Z:Nat→Int) (b:Bool):Tr (Exit×AFr×ASt):=(TM E qAa [] fl0 80).ex ⟨[6],[],[],[]⟩ none (cd Tryz.f138) (fr [.agg (tL Z)] Tryz.f138.ntmps) st0
theorem vc85 (Z:Nat→Int) (b:Bool) (Q:Exit×Option AV→Prop) :
 (still (stT Z) (qAD E .neq 30 (.tmp 4) (.tmp 5) (.agg (ksL Z)) (.agg zeL))=some (.bool b,stT Z)∧Q (B b))=(t85 Z b).allY (fun r=>Q (anF Tryz.f138 r)) (.v (.bool b,stT Z) .nil):=by kernel_rfl
theorem q3A (Z:Nat→Int) (x y:Operand):qAD E .neq 30 x y (.agg (ksL Z)) (.agg zeL)=some (.bool (qOm (tL Z))):=by
 have e:qAD E .neq 30 x y (.agg (ksL Z)) (.agg zeL)=(match qLL (fun _ x y=>qMb (.int .u64) x y) 24 16 (ksL Z) zeL with | some r=>some (.bool (!r)) | none=>none):=by kernel_rfl
 have h:=qVP (e:=24) Z 16 0;rw[e,show qLL (fun _ x y=>qMb (.int .u64) x y) 24 16 (ksL Z) zeL=some (qOn Z 16 0) from h];show some (AV.bool (!qOn Z 16 0))=_;rw[qYF]
theorem at85 (Z:Nat→Int):qAf Tryz.prog 138 [.agg (tL Z)] st0 (.bool (qOm (tL Z))) :=
 qJC qAB (fn:=Tryz.f138) (by kernel_rfl) (by kernel_rfl) (by kernel_rfl) (Eq.mp (vc85 Z (qOm (tL Z)) (Ok (.bool (qOm (tL Z))))) ⟨qAF (q3A Z _ _),okB rfl⟩)
noncomputable def s2:CallT:=orC s1 (q0o 138 fun l=>.bool (qOm l))
theorem q2G:CallsOK Tryz.prog s2:=orC_ok q2H (qPe (fun _=>rfl) at85)
end Go.Proofs.YtiafochainjglaaGreatDoor.cd6
end
section
open Go Go.Ax Go.Proofs
namespace Go.Proofs.YtiafochainjglaaGreatDoor.cd6
noncomputable def c88:Code:=cd Tryz.f109
noncomputable def r88:Code:=seqL (seqL (qAg 1 c88))
noncomputable def B88:Code:=qSX (qSY (seqR (seqL (qAg 1 c88))))
noncomputable def f88 (x:List (Nat×AV)):AFr:=xFr ([(1,.ptr (some (0,0)))]++x) 17
def nI (n:Nat):AV:=.int .i64 (.ofNat n)
noncomputable def t88a (Z:Nat→Int):Tr (Exit×AFr×ASt):=(TM E qAa [] fl0 80).ex fl0 none (qL5 1 c88) (fr [.agg (tL Z)] 17) st0
noncomputable def t88b (Z:Nat→Int):Tr (Exit×AFr×ASt):=(TM E qAa [] fl0 80).ex fl0 none r88 (f88 [(3,nI 0)]) (stT Z)
noncomputable def t88c (Z:Nat→Int) (n i:Nat):Tr (Exit×AFr×ASt):=(TM E qAa [] fl0 80).ex ⟨[11,12],[],[6,13],[]⟩ none B88 (f88 [(3,nI n),(4,nI i)]) (stT Z)
noncomputable def t88d (Z:Nat→Int) (n i:Nat):Tr (Exit×AFr×ASt):=(TM E qAa [] fl0 80).ex fl0 none (qAg 2 c88) (f88 [(3,nI n),(4,nI i)]) (stT Z)
theorem q1f (Z:Nat→Int) (Q:qz2):Q (.normal,f88 [(3,nI 0)],stT Z)=(t88a Z).allY (fun r=>Q (qY7 [1,3] [0] r)) .nil:=by kernel_rfl
theorem q1e (Z:Nat→Int) (Q:qz2):Q (.normal,f88 [(3,nI 0),(4,nI 0)],stT Z)=(t88b Z).allY (fun r=>Q (qY7 [1,3,4] [0] r)) .nil:=by kernel_rfl
theorem q1d (Z:Nat→Int) (n i:Nat) (Q:qz2) :
 ifB (ltF (.ofNat i) (.ofNat 16)) (still (stT Z) (qA4 E 30 (.ptr (some (0,1))) (nI i))=some (.ptr (some (0,1+(Int.ofNat i).toNat*1)),stT Z)∧qAQ E 24 (.ptr (some (0,1+(Int.ofNat i).toNat*1))) (stT Z)=some (.int .u64 (qT5 (tL Z) (.ofNat i)),stT Z) ∧
  ifB (!eqF (qT5 (tL Z) (.ofNat i)) (.ofNat 0)) (Q (.normal,f88 [(3,.int .i64 (qAH .i64 (.ofNat n+.ofNat 1))),(4,.int .i64 (qAH .i64 (.ofNat i+.ofNat 1)))],stT Z)) (Q (.normal,f88 [(3,nI n),(4,.int .i64 (qAH .i64 (.ofNat i+.ofNat 1)))],stT Z)))
  (Q (.exit 0,f88 [(3,nI n),(4,nI i)],stT Z)) =
 (t88c Z n i).allY (fun r=>Q (qY7 [1,3,4] [0] r)) (.b (.v (.ptr (some (0,1+(Int.ofNat i).toNat*1)),stT Z) (.v (.int .u64 (qT5 (tL Z) (.ofNat i)),stT Z) (.b .nil .nil))) .nil):=by kernel_rfl
theorem q1c (Z:Nat→Int) (n i:Nat) (Q:Exit×Option AV→Prop):Q (.ret,some (nI n))=(t88d Z n i).allY (fun r=>Q (anF Tryz.f109 r)) .nil:=by kernel_rfl
theorem c88a:qAg 1 c88=.seq (.seq r88 (.block 0 (.loop B88))) (qAg 2 c88):=by kernel_rfl
theorem qYg {i:Nat} (h:i<16):qIY (.ofNat i)=true:=by
 unfold qIY;have h1:ltF (.ofNat i) (.ofNat 0)=false:=by rw[qBN];simp
 have h2:ltF (.ofNat i) (.ofNat 16)=true:=by rw[qBN];simp[h]
 rw[h1,h2];rfl
theorem at88 (Z:Nat→Int):qAf Tryz.prog 109 [.agg (tL Z)] st0 (nI (qY6 (tL Z))):=by
 refine qAf.of_trip Eok (fn:=Tryz.f109) (by kernel_rfl) (c:=c88) (by kernel_rfl) (by kernel_rfl) ?_;have e:({m:=qAM [.agg (tL Z)] 0 .e,n:=Tryz.f109.ntmps,defs:=[]}:AFr)=fr [.agg (tL Z)] 17:=by kernel_rfl
 have e2:st0.next=0:=rfl;rw[e,e2];refine Trip.preY Eok qAB (k:=1) (by kernel_rfl) (Q1:=fun r=>r=(.normal,f88 [(3,nI 0)],stT Z)) (Eq.mp (q1f Z fun r=>r=(.normal,f88 [(3,nI 0)],stT Z)) rfl) (fun F S hq=>?_) (fun r hne hq=>absurd (congrArg (·.1) hq) hne);cases hq;rw[c88a];refine Trip.seq (R:=fun r=>∃i,qD8 0 .normal (f88 [(3,nI (qY6 (tL Z))),(4,nI i)]) (stT Z) r) ?_ (fun fr' st' hq=>?_) (fun e fr' st' hne hq=>?_)
 ·refine Trip.seq (R:=qD8 0 .normal (f88 [(3,nI 0),(4,nI 0)]) (stT Z)) ((Trip.runY Eok qAB (Eq.mp (q1e Z (qD8 0 .normal (f88 [(3,nI 0),(4,nI 0)]) (stT Z))) ⟨rfl,Wk.refl _ _ _⟩)).mono fun r hr=>hr.can) (fun fr' st' hq=>Trip.less hq.2 ?_) (fun e fr' st' hne hq=>absurd hq.1 hne);refine Trip.block (Trip.loop (fun m fr st=>∃i,i≤16∧m=16 - i∧fr=f88 [(3,nI (qL6 (tL Z) i)),(4,nI i)]∧st=stT Z) ?_ 16 ⟨0,by omega,by omega,rfl,rfl⟩);rintro m fr st ⟨i,hi,rfl,rfl,rfl⟩;have hle:=qVU (tL Z) i;have hw:=qKZ (i:=i) (by omega);have hw2:=qKZ (i:=qL6 (tL Z) i) (by omega);refine (Trip.runY Eok qAB (Eq.mp (q1d Z (qL6 (tL Z) i) i (fun r=>(i<16∧qD8 0 .normal (f88 [(3,nI (qL6 (tL Z) (i+1))),(4,nI (i+1))]) (stT Z) r)∨(i=16∧qD8 0 (.exit 0) (f88 [(3,nI (qL6 (tL Z) i)),(4,nI i)]) (stT Z) r))) ?_)).mono ?_
  ·rw[qBN,hw,hw2];refine qBF (fun h=>?_) (fun h=>.inr ⟨by simp at h;omega,rfl,Wk.refl _ _ _⟩);have hlt:i<16:=by simpa using h
   have hkey:qT5 (tL Z) (.ofNat i)=zAt (tL Z) (i+1):=rfl;refine⟨qZp (qYg hlt) _,qUv Z hlt,qBF (fun h=>.inl ⟨hlt,rfl,?_⟩) (fun h=>.inl ⟨hlt,rfl,?_⟩)⟩
   ·have:qL6 (tL Z) (i+1)=qL6 (tL Z) i+1:=by
     have hf:eqF (zAt (tL Z) (i+1)) (.ofNat 0)=false:=by rw[←hkey];simpa using h
     show (bif eqF (zAt (tL Z) (i+1)) (.ofNat 0) then _ else _)=_;rw[hf];rfl
    rw[this];exact Wk.refl _ _ _
   ·have:qL6 (tL Z) (i+1)=qL6 (tL Z) i:=by
     have hf:eqF (zAt (tL Z) (i+1)) (.ofNat 0)=true:=by rw[←hkey];simpa using h
     show (bif eqF (zAt (tL Z) (i+1)) (.ofNat 0) then _ else _)=_;rw[hf];rfl
    rw[this];exact Wk.refl _ _ _
  ·rintro ⟨e,fr',st'⟩ (⟨q1,q2⟩ | ⟨q1,q2⟩)
   ·obtain⟨g3,g4⟩:=q2.can;simp only at g3 g4;subst g3;exact⟨16 - (i+1),_,_,by omega,g4,i+1,by omega,rfl,rfl,rfl⟩
   ·obtain⟨g3,g4⟩:=q2.can;simp only at g3 g4;subst g3;subst q1;exact⟨fun _=>⟨16,rfl,g4⟩,fun h=>absurd rfl h⟩
 ·obtain⟨i,_,hw⟩:=hq;exact Trip.less hw (Trip.runY Eok qAB (Eq.mp (q1c Z _ i (Ok (nI (qY6 (tL Z))))) ⟨.inr rfl,rfl⟩))
 ·obtain⟨i,h1,hw⟩:=hq;exact absurd h1 hne
noncomputable def nzV (Z:Nat→Int) (n:Int):An:=.v (.ptr (some (0,1+n.toNat*1)),stT Z) (.v (.int .u64 (qT5 (tL Z) n),stT Z) .nil)
end Go.Proofs.YtiafochainjglaaGreatDoor.cd6
end
section
open Go Go.Ax Go.Proofs
namespace Go.Proofs.YtiafochainjglaaGreatDoor.cd6
noncomputable def s3:CallT:=orC s2 (q0o 109 fun l=>nI (qY6 l))
theorem qZJ:CallsOK Tryz.prog s3:=orC_ok q2G (qPe (fun _=>rfl) at88)
def ixQ (Z:Nat→Int) (n:Int) (Q:Prop):Prop :=
 still (stT Z) (qA4 E 30 (.ptr (some (0,1))) (.int .i64 n))=some (.ptr (some (0,1+n.toNat*1)),stT Z)∧qAQ E 24 (.ptr (some (0,1+n.toNat*1))) (stT Z)=some (.int .u64 (qT5 (tL Z) n),stT Z)∧Q
theorem qVE {Z:Nat→Int} {n:Int} {Q:Prop} (h:qIY n=true) (q:Q):ixQ Z n Q:=⟨qZp h _,qUv Z (qOt h),q⟩
noncomputable def t50 (Z:Nat→Int):Tr (Exit×AFr×ASt):=(TM E s3 [] fl0 80).ex ⟨[33,34],[],[6,14,18,22,29],[]⟩ none (cd Tryz.f77) (fr [.agg (tL Z)] Tryz.f77.ntmps) st0
theorem vc50 (Z:Nat→Int) (Q:Exit×Option AV→Prop) :
 ifB (eqF (Z 17) (.ofNat 0)) (Q (B (eqF (Z 18) (.ofNat 0)))) (ifB (!qFo (Z 17)) (Q (B false)) (ifB (qOq (Z 17)) (ifB (eqF (Z 18) (.ofNat 0)) (Q (B (qOm (tL Z)))) (Q (B false))) (ifB (qIY (Z 18)) (ixQ Z (Z 18) (Q (B (nzL (tL Z) (Z 18))))) (Q (B false))))) =
 (t50 Z).allY (fun r=>Q (anF Tryz.f77 r)) (.b .nil (.b .nil (.b (.b .nil .nil) (.b (nzV Z (Z 18)) .nil)))):=by kernel_rfl
theorem at50 (Z:Nat→Int):qAf Tryz.prog 77 [.agg (tL Z)] st0 (.bool (qNO (tL Z))):=by
 refine qJC qZJ (fn:=Tryz.f77) (by kernel_rfl) (by kernel_rfl) (by kernel_rfl) (Eq.mp (vc50 Z (Ok (.bool (qNO (tL Z))))) ?_);have hd:qNO (tL Z)=bif eqF (Z 17) (.ofNat 0) then eqF (Z 18) (.ofNat 0) else bif !qFo (Z 17) then false else bif qOq (Z 17) then (bif eqF (Z 18) (.ofNat 0) then qOm (tL Z) else false) else bif qIY (Z 18) then nzL (tL Z) (Z 18) else false:=rfl;rw[hd];refine qBF (fun h=>okB (by rw[h];rfl)) (fun h1=>qBF (fun h=>okB (by rw[h1,h];rfl)) (fun h2=>qBF (fun h3=>qBF (fun h=>okB (by rw[h1,h2,h3,h];rfl)) (fun h=>okB (by rw[h1,h2,h3,h];rfl))) (fun h3=>qBF (fun h=>qVE h (okB (by rw[h1,h2,h3,h];rfl))) (fun h=>okB (by rw[h1,h2,h3,h];rfl)))))
noncomputable def t54 (Z:Nat→Int):Tr (Exit×AFr×ASt):=(TM E s3 [] fl0 80).ex ⟨[44,45],[],[6,10,15,20,25,32,35],[]⟩ none (cd Tryz.f49) (fr [.agg (tL Z)] Tryz.f49.ntmps) st0
theorem vc54 (Z:Nat→Int) (Q:Exit×Option AV→Prop) :
 ifB (ltF (Z 17) (.ofNat 0)) (Q (B false)) (ifB (ltF (.ofNat 6) (Z 17)) (Q (B false)) (ifB (ltF (Z 18) (.ofNat 0)) (Q (B false)) (ifB (ltF (.ofNat 15) (Z 18)) (Q (B false)) (ifB (eqF (Z 17) (.ofNat 0)) (Q (B (eqF (Z 18) (.ofNat 0))))
  (ifB (!ltF (Z 17) (.ofNat 5)) (ifB (eqF (Z 18) (.ofNat 0)) (Q (B (ltF (.ofNat 0) (.ofNat (qY6 (tL Z)))))) (Q (B false))) (ixQ Z (Z 18) (Q (B (nzL (tL Z) (Z 18)))))))))) =
 (t54 Z).allY (fun r=>Q (anF Tryz.f49 r)) (.b .nil (.b .nil (.b .nil (.b .nil (.b .nil (.b (.b .nil .nil) (nzV Z (Z 18)))))))):=by kernel_rfl
theorem q1K (z:Int) (n:Nat):eqF z (.ofNat n)=decide (z=n):=by rw[qCG];rfl
theorem qYa (z:Int) (n:Nat):ltF z (.ofNat n)=decide (z<n):=by rw[qDH];rfl
theorem q3C (z:Int) (n:Nat):ltF (.ofNat n) z=decide ((n:Int)<z):=by rw[qDH];rfl
theorem at54 (Z:Nat→Int):qAf Tryz.prog 49 [.agg (tL Z)] st0 (.bool (qNO (tL Z))):=by
 refine qJC qZJ (fn:=Tryz.f49) (by kernel_rfl) (by kernel_rfl) (by kernel_rfl) (Eq.mp (vc54 Z (Ok (.bool (qNO (tL Z))))) ?_);have hc:ltF (.ofNat 0) (.ofNat (qY6 (tL Z)))=qOm (tL Z):=qRc (tL Z) 16;have hd:qNO (tL Z)=bif eqF (Z 17) (.ofNat 0) then eqF (Z 18) (.ofNat 0) else bif !qFo (Z 17) then false else bif qOq (Z 17) then (bif eqF (Z 18) (.ofNat 0) then qOm (tL Z) else false) else bif qIY (Z 18) then nzL (tL Z) (Z 18) else false:=rfl;have hk:qFo (Z 17)=(decide (1≤Z 17) && decide (Z 17≤6)):=by
  unfold qFo;rw[qYa,q3C]
  by_cases h1:Z 17<1<;>by_cases h2:(6:Int)<Z 17<;>simp[h1,h2]<;>omega
 have ha:qOq (Z 17)=decide (Z 17=5∨Z 17=6):=by
  unfold qOq;rw[q1K,q1K]
  by_cases h1:Z 17=5<;>by_cases h2:Z 17=6<;>simp[h1,h2]
 have hw:qIY (Z 18)=(decide (0≤Z 18) && decide (Z 18<16)):=by
  unfold qIY;rw[qYa,qYa]
  by_cases h1:Z 18<0<;>by_cases h2:Z 18<16<;>simp[h1,h2]<;>omega
 rw[hd,hc,q1K,q1K,qYa,q3C,qYa,q3C,qYa,hk,ha,hw];refine qBF (fun h=>okB ?_) (fun h1=>qBF (fun h=>okB ?_) (fun h2=>qBF (fun h=>okB ?_) (fun h3=>qBF (fun h=>okB ?_) (fun h4=>qBF (fun h=>okB ?_) (fun h5=>qBF (fun h6=>qBF (fun h=>okB ?_) (fun h=>okB ?_)) (fun h6=>?_))))))
 all_goals try have h:=of_decide_eq_true h
 all_goals try have h1:=of_decide_eq_false h1
 all_goals try have h2:=of_decide_eq_false h2
 all_goals try have h3:=of_decide_eq_false h3
 all_goals try have h4:=of_decide_eq_false h4
 all_goals try have h5:=of_decide_eq_false h5
 ·rw[decide_eq_false (p:=Z 17=((0:Nat):Int)) (by omega),decide_eq_false (p:=1≤Z 17) (by omega)];rfl
 ·rw[decide_eq_false (p:=Z 17=((0:Nat):Int)) (by omega),decide_eq_false (p:=Z 17≤6) (by omega)];cases decide (1≤Z 17)<;>rfl
 ·rw[decide_eq_false (p:=Z 18=((0:Nat):Int)) (by omega),decide_eq_false (p:=0≤Z 18) (by omega)];cases decide (Z 17=((0:Nat):Int))<;>cases decide (1≤Z 17)<;>cases decide (Z 17≤6)<;>cases decide (Z 17=5∨Z 17=6)<;>rfl
 ·rw[decide_eq_false (p:=Z 18=((0:Nat):Int)) (by omega),decide_eq_false (p:=Z 18<16) (by omega)];cases decide (Z 17=((0:Nat):Int))<;>cases decide (1≤Z 17)<;>cases decide (Z 17≤6)<;>cases decide (Z 17=5∨Z 17=6)<;>cases decide (0≤Z 18)<;>rfl
 ·rw[decide_eq_true (p:=Z 17=((0:Nat):Int)) (by omega)];rfl
 ·have h6:=of_decide_eq_false (by simpa using h6:decide (Z 17<((5:Nat):Int))=false);rw[decide_eq_false (p:=Z 17=((0:Nat):Int)) (by omega),decide_eq_true (p:=1≤Z 17) (by omega),decide_eq_true (p:=Z 17≤6) (by omega),decide_eq_true (p:=Z 17=5∨Z 17=6) (by omega),decide_eq_true (p:=Z 18=((0:Nat):Int)) h];rfl
 ·have h6:=of_decide_eq_false (by simpa using h6:decide (Z 17<((5:Nat):Int))=false);have h:=of_decide_eq_false h;rw[decide_eq_false (p:=Z 17=((0:Nat):Int)) (by omega),decide_eq_true (p:=1≤Z 17) (by omega),decide_eq_true (p:=Z 17≤6) (by omega),decide_eq_true (p:=Z 17=5∨Z 17=6) (by omega),decide_eq_false (p:=Z 18=((0:Nat):Int)) h];rfl
 ·have h6:=of_decide_eq_true (by simpa using h6:decide (Z 17<((5:Nat):Int))=true);have hwt:qIY (Z 18)=true:=by rw[hw,decide_eq_true (p:=0≤Z 18) (by omega),decide_eq_true (p:=Z 18<16) (by omega)];rfl
  refine qVE hwt (okB ?_);rw[decide_eq_false (p:=Z 17=((0:Nat):Int)) (by omega),decide_eq_true (p:=1≤Z 17) (by omega),decide_eq_true (p:=Z 17≤6) (by omega),decide_eq_false (p:=Z 17=5∨Z 17=6) (by omega),decide_eq_true (p:=0≤Z 18) (by omega),decide_eq_true (p:=Z 18<16) (by omega)];rfl
end Go.Proofs.YtiafochainjglaaGreatDoor.cd6
end
end
section
open Go Go.Ax Go.Proofs
namespace Go.Proofs.YtiafochainjglaaGreatDoor.cd8
set_option linter.unusedVariables false
noncomputable def fnsN:List (Nat×Func):=[(235,Tryz.f235),(172,Tryz.f172),(261,Tryz.f261),(134,Tryz.f134),(177,Tryz.f177),(178,Tryz.f178)]
noncomputable def EN:Env:=envEx Tryz.prog [0,3,4,5,24,176,194,195,196,284,308,309] fnsN []
def fl0:Fl:=⟨[],[],[],[]⟩
noncomputable def flN:List (Nat×Fl):=[(235,⟨[18,23],[9,13],[],[]⟩),(261,⟨[12,19,28,30,38,41,46,48,4095],[],[],[]⟩),(134,⟨[28,30],[9,16],[],[]⟩),(178,⟨[9,19,21,29,31,36,38,4095],[],[],[]⟩)]
noncomputable abbrev qQq (a:Nat):=AV.int .u64 (qAH .u64 (.ofNat a))
noncomputable abbrev qHy (a b:Nat):=qAD EN BinOp.or 24 (Operand.tmp 20) (Operand.tmp 22) (AV.int .u64 (qDO .u64 (.ofNat a) 8)) (qQq b)
noncomputable abbrev qEl (a:Nat):=AV.int .u64 (.ofNat a)
noncomputable abbrev qGi (a:Nat):=AV.int .i64 (.ofNat a)
noncomputable abbrev qFq (a b c:Nat):=qAQ EN 5 (AV.ptr (some (a,b+c)))
noncomputable abbrev qFp (a:Nat):=AV.int .u8 (.ofNat a)
noncomputable abbrev qFN (a b c:Nat):=qAQ EN a (AV.ptr (some (b,c)))
noncomputable abbrev qFM (a b c:Nat):=AV.slice (some (a,b)) c (.rest 1)
noncomputable abbrev qQr (a b c d:Nat):=qAD EN BinOp.gtr 3 (Operand.tmp a) (Operand.tmp b) (qGi c) (qGi d)
theorem vcO8 (r W o n:Nat) (w b:Nat→Nat) (S S1:ASt) (Q:AV×ASt→Prop) :
 Vq ((TM EN qAa flN fl0 60).call 235 [.ptr (some (r,0)),.int .i64 (.ofNat 8)] S) Q (al (qFN 4 r 2) S (.bool true) (al (qFN 4 r 1) S (.bool false) (al (qFN 176 r 0) S (qFM W o n) (as_ S (qQr 24 29 8 n) (.bool false) (al (qFN 176 r 0) S (qFM W o n) (as_ S (qBV EN 176 (qFM W o n) none (some (qGi 8)) (some (qGi 8)) S) (.slice (some (W,o)) 8 (.known 8)) (al (qFN 176 r 0) S (qFM W o n) (as_ S (qBV EN 176 (qFM W o n) (some (qGi 8)) none none S) (.slice (some (W,o+8)) (n - 8) (.rest 1)) (aa (Option.map (fun s=>(qAC,s)) (qAL EN 176 (.ptr (some (r,0))) (.slice (some (W,o+8)) (n - 8) (.rest 1)) S)) (.tuple [],S1) (al (qFq W o 0) S1 (qFp (b 0)) (as_ S1 (qAD EN .or 24 (.tmp 20) (.tmp 22) (qEl 0) (qQq (b 0))) (qEl (w 1)) (al (qFq W o 1) S1 (qFp (b 1)) (as_ S1 (qHy (w 1) (b 1)) (qEl (w 2)) (al (qFq W o 2) S1 (qFp (b 2)) (as_ S1 (qHy (w 2) (b 2)) (qEl (w 3)) (al (qFq W o 3) S1 (qFp (b 3)) (as_ S1 (qHy (w 3) (b 3)) (qEl (w 4)) (al (qFq W o 4) S1 (qFp (b 4)) (as_ S1 (qHy (w 4) (b 4)) (qEl (w 5)) (al (qFq W o 5) S1 (qFp (b 5)) (as_ S1 (qHy (w 5) (b 5)) (qEl (w 6)) (al (qFq W o 6) S1 (qFp (b 6)) (as_ S1 (qHy (w 6) (b 6)) (qEl (w 7)) (al (qFq W o 7) S1 (qFp (b 7)) (as_ S1 (qHy (w 7) (b 7)) (qEl (w 8)) (aq (Q (.int .u64 (.ofNat (w 8)),S1)))))))))))))))))))))))))))):=vq (by kernel_rfl)
theorem vcO1 (r W o n:Nat) (w b:Nat→Nat) (S S1:ASt) (Q:AV×ASt→Prop) :
 Vq ((TM EN qAa flN fl0 60).call 235 [.ptr (some (r,0)),.int .i64 (.ofNat 1)] S) Q (al (qFN 4 r 2) S (.bool true) (al (qFN 4 r 1) S (.bool false) (al (qFN 176 r 0) S (qFM W o n) (as_ S (qQr 24 29 1 n) (.bool false) (al (qFN 176 r 0) S (qFM W o n) (as_ S (qBV EN 176 (qFM W o n) none (some (qGi 1)) (some (qGi 1)) S) (.slice (some (W,o)) 1 (.known 1)) (al (qFN 176 r 0) S (qFM W o n) (as_ S (qBV EN 176 (qFM W o n) (some (qGi 1)) none none S) (.slice (some (W,o+1)) (n - 1) (.rest 1)) (aa (Option.map (fun s=>(qAC,s)) (qAL EN 176 (.ptr (some (r,0))) (.slice (some (W,o+1)) (n - 1) (.rest 1)) S)) (.tuple [],S1) (al (qFq W o 0) S1 (qFp (b 0)) (as_ S1 (qAD EN .or 24 (.tmp 20) (.tmp 22) (qEl 0) (qQq (b 0))) (qEl (w 1)) (aq (Q (.int .u64 (.ofNat (w 1)),S1)))))))))))))):=vq (by kernel_rfl)
end Go.Proofs.YtiafochainjglaaGreatDoor.cd8
end
section
open Go Go.Ax Go.Proofs
namespace Go.Proofs.YtiafochainjglaaGreatDoor.cd8
open cd cd3
set_option linter.unusedVariables false
theorem ENok:Env.Ok Tryz.prog EN:=envEx_ok (xs:=[]) ⟨⟨Tryz.func235,Tryz.call235⟩,⟨Tryz.func172,Tryz.call172⟩,⟨Tryz.func261,Tryz.call261⟩,⟨Tryz.func134,Tryz.call134⟩,⟨Tryz.func177,Tryz.call177⟩,⟨Tryz.func178,Tryz.call178⟩,trivial⟩ trivial (by kernel_rfl)
section
variable {S:ASt} {x y:Operand}
theorem orN0 {b:Nat} (hb:b<256):still S (qAD EN .or 24 x y (.int .u64 (.ofNat 0)) (.int .u64 (qAH .u64 (.ofNat b))))=some (.int .u64 (.ofNat (0*256+b)),S):=by
 have e:qAD EN .or 24 x y (.int .u64 (.ofNat 0)) (.int .u64 (qAH .u64 (.ofNat b)))=some (.int .u64 (qAH .u64 (.ofNat (Nat.lor 0 (qB5 (qAH .u64 (.ofNat b)) 18446744073709551616))))):=by kernel_rfl
 rw[or0 hb] at e;rw[Nat.zero_mul,Nat.zero_add];exact qAF e
theorem qW3 {n b:Nat} (hn:n<72057594037927936) (hb:b<256):still S (qAD EN .or 24 x y (.int .u64 (qDO .u64 (.ofNat n) 8)) (.int .u64 (qAH .u64 (.ofNat b))))=some (.int .u64 (.ofNat (n*256+b)),S):=by
 have e:qAD EN .or 24 x y (.int .u64 (qDO .u64 (.ofNat n) 8)) (.int .u64 (qAH .u64 (.ofNat b)))=some (.int .u64 (qAH .u64 (.ofNat (Nat.lor (qB5 (qDO .u64 (.ofNat n) 8) 18446744073709551616) (qB5 (qAH .u64 (.ofNat b)) 18446744073709551616))))):=by kernel_rfl
 rw[or1 hn hb] at e;exact qAF e
theorem gtrN {k n:Nat} (h:k≤n):still S (qAD EN .gtr 3 x y (.int .i64 (.ofNat k)) (.int .i64 (.ofNat n)))=some (.bool false,S):=by
 have e:qAD EN .gtr 3 x y (.int .i64 (.ofNat k)) (.int .i64 (.ofNat n))=some (.bool (ltF (.ofNat n) (.ofNat k))):=by kernel_rfl
 rw[qBN,decide_eq_false (by omega)] at e;exact qAF e
theorem byN {B:List Nat} {W i:Nat} {rw:Bool} (hW:S.h.get W=some (.cells (bl B) rw)) (hi:i<256):qAQ EN 5 (.ptr (some (W,i))) S=some (.int .u8 (.ofNat (B.getD i 0)),S) :=
 qAZ (by kernel_rfl) hW (qLR hi)
theorem qYS {n c k:Nat} (h:k≤c):qBK n c none (some k) (some k)=some (0,k,k):=by
 show (bif Nat.ble k c then bif Nat.ble k k then bif Nat.ble 0 k then some (0,k,k) else none else none else none)=_;rw[qEC h,qEC (Nat.le_refl k),qEC (Nat.zero_le k)];rfl
theorem qYR {n c k:Nat} (h:k≤n):qBK n c (some k) none none=some (k,n,c):=by
 show (bif true then bif Nat.ble k n then some (k,n,c) else none else none)=_;rw[qEC h];rfl
theorem aB_hi {n c k:Nat} (h:k≤c):qBK n c none (some k) none=some (0,k,c):=by
 show (bif Nat.ble k c then bif true then some (0,k,c) else none else none)=_;rw[qEC h];rfl
def rO (W o n:Nat):AO:=.cells [.slice (some (W,o)) n (.rest 1),.bool false,.bool true] true
theorem slO1 {W o n k:Nat} {B:List Nat} {rw:Bool} (hW:S.h.get W=some (.cells (bl B) rw)) (hon:o+n≤256) (hk:k≤n):still S (qBV EN 176 (.slice (some (W,o)) n (.rest 1)) none (some (.int .i64 (.ofNat k))) (some (.int .i64 (.ofNat k))) S)=some (.slice (some (W,o)) k (.known k),S):=by
 refine qAF ?_;have e:qBV EN 176 (.slice (some (W,o)) n (.rest 1)) none (some (.int .i64 (.ofNat k))) (some (.int .i64 (.ofNat k))) S=(match qBK n (qCi S W o 1 n) none (some k) (some k) with
  | some (l,h,m)=>some (.slice (some (W,bif Nat.beq m l then o else o+l*1)) (h - l) (.known (m - l)))
  | none=>none):=by kernel_rfl
 have hr:n≤qCi S W o 1 n:=by unfold qCi;rw[hW];exact Nat.le_max_left _ _
 rw[e,qYS (by omega)];show some (AV.slice (some (W,bif Nat.beq k 0 then o else o+0*1)) (k - 0) (.known (k - 0)))=_;rw[Nat.zero_mul,Nat.add_zero,Nat.sub_zero];cases Nat.beq k 0<;>rfl
theorem slO2 {W o n k:Nat} {B:List Nat} {rw:Bool} (hW:S.h.get W=some (.cells (bl B) rw)) (hon:o+n≤256) (hk:k<n):still S (qBV EN 176 (.slice (some (W,o)) n (.rest 1)) (some (.int .i64 (.ofNat k))) none none S)=some (.slice (some (W,o+k)) (n - k) (.rest 1),S):=by
 refine qAF ?_;have e:qBV EN 176 (.slice (some (W,o)) n (.rest 1)) (some (.int .i64 (.ofNat k))) none none S=(match qBK n (qCi S W o 1 n) (some k) none none with
  | some (l,h,m)=>bif Nat.blt l (qCi S W o 1 n) then some (.slice (some (W,o+l*1)) (h - l) (.rest 1)) else bif Nat.beq l 0 then some (.slice (some (W,o)) 0 (.rest 1)) else some .slice0
  | none=>none):=by kernel_rfl
 have hr:n≤qCi S W o 1 n:=by unfold qCi;rw[hW];exact Nat.le_max_left _ _
 rw[e,qYR (by omega)];simp only[];rw[qFa (show k<qCi S W o 1 n by omega),Nat.mul_one];rfl
end
section
variable {S:ASt} {r W o n:Nat} {B:List Nat} {rw:Bool}
theorem q2R (hB:∀i,B.getD i 0<256) (hr:S.h.get r=some (rO W o n)) (hW:S.h.get W=some (.cells (bl B) rw)) (hne:W≠r) (hon:o+n≤256) (hk:8<n):qAE Tryz.prog 235 [.ptr (some (r,0)),.int .i64 (.ofNat 8)] S (.int .u64 (.ofNat (pn B o 8)),S.put r (rO W (o+8) (n - 8))):=by
 have hw:(S.put r (rO W (o+8) (n - 8))).h.get W=some (.cells (bl B) rw):=by rw[qA3 hne];exact hW
 have st:qAL EN 176 (.ptr (some (r,0))) (.slice (some (W,o+8)) (n - 8) (.rest 1)) S=some (S.put r (rO W (o+8) (n - 8))):=qBk (by kernel_rfl) hr (Nat.zero_lt_succ _) rfl;refine qAE.of_tm ENok qAB (Eq.mp (vcO8 r W o n (fun k=>pn B o k) (fun i=>B.getD (o+i) 0) S (S.put r (rO W (o+8) (n - 8))) (fun q=>q=(.int .u64 (.ofNat (pn B o 8)),S.put r (rO W (o+8) (n - 8))))) ⟨qAZ (by kernel_rfl) hr rfl,qAZ (by kernel_rfl) hr rfl,qAZ (by kernel_rfl) hr rfl,gtrN (by omega),qAZ (by kernel_rfl) hr rfl,slO1 hW hon (by omega),qAZ (by kernel_rfl) hr rfl,slO2 hW hon (by omega),qAz st,byN hw (by omega),(by rw[Nat.add_zero];exact (show _=some (AV.int .u64 (.ofNat (pn B o 1)),_) from orN0 (hB _))),byN hw (by omega),qW3 (by have:=qI2 hB o 1;omega) (hB _),byN hw (by omega),qW3 (by have:=qI2 hB o 2;omega) (hB _),byN hw (by omega),qW3 (by have:=qI2 hB o 3;omega) (hB _),byN hw (by omega),qW3 (by have:=qI2 hB o 4;omega) (hB _),byN hw (by omega),qW3 (by have:=qI2 hB o 5;omega) (hB _),byN hw (by omega),qW3 (by have:=qI2 hB o 6;omega) (hB _),byN hw (by omega),qW3 (by have:=qI2 hB o 7;omega) (hB _),rfl⟩)
theorem q2S (hB:∀i,B.getD i 0<256) (hr:S.h.get r=some (rO W o n)) (hW:S.h.get W=some (.cells (bl B) rw)) (hne:W≠r) (hon:o+n≤256) (hk:1<n):qAE Tryz.prog 235 [.ptr (some (r,0)),.int .i64 (.ofNat 1)] S (.int .u64 (.ofNat (pn B o 1)),S.put r (rO W (o+1) (n - 1))):=by
 have hw:(S.put r (rO W (o+1) (n - 1))).h.get W=some (.cells (bl B) rw):=by rw[qA3 hne];exact hW
 have st:qAL EN 176 (.ptr (some (r,0))) (.slice (some (W,o+1)) (n - 1) (.rest 1)) S=some (S.put r (rO W (o+1) (n - 1))):=qBk (by kernel_rfl) hr (Nat.zero_lt_succ _) rfl;refine qAE.of_tm ENok qAB (Eq.mp (vcO1 r W o n (fun k=>pn B o k) (fun i=>B.getD (o+i) 0) S (S.put r (rO W (o+1) (n - 1))) (fun q=>q=(.int .u64 (.ofNat (pn B o 1)),S.put r (rO W (o+1) (n - 1))))) ⟨qAZ (by kernel_rfl) hr rfl,qAZ (by kernel_rfl) hr rfl,qAZ (by kernel_rfl) hr rfl,gtrN (by omega),qAZ (by kernel_rfl) hr rfl,slO1 hW hon (by omega),qAZ (by kernel_rfl) hr rfl,slO2 hW hon (by omega),qAz st,byN hw (by omega),(by rw[Nat.add_zero];exact (show _=some (AV.int .u64 (.ofNat (pn B o 1)),_) from orN0 (hB _))),rfl⟩)
end
end Go.Proofs.YtiafochainjglaaGreatDoor.cd8
end
section
open Go Go.Ax Go.Proofs
namespace Go.Proofs.YtiafochainjglaaGreatDoor.cd7
set_option linter.unusedVariables false
noncomputable def fnsT:List (Nat×Func):=[(173,Tryz.f173),(200,Tryz.f200),(233,Tryz.f233),(234,Tryz.f234),(236,Tryz.f236),(261,Tryz.f261),(70,Tryz.f70),(135,Tryz.f135),(179,Tryz.f179)]
noncomputable def ET:Env:=envEx Tryz.prog [0,3,4,5,9,24,30,31,32,33,37,54,111,176,194,195,196,198,284,308,309] fnsT []
def fl0:Fl:=⟨[],[],[],[]⟩
noncomputable def flT:List (Nat×Fl):=[(200,⟨[17,23,27,35],[12,14,19],[27,30,35],[]⟩),(233,⟨[],[4],[],[]⟩),(234,⟨[],[7],[],[]⟩),(236,⟨[6,8,11,19,9,12],[],[],[]⟩),(70,⟨[13,24,26],[16],[26],[]⟩),(135,⟨[12,15,19,16,20,28,36],[32],[36],[]⟩)]
def tbO (l m:List Nat):AO:=.cells (l.map (fun x=>.int .u64 (.ofNat x))++m.map (fun x=>.int .i64 (.ofNat x))) true
noncomputable abbrev qBs (a b:Nat):List AV:=[.slice (some (4,a)) b (.rest 1),.bool false,.bool true]
noncomputable def qU2 (B:List Nat):ASt:=mkSt [(1,.cells (bl B) true),(2,tbO [0,0,0,0,0,0,0,0,0,0,0,0,0,0,0,0,0] [0,0]),(3,.cells [] true),(4,.cells (bl B) true),(5,.cells (qBs 4 252) true)] 13
noncomputable def qU1 (B:List Nat):ASt:=upS (qU2 B) [(5,.cells (qBs 12 244) true)] 13
noncomputable def qMl (B:List Nat):ASt:=upS (qU1 B) [(13,tbO [0,0,0,0,0,0,0,0,0,0,0,0,0,0,0,0,0] [0,0])] 14
noncomputable def qU0 (B:List Nat):ASt:=upS (qMl B) [(5,.cells (qBs 20 236) true)] 14
noncomputable def qOz (B:List Nat):ASt:=upS (qMl B) [(5,.cells (qBs 21 235) true)] 14
noncomputable def qOy (B:List Nat):ASt:=upS (qMl B) [(5,.cells (qBs 22 234) true)] 14
noncomputable def qUZ (w:Nat→Nat→Nat) (B:List Nat):ASt:=upS (qOy B) [(14,tbO [w 12 8,0,0,0,0,0,0,0,0,0,0,0,0,0,0,0,0] [w 20 1,w 21 1])] 15
noncomputable def qUY (w:Nat→Nat→Nat) (B:List Nat):ASt:=upS (qUZ w B) [(5,.cells (qBs 30 226) true)] 15
noncomputable def qUX (w:Nat→Nat→Nat) (B:List Nat):ASt:=upS (qUY w B) [(14,tbO [w 12 8,w 22 8,0,0,0,0,0,0,0,0,0,0,0,0,0,0,0] [w 20 1,w 21 1])] 15
noncomputable def qUW (w:Nat→Nat→Nat) (B:List Nat):ASt:=upS (qUX w B) [(5,.cells (qBs 38 218) true)] 15
noncomputable def qP3 (w:Nat→Nat→Nat) (B:List Nat):ASt:=upS (qUW w B) [(14,tbO [w 12 8,w 22 8,w 30 8,0,0,0,0,0,0,0,0,0,0,0,0,0,0] [w 20 1,w 21 1])] 15
noncomputable def qP2 (w:Nat→Nat→Nat) (B:List Nat):ASt:=upS (qP3 w B) [(5,.cells (qBs 46 210) true)] 15
noncomputable def qP1 (w:Nat→Nat→Nat) (B:List Nat):ASt:=upS (qP2 w B) [(14,tbO [w 12 8,w 22 8,w 30 8,w 38 8,0,0,0,0,0,0,0,0,0,0,0,0,0] [w 20 1,w 21 1])] 15
noncomputable def qP0 (w:Nat→Nat→Nat) (B:List Nat):ASt:=upS (qP1 w B) [(5,.cells (qBs 54 202) true)] 15
noncomputable def qPZ (w:Nat→Nat→Nat) (B:List Nat):ASt:=upS (qP0 w B) [(14,tbO [w 12 8,w 22 8,w 30 8,w 38 8,w 46 8,0,0,0,0,0,0,0,0,0,0,0,0] [w 20 1,w 21 1])] 15
noncomputable def qPY (w:Nat→Nat→Nat) (B:List Nat):ASt:=upS (qPZ w B) [(5,.cells (qBs 62 194) true)] 15
noncomputable def qPX (w:Nat→Nat→Nat) (B:List Nat):ASt:=upS (qPY w B) [(14,tbO [w 12 8,w 22 8,w 30 8,w 38 8,w 46 8,w 54 8,0,0,0,0,0,0,0,0,0,0,0] [w 20 1,w 21 1])] 15
noncomputable def qPW (w:Nat→Nat→Nat) (B:List Nat):ASt:=upS (qPX w B) [(5,.cells (qBs 70 186) true)] 15
noncomputable def qPV (w:Nat→Nat→Nat) (B:List Nat):ASt:=upS (qPW w B) [(14,tbO [w 12 8,w 22 8,w 30 8,w 38 8,w 46 8,w 54 8,w 62 8,0,0,0,0,0,0,0,0,0,0] [w 20 1,w 21 1])] 15
noncomputable def qPU (w:Nat→Nat→Nat) (B:List Nat):ASt:=upS (qPV w B) [(5,.cells (qBs 78 178) true)] 15
noncomputable def qPT (w:Nat→Nat→Nat) (B:List Nat):ASt:=upS (qPU w B) [(14,tbO [w 12 8,w 22 8,w 30 8,w 38 8,w 46 8,w 54 8,w 62 8,w 70 8,0,0,0,0,0,0,0,0,0] [w 20 1,w 21 1])] 15
noncomputable def qPS (w:Nat→Nat→Nat) (B:List Nat):ASt:=upS (qPT w B) [(5,.cells (qBs 86 170) true)] 15
noncomputable def qPR (w:Nat→Nat→Nat) (B:List Nat):ASt:=upS (qPS w B) [(14,tbO [w 12 8,w 22 8,w 30 8,w 38 8,w 46 8,w 54 8,w 62 8,w 70 8,w 78 8,0,0,0,0,0,0,0,0] [w 20 1,w 21 1])] 15
noncomputable def qPQ (w:Nat→Nat→Nat) (B:List Nat):ASt:=upS (qPR w B) [(5,.cells (qBs 94 162) true)] 15
noncomputable def qPP (w:Nat→Nat→Nat) (B:List Nat):ASt:=upS (qPQ w B) [(14,tbO [w 12 8,w 22 8,w 30 8,w 38 8,w 46 8,w 54 8,w 62 8,w 70 8,w 78 8,w 86 8,0,0,0,0,0,0,0] [w 20 1,w 21 1])] 15
noncomputable def qPO (w:Nat→Nat→Nat) (B:List Nat):ASt:=upS (qPP w B) [(5,.cells (qBs 102 154) true)] 15
noncomputable def qPN (w:Nat→Nat→Nat) (B:List Nat):ASt:=upS (qPO w B) [(14,tbO [w 12 8,w 22 8,w 30 8,w 38 8,w 46 8,w 54 8,w 62 8,w 70 8,w 78 8,w 86 8,w 94 8,0,0,0,0,0,0] [w 20 1,w 21 1])] 15
noncomputable def qPM (w:Nat→Nat→Nat) (B:List Nat):ASt:=upS (qPN w B) [(5,.cells (qBs 110 146) true)] 15
noncomputable def qPL (w:Nat→Nat→Nat) (B:List Nat):ASt:=upS (qPM w B) [(14,tbO [w 12 8,w 22 8,w 30 8,w 38 8,w 46 8,w 54 8,w 62 8,w 70 8,w 78 8,w 86 8,w 94 8,w 102 8,0,0,0,0,0] [w 20 1,w 21 1])] 15
noncomputable def qPK (w:Nat→Nat→Nat) (B:List Nat):ASt:=upS (qPL w B) [(5,.cells (qBs 118 138) true)] 15
noncomputable def qPJ (w:Nat→Nat→Nat) (B:List Nat):ASt:=upS (qPK w B) [(14,tbO [w 12 8,w 22 8,w 30 8,w 38 8,w 46 8,w 54 8,w 62 8,w 70 8,w 78 8,w 86 8,w 94 8,w 102 8,w 110 8,0,0,0,0] [w 20 1,w 21 1])] 15
noncomputable def qPI (w:Nat→Nat→Nat) (B:List Nat):ASt:=upS (qPJ w B) [(5,.cells (qBs 126 130) true)] 15
noncomputable def qPH (w:Nat→Nat→Nat) (B:List Nat):ASt:=upS (qPI w B) [(14,tbO [w 12 8,w 22 8,w 30 8,w 38 8,w 46 8,w 54 8,w 62 8,w 70 8,w 78 8,w 86 8,w 94 8,w 102 8,w 110 8,w 118 8,0,0,0] [w 20 1,w 21 1])] 15
noncomputable def qPG (w:Nat→Nat→Nat) (B:List Nat):ASt:=upS (qPH w B) [(5,.cells (qBs 134 122) true)] 15
noncomputable def qPF (w:Nat→Nat→Nat) (B:List Nat):ASt:=upS (qPG w B) [(14,tbO [w 12 8,w 22 8,w 30 8,w 38 8,w 46 8,w 54 8,w 62 8,w 70 8,w 78 8,w 86 8,w 94 8,w 102 8,w 110 8,w 118 8,w 126 8,0,0] [w 20 1,w 21 1])] 15
noncomputable def qPE (w:Nat→Nat→Nat) (B:List Nat):ASt:=upS (qPF w B) [(5,.cells (qBs 142 114) true)] 15
noncomputable def qPD (w:Nat→Nat→Nat) (B:List Nat):ASt:=upS (qPE w B) [(14,tbO [w 12 8,w 22 8,w 30 8,w 38 8,w 46 8,w 54 8,w 62 8,w 70 8,w 78 8,w 86 8,w 94 8,w 102 8,w 110 8,w 118 8,w 126 8,w 134 8,0] [w 20 1,w 21 1])] 15
noncomputable def qPC (w:Nat→Nat→Nat) (B:List Nat):ASt:=upS (qPD w B) [(5,.cells (qBs 150 106) true)] 15
noncomputable def qPB (w:Nat→Nat→Nat) (B:List Nat):ASt:=upS (qPC w B) [(13,tbO [w 12 8,w 22 8,w 30 8,w 38 8,w 46 8,w 54 8,w 62 8,w 70 8,w 78 8,w 86 8,w 94 8,w 102 8,w 110 8,w 118 8,w 126 8,w 134 8,w 142 8] [w 20 1,w 21 1]),(14,tbO [w 12 8,w 22 8,w 30 8,w 38 8,w 46 8,w 54 8,w 62 8,w 70 8,w 78 8,w 86 8,w 94 8,w 102 8,w 110 8,w 118 8,w 126 8,w 134 8,w 142 8] [w 20 1,w 21 1]),(15,tbO [w 12 8,w 22 8,w 30 8,w 38 8,w 46 8,w 54 8,w 62 8,w 70 8,w 78 8,w 86 8,w 94 8,w 102 8,w 110 8,w 118 8,w 126 8,w 134 8,w 142 8] [w 20 1,w 21 1])] 16
noncomputable def qPA (w:Nat→Nat→Nat) (B C:List Nat):ASt:=upS (qPB w B) [(16,.cells (bl C) true)] 17
noncomputable def qJT:ASt:=mkSt [] 17
noncomputable abbrev qVB (a:Nat→Nat→Nat):List AV:=[.int .u64 (.ofNat (a 12 8)),.int .u64 (.ofNat (a 22 8)),.int .u64 (.ofNat (a 30 8)),.int .u64 (.ofNat (a 38 8)),.int .u64 (.ofNat (a 46 8)),.int .u64 (.ofNat (a 54 8)),.int .u64 (.ofNat (a 62 8)),.int .u64 (.ofNat (a 70 8)),.int .u64 (.ofNat (a 78 8)),.int .u64 (.ofNat (a 86 8)),.int .u64 (.ofNat (a 94 8)),.int .u64 (.ofNat (a 102 8)),.int .u64 (.ofNat (a 110 8)),.int .u64 (.ofNat (a 118 8)),.int .u64 (.ofNat (a 126 8)),.int .u64 (.ofNat (a 134 8)),.int .u64 (.ofNat (a 142 8)),.int .i64 (.ofNat (a 20 1)),.int .i64 (.ofNat (a 21 1))]
noncomputable abbrev qZl:List AV:=[.int .u64 (.ofNat 0),.int .u64 (.ofNat 0),.int .u64 (.ofNat 0),.int .u64 (.ofNat 0),.int .u64 (.ofNat 0),.int .u64 (.ofNat 0),.int .u64 (.ofNat 0),.int .u64 (.ofNat 0),.int .u64 (.ofNat 0),.int .u64 (.ofNat 0),.int .u64 (.ofNat 0),.int .u64 (.ofNat 0),.int .u64 (.ofNat 0),.int .u64 (.ofNat 0),.int .u64 (.ofNat 0),.int .u64 (.ofNat 0),.int .u64 (.ofNat 0),.int .i64 (.ofNat 0),.int .i64 (.ofNat 0)]
noncomputable abbrev qCF (a b:Nat):List AV:=[.ptr (some (a,0)),.int .i64 (.ofNat b)]
noncomputable abbrev qBt (a:CallT) (b:Nat):=M ET (drawA ET) (qA0 [235,61,134,96,49] a) b
noncomputable abbrev qQs:List AV:=[.agg qZl,.int .u64 (.ofNat 0),.int .i64 (.ofNat 4)]
theorem vcO (q:CallT) (w:Nat→Nat→Nat) (e:Int) (m d:Bool) (B C:List Nat) (Q:AV×ASt→Prop) :
 Vq ((TM ET (qA0 [235,61,134,96,49] q) flT fl0 60).call 200 [.agg (bl B)] (mkSt [] 1)) (fun r=>Q (r.1,qG7 [] r.2)) (aa ((qBt q 55).call 235 (qCF 5 8) (qU2 B)) (.int .u64 (.ofNat (w 4 8)),qU1 B) (ah (qAh [(some (.str [List.getD B 0 0 % 256,List.getD B 1 0 % 256,List.getD B 2 0 % 256,List.getD B 3 0 % 256]),.str [List.getD B 0 0 % 256,List.getD B 1 0 % 256,List.getD B 2 0 % 256,List.getD B 3 0 % 256])]) (aa ((qBt q 50).call 235 (qCF 5 8) (qMl B)) (.int .u64 (.ofNat (w 12 8)),qU0 B) (aa ((qBt q 50).call 235 (qCF 5 1) (qU0 B)) (.int .u64 (.ofNat (w 20 1)),qOz B) (al (qA5 ET 24 31 (.int .u64 (.ofNat (w 20 1)))) (qOz B) (.int .i64 (.ofNat (w 20 1))) (aa ((qBt q 50).call 235 (qCF 5 1) (qOz B)) (.int .u64 (.ofNat (w 21 1)),qOy B) (al (qA5 ET 24 3 (.int .u64 (.ofNat (w 21 1)))) (qOy B) (.int .i64 (.ofNat (w 21 1))) (aa ((qBt q 41).call 235 (qCF 5 8) (qUZ w B)) (.int .u64 (.ofNat (w 22 8)),qUY w B) (aa ((qBt q 41).call 235 (qCF 5 8) (qUX w B)) (.int .u64 (.ofNat (w 30 8)),qUW w B) (aa ((qBt q 41).call 235 (qCF 5 8) (qP3 w B)) (.int .u64 (.ofNat (w 38 8)),qP2 w B) (aa ((qBt q 41).call 235 (qCF 5 8) (qP1 w B)) (.int .u64 (.ofNat (w 46 8)),qP0 w B) (aa ((qBt q 41).call 235 (qCF 5 8) (qPZ w B)) (.int .u64 (.ofNat (w 54 8)),qPY w B) (aa ((qBt q 41).call 235 (qCF 5 8) (qPX w B)) (.int .u64 (.ofNat (w 62 8)),qPW w B) (aa ((qBt q 41).call 235 (qCF 5 8) (qPV w B)) (.int .u64 (.ofNat (w 70 8)),qPU w B) (aa ((qBt q 41).call 235 (qCF 5 8) (qPT w B)) (.int .u64 (.ofNat (w 78 8)),qPS w B) (aa ((qBt q 41).call 235 (qCF 5 8) (qPR w B)) (.int .u64 (.ofNat (w 86 8)),qPQ w B) (aa ((qBt q 41).call 235 (qCF 5 8) (qPP w B)) (.int .u64 (.ofNat (w 94 8)),qPO w B) (aa ((qBt q 41).call 235 (qCF 5 8) (qPN w B)) (.int .u64 (.ofNat (w 102 8)),qPM w B) (aa ((qBt q 41).call 235 (qCF 5 8) (qPL w B)) (.int .u64 (.ofNat (w 110 8)),qPK w B) (aa ((qBt q 41).call 235 (qCF 5 8) (qPJ w B)) (.int .u64 (.ofNat (w 118 8)),qPI w B) (aa ((qBt q 41).call 235 (qCF 5 8) (qPH w B)) (.int .u64 (.ofNat (w 126 8)),qPG w B) (aa ((qBt q 41).call 235 (qCF 5 8) (qPF w B)) (.int .u64 (.ofNat (w 134 8)),qPE w B) (aa ((qBt q 41).call 235 (qCF 5 8) (qPD w B)) (.int .u64 (.ofNat (w 142 8)),qPC w B) (al ((qBt q 52).call 61 [.agg (qVB w),.int .u64 (.ofNat (w 4 8))]) (qPB w B) (.tuple [.agg (bl C),.int .i64 e]) (as_ (qPA w B C) (qAD ET .neq 9 (.tmp 26) (.const (.string (ByteArray.mk #[71,69,82,86]))) (.str [List.getD B 0 0 % 256,List.getD B 1 0 % 256,List.getD B 2 0 % 256,List.getD B 3 0 % 256]) (.str [71,69,82,86])) (.bool m) (ai m (aq (Q (.tuple qQs,qJT))) (ai (!eqF e (.ofNat 0)) (aq (Q (.tuple qQs,qJT))) (as_ (qPA w B C) (qAD ET .neq 54 (.tmp 33) (.tmp 34) (.agg (bl C)) (.agg (bl B))) (.bool d) (ai d (aq (Q (.tuple qQs,qJT))) (aq (Q (.tuple [.agg (qVB w),.int .u64 (.ofNat (w 4 8)),.int .i64 (.ofNat 0)],qJT)))))))))))))))))))))))))))))))):=vq (by kernel_rfl)
end Go.Proofs.YtiafochainjglaaGreatDoor.cd7
end
section
open Go Go.Ax Go.Proofs
namespace Go.Proofs.YtiafochainjglaaGreatDoor.cd9
open cd cd2 cd3 cd4 cd7 cd8
set_option linter.unusedVariables false
noncomputable def qCd (k:Nat) (ar:List AV) (v:AV):CallT:=fun f args st=>open Classical in if f=k∧args=ar then some (v,st) else none
theorem qAi {k:Nat} {ar:List AV} {v:AV} (h:∀S,qAE Tryz.prog k ar S (v,S)):CallsOK Tryz.prog (qCd k ar v):=fun B w0 f args st r hr ι w args' hsr hv=>by
 unfold qCd at hr
 split at hr
 ·rename_i hh;obtain⟨rfl,rfl⟩:=hh;simp only[qz1] at hr;subst hr;exact h st B w0 ι w args' hsr hv
 ·cases hr
theorem qAc (k:Nat) (ar:List AV) (v:AV) (S:ASt):qCd k ar v k ar S=some (v,S):=by unfold qCd;simp
theorem qA8 {k f:Nat} {ar args:List AV} {v:AV} {S:ASt} (h:f≠k):qCd k ar v f args S=none:=by unfold qCd;simp[h]
noncomputable def qUh (B:List Nat):CallT:=fun f args st=>open Classical in match args with
 | [.ptr (some (r,0)),.int .i64 (.ofNat k)]=>(match st.h.get r with
  | some (.cells [.slice (some (W,o)) n (.rest 1),.bool false,.bool true] true)=>if f=235∧(k=8∨k=1)∧W≠r∧o+n≤256∧k<n∧st.h.get W=some (.cells (bl B) true) then some (.int .u64 (.ofNat (pn B o k)),st.put r (rO W (o+k) (n - k))) else none
  | _=>none)
 | _=>none
theorem qWW {B:List Nat} (hB:∀i,B.getD i 0<256):CallsOK Tryz.prog (qUh B):=fun B0 w0 f args st r hr ι w args' hsr hv=>by
 unfold qUh at hr
 split at hr
 ·rename_i r0 k
  split at hr
  ·rename_i W o n hg
   split at hr
   ·rename_i hh;obtain⟨rfl,hk,h1,h2,h3,h4⟩:=hh;simp only[qz1] at hr;subst hr;rcases hk with rfl | rfl
    ·exact q2R hB hg h4 h1 h2 h3 B0 w0 ι w args' hsr hv
    ·exact q2S hB hg h4 h1 h2 h3 B0 w0 ι w args' hsr hv
   ·cases hr
  ·cases hr
 ·cases hr
theorem qCE {B:List Nat} {S S':ASt} {r W o n k:Nat} (hB:∀i,B.getD i 0<256) (hk:k=8∨k=1) (hr:S.h.get r=some (rO W o n)) (hW:S.h.get W=some (.cells (bl B) true)) (hne:W≠r) (hon:o+n≤256) (hkn:k<n) (he:S.put r (rO W (o+k) (n - k))=S'):qUh B 235 [.ptr (some (r,0)),.int .i64 (.ofNat k)] S=some (.int .u64 (.ofNat (pn B o k)),S'):=by
 unfold qUh;simp only[hr,rO];rw[if_pos ⟨rfl,hk,hne,hon,hkn,hW⟩,←he];rfl
theorem qWX {B:List Nat} {f:Nat} {args:List AV} {S:ASt} (h:f≠235):qUh B f args S=none:=by
 unfold qUh;split
 ·split
  ·simp[h]
  ·rfl
 ·rfl
def zOf (g t h:Nat) (ys:Nat→Nat) (k:Nat):Int:=if k=0 then .ofNat g else if k=17 then .ofNat t else if k=18 then .ofNat h else .ofNat (ys (k - 1))
def qLu (g t h:Nat) (ys:Nat→Nat):Bool:=cd6.qNO (cd6.tL (zOf g t h ys))
theorem qUe (g t h:Nat) (ys:Nat→Nat) (S:ASt):qAE Tryz.prog 77 [qKg g t h ys] S (.bool (qLu g t h ys),S) :=
 qAE.pureN (n:=0) (cd6.at50 (zOf g t h ys)) (by simp[qAP]) (fun x hx=>by rw[List.mem_singleton.1 hx];exact qKf ..)
def qQE (X:List Nat→Nat) (n g t h:Nat) (ys:Nat→Nat):List Nat:=hd8 (qHK n g t h ys)++be8 (X (hd8 (qHK n g t h ys)))
theorem qK3 {q:CallT} {X:List Nat→Nat} (hS:Shorts q X) {A v:AV} (h:∀S,qAE Tryz.prog 77 [A] S (v,S)):Shorts (orC (qCd 77 [A] v) q) X :=
 ⟨orC_ok (qAi h) hS.ok,hS.lt,fun h1 h2 h3 h4=>qAW (qA8 (by decide)) (hS.own h1 h2 h3 h4),fun h1 h2 h3 h4=>qAW (qA8 (by decide)) (hS.ref h1 h2 h3 h4)⟩
section
variable {q:CallT} {X:List Nat→Nat}
theorem qO5 (hS:Shorts q X) {n g t h:Nat} {ys:Nat→Nat} (U:UK n g t h ys) (hm:qLu g t h ys=true) (S:ASt):qAE Tryz.prog 61 [qKg g t h ys,.int .u64 (.ofNat n)] S (.tuple [.agg (bl (qQE X n g t h ys)),.int .i64 (.ofNat 0)],S) :=
 atKB (qK3 hS (fun S=>by have:=qUe g t h ys S;rw[hm] at this;exact this)) U (fun S=>qAo (qAc ..)) S
theorem q2z (hS:Shorts q X) {n g t h:Nat} {ys:Nat→Nat} (U:UK n g t h ys) (hm:qLu g t h ys=false) (S:ASt):qAE Tryz.prog 61 [qKg g t h ys,.int .u64 (.ofNat n)] S (.tuple [.agg (bl []),.int .i64 (.ofNat 2)],S):=by
 have hS':=qK3 hS (fun S=>by have:=qUe g t h ys S;rw[hm] at this;exact this);have hh:qAf Tryz.prog 61 [qKg g t h ys,.int .u64 (.ofNat n)] (mkSt [] 1) (.tuple [.agg (bl []),.int .i64 (.ofNat 2)]) :=
  qAf.of_tm EDok (qAG hS'.ok) (Eq.mp (vcKN (orC (qCd 77 [qKg g t h ys] (.bool false)) q) (.ofNat g) (.ofNat t) (.ofNat h) (.ofNat n) 0 (fun i=>.ofNat (ys i)) (fun r=>r.1=.tuple [.agg (bl []),.int .i64 (.ofNat 2)])) ⟨ca (qAo (qAc ..)),congrArg (fun x=>AV.tuple [AV.agg x,.int .i64 (.ofNat 2)]) (by kernel_rfl)⟩)
 exact qAE.pureN hh (qYW (blP _) (by simp[qAP])) (fun x hx=>by
  simp only[List.mem_cons,List.not_mem_nil,or_false] at hx;rcases hx with rfl | rfl
  ·exact qKf ..
  ·simp[qAP])
def rY (B:List Nat) (i:Nat):Nat:=pn B (22+8*i) 8
def qHA (B:List Nat):AV:=qKg (pn B 12 8) (pn B 20 1) (pn B 21 1) (rY B)
def res0:AV:=qKg 0 0 0 (fun _=>0)
def qUf (X:List Nat→Nat) (B:List Nat):List Nat:=qQE X (pn B 4 8) (pn B 12 8) (pn B 20 1) (pn B 21 1) (rY B)
def qI1 (B:List Nat):Bool:=qLu (pn B 12 8) (pn B 20 1) (pn B 21 1) (rY B)
def qFV (X:List Nat→Nat) (B:List Nat):Bool:=qI1 B && decide (blV (qUf X B)=blV B)
theorem resU {B:List Nat} (hB:∀i,B.getD i 0<256):UK (pn B 4 8) (pn B 12 8) (pn B 20 1) (pn B 21 1) (rY B) :=
 ⟨p8 hB 4,p8 hB 12,by rw[pn1];exact hB 20,by rw[pn1];exact hB 21,fun i=>p8 hB _⟩
theorem qWT (X:List Nat→Nat) (B:List Nat):(qUf X B).getD 0 0=71∧(qUf X B).getD 1 0=69∧(qUf X B).getD 2 0=82∧(qUf X B).getD 3 0=86:=⟨rfl,rfl,rfl,rfl⟩
theorem qNu {a b:List Nat} (h:blV a=blV b) {i:Nat} (hi:i<256):a.getD i 0=b.getD i 0:=by
 have:=congrArg (fun l=>l[i]?) h;unfold blV at this;simpa [hi] using this
theorem cvT {b:Nat} (hb:b<256) (S:ASt):qA5 ET 24 31 (.int .u64 (.ofNat b)) S=some (.int .i64 (.ofNat b),S):=by
 have e:qA5 ET 24 31 (.int .u64 (.ofNat b)) S=some (.int .i64 (qAH .i64 (.ofNat b)),S):=by kernel_rfl
 rw[qBW (by omega)] at e;exact e
theorem cvT3 {b:Nat} (hb:b<256) (S:ASt):qA5 ET 24 3 (.int .u64 (.ofNat b)) S=some (.int .i64 (.ofNat b),S):=by
 have e:qA5 ET 24 3 (.int .u64 (.ofNat b)) S=some (.int .i64 (qAH .i64 (.ofNat b)),S):=by kernel_rfl
 rw[qBW (by omega)] at e;exact e
theorem qS1:Env.Ok Tryz.prog ET:=envEx_ok (xs:=[]) ⟨⟨Tryz.func173,Tryz.call173⟩,⟨Tryz.func200,Tryz.call200⟩,⟨Tryz.func233,Tryz.call233⟩,⟨Tryz.func234,Tryz.call234⟩,⟨Tryz.func236,Tryz.call236⟩,⟨Tryz.func261,Tryz.call261⟩,⟨Tryz.func70,Tryz.call70⟩,⟨Tryz.func135,Tryz.call135⟩,⟨Tryz.func179,Tryz.call179⟩,trivial⟩ trivial (by kernel_rfl)
theorem neqT {S:ASt} {x y:Operand} (C B:List Nat):still S (qAD ET .neq 54 x y (.agg (bl C)) (.agg (bl B)))=some (.bool (!decide (blV C=blV B)),S):=by
 have e:qAD ET .neq 54 x y (.agg (bl C)) (.agg (bl B))=(match qLL (fun _ x y=>qMb (.int .u8) x y) 5 256 (bl C) (bl B) with | some r=>some (.bool (!r)) | none=>none):=by kernel_rfl
 have h:=qVQ (blV C) (blV B) (by rw[qIS,qIS]);rw[←qY9,←qY9,qIS] at h;rw[h] at e;exact qAF e
def mark (B:List Nat):Bool:=lEq [B.getD 0 0 % 256,B.getD 1 0 % 256,B.getD 2 0 % 256,B.getD 3 0 % 256] [71,69,82,86]
theorem qWk {X:List Nat→Nat} {B:List Nat} (h:qFV X B=true):mark B=true:=by
 unfold qFV at h;rw[Bool.and_eq_true,decide_eq_true_eq] at h;obtain⟨h0,h1,h2,h3⟩:=qWT X B;unfold mark;rw[←qNu h.2 (i:=0) (by decide),←qNu h.2 (i:=1) (by decide),←qNu h.2 (i:=2) (by decide),←qNu h.2 (i:=3) (by decide),h0,h1,h2,h3];rfl
def qNJ (X:List Nat→Nat) (B:List Nat):AV:=if qFV X B=true then .tuple [qHA B,.int .u64 (.ofNat (pn B 4 8)),.int .i64 (.ofNat 0)] else .tuple [res0,.int .u64 (.ofNat 0),.int .i64 (.ofNat 4)]
theorem tup3 {a b c:AV} (ha:qAP 0 a) (hb:qAP 0 b) (hc:qAP 0 c):qAP 0 (.tuple [a,b,c]):=by
 simp only[qAP];intro x hx;simp only[List.mem_cons,List.not_mem_nil,or_false] at hx;rcases hx with rfl | rfl | rfl<;>assumption
theorem qZU (X:List Nat→Nat) (B:List Nat):qAP 0 (qNJ X B):=by
 unfold qNJ;split
 ·exact tup3 (qKf ..) (by simp[qAP]) (by simp[qAP])
 ·exact tup3 (qKf ..) (by simp[qAP]) (by simp[qAP])
theorem ofKO (hS:Shorts q X) {B:List Nat} (hB:∀i,B.getD i 0<256) (S:ASt):qAE Tryz.prog 200 [.agg (bl B)] S (qNJ X B,S):=by
 have hb20:pn B 20 1<256:=by rw[pn1];exact hB 20
 have hb21:pn B 21 1<256:=by rw[pn1];exact hB 21
 obtain⟨C,hC⟩:∃C,C=if qI1 B=true then qUf X B else []:=⟨_,rfl⟩;obtain⟨e,he⟩:∃e:Int,e=if qI1 B=true then .ofNat 0 else .ofNat 2:=⟨_,rfl⟩;have hblk:∀S,qAE Tryz.prog 61 [qHA B,.int .u64 (.ofNat (pn B 4 8))] S (.tuple [.agg (bl C),.int .i64 e],S):=fun S=>by
  rw[hC,he];cases hm:qI1 B
  ·exact q2z hS (resU hB) hm S
  ·exact qO5 hS (resU hB) hm S
 have hq:CallsOK Tryz.prog (orC (qUh B) (qCd 61 [qHA B,.int .u64 (.ofNat (pn B 4 8))] (.tuple [.agg (bl C),.int .i64 e]))):=orC_ok (qWW hB) (qAi hblk);have hh:qAf Tryz.prog 200 [.agg (bl B)] (mkSt [] 1) (qNJ X B):=by
  refine qAf.of_tm qS1 (qAG hq) (Eq.mp (vcO (orC (qUh B) (qCd 61 [qHA B,.int .u64 (.ofNat (pn B 4 8))] (.tuple [.agg (bl C),.int .i64 e]))) (fun o k=>pn B o k) e (!mark B) (!decide (blV C=blV B)) B C (fun r=>r.1=qNJ X B)) ⟨ca (qAo (qCE (W:=4) (o:=4) (n:=252) hB (.inl rfl) (by kernel_rfl) (by kernel_rfl) (by decide) (by decide) (by decide) (by kernel_rfl))),qA1 rfl trivial,ca (qAo (qCE (W:=4) (o:=12) (n:=244) hB (.inl rfl) (by kernel_rfl) (by kernel_rfl) (by decide) (by decide) (by decide) (by kernel_rfl))),ca (qAo (qCE (W:=4) (o:=20) (n:=236) hB (.inr rfl) (by kernel_rfl) (by kernel_rfl) (by decide) (by decide) (by decide) (by kernel_rfl))),cvT hb20 _,ca (qAo (qCE (W:=4) (o:=21) (n:=235) hB (.inr rfl) (by kernel_rfl) (by kernel_rfl) (by decide) (by decide) (by decide) (by kernel_rfl))),cvT3 hb21 _,ca (qAo (qCE (W:=4) (o:=22) (n:=234) hB (.inl rfl) (by kernel_rfl) (by kernel_rfl) (by decide) (by decide) (by decide) (by kernel_rfl))),ca (qAo (qCE (W:=4) (o:=30) (n:=226) hB (.inl rfl) (by kernel_rfl) (by kernel_rfl) (by decide) (by decide) (by decide) (by kernel_rfl))),ca (qAo (qCE (W:=4) (o:=38) (n:=218) hB (.inl rfl) (by kernel_rfl) (by kernel_rfl) (by decide) (by decide) (by decide) (by kernel_rfl))),ca (qAo (qCE (W:=4) (o:=46) (n:=210) hB (.inl rfl) (by kernel_rfl) (by kernel_rfl) (by decide) (by decide) (by decide) (by kernel_rfl))),ca (qAo (qCE (W:=4) (o:=54) (n:=202) hB (.inl rfl) (by kernel_rfl) (by kernel_rfl) (by decide) (by decide) (by decide) (by kernel_rfl))),ca (qAo (qCE (W:=4) (o:=62) (n:=194) hB (.inl rfl) (by kernel_rfl) (by kernel_rfl) (by decide) (by decide) (by decide) (by kernel_rfl))),ca (qAo (qCE (W:=4) (o:=70) (n:=186) hB (.inl rfl) (by kernel_rfl) (by kernel_rfl) (by decide) (by decide) (by decide) (by kernel_rfl))),ca (qAo (qCE (W:=4) (o:=78) (n:=178) hB (.inl rfl) (by kernel_rfl) (by kernel_rfl) (by decide) (by decide) (by decide) (by kernel_rfl))),ca (qAo (qCE (W:=4) (o:=86) (n:=170) hB (.inl rfl) (by kernel_rfl) (by kernel_rfl) (by decide) (by decide) (by decide) (by kernel_rfl))),ca (qAo (qCE (W:=4) (o:=94) (n:=162) hB (.inl rfl) (by kernel_rfl) (by kernel_rfl) (by decide) (by decide) (by decide) (by kernel_rfl))),ca (qAo (qCE (W:=4) (o:=102) (n:=154) hB (.inl rfl) (by kernel_rfl) (by kernel_rfl) (by decide) (by decide) (by decide) (by kernel_rfl))),ca (qAo (qCE (W:=4) (o:=110) (n:=146) hB (.inl rfl) (by kernel_rfl) (by kernel_rfl) (by decide) (by decide) (by decide) (by kernel_rfl))),ca (qAo (qCE (W:=4) (o:=118) (n:=138) hB (.inl rfl) (by kernel_rfl) (by kernel_rfl) (by decide) (by decide) (by decide) (by kernel_rfl))),ca (qAo (qCE (W:=4) (o:=126) (n:=130) hB (.inl rfl) (by kernel_rfl) (by kernel_rfl) (by decide) (by decide) (by decide) (by kernel_rfl))),ca (qAo (qCE (W:=4) (o:=134) (n:=122) hB (.inl rfl) (by kernel_rfl) (by kernel_rfl) (by decide) (by decide) (by decide) (by kernel_rfl))),ca (qAo (qCE (W:=4) (o:=142) (n:=114) hB (.inl rfl) (by kernel_rfl) (by kernel_rfl) (by decide) (by decide) (by decide) (by kernel_rfl))),ca (qAW (qWX (by decide)) (qAc ..)),qAF (by kernel_rfl),?_⟩);refine qBF (fun hm=>?_) fun hm=>qBF (fun h0=>?_) fun h0=>⟨neqT C B,qBF (fun hd=>?_) fun hd=>?_⟩
  ·have:qFV X B=false:=by
    cases h:qFV X B
    ·rfl
    ·rw[qWk h] at hm;cases hm
   show _=qNJ X B;unfold qNJ;rw[if_neg (by rw[this];decide)];rfl
  ·have:qFV X B=false:=by
    cases h:qI1 B
    ·unfold qFV;rw[h];rfl
    ·rw[he,if_pos h] at h0;cases h0
   show _=qNJ X B;unfold qNJ;rw[if_neg (by rw[this];decide)];rfl
  ·have hmb:qI1 B=true:=by
    cases h:qI1 B
    ·rw[he,h] at h0;cases h0
    ·rfl
   have:qFV X B=false:=by
    unfold qFV;rw[hmb,Bool.true_and];rw[hC,if_pos hmb] at hd;simpa using hd
   show _=qNJ X B;unfold qNJ;rw[if_neg (by rw[this];decide)];rfl
  ·have hmb:qI1 B=true:=by
    cases h:qI1 B
    ·rw[he,h] at h0;cases h0
    ·rfl
   have:qFV X B=true:=by
    unfold qFV;rw[hmb,Bool.true_and];rw[hC,if_pos hmb] at hd;simpa using hd
   show _=qNJ X B;unfold qNJ;rw[if_pos this];rfl
 exact qAE.pureN hh (qZU _ _) (fun x hx=>by rw[List.mem_singleton.1 hx];exact blP _)
end
end Go.Proofs.YtiafochainjglaaGreatDoor.cd9
end
