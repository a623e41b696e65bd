/-
  OWN WORK, A PART: an abstract machine for the program's text that the kernel can run, and the proof that it is sound: what it answers is what the program answers; contracts of functions by it. No condition.
-/
import Derived.Test.YtiafochainjglaaGreatDoorWaB
import Derived.ScopeJumps
import Derived.RangeFuncNested
import Derived.RangeFuncRecord
import Derived.OrdersIn
section
namespace Go.Ax
noncomputable section
open Go.RowKit
def DR (ι:Ren):List Nat→List Deferred→Prop
 | [],[]=>True
 | i::is,d::ds=>(∃L,ι i=some L∧d={target:=.collected L.b,args:=#[]})∧DR ι is ds
 | _,_=>False
theorem DR.mono {ι κ:Ren} (hle:ι.le κ):∀{is:List Nat} {ds:List Deferred},DR ι is ds→DR κ is ds
 | [],[],_=>trivial
 | _::_,_::_,⟨⟨L,h1,h2⟩,h3⟩=>⟨⟨L,hle _ _ h1,h2⟩,DR.mono hle h3⟩
 | [],_::_,h=>h.elim
 | _::_,[],h=>h.elim
structure FRA (ι:Ren) (fr:AFr) (a:Act):Prop where
 hf:FR ι fr a.tmps
 hd:DR ι fr.defs a.defers
theorem FRA.mono {ι κ:Ren} (hle:ι.le κ) {fr:AFr} {a:Act} (h:FRA ι fr a):FRA κ fr a:=⟨h.hf.mono hle,h.hd.mono hle⟩
def qGw (B:Prot) (w0:World) (ι:Ren) (r:AV×ASt) (e:Ending) (w':World):Prop :=
 ∃v ι',e=.returned v∧ι.le ι'∧SR B w0 ι' r.2 w'∧VR ι' r.1 v
def qGH (P:Program) (B:Prot) (w0:World) (call:CallT):Prop :=
 ∀f args st r,call f args st=some r→∀ι w args',SR B w0 ι st w→VRs ι args args' →
  (callFunc f args').run P w=.ok (.enter f args') w∧CallsIn Fence.wide 0 P f args' w (qGw B w0 ι r)
def qEt (P:Program) (B:Prot) (w0:World) (round:CallT):Prop :=
 ∀l args st r,round l args st=some r→∀ι w args' L,SR B w0 ι st w→VRs ι args args'→ι l=some L →
  ∃fn tmps as bo,(Instr.yield L.b args').run P w=.ok (.round L.b fn tmps as bo) w∧RoundIn Fence.wide 0 P L.b fn tmps as bo w (qGw B w0 ι r)
def CallsOK (P:Program) (call:CallT):Prop:=∀B w0,qGH P B w0 call
def qHQ (P:Program) (round:CallT):Prop:=∀B w0,qEt P B w0 round
def FF:Option Nat→Fence
 | none=>Fence.wide
 | some l=>Fence.wide.inRound l
theorem qOg (ro:Option Nat) (f:FuncId):(FF ro).fn f:=by cases ro<;>trivial
theorem qHT (ro:Option Nat):(FF ro).depth.isSome=true→1≤0:=by cases ro<;>intro h<;>simp[FF,Fence.wide,Fence.inRound] at h
theorem qOC {ro:Option Nat} {P:Program} {f:FuncId} {args:Array Value} {w:World} {R:Ending→World→Prop} (h:CallsIn Fence.wide 0 P f args w R) :
 CallsIn (FF ro) 0 P f args w R:=by cases ro<;>exact h
theorem qST {ro:Option Nat} {P:Program} {l:Nat} {f:FuncId} {tmps:Array Value} {as bo:Code} {w:World} {R:Ending→World→Prop}
 (h:RoundIn Fence.wide 0 P l f tmps as bo w R):RoundIn (FF ro) 0 P l f tmps as bo w R:=by cases ro<;>exact h
section
variable {P:Program} {E:Env} {B:Prot} {w0:World} {ι:Ren} {st:ASt} {w:World} {fr:AFr} {a:Act}
theorem qEI (h:FR ι fr a.tmps) {x:Operand} {v:AV} (hv:evA fr x=some v):VR ι v (a.eval x):=by
 cases x with
 | tmp t=>simp only[evA,qz1] at hv;subst hv;exact h.2 t
 | const c=>exact qIf hv
 | global g =>
  simp only[evA] at hv;cases hg:glV g with
  | none=>rw[hg] at hv;cases hv
  | some cs=>rw[hg] at hv;simp only[qz1] at hv;subst hv;exact .gptr g 0
 | func f=>simp only[evA,qz1] at hv;subst hv;exact .clos f [] #[] rfl (fun i v v' h=>by simp at h)
theorem qLK (h:FR ι fr a.tmps):∀(l:List Operand) (vs:List AV),evL fr l=some vs→VRs ι vs (l.map a.eval).toArray
 | [],vs,hv=>by simp[evL] at hv;subst hv;exact⟨rfl,fun i v v' h=>by simp at h⟩
 | x::l,vs,hv=>by
  simp only[evL] at hv
  split at hv
  ·rename_i v hx
   split at hv
   ·rename_i vs' hl;simp only[qz1] at hv;subst hv;have ih:=qLK h l vs' hl;refine⟨by have:=ih.size;simp at this;simp[this],fun i y y' hy hy'=>?_⟩;cases i with
    | zero=>simp at hy hy';subst hy;subst hy';exact qEI h hx
    | succ i=>simp at hy hy';exact ih.at_ i y y' hy (by simpa using hy')
   ·simp at hv
  ·simp at hv
theorem qR1 (h:FR ι fr a.tmps) {x:Option Operand} {v:Option AV} (hv:evO fr x=some v):OVR ι v (x.map a.eval):=by
 cases x with
 | none=>simp[evO] at hv;subst hv;trivial
 | some x =>
  simp only[evO] at hv
  split at hv
  ·rename_i y hy;simp only[qz1] at hv;subst hv;exact qEI h hy
  ·simp at hv
theorem qNj (h:FR ι fr a.tmps):∀(l:List (Nat×Operand)) (vs:List (Nat×AV)),evP fr l=some vs →
  vs.map (·.1)=(l.map fun (i,x)=>(i,a.eval x)).map (·.1)∧∀(k:Nat) p p',vs[k]? = some p→(l.map fun (i,x)=>(i,a.eval x))[k]? = some p'→VR ι p.2 p'.2
 | [],vs,hv=>by simp[evP] at hv;subst hv;exact⟨rfl,fun k p p' h=>by simp at h⟩
 | (i,x)::l,vs,hv=>by
  simp only[evP] at hv
  split at hv
  ·rename_i v hx
   split at hv
   ·rename_i vs' hl;simp only[qz1] at hv;subst hv;obtain⟨h1,h2⟩:=qNj h l vs' hl;refine⟨by simpa using h1,fun k p p' hp hp'=>?_⟩;cases k with
    | zero=>simp at hp hp';subst hp;subst hp';exact qEI h hx
    | succ k=>simp only[List.map_cons,List.getElem?_cons_succ] at hp hp';exact h2 k p p' hp hp'
   ·simp at hv
  ·simp at hv
theorem qH9 (h:FRA ι fr a) {dst:Option Tmp} {v:AV} {v':Value} {fr':AFr} (hv:VR ι v v') (hp:fr.put dst v=some fr'):FRA ι fr' (a.put dst v'):=by
 obtain⟨m,n,ds⟩:=fr;obtain⟨⟨hs,hg⟩,hd⟩:=h;cases dst with
 | none=>simp only[AFr.put,qz1] at hp;subst hp;exact⟨⟨hs,hg⟩,hd⟩
 | some d =>
  simp only[AFr.put] at hp;cases hb:Nat.ble (Nat.succ d) n
  ·simp only[hb,cond_false,reduceCtorEq] at hp
  ·simp only[hb,cond_true,qz1] at hp;subst hp;have hlt:d<a.tmps.size:=by rw[hs];exact qCT hb
   refine⟨⟨by simpa [Act.put] using hs,fun t=>?_⟩,hd⟩;simp only[T.get_set,Act.put]
   by_cases ht:t=d
   ·subst ht;simp[hlt];exact hv
   ·have:¬d=t:=fun e=>ht e.symm;simp only[ht,if_false];have:=hg t;simp only[Array.getD_eq_getD_getElem?,Array.getElem?_setIfInBounds] at this ⊢;simp only[show ¬d=t from fun e=>ht e.symm,if_false];exact this
theorem qHU (h:FR ι fr a.tmps) (ops:Array Oper) (o:Oper) (hg:qBZ ops.toList fr o=false):Region.wanted o (yielded ops a.tmps)=qAt ops.toList fr o:=by
 unfold qBZ at hg;unfold Region.wanted qAt;cases hog:o.guard with
 | none=>rfl
 | some g =>
  obtain⟨j,want⟩:=g;simp only[yielded];have e:ops.toList[j]? = ops[j]?:=by simp
  rw[hog] at hg;simp only[e] at hg;rw[e];cases hoj:ops[j]? with
  | none=>simp
  | some oj =>
   rw[hoj] at hg;simp only at hg;simp only[Option.bind_some];cases hdj:oj.dst with
   | none=>simp
   | some d =>
    rw[hdj] at hg;simp only at hg;simp only[Option.bind_some];have hd:=h.2 d;cases ht:a.tmps[d]? with
    | none =>
     have e2:a.tmps.getD d undef=undef:=by simp[ht]
     rw[e2] at hd;generalize (fr.m.get d).getD qAC=x at hd hg;cases hd<;>simp at hg ⊢
    | some y =>
     have e2:a.tmps.getD d undef=y:=by simp[ht]
     rw[e2] at hd;generalize (fr.m.get d).getD qAC=x at hd hg;cases hd with
     | bool b=>cases b<;>cases want<;>rfl
     | any v=>simp at hg
     | _=>simp
def qGF (P:Program) (B:Prot) (w0:World) (ι:Ren) (w:World) (s:Sem Next) (r:AV×ASt):Prop :=
 (∃ι' v w',s.run P w=.ok (.value v) w'∧ι.le ι'∧SR B w0 ι' r.2 w'∧VR ι' r.1 v) ∨
 (∃w',s.run P w=.ok .skip w'∧SR B w0 ι r.2 w'∧r.1=qAC) ∨
 (∃f args,s.run P w=.ok (.enter f args) w∧CallsIn Fence.wide 0 P f args w (qGw B w0 ι r)) ∨
 (∃l fn tmps as bo,s.run P w=.ok (.round l fn tmps as bo) w∧RoundIn Fence.wide 0 P l fn tmps as bo w (qGw B w0 ι r))
theorem qGF.val (hsr:SR B w0 ι st w) {s:Sem Value} {x:Option AV} {r:AV×ASt} (hs:still st x=some r) (h:∀y,x=some y→∃v,s.run P w=.ok v w∧VR ι y v) :
  qGF P B w0 ι w (do pure (.value (←s))) r:=by
 cases x with
 | none=>simp[still] at hs
 | some y =>
  simp only[still,qz1] at hs;subst hs;obtain⟨v,h1,h2⟩:=h y rfl;exact .inl ⟨ι,v,w,by simp only[Sem.run_bind,h1,Result.andThen_ok,Sem.run_pure],ι.le_refl,hsr,h2⟩
theorem qGF.did {s:Sem Value} {r:AV×ASt} (h:Did P B w0 ι w s r):qGF P B w0 ι w (do pure (.value (←s))) r:=by
 obtain⟨ι',v,w',h1,h2,h3,h4⟩:=h;exact .inl ⟨ι',v,w',by simp only[Sem.run_bind,h1,Result.andThen_ok,Sem.run_pure],h2,h3,h4⟩
theorem qUQ (hE:E.Ok P) (hsr:SR B w0 ι st w) (hfr:FR ι fr a.tmps) {call round:CallT} (hc:qGH P B w0 call) (hr:qEt P B w0 round) {c:Call} {type:TypeId} {r:AV×ASt}
  (h:qLY E call round c fr st=some r):qGF P B w0 ι w (do let d ←resolve a.eval c type;invoke d.target d.args) r:=by
 simp only[qLY] at h
 split at h
 ·simp at h
 rename_i args hargs;have ha:VRs ι args (c.args.map a.eval):=by
  have:=qLK hfr c.args.toList args hargs;have e:(c.args.map a.eval)=(c.args.toList.map a.eval).toArray:=by
   apply Array.ext';simp
  rw[e];exact this
 split at h
 ·rename_i b hb;obtain⟨ι',v,w',h1,h2,h3,h4⟩:=qLZ (rT:=type) (cs:=c.args.map fun | .const _=>true | _=>false) hE hsr ha h;refine .inl ⟨ι',v,w',?_,h2,h3,h4⟩;simp only[resolve,hb,Sem.run_bind,Sem.run_pure,Result.andThen_ok,invoke];have e:c.argTypes=c.argTypes.toList.toArray:=by simp
  rw[e];exact h1
 ·rename_i f hf
  split at h
  ·rename_i g caps hg;have hfv:=qEI hfr hg;generalize hfe:a.eval f=fv at hfv;cases hfv with
   | clos _ _ cs' hs hv =>
    have hall:VRs ι (args++caps) (c.args.map a.eval++cs'):=ha.append ⟨hs,hv⟩;have e:∀w,(do let d ←resolve a.eval c type;invoke d.target d.args:Sem Next).run P w=(callFunc g (c.args.map a.eval++cs')).run P w:=fun w=>by
     simp only[resolve,hf,hfe,Deferred.ofValue,Sem.run_bind,Sem.run_pure,Result.andThen_ok,invoke,Array.empty_append]
    split at h
    ·rename_i x hx;cases hxv:x (args++caps) with
     | none=>rw[hxv] at h;simp[still] at h
     | some y =>
      rw[hxv] at h;simp only[still,qz1] at h;subst h;rcases hE.ex g x hx ι _ _ y w hsr.globw hxv hall.size hall.at_ with⟨v,h1,h2⟩ | ⟨h1,h2⟩
      ·exact .inl ⟨ι,v,w,by rw[e,h1],ι.le_refl,hsr,h2⟩
      ·exact .inr (.inr (.inl ⟨g,_,by rw[e,h1],h2.mono fun e w' ⟨x,he,hx,hk⟩=>⟨x,ι,he,ι.le_refl,hsr.later hk,hx⟩⟩))
    ·obtain⟨h1,h2⟩:=hc g _ _ _ h ι w _ hsr hall;exact .inr (.inr (.inl ⟨g,_,by rw[e,h1],h2⟩))
  ·rename_i g fs caps hg;have hfv:=qEI hfr hg;generalize hfe:a.eval f=fv at hfv;cases hfv with
   | bound _ _ _ fs' cs' hs hf' hv hvf =>
    have hall:VRs ι (fs++args++caps) (fs'++c.args.map a.eval++cs'):=((⟨hf',hvf⟩:VRs ι fs fs').append ha).append ⟨hs,hv⟩;have e:∀w,(do let d ←resolve a.eval c type;invoke d.target d.args:Sem Next).run P w=(callFunc g (fs'++c.args.map a.eval++cs')).run P w:=fun w=>by
     simp only[resolve,hf,hfe,Deferred.ofValue,Sem.run_bind,Sem.run_pure,Result.andThen_ok,invoke]
    obtain⟨h1,h2⟩:=hc g _ _ _ h ι w _ hsr hall;exact .inr (.inr (.inl ⟨g,_,by rw[e,h1],h2⟩))
  ·rename_i l hg;have hfv:=qEI hfr hg;generalize hfe:a.eval f=fv at hfv;cases hfv with
   | yield _ L hL =>
    obtain⟨fn,tmps,as,bo,h1,h2⟩:=hr l _ _ _ h ι w _ L hsr ha hL;refine .inr (.inr (.inr ⟨L.b,fn,tmps,as,bo,?_,h2⟩));simp only[resolve,hf,hfe,Deferred.ofValue,Sem.run_bind,Sem.run_pure,Result.andThen_ok,invoke,Array.empty_append,h1]
  ·simp at h
 ·simp at h
theorem q0j (hE:E.Ok P) (hsr:SR B w0 ι st w) (hfr:FR ι fr a.tmps) {call round:CallT} (hc:qGH P B w0 call) (hr:qEt P B w0 round) {o:Oper} {r:AV×ASt}
  (h:aOp E call round o fr st=some r):qGF P B w0 ι w (execOp a.eval o) r∧∀c,o.op≠.defer c:=by
 have hev:∀{x v},evA fr x=some v→VR ι v (a.eval x):=fun h=>qEI hfr h;unfold aOp at h
 split at h
 case h_1 x ho =>
  refine⟨?_,by simp[ho]⟩;cases hx:evA fr x with
  | none=>simp[hx,still] at h
  | some v =>
   simp only[hx,still,qz1] at h;subst h;exact .inl ⟨ι,a.eval x,w,by simp only[execOp,ho,Sem.run_pure],ι.le_refl,hsr,hev hx⟩
 case h_2 x ho =>
  refine⟨?_,by simp[ho]⟩;cases hx:evA fr x with
  | none=>simp[hx,still] at h
  | some v =>
   simp only[hx,still,qz1] at h;subst h;exact .inl ⟨ι,a.eval x,w,by simp only[execOp,ho,Sem.run_pure],ι.le_refl,hsr,hev hx⟩
 case h_3 c x y ho =>
  refine⟨?_,by simp[ho]⟩
  split at h
  ·rename_i t ht;have hcv:=hev ht;generalize hce:a.eval c=cv at hcv;cases hcv;have key:∀z,still st (evA fr z)=some r→(if t then a.eval x else a.eval y)=a.eval z→qGF P B w0 ι w (execOp a.eval o) r:=by
    intro z hz he;cases hx:evA fr z with
    | none=>simp[hx,still] at hz
    | some v =>
     simp only[hx,still,qz1] at hz;subst hz;exact .inl ⟨ι,a.eval z,w,by simp only[execOp,ho,hce,asBool,Sem.run_bind,Sem.run_pure,Result.andThen_ok,he],ι.le_refl,hsr,hev hx⟩
   cases t
   ·exact key y h rfl
   ·exact key x h rfl
  ·simp at h
 case h_4 t ho =>
  refine⟨?_,by simp[ho]⟩;have:=qGF.did (qSN hE hsr h);simpa only[execOp,ho] using this
 case h_5 t x ho =>
  refine⟨?_,by simp[ho]⟩
  split at h
  ·rename_i v hv;have:=qGF.did (qSM (P:=P) hsr t (hev hv) h);simpa only[execOp,ho] using this
  ·simp at h
 case h_6 t ps ho =>
  refine⟨?_,by simp[ho]⟩
  split at h
  ·rename_i l hl;obtain⟨h1,h2⟩:=qNj hfr ps.toList l hl;have:=qGF.val (P:=P) hsr h (s:=Instr.build t (ps.map fun (i,x)=>(i,a.eval x))) (fun y hy=>qSK hE (by simpa using h1) (by simpa using h2) hy);simpa only[execOp,ho] using this
  ·simp at h
 case h_7 t n ps ho =>
  refine⟨?_,by simp[ho]⟩
  split at h
  ·rename_i l hl;obtain⟨h1,h2⟩:=qNj hfr ps.toList l hl;have:=qGF.did (qI6 (parts':=ps.map fun (i,x)=>(i,a.eval x)) hE hsr (by simpa using h1) (by simpa using h2) h);simpa only[execOp,ho] using this
  ·simp at h
 case h_8 t x ho =>
  refine⟨?_,by simp[ho]⟩
  split at h
  ·rename_i v hv;have:=qGF.did (qUK hE hsr (hev hv) h);simpa only[execOp,ho] using this
  ·simp at h
 case h_9 t x y ho =>
  refine⟨?_,by simp[ho]⟩
  split at h
  ·rename_i p hp
   split at h
   ·rename_i v hv
    split at h
    ·rename_i st' hst;simp only[qz1] at h;subst h;obtain⟨w',h1,h2⟩:=qRt (P:=P) hE hsr (hev hp) (hev hv) hst;exact .inr (.inl ⟨w',by simp only[execOp,ho,Sem.run_bind,h1,Result.andThen_ok,Sem.run_pure],h2,rfl⟩)
    ·simp at h
   ·simp at h
  ·simp at h
 case h_10 x ho =>
  refine⟨?_,by simp[ho]⟩
  split at h
  ·rename_i v hv;cases hn:qGC v with
   | none=>simp[hn,still] at h
   | some y =>
    simp only[hn,still,qz1] at h;subst h;obtain⟨v',h1,h2⟩:=qLV (P:=P) (w:=w) (ρ:=a.eval) ho (hev hv) hn;exact .inl ⟨ι,v',w,h1,ι.le_refl,hsr,h2⟩
  ·simp at h
 case h_11 op t x y yt ho =>
  refine⟨?_,by simp[ho]⟩
  split at h
  ·rename_i p hp
   split at h
   ·rename_i q hq;have:=qGF.val (P:=P) hsr h (fun z hz=>qYQ (w:=w) hE (hev hp) (hev hq) hz);simpa only[execOp,ho] using this
   ·simp at h
  ·simp at h
 case h_12 op t x ho =>
  refine⟨?_,by simp[ho]⟩
  split at h
  ·rename_i p hp;have:=qGF.val (P:=P) hsr h (fun z hz=>q0i (w:=w) (hev hp) hz);simpa only[execOp,ho] using this
  ·simp at h
 case h_13 s d x ho =>
  refine⟨?_,by simp[ho]⟩
  split at h
  ·rename_i p hp;have:=qGF.did (qMd hE hsr (hev hp) h);simpa only[execOp,ho] using this
  ·simp at h
 case h_14 t x ho =>
  refine⟨?_,by simp[ho]⟩
  split at h
  ·rename_i p hp;have:=qGF.val (P:=P) hsr h (fun z hz=>qKU (w:=w) hE (hev hp) hz);simpa only[execOp,ho] using this
  ·simp at h
 case h_15 f first caps ho =>
  refine⟨?_,by simp[ho]⟩
  split at h
  ·rename_i g
   split at h
   ·rename_i hfirst
    split at h
    ·rename_i l hl;simp only[qz1] at h;subst h;have h1:=qLK hfr caps.toList l hl;have e:(caps.map a.eval)=(caps.toList.map a.eval).toArray:=by apply Array.ext';simp
     have e2:first=#[]:=by apply Array.ext';simpa using hfirst
     refine .inl ⟨ι,.func (.func g) #[] (caps.map a.eval),w,?_,ι.le_refl,hsr,?_⟩
     ·simp only[execOp,ho,Instr.makeFunc,Sem.run_bind,Sem.run_pure,Result.andThen_ok,e2,Array.map_empty]
     ·rw[e];exact .clos g l _ h1.size h1.at_
    ·simp at h
   ·rename_i f0 fs0 hfirst
    split at h
    ·rename_i fs hfs
     split at h
     ·rename_i l hl;simp only[qz1] at h;subst h;have h1:=qLK hfr caps.toList l hl;rw[←hfirst] at hfs;have h2:=qLK hfr first.toList fs hfs;have e:(caps.map a.eval)=(caps.toList.map a.eval).toArray:=by apply Array.ext';simp
      have e2:(first.map a.eval)=(first.toList.map a.eval).toArray:=by apply Array.ext';simp
      refine .inl ⟨ι,.func (.func g) (first.map a.eval) (caps.map a.eval),w,?_,ι.le_refl,hsr,?_⟩
      ·simp only[execOp,ho,Instr.makeFunc,Sem.run_bind,Sem.run_pure,Result.andThen_ok]
      ·rw[e,e2];exact .bound g fs l _ _ h1.size h2.size h1.at_ h2.at_
     ·simp at h
    ·simp at h
  ·simp at h
 case h_16 t x y ho =>
  refine⟨?_,by simp[ho]⟩
  split at h
  ·rename_i p hp
   split at h
   ·rename_i q hq;have:=qGF.did (qUI hE hsr (hev hp) (hev hq) h);simpa only[execOp,ho] using this
   ·simp at h
  ·simp at h
 case h_17 t x lo hi mx ho =>
  refine⟨?_,by simp[ho]⟩
  split at h
  ·rename_i p hp
   split at h
   ·rename_i l hl
    split at h
    ·rename_i q hq
     split at h
     ·rename_i m hm;have:=qGF.val (P:=P) hsr h (fun z hz=>qRu (w:=w) hE hsr (hev hp) (qR1 hfr hl) (qR1 hfr hq) (qR1 hfr hm) hz);simpa only[execOp,ho] using this
     ·simp at h
    ·simp at h
   ·simp at h
  ·simp at h
 case h_18 s x f ho =>
  refine⟨?_,by simp[ho]⟩
  split at h
  ·rename_i p hp;have:=qGF.val (P:=P) hsr h (fun z hz=>qKW (w:=w) hE (hev hp) hz);simpa only[execOp,ho] using this
  ·simp at h
 case h_19 s x f ho =>
  refine⟨?_,by simp[ho]⟩
  split at h
  ·rename_i p hp;have:=qGF.val (P:=P) hsr h (fun z hz=>qSE (w:=w) hE (hev hp) hz);simpa only[execOp,ho] using this
  ·simp at h
 case h_20 t x y ho =>
  refine⟨?_,by simp[ho]⟩
  split at h
  ·rename_i p hp
   split at h
   ·rename_i q hq;have:=qGF.val (P:=P) hsr h (fun z hz=>qKV (w:=w) hE (hev hp) (hev hq) hz);simpa only[execOp,ho] using this
   ·simp at h
  ·simp at h
 case h_21 t x y ho =>
  refine⟨?_,by simp[ho]⟩
  split at h
  ·rename_i p hp
   split at h
   ·rename_i q hq;have:=qGF.val (P:=P) hsr h (fun z hz=>qSC (w:=w) hE (hev hp) (hev hq) hz);simpa only[execOp,ho] using this
   ·simp at h
  ·simp at h
 case h_22 x xt t ok ho =>
  refine⟨?_,by simp[ho]⟩
  split at h
  ·rename_i p hp;have:=qGF.val (P:=P) hsr h (fun z hz=>qOe (w:=w) (xt:=xt) hE (hev hp) hz);simpa only[execOp,ho] using this
  ·simp at h
 case h_23 x i ho =>
  refine⟨?_,by simp[ho]⟩
  split at h
  ·rename_i p hp;have:=qGF.val (P:=P) hsr h (fun z hz=>qM9 (w:=w) (hev hp) hz);simpa only[execOp,ho] using this
  ·simp at h
 case h_24 c ho =>
  refine⟨?_,by simp[ho]⟩;have:=qUQ (type:=o.type) hE hsr hfr hc hr h;simpa only[execOp,ho] using this
 case h_25 t rs ho =>
  refine⟨?_,by simp[ho]⟩
  split at h
  ·simp only[qz1] at h;subst h;have:=qGF.did (qM7 (P:=P) (t:=t) hsr);simpa only[execOp,ho,Option.map_none] using this
  ·simp at h
 case h_26 t m k x ho =>
  refine⟨?_,by simp[ho]⟩
  split at h
  ·rename_i mv hm
   split at h
   ·rename_i kv hk
    split at h
    ·rename_i xv hx
     split at h
     ·rename_i st' hst;simp only[qz1] at h;subst h;obtain⟨w',h1,h2⟩:=qGD (P:=P) hE hsr (hev hm) (hev hk) (hev hx) hst;exact .inr (.inl ⟨w',by simp only[execOp,ho,Sem.run_bind,h1,Result.andThen_ok,Sem.run_pure],h2,rfl⟩)
     ·simp at h
    ·simp at h
   ·simp at h
  ·simp at h
 case h_27 t m k x ho =>
  refine⟨?_,by simp[ho]⟩
  split at h
  ·rename_i mv hm
   split at h
   ·rename_i kv hk
    split at h
    ·rename_i xv hx
     split at h
     ·rename_i st' hst;simp only[qz1] at h;subst h;obtain⟨w',h1,h2⟩:=qGD (P:=P) hE hsr (hev hm) (hev hk) (hev hx) hst;exact .inr (.inl ⟨w',by simp only[execOp,ho,Sem.run_bind,h1,Result.andThen_ok,Sem.run_pure],h2,rfl⟩)
     ·simp at h
    ·simp at h
   ·simp at h
  ·simp at h
 case h_28 t x y ok ho =>
  refine⟨?_,by simp[ho]⟩
  split at h
  ·rename_i p hp
   split at h
   ·rename_i q hq;have:=qGF.val (P:=P) hsr h (fun z hz=>qOb (w:=w) hE hsr (hev hp) (hev hq) hz);simpa only[execOp,ho] using this
   ·simp at h
  ·simp at h
 case h_29 t x ho =>
  refine⟨?_,by simp[ho]⟩
  split at h
  ·rename_i p hp;have:=qGF.did (qRw hE hsr (hev hp) h);simpa only[execOp,ho] using this
  ·simp at h
 case h_30 x isS ho =>
  refine⟨?_,by simp[ho]⟩
  split at h
  ·rename_i p hp;have:=qGF.did (qUH (P:=P) (ty:=o.type) hsr (hev hp) h);simpa only[execOp,ho] using this
  ·simp at h
 case h_31 x ho =>
  refine⟨?_,by simp[ho]⟩
  split at h
  ·rename_i p hp;have:=qGF.val (P:=P) hsr h (fun z hz=>qSG (w:=w) hsr (hev hp) hz);simpa only[execOp,ho] using this
  ·simp at h
 case h_32=>simp at h
theorem step_ok (hE:E.Ok P) (hsr:SR B w0 ι st w) (hfr:FRA ι fr a) {call round:CallT} (hc:qGH P B w0 call) (hr:qEt P B w0 round) {ops:Array Oper} {o:Oper} {fr':AFr} {st':ASt}
  (h:step E call round ops.toList o fr st=some (fr',st')) {ro:Option Nat} {K:Act→World→Prop} {Q:Exit→Act→World→Prop}
  (hK:∀ι' a' w',ι.le ι'→FRA ι' fr' a'→SR B w0 ι' st' w'→K a' w') :
  if Region.wanted o (yielded ops a.tmps) then o.wpIn (FF ro) 0 P a w K Q else (∀f,o.about P w a.eval=some f→(FF ro).fn f)∧K (a.put o.dst undef) w:=by
 simp only[step,qBm] at h;cases hgd:qBZ ops.toList fr o
 rotate_left
 ·simp only[hgd,cond_true,reduceCtorEq] at h
 simp only[hgd,cond_false] at h;rw[qHU hfr.hf ops o hgd];cases hw:qAt ops.toList fr o
 ·simp only[hw,cond_false] at h;simp only[Bool.false_eq_true,if_false];refine⟨fun f _=>qOg ro f,?_⟩
  split at h
  ·rename_i fr1 hp;simp only[qz1,Prod.mk.injEq] at h;obtain⟨rfl,rfl⟩:=h;exact hK ι _ w ι.le_refl (qH9 hfr (VR.undef ι) hp) hsr
  ·simp at h
 ·simp only[hw,cond_true] at h;simp only[if_true]
  split at h
  ·rename_i v st1 hop
   split at h
   ·rename_i fr1 hp;simp only[qz1,Prod.mk.injEq] at h;obtain⟨rfl,rfl⟩:=h;obtain⟨hrun,hnd⟩:=q0j hE hsr hfr.hf hc hr hop;refine⟨fun f _=>qOg ro f,?_⟩;rw[Oper.semAt_eq _ _ _ hnd];have post:∀{R:Ending→World→Prop},(∀e w',qGw B w0 ι (v,st1) e w'→R e w')→True:=fun _=>trivial;have after:∀e w',qGw B w0 ι (v,st1) e w'→(match (motive:=Ending→World→Prop) e,w' with
      | .returned v,w''=>K (a.put o.dst v) w''
      | .panicked chain,w''=>Q (.panic chain) a w''
      | .outgrown,_=>LetsOut Q):=by
     rintro e w' ⟨x,ι',rfl,h2,h3,h4⟩;exact hK ι' _ w' h2 (qH9 (hfr.mono h2) h4 hp) h3
    rcases hrun with⟨ι',x,w',h1,h2,h3,h4⟩ | ⟨w',h1,h3,h4⟩ | ⟨f,args,h1,h2⟩ | ⟨l,fn,tmps,as,bo,h1,h2⟩
    ·rw[h1,Oper.uponIn_value];exact hK ι' _ w' h2 (qH9 (hfr.mono h2) h4 hp) h3
    ·rw[h1,Oper.uponIn_skip];simp only at h4;subst h4;exact hK ι _ w' ι.le_refl (qH9 hfr (VR.undef ι) hp) h3
    ·rw[h1,Oper.uponIn_enter];refine⟨qHT ro,?_⟩;exact (qOC (ro:=ro) h2).mono fun e w' he=>by
      have:=after e w' he;cases e<;>exact this
    ·rw[h1,Oper.uponIn_round];refine⟨qHT ro,?_⟩;exact (qST (ro:=ro) h2).mono fun e w' he=>by
      have:=after e w' he;cases e<;>exact this
   ·simp at h
  ·simp at h
end
section
variable {F:Fence} {n:Nat} {P:Program} {a:Act} {w:World} {b:Frame} {k:List Item} {cs:List Frame}
theorem qLp {c:Code}:Go.step P (lone (b.atR a (.code (.scope c)::k)) cs w)=.next (lone (b.atR a (.code c::.inScope c::k)) cs w) :=
 step_lone_go (by simp[stepG,stepG.exec,Frame.atR])
theorem qJ0 {c:Code}:Go.step P (lone (b.atR a (.inScope c::k)) cs w)=.next (lone (b.atR a k) cs w) :=
 step_lone_go (by simp[stepG,stepG.exec,Frame.atR])
def qKX (F:Fence) (n:Nat) (P:Program) (c:Code) (Q:Exit→Act→World→Prop):Nat→Exit→Act→World→Prop
 | 0,e,a,w=>(∀l,e=.goto l→findLabel c l=none)∧Q e a w
 | d+1,e,a,w=>(∃l rest,e=.goto l∧findLabel c l=some rest∧rest.wpIn F n P (qKX F n P c Q d) a w)∨((∀l,e=.goto l→findLabel c l=none)∧Q e a w)
theorem qOD {c:Code} {Q:Exit→Act→World→Prop} (d:Nat) (h:c.wpIn F n P (qKX F n P c Q d) a w):(Code.scope c).wpIn F n P Q a w:=by
 intro b k cs hro hb hr;have h0:(lone (b.atR a (.code (.scope c)::k)) cs w).fenced P F:=fenced_calm hb hr rfl
 -- out of the scope
 have out:∀(m:Machine) (e:Exit) (a₁:Act) (w₁:World),(∀l,e=.goto l→findLabel c l=none)→ArrivesIn (Machine.fenced P F) P m b (.inScope c::k) cs e a₁ w₁→ArrivesIn (Machine.fenced P F) P m b k cs e a₁ w₁:=by
  intro m e a₁ w₁ hn harr;cases e with
  | normal=>exact StepsIn.trans harr (.one (fenced_calm hb hr rfl) qJ0)
  | exit id =>
   have hx:exitTo id (.inScope c::k)=exitTo id k:=by simp[exitTo]
   exact⟨fun k' hk=>harr.1 k' (by rw[hx];exact hk),fun hr' hk=>harr.2 hr' (by rw[hx];exact hk)⟩
  | goto l =>
   have hx:gotoIn l (.inScope c::k)=gotoIn l k:=by simp[gotoIn,hn l rfl]
   exact⟨fun k' hk=>harr.1 k' (by rw[hx];exact hk),fun hr' hk=>harr.2 hr' (by rw[hx];exact hk)⟩
  | ret=>exact harr
  | panic ch=>exact harr
  | outgrown=>exact harr
 have key:∀(d:Nat) (m:Machine) (e:Exit) (a₁:Act) (w₁:World),qKX F n P c Q d e a₁ w₁→ArrivesIn (Machine.fenced P F) P m b (.inScope c::k) cs e a₁ w₁ →
   ∃e' a' w',Q e' a' w'∧ArrivesIn (Machine.fenced P F) P m b k cs e' a' w':=by
  intro d
  induction d with
  | zero=>intro m e a₁ w₁ hj harr;exact⟨e,a₁,w₁,hj.2,out m e a₁ w₁ hj.1 harr⟩
  | succ d ih =>
   intro m e a₁ w₁ hj harr;rcases hj with⟨l,rest,rfl,hf,hw⟩ | ⟨hn,hq⟩
   ·obtain⟨e₂,a₂,w₂,hj₂,harr₂⟩:=hw b (.inScope c::k) cs hro hb hr;have hg:gotoIn l (.inScope c::k)=some (.code rest::.inScope c::k):=by simp[gotoIn,hf]
    exact ih m e₂ a₂ w₂ hj₂ (.of_steps (harr.1 _ hg) harr₂)
   ·exact⟨e,a₁,w₁,hq,out m e a₁ w₁ hn harr⟩
 obtain⟨e,a₁,w₁,hj,harr⟩:=h b (.inScope c::k) cs hro hb hr;obtain⟨e',a',w',hq,harr'⟩:=key d _ e a₁ w₁ hj harr;exact⟨e',a',w',hq,.of_steps (.one h0 qLp) harr'⟩
end
def RO (ι:Ren):Option Nat→Option Nat→Prop
 | none,none=>True
 | some l,some b=>∃L,ι l=some L∧L.b=b
 | _,_=>False
theorem RO.mono {ι κ:Ren} (hle:ι.le κ) {ro rl:Option Nat} (h:RO ι ro rl):RO κ ro rl:=by
 cases ro<;>cases rl<;>first | exact h | (obtain⟨L,h1,h2⟩:=h;exact⟨L,hle _ _ h1,h2⟩)
def qC3 (B:Prot) (w0:World) (ι:Ren) (r:Exit×AFr×ASt) (e:Exit) (a':Act) (w':World):Prop :=
 e=r.1∧∃ι',ι.le ι'∧SR B w0 ι' r.2.2 w'∧FRA ι' r.2.1 a'
def qEN (P:Program) (B:Prot) (w0:World) (ex:qCy):Prop :=
 ∀ro c fr st r,ex ro c fr st=some r→∀ι w a rl,SR B w0 ι st w→FRA ι fr a→RO ι ro rl→c.wpIn (FF rl) 0 P (qC3 B w0 ι r) a w
def qSU (P:Program) (E:Env) (draw:qI8):Prop :=
 ∀call round,CallsOK P call→qHQ P round→∀B w0 (ops:Array Oper) fr st fr' st',draw (qBm E call round ops.toList) ops.toList fr st=some (fr',st') →
  ∀ι w a rl id,SR B w0 ι st w→FRA ι fr a→(Code.region id ops true).wpIn (FF rl) 0 P (qC3 B w0 ι (.normal,fr',st')) a w
theorem qC3.le {B:Prot} {w0:World} {ι κ:Ren} (hle:ι.le κ) {r:Exit×AFr×ASt} {e:Exit} {a':Act} {w':World} (h:qC3 B w0 κ r e a' w'):qC3 B w0 ι r e a' w' :=
 ⟨h.1,let ⟨ι',h1,h2⟩:=h.2;⟨ι',Ren.le_trans hle h1,h2⟩⟩
section
variable {P:Program} {E:Env} {B:Prot} {w0:World} {ι:Ren} {st:ASt} {w:World} {fr:AFr} {a:Act}
theorem qLw (hE:E.Ok P) {call round:CallT} (hc:qGH P B w0 call) (hr:qEt P B w0 round) {ops:Array Oper} {ro:Option Nat} :
  ∀(l:List Oper) (k:Nat) (fr:AFr) (st:ASt) (fr':AFr) (st':ASt) (ι:Ren) (w:World) (a:Act),(∀j,l[j]? = ops[k+j]?)→qOi (step E call round ops.toList) l fr st=some (fr',st') →
   SR B w0 ι st w→FRA ι fr a→∀{Q:Exit→Act→World→Prop},(∀ι' a' w',ι.le ι'→SR B w0 ι' st' w'→FRA ι' fr' a'→Q .normal a' w') →
   wpOpsIn (FF ro) 0 P ops Q (List.range' k l.length) a w
 | [],k,fr,st,fr',st',ι,w,a,hl,h,hsr,hfr,Q,hQ=>by
  simp only[qOi,qz1,Prod.mk.injEq] at h;obtain⟨rfl,rfl⟩:=h;exact hQ ι a w ι.le_refl hsr hfr
 | o::l,k,fr,st,fr',st',ι,w,a,hl,h,hsr,hfr,Q,hQ=>by
  simp only[qOi] at h
  split at h
  ·rename_i fr1 st1 hs;have ho:ops[k]? = some o:=by have:=hl 0;simpa using this.symm
   have hl':∀j,l[j]? = ops[(k+1)+j]?:=fun j=>by have:=hl (j+1);simp at this;rw[this];congr 1;omega
   have:=step_ok (ro:=ro) (Q:=Q) hE hsr hfr hc hr (ops:=ops) hs (K:=wpOpsIn (FF ro) 0 P ops Q (List.range' (k+1) l.length))
    (fun ι' a' w' hle hfr' hsr'=>qLw hE hc hr l (k+1) fr1 st1 fr' st' ι' w' a' hl' h hsr' hfr' (fun ι'' a'' w'' hle' h1 h2=>hQ ι'' a'' w'' (Ren.le_trans hle hle') h1 h2))
   simp only[List.length_cons,List.range'_succ,wpOpsIn,ho];exact this
  ·simp at h
theorem qJm {ex:qCy} (hex:qEN P B w0 ex) {ro rl:Option Nat} {body:Code} {Q:Exit→Act→World→Prop} :
  ∀(d:Nat) (fr:AFr) (st:ASt) (r:Exit×AFr×ASt),qDv (ex ro body) d fr st=some r→∀(ι:Ren) (w:World) (a:Act) (k:Nat),SR B w0 ι st w→FRA ι fr a→RO ι ro rl →
   (r.1=.normal→∀ι' a' w',ι.le ι'→SR B w0 ι' r.2.2 w'→FRA ι' r.2.1 a'→Code.roundsIn (FF rl) 0 P body Q k a' w') →
   (r.1≠.normal→∀ι' a' w',ι.le ι'→SR B w0 ι' r.2.2 w'→FRA ι' r.2.1 a'→Q r.1 a' w') →
   Code.roundsIn (FF rl) 0 P body Q (k+2 ^ d) a w
 | 0,fr,st,r,h,ι,w,a,k,hsr,hfr,hro,hn,hq=>by
  simp only[qDv] at h;show (body).wpIn (FF rl) 0 P (Exit.then (Code.roundsIn (FF rl) 0 P body Q k) Q) a w;refine wpIn_mono (hex ro body fr st r h ι w a rl hsr hfr hro) fun e a' w' ⟨he,ι',h1,h2,h3⟩=>?_;subst he;cases hr:r.1 with
  | normal=>exact hn hr ι' a' w' h1 h2 h3
  | _ =>
     have:=hq (by rw[hr];simp) ι' a' w' h1 h2 h3;rw[hr] at this;exact this
 | d+1,fr,st,r,h,ι,w,a,k,hsr,hfr,hro,hn,hq=>by
  simp only[qDv] at h;have e:k+2 ^ (d+1)=(k+2 ^ d)+2 ^ d:=by rw[Nat.pow_succ];omega
  rw[e]
  split at h
  ·rename_i fr1 st1 h1;refine qJm hex d fr st _ h1 ι w a (k+2 ^ d) hsr hfr hro (fun _ ι' a' w' hle hsr' hfr'=>?_) (fun hne=>absurd rfl hne);exact qJm hex d fr1 st1 r h ι' w' a' k hsr' hfr' (hro.mono hle)
    (fun hr ι'' a'' w'' hle'=>hn hr ι'' a'' w'' (Ren.le_trans hle hle')) (fun hr ι'' a'' w'' hle'=>hq hr ι'' a'' w'' (Ren.le_trans hle hle'))
  ·rename_i r1 hne;have hnn:r.1≠.normal:=by
    intro hr;obtain⟨e1,f1,s1⟩:=r;simp only at hr;subst hr;exact hne f1 s1 h
   exact qJm hex d fr st r h ι w a (k+2 ^ d) hsr hfr hro (fun hr=>absurd hr hnn) hq
theorem qXQ {ex:qCy} (hex:qEN P B w0 ex) {ro rl:Option Nat} {id:Nat} {body:Code} {r:Exit×AFr×ASt} (hsr:SR B w0 ι st w) (hfr:FRA ι fr a) (hro:RO ι ro rl)
  (h:(match ex ro body fr st with
  | some (.exit i,fr',st')=>bif Nat.beq i id then some (.normal,fr',st') else some (.exit i,fr',st')
  | r=>r)=some r):(Code.block id body).wpIn (FF rl) 0 P (qC3 B w0 ι r) a w:=by
 refine wpIn_block ?_
 split at h
 ·rename_i i fr1 st1 h1;refine wpIn_mono (hex ro body fr st _ h1 ι w a rl hsr hfr hro) fun e a' w' ⟨he,ι',h2,h3,h4⟩=>?_;simp only at he;subst he;simp only[Exit.inBlock];cases hb:Nat.beq i id
  ·simp only[hb,cond_false,qz1] at h;subst h;have hne:¬i=id:=by intro e;subst e;simp at hb
   simp only[hne,if_false];exact⟨rfl,ι',h2,h3,h4⟩
  ·simp only[hb,cond_true,qz1] at h;subst h;have he:=Nat.eq_of_beq_eq_true hb;simp only[he,if_true];exact⟨rfl,ι',h2,h3,h4⟩
 ·rename_i r1 hne;refine wpIn_mono (hex ro body fr st _ h ι w a rl hsr hfr hro) fun e a' w' hp=>?_;have he:=hp.1;cases e with
  | exit i =>
   exfalso;obtain⟨e1,f1,s1⟩:=r;simp only at he;subst he;exact hne i f1 s1 h
  | _=>exact hp
theorem qHk (hsr:SR B w0 ι st w) {l:Nat} {s:LoopState} {pe:Option Code} {tm:AFr} {ps:List Tmp} {as bo:Code} {de:Nat} {L:Loc} (hl:st.h.get l=some (.loop s pe tm ps as bo de))
  (hL:ι l=some L):∃r:Loop,w.heap[L.b]? = some (.loop r)∧r.state=s∧r.pending=pe∧FR ι tm r.tmps∧r.params.toList=ps∧r.assign=as∧r.body=bo∧∃D,ι de=some D∧D.b=r.defers:=by
 obtain⟨L',o,h1,h2,r,h3,h4⟩:=hsr.obj l _ hl (by simp);rw[hL] at h1;cases h1;exact⟨r,by rw[h2,h3],h4⟩
theorem qOR {v:AV} {caps:List AV} {x:Value} {cs':Array Value} (h1:VR ι v x) (h2:VRs ι caps cs'):VRs ι (v::caps) (#[x]++cs'):=by
 have:VRs ι [v] #[x]:=⟨rfl,fun i y y' hy hy'=>by
  cases i with
  | zero=>simp at hy hy';subst hy;subst hy';exact h1
  | succ i=>simp at hy⟩
 exact this.append h2
theorem qKd {g:Operand} {f:FuncId} {cs':Array Value} (l:Nat) (w:World) (hge:a.eval g=.func (.func f) #[] cs') :
  (resolve a.eval (rangeCall g l) 0).run P w=.ok {target:=.fn (.func f) cs',args:=#[.func (.yield l) #[] #[]]} w:=by
 have e:a.eval (.const (.func (.yield l) #[] #[]))=.func (.yield l) #[] #[]:=rfl;simp only[resolve,hge,Deferred.ofValue,Sem.run_pure,List.map_toArray,List.map_cons,List.map_nil,e];rfl
theorem qTC {ex:qCy} {call:CallT} (hex:qEN P B w0 ex) (hc:qGH P B w0 call) {ro rl:Option Nat} {g:Operand} {ps:Array Tmp} {as bo:Code} {r:Exit×AFr×ASt}
  (hsr:SR B w0 ι st w) (hfr:FRA ι fr a) (hro:RO ι ro rl) (h:qNE call ex ro g ps as bo fr st=some r):(Code.rangeFunc g ps as bo).wpIn (FF rl) 0 P (qC3 B w0 ι r) a w:=by
 simp only[qNE] at h
 split at h
 rotate_left
 ·simp at h
 rename_i f caps hg;have hgv:=qEI hfr.hf hg;generalize hge:a.eval g=gv at hgv;cases hgv with
 | clos _ _ cs' hs hv =>
 -- the call and what is behind it,in whichever world
 have go:∀(de:Nat) (fr1:AFr) (st1:ASt) (ι1:Ren) (w1:World) (defs:List Deferred) (fn:FuncId) (D:Loc) (hle:ι.le ι1),SR B w0 ι1 st1 w1→FRA ι1 fr1 {a with defers:=defs}→ι1 de=some D →
   (match call f (.yield st1.next::caps) (st1.add (.loop .ready none fr ps.toList as bo de)) with
   | some (_,st2) =>
    match st2.h.get st1.next with
    | some (.loop s pe _ _ _ _ _) =>
     match s with
     | .busy=>none
     | _ =>
      match pe with
      | none=>some (.normal,fr1,st2.put st1.next .dead)
      | some c=>ex ro c fr1 (st2.put st1.next .dead)
    | _=>none
   | none=>none)=some r →
   ∃(w2:World),(callFunc f (#[.func (.yield w1.heap.size) #[] #[]]++cs')).run P (w1.alloc (.loop {state:=.ready,pending:=none,fn,tmps:=a.tmps,params:=ps,assign:=as,body:=bo,defers:=D.b}))=.ok (.enter f (#[.func (.yield w1.heap.size) #[] #[]]++cs')) w2 ∧
    CallsIn (FF rl) 0 P f (#[.func (.yield w1.heap.size) #[] #[]]++cs') w2 (rangePost (FF rl) 0 P w1.heap.size (qC3 B w0 ι r) {a with defers:=defs}):=by
  intro de fr1 st1 ι1 w1 defs fn D hle hsr1 hfr1 hD h
  let rec1:Loop:={state:=.ready,pending:=none,fn,tmps:=a.tmps,params:=ps,assign:=as,body:=bo,defers:=D.b}
  obtain⟨k1,k2,k3⟩:=hsr1.alloc (.loop .ready none fr ps.toList as bo de) (.loop rec1) 0 ⟨rec1,rfl,rfl,rfl,hfr.hf.mono hle,rfl,rfl,rfl,D,hD,rfl⟩
  split at h
  rotate_left
  ·simp at h
  rename_i v0 st2 hcall;have hargs:=qOR (ι:=ι1.ext st1.next ⟨w1.heap.size,0,0⟩) (.yield st1.next _ k3) ((⟨hs,hv⟩:VRs ι caps cs').mono (Ren.le_trans hle k2));obtain⟨c1,c2⟩:=hc f _ _ _ hcall _ _ _ k1 hargs
  ·refine⟨_,c1,(qOC (ro:=rl) c2).mono ?_⟩;rintro e w3 ⟨x,ι3,rfl,hle3,hsr3,_⟩;simp only at hsr3
   split at h
   rotate_left
   ·simp at h
   rename_i s pe tm2 ps2 as2 bo2 de2 hlp;have hL3:=hle3 _ _ k3;obtain⟨q,q1,q2,q3,q4,q5,q6,q7,D3,q8,q9⟩:=qHk hsr3 hlp hL3;have hnb:q.state≠.busy:=by
    rw[q2];intro e;subst e;simp at h
   have hend:=run_endLoop (P:=P) q1 hnb;have hkill:SR B w0 ι3 (st2.put st1.next .dead) (w3.putObj w1.heap.size (.loop {q with state:=.exhausted})):=by
    have hw:=hsr3.write (a':=.loop .exhausted pe tm2 ps2 as2 bo2 de2) hlp rfl hL3 (o':=.loop {q with state:=.exhausted}) ⟨_,rfl,rfl,q3,q4,q5,q6,q7,D3,q8,q9⟩;have hk:=hw.kill (qJc _ _ _);exact hk.congr (fun j=>qQH st2 st1.next _ _ j) rfl
   have hle':ι.le ι3:=Ren.le_trans hle (Ren.le_trans k2 hle3);refine⟨pe,w3.putObj w1.heap.size (.loop {q with state:=.exhausted}),?_,?_⟩
   ·rw[←q3];exact hend
   ·cases pe with
    | none =>
     have h':some (Exit.normal,fr1,st2.put st1.next .dead)=some r:=by
      cases s<;>first | exact h | (simp at h)
     simp only[qz1] at h';subst h';exact⟨rfl,ι3,hle',hkill,hfr1.mono (Ren.le_trans k2 hle3)⟩
    | some c =>
     have h':ex ro c fr1 (st2.put st1.next .dead)=some r:=by
      cases s<;>first | exact h | (simp at h)
     exact wpIn_mono (hex ro c fr1 _ r h' ι3 _ _ rl hkill (hfr1.mono (Ren.le_trans k2 hle3)) (hro.mono hle')) fun e a' w' hp=>hp.le hle'
 refine wpIn_rangeFunc fun fn _=>?_;cases ro with
 | none =>
  cases rl with
  | some _=>exact hro.elim
  | none =>
   obtain⟨k1,k2,k3⟩:=hsr.alloc .defd (.deferred (some [])) 0 rfl;have hfr1:FRA (ι.ext st.next ⟨w.heap.size,0,0⟩) {fr with defs:=st.next::fr.defs} {a with defers:=[{target:=.collected w.heap.size,args:=#[]}]++a.defers} :=
    ⟨hfr.hf.mono k2,⟨_,k3,rfl⟩,hfr.hd.mono k2⟩
   obtain⟨w2,g1,g2⟩:=go st.next {fr with defs:=st.next::fr.defs} (st.add .defd) _ _ _ fn _ k2 k1 hfr1 k3 h;refine⟨w.heap.size+1,[{target:=.collected w.heap.size,args:=#[]}],(w.alloc (.deferred (some []))).alloc (.loop {state:=.ready,pending:=none,fn,tmps:=a.tmps,params:=ps,assign:=as,body:=bo,defers:=w.heap.size}),
    {target:=.fn (.func f) cs',args:=#[.func (.yield (w.heap.size+1)) #[] #[]]},(w.alloc (.deferred (some []))).alloc (.loop {state:=.ready,pending:=none,fn,tmps:=a.tmps,params:=ps,assign:=as,body:=bo,defers:=w.heap.size}),
    f,#[.func (.yield (w.heap.size+1)) #[] #[]]++cs',w2,run_enterLoop_outer fn a.tmps ps as bo,?_,fun _ _=>qOg none _,?_,qHT none,?_⟩
   ·exact qKd _ _ hge
   ·simp only[invoke];have:(w.alloc (.deferred (some []))).heap.size=w.heap.size+1:=by simp
    rw[←this];exact g1
   ·have:(w.alloc (.deferred (some []))).heap.size=w.heap.size+1:=by simp
    rw[←this];exact g2
 | some l0 =>
  cases rl with
  | none=>exact hro.elim
  | some b0 =>
   dsimp only at h
   split at h
   ·rename_i s0 pe0 tm0 ps0 as0 bo0 de0 hl0;obtain⟨L0,hL0,rfl⟩:=hro;obtain⟨q,q1,q2,q3,q4,q5,q6,q7,D0,q8,q9⟩:=qHk hsr hl0 hL0;obtain⟨w2,g1,g2⟩:=go de0 fr st ι w a.defers fn D0 ι.le_refl hsr hfr q8 h;refine⟨w.heap.size,[],w.alloc (.loop {state:=.ready,pending:=none,fn,tmps:=a.tmps,params:=ps,assign:=as,body:=bo,defers:=q.defers}),
     {target:=.fn (.func f) cs',args:=#[.func (.yield w.heap.size) #[] #[]]},w.alloc (.loop {state:=.ready,pending:=none,fn,tmps:=a.tmps,params:=ps,assign:=as,body:=bo,defers:=q.defers}),
     f,#[.func (.yield w.heap.size) #[] #[]]++cs',w2,run_enterLoop_inner q1 fn a.tmps ps as bo,?_,fun _ _=>qOg (some L0.b) _,?_,qHT (some L0.b),?_⟩
    ·exact qKd _ _ hge
    ·simp only[invoke];rw[q9] at g1;exact g1
    ·exact g2
   ·simp at h
theorem q0C {ex:qCy} (hex:qEN P B w0 ex) {ro rl:Option Nat} {body:Code} {r:Exit×AFr×ASt} (hsr:SR B w0 ι st w) (hfr:FRA ι fr a) (hro:RO ι ro rl) (d:Nat)
  (h:qDv (ex ro body) d fr st=some r) (hne:r.1≠.normal):(Code.loop body).wpIn (FF rl) 0 P (qC3 B w0 ι r) a w :=
 wpIn_loop_rounds (0+2 ^ d) (qJm hex d fr st r h ι w a 0 hsr hfr hro (fun hr=>absurd hr hne) (fun _ ι' _ _ h1 h2 h3=>⟨rfl,ι',h1,h2,h3⟩))
end
section
variable {P:Program} {B:Prot} {w0:World} {ι:Ren} {st:ASt} {w:World}
theorem qRy (h:SR B w0 ι st w) {x:AV} {x':Value} {ty:TypeId} {i j since ck:Nat} {seen:List Nat} {cs:qHE} (hx:VR ι x x') (hc:qEB x st=some (i,j,since,seen,ck,cs)) (hne:cs≠[]) :
  ∃c r,c<cs.length∧qIT c x st=some r∧Did P B w0 ι w (Instr.next x' false ty) r:=by
 have hc0:=hc;unfold qEB at hc
 split at hc
 rotate_left
 ·simp at hc
 rename_i i1;cases hx with
 | ptr _ _ L hL =>
 split at hc
 rotate_left
 ·simp at hc
 rename_i j1 since1 seen1 last hi
 split at hc
 rotate_left
 ·simp at hc
 rename_i es c1 hj;obtain⟨L',o,h1,h2,h0,m',h3,h4⟩:=h.obj i1 _ hi (by simp);rw[hL] at h1;cases h1;rw[h3] at h2;have e0:L.p+0=0:=by omega
 obtain⟨D,hD,rfl⟩:=h4;obtain⟨es',ho,hent⟩:=qDu h hj hD;cases hbad:(bif isNil seen1 then false else bif isNil es then false else qOo (fun b=>Nat.ble last b) es)
 rotate_left
 ·rw[hbad] at hc;exact absurd hc (by simp)
 simp only[hbad,cond_false] at hc;have hbad':(!seen1.toArray.isEmpty && !es'.isEmpty && es'.all (fun e=>decide (e.born ≥ last)))=false:=by
  have e1:seen1.toArray.isEmpty=isNil seen1:=by cases seen1<;>rfl
  have e2:es'.isEmpty=isNil es:=by
   have:=hent.1;cases es with
   | nil=>have:=hent.nil;simp at this;subst this;rfl
   | cons a l=>simp at this;simp[isNil];intro h;subst h;simp at this
  have e3:es'.all (fun e=>decide (e.born ≥ last))=qOo (fun b=>Nat.ble last b) es:=by
   rw[qM6 hent,←Array.all_toList]
   congr 1;funext e
   rw[Bool.eq_iff_iff,decide_eq_true_eq,Nat.ble_eq]
  rw[e1,e2,e3]
  revert hbad
  cases isNil seen1<;>cases isNil es<;>cases qOo (fun b=>Nat.ble last b) es<;>simp
 have l1:=qF5 (p:=fun b=>Bool.not (qCY b seen1)) hent;have l2:=qF5 (p:=fun b=>Nat.blt b since1) l1;have l3:=qF5 (p:=fun b=>Nat.ble since1 b) l1;have q1:(es'.filter fun e=>!seen1.toArray.contains e.born).toList=es'.toList.filter fun e=>Bool.not (qCY e.born seen1):=by
  rw[Array.toList_filter]
  congr 1;funext e;rw[qEb]
 have q2:((es'.filter fun e=>!seen1.toArray.contains e.born).filter fun e=>decide (e.born<since1)).toList=(es'.toList.filter fun e=>Bool.not (qCY e.born seen1)).filter fun e=>Nat.blt e.born since1:=by
  rw[Array.toList_filter,q1]
  congr 1;funext e;rw[Bool.eq_iff_iff,decide_eq_true_eq,Nat.blt_eq]
 have q3:((es'.filter fun e=>!seen1.toArray.contains e.born).filter fun e=>decide (e.born ≥ since1)).toList=(es'.toList.filter fun e=>Bool.not (qCY e.born seen1)).filter fun e=>Nat.ble since1 e.born:=by
  rw[Array.toList_filter,q1]
  congr 1;funext e;rw[Bool.eq_iff_iff,decide_eq_true_eq,Nat.ble_eq]
 rw[←q2] at l2;rw[←q3] at l3;generalize hA:((es'.filter fun e=>!seen1.toArray.contains e.born).filter fun e=>decide (e.born<since1))=A at l2;generalize hB:((es'.filter fun e=>!seen1.toArray.contains e.born).filter fun e=>decide (e.born ≥ since1))=Bq at l3
 split at hc
 rotate_left
 ·simp at hc
 rename_i hnil;rw[hnil] at l3;have hB0:Bq=#[]:=Array.ext' (by simpa using l3.nil);simp only[qz1,Prod.mk.injEq] at hc;obtain⟨rfl,rfl,rfl,rfl,rfl,hcs⟩:=hc;rw[hcs] at l2;have hlen:cs.length=A.size:=by have:=l2.1;simpa using this
 have hpos:0<A.size:=by
  rw[←hlen];exact List.length_pos_iff.2 hne
 have harr:((if A.isEmpty then #[none] else #[])++(A++#[]).map some)=(A.map some:Array (Option MapEntry)):=by
  have:A.isEmpty=false:=by simp;intro e;subst e;simp at hpos
  simp[this]
 let idx:Nat:=if (Question.mapNext A.size).forced then 0 else (Question.mapNext A.size).cut (w.tape w.drawn (.mapNext A.size))
 let w1:World:=if (Question.mapNext A.size).forced then w else {w with drawn:=w.drawn+1}
 have hidx:idx<A.size:=by
  simp only[idx]
  split
  ·exact hpos
  ·exact Nat.mod_lt _ hpos
 have hch:(choose (.mapNext A.size)).run P w=.ok idx w1:=by
  rw[run_choose];simp only[idx,w1]
  split<;>rfl
 have hw1:w1.heap=w.heap:=by simp only[w1];split<;>rfl
 have hsr1:SR B w0 ι st w1:=by
  simp only[w1];split
  ·exact h
  ·exact h.drawn _
 have hci:idx<cs.length:=by omega
 have hce:cs[idx]? = some cs[idx]:=by simp[hci]
 have hAe:A[idx]? = some A[idx]:=by simp[hidx]
 obtain⟨f1,f2,f3⟩:=l2.2 idx cs[idx] A[idx] hce (by simp);refine⟨idx,(.tuple [.bool true,cs[idx].1,cs[idx].2.1],st.put i1 (.miter (some j1) since1 (seen1++[cs[idx].2.2]) c1)),hci,?_,?_⟩
 ·simp only[qIT,hc0,hce]
 have h2':w1.heap[L.b]? = some (.mapIter (some D.b) since1 seen1.toArray last):=by rw[hw1];exact h2
 have hw:=hsr1.write (a':=.miter (some j1) since1 (seen1++[cs[idx].2.2]) c1) hi rfl hL (o':=.mapIter (some D.b) since1 (seen1.toArray.push A[idx].born) c1)
  ⟨h0,some D.b,by rw[f3];simp,D,hD,rfl⟩
 refine⟨ι,.tuple #[.bool true,A[idx].key,A[idx].val],_,?_,ι.le_refl,hw,three f1 f2⟩;rw[e0];simp only[Instr.next,Sem.run_bind,qE9 h2,Result.andThen_ok,qBJ ho,hbad',Bool.false_eq_true,if_false,hA,hB,hB0];rw[harr,Array.size_map,hch];simp only[Result.andThen_ok];have hget:(A.map some)[idx]? = some (some A[idx]):=by simp[hidx]
 rw[hget];simp only[Sem.run_bind,qKa _ h2',Result.andThen_ok,Sem.run_pure]
end
section
variable {P:Program} {E:Env} {B:Prot} {w0:World} {ι:Ren} {st:ASt} {w:World} {fr:AFr} {a:Act}
theorem qQf (hE:E.Ok P) {ex:qCy} {call round:CallT} (hex:qEN P B w0 ex) (hc:qGH P B w0 call) (hr:qEt P B w0 round) {ro rl:Option Nat} (hro:RO ι ro rl)
  {x:Operand} {v:AV} (hv:evA fr x=some v) {i j since ck:Nat} {seen:List Nat} {cs:qHE} (hcs:qEB v st=some (i,j,since,seen,ck,cs)) (hne:cs≠[]) (hsr:SR B w0 ι st w) (hfr:FRA ι fr a) :
  ∀(body:Code),qCO body=some x→(∀c,c<cs.length→∃r,qCN E call round ex ro c body fr st=some r) →
   body.wpIn (FF rl) 0 P (fun e a' w'=>∃c r,c<cs.length∧qCN E call round ex ro c body fr st=some r∧qC3 B w0 ι r e a' w') a w:=by
 intro body
 induction body with
 | seq p q ihp _ =>
  intro hl hall;have hallp:∀c,c<cs.length→∃r,qCN E call round ex ro c p fr st=some r:=fun c hcl=>by
   obtain⟨r,hr⟩:=hall c hcl;simp only[qCN] at hr;cases hp:qCN E call round ex ro c p fr st with
   | none=>rw[hp] at hr;simp at hr
   | some r=>exact⟨r,rfl⟩
  refine wpIn_seq (wpIn_mono (ihp hl hallp) ?_);rintro e a' w' ⟨c,r1,hcl,h1,he,ι',h2,h3,h4⟩;obtain⟨r,hrr⟩:=hall c hcl;have hrr0:=hrr;simp only[qCN,h1] at hrr;obtain⟨e1,fr1,st1⟩:=r1;simp only at he;subst he;cases e with
  | normal =>
   simp only at hrr;exact wpIn_mono (hex ro q fr1 st1 r hrr ι' w' a' rl h3 h4 (hro.mono h2)) fun e2 a2 w2 hp=>⟨c,r,hcl,hrr0,hp.le h2⟩
  | _ =>
   simp only[qz1] at hrr;subst hrr;exact⟨c,_,hcl,hrr0,rfl,ι',h2,h3,h4⟩
 | region id ops dr =>
  intro hl hall;cases dr with
  | true=>simp[qCO] at hl
  | false =>
   simp only[qCO] at hl
   split at hl
   rotate_left
   ·simp at hl
   rename_i o os hops
   split at hl
   ·simp at hl
   rename_i hg
   split at hl
   rotate_left
   ·simp at hl
   rename_i x1 isS hop;cases isS
   rotate_left
   ·simp at hl
   simp only[cond_false,qz1] at hl;subst hl;refine wpIn_region ?_;have hsz:ops.size=os.length+1:=by have:=congrArg List.length hops;simpa using this
   rw[List.range_eq_range',hsz,List.range'_succ];have ho:ops[0]? = some o:=by
    have:ops.toList[0]? = some o:=by rw[hops];rfl
    simpa using this
   simp only[wpOpsIn,ho];have hgd:qBZ ops.toList fr o=false:=by simp[qBZ,hg]
   have hwt:qAt ops.toList fr o=true:=by simp[qAt,hg]
   rw[qHU hfr.hf ops o hgd,hwt];simp only[if_true];obtain⟨c,u,hcl,hnc,ι',y,w',hrun,hle,hsr',hy⟩:=qRy (P:=P) (ty:=o.type) hsr (qEI (a:=a) hfr.hf hv) hcs hne;refine⟨fun f _=>qOg rl f,?_⟩;rw[Oper.semAt_eq _ _ _ (by simp[hop])];have hrun':(execOp a.eval o).run P w=.ok (.value y) w':=by
    simp only[execOp,hop,Sem.run_bind,hrun,Result.andThen_ok,Sem.run_pure]
   rw[hrun',Oper.uponIn_value];obtain⟨r,hrr⟩:=hall c hcl;have hrr0:=hrr;simp only[qCN,hops,hop,hv,hnc] at hrr
   split at hrr
   rotate_left
   ·simp at hrr
   rename_i fr1 hput
   split at hrr
   rotate_left
   ·simp at hrr
   rename_i fr2 st2 hreg;simp only[qz1] at hrr;rw[←hops] at hreg;refine qLw hE hc hr os 1 fr1 u.2 fr2 st2 ι' w' _ (fun j=>?_) hreg hsr' (qH9 (hfr.mono hle) hy hput) (fun ι'' a'' w'' h1 h2 h3=>⟨c,r,hcl,hrr0,?_⟩)
   ·have:ops.toList[j+1]? = os[j]?:=by rw[hops];simp
    rw[←this];simp;congr 1;omega
   ·subst hrr;exact⟨rfl,ι'',Ren.le_trans hle h1,h2,h3⟩
 | _=>intro hl;simp[qCO] at hl
end
theorem qLN:∀{a b:qHE},qIw a b=true→a=b
 | [],[],_=>rfl
 | (x,y,n)::xs,(x',y',n')::ys,h=>by
  simp only[qIw,Bool.and_eq_true] at h;rw[qD6 _ _ h.1,qD6 _ _ h.2.1,qEQ h.2.2.1,qLN h.2.2.2]
 | [],_::_,h=>by simp[qIw] at h
 | _::_,[],h=>by simp[qIw] at h
theorem qRq {a b:AO} (h:q0e a b=true):a=b:=by
 cases a<;>cases b<;>simp only[q0e,Bool.false_eq_true,Bool.and_eq_true,decide_eq_true_eq] at h
 ·rw[qIR h.1,qD0 _ _ h.2]
 ·rfl
 ·rw[qEQ h.1,qLN h.2]
 ·rw[qEQ h.1,h.2]
 ·rw[h.1,qEQ h.2.1,h.2.2.1,qEQ h.2.2.2]
theorem qOW {v v':Option AO} {x:AO} (h:qXA v v'=some x):v=some x∧v'=some x:=by
 unfold qXA at h
 split at h
 ·split at h
  ·rename_i a _ b;cases hb:q0e a b
   ·simp[hb] at h
   ·simp only[hb,cond_true,qz1] at h;have:=qRq hb;subst this;subst h;exact⟨rfl,rfl⟩
  ·simp at h
 ·simp at h
theorem qFr:∀(a b:T AO) (k:Nat) (x:AO),(qKB a b).get k=some x→a.get k=some x∧b.get k=some x
 | .e,b,k,x,h=>by simp[qKB,T.get_e] at h
 | .o t j v,b,k,x,h=>by simp[qKB,T.get_e] at h
 | .n l v r,b,k,x,h=>by
  cases b with
  | e=>simp[qKB,T.get_e] at h
  | o t j u=>simp[qKB,T.get_e] at h
  | n l' v' r' =>
   simp only[qKB] at h;cases k with
   | zero=>rw[T.get_n0] at h ⊢;rw[T.get_n0];exact qOW h
   | succ k =>
    rw[T.get_n1] at h ⊢;rw[T.get_n1];cases hb:Nat.beq (k % 2) 0
    ·rw[hb,cond_false] at h;simp only[cond_false];exact qFr r r' _ x h
    ·rw[hb,cond_true] at h;simp only[cond_true];exact qFr l l' _ x h
theorem SR.sub {B:Prot} {w0:World} {ι:Ren} {st st':ASt} {w:World} (h:SR B w0 ι st w) (hg:∀k x,st'.h.get k=some x→st.h.get k=some x) (hn:st.next≤st'.next):SR B w0 ι st' w :=
 ⟨h.below,h.base,fun i a hi=>h.obj i a (hg i a hi),fun i a L hi ho hL=>let ⟨h1,h2⟩:=h.own i a L (hg i a hi) ho hL;⟨h1,fun j a' L' hj=>h2 j a' L' (hg j a' hj)⟩,
  fun i L hL=>Nat.lt_of_lt_of_le (h.dom i L hL) hn,fun i a hi=>Nat.lt_of_lt_of_le (h.hdom i a (hg i a hi)) hn,fun i a L hi=>h.ro i a L (hg i a hi),fun i hi=>⟨Nat.lt_of_lt_of_le (h.res i hi).1 hn,(h.res i hi).2⟩,h.glob⟩
theorem qHN:∀(t:T AV),noO t=true→∀k,(qYG t).get k=anyV (t.get k)
 | .e,_,k=>by simp[qYG,T.get_e,anyV]
 | .o ..,h,_=>by simp[noO] at h
 | .n l v r,h,k=>by
  simp only[noO] at h;cases hl:noO l
  ·simp[hl] at h
  simp only[hl,cond_true] at h;simp only[qYG];cases k with
  | zero=>rw[T.get_n0,T.get_n0]
  | succ k =>
   rw[T.get_n1,T.get_n1];cases Nat.beq (k % 2) 0
   ·exact qHN r h _
   ·exact qHN l hl _
theorem qFC:∀(a b:T AV),noO a=true→noO b=true→∀k,(qFs a b).get k=qOV (a.get k) (b.get k)
 | .e,b,_,hb,k=>by simp only[qFs,qHN b hb,T.get_e];cases b.get k<;>rfl
 | .o ..,_,h,_,_=>by simp[noO] at h
 | .n l v r,b,ha,hb,k=>by
  cases b with
  | e =>
   simp only[qFs];rw[qHN _ ha,T.get_e];cases (T.n l v r).get k<;>rfl
  | o t j u=>simp[noO] at hb
  | n l' v' r' =>
   simp only[noO] at ha hb;cases hl:noO l
   ·simp[hl] at ha
   cases hl':noO l'
   ·simp[hl'] at hb
   simp only[hl,cond_true] at ha;simp only[hl',cond_true] at hb;simp only[qFs];cases k with
   | zero=>rw[T.get_n0,T.get_n0,T.get_n0]
   | succ k =>
    rw[T.get_n1,T.get_n1,T.get_n1];cases Nat.beq (k % 2) 0
    ·exact qFC r r' ha hb _
    ·exact qFC l l' hl hl' _
theorem qIH (v v':Option AV):(qOV v v').getD qAC=.any∨((qOV v v').getD qAC=v.getD qAC∧(qOV v v').getD qAC=v'.getD qAC):=by
 cases v with
 | none=>cases v' with
  | none=>exact .inr ⟨rfl,rfl⟩
  | some y=>exact .inl rfl
 | some x=>cases v' with
  | none=>exact .inl rfl
  | some y =>
   simp only[qOV];cases h:qCx x y
   ·exact .inl rfl
   ·have:=qD6 _ _ h;subst this;exact .inr ⟨rfl,rfl⟩
theorem qXP {a b:Exit} (h:qVO a b=true):a=b:=by
 cases a<;>cases b<;>simp only[qVO,Bool.false_eq_true] at h<;>first | rfl | rw[qEQ h]
def qEM (r r':Exit×AFr×ASt):Prop:=r.1=r'.1∧∀B w0 ι e a w,qC3 B w0 ι r e a w→qC3 B w0 ι r' e a w
theorem qEM.refl (r:Exit×AFr×ASt):qEM r r:=⟨rfl,fun _ _ _ _ _ _ h=>h⟩
theorem qEM.trans {a b c:Exit×AFr×ASt} (h:qEM a b) (k:qEM b c):qEM a c:=⟨h.1.trans k.1,fun B w0 ι e x w p=>k.2 B w0 ι e x w (h.2 B w0 ι e x w p)⟩
theorem join_ok {r r' s:Exit×AFr×ASt} (h:join r r'=some s):qEM r s∧qEM r' s:=by
 obtain⟨e,fr,st⟩:=r;obtain⟨e',fr',st'⟩:=r';simp only[join] at h;cases h1:qVO e e'
 ·simp[h1] at h
 cases h2:Nat.beq fr.n fr'.n
 ·simp only[h1,h2,cond_true,cond_false,reduceCtorEq] at h
 cases h3:lEq fr.defs fr'.defs
 ·simp only[h1,h2,h3,cond_true,cond_false,reduceCtorEq] at h
 cases h4:noO fr.m
 ·simp only[h1,h2,h3,h4,cond_true,cond_false,reduceCtorEq] at h
 cases h5:noO fr'.m
 ·simp only[h1,h2,h3,h4,h5,cond_true,cond_false,reduceCtorEq] at h
 simp only[h1,h2,h3,h4,h5,cond_true,qz1] at h;subst h;have e1:=qXP h1;have e2:=qEQ h2;have e3:fr.defs=fr'.defs:=by rw[qKr] at h3;simpa using h3
 subst e1;refine⟨⟨rfl,fun B w0 ι x a w hp=>?_⟩,⟨rfl,fun B w0 ι x a w hp=>?_⟩⟩
 ·obtain⟨p1,ι',p2,p3,p4⟩:=hp;refine⟨p1,ι',p2,p3.sub (fun k x hx=>(qFr _ _ k x hx).1) (Nat.le_max_left _ _),⟨⟨p4.hf.1,fun t=>?_⟩,p4.hd⟩⟩;show VR ι' (((qFs fr.m fr'.m).get t).getD qAC) _;rw[qFC _ _ h4 h5];rcases qIH (fr.m.get t) (fr'.m.get t) with hz | ⟨hz,_⟩
  ·rw[hz];exact .any _
  ·rw[hz];exact p4.hf.2 t
 ·obtain⟨p1,ι',p2,p3,p4⟩:=hp;refine⟨p1,ι',p2,p3.sub (fun k x hx=>(qFr _ _ k x hx).2) (Nat.le_max_right _ _),⟨⟨?_,fun t=>?_⟩,?_⟩⟩
  ·show a.tmps.size=fr.n;rw[e2];exact p4.hf.1
  ·show VR ι' (((qFs fr.m fr'.m).get t).getD qAC) _;rw[qFC _ _ h4 h5];rcases qIH (fr.m.get t) (fr'.m.get t) with hz | ⟨_,hz⟩
   ·rw[hz];exact .any _
   ·rw[hz];exact p4.hf.2 t
  ·show DR ι' fr.defs _;rw[e3];exact p4.hd
theorem qOu {run:Nat→Option (Exit×AFr×ASt)}:∀(n:Nat) (r:Exit×AFr×ASt),ways run n=some r→∀c,c<n→∃r',run c=some r'∧qEM r' r
 | 0,r,h,c,hc=>by omega
 | 1,r,h,c,hc=>by
  have:c=0:=by omega
  subst this;exact⟨r,h,qEM.refl r⟩
 | m+2,r,h,c,hc=>by
  simp only[ways] at h
  split at h
  ·rename_i r1 h1
   split at h
   ·rename_i r2 h2;obtain⟨k1,k2⟩:=join_ok h
    by_cases e:c=m+1
    ·subst e;exact⟨r2,h2,k2⟩
    ·obtain⟨r',q1,q2⟩:=qOu (m+1) r1 h1 c (by omega);exact⟨r',q1,q2.trans k1⟩
   ·simp at h
  ·simp at h
section
variable {P:Program} {E:Env} {B:Prot} {w0:World}
theorem qNQ (hE:E.Ok P) {ex:qCy} {call round:CallT} (hex:qEN P B w0 ex) (hc:qGH P B w0 call) (hr:qEt P B w0 round) {ro rl:Option Nat} {body:Code} {Q:Exit→Act→World→Prop} :
  ∀(d:Nat) (fr:AFr) (st:ASt) (r:Exit×AFr×ASt),qHl E call round ex ro body d fr st=some r→r.1≠.normal→∀(ι:Ren) (w:World) (a:Act),SR B w0 ι st w→FRA ι fr a→RO ι ro rl →
   (∀e a' w',qC3 B w0 ι r e a' w'→Q e a' w')→Code.roundsIn (FF rl) 0 P body Q d a w
 | 0,fr,st,r,h,_,_,_,_,_,_,_,_=>by simp[qHl] at h
 | d+1,fr,st,r,h,hn,ι,w,a,hsr,hfr,hro,hQ=>by
  have after:∀(r1 r2:Exit×AFr×ASt),(match (some r1:Option (Exit×AFr×ASt)) with | some (.normal,fr',st')=>qHl E call round ex ro body d fr' st' | r=>r)=some r2→qEM r2 r →
    ∀e a' w',qC3 B w0 ι r1 e a' w'→Exit.then (Code.roundsIn (FF rl) 0 P body Q d) Q e a' w':=by
   intro r1 r2 h1 hw e a' w' hp;obtain⟨e1,fr1,st1⟩:=r1;have he:e=e1:=hp.1;subst he;cases e with
   | normal =>
    simp only at h1;obtain⟨_,ι',h2,h3,h4⟩:=hp;refine qNQ hE hex hc hr d fr1 st1 r2 h1 (by rw[hw.1];exact hn) ι' w' a' h3 h4 (hro.mono h2) (fun e2 a2 w2 hp2=>hQ e2 a2 w2 (hw.2 _ _ _ _ _ _ (hp2.le h2)))
   | _ =>
    simp only[qz1] at h1;subst h1;exact hQ _ a' w' (hw.2 _ _ _ _ _ _ hp)
  rw[roundsIn_succ];simp only[qHl] at h;cases hb:Nat.blt (qI4 body fr st) 2
  ·simp only[hb,cond_false] at h;have h2:2≤qI4 body fr st:=by
    have:¬qI4 body fr st<2:=fun e=>by rw[←Nat.blt_eq] at e;rw[e] at hb;simp at hb
    omega
   have hall:=qOu _ _ h;cases hl:qCO body with
   | none=>simp[qI4,hl] at h2
   | some x =>
    cases hv:evA fr x with
    | none=>simp[qI4,hl,hv] at h2
    | some v =>
     cases hcs:qEB v st with
     | none=>simp[qI4,hl,hv,hcs] at h2
     | some z =>
      obtain⟨i,j,since,seen,ck,cs⟩:=z;have hcn:qI4 body fr st=cs.length:=by simp[qI4,hl,hv,hcs]
      have hne:cs≠[]:=by intro e;subst e;simp[hcn] at h2
      rw[hcn] at hall;refine wpIn_mono (qQf hE hex hc hr hro hv hcs hne hsr hfr body hl (fun c hcl=>?_)) ?_
      ·obtain⟨r',h3,_⟩:=hall c hcl;cases h4:qCN E call round ex ro c body fr st with
       | none=>rw[h4] at h3;simp at h3
       | some r1=>exact⟨r1,rfl⟩
      ·rintro e a' w' ⟨c,r1,hcl,h3,hp⟩;obtain⟨r2,h4,h5⟩:=hall c hcl;simp only[h3] at h4;exact after r1 r2 h4 h5 e a' w' hp
  ·simp only[hb,cond_true] at h;cases h4:ex ro body fr st with
   | none=>rw[h4] at h;simp at h
   | some r1 =>
    rw[h4] at h;exact wpIn_mono (hex ro body fr st r1 h4 ι w a rl hsr hfr hro) (after r1 r h (qEM.refl r))
end
section
variable {P:Program} {E:Env} {B:Prot} {w0:World} {ι:Ren} {st:ASt} {w:World} {fr:AFr} {a:Act}
section
variable (E:Env) (draw:qI8) (ex:qCy) (call round:CallT) (ro:Option Nat) (fr:AFr) (st:ASt)
theorem qOY:qCm E draw ex call round ro .skip fr st=some (.normal,fr,st):=rfl
theorem qM2 (l:Nat):qCm E draw ex call round ro (.label l) fr st=some (.normal,fr,st):=rfl
theorem qO0 (l:Nat):qCm E draw ex call round ro (.exit l) fr st=some (.exit l,fr,st):=rfl
theorem qOZ (l:Nat):qCm E draw ex call round ro (.goto l) fr st=some (.goto l,fr,st):=rfl
theorem qR0:qCm E draw ex call round ro .ret fr st=some (.ret,fr,st):=rfl
theorem qLI (id:Nat) (ops:Array Oper):qCm E draw ex call round ro (.region id ops false) fr st =
 (match qOi (step E call round ops.toList) ops.toList fr st with | some (fr',st')=>some (.normal,fr',st') | none=>none):=rfl
theorem qO1 (id:Nat) (ops:Array Oper):qCm E draw ex call round ro (.region id ops true) fr st =
 (match draw (qBm E call round ops.toList) ops.toList fr st with | some (fr',st')=>some (.normal,fr',st') | none=>none):=rfl
theorem qLH (a b:Code):qCm E draw ex call round ro (.seq a b) fr st=(match ex ro a fr st with | some (.normal,fr',st')=>ex ro b fr' st' | r=>r):=rfl
theorem qO2 (x:Operand) (t e:Code):qCm E draw ex call round ro (.cond x t e) fr st=(match evA fr x with | some (.bool v)=>bif v then ex ro t fr st else ex ro e fr st | _=>none):=rfl
theorem qIN (id:Nat) (b:Code):qCm E draw ex call round ro (.block id b) fr st =
 (match ex ro b fr st with | some (.exit i,fr',st')=>bif Nat.beq i id then some (.normal,fr',st') else some (.exit i,fr',st') | r=>r):=rfl
theorem qM1 (g:Operand) (ps:Array Tmp) (as bo:Code):qCm E draw ex call round ro (.rangeFunc g ps as bo) fr st=qNE call ex ro g ps as bo fr st:=rfl
theorem qM0 (b:Code):qCm E draw ex call round ro (.scope b) fr st=qEG (ex ro) b 8 (ex ro b fr st):=rfl
theorem qLJ (s:String):qCm E draw ex call round ro (.refuse s) fr st=none:=rfl
end
theorem qFU (f:Code→AFr→ASt→Option (Exit×AFr×ASt)) (c:Code) (d:Nat):qEG f c d none=none:=by cases d<;>rfl
theorem qK9 {ex:qCy} (hex:qEN P B w0 ex) {c:Code} {ro rl:Option Nat} {ι:Ren} (hro:RO ι ro rl) :
  ∀(d:Nat) (r1 r:Exit×AFr×ASt),qEG (ex ro) c d (some r1)=some r→∀(e:Exit) (a':Act) (w':World),qC3 B w0 ι r1 e a' w'→qKX (FF rl) 0 P c (qC3 B w0 ι r) d e a' w'
 | 0,(e1,fr,st),r,h,e,a',w',hp=>by
  have he:e=e1:=hp.1;subst he;cases e with
  | goto l =>
   simp only[qEG] at h
   split at h
   ·simp at h
   ·rename_i hf;simp only[qz1] at h;subst h;exact⟨(fun l' hl=>by cases hl;exact hf),hp⟩
  | _=>simp only[qEG,qz1] at h;subst h;exact⟨(fun l' hl=>by cases hl),hp⟩
 | d+1,(e1,fr,st),r,h,e,a',w',hp=>by
  have he:e=e1:=hp.1;subst he;cases e with
  | goto l =>
   simp only[qEG] at h
   split at h
   ·rename_i rest hf;cases hq:ex ro rest fr st with
    | none=>rw[hq,qFU] at h;simp at h
    | some r2 =>
     rw[hq] at h;obtain⟨_,ι',h2,h3,h4⟩:=hp;refine .inl ⟨l,rest,rfl,hf,wpIn_mono (hex ro rest fr st r2 hq ι' w' a' rl h3 h4 (hro.mono h2)) fun e2 a2 w2 hp2=>?_⟩;exact qK9 hex hro d r2 r h e2 a2 w2 (hp2.le h2)
   ·rename_i hf;simp only[qz1] at h;subst h;exact .inr ⟨(fun l' hl=>by cases hl;exact hf),hp⟩
  | _=>simp only[qEG,qz1] at h;subst h;exact .inr ⟨(fun l' hl=>by cases hl),hp⟩
theorem qTg (hE:E.Ok P) {draw:qI8} (hd:qSU P E draw) {ex:qCy} {call round:CallT} (hex:qEN P B w0 ex) (hc:CallsOK P call) (hr:qHQ P round) :
  qEN P B w0 (qCm E draw ex call round):=by
 intro ro c fr st r h ι w a rl hsr hfr hro;have now:∀{e:Exit},some (e,fr,st)=some r→qC3 B w0 ι r e a w:=fun h=>by
  simp only[qz1] at h;subst h;exact⟨rfl,ι,ι.le_refl,hsr,hfr⟩
 cases c with
 | skip=>rw[qOY] at h;exact wpIn_skip (now h)
 | label l=>rw[qM2] at h;exact wpIn_label (now h)
 | exit id=>rw[qO0] at h;exact wpIn_exit (now h)
 | goto l=>rw[qOZ] at h;exact wpIn_goto (now h)
 | ret=>rw[qR0] at h;exact wpIn_ret (now h)
 | region id ops dr =>
  cases dr with
  | false =>
   rw[qLI] at h
   split at h
   ·rename_i fr1 st1 h1;simp only[qz1] at h;subst h;refine wpIn_region ?_;have:=qLw (ro:=rl) hE (hc B w0) (hr B w0) ops.toList 0 fr st fr1 st1 ι w a (fun j=>by simp) h1 hsr hfr (Q:=qC3 B w0 ι (.normal,fr1,st1)) (fun ι' a' w' h1 h2 h3=>⟨rfl,ι',h1,h2,h3⟩);rw[List.range_eq_range'];simpa using this
   ·simp at h
  | true =>
   rw[qO1] at h
   split at h
   ·rename_i fr1 st1 h1;simp only[qz1] at h;subst h;exact hd call round hc hr B w0 ops fr st fr1 st1 h1 ι w a rl id hsr hfr
   ·simp at h
 | seq x y =>
  rw[qLH] at h;refine wpIn_seq ?_
  split at h
  ·rename_i fr1 st1 h1;refine wpIn_mono (hex ro x fr st _ h1 ι w a rl hsr hfr hro) fun e a' w' ⟨he,ι',h2,h3,h4⟩=>?_;simp only at he;subst he;exact wpIn_mono (hex ro y fr1 st1 r h ι' w' a' rl h3 h4 (hro.mono h2)) fun e a'' w'' hp=>hp.le h2
  ·rename_i r1 hne;refine wpIn_mono (hex ro x fr st _ h ι w a rl hsr hfr hro) fun e a' w' hp=>?_;have he:=hp.1;cases e with
   | normal =>
    exfalso;obtain⟨e1,f1,s1⟩:=r;simp only at he;subst he;exact hne f1 s1 h
   | _=>exact hp
 | cond x t e =>
  rw[qO2] at h
  split at h
  ·rename_i v hv;have hxv:=qEI hfr.hf hv;generalize hxe:a.eval x=xv at hxv;cases hxv;refine wpIn_cond hxe ?_;cases v
   ·exact hex ro e fr st r h ι w a rl hsr hfr hro
   ·exact hex ro t fr st r h ι w a rl hsr hfr hro
  ·simp at h
 | block id body=>rw[qIN] at h;exact qXQ hex hsr hfr hro h
 | loop body =>
  have h0:(match qCO body with
   | some _=>(match qHl E call round ex ro body 1000 fr st with | some (.normal,_,_)=>none | r=>r)
   | none=>(match qDv (ex ro body) 24 fr st with | some (.normal,_,_)=>none | r=>r))=some r:=h
  clear h
  split at h0
  ·generalize hq:qHl E call round ex ro body 1000 fr st=q at h0
   split at h0
   ·simp at h0
   ·rename_i r1 hne;subst h0;exact wpIn_loop_rounds 1000 (qNQ hE hex (hc B w0) (hr B w0) 1000 fr st r hq (fun hr=>by
     obtain⟨e1,f1,s1⟩:=r;simp only at hr;subst hr;exact hne f1 s1 rfl) ι w a hsr hfr hro (fun _ _ _ hp=>hp))
  ·rename_i hlh;generalize hq:qDv (ex ro body) 24 fr st=q at h0
   split at h0
   ·simp at h0
   ·rename_i r1 hne;subst h0;refine q0C hex hsr hfr hro 24 hq fun hr=>?_;obtain⟨e1,f1,s1⟩:=r;simp only at hr;subst hr;exact hne f1 s1 rfl
 | rangeFunc g ps as bo=>rw[qM1] at h;exact qTC hex (hc B w0) hsr hfr hro h
 | scope b =>
  rw[qM0] at h;cases hq:ex ro b fr st with
  | none=>rw[hq,qFU] at h;simp at h
  | some r1 =>
   rw[hq] at h;exact qOD 8 (wpIn_mono (hex ro b fr st r1 hq ι w a rl hsr hfr hro) fun e a' w' hp=>qK9 hex hro 8 r1 r h e a' w' hp)
 | refuse s=>rw[qLJ] at h;simp at h
end
section
variable {P:Program} {E:Env} {B:Prot} {w0:World} {ι:Ren} {st:ASt} {w:World} {fr:AFr} {a:Act}
theorem qHa:∀(vs:List AV) (k:Nat) (m:T AV) (t:Nat),(qAM vs k m).get t=if k≤t∧t<k+vs.length then vs[t - k]? else m.get t
 | [],k,m,t=>by
  have:¬(k≤t∧t<k+([]:List AV).length):=by simp
  rw[if_neg this];rfl
 | v::vs,k,m,t=>by
  simp only[qAM,qHa vs (k+1),T.get_set,List.length_cons]
  by_cases h:t=k
  ·subst h;have h1:¬(t+1≤t∧t<t+1+vs.length):=by omega
   have h2:t≤t∧t<t+(vs.length+1):=by omega
   rw[if_neg h1,if_pos rfl,if_pos h2];simp
  ·by_cases h3:k+1≤t∧t<k+1+vs.length
   ·have h4:k≤t∧t<k+(vs.length+1):=by omega
    rw[if_pos h3,if_pos h4];have:t - k=(t - (k+1))+1:=by omega
    rw[this,List.getElem?_cons_succ]
   ·have h4:¬(k≤t∧t<k+(vs.length+1)):=by omega
    rw[if_neg h3,if_neg h4,if_neg h]
theorem qNl {args:List AV} {args':Array Value} {n:Nat} (hn:args.length≤n) (h:VRs ι args args') :
  FR ι {m:=qAM args 0 .e,n:=n,defs:=[]} (args'++Array.replicate (n - args'.size) undef):=by
 have hs:=h.size;refine⟨by simp;omega,fun t=>?_⟩;simp only[qHa,T.get_e]
 by_cases ht:t<args.length
 ·have h1:0≤t∧t<0+args.length:=by omega
  rw[if_pos h1];have e1:args[t - 0]? = some (args[t]'ht):=by simp[ht]
  have ht':t<args'.size:=by omega
  have e2:(args'++Array.replicate (n - args'.size) undef).getD t undef=args'[t]'ht':=by
   simp[Array.getD_eq_getD_getElem?,Array.getElem?_append,ht']
  rw[e1,e2];exact h.at_ t _ _ (by simp[ht]) (by simp[ht'])
 ·have h1:¬(0≤t∧t<0+args.length):=by omega
  rw[if_neg h1];have ht':¬t<args'.size:=by omega
  have e2:(args'++Array.replicate (n - args'.size) undef).getD t undef=undef:=by
   rw[Array.getD_eq_getD_getElem?,Array.getElem?_append,if_neg ht']
   by_cases h2:t - args'.size<n - args'.size<;>simp[h2]
  rw[e2];exact VR.undef ι
theorem qMu:∀(ps:List Tmp) (vs:List AV) (fr fr':AFr) (tmps:Array Value) (vs':List Value),qJ2 ps vs fr=some fr'→FR ι fr tmps→VRs ι vs vs'.toArray →
  ps.length=vs'.length∧FR ι fr' ((ps.zip vs').foldl (fun tmps p=>tmps.setIfInBounds p.1 p.2) tmps)∧fr'.defs=fr.defs
 | [],[],fr,fr',tmps,vs',h,hf,hv=>by
  simp only[qJ2,qz1] at h;subst h;have:=hv.size;simp at this;have:vs'=[]:=List.eq_nil_of_length_eq_zero this.symm;subst this;exact⟨rfl,hf,rfl⟩
 | t::ts,v::vs,fr,fr',tmps,vs',h,hf,hv=>by
  simp only[qJ2] at h
  split at h
  ·rename_i fr1 hp;cases vs' with
   | nil=>have:=hv.size;simp at this
   | cons v' vs' =>
    have h0:VR ι v v':=hv.at_ 0 v v' rfl rfl;have hput:=qH9 (a:={tmps:=tmps,defers:=[]}) (fr:={fr with defs:=[]}) ⟨hf,trivial⟩ (dst:=some t) (fr':={fr1 with defs:=[]}) h0 (by
     obtain⟨m,n,ds⟩:=fr;simp only[AFr.put] at hp ⊢;cases hb:Nat.ble (Nat.succ t) n
     ·simp[hb] at hp
     ·simp only[hb,cond_true,qz1] at hp ⊢;subst hp;rfl)
    have hd:fr1.defs=fr.defs:=by
     obtain⟨m,n,ds⟩:=fr;simp only[AFr.put] at hp;cases hb:Nat.ble (Nat.succ t) n
     ·simp[hb] at hp
     ·simp only[hb,cond_true,qz1] at hp;subst hp;rfl
    have hv1:VRs ι vs vs'.toArray:=⟨by have:=hv.size;simpa using this,fun i x x' hx hx'=>hv.at_ (i+1) x x' (by simpa using hx) (by simpa using hx')⟩;obtain⟨i1,i2,i3⟩:=qMu ts vs fr1 fr' (tmps.setIfInBounds t v') vs' h hput.hf hv1;exact⟨by simp[i1],by simpa using i2,by rw[i3,hd]⟩
  ·simp at h
 | [],_::_,_,_,_,_,h,_,_=>by simp[qJ2] at h
 | _::_,[],_,_,_,_,h,_,_=>by simp[qJ2] at h
theorem qV2 (ps:Array Tmp) (vs:Array Value) (tmps:Array Value) :
  (ps.zip vs).foldl (fun tmps (t,a)=>tmps.setIfInBounds t a) tmps=(ps.toList.zip vs.toList).foldl (fun tmps p=>tmps.setIfInBounds p.1 p.2) tmps:=by
 rw[←Array.foldl_toList,Array.toList_zip]
theorem qGS {F:Fence} {fn:Func} {tmps:Array Value} {R:Ending→World→Prop}:∀(is:List Nat) (st st':ASt) (ds:List Deferred) (w:World),qD4 is st=some st'→SR B w0 ι st w→DR ι is ds →
  (∀w',SR B w0 ι st' w'→LeavesIn F 0 P fn tmps R [] .returning w')→LeavesInM F 0 P fn tmps R ds .returning w
 | [],st,st',[],w,h,hsr,_,hk=>by
  simp only[qD4,qz1] at h;subst h;exact hk w hsr
 | i::is,st,st',d::ds,w,h,hsr,⟨⟨L,hL,hd⟩,hr⟩,hk=>by
  simp only[qD4] at h
  split at h
  ·rename_i hi;obtain⟨L',o,h1,h2,h3⟩:=hsr.obj i .defd hi (by simp);rw[hL] at h1;cases h1;have h3:o=.deferred (some []):=h3;rw[h3] at h2;refine⟨by simp,.inl ⟨L.b,_,by rw[hd],run_takeDeferred h2,?_⟩⟩;have hw:SR B w0 ι (st.put i .dead) (w.putObj L.b (.deferred none)):=by
    have hlt:L.b<w.heap.size:=by
     have:=Array.getElem?_eq_some_iff.1 h2;exact this.1
    have hB:=(hsr.own i .defd L hi rfl hL);refine⟨Keeps.setObjW hsr.below hB.1 _,?_,?_,?_,hsr.dom,?_,?_,hsr.res,hsr.glob⟩
    ·intro k hk;have:=hsr.base k hk;simpa using this
    ·intro j x hj hx;have hget:(st.put i .dead).h.get j=if j=i then some .dead else st.h.get j:=T.get_set _ _ _ _ _;rw[hget] at hj
     by_cases e:j=i
     ·simp only[e,if_true,qz1] at hj;exact absurd hj.symm hx
     ·simp only[e,if_false] at hj;obtain⟨L2,o2,g1,g2,g3⟩:=hsr.obj j x hj hx;refine⟨L2,o2,g1,?_,g3⟩;rw[World.putObj_heap_other]
      ·exact g2
      ·intro hb;exact e (hB.2 j x L2 hj hx g1 hb)
    ·exact (hsr.kill hi).own
    ·exact (hsr.kill hi).hdom
    ·exact (hsr.kill hi).ro
   exact qGS is _ st' ds _ h hw hr hk
  ·simp at h
 | [],_,_,_::_,_,_,_,h,_=>h.elim
 | _::_,_,_,[],_,_,_,h,_=>h.elim
theorem qLt (hE:E.Ok P) (hsr:SR B w0 ι st w) (hf:FR ι fr a.tmps):∀(rs:List ResultVar) (vs:List AV),qHA E fr st rs=some vs →
  ∃vs':List Value,(rs.mapM (m:=Sem) fun
   | .tmp t=>pure (a.tmps.getD t undef)
   | .cell x t=>do loadVar t (←asAddr (a.tmps.getD x undef))).run P w=.ok vs' w∧VRs ι vs vs'.toArray
 | [],vs,h=>by
  simp only[qHA,qz1] at h;subst h;exact⟨[],by simp[Sem.run_pure],⟨rfl,fun i v v' h=>by simp at h⟩⟩
 | r::rs,vs,h=>by
  simp only[qHA] at h
  split at h
  ·rename_i v hv
   split at h
   ·rename_i vs1 h1;simp only[qz1] at h;subst h;obtain⟨vs',i1,i2⟩:=qLt hE hsr hf rs vs1 h1;have one:∃v',((match r with
      | .tmp t=>pure (a.tmps.getD t undef)
      | .cell x t=>do loadVar t (←asAddr (a.tmps.getD x undef)):Sem Value)).run P w=.ok v' w∧VR ι v v':=by
     cases r with
     | tmp t =>
      simp only[qz1] at hv;subst hv;exact⟨_,Sem.run_pure _ _ _,hf.2 t⟩
     | cell x t =>
      simp only at hv
      split at hv
      ·rename_i y hy;simp only[qz1] at hv;subst hv;have hx:=hf.2 x
       revert hy hx
       generalize (fr.m.get x).getD qAC=av;show _→_→∃v',(do loadVar t (←asAddr (a.tmps.getD x undef))).run P w=_∧_;generalize a.tmps.getD x undef=xv;intro hy hx;cases hx with
       | ptr i o L hL =>
        obtain⟨v',g1,g2,g3⟩:=qLW hE hsr hL hy;refine⟨v',?_,g2⟩;simp only[asAddr,Sem.run_bind,Sem.run_pure,Result.andThen_ok,g1]
       | gptr g o =>
        obtain⟨v',g1,g2,g3⟩:=qJE hE hsr hy;refine⟨v',?_,g2⟩;simp only[asAddr,Sem.run_bind,Sem.run_pure,Result.andThen_ok,g1]
       | _=>simp[qAQ] at hy
      ·simp at hv
    obtain⟨v',o1,o2⟩:=one;refine⟨v'::vs',?_,⟨by have:=i2.size;simpa using this,fun i x x' hx hx'=>?_⟩⟩
    ·simp only[List.mapM_cons,Sem.run_bind,Sem.run_pure];rw[o1];simp only[Result.andThen_ok,i1]
    ·cases i with
     | zero=>simp at hx hx';subst hx;subst hx';exact o2
     | succ i=>simp at hx hx';exact i2.at_ i x x' hx (by simpa using hx')
   ·simp at h
  ·simp at h
theorem qQi (hE:E.Ok P) {fn:Func} {r:AV×ASt} (hsr:SR B w0 ι st w) (hf:FRA ι fr a) (h:leaveA E fn fr st=some r) {ι0:Ren} (hle:ι0.le ι) :
  LeavesInM Fence.wide 0 P fn a.tmps (qGw B w0 ι0 r) a.defers .returning w:=by
 simp only[leaveA] at h
 split at h
 ·rename_i st' hk
  split at h
  ·rename_i vs hv;simp only[qz1] at h;subst h;refine qGS fr.defs st st' a.defers w hk hsr hf.hd fun w' hsr'=>?_;obtain⟨vs',h1,h2⟩:=qLt hE hsr' hf.hf fn.results.toList vs hv;have hrun:(results fn a.tmps).run P w'=.ok (if h:vs'.toArray.size=1 then vs'.toArray[0] else .tuple vs'.toArray) w':=by
    unfold results;rw[Array.mapM_eq_mapM_toList];simp only[Sem.run_bind,map_eq_pure_bind,Sem.run_pure];exact congrArg (fun r:Result (List Value)=>(r.andThen fun a w'=>Result.ok a.toArray w').andThen fun a w'=>Result.ok (if h:a.size=1 then a[0] else Value.tuple a) w') h1
   refine⟨_,hrun,_,ι,rfl,hle,hsr',?_⟩;show VR ι (qUd vs) _;have hs:=h2.size
   match vs,hs,h2 with
   | [],hs,h2 =>
    have:¬vs'.toArray.size=1:=by simp at hs ⊢;omega
    simp only[this,dite_false];exact .tuple _ _ h2.size h2.at_
   | [x],hs,h2 =>
    have:vs'.toArray.size=1:=by simp at hs ⊢;omega
    simp only[this,dite_true];exact h2.at_ 0 x _ rfl (by simp)
   | x::y::zs,hs,h2 =>
    have:¬vs'.toArray.size=1:=by simp at hs ⊢;omega
    simp only[this,dite_false];exact .tuple _ _ h2.size h2.at_
  ·simp at h
 ·simp at h
theorem qTv (hE:E.Ok P) {ex:qCy} (hex:qEN P B w0 ex):qGH P B w0 (qFy E ex):=by
 intro f args st r h ι w args' hsr hargs;simp only[qFy] at h
 split at h
 ·simp at h
 rename_i fn hfn
 split at h
 ·simp at h
 rename_i c hc;cases hb:Nat.ble args.length fn.ntmps
 ·simp[hb] at h
 simp only[hb,cond_true] at h;refine⟨hE.call f fn hfn args' w,callsIn_of_wp_marks (hE.fn f fn hfn) hc trivial ?_⟩;have hfr:FRA ι {m:=qAM args 0 .e,n:=fn.ntmps,defs:=[]} {tmps:=args'++Array.replicate (fn.ntmps - args'.size) undef,defers:=[]} :=
  ⟨qNl (Nat.le_of_ble_eq_true hb) hargs,trivial⟩
 have key:∀fr1 st1 e,ex none c {m:=qAM args 0 .e,n:=fn.ntmps,defs:=[]} st=some (e,fr1,st1)→leaveA E fn fr1 st1=some r→(e=.normal∨e=.ret) →
   c.wpIn Fence.wide 0 P (bodyPostM Fence.wide 0 P fn (qGw B w0 ι r)) {tmps:=args'++Array.replicate (fn.ntmps - args'.size) undef,defers:=[]} w:=by
  intro fr1 st1 e h1 h2 he;refine wpIn_mono (hex none c _ st _ h1 ι w _ none hsr hfr trivial) fun e' a' w' ⟨he',ι',g1,g2,g3⟩=>?_;simp only at he';subst he';have:=qQi hE g2 g3 h2 g1;rcases he with rfl | rfl<;>exact this
 split at h
 ·rename_i fr1 st1 h1;exact key fr1 st1 _ h1 h (.inl rfl)
 ·rename_i fr1 st1 h1;exact key fr1 st1 _ h1 h (.inr rfl)
 ·simp at h
theorem qXS {l:Nat} {j:Option Code} {r:AV×ASt} (hsr:SR B w0 ι st w) {L:Loc} (hL:ι l=some L) (h:qR4 l j st=some r) {ι0:Ren} (hle:ι0.le ι) :
  ∃v w',(Instr.endRound L.b j).run P w=.ok v w'∧qGw B w0 ι0 r (.returned v) w':=by
 simp only[qR4] at h
 split at h
 ·rename_i s pe tm ps as bo de hl;obtain⟨q,q1,q2,q3,q4,q5,q6,q7,D0,q8,q9⟩:=qHk hsr hl hL;refine⟨_,_,run_endRound j q1,_,ι,rfl,hle,?_⟩;cases j with
  | none =>
   simp only[qz1] at h;subst h;exact⟨hsr.write hl rfl hL ⟨_,rfl,rfl,rfl,q4,q5,q6,q7,D0,q8,q9⟩,.bool true⟩
  | some c =>
   simp only[qz1] at h;subst h;exact⟨hsr.write hl rfl hL ⟨_,rfl,rfl,rfl,q4,q5,q6,q7,D0,q8,q9⟩,.bool false⟩
 ·simp at h
theorem qPy {ex:qCy} (hex:qEN P B w0 ex):qEt P B w0 (qH6 ex):=by
 intro l args st r h ι w args' L hsr hargs hL;simp only[qH6] at h
 split at h
 rotate_left
 ·simp at h
 rename_i s pe tm ps as bo de hl;obtain⟨q,q1,q2,q3,q4,q5,q6,q7,D0,q8,q9⟩:=qHk hsr hl hL
 split at h
 ·simp at h
 rename_i fr hps;have hargs':VRs ι args args'.toList.toArray:=by simpa using hargs
 obtain⟨s1,s2,s3⟩:=qMu ps args _ fr q.tmps args'.toList hps q4 hargs';have hsz:args'.size=q.params.size:=by
  have:ps.length=q.params.size:=by rw[←q5];simp
  simp at s1;omega
 refine⟨q.fn,_,q.assign,q.body,run_yield q1 hsz,?_⟩;rw[qV2,q5,q6,q7];have hfr:FRA ι fr {tmps:=(ps.zip args'.toList).foldl (fun tmps p=>tmps.setIfInBounds p.1 p.2) q.tmps,defers:=[]}:=⟨s2,by rw[s3];trivial⟩
 split at h
 rotate_left
 ·simp at h
 rename_i fr1 st1 h1
 split at h
 rotate_left
 ·simp at h
 rename_i pe1 tm1 ps1 as1 bo1 de1 hl1;refine roundIn_of_wpIn trivial ?_;refine wpIn_mono (hex (some l) as fr st _ h1 ι w _ (some L.b) hsr hfr ⟨L,hL,rfl⟩) fun e a1 w1 ⟨he,ι1,g1,g2,g3⟩=>?_;simp only at he g2 g3;subst he;have hL1:=g1 _ _ hL;obtain⟨p,p1,p2,p3,p4,p5,p6,p7,D1,p8,p9⟩:=qHk g2 hl1 hL1;refine⟨_,run_beginRound p1 p2,?_⟩;have hsr1:SR B w0 ι1 (st1.put l (.loop .busy pe1 tm1 ps1 as1 bo1 de1)) (w1.putObj L.b (.loop {p with state:=.busy})) :=
  g2.write hl1 rfl hL1 ⟨_,rfl,rfl,p3,p4,p5,p6,p7,D1,p8,p9⟩
 have fin:∀e fr2 st2 j,ex (some l) bo fr1 (st1.put l (.loop .busy pe1 tm1 ps1 as1 bo1 de1))=some (e,fr2,st2)→qR4 l j st2=some r →
   (∀a2 w2,(∃v w',(Instr.endRound L.b j).run P w2=.ok v w'∧qGw B w0 ι r (.returned v) w')→roundPost P L.b (qGw B w0 ι r) e a2 w2) →
   bo.wpIn (Fence.wide.inRound L.b) 0 P (roundPost P L.b (qGw B w0 ι r)) a1 (w1.putObj L.b (.loop {p with state:=.busy})):=by
  intro e fr2 st2 j h2 h3 hq;refine wpIn_mono (hex (some l) bo fr1 _ _ h2 ι1 _ a1 (some L.b) hsr1 g3 ⟨L,hL1,rfl⟩) fun e2 a2 w2 ⟨he2,ι2,k1,k2,k3⟩=>?_;simp only at he2;subst he2;exact hq a2 w2 (qXS k2 (k1 _ _ hL1) h3 (Ren.le_trans g1 k1))
 split at h
 ·rename_i fr2 st2 h2;exact fin _ fr2 st2 none h2 h (fun _ _ h=>h)
 ·rename_i fr2 st2 h2;exact fin _ fr2 st2 _ h2 h (fun _ _ h=>h)
 ·rename_i id fr2 st2 h2;exact fin _ fr2 st2 _ h2 h (fun _ _ h=>h)
 ·rename_i t fr2 st2 h2;exact fin _ fr2 st2 _ h2 h (fun _ _ h=>h)
 ·simp at h
structure Mach.Ok (P:Program) (m:Mach):Prop where
 ex:∀B w0,qEN P B w0 m.ex
 call:CallsOK P m.call
 round:qHQ P m.round
theorem qSQ (hE:E.Ok P) {draw:qI8} (hd:qSU P E draw) {sum:CallT} (hs:CallsOK P sum):∀n,(M E draw sum n).Ok P
 | 0=>⟨fun _ _ _ _ _ _ _ h=>by simp[M] at h,fun _ _ _ _ _ _ h=>by simp[M] at h,fun _ _ _ _ _ _ h=>by simp[M] at h⟩
 | n+1=>by
  have ih:=qSQ hE hd hs n;refine⟨fun B w0=>qTg hE hd (ih.ex B w0) ih.call ih.round,?_,fun B w0=>qPy (ih.ex B w0)⟩;intro B w0 f args st r h;have h:(match sum f args st with | some r=>some r | none=>qFy E (M E draw sum n).ex f args st)=some r:=h
  split at h
  ·rename_i r1 h1;simp only[qz1] at h;subst h;exact hs B w0 f args st _ h1
  ·exact qTv hE (ih.ex B w0) f args st r h
def st0:ASt:={h:=.e,next:=0}
def Old (w:World):Prot:=⟨fun _=>False,fun k=>k<w.heap.size,fun _=>False⟩
theorem qMr (w:World) (hg:qGG w:=by intro _ _ h;cases h):SR (Old w) w (fun _=>none) st0 w :=
 ⟨Keeps.refl _ _,fun _ h=>h.elim (fun h=>h.elim) (fun h=>h),fun i a h=>by simp[st0,T.get_e] at h,fun i a L h=>by simp[st0,T.get_e] at h,fun i L h=>by simp at h,fun i a h=>by simp[st0,T.get_e] at h,fun i a L h=>by simp[st0,T.get_e] at h,fun i h=>h.elim,fun g cs h=>⟨.inr (hg g cs h).lt,hg g cs h⟩⟩
def isTrue:Option (AV×ASt)→Bool
 | some (.bool b,_)=>b
 | _=>false
end
def tmpsOf:List Operand→List Tmp
 | []=>[]
 | .tmp t::xs=>t::tmpsOf xs
 | _::xs=>tmpsOf xs
def qHM (ops:List Oper) (o:Oper):List Tmp :=
 match o.guard with
 | none=>[]
 | some (j,_)=>match ops[j]? with | some oj=>(match oj.dst with | some d=>[d] | none=>[]) | none=>[]
def looks (ops:List Oper) (o:Oper):List Tmp:=tmpsOf o.op.operands.toList++qHM ops o
def AgreeOn (l:List Tmp) (fr fr':AFr):Prop:=∀t,t∈l→(fr.m.get t).getD qAC=(fr'.m.get t).getD qAC
theorem qDi:∀{l:List Operand} {t:Tmp},.tmp t∈l→t∈tmpsOf l
 | .tmp u::l,t,h=>by
  rcases List.mem_cons.1 h with h | h
  ·cases h;exact List.mem_cons_self
  ·exact List.mem_cons_of_mem _ (qDi h)
 | .const _::l,t,h=>by
  rcases List.mem_cons.1 h with h | h
  ·cases h
  ·exact qDi (l:=l) h
 | .global _::l,t,h=>by
  rcases List.mem_cons.1 h with h | h
  ·cases h
  ·exact qDi (l:=l) h
 | .func _::l,t,h=>by
  rcases List.mem_cons.1 h with h | h
  ·cases h
  ·exact qDi (l:=l) h
section
variable {E:Env} {call round:CallT} {ops:List Oper} {o:Oper} {fr fr':AFr} {st:ASt}
theorem qCg {l:List Operand} (h:AgreeOn (tmpsOf l) fr fr') {x:Operand} (hx:x∈l):evA fr x=evA fr' x:=by
 cases x with
 | tmp t=>simp only[evA];rw[h t (qDi hx)]
 | _=>rfl
theorem qFw {l:List Operand} (h:AgreeOn (tmpsOf l) fr fr'):∀(xs:List Operand),(∀x,x∈xs→x∈l)→evL fr xs=evL fr' xs
 | [],_=>rfl
 | x::xs,hx=>by
  simp only[evL,qCg h (hx x List.mem_cons_self),qFw h xs (fun y hy=>hx y (List.mem_cons_of_mem _ hy))]
theorem qIO {l:List Operand} (h:AgreeOn (tmpsOf l) fr fr'):∀(x:Option Operand),(∀y,x=some y→y∈l)→evO fr x=evO fr' x
 | none,_=>rfl
 | some x,hx=>by simp only[evO,qCg h (hx x rfl)]
theorem qFv {l:List Operand} (h:AgreeOn (tmpsOf l) fr fr'):∀(xs:List (Nat×Operand)),(∀x,x∈xs→x.2∈l)→evP fr xs=evP fr' xs
 | [],_=>rfl
 | x::xs,hx=>by
  simp only[evP,qCg h (hx x List.mem_cons_self),qFv h xs (fun y hy=>hx y (List.mem_cons_of_mem _ hy))]
theorem qRx (h:AgreeOn (tmpsOf o.op.operands.toList) fr fr'):aOp E call round o fr st=aOp E call round o fr' st:=by
 have hev:∀{x:Operand},x∈o.op.operands.toList→evA fr x=evA fr' x:=fun hx=>qCg h hx;obtain⟨dst,op,type,pos,after,guard⟩:=o;cases op with
 | call c =>
  have ha:evL fr c.args.toList=evL fr' c.args.toList:=qFw h _ (fun x hx=>by
   simp only[Op.operands,Call.operands];cases c.callee<;>simp_all)
  simp only[aOp,qLY];rw[ha];cases hc:c.callee with
  | value f =>
   have hf:evA fr f=evA fr' f:=hev (by simp[Op.operands,Call.operands,hc]);simp only[hf]
  | _=>rfl
 | build t ps =>
  have:=qFv h ps.toList (fun x hx=>by simp[Op.operands];exact⟨x.1,by simpa using hx⟩);simp only[aOp,this]
 | buildSlice t n ps =>
  have:=qFv h ps.toList (fun x hx=>by simp[Op.operands];exact⟨x.1,by simpa using hx⟩);simp only[aOp,this]
 | makeFunc f first caps =>
  have h2:=qFw h caps.toList (fun x hx=>by simp[Op.operands];right;simpa using hx);have h1:=qFw h first.toList (fun x hx=>by simp[Op.operands];left;simpa using hx);simp only[aOp];cases hf:first.toList with
  | nil=>simp only[h2]
  | cons f0 fs0=>rw[hf] at h1;simp only[h1,h2]
 | slice t x lo hi mx =>
  have h1:evA fr x=evA fr' x:=hev (by simp[Op.operands]);have h2:=qIO h lo (fun y hy=>by simp[Op.operands,hy]);have h3:=qIO h hi (fun y hy=>by simp[Op.operands,hy]);have h4:=qIO h mx (fun y hy=>by simp[Op.operands,hy]);simp only[aOp,h1,h2,h3,h4]
 | move x=>simp only[aOp,hev (x:=x) (by simp[Op.operands])]
 | assign x=>simp only[aOp,hev (x:=x) (by simp[Op.operands])]
 | pick c x y=>simp only[aOp,hev (x:=c) (by simp[Op.operands]),hev (x:=x) (by simp[Op.operands]),hev (x:=y) (by simp[Op.operands])]
 | box t x=>simp only[aOp,hev (x:=x) (by simp[Op.operands])]
 | load t x=>simp only[aOp,hev (x:=x) (by simp[Op.operands])]
 | store t x y=>simp only[aOp,hev (x:=x) (by simp[Op.operands]),hev (x:=y) (by simp[Op.operands])]
 | nilCheck x=>simp only[aOp,hev (x:=x) (by simp[Op.operands])]
 | binOp op t x y yt=>simp only[aOp,hev (x:=x) (by simp[Op.operands]),hev (x:=y) (by simp[Op.operands])]
 | unOp op t x=>simp only[aOp,hev (x:=x) (by simp[Op.operands])]
 | convert s d x=>simp only[aOp,hev (x:=x) (by simp[Op.operands])]
 | makeInterface t x=>simp only[aOp,hev (x:=x) (by simp[Op.operands])]
 | makeSlice t x y=>simp only[aOp,hev (x:=x) (by simp[Op.operands]),hev (x:=y) (by simp[Op.operands])]
 | fieldAddr s x f=>simp only[aOp,hev (x:=x) (by simp[Op.operands])]
 | field t x f=>simp only[aOp,hev (x:=x) (by simp[Op.operands])]
 | indexAddr t x y=>simp only[aOp,hev (x:=x) (by simp[Op.operands]),hev (x:=y) (by simp[Op.operands])]
 | index t x y=>simp only[aOp,hev (x:=x) (by simp[Op.operands]),hev (x:=y) (by simp[Op.operands])]
 | typeAssert x xt t ok=>simp only[aOp,hev (x:=x) (by simp[Op.operands])]
 | extract x i=>simp only[aOp,hev (x:=x) (by simp[Op.operands])]
 | mapUpdate t x y z=>simp only[aOp,hev (x:=x) (by simp[Op.operands]),hev (x:=y) (by simp[Op.operands]),hev (x:=z) (by simp[Op.operands])]
 | insert t x y z=>simp only[aOp,hev (x:=x) (by simp[Op.operands]),hev (x:=y) (by simp[Op.operands]),hev (x:=z) (by simp[Op.operands])]
 | lookup t x y ok=>simp only[aOp,hev (x:=x) (by simp[Op.operands]),hev (x:=y) (by simp[Op.operands])]
 | range t x=>simp only[aOp,hev (x:=x) (by simp[Op.operands])]
 | next x s=>simp only[aOp,hev (x:=x) (by simp[Op.operands])]
 | entry x=>simp only[aOp,hev (x:=x) (by simp[Op.operands])]
 | _=>rfl
theorem qLo (h:AgreeOn (looks ops o) fr fr'):qBm E call round ops o fr st=qBm E call round ops o fr' st:=by
 have h1:AgreeOn (tmpsOf o.op.operands.toList) fr fr':=fun t ht=>h t (List.mem_append_left _ ht);have h2:qAt ops fr o=qAt ops fr' o:=by
  simp only[qAt];cases hg:o.guard with
  | none=>rfl
  | some gw =>
   obtain⟨j,want⟩:=gw;simp only;cases hj:ops[j]? with
   | none=>rfl
   | some oj =>
    simp only;cases hd:oj.dst with
    | none=>rfl
    | some d =>
     simp only;rw[h d (List.mem_append_right _ (by simp[qHM,hg,hj,hd]))]
 have h3:qBZ ops fr o=qBZ ops fr' o:=by
  simp only[qBZ];cases hg:o.guard with
  | none=>rfl
  | some gw =>
   obtain⟨j,want⟩:=gw;simp only;cases hj:ops[j]? with
   | none=>rfl
   | some oj =>
    simp only;cases hd:oj.dst with
    | none=>rfl
    | some d =>
     simp only;rw[h d (List.mem_append_right _ (by simp[qHM,hg,hj,hd]))]
 simp only[qBm,h2,h3,qRx h1]
def qBS (E:Env) (o:Oper):Bool :=
 match o.op with
 | .move _ | .assign _ | .pick .. | .build .. | .load .. | .nilCheck _ | .binOp .. | .unOp .. | .makeInterface .. | .makeFunc .. | .slice .. | .fieldAddr .. | .field .. | .indexAddr .. | .index .. | .typeAssert .. | .extract .. | .lookup .. | .entry ..=>true
 | .convert s d _=>match E.ty.get d with | some td=>(match td.desc with | .int _=>true | .string=>true | .slice _=>(match E.ty.get s with | some ts=>(match ts.desc with | .slice _=>true | _=>false) | none=>false) | _=>false) | none=>false
 | .call c =>
  match c.callee with
  | .builtin b=>match b with | .len | .cap | .min | .max=>true | _=>false
  | .value f=>match f with | .func g=>(match E.ex.get g with | some _=>true | none=>false) | _=>false
  | _=>false
 | _=>false
theorem qMq {x:Option AV} {r:AV×ASt} (h:still st x=some r):r.2=st:=by
 cases x with
 | none=>simp[still] at h
 | some y=>simp only[still,qz1] at h;subst h;rfl
theorem qUJ {t:TypeId} {a:AV} {r:AV×ASt} (h:qAQ E t a st=some r):r.2=st:=by
 simp only[qAQ] at h
 split at h
 ·split at h
  ·split at h
   ·rename_i ti _;cases hb:qC0 ti.desc
    ·rw[hb] at h;simp only[cond_false] at h
     split at h
     ·simp only[qz1] at h;subst h;rfl
     ·simp at h
    ·rw[hb] at h;simp only[cond_true] at h
     split at h
     ·simp only[qz1] at h;subst h;rfl
     ·simp at h
   ·simp at h
  ·simp at h
 ·split at h
  ·split at h
   ·rename_i ti _;cases hb:qC0 ti.desc
    ·rw[hb] at h;simp only[cond_false] at h
     split at h
     ·simp only[qz1] at h;subst h;rfl
     ·simp at h
    ·rw[hb] at h;simp only[cond_true] at h
     split at h
     ·simp only[qz1] at h;subst h;rfl
     ·simp at h
   ·simp at h
  ·simp at h
 ·simp at h
theorem qT3 {r:AV×ASt} (hl:qBS E o=true) (h:aOp E call round o fr st=some r):r.2=st:=by
 obtain⟨dst,op,type,pos,after,guard⟩:=o;have hst:∀{x:Option AV},still st x=some r→r.2=st:=fun h=>qMq h;cases op with
 | load t x => 
  simp only[aOp] at h
  split at h
  ·exact qUJ h
  ·simp at h
 | convert s d x =>
  simp only[qBS] at hl;simp only[aOp] at h
  split at h
  ·rename_i v _;simp only[qA5] at h
   split at h
   ·simp at h
   rename_i td htd;rw[htd] at hl;simp only at hl
   split at hl
   ·rename_i k hk;rw[hk] at h
    split at h
    ·simp at h
    simp only at h
    split at h
    ·simp only[qz1] at h;subst h;rfl
    ·simp at h
   ·rename_i hk;rw[hk] at h
    split at h
    ·simp at h
    simp only at h
    repeat' split at h
    all_goals first | (simp only[qz1] at h;subst h;rfl) | simp at h
   ·rename_i e hk;rw[hk] at h
    split at hl
    ·rename_i ts hts
     split at hl
     ·rename_i e' hk';simp only[hts,hk'] at h
      split at h
      ·simp at h
      ·cases hb:Nat.beq s d
       ·rw[hb] at h;simp at h
       ·rw[hb] at h;simp only[cond_true] at h
        repeat' split at h
        all_goals first | (simp at h;done) | (simp only[qz1] at h;subst h;rfl)
      ·simp at h
     ·simp at hl
    ·simp at hl
   ·simp at hl
  ·simp at h
 | call c =>
  simp only[qBS] at hl;simp only[aOp,qLY] at h
  split at h
  ·simp at h
  rename_i args _
  split at h
  ·rename_i b hb;rw[hb] at hl;have old:(match b with | .len | .cap | .min | .max=>true | _=>false)=true→∀ts l,qCU E b ts l st=some r→r.2=st:=by
    intro hl ts l h;simp only[qCU] at h;cases b<;>simp only[Bool.false_eq_true] at hl<;>simp only at h<;>(split at h)<;>first | (simp at h;done) | skip
    all_goals (split at h)<;>first | (simp only[qz1] at h;subst h;rfl) | (simp at h;done)
   cases b<;>simp only[Bool.false_eq_true] at hl
   case len =>
    simp only[qAU] at h
    split at h
    ·split at h
     ·split at h
      ·split at h
       ·simp only[qz1] at h;subst h;rfl
       ·simp at h
      ·exact old rfl _ _ h
     ·exact old rfl _ _ h
    ·exact old rfl _ _ h
   all_goals exact old rfl c.argTypes.toList args h
  ·rename_i f hf;rw[hf] at hl;cases f with
   | func g =>
    simp only at hl;simp only[evA] at h;cases hg:E.ex.get g with
    | none=>simp[hg] at hl
    | some x=>simp only[hg] at h;exact qMq h
   | _=>simp at hl
  ·simp at h
 | makeFunc f first caps =>
  simp only[aOp] at h
  split at h
  ·split at h
   ·split at h
    ·simp only[qz1] at h;subst h;rfl
    ·simp at h
   ·split at h
    ·split at h
     ·simp only[qz1] at h;subst h;rfl
     ·simp at h
    ·simp at h
  ·simp at h
 | lookup t x y ok=>simp only[aOp] at h;split at h<;>first | (split at h<;>first | exact hst h | simp at h) | simp at h
 | entry x=>simp only[aOp] at h;split at h<;>first | exact hst h | simp at h
 | move x=>simp only[aOp] at h;exact hst h
 | assign x=>simp only[aOp] at h;exact hst h
 | pick c x y =>
  simp only[aOp] at h
  split at h
  ·rename_i t _;cases t<;>exact hst h
  ·simp at h
 | build t ps=>simp only[aOp] at h;split at h<;>first | exact hst h | simp at h
 | nilCheck x=>simp only[aOp] at h;split at h<;>first | exact hst h | simp at h
 | binOp op t x y yt=>simp only[aOp] at h;split at h<;>first | (split at h<;>first | exact hst h | simp at h) | simp at h
 | unOp op t x=>simp only[aOp] at h;split at h<;>first | exact hst h | simp at h
 | makeInterface t x=>simp only[aOp] at h;split at h<;>first | exact hst h | simp at h
 | fieldAddr s x f=>simp only[aOp] at h;split at h<;>first | exact hst h | simp at h
 | field s x f=>simp only[aOp] at h;split at h<;>first | exact hst h | simp at h
 | typeAssert s x f ok=>simp only[aOp] at h;split at h<;>first | exact hst h | simp at h
 | extract s x=>simp only[aOp] at h;split at h<;>first | exact hst h | simp at h
 | indexAddr t x y=>simp only[aOp] at h;split at h<;>first | (split at h<;>first | exact hst h | simp at h) | simp at h
 | index t x y=>simp only[aOp] at h;split at h<;>first | (split at h<;>first | exact hst h | simp at h) | simp at h
 | slice t x lo hi mx =>
  simp only[aOp] at h
  split at h
  ·split at h
   ·split at h
    ·split at h
     ·exact hst h
     ·simp at h
    ·simp at h
   ·simp at h
  ·simp at h
 | _=>simp[qBS] at hl
theorem qKp {r:AV×ASt} (hl:qBS E o=true) (h:qBm E call round ops o fr st=some r):r.2=st:=by
 simp only[qBm] at h;cases hg:qBZ ops fr o
 rotate_left
 ·simp[hg] at h
 simp only[hg,cond_false] at h;cases hw:qAt ops fr o
 ·simp only[hw,cond_false,qz1] at h;subst h;rfl
 ·simp only[hw,cond_true] at h;exact qT3 hl h
end
end
end Go.Ax
end
section
namespace Go.Ax
noncomputable section
open Go.RowKit Go.Region
section
variable {B:Prot} {w0:World} {ι:Ren} {st:ASt} {w:World}
theorem SR.lessrs (h:SR B w0 ι st w) {rs:Nat→Prop} (hrs:∀i,rs i→B.rs i):SR ⟨B.ro,B.ex,rs⟩ w0 ι st w :=
 ⟨h.below,h.base,h.obj,h.own,h.dom,h.hdom,h.ro,fun i hi=>h.res i (hrs i hi),h.glob⟩
theorem SR.allocAt {rs:Nat→Prop} (h:SR B w0 ι st w) {k:Nat} (a:AO) (o:Obj) (tot:Nat) (ho:OR ι ⟨w.heap.size,0,tot⟩ a o) (hown:a.own=true) (hk:k<st.next) (hn:ι k=none)
  (hrs:∀i,rs i→B.rs i∧i≠k) :
  SR ⟨B.ro,B.ex,rs⟩ w0 (ι.ext k ⟨w.heap.size,0,tot⟩) (st.put k a) (w.alloc o)∧ι.le (ι.ext k ⟨w.heap.size,0,tot⟩)∧(ι.ext k ⟨w.heap.size,0,tot⟩) k=some ⟨w.heap.size,0,tot⟩:=by
 have hle:=Ren.le_ext (L:=⟨w.heap.size,0,tot⟩) hn;have hat:(ι.ext k ⟨w.heap.size,0,tot⟩) k=some ⟨w.heap.size,0,tot⟩:=by simp[Ren.ext]
 have hget:∀i,(st.put k a).h.get i=if i=k then some a else st.h.get i:=fun i=>T.get_set _ _ _ _ _;refine⟨⟨h.below.alloc h.base o,?_,?_,?_,?_,?_,?_,fun i hi=>⟨(h.res i (hrs i hi).1).1,(Ren.ext_other (hrs i hi).2).trans (h.res i (hrs i hi).1).2⟩,h.glob⟩,hle,hat⟩
 ·intro k hk;have:=h.base k hk;show k<(w.heap.push o).size;simp;omega
 ·intro i a' hi hd;rw[hget] at hi
  by_cases e:i=k
  ·subst e;simp at hi;subst hi;exact⟨_,o,hat,qCu w o,ho.mono hle⟩
  ·simp only[e,if_false] at hi;obtain⟨L,o',h1,h2,h3⟩:=h.obj i a' hi hd;exact⟨L,o',hle _ _ h1,qFt w o h2,h3.mono hle⟩
 ·intro i a' L hi ho' hL;rw[hget] at hi
  by_cases e:i=k
  ·subst e;rw[hat] at hL;cases hL;refine⟨fun hk=>Nat.lt_irrefl _ (h.base _ hk),fun j a'' L' hj hd hL' hb=>?_⟩;rw[hget] at hj
   by_cases e':j=i
   ·exact e'
   ·simp only[e',if_false] at hj;simp only[Ren.ext,e',if_false] at hL';have:=qIh (h:=h) hj hd hL';simp at hb;omega
  ·simp only[e,if_false] at hi;simp only[Ren.ext,e,if_false] at hL;obtain⟨h1,h2⟩:=h.own i a' L hi ho' hL;have hnd:a'≠.dead:=by intro e;subst e;simp[AO.own] at ho'
   refine⟨h1,fun j a'' L' hj hd hL' hb=>?_⟩;rw[hget] at hj
   by_cases e':j=k
   ·subst e';rw[hat] at hL';cases hL';have:=qIh (h:=h) hi hnd hL;simp at hb;omega
   ·simp only[e',if_false] at hj;simp only[Ren.ext,e',if_false] at hL';exact h2 j a'' L' hj hd hL' hb
 ·intro i L hL;show i<st.next
  by_cases e:i=k
  ·omega
  ·simp only[Ren.ext,e,if_false] at hL;exact h.dom i L hL
 ·intro i a' hi;show i<st.next;rw[hget] at hi
  by_cases e:i=k
  ·omega
  ·simp only[e,if_false] at hi;exact h.hdom i a' hi
 ·intro i a' L hi hd hno hL;rw[hget] at hi
  by_cases e:i=k
  ·subst e;simp only[if_true,qz1] at hi;subst hi;rw[hown] at hno;cases hno
  ·simp only[e,if_false] at hi;simp only[Ren.ext,e,if_false] at hL;exact h.ro i a' L hi hd hno hL
def Blk (ι:Ren) (X:Nat→Bool) (b:Nat):Prop:=∃j L,X j=true∧ι j=some L∧L.b=b
theorem SR.split {T F:ASt} (h:SR B w0 ι T w) (X:Nat→Bool) (hX:∀j,X j=true→∃a,T.h.get j=some a∧a.own=true) (hn:F.next=T.next)
  (hg:∀j,F.h.get j=if X j then none else T.h.get j):SR ⟨B.ro,fun b=>B.ex b∨Blk ι X b,B.rs⟩ w ι F w:=by
 have live:∀{a:AO},a.own=true→a≠.dead:=fun ha e=>by subst e;simp[AO.own] at ha
 have get:∀{j a},F.h.get j=some a→X j=false∧T.h.get j=some a:=fun {j a} hj=>by
  rw[hg] at hj;cases hx:X j with
  | true=>rw[hx] at hj;simp at hj
  | false=>rw[hx] at hj;exact⟨rfl,by simpa using hj⟩
 refine⟨Keeps.refl _ _,?_,?_,?_,?_,?_,?_,?_,fun g cs hg=>⟨(h.glob g cs hg).1.elim (fun q=>.inl q) (fun q=>.inr (.inl q)),h.globw g cs hg⟩⟩
 ·rintro b (hb | hb | ⟨j,L,hx,hL,rfl⟩)
  ·exact h.base b (.inl hb)
  ·exact h.base b (.inr hb)
  ·obtain⟨a,ha,ho⟩:=hX j hx;exact qIh (h:=h) ha (live ho) hL
 ·intro i a hi hd;exact h.obj i a (get hi).2 hd
 ·intro i a L hi ho hL;obtain⟨hx,hi'⟩:=get hi;obtain⟨h1,h2⟩:=h.own i a L hi' ho hL;refine⟨?_,fun j a' L' hj hd hL' hb=>h2 j a' L' (get hj).2 hd hL' hb⟩;rintro (hb | hb | ⟨j,L',hx',hL',hb⟩)
  ·exact h1 (.inl hb)
  ·exact h1 (.inr hb)
  ·obtain⟨a',ha',ho'⟩:=hX j hx';have:=h2 j a' L' ha' (live ho') hL' hb;subst this;rw[hx] at hx';cases hx'
 ·intro i L hL;rw[hn];exact h.dom i L hL
 ·intro i a hi;rw[hn];exact h.hdom i a (get hi).2
 ·intro i a L hi hd ho hL;exact h.ro i a L (get hi).2 hd ho hL
 ·intro i hi;rw[hn];exact h.res i hi
theorem SR.merge {T F' T':ASt} {ι':Ren} {w':World} (h:SR B w0 ι T w) (X:Nat→Bool) (hX:∀j,X j=true→∃a,T.h.get j=some a∧a.own=true)
  (h':SR ⟨B.ro,fun b=>B.ex b∨Blk ι X b,B.rs⟩ w ι' F' w') (hle:ι.le ι') (hn:T'.next=F'.next) (hg:∀j,T'.h.get j=if X j then T.h.get j else F'.h.get j):SR B w0 ι' T' w':=by
 have live:∀{a:AO},a.own=true→a≠.dead:=fun ha e=>by subst e;simp[AO.own] at ha
 have hB:∀b,B.all b→(⟨B.ro,fun b=>B.ex b∨Blk ι X b,B.rs⟩:Prot).all b:=fun b hb=>by
  rcases hb with hb | hb
  ·exact .inl hb
  ·exact .inr (.inl hb)
 have hXB:∀{j L},X j=true→ι j=some L→(⟨B.ro,fun b=>B.ex b∨Blk ι X b,B.rs⟩:Prot).all L.b:=fun {j L} hx hL=>.inr (.inr ⟨j,L,hx,hL,rfl⟩)
 -- what is laid aside is where it was
 have old:∀{j a L},X j=true→T'.h.get j=some a→ι' j=some L→T.h.get j=some a∧a.own=true∧ι j=some L:=fun {j a L} hx hj hL=>by
  rw[hg,hx,if_pos rfl] at hj;obtain⟨a',ha',ho⟩:=hX j hx;rw[hj] at ha';cases ha';obtain⟨L0,_,h1,_,_⟩:=h.obj j a hj (live ho);have:=hle _ _ h1;rw[hL] at this;cases this;exact⟨hj,ho,h1⟩
 have new:∀{j a},X j=false→T'.h.get j=some a→F'.h.get j=some a:=fun {j a} hx hj=>by rw[hg,hx] at hj;simpa using hj
 refine⟨h.below.trans ⟨h'.below.os,h'.below.tape,h'.below.output,h'.below.size,fun k hk=>h'.below.block k (hB k hk)⟩,fun k hk=>h'.base k (hB k hk),?_,?_,?_,?_,?_,?_,h.glob⟩
 ·intro i a hi hd;cases hx:X i with
  | true =>
   have hi2:=hi;rw[hg,hx,if_pos rfl] at hi2;obtain⟨L,o,h1,h2,h3⟩:=h.obj i a hi2 hd;refine⟨L,o,hle _ _ h1,?_,h3.mono hle⟩;rw[h'.below.block _ (hXB hx h1)];exact h2
  | false=>exact h'.obj i a (new hx hi) hd
 ·intro i a L hi ho hL;cases hx:X i with
  | true =>
   obtain⟨h1,_,h3⟩:=old hx hi hL;obtain⟨k1,k2⟩:=h.own i a L h1 ho h3;refine⟨k1,fun j a' L' hj hd hL' hb=>?_⟩;cases hxj:X j with
   | true=>obtain⟨q1,_,q3⟩:=old hxj hj hL';exact k2 j a' L' q1 hd q3 hb
   | false =>
    have hj':=new hxj hj;cases hoj:a'.own with
    | true=>exact absurd (by rw[hb];exact hXB hx h3) (h'.own j a' L' hj' hoj hL').1
    | false =>
     have:=h'.ro j a' L' hj' hd hoj hL';rw[hb] at this;exact absurd (.inl this) k1
  | false =>
   have hi':=new hx hi;obtain⟨k1,k2⟩:=h'.own i a L hi' ho hL;refine⟨fun hk=>k1 (hB _ hk),fun j a' L' hj hd hL' hb=>?_⟩;cases hxj:X j with
   | true =>
    obtain⟨_,_,q3⟩:=old hxj hj hL';exact absurd (by rw[←hb];exact hXB hxj q3) k1
   | false=>exact k2 j a' L' (new hxj hj) hd hL' hb
 ·intro i L hL;rw[hn];exact h'.dom i L hL
 ·intro i a hi;rw[hn];cases hx:X i with
  | true =>
   have hi2:=hi;rw[hg,hx,if_pos rfl] at hi2;obtain⟨a',ha',ho⟩:=hX i hx;rw[hi2] at ha';cases ha';obtain⟨L,_,h1,_,_⟩:=h.obj i a hi2 (live ho);exact h'.dom i L (hle _ _ h1)
  | false=>exact h'.hdom i a (new hx hi)
 ·intro i a L hi hd ho hL;cases hx:X i with
  | true=>obtain⟨_,h2,_⟩:=old hx hi hL;rw[ho] at h2;cases h2
  | false=>exact h'.ro i a L (new hx hi) hd ho hL
 ·intro i hi;rw[hn];exact h'.res i hi
end
inductive Sh where
 | ptr
 | sl (l:Nat) (c:Cap)
 | mp
def Sh.val:Sh→Nat→AV
 | .ptr,k=>.ptr (some (k,0))
 | .sl l c,k=>.slice (some (k,0)) l c
 | .mp,k=>.map (some k)
def qOO (v:AV):Option (AO×Sh) :=
 match v with
 | .tuple _=>none
 | .any=>none
 | .agg l=>some (.cells l true,.ptr)
 | v=>some (.cells [v] true,.ptr)
def qJi (E:Env) (t:TypeId) (len:Nat) (parts:List (Nat×AV)):Option (AO×Sh) :=
 match E.ty.get t with
 | none=>none
 | some ti =>
  match ti.desc with
  | .slice e =>
   match E.ty.get e with
   | none=>none
   | some ei =>
    match ei.zero with
    | none=>none
    | some z =>
     match z with
     | .tuple _=>none
     | .any=>none
     | _ =>
      bif Nat.beq (cellsOf z).length ei.size then
       bif Nat.ble (len*ei.size) 16777216 then
        match qIV (fun i=>some (i*ei.size,ei.size)) (qGO (cellsOf z) len) parts with
        | some cs=>some (.cells cs true,.sl len (.known len))
        | none=>none
       else none
      else none
  | _=>none
def qNL (E:Env) (t:TypeId) (len cap:AV):Option (AO×Sh) :=
 match E.ty.get t with
 | none=>none
 | some ti =>
  match ti.desc with
  | .slice e =>
   match E.ty.get e with
   | none=>none
   | some ei =>
    match asN len with
    | none=>none
    | some l =>
     match asN cap with
     | none=>none
     | some c =>
      match ei.zero with
      | none=>none
      | some z =>
       bif Nat.ble (ei.bytes*c) 281474976710656 then
        bif Nat.ble l c then
         bif Nat.blt c 9223372036854775808 then
          match z with
          | .tuple _=>none
          | .any=>none
          | _=>bif Nat.beq (cellsOf z).length ei.size then some (.cells (qGO (cellsOf z) c) true,.sl l (.known c)) else none
         else none
        else none
       else none
  | _=>none
def qNM (E:Env) (src dst:TypeId) (x:AV):Option (AO×Sh) :=
 match E.ty.get dst with
 | none=>none
 | some td =>
  match E.ty.get src with
  | none=>none
  | some _ =>
  match td.desc with
  | .slice e =>
   match x with
   | .str l =>
    match E.ty.get e with
    | some te =>
     match te.desc with
     | .int .u8=>some (.cells (ofBytes l) true,.sl l.length (.rest 1))
     | _=>none
    | none=>none
   | _=>none
  | _=>none
def qFf (E:Env) (o:Oper) (fr:AFr):Option (AO×Sh) :=
 match o.op with
 | .alloc t=>match E.ty.get t with | some ti=>(match ti.zero with | some z=>qOO z | none=>none) | none=>none
 | .box _ x=>match evA fr x with | some v=>qOO v | none=>none
 | .buildSlice t n ps=>match evP fr ps.toList with | some l=>qJi E t n l | none=>none
 | .makeMap _ rs=>match rs with | none=>some (.map [] 0,.mp) | some _=>none
 | .makeSlice t l c =>
  match evA fr l with
  | some a=>match evA fr c with | some b=>qNL E t a b | none=>none
  | none=>none
 | .convert s d x=>match evA fr x with | some a=>qNM E s d a | none=>none
 | _=>none
def qCe (E:Env) (o:Oper):Bool :=
 match o.guard with
 | some _=>false
 | none =>
 match o.op with
 | .alloc _ | .box .. | .buildSlice .. | .makeSlice ..=>true
 | .makeMap _ rs=>match rs with | none=>true | some _=>false
 | .convert s d _=>match E.ty.get d with | some td=>(match td.desc with | .slice _=>(match E.ty.get s with | some ts=>(match ts.desc with | .string=>true | _=>false) | none=>false) | _=>false) | none=>false
 | _=>false
theorem qGr {E:Env} {o:Oper} (h:qCe E o=true):o.guard=none:=by
 unfold qCe at h
 split at h
 ·simp at h
 ·assumption
def Made (P:Program) (ι:Ren) (w:World) (s:Sem Value) (a:AO) (h:Sh):Prop :=
 a.own=true∧∃v ob tot n,s.run P w=.ok v (({w with drawn:=n}:World).alloc ob)∧OR ι ⟨w.heap.size,0,tot⟩ a ob∧∀κ k,κ k=some ⟨w.heap.size,0,tot⟩→VR κ (h.val k) v
section
variable {P:Program} {E:Env} {ι:Ren} {w:World} {fr:AFr} {a:Act}
theorem qPw {b:Nat} {l:List AV} {r:Array Value} (elem:TypeId) (hv:VRs ι l r) (hc:∀v,v∈l→v.isCell=true):OR ι ⟨b,0,r.size⟩ (.cells l true) (.cells r elem) :=
 ⟨r,elem,0,0,rfl,rfl,by simp[hv.size],hc,fun k v v' a b=>hv.at_ k v v' a (by simpa using b),fun _=>.inl rfl⟩
theorem qDf (elem:TypeId) (r:Array Value):(newRow elem r).run P w=.ok ⟨w.heap.size,0,none⟩ (w.alloc (.cells r elem)):=rfl
theorem qNN {v:AV} {v':Value} {x:AO×Sh} (elem:TypeId) (hv:VR ι v v') (hr:qOO v=some x):Made P ι w (Instr.box elem v') x.1 x.2:=by
 have fin:((∃l,v=.agg l)∨v.isCell=true)→x=(.cells (cellsOf v) true,.ptr)→Made P ι w (Instr.box elem v') x.1 x.2:=by
  intro hc he;obtain⟨hv1,hv2⟩:=hv.cells hc;subst he;refine⟨rfl,.pointer (some ⟨w.heap.size,0,none⟩),.cells v'.cells elem,v'.cells.size,w.drawn,?_,qPw elem hv1 hv2,fun κ k hk=>?_⟩
  ·simp only[Instr.box,newVar,Sem.run_bind,qDf,Result.andThen_ok,Sem.run_pure]
  ·exact VR.ptr k 0 _ hk
 cases v<;>simp only[qOO,qz1,reduceCtorEq] at hr<;>first
  | exact fin (.inr rfl) hr.symm
  | exact fin (.inl ⟨_,rfl⟩) hr.symm
theorem qON (hE:E.Ok P) {t:TypeId} {n:Nat} {parts:List (Nat×AV)} {parts':Array (Nat×Value)} {x:AO×Sh} (hm:parts.map (·.1)=parts'.toList.map (·.1))
  (hv:∀(k:Nat) p p',parts[k]? = some p→parts'.toList[k]? = some p'→VR ι p.2 p'.2) (hr:qJi E t n parts=some x) :
  Made P ι w (Instr.buildSlice t n parts') x.1 x.2:=by
 simp only[qJi] at hr
 split at hr
 ·simp at hr
 rename_i ti hti;have hk:=(qAS (hE.ty _ _ hti)).run_und w
 split at hr
 rotate_left
 ·simp at hr
 rename_i e hd;rw[hd] at hk
 split at hr
 ·simp at hr
 rename_i ei hei
 split at hr
 ·simp at hr
 rename_i z hz;have fin:((∀vs,z≠.tuple vs)∧z≠.any)→(bif Nat.beq (cellsOf z).length ei.size then
      bif Nat.ble (n*ei.size) 16777216 then
       match qIV (fun i=>some (i*ei.size,ei.size)) (qGO (cellsOf z) n) parts with
       | some cs=>some (AO.cells cs true,Sh.sl n (.known n))
       | none=>none
      else none
     else none)=some x→Made P ι w (Instr.buildSlice t n parts') x.1 x.2:=by
  clear hr;intro hnt hr;cases hbz:Nat.beq (cellsOf z).length ei.size
  ·simp only[hbz,cond_false,reduceCtorEq] at hr
  cases hble:Nat.ble (n*ei.size) 16777216
  ·simp only[hbz,hble,cond_true,cond_false,reduceCtorEq] at hr
  simp only[hbz,hble,cond_true] at hr;have hsz:=Nat.eq_of_beq_eq_true hbz;have hle:=qCT hble
  split at hr
  ·rename_i cs hcs;simp only[qz1] at hr;subst hr;obtain⟨zv,k7,hzv2,hzv3⟩:=qFS hE hei hz hnt;have hzs:zv.cells.size=ei.size:=by rw[←(hzv2 ι).size,hsz]
   have hs:=(qAS (hE.ty _ _ hei)).run_size w;obtain⟨cs',f1,f2,f3⟩:=qGE (place':=fun i=>some (i*ei.size,ei.size)) (fun i x hx=>hx) parts parts'.toList (qGO (cellsOf z) n) cs _ hm hv (qFl (hzv2 ι) n) (qDg hzv3 n) hcs;refine⟨rfl,.slice (some ⟨w.heap.size,0,none⟩) n n,.cells cs' e,cs'.size,w.drawn,?_,qPw e f2 f3,fun κ k hk=>.slice _ _ _ _ _ _ hk rfl (Nat.le_refl _)⟩;have hle':¬(n*ei.size > 2 ^ 24):=by rw[qEz.2];omega
   rw[hzs] at f1
   by_cases h0:n*ei.size=0
   ·rw[h0] at f1;have er:Array.range 0=#[]:=rfl;have hle0:¬((0:Nat) > 2 ^ 24):=by decide
    simp only[er,Array.map_empty] at f1;simp only[Instr.buildSlice,Sem.run_bind,hk,Result.andThen_ok,hs,Sem.run_ite,hle0,if_false,h0,if_true,Sem.run_pure,er,Array.map_empty,f1,qDf]
   ·simp only[Instr.buildSlice,Sem.run_bind,hk,Result.andThen_ok,hs,Sem.run_ite,hle',if_false,h0,Sem.run_pure,k7,hzs,f1,qDf]
  ·simp at hr
 cases z<;>first | (simp at hr;done) | exact fin ⟨by simp,by simp⟩ hr
theorem qQX (hE:E.Ok P) {t:TypeId} {len cap:AV} {len' cap':Value} {x:AO×Sh} (hl:VR ι len len') (hc:VR ι cap cap')
  (hr:qNL E t len cap=some x):Made P ι w (Instr.makeSlice t len' cap') x.1 x.2:=by
 simp only[qNL] at hr
 split at hr
 ·simp at hr
 rename_i ti hti;have hk:=(qAS (hE.ty _ _ hti)).run_und w
 split at hr
 ·rename_i e hd;rw[hd] at hk
  split at hr
  ·simp at hr
  rename_i ei hei
  split at hr
  ·simp at hr
  rename_i l hl'
  split at hr
  ·simp at hr
  rename_i c hc'
  split at hr
  ·simp at hr
  rename_i z hz;obtain⟨kl,rfl⟩:=qLT hl hl';obtain⟨kc,rfl⟩:=qLT hc hc';cases h1:Nat.ble (ei.bytes*c) 281474976710656
  ·simp only[h1,cond_false,reduceCtorEq] at hr
  cases h2:Nat.ble l c
  ·simp only[h1,h2,cond_true,cond_false,reduceCtorEq] at hr
  cases h3:Nat.blt c 9223372036854775808
  ·simp only[h1,h2,h3,cond_true,cond_false,reduceCtorEq] at hr
  simp only[h1,h2,h3,cond_true] at hr;have g1:=qCT h1;have g2:=qCT h2;have g3:c<9223372036854775808:=by rw[←Nat.blt_eq];exact h3
  have fin:((∀vs,z≠.tuple vs)∧z≠.any)→(bif Nat.beq (cellsOf z).length ei.size then some (AO.cells (qGO (cellsOf z) c) true,Sh.sl l (.known c)) else none)=some x →
    Made P ι w (Instr.makeSlice t (.int kl (l:Int)) (.int kc (c:Int))) x.1 x.2:=by
   intro hnt hr;cases hb:Nat.beq (cellsOf z).length ei.size
   ·simp only[hb,cond_false,reduceCtorEq] at hr
   simp only[hb,cond_true,qz1] at hr;have hsz:=Nat.eq_of_beq_eq_true hb;obtain⟨v,hv1,hv2,hv3⟩:=qGK hE hei hz hnt w;obtain⟨i,hi1,hi2,hi3⟩:=(qAS (hE.ty _ _ hei)).run_info w;have hvs:v.cells.size=ei.size:=by rw[←(hv2 ι).size,hsz]
   let zr:Array Value:=if c*ei.size=0 then #[] else v.cells
   have hrow:((Array.range (c*ei.size)).map (zr[· % zr.size]!))=((Array.range (c*v.cells.size)).map (v.cells[· % v.cells.size]!)):=by
    rw[hvs]
    by_cases h0:c*ei.size=0
    ·rw[h0];simp
    ·simp only[zr,h0,if_false,hvs]
   have q0:=qPw (b:=w.heap.size) e (qFl (hv2 ι) c) (qDg hv3 c);subst hr;refine⟨rfl,.slice (some ⟨w.heap.size,0,none⟩) l c,.cells ((Array.range (c*v.cells.size)).map (v.cells[· % v.cells.size]!)) e,_,w.drawn,?_,q0,fun κ k hk=>.slice _ _ _ _ _ _ hk rfl g2⟩;have w1:=qCc g3;have w2:IntKind.i64.wrap (l:Int)=(l:Int):=qCc (by omega);have hb1:((i.bytes:Int)*(c:Int) > 281474976710656)=False:=by
    rw[hi2];have:((ei.bytes*c:Nat):Int)=(ei.bytes:Int)*(c:Int):=by simp
    rw[←this];simp;omega
   have hs:=(qAS (hE.ty _ _ hei)).run_size w;have hlt0:¬((c:Int)<0):=by omega
   have hlt1:¬((l:Int)<0):=by omega
   have hlt2:¬((l:Int) > (c:Int)):=by omega
   by_cases h0:c*ei.size=0
   ·simp only[zr,h0,if_true] at hrow;rw[←hrow];simp only[Instr.makeSlice,asInt,asIntOf,Sem.run_bind,hk,Sem.run_pure,Result.andThen_ok,hi1,w1,w2,qEz.1,hb1,decide_false,Bool.or_false,hlt0,hlt1,hlt2,Bool.false_eq_true,
     if_false,run_askRoom,hs,Int.toNat_natCast,h0,if_true,qDf]
   ·simp only[zr,h0,if_false] at hrow;rw[←hrow];simp only[Instr.makeSlice,asInt,asIntOf,Sem.run_bind,hk,Sem.run_pure,Result.andThen_ok,hi1,w1,w2,qEz.1,hb1,decide_false,Bool.or_false,hlt0,hlt1,hlt2,Bool.false_eq_true,
     if_false,run_askRoom,hs,Int.toNat_natCast,h0,hv1,qDf]
  cases z<;>first | (simp at hr;done) | exact fin ⟨by simp,by simp⟩ hr
 ·simp at hr
end
section
variable {P:Program} {E:Env} {B:Prot} {w0:World} {ι:Ren} {st:ASt} {w:World} {fr:AFr} {a:Act}
theorem qQY (hE:E.Ok P) {src dst:TypeId} {x:AV} {x':Value} {y:AO×Sh} (hx:VR ι x x') (hr:qNM E src dst x=some y):Made P ι w (convert src dst x') y.1 y.2:=by
 simp only[qNM] at hr
 split at hr
 ·simp at hr
 rename_i td htd
 split at hr
 ·simp at hr
 rename_i ts hts;have hd:=(qAS (hE.ty _ _ htd)).run_und w;have hs:=(qAS (hE.ty _ _ hts)).run_und w
 split at hr
 rotate_left
 ·simp at hr
 rename_i e he;rw[he] at hd
 split at hr
 rotate_left
 ·simp at hr
 rename_i l;cases hx with
 | str _ s hs' =>
  split at hr
  ·rename_i te hte
   split at hr
   ·rename_i h8;simp only[qz1] at hr;subst hr;have hte':=(qAS (hE.ty _ _ hte)).run_und w;rw[h8] at hte';have hlen:l.length=s.size:=by rw[←hs'];simp
    let q:=Question.appendCap s.size 0 e
    let cap:=q.cut (w.tape w.drawn q)
    have hcap:s.size≤cap:=by simp only[cap,q,Question.cut];omega
    let w1:World:={w with drawn:=w.drawn+1}
    let row:Array Value:=(s.data.map fun b=>(.int .u8 b.toNat:Value))++Array.replicate (cap - s.size) (.int .u8 0)
    have hrow:row.size=cap:=by
     simp only[row,Array.size_append,Array.size_map,Array.size_replicate];have:s.data.size=s.size:=rfl;omega
    have hor:OR ι ⟨w.heap.size,0,cap⟩ (.cells (ofBytes l) true) (.cells row e (cap,cap+1)) :=
     ⟨row,e,cap,cap+1,rfl,hrow,by
      have:(ofBytes l).length=l.length:=by rw[←hs',qB4];simp
      simp only[Nat.zero_add,hrow];omega,by
      rw[←hs',qB4];intro v hv;simp at hv;obtain⟨b,_,rfl⟩:=hv;rfl,by
      intro k v v' hv hv';rw[←hs',qB4] at hv;simp only[List.getElem?_map] at hv;simp only[Nat.zero_add,row] at hv';cases hb:s.data.toList[k]? with
      | none=>rw[hb] at hv;simp at hv
      | some b =>
       rw[hb] at hv;simp at hv;subst hv;have hk:k<s.data.size:=by have:=(List.getElem?_eq_some_iff.1 hb).1;simpa using this
       rw[Array.getElem?_append_left (by simpa using hk)] at hv';have hb':s.data[k]? = some b:=by simpa using hb
       simp[hb'] at hv';subst hv';exact .int _ _,fun _=>.inr (by rw[hrow];exact Nat.le_refl _)⟩
    refine⟨rfl,.slice (some ⟨w.heap.size,0,none⟩) s.size cap,.cells row e (cap,cap+1),cap,w.drawn+1,?_,hor,fun κ k hk=>?_⟩
    ·have hfz:(w1.alloc (.cells row e)).freeze ⟨w.heap.size,row.size,none⟩ 1=w1.alloc (.cells row e (cap,cap+1)):=by
      simp only[World.freeze,World.alloc];simp only[Nat.one_ne_zero,if_false]
      congr 1
      apply Array.ext_getElem?;intro j;have e1:w1.heap=w.heap:=rfl;rw[Array.getElem?_modify]
      by_cases hj:w.heap.size=j
      ·subst hj;simp[e1,hrow]
      ·simp only[hj,if_false];rw[Array.getElem?_push,Array.getElem?_push,e1];have:¬j=w.heap.size:=fun e=>hj e.symm;simp[this]
     have hq:q.forced=false:=rfl;have hsh:(w1.alloc (.cells row e)).shape? w.heap.size=some (e,row.size):=by
      have:=qCu w1 (.cells row e);have e1:w1.heap.size=w.heap.size:=rfl;rw[e1] at this;simp only[World.shape?,this]
     simp only[convert,Sem.run_bind,hs,hd,hte',Result.andThen_ok];have goal:(Conv.stringToBytes e s).run P w=.ok (.slice (some ⟨w.heap.size,0,none⟩) s.size cap) (w1.alloc (.cells row e (cap,cap+1))):=by
      simp only[Conv.stringToBytes,Sem.run_bind,run_choose];rw[show Question.forced (.appendCap s.size 0 e)=false from rfl];simp only[Bool.false_eq_true,if_false,Result.andThen_ok,newRow,Sem.run_bind,run_newObj,markStringish,run_shape,Sem.run_pure];show ((Sem.run P (match (w1.alloc (.cells row e)).shape? w.heap.size with | some (_,n)=>freeze {block:=w.heap.size,off:=n} 1 | x=>pure ()) (w1.alloc (.cells row e))).andThen fun a w' =>
       Result.ok (Value.slice (some ⟨w.heap.size,0,none⟩) s.size cap) w')=_
      rw[hsh];simp only[run_freeze,Result.andThen_ok];rw[hfz]
     cases hdd:ts.desc<;>simp only[hdd] at *<;>exact goal
    ·show VR _ (AV.slice (some (k,0)) l.length (.rest 1)) _;rw[hlen];refine VR.slice k 0 _ cap _ _ hk ?_ (by omega);show 0+0+cap*1=cap;omega
   ·simp at hr
  ·simp at hr
theorem qUN (hE:E.Ok P) (hfr:FR ι fr a.tmps) {o:Oper} {x:AO×Sh} (h:qFf E o fr=some x) :
  (∃s:Sem Value,execOp a.eval o=(do pure (.value (←s)))∧Made P ι w s x.1 x.2)∧∀c,o.op≠.defer c:=by
 have hev:∀{x v},evA fr x=some v→VR ι v (a.eval x):=fun h=>qEI hfr h;unfold qFf at h
 split at h
 case h_1 t ho =>
  refine⟨?_,by simp[ho]⟩
  split at h
  ·rename_i ti hti
   split at h
   ·rename_i z hz;refine⟨Instr.alloc t true (.tuple #[]),by simp only[execOp,ho],?_⟩;obtain⟨v,h1,h2⟩:=(qAS (hE.ty _ _ hti)).run_zero hz w;obtain⟨own,p,ob,tot,n,h3,h4⟩:=qNN (P:=P) (w:=w) t (h2 ι) h;refine⟨own,p,ob,tot,n,?_,h4⟩;simp only[Instr.box,Sem.run_bind] at h3;simp only[Instr.alloc,Sem.run_bind,h1,Result.andThen_ok];exact h3
   ·simp at h
  ·simp at h
 case h_2 t x ho =>
  refine⟨?_,by simp[ho]⟩
  split at h
  ·rename_i v hv;exact⟨Instr.box t (a.eval x),by simp only[execOp,ho],qNN t (hev hv) h⟩
  ·simp at h
 case h_3 t n ps ho =>
  refine⟨?_,by simp[ho]⟩
  split at h
  ·rename_i l hl;obtain⟨h1,h2⟩:=qNj hfr ps.toList l hl;exact⟨Instr.buildSlice t n (ps.map fun (i,x)=>(i,a.eval x)),by simp only[execOp,ho],qON hE (by simpa using h1) (by simpa using h2) h⟩
  ·simp at h
 case h_4 t rs ho =>
  refine⟨?_,by simp[ho]⟩
  split at h
  ·simp only[qz1] at h;subst h;refine⟨Instr.makeMap t none,by simp only[execOp,ho,Option.map_none],rfl,.map (some w.heap.size),.map #[] 0,0,w.drawn,?_,⟨#[],rfl,rfl,fun i x e hx=>by simp at hx⟩,fun κ k hk=>.map _ ⟨w.heap.size,0,0⟩ hk⟩;simp only[Instr.makeMap,Sem.run_bind,run_newObj_alloc,Result.andThen_ok,Sem.run_pure]
  ·simp at h
 case h_5 t l c ho =>
  refine⟨?_,by simp[ho]⟩
  split at h
  ·rename_i x hx
   split at h
   ·rename_i y hy;exact⟨Instr.makeSlice t (a.eval l) (a.eval c),by simp only[execOp,ho],qQX hE (hev hx) (hev hy) h⟩
   ·simp at h
  ·simp at h
 case h_6 s d x ho =>
  refine⟨?_,by simp[ho]⟩
  split at h
  ·rename_i v hv;exact⟨convert s d (a.eval x),by simp only[execOp,ho],qQY hE (hev hv) h⟩
  ·simp at h
 case h_7=>simp at h
theorem qLD (hE:E.Ok P) (hsr:SR B w0 ι st w) (hfr:FRA ι fr a) {ops:Array Oper} {o:Oper} {fr':AFr} {x:AO×Sh} {k:Nat} {rs:Nat→Prop}
  (hw:qAt ops.toList fr o=true) (hgd:qBZ ops.toList fr o=false) (h:qFf E o fr=some x) (hp:fr.put o.dst (x.2.val k)=some fr') (hk:k<st.next) (hn:ι k=none) (hrs:∀i,rs i→B.rs i∧i≠k)
  {ro:Option Nat} {K:Act→World→Prop} {Q:Exit→Act→World→Prop}
  (hK:∀ι' a' w',ι.le ι'→FRA ι' fr' a'→SR ⟨B.ro,B.ex,rs⟩ w0 ι' (st.put k x.1) w'→K a' w') :
  if Region.wanted o (yielded ops a.tmps) then o.wpIn (FF ro) 0 P a w K Q else (∀f,o.about P w a.eval=some f→(FF ro).fn f)∧K (a.put o.dst undef) w:=by
 rw[qHU hfr.hf ops o hgd,hw];simp only[if_true];obtain⟨⟨s,h1,own,v,ob,tot,n,h2,h3,h4⟩,hnd⟩:=qUN (P:=P) (w:=w) hE hfr.hf h;refine⟨fun f _=>qOg ro f,?_⟩;rw[Oper.semAt_eq _ _ _ hnd];have hrun:(execOp a.eval o).run P w=.ok (.value v) (({w with drawn:=n}:World).alloc ob):=by
  rw[h1];simp only[Sem.run_bind,h2,Result.andThen_ok,Sem.run_pure]
 rw[hrun,Oper.uponIn_value];obtain⟨k1,k2,k3⟩:=(hsr.drawn n).allocAt (k:=k) x.1 ob tot h3 own hk hn hrs;exact hK _ _ _ k2 (qH9 (hfr.mono k2) (h4 _ _ k3) hp) k1
end
def qGp (E:Env) (o:Oper):Bool :=
 match o.op with
 | .move _ | .assign _ | .pick .. | .build .. | .nilCheck _ | .binOp .. | .unOp .. | .makeInterface .. | .makeFunc .. | .fieldAddr .. | .field .. | .indexAddr .. | .index .. | .typeAssert .. | .extract ..=>true
 | .convert _ d _=>match E.ty.get d with | some td=>(match td.desc with | .int _=>true | _=>false) | none=>false
 | .call c =>
  match c.callee with
  | .value f=>match f with | .func g=>(match E.ex.get g with | some _=>true | none=>false) | _=>false
  | _=>false
 | _=>false
theorem qDd {x:Option AV} {st st':ASt} {r:AV×ASt} (h:still st x=some r):still st' x=some (r.1,st'):=by
 cases x with
 | none=>simp[still] at h
 | some v=>simp only[still,qz1] at h;subst h;rfl
theorem qTG {E:Env} {call round:CallT} {o:Oper} {fr:AFr} {st:ASt} {r:AV×ASt} (hp:qGp E o=true) (h:aOp E call round o fr st=some r) (st':ASt):aOp E call round o fr st'=some (r.1,st'):=by
 obtain⟨dst,op,type,pos,after,guard⟩:=o;cases op<;>simp only[qGp,Bool.false_eq_true] at hp<;>simp only[aOp] at h ⊢
 case convert s d x =>
  split at h
  ·rename_i v hv;simp only[qA5] at h ⊢
   split at h
   ·simp at h
   rename_i td htd;rw[htd] at hp;simp only at hp
   split at hp
   ·rename_i k hk;rw[hk] at h
    split at h
    ·simp at h
    rename_i ts hts;simp only[hk] at h ⊢
    split at h
    ·simp only[qz1] at h;subst h;rfl
    ·simp at h
   ·simp at hp
  ·simp at h
 case call c =>
  simp only[qLY] at h ⊢;cases hl:evL fr c.args.toList with
  | none=>rw[hl] at h;simp at h
  | some args =>
   simp only[hl] at h ⊢;cases hc:c.callee with
   | value f =>
    simp only[hc] at h hp ⊢;cases f with
    | func g =>
     simp only[evA] at h hp ⊢;cases hx:E.ex.get g with
     | some x =>
      simp only[hx] at h ⊢;exact qDd h
     | none=>simp[hx] at hp
    | _=>simp at hp
   | _=>simp[hc] at hp
 case pick c x y =>
  split at h
  ·rename_i t ht;cases t
   ·exact qDd h
   ·exact qDd h
  ·simp at h
 all_goals first
  | exact qDd h
  | skip
 all_goals
  repeat' split at h
  all_goals first
   | exact qDd h
   | (simp at h;done)
   | (simp only[qz1] at h;subst h;simp_all)
   | (simp_all;exact qDd h)
theorem qQJ {E:Env} {call round:CallT} {ops:List Oper} {o:Oper} {fr:AFr} {st:ASt} {r:AV×ASt} (hp:qGp E o=true) (h:qBm E call round ops o fr st=some r) (st':ASt) :
  qBm E call round ops o fr st'=some (r.1,st'):=by
 simp only[qBm] at h ⊢;cases hg:qBZ ops fr o
 rotate_left
 ·simp[hg] at h
 simp only[hg,cond_false] at h ⊢;cases hw:qAt ops fr o
 ·simp only[hw,cond_false,qz1] at h ⊢;subst h;rfl
 ·simp only[hw,cond_true] at h ⊢;exact qTG hp h st'
theorem qJJ {ops:List Oper} {o:Oper} {fr fr':AFr} (h:AgreeOn (looks ops o) fr fr'):qAt ops fr o=qAt ops fr' o:=by
 simp only[qAt];cases hg:o.guard with
 | none=>rfl
 | some gw =>
  obtain⟨j,want⟩:=gw;simp only;cases hj:ops[j]? with
  | none=>rfl
  | some oj =>
   simp only;cases hd:oj.dst with
   | none=>rfl
   | some d =>
    simp only;rw[h d (List.mem_append_right _ (by simp[qHM,hg,hj,hd]))]
theorem qM8 {E:Env} {o:Oper} {fr fr':AFr} (h:AgreeOn (tmpsOf o.op.operands.toList) fr fr'):qFf E o fr=qFf E o fr':=by
 obtain⟨dst,op,type,pos,after,guard⟩:=o;cases op<;>simp only[qFf]
 case box t x=>rw[qCg h (x:=x) (by simp[Op.operands])]
 case buildSlice t n ps=>rw[qFv h ps.toList (fun x hx=>by simp only[Op.operands];simpa using ⟨x.1,by simpa using hx⟩)]
 case makeSlice t l c=>rw[qCg h (x:=l) (by simp[Op.operands]),qCg h (x:=c) (by simp[Op.operands])]
 case convert s d x=>rw[qCg h (x:=x) (by simp[Op.operands])]
theorem qKl {v:AV} {x:AO×Sh} (h:qOO v=some x):x.1.own=true:=by
 cases v<;>simp only[qOO,qz1,reduceCtorEq] at h<;>subst h<;>rfl
theorem qSD {E:Env} {o:Oper} {fr:AFr} {x:AO×Sh} (h:qFf E o fr=some x):x.1.own=true:=by
 unfold qFf at h
 split at h
 ·repeat' split at h
  all_goals first | exact qKl h | (simp at h;done)
 ·split at h
  ·exact qKl h
  ·simp at h
 ·split at h
  ·simp only[qJi] at h
   repeat' split at h
   all_goals first | (simp at h;done) | skip
   all_goals
    simp only[cond_eq_ite] at h
    repeat' split at h
    all_goals first | (simp at h;done) | (simp only[qz1] at h;subst h;rfl)
  ·simp at h
 ·split at h
  ·simp only[qz1] at h;subst h;rfl
  ·simp at h
 ·split at h
  ·split at h
   ·simp only[qNL] at h
    repeat' split at h
    all_goals first | (simp at h;done) | skip
    all_goals
     simp only[cond_eq_ite] at h
     repeat' split at h
     all_goals first | (simp at h;done) | (simp only[qz1] at h;subst h;rfl)
   ·simp at h
  ·simp at h
 ·split at h
  ·simp only[qNM] at h
   repeat' split at h
   all_goals first | (simp at h;done) | (simp only[qz1] at h;subst h;rfl)
  ·simp at h
 ·simp at h
def force {α:Type} (n:Nat) (k:Nat→α):α:=match n with | 0=>k 0 | m+1=>k (m+1)
theorem force_eq {α:Type} (n:Nat) (k:Nat→α):force n k=k n:=by cases n<;>rfl
def bit (m j:Nat):Bool:=Nat.testBit m j
def qBd (bs:List Nat):List Edge→Nat
 | []=>0
 | e::es=>bif binds .any e then Nat.lor (2 ^ e.on) (Nat.lor (bs.getD e.on 0) (qBd bs es)) else qBd bs es
def qEc:List Oper→List Nat→List Nat
 | [],bs=>bs
 | o::os,bs=>force (qBd bs o.after.toList) fun m=>qEc os (bs++[m])
def qA2 (ops:List Oper):List Nat:=qEc ops []
theorem qF6 (bs:List Nat) (j:Nat):∀es:List Edge,bit (qBd bs es) j=true→∃e,e∈es∧binds .any e=true∧(e.on=j∨bit (bs.getD e.on 0) j=true)
 | [],h=>by simp[qBd,bit] at h
 | e::es,h=>by
  simp only[qBd] at h;cases hb:binds .any e
  ·simp only[hb,cond_false] at h;obtain⟨e',h1,h2⟩:=qF6 bs j es h;exact⟨e',List.mem_cons_of_mem _ h1,h2⟩
  ·simp only[hb,cond_true,bit] at h;have h:((2 ^ e.on) ||| (bs.getD e.on 0 ||| qBd bs es)).testBit j=true:=h;simp only[Nat.testBit_or,Nat.testBit_two_pow,Bool.or_eq_true,decide_eq_true_eq] at h;rcases h with h | h | h
   ·exact⟨e,List.mem_cons_self,hb,.inl h⟩
   ·exact⟨e,List.mem_cons_self,hb,.inr h⟩
   ·obtain⟨e',h1,h2⟩:=qF6 bs j es h;exact⟨e',List.mem_cons_of_mem _ h1,h2⟩
theorem qIk:∀(os:List Oper) (bs:List Nat),∃tail,qEc os bs=bs++tail∧∀(i:Nat) o,os[i]? = some o→∀j,bit ((bs++tail).getD (bs.length+i) 0) j=true →
  ∃e,e∈o.after∧binds .any e=true∧(e.on=j∨bit ((bs++tail).getD e.on 0) j=true)
 | [],bs=>⟨[],by simp[qEc],fun i o h=>by simp at h⟩
 | o::os,bs=>by
  simp only[qEc,force_eq];obtain⟨tail,h1,h2⟩:=qIk os (bs++[qBd bs o.after.toList]);refine⟨qBd bs o.after.toList::tail,by rw[h1];simp,fun i o' ho j hj=>?_⟩;cases i with
  | zero =>
   simp only[List.getElem?_cons_zero,qz1] at ho;subst ho;have e1:(bs++qBd bs o.after.toList::tail).getD (bs.length+0) 0=qBd bs o.after.toList:=by simp[List.getD_eq_getElem?_getD]
   rw[e1] at hj;obtain⟨e,g1,g2,g3⟩:=qF6 bs j _ hj;refine⟨e,by simpa using g1,g2,g3.imp id fun h=>?_⟩
   by_cases hlt:e.on<bs.length
   ·simpa [List.getD_eq_getElem?_getD,List.getElem?_append,hlt] using h
   ·simp[List.getD_eq_getElem?_getD,hlt,bit] at h
  | succ i =>
   have:=h2 i o' (by simpa using ho) j (by
    have e1:bs++[qBd bs o.after.toList]++tail=bs++qBd bs o.after.toList::tail:=by simp
    rw[e1];have e2:(bs++[qBd bs o.after.toList]).length+i=bs.length+(i+1):=by simp;omega
    rw[e2];exact hj)
   simpa using this
theorem qTR {ops:Array Oper} {i j:Nat} {o:Oper} (ho:ops[i]? = some o) (h:bit ((qA2 ops.toList).getD i 0) j=true) :
  ∃e,e∈o.after∧binds .any e=true∧(e.on=j∨bit ((qA2 ops.toList).getD e.on 0) j=true):=by
 obtain⟨tail,h1,h2⟩:=qIk ops.toList [];have e:qA2 ops.toList=[]++tail:=h1;rw[e] at h ⊢;exact h2 i o (by simpa using ho) j (by simpa using h)
def Closed (ops:Array Oper) (D:Nat→Bool):Prop:=∀i o,ops[i]? = some o→D i=true→∀e,e∈o.after→binds .any e=true→D e.on=true
def Down (ops:Array Oper):Prop:=∀i o,ops[i]? = some o→∀e,e∈o.after→binds .any e=true→e.on<i
theorem qDA {ops:Array Oper} {D:Nat→Bool} (hd:Down ops) (hc:Closed ops D):∀(i:Nat) (o:Oper) (j:Nat),ops[i]? = some o→(∀e,e∈o.after→binds .any e=true→D e.on=true) →
  bit ((qA2 ops.toList).getD i 0) j=true→D j=true:=by
 intro i
 induction i using Nat.strongRecOn with
 | ind i ih =>
  intro o j ho he h;obtain⟨e,h1,h2,h3⟩:=qTR ho h;rcases h3 with rfl | h3
  ·exact he e h1 h2
  ·have hlt:=hd i o ho e h1 h2;have hsz:i<ops.size:=(Array.getElem?_eq_some_iff.1 ho).1;have ho':ops[e.on]? = some (ops[e.on]'(by omega)):=by rw[Array.getElem?_eq_getElem]
   exact ih e.on hlt _ j ho' (fun e' h1' h2'=>hc e.on _ ho' (he e h1 h2) e' h1' h2') h3
def mem (t:Tmp):List Tmp→Bool
 | []=>false
 | u::us=>bif Nat.beq t u then true else mem t us
theorem qUr {t:Tmp}:∀{l:List Tmp},t∈l→mem t l=true
 | u::us,h=>by
  simp only[mem];cases hb:Nat.beq t u
  ·rcases List.mem_cons.1 h with rfl | h
   ·simp at hb
   ·simpa using qUr h
  ·rfl
structure It where
 i:Nat
 m:Nat
 o:Oper
def qT7:List Oper→List Nat→Nat→List It
 | [],_,_=>[]
 | o::os,bs,i=>⟨i,bs.getD i 0,o⟩::qT7 os bs (i+1)
theorem qKz (bs:List Nat):∀(os:List Oper) (k i:Nat) (o:Oper),os[i]? = some o→(⟨k+i,bs.getD (k+i) 0,o⟩:It)∈qT7 os bs k
 | [],k,i,o,h=>by simp at h
 | o'::os,k,i,o,h=>by
  cases i with
  | zero=>simp only[List.getElem?_cons_zero,qz1] at h;subst h;exact List.mem_cons_self
  | succ i =>
   have:=qKz bs os (k+1) i o (by simpa using h);have e:k+1+i=k+(i+1):=by omega
   rw[e] at this;exact List.mem_cons_of_mem _ this
def ord (x y:It):Bool:=bif Nat.blt y.i x.i then bit x.m y.i else bif Nat.blt x.i y.i then bit y.m x.i else true
def qLl (t:Tmp) (ls:List Tmp) (d:Option Tmp):Bool:=bif mem t ls then true else match d with | some u=>Nat.beq t u | none=>false
def q2Q (ops:List Oper) (its:List It):Bool :=
 its.all fun x=>let ls:=looks ops x.o;its.all fun y=>match y.o.dst with | some t=>(bif qLl t ls x.o.dst then ord x y else true) | none=>true
def qGs (E:Env) (o:Oper):Bool:=bif qBS E o then true else qCe E o
def qWb (E:Env) (its:List It):Bool :=
 its.all fun x=>bif qGs E x.o then true else its.all fun y=>bif qGs E y.o then true else ord x y
def qZ5 (its:List It):Bool:=its.all fun x=>x.o.after.toList.all fun e=>bif binds .any e then Nat.blt e.on x.i else true
def okS (E:Env) (ops:List Oper):Bool:=let its:=qT7 ops (qA2 ops) 0;qZ5 its && (q2Q ops its && qWb E its)
theorem qFz {a b:Nat} (h:Nat.blt a b=false):¬a<b:=fun hh=>by
 have:Nat.blt a b=true:=by rw[Nat.blt_eq];exact hh
 rw[this] at h;cases h
theorem qUj {x y:It} (h:ord x y=true):(y.i<x.i→bit x.m y.i=true)∧(x.i<y.i→bit y.m x.i=true):=by
 simp only[ord] at h;cases h1:Nat.blt y.i x.i
 ·rw[h1] at h;have h1':¬y.i<x.i:=qFz h1;simp only[cond_false] at h;cases h2:Nat.blt x.i y.i
  ·have h2':¬x.i<y.i:=qFz h2;exact⟨fun hh=>absurd hh h1',fun hh=>absurd hh h2'⟩
  ·rw[h2] at h;exact⟨fun hh=>absurd hh h1',fun _=>h⟩
 ·rw[h1] at h;have h1':y.i<x.i:=by simpa [Nat.blt_eq] using h1
  exact⟨fun _=>h,fun hh=>by omega⟩
structure TextOK (E:Env) (ops:Array Oper):Prop where
 down:Down ops
 tmp:∀i j o p t,ops[i]? = some o→ops[j]? = some p→p.dst=some t→(t∈looks ops.toList o∨o.dst=some t) →
  (j<i→bit ((qA2 ops.toList).getD i 0) j=true)∧(i<j→bit ((qA2 ops.toList).getD j 0) i=true)
 heavy:∀i j o p,ops[i]? = some o→ops[j]? = some p→qGs E o=false→qGs E p=false →
  (j<i→bit ((qA2 ops.toList).getD i 0) j=true)∧(i<j→bit ((qA2 ops.toList).getD j 0) i=true)
theorem qZ4 {E:Env} {ops:Array Oper} (h:okS E ops.toList=true):TextOK E ops:=by
 simp only[okS,Bool.and_eq_true] at h;obtain⟨h1,h2,h3⟩:=h;have hit:∀i o,ops[i]? = some o→(⟨i,(qA2 ops.toList).getD i 0,o⟩:It)∈qT7 ops.toList (qA2 ops.toList) 0:=fun i o ho=>by
  have:=qKz (qA2 ops.toList) ops.toList 0 i o (by simpa using ho);simpa using this
 refine⟨fun i o ho e he hb=>?_,fun i j o p t hi hj hd ht=>?_,fun i j o p hi hj ho hp=>?_⟩
 ·have:=List.all_eq_true.1 h1 _ (hit i o ho);have:=List.all_eq_true.1 this e (by simpa using he);rw[hb] at this;simpa [Nat.blt_eq] using this
 ·have:=List.all_eq_true.1 h2 _ (hit i o hi);have:=List.all_eq_true.1 this _ (hit j p hj);simp only[hd] at this;have htc:qLl t (looks ops.toList o) o.dst=true:=by
   simp only[qLl];rcases ht with ht | ht
   ·rw[qUr ht];rfl
   ·cases mem t (looks ops.toList o)
    ·simp[ht]
    ·rfl
  rw[htc] at this;exact qUj this
 ·have:=List.all_eq_true.1 h3 _ (hit i o hi);simp only[ho,cond_false] at this;have:=List.all_eq_true.1 this _ (hit j p hj);simp only[hp,cond_false] at this;exact qUj this
def qJI (nb:Nat) (q:Nat→Bool):List (Nat×AO)→T AO→T AO
 | [],h=>h
 | x::fs,h=>qJI nb q fs (bif q x.1 then h.set D (nb+x.1) x.2 else h)
def qD3 (nb:Nat) (q:Nat→Bool) (fs:List (Nat×AO)) (S:ASt):ASt:=match fs with | []=>S | x::fs=>{h:=qJI nb q (x::fs) S.h,next:=S.next}
theorem qDT (nb:Nat) (q:Nat→Bool) (fs:List (Nat×AO)) (S:ASt):(qD3 nb q fs S).h=qJI nb q fs S.h:=by cases fs<;>rfl
theorem qBL (nb:Nat) (q:Nat→Bool) (fs:List (Nat×AO)) (S:ASt):(qD3 nb q fs S).next=S.next:=by cases fs<;>rfl
def qm (m g:Nat):Nat→Bool:=fun p=>bif bit g p then false else bit m p
def pick (nb:Nat) (q:Nat→Bool):List (Nat×AO)→Nat→Option AO
 | [],_=>none
 | x::fs,j=>match pick nb q fs j with | some a=>some a | none=>if q x.1=true∧nb+x.1=j then some x.2 else none
theorem qBR (nb:Nat) (q:Nat→Bool):∀(fs:List (Nat×AO)) (h:T AO) (j:Nat),(qJI nb q fs h).get j=match pick nb q fs j with | some a=>some a | none=>h.get j
 | [],h,j=>rfl
 | x::fs,h,j=>by
  simp only[qJI,qBR nb q fs,pick];cases hp:pick nb q fs j with
  | some a=>rfl
  | none =>
   simp only;cases hq:q x.1
   ·simp
   ·simp only[cond_true,T.get_set]
    by_cases e:j=nb+x.1
    ·subst e;simp
    ·have:¬nb+x.1=j:=fun h=>e h.symm;simp[e,this]
theorem qCM {nb:Nat} {q:Nat→Bool}:∀{fs:List (Nat×AO)} {j:Nat} {a:AO},pick nb q fs j=some a→∃p,(p,a)∈fs∧q p=true∧nb+p=j
 | x::fs,j,a,h=>by
  simp only[pick] at h
  split at h
  ·rename_i b hb;cases h;obtain⟨p,h1,h2⟩:=qCM hb;exact⟨p,List.mem_cons_of_mem _ h1,h2⟩
  ·split at h
   ·rename_i hc;cases h;exact⟨x.1,List.mem_cons_self,hc⟩
   ·simp at h
theorem qFm {nb:Nat} {q:Nat→Bool}:∀{fs:List (Nat×AO)} {j:Nat},pick nb q fs j=none→∀p a,(p,a)∈fs→q p=true→nb+p≠j
 | x::fs,j,h,p,a,hm,hq=>by
  simp only[pick] at h
  split at h
  ·simp at h
  ·rename_i hn
   split at h
   ·simp at h
   ·rename_i hc;rcases List.mem_cons.1 hm with e | hm
    ·subst e;exact fun he=>hc ⟨hq,he⟩
    ·exact qFm hn p a hm hq
theorem qFA {nb:Nat} {q:Nat→Bool} {fs:List (Nat×AO)} (hf:∀p a b,(p,a)∈fs→(p,b)∈fs→a=b) {p:Nat} {a:AO} (hm:(p,a)∈fs) (hq:q p=true):pick nb q fs (nb+p)=some a:=by
 cases hp:pick nb q fs (nb+p) with
 | none=>exact absurd rfl (qFm hp p a hm hq)
 | some b =>
  obtain⟨p',h1,h2,h3⟩:=qCM hp;have:p'=p:=by omega
  subst this;rw[hf _ _ _ h1 hm]
theorem qGP {nb:Nat} {q q':Nat→Bool}:∀{fs:List (Nat×AO)} (j:Nat),(∀p a,(p,a)∈fs→q p=q' p)→pick nb q fs j=pick nb q' fs j
 | [],_,_=>rfl
 | x::fs,j,h=>by
  simp only[pick];rw[qGP j (fun p a hm=>h p a (List.mem_cons_of_mem _ hm)),h x.1 x.2 List.mem_cons_self]
theorem qER (nb:Nat) (q:Nat→Bool):∀(xs ys:List (Nat×AO)) (h:T AO),(∀p a,(p,a)∈ys→q p=false)→qJI nb q (xs++ys) h=qJI nb q xs h
 | [],[],h,_=>rfl
 | [],y::ys,h,hy=>by
  have h1:=hy y.1 y.2 List.mem_cons_self;have:=qER nb q [] ys h (fun p a hm=>hy p a (List.mem_cons_of_mem _ hm));simp only[List.nil_append] at this ⊢;simp only[qJI,h1,cond_false,this]
 | x::xs,ys,h,hy=>by
  simp only[List.cons_append,qJI,qER nb q xs ys _ hy]
theorem qLx (nb:Nat) (q:Nat→Bool) (xs ys:List (Nat×AO)) (S:ASt) (h:∀p a,(p,a)∈ys→q p=false):qD3 nb q (xs++ys) S=qD3 nb q xs S:=by
 have h1:=qDT nb q (xs++ys) S;have h2:=qDT nb q xs S;have h3:=qBL nb q (xs++ys) S;have h4:=qBL nb q xs S;rw[qER nb q xs ys _ h,←h2] at h1;rw[←h4] at h3;generalize qD3 nb q (xs++ys) S=A at *;generalize qD3 nb q xs S=B at *;cases A;cases B;simp only at h1 h3;subst h1;subst h3;rfl
structure Rec where
 o:Oper
 fr:AFr
 v:AV
 hs:Option ASt
 ob:Option AO
def qBH:List Rec→Nat→List (Nat×AO)
 | [],_=>[]
 | r::rs,i=>match r.ob with | some a=>(i,a)::qBH rs (i+1) | none=>qBH rs (i+1)
def qI0 (E:Env) (f:Oper→AFr→ASt→Option (AV×ASt)) (wd:AFr→Oper→Bool) (nb:Nat) (bs:List Nat):List Oper→Nat→List (Nat×AO)→Nat→AFr→ASt→Option (List Rec×AFr×Nat×ASt)
 | [],_,_,g,fr,st=>some ([],fr,g,st)
 | o::os,i,fs,g,fr,st =>
  bif qCe E o then
   bif wd fr o then
    match qFf E o fr with
    | none=>none
    | some x =>
     match fr.put o.dst (x.2.val (nb+i)) with
     | none=>none
     | some fr' =>
      match qI0 E f wd nb bs os (i+1) (fs++[(i,x.1)]) g fr' st with
      | none=>none
      | some (rs,z)=>some (⟨o,fr,x.2.val (nb+i),none,some x.1⟩::rs,z)
   else
    match fr.put o.dst qAC with
    | none=>none
    | some fr' =>
     match qI0 E f wd nb bs os (i+1) fs g fr' st with
     | none=>none
     | some (rs,z)=>some (⟨o,fr,qAC,none,none⟩::rs,z)
  else
   match f o fr (qD3 nb (qm (bs.getD i 0) g) fs st) with
   | none=>none
   | some (v,st') =>
    match fr.put o.dst v with
    | none=>none
    | some fr' =>
     bif qBS E o then
      match qI0 E f wd nb bs os (i+1) fs g fr' st with
      | none=>none
      | some (rs,z)=>some (⟨o,fr,v,none,none⟩::rs,z)
     else bif Nat.beq (Nat.land g (bs.getD i 0)) g then
      match qI0 E f wd nb bs os (i+1) fs (bs.getD i 0) fr' st' with
      | none=>none
      | some (rs,z)=>some (⟨o,fr,v,some st',none⟩::rs,z)
     else none
structure Hv where
 i:Nat
 m:Nat
 s:ASt
def qAr:List Rec→List Nat→Nat→List Hv
 | [],_,_=>[]
 | r::rs,bs,i=>match r.hs with | some s=>⟨i,bs.getD i 0,s⟩::qAr rs bs (i+1) | none=>qAr rs bs (i+1)
def qLq (H:List Hv) (i m:Nat):Bool:=bif H.all (fun h=>Bool.not (Nat.blt h.i i)) then true else H.any (fun h=>bit m h.i)
def qOF (H:List Hv) (i m:Nat) (g:Hv):Bool :=
 bif bit g.m i then true else
 bif H.any (fun h=>bif Nat.blt g.i h.i then bit m h.i else false) then true else
 bif Nat.blt g.i i then H.all (fun h=>Bool.not (bif Nat.blt g.i h.i then Nat.blt h.i i else false)) else false
def qTB (f:Oper→AFr→ASt→Option (AV×ASt)) (r:Rec) (s:ASt):Bool:=match f r.o r.fr s with | some (v,_)=>qCx v r.v | none=>false
def qOL (E:Env) (f:Oper→AFr→ASt→Option (AV×ASt)) (nb:Nat) (fs:List (Nat×AO)) (H:List Hv) (s0:ASt) (i m:Nat) (r:Rec):Bool :=
 match r.hs with
 | some _=>true
 | none =>
  bif qCe E r.o then true else
  bif qGp E r.o then true else
  bif (bif qLq H i m then true else qTB f r (qD3 nb (qm m 0) fs s0)) then H.all (fun g=>bif qOF H i m g then true else qTB f r (qD3 nb (qm m g.m) fs g.s)) else false
def qDU (E:Env) (f:Oper→AFr→ASt→Option (AV×ASt)) (nb:Nat) (fs:List (Nat×AO)) (H:List Hv) (s0:ASt) (bs:List Nat):List Rec→Nat→Bool
 | [],_=>true
 | r::rs,i=>bif qOL E f nb fs H s0 i (bs.getD i 0) r then qDU E f nb fs H s0 bs rs (i+1) else false
def isNone {α:Type}:Option α→Bool
 | none=>true
 | some _=>false
def qC4 (nb:Nat) (fs:List (Nat×AO)) (H:List Hv):Bool:=H.all fun g=>fs.all fun x=>bif bit g.m x.1 then true else isNone (g.s.h.get (nb+x.1))
def drawA (E:Env):qI8:=fun f ops fr st =>
 bif okS E ops then
  force (st.next+ops.length) fun nx =>
  match qI0 E f (fun fr o=>qAt ops fr o) st.next (qA2 ops) ops 0 [] 0 fr {h:=st.h,next:=nx} with
  | none=>none
  | some (rs,fr',g,st') =>
   match qBH rs 0 with
   | [] =>
    (match qAr rs (qA2 ops) 0 with
    | []=>some (fr',st')
    | H=>bif qDU E f st.next [] H {h:=st.h,next:=nx} (qA2 ops) rs 0 then some (fr',st') else none)
   | fs =>
    (match qAr rs (qA2 ops) 0 with
    | []=>some (fr',qD3 st.next (fun p=>Bool.not (bit g p)) fs st')
    | H=>bif qC4 st.next fs H then (bif qDU E f st.next fs H {h:=st.h,next:=nx} (qA2 ops) rs 0 then some (fr',qD3 st.next (fun p=>Bool.not (bit g p)) fs st') else none) else none)
 else none
def val:List Rec→Nat→(Nat→Bool)→(Tmp→AV)→(Tmp→AV)
 | [],_,_,g=>g
 | r::rs,k,D,g=>val rs (k+1) D (if D k=true then (fun t=>if r.o.dst=some t then r.v else g t) else g)
theorem qE8 {t:Tmp}:∀(rs:List Rec) (k:Nat) (D D':Nat→Bool) (g g':Tmp→AV),g t=g' t→(∀(j:Nat) r,rs[j]? = some r→r.o.dst=some t→D (k+j)=D' (k+j))→val rs k D g t=val rs k D' g' t
 | [],_,_,_,_,_,hg,_=>hg
 | r::rs,k,D,D',g,g',hg,h=>by
  simp only[val];refine qE8 rs (k+1) D D' _ _ ?_ (fun j r' hr hd=>by
    have:=h (j+1) r' (by simpa using hr) hd;have e:k+(j+1)=k+1+j:=by omega
    rwa [e] at this)
  by_cases hd:r.o.dst=some t
  ·have:=h 0 r rfl hd;simp only[Nat.add_zero] at this;rw[this]
   by_cases hD:D' k=true<;>simp[hD,hd,hg]
  ·by_cases h1:D k=true<;>by_cases h2:D' k=true<;>simp[h1,h2,hd,hg]
theorem qHF {t:Tmp}:∀(rs:List Rec) (k:Nat) (D:Nat→Bool) (g:Tmp→AV),(∀(j:Nat) r,rs[j]? = some r→r.o.dst=some t→D (k+j)=false)→val rs k D g t=g t
 | [],_,_,_,_=>rfl
 | r::rs,k,D,g,h=>by
  simp only[val];rw[qHF rs (k+1) D _ (fun j r' hr hd=>by
    have:=h (j+1) r' (by simpa using hr) hd;have e:k+(j+1)=k+1+j:=by omega
    rwa [e] at this)]
  by_cases hd:r.o.dst=some t
  ·have:=h 0 r rfl hd;simp only[Nat.add_zero] at this;simp[this]
  ·by_cases h1:D k=true<;>simp[h1,hd]
theorem qU3 {t:Tmp}:∀(rs:List Rec) (k:Nat) (D:Nat→Bool) (g:Tmp→AV) (j:Nat) (r:Rec),rs[j]? = some r→r.o.dst=some t→D (k+j)=true →
  (∀(j':Nat) r',rs[j']? = some r'→j<j'→r'.o.dst=some t→D (k+j')=false)→val rs k D g t=r.v
 | [],_,_,_,_,_,h,_,_,_=>by simp at h
 | r0::rs,k,D,g,j,r,hr,hd,hD,h=>by
  simp only[val];cases j with
  | zero =>
   simp only[List.getElem?_cons_zero,qz1] at hr;subst hr;rw[qHF rs (k+1) D _ (fun j' r' hr' hd'=>by
     have:=h (j'+1) r' (by simpa using hr') (by omega) hd';have e:k+(j'+1)=k+1+j':=by omega
     rwa [e] at this)]
   simp only[Nat.add_zero] at hD;simp[hD,hd]
  | succ j =>
   have e:k+(j+1)=k+1+j:=by omega
   exact qU3 rs (k+1) D _ j r (by simpa using hr) hd (by rwa [e] at hD) (fun j' r' hr' hlt hd'=>by
    have:=h (j'+1) r' (by simpa using hr') (by omega) hd';have e:k+(j'+1)=k+1+j':=by omega
    rwa [e] at this)
def qA7:List Rec→Nat→(Nat→Bool)→Option Nat×ASt→Option Nat×ASt
 | [],_,_,c=>c
 | r::rs,k,D,c=>qA7 rs (k+1) D (if D k=true then (match r.hs with | some s=>(some k,s) | none=>c) else c)
theorem qC5:∀(rs:List Rec) (k:Nat) (D D':Nat→Bool) (c:Option Nat×ASt),(∀(j:Nat) r,rs[j]? = some r→r.hs≠none→D (k+j)=D' (k+j))→qA7 rs k D c=qA7 rs k D' c
 | [],_,_,_,_,_=>rfl
 | r::rs,k,D,D',c,h=>by
  simp only[qA7];rw[qC5 rs (k+1) D D' _ (fun j r' hr hd=>by
    have:=h (j+1) r' (by simpa using hr) hd;have e:k+(j+1)=k+1+j:=by omega
    rwa [e] at this)]
  congr 1
  cases hr:r.hs with
  | none=>simp
  | some s =>
   have:=h 0 r rfl (by rw[hr];simp);simp only[Nat.add_zero] at this;rw[this]
theorem qCz:∀(rs:List Rec) (k:Nat) (D:Nat→Bool) (c:Option Nat×ASt),(∀(j:Nat) r,rs[j]? = some r→r.hs≠none→D (k+j)=false)→qA7 rs k D c=c
 | [],_,_,_,_=>rfl
 | r::rs,k,D,c,h=>by
  simp only[qA7];rw[qCz rs (k+1) D _ (fun j r' hr hd=>by
    have:=h (j+1) r' (by simpa using hr) hd;have e:k+(j+1)=k+1+j:=by omega
    rwa [e] at this)]
  cases hr:r.hs with
  | none=>simp
  | some s =>
   have:=h 0 r rfl (by rw[hr];simp);simp only[Nat.add_zero] at this;simp[this]
theorem qHL:∀(rs:List Rec) (k:Nat) (D:Nat→Bool) (c:Option Nat×ASt) (j:Nat) (r:Rec) (s:ASt),rs[j]? = some r→r.hs=some s→D (k+j)=true →
  (∀(j':Nat) r',rs[j']? = some r'→j<j'→r'.hs≠none→D (k+j')=false)→qA7 rs k D c=(some (k+j),s)
 | [],_,_,_,_,_,_,h,_,_,_=>by simp at h
 | r0::rs,k,D,c,j,r,s,hr,hs,hD,h=>by
  simp only[qA7];cases j with
  | zero =>
   simp only[List.getElem?_cons_zero,qz1] at hr;subst hr;rw[qCz rs (k+1) D _ (fun j' r' hr' hd'=>by
     have:=h (j'+1) r' (by simpa using hr') (by omega) hd';have e:k+(j'+1)=k+1+j':=by omega
     rwa [e] at this)]
   simp only[Nat.add_zero] at hD;simp[hD,hs]
  | succ j =>
   have e:k+(j+1)=k+1+j:=by omega
   rw[e];exact qHL rs (k+1) D _ j r s (by simpa using hr) hs (by rwa [e] at hD) (fun j' r' hr' hlt hd'=>by
    have:=h (j'+1) r' (by simpa using hr') (by omega) hd';have e:k+(j'+1)=k+1+j':=by omega
    rwa [e] at this)
theorem last_cases (rs:List Rec) (D:Nat→Bool) (c:Option Nat×ASt) :
  ((∀(j:Nat) r,rs[j]? = some r→r.hs≠none→D j=false)∧qA7 rs 0 D c=c) ∨
  (∃j r s,rs[j]? = some r∧r.hs=some s∧D j=true∧(∀(j':Nat) r',rs[j']? = some r'→j<j'→r'.hs≠none→D j'=false)∧qA7 rs 0 D c=(some j,s)):=by
 have key:∀n,n≤rs.length→((∀(j:Nat) r,rs[j]? = some r→rs.length - n≤j→r.hs≠none→D j=false)) ∨
   (∃(j:Nat) (r:Rec) (s:ASt),rs[j]? = some r∧r.hs=some s∧D j=true∧(∀(j':Nat) r',rs[j']? = some r'→j<j'→r'.hs≠none→D j'=false)):=by
  intro n
  induction n with
  | zero =>
   intro _;refine .inl fun j r hj hle=>?_;have:=(List.getElem?_eq_some_iff.1 hj).1;omega
  | succ n ih =>
   intro hn;rcases ih (by omega) with h | h
   ·have hlt:rs.length - (n+1)<rs.length:=by omega
    have hx:rs[rs.length - (n+1)]? = some (rs[rs.length - (n+1)]'hlt):=by simp[hlt]
    cases hs:(rs[rs.length - (n+1)]'hlt).hs with
    | none =>
     refine .inl fun j r hj hle hr=>?_
     by_cases e:j=rs.length - (n+1)
     ·subst e;rw[hx] at hj;cases hj;exact absurd hs hr
     ·exact h j r hj (by omega) hr
    | some s =>
     cases hD:D (rs.length - (n+1)) with
     | false =>
      refine .inl fun j r hj hle hr=>?_
      by_cases e:j=rs.length - (n+1)
      ·subst e;exact hD
      ·exact h j r hj (by omega) hr
     | true=>exact .inr ⟨_,_,s,hx,hs,hD,fun j' r' hj' hlt' hr'=>h j' r' hj' (by omega) hr'⟩
   ·exact .inr h
 rcases key rs.length (Nat.le_refl _) with h | ⟨j,r,s,h1,h2,h3,h4⟩
 ·have h':∀(j:Nat) r,rs[j]? = some r→r.hs≠none→D j=false:=fun j r hj hr=>h j r hj (by omega) hr;exact .inl ⟨h',qCz rs 0 D c (fun j r hj hr=>by simpa using h' j r hj hr)⟩
 ·refine .inr ⟨j,r,s,h1,h2,h3,h4,?_⟩;have:=qHL rs 0 D c j r s h1 h2 (by simpa using h3) (fun j' r' a b d=>by simpa using h4 j' r' a b d);simpa using this
theorem qNG {fr fr':AFr} {d:Option Tmp} {v:AV} (h:fr.put d v=some fr') :
  (∀t,(fr'.m.get t).getD qAC=if d=some t then v else (fr.m.get t).getD qAC)∧fr'.n=fr.n∧fr'.defs=fr.defs:=by
 obtain⟨m,n,ds⟩:=fr;cases d with
 | none=>simp only[AFr.put,qz1] at h;subst h;exact⟨fun t=>by simp,rfl,rfl⟩
 | some d =>
  simp only[AFr.put] at h;cases hb:Nat.ble (Nat.succ d) n
  ·simp[hb] at h
  ·simp only[hb,cond_true,qz1] at h;subst h;refine⟨fun t=>?_,rfl,rfl⟩;simp only[T.get_set,qz1]
   by_cases e:t=d
   ·subst e;simp
   ·have:¬d=t:=fun h=>e h.symm;simp[e,this]
theorem qTE {fr fr0 fr1:AFr} {d:Option Tmp} {v u:AV} (h:fr0.put d u=some fr1) (hn:fr.n=fr0.n):∃fr',fr.put d v=some fr':=by
 obtain⟨m,n,ds⟩:=fr;obtain⟨m0,n0,ds0⟩:=fr0;simp only at hn;subst hn;cases d with
 | none=>exact⟨_,rfl⟩
 | some d =>
  simp only[AFr.put] at h ⊢;cases hb:Nat.ble (Nat.succ d) n
  ·simp[hb] at h
  ·exact⟨_,rfl⟩
def base (fr:AFr):Tmp→AV:=fun t=>(fr.m.get t).getD qAC
def gm (bs:List Nat):Option Nat→Nat
 | none=>0
 | some k=>bs.getD k 0
structure RunOK (E:Env) (f:Oper→AFr→ASt→Option (AV×ASt)) (wd:AFr→Oper→Bool) (nb:Nat) (bs:List Nat) (ops:List Oper) (fr:AFr) (st:ASt) (rs:List Rec) (fr':AFr) (g:Nat) (st':ASt):Prop where
 len:rs.length=ops.length
 at_:∀(i:Nat) r,rs[i]? = some r→ops[i]? = some r.o∧r.fr.n=fr.n∧(∃fr1,r.fr.put r.o.dst r.v=some fr1)∧(∀t,(r.fr.m.get t).getD qAC=val rs 0 (fun j=>decide (j<i)) (base fr) t) ∧
  ((qCe E r.o=true∧r.hs=none∧((wd r.fr r.o=true∧∃x,qFf E r.o r.fr=some x∧r.ob=some x.1∧r.v=x.2.val (nb+i))∨(wd r.fr r.o=false∧r.ob=none∧r.v=qAC))) ∨
   (qCe E r.o=false∧r.ob=none∧∃s',f r.o r.fr (qD3 nb (qm (bs.getD i 0) (gm bs (qA7 rs 0 (fun j=>decide (j<i)) (none,st)).1)) (qBH rs 0) (qA7 rs 0 (fun j=>decide (j<i)) (none,st)).2)=some (r.v,s') ∧
    (r.hs=if qBS E r.o=true then none else some s') ∧
    (qBS E r.o=false→Nat.land (gm bs (qA7 rs 0 (fun j=>decide (j<i)) (none,st)).1) (bs.getD i 0)=gm bs (qA7 rs 0 (fun j=>decide (j<i)) (none,st)).1)))
 fin:fr'.n=fr.n∧fr'.defs=fr.defs∧∀t,(fr'.m.get t).getD qAC=val rs 0 (fun _=>true) (base fr) t
 fins:st'=(qA7 rs 0 (fun _=>true) (none,st)).2∧g=gm bs (qA7 rs 0 (fun _=>true) (none,st)).1
end
end Go.Ax
end
