/-
  OWN WORK, A PART: an abstract machine for the program's text that the kernel can run, and the proof that it is sound: what it answers is what the program answers; contracts of functions by it. No condition.
-/
import Derived.Test.YtcboepooglaogaaGreatDoorWaB
import Derived.Laws.NewFold
import Derived.ScopeJumps
import Derived.RangeFuncNested
section
namespace Go.Ax
noncomputable section
open Go.RowKit
abbrev Ents:=List (AV×AV×Nat)
def plainKey:TypeDesc→Bool
 | .int _=>true
 | .string=>true
 | .bool=>true
 | _=>false
def keyEq (d:TypeDesc) (x y:AV):Option Bool :=
 match d with
 | .int _=>match x with | .int k a=>(match y with | .int j b=>bif kEq k j then some (eqF a b) else none | _=>none) | _=>none
 | .string=>match x with | .str a=>(match y with | .str b=>some (lEq a b) | _=>none) | _=>none
 | .bool=>match x with | .bool a=>(match y with | .bool b=>some (boolEq a b) | _=>none) | _=>none
 | _=>none
def findM (d:TypeDesc) (k:AV):Ents→Nat→Option (Option (Nat×AV))
 | [],_=>some none
 | e::es,i =>
  match keyEq d k e.1 with
  | some true=>some (some (i,e.2.1))
  | some false=>findM d k es (i+1)
  | none=>none
def mapAt (st:ASt) (x:AV):Option Ents :=
 match x with
 | .map none=>some []
 | .map (some i)=>match st.h.get i with | some (.map es _)=>some es | _=>none
 | _=>none
def aMakeMap (st:ASt):AV×ASt:=(.map (some st.next),st.add (.map [] 0))
def aLookup (E:Env) (t:TypeId) (x ix:AV) (ok:Bool) (st:ASt):Option AV :=
 match E.ty.get t with
 | none=>none
 | some ti =>
  match ti.desc with
  | .map key elem =>
   match E.ty.get key with
   | none=>none
   | some tk =>
    match mapAt st x with
    | none=>none
    | some es =>
     match findM tk.desc ix es 0 with
     | none=>none
     | some (some p)=>bif plainKey tk.desc then some (bif ok then .tuple [p.2,.bool true] else p.2) else none
     | some none =>
      match E.ty.get elem with
      | none=>none
      | some te=>match te.zero with | some z=>(bif plainKey tk.desc then some (bif ok then .tuple [z,.bool false] else z) else none) | none=>none
  | _=>none
def setNth (es:Ents) (i:Nat) (k v:AV):Ents:=es.modify i (fun e=>(k,v,e.2.2))
def aMapUpdate (E:Env) (t:TypeId) (m k v:AV) (st:ASt):Option ASt :=
 match E.ty.get t with
 | none=>none
 | some ti =>
  match ti.desc with
  | .map key _ =>
   match E.ty.get key with
   | none=>none
   | some tk =>
    bif plainKey tk.desc then
     match m with
     | .map (some i) =>
      match st.h.get i with
      | some (.map es c) =>
       match findM tk.desc k es 0 with
       | some (some p)=>some (st.put i (.map (setNth es p.1 k v) c))
       | some none=>some (st.put i (.map (es++[(k,v,c)]) (c+1)))
       | none=>none
      | _=>none
     | _=>none
    else none
  | _=>none
def aDelete (E:Env) (t:TypeId) (m k:AV) (st:ASt):Option ASt :=
 match E.ty.get t with
 | none=>none
 | some ti =>
  match ti.desc with
  | .map key _ =>
   match E.ty.get key with
   | none=>none
   | some tk =>
    bif plainKey tk.desc then
     match m with
     | .map none=>some st
     | .map (some i) =>
      match st.h.get i with
      | some (.map es c) =>
       match findM tk.desc k es 0 with
       | some (some p)=>some (st.put i (.map (es.eraseIdx p.1) c))
       | some none=>some (st.put i (.map es c))
       | none=>none
      | _=>none
     | _=>none
    else none
  | _=>none
def aClear (E:Env) (t:TypeId) (x:AV) (st:ASt):Option ASt :=
 match E.ty.get t with
 | none=>none
 | some ti =>
  match x with
  | .map none=>some st
  | .map (some i)=>match st.h.get i with | some (.map _ c)=>some (st.put i (.map [] c)) | _=>none
  | .slice none _ _=>some st
  | .slice0=>some st
  | .slice (some (i,o)) n _ =>
   match n with
   | 0=>some st
   | _ =>
    match ti.desc with
    | .slice e =>
     match E.ty.get e with
     | none=>none
     | some ei =>
      match ei.zero with
      | none=>none
      | some z =>
       match z with
       | .tuple _=>none
       | .any=>none
       | _ =>
        match st.h.get i with
        | some (.cells cs true)=>match setL cs o (repL (cellsOf z) n) with | some cs'=>some (st.put i (.cells cs' true)) | none=>none
        | _=>none
    | _=>none
  | _=>none
def aLenM (E:Env) (t:TypeId) (x:AV) (st:ASt):Option AV :=
 match x with
 | .map (some i) =>
  match E.ty.get t with
  | some ti =>
   match ti.desc with
   | .map _ _=>match st.h.get i with | some (.map es _)=>some (.int .i64 (.ofNat es.length)) | _=>none
   | _=>none
  | none=>none
 | _=>none
section
variable {P:Program} {E:Env} {B:Prot} {w0:World} {ι:Ren} {st:ASt} {w:World}
theorem baEq (a b:ByteArray):(a == b)=(a.toList == b.toList):=by
 have e:(a == b)=(a.data == b.data):=rfl
 rw[e,Bool.eq_iff_iff,beq_iff_eq,beq_iff_eq,ByteArray.toList_eq,ByteArray.toList_eq]
 exact⟨fun h=>by rw[h],fun h=>Array.ext' h⟩
theorem ba_of_beq {a b:ByteArray} (h:(a == b)=true):a=b:=by
 have e:(a == b)=(a.data == b.data):=rfl
 rw[e,beq_iff_eq] at h
 exact ByteArray.ext h
theorem ba_refl (a:ByteArray):(a == a)=true:=by
 have e:(a == a)=(a.data == a.data):=rfl
 rw[e];exact beq_self_eq_true _
theorem keyEq_ok {d:TypeDesc} {x y:AV} {x' y':Value} {b:Bool} (hx:VR ι x x') (hy:VR ι y y') (h:keyEq d x y=some b):Instr.sameNow d x' y'=some b∧(b=true→Instr.sameBits 10000 y' x'=true):=by
 cases d with
 | int kk =>
  cases hx with
  | int k a =>
   cases hy with
   | int j c =>
    simp only[keyEq] at h
    cases hk:kEq k j
    ·simp[hk] at h
    ·have:=kEq_eq hk;subst this
     simp only[hk,cond_true,Option.some.injEq] at h
     rw[eqF_eq] at h
     refine⟨by simp only[Instr.sameNow,if_true];rw[h],fun hb=>?_⟩
     rw[hb] at h
     have:a=c:=by simpa using h
     subst this;simp[Instr.sameBits]
   | _=>simp[keyEq] at h
  | _=>simp[keyEq] at h
 | string =>
  have hx0:=hx
  have hy0:=hy
  cases hx with
  | str l s hs =>
   cases hy with
   | str m r hr =>
    simp only[keyEq,Option.some.injEq] at h
    have e:=str_eq hx0 hy0
    refine⟨by simp only[Instr.sameNow];rw[baEq,e,h],fun hb=>?_⟩
    rw[hb,←e] at h
    have:s=r:=ba_of_beq (by rw[baEq];exact h)
    subst this
    simp only[Instr.sameBits];exact ba_refl s
   | _=>simp[keyEq] at h
  | _=>simp[keyEq] at h
 | bool =>
  cases hx with
  | bool a =>
   cases hy with
   | bool c =>
    simp only[keyEq,Option.some.injEq] at h
    have e:(a == c)=boolEq a c:=by cases a<;>cases c<;>rfl
    refine⟨by simp only[Instr.sameNow];rw[e,h],fun hb=>?_⟩
    rw[hb,←e] at h
    have:a=c:=by simpa using h
    subst this;simp[Instr.sameBits]
   | _=>simp[keyEq] at h
  | _=>simp[keyEq] at h
 | _=>simp[keyEq] at h
def EntR (ι:Ren) (es:Ents) (es':List MapEntry):Prop:=es.length=es'.length∧∀(i:Nat) x e,es[i]? = some x→es'[i]? = some e→VR ι x.1 e.key∧VR ι x.2.1 e.val∧x.2.2=e.born
theorem findM_ok {d:TypeDesc} {k:AV} {k':Value} (hk:VR ι k k'):∀(es:Ents) (es':List MapEntry) (i:Nat) (r:Option (Nat×AV)),EntR ι es es'→findM d k es i=some r →
  match r with
  | none=>Instr.findNow d k' es' i=some none
  | some p=>∃v' j e,Instr.findNow d k' es' i=some (some (p.1,v'))∧VR ι p.2 v'∧p.1=i+j∧es'[j]? = some e∧Instr.sameBits 10000 e.key k'=true
 | [],es',i,r,he,h=>by
  simp only[findM,Option.some.injEq] at h;subst h
  have:es'=[]:=by have:=he.1;simp at this;exact List.eq_nil_of_length_eq_zero this.symm
  subst this;rfl
 | e::es,[],i,r,he,h=>by have:=he.1;simp at this
 | e::es,e'::es',i,r,he,h=>by
  have h0:=he.2 0 e e' rfl rfl
  have het:EntR ι es es':=⟨by have:=he.1;simpa using this,fun j x y hx hy=>he.2 (j+1) x y (by simpa using hx) (by simpa using hy)⟩
  simp only[findM] at h
  split at h
  ·rename_i hq
   simp only[Option.some.injEq] at h;subst h
   obtain⟨q1,q2⟩:=keyEq_ok hk h0.1 hq
   exact⟨e'.val,0,e',by simp only[Instr.findNow,q1],h0.2.1,rfl,rfl,q2 rfl⟩
  ·rename_i hq
   obtain⟨q1,_⟩:=keyEq_ok hk h0.1 hq
   have ih:=findM_ok hk es es' (i+1) r het h
   cases r with
   | none=>simp only[Instr.findNow,q1];exact ih
   | some p =>
    obtain⟨v',j,e1,g1,g2,g3,g4,g5⟩:=ih
    exact⟨v',j+1,e1,by simp only[Instr.findNow,q1];exact g1,g2,by omega,by simpa using g4,g5⟩
  ·simp at h
theorem run_checkKey {t:TypeId} {ti:TI} (hE:E.Ok P) (hti:E.ty.get t=some ti) (hp:plainKey ti.desc=true) (b:Bool) (v:Value):(Instr.checkKey b 10000 t v).run P w=.ok () w:=by
 have hk:=(mkTI_ok (hE.ty _ _ hti)).run_und w
 rw[show (10000:Nat)=9999+1 from rfl,Instr.checkKey]
 simp only[Sem.run_bind,hk,Result.andThen_ok]
 cases hd:ti.desc<;>simp only[hd,plainKey,Bool.false_eq_true] at hp<;>simp only[Sem.run_pure]
theorem run_findKey {t:TypeId} {ti:TI} (hE:E.Ok P) (hti:E.ty.get t=some ti) {k':Value} {es':List MapEntry} {r:Option (Nat×Value)} (h:Instr.findNow ti.desc k' es' 0=some r) :
  (Instr.findKey t k' es').run P w=.ok r w:=by
 have hk:=(mkTI_ok (hE.ty _ _ hti)).run_und w
 simp only[Instr.findKey,Sem.run_bind,hk,Result.andThen_ok,h,Sem.run_pure]
theorem map_obj (h:SR B w0 ι st w) {i:Nat} {es:Ents} {c:Nat} {L:Loc} (hi:st.h.get i=some (.map es c)) (hL:ι i=some L):∃es':Array MapEntry,w.heap[L.b]? = some (.map es' c)∧EntR ι es es'.toList:=by
 obtain⟨L',o,h1,h2,es',h3,h4,h5⟩:=h.obj i _ hi (by simp)
 rw[hL] at h1;cases h1
 exact⟨es',by rw[h2,h3],by simpa using h4,fun i x e hx he=>h5 i x e hx (by simpa using he)⟩
theorem run_getMap {b:Nat} {es:Array MapEntry} {c:Nat} (h:w.heap[b]? = some (.map es c)):(getObj b).run P w=.ok (.map es c) w:=by simp[getObj,Sem.run,h]
theorem run_setMap {b:Nat} {es:Array MapEntry} {c:Nat} (o':Obj) (h:w.heap[b]? = some (.map es c)):(setObj b o').run P w=.ok () (setObjW w b o'):=by simp[setObj,Sem.run,h,setObjW]
theorem aMakeMap_ok (h:SR B w0 ι st w) {t:TypeId}:Did P B w0 ι w (Instr.makeMap t none) (aMakeMap st):=by
 obtain⟨h1,h2,h3⟩:=h.alloc (.map [] 0) (.map #[] 0) 0 ⟨#[],rfl,rfl,fun i x e hx=>by simp at hx⟩
 refine⟨_,.map (some w.heap.size),_,?_,h2,h1,.map _ ⟨w.heap.size,0,0⟩ h3⟩
 simp only[Instr.makeMap,Sem.run_bind,run_newObj_alloc,Result.andThen_ok,Sem.run_pure]
theorem mapAt_ok (h:SR B w0 ι st w) {x:AV} {x':Value} (hx:VR ι x x') {es:Ents} (hm:mapAt st x=some es) :
  ∃es':Array MapEntry,((x'=.map none∧es'=#[])∨∃r c,x'=.map (some r)∧w.heap[r]? = some (.map es' c))∧EntR ι es es'.toList:=by
 cases hx with
 | mapN =>
  simp only[mapAt,Option.some.injEq] at hm;subst hm
  exact⟨#[],.inl ⟨rfl,rfl⟩,rfl,fun i x e hx=>by simp at hx⟩
 | map i L hL =>
  simp only[mapAt] at hm
  split at hm
  ·rename_i es1 c hi
   simp only[Option.some.injEq] at hm;subst hm
   obtain⟨es',h1,h2⟩:=map_obj h hi hL
   exact⟨es',.inr ⟨_,_,rfl,h1⟩,h2⟩
  ·simp at hm
 | _=>simp[mapAt] at hm
theorem aLookup_ok (hE:E.Ok P) (h:SR B w0 ι st w) {t:TypeId} {x ix r:AV} {x' ix':Value} {ok:Bool} (hx:VR ι x x') (hi:VR ι ix ix') (hr:aLookup E t x ix ok st=some r) :
  ∃v,(Instr.lookup t x' ix' ok).run P w=.ok v w∧VR ι r v:=by
 simp only[aLookup] at hr
 split at hr
 ·simp at hr
 rename_i ti hti
 have hk:=(mkTI_ok (hE.ty _ _ hti)).run_und w
 split at hr
 rotate_left
 ·simp at hr
 rename_i key elem hd
 rw[hd] at hk
 split at hr
 ·simp at hr
 rename_i tk htk
 split at hr
 ·simp at hr
 rename_i es hes
 obtain⟨es',run1,hent⟩:=mapAt_ok h hx hes
 have two:∀{a:AV} {v:Value} (b:Bool),VR ι a v→VR ι (.tuple [a,.bool b]) (.tuple #[v,.bool b]):=fun {a v} b hv=>.tuple _ _ rfl (fun i y y' hy hy'=>by
  match i with
  | 0=>simp at hy hy';subst hy;subst hy';exact hv
  | 1=>simp at hy hy';subst hy;subst hy';exact .bool b
  | i+2=>simp at hy)
 have fin:∀{a:AV} {v:Value} (b:Bool),VR ι a v→VR ι (bif ok then .tuple [a,.bool b] else a) (if ok=true then .tuple #[v,.bool b] else v):=fun {a v} b hv=>by
  cases ok
  ·exact hv
  ·exact two b hv
 split at hr
 ·simp at hr
 ·rename_i p hp
  cases hpl:plainKey tk.desc
  ·simp[hpl] at hr
  simp only[hpl,cond_true,Option.some.injEq] at hr;subst hr
  obtain⟨v',j,e,g1,g2,_⟩:=findM_ok hi es es'.toList 0 _ hent hp
  refine⟨if ok=true then .tuple #[v',.bool true] else v',?_,fin true g2⟩
  rcases run1 with⟨rfl,rfl⟩ | ⟨r0,c0,rfl,ho⟩
  ·simp only[Instr.lookup,Sem.run_bind,hk,Result.andThen_ok,run_checkKey hE htk hpl,run_findKey hE htk g1,Sem.run_pure]
  ·simp only[Instr.lookup,Sem.run_bind,hk,Result.andThen_ok,run_getMap ho,run_checkKey hE htk hpl,run_findKey hE htk g1,Sem.run_pure]
 ·rename_i hp
  split at hr
  ·simp at hr
  rename_i te hte
  split at hr
  ·rename_i z hz
   cases hpl:plainKey tk.desc
   ·simp[hpl] at hr
   simp only[hpl,cond_true,Option.some.injEq] at hr;subst hr
   have g1:=findM_ok hi es es'.toList 0 _ hent hp
   simp only at g1
   obtain⟨v,hv1,hv2⟩:=(mkTI_ok (hE.ty _ _ hte)).run_zero hz w
   refine⟨if ok=true then .tuple #[v,.bool false] else v,?_,fin false (hv2 ι)⟩
   rcases run1 with⟨rfl,rfl⟩ | ⟨r0,c0,rfl,ho⟩
   ·simp only[Instr.lookup,Sem.run_bind,hk,Result.andThen_ok,run_checkKey hE htk hpl,run_findKey hE htk g1,hv1,Sem.run_pure]
   ·simp only[Instr.lookup,Sem.run_bind,hk,Result.andThen_ok,run_getMap ho,run_checkKey hE htk hpl,run_findKey hE htk g1,hv1,Sem.run_pure]
  ·simp at hr
theorem EntR.snoc {es:Ents} {es':List MapEntry} (h:EntR ι es es') {k v:AV} {k' v':Value} (hk:VR ι k k') (hv:VR ι v v') (c:Nat):EntR ι (es++[(k,v,c)]) (es'++[{key:=k',val:=v',born:=c}]):=by
 refine⟨by simp[h.1],fun i x e hx he=>?_⟩
 by_cases hi:i<es.length
 ·rw[List.getElem?_append_left hi] at hx
  rw[List.getElem?_append_left (by rw[←h.1];exact hi)] at he
  exact h.2 i x e hx he
 ·have e1:i=es.length:=by
   have:=(List.getElem?_eq_some_iff.1 hx).1
   simp at this;omega
  subst e1
  rw[List.getElem?_append_right (Nat.le_refl _)] at hx
  rw[List.getElem?_append_right (by rw[h.1];exact Nat.le_refl _)] at he
  simp[h.1] at hx he
  subst hx;subst he
  exact⟨hk,hv,rfl⟩
theorem aMapUpdate_ok (hE:E.Ok P) (h:SR B w0 ι st w) {t:TypeId} {m k v:AV} {m' k' v':Value} {st':ASt} (hm:VR ι m m') (hk:VR ι k k') (hv:VR ι v v') (hr:aMapUpdate E t m k v st=some st') :
  ∃w',(Instr.mapUpdate t m' k' v').run P w=.ok () w'∧SR B w0 ι st' w':=by
 simp only[aMapUpdate] at hr
 split at hr
 ·simp at hr
 rename_i ti hti
 have hu:=(mkTI_ok (hE.ty _ _ hti)).run_und w
 split at hr
 rotate_left
 ·simp at hr
 rename_i key elem hd
 rw[hd] at hu
 split at hr
 ·simp at hr
 rename_i tk htk
 cases hpl:plainKey tk.desc
 ·simp[hpl] at hr
 simp only[hpl,cond_true] at hr
 split at hr
 rotate_left
 ·simp at hr
 rename_i i
 cases hm with
 | map _ L hL =>
 split at hr
 rotate_left
 ·simp at hr
 rename_i es c hi
 obtain⟨es',ho,hent⟩:=map_obj h hi hL
 split at hr
 ·rename_i p hp
  simp only[Option.some.injEq] at hr;subst hr
  obtain⟨v0,j,e,g1,g2,g3,g4,g5⟩:=findM_ok hk es es'.toList 0 _ hent hp
  have hpj:p.1=j:=by omega
  have g4':es'[p.1]? = some e:=by rw[hpj];simpa using g4
  have hw:=h.write (a':=.map (setNth es p.1 k v) c) hi rfl hL (o':=.map (es'.modify p.1 fun e=>{e with key:=k',val:=v'}) c)
   ⟨_,rfl,by simpa [setNth] using hent.1,fun q x y hx hy=>by
    simp only[setNth,List.getElem?_modify] at hx
    rw[Array.getElem?_modify] at hy
    by_cases e1:p.1=q
    ·subst e1
     cases h1:es[p.1]? with
     | none=>simp[h1] at hx
     | some x0 =>
      cases h2:es'[p.1]? with
      | none=>simp[h2] at hy
      | some y0 =>
       simp only[h1,if_true,Option.map_eq_map,Option.map_some,Option.some.injEq] at hx
       simp only[h2,if_true,Option.map_some,Option.some.injEq] at hy
       have h3:=(hent.2 _ _ _ h1 (by rw[Array.getElem?_toList];exact h2)).2.2
       subst hx;subst hy
       exact⟨hk,hv,h3⟩
    ·simp only[e1,if_false] at hx hy
     exact hent.2 q x y (by simpa using hx) (by simpa using hy)⟩
  refine⟨_,?_,hw⟩
  simp only[Instr.mapUpdate,Sem.run_bind,hu,Result.andThen_ok,run_getMap ho,run_checkKey hE htk hpl,run_findKey hE htk g1,g4',Option.map_some,Option.getD_some,Instr.keyThatStays,g5,if_true,Sem.run_pure,run_setMap _ ho]
 ·rename_i hp
  simp only[Option.some.injEq] at hr;subst hr
  have g1:=findM_ok hk es es'.toList 0 _ hent hp
  simp only at g1
  have hs:=hent.snoc hk hv c
  have hw:=h.write (a':=.map (es++[(k,v,c)]) (c+1)) hi rfl hL (o':=.map (es'.push {key:=k',val:=v',born:=c}) (c+1))
   ⟨_,rfl,by simpa using hs.1,fun q x y hx hy=>hs.2 q x y hx (by rw[←Array.toList_push,Array.getElem?_toList];exact hy)⟩
  refine⟨_,?_,hw⟩
  simp only[Instr.mapUpdate,Sem.run_bind,hu,Result.andThen_ok,run_getMap ho,run_checkKey hE htk hpl,run_findKey hE htk g1,run_setMap _ ho]
 ·simp at hr
theorem aDelete_ok (hE:E.Ok P) (h:SR B w0 ι st w) {t:TypeId} {ts:List TypeId} {rT:TypeId} {m k:AV} {m' k':Value} {st':ASt} (hm:VR ι m m') (hk:VR ι k k') (hr:aDelete E t m k st=some st') :
  ∃w',(Builtin.delete_ (t::ts).toArray rT #[m',k']).run P w=.ok (.tuple #[]) w'∧SR B w0 ι st' w':=by
 simp only[aDelete] at hr
 split at hr
 ·simp at hr
 rename_i ti hti
 have hu:=(mkTI_ok (hE.ty _ _ hti)).run_und w
 split at hr
 rotate_left
 ·simp at hr
 rename_i key elem hd
 rw[hd] at hu
 split at hr
 ·simp at hr
 rename_i tk htk
 cases hpl:plainKey tk.desc
 ·simp[hpl] at hr
 simp only[hpl,cond_true] at hr
 have e0:(t::ts).toArray[0]? = some t:=rfl
 have e1:(#[m',k']:Array Value)[0]? = some m':=rfl
 have e2:(#[m',k']:Array Value)[1]? = some k':=rfl
 split at hr
 ·cases hm
  simp only[Option.some.injEq] at hr;subst hr
  refine⟨w,?_,h⟩
  simp only[Builtin.delete_,e0,e1,e2,Sem.run_bind,hu,Result.andThen_ok,run_checkKey hE htk hpl,Sem.run_pure]
 ·rename_i i
  cases hm with
  | map _ L hL =>
  split at hr
  rotate_left
  ·simp at hr
  rename_i es c hi
  obtain⟨es',ho,hent⟩:=map_obj h hi hL
  split at hr
  ·rename_i p hp
   simp only[Option.some.injEq] at hr;subst hr
   obtain⟨v0,j,e,g1,g2,g3,g4,g5⟩:=findM_ok hk es es'.toList 0 _ hent hp
   have hlt:p.1<es'.size:=by have:=(List.getElem?_eq_some_iff.1 g4).1;simp at this;omega
   have hw:=h.write (a':=.map (es.eraseIdx p.1) c) hi rfl hL (o':=.map (es'.eraseIdxIfInBounds p.1) c)
    ⟨_,rfl,by
     have hlen:es.length=es'.size:=by simpa using hent.1
     rw[←Array.length_toList,Array.toList_eraseIdxIfInBounds,List.length_eraseIdx,List.length_eraseIdx]
     simp only[hlen,Array.length_toList],fun q x y hx hy=>by
     rw[←Array.getElem?_toList,Array.toList_eraseIdxIfInBounds,List.getElem?_eraseIdx] at hy
     rw[List.getElem?_eraseIdx] at hx
     by_cases hq:q<p.1
     ·simp only[hq,if_true] at hx hy;exact hent.2 _ _ _ hx hy
     ·simp only[hq,if_false] at hx hy;exact hent.2 _ _ _ hx hy⟩
   refine⟨_,?_,hw⟩
   simp only[Builtin.delete_,e0,e1,e2,Sem.run_bind,hu,Result.andThen_ok,run_getMap ho,run_checkKey hE htk hpl,run_findKey hE htk g1,run_setMap _ ho,Sem.run_pure]
  ·rename_i hp
   simp only[Option.some.injEq] at hr;subst hr
   have g1:=findM_ok hk es es'.toList 0 _ hent hp
   simp only at g1
   have hw:=h.write (a':=.map es c) hi rfl hL (o':=.map es' c) ⟨_,rfl,by simpa using hent.1,fun q x y hx hy=>hent.2 q x y hx (by simpa using hy)⟩
   refine⟨_,?_,hw⟩
   simp only[Builtin.delete_,e0,e1,e2,Sem.run_bind,hu,Result.andThen_ok,run_getMap ho,run_checkKey hE htk hpl,run_findKey hE htk g1,run_setMap _ ho,Sem.run_pure]
  ·simp at hr
 ·simp at hr
theorem aClear_ok (hE:E.Ok P) (h:SR B w0 ι st w) {t:TypeId} {ts:List TypeId} {rT:TypeId} {x:AV} {x':Value} {st':ASt} (hx:VR ι x x') (hr:aClear E t x st=some st') :
  ∃w',(Builtin.clear_ (t::ts).toArray rT #[x']).run P w=.ok (.tuple #[]) w'∧SR B w0 ι st' w':=by
 simp only[aClear] at hr
 split at hr
 ·simp at hr
 rename_i ti hti
 have hu:=(mkTI_ok (hE.ty _ _ hti)).run_und w
 have e0:(t::ts).toArray[0]? = some t:=rfl
 have e1:(#[x']:Array Value)[0]? = some x':=rfl
 split at hr
 ·cases hx
  simp only[Option.some.injEq] at hr;subst hr
  refine⟨w,?_,h⟩
  simp only[Builtin.clear_,e0,e1,Sem.run_bind,hu,Result.andThen_ok,Sem.run_pure]
 ·rename_i i
  cases hx with
  | map _ L hL =>
  split at hr
  ·rename_i es c hi
   simp only[Option.some.injEq] at hr;subst hr
   obtain⟨es',ho,hent⟩:=map_obj h hi hL
   have hw:=h.write (a':=.map [] c) hi rfl hL (o':=.map #[] c) ⟨#[],rfl,rfl,fun i x e hx=>by simp at hx⟩
   refine⟨_,?_,hw⟩
   simp only[Builtin.clear_,e0,e1,Sem.run_bind,hu,Result.andThen_ok,run_getMap ho,run_setMap _ ho,Sem.run_pure]
  ·simp at hr
 ·cases hx
  simp only[Option.some.injEq] at hr;subst hr
  refine⟨w,?_,h⟩
  simp only[Builtin.clear_,e0,e1,Sem.run_bind,hu,Result.andThen_ok,Sem.run_pure]
 ·cases hx
  simp only[Option.some.injEq] at hr;subst hr
  refine⟨w,?_,h⟩
  simp only[Builtin.clear_,e0,e1,Sem.run_bind,hu,Result.andThen_ok,Sem.run_pure]
 ·rename_i i o n cp
  cases hx with
  | slice _ _ _ c' L _ hL hc hl =>
  split at hr
  ·simp only[Option.some.injEq] at hr;subst hr
   refine⟨w,?_,h⟩
   simp only[Builtin.clear_,e0,e1,Sem.run_bind,hu,Result.andThen_ok,Sem.run_pure]
  ·rename_i hn0
   split at hr
   rotate_left
   ·simp at hr
   rename_i e hd
   rw[hd] at hu
   split at hr
   ·simp at hr
   rename_i ei hei
   split at hr
   ·simp at hr
   rename_i z hz
   have key:((∀vs,z≠.tuple vs)∧z≠.any)→(match st.h.get i with
     | some (.cells cs true)=>match setL cs o (repL (cellsOf z) n) with | some cs'=>some (st.put i (.cells cs' true)) | none=>none
     | _=>none)=some st'→∃w',(Builtin.clear_ (t::ts).toArray rT #[.slice (some ⟨L.b,L.p+o,none⟩) n c']).run P w=.ok (.tuple #[]) w'∧SR B w0 ι st' w':=by
    intro hnt hr
    split at hr
    ·rename_i cs hi
     split at hr
     ·rename_i cs' hset
      simp only[Option.some.injEq] at hr;subst hr
      obtain⟨v,hv1,hv2,hv3⟩:=zero_cells hE hei hz hnt w
      have hrep:=repL_VRs (hv2 ι) n
      obtain⟨w',s1,s2⟩:=SR.storeCells (P:=P) (repL (cellsOf z) n) (Builtin.zeroCells v.cells n).toList 0 o cs cs' st w h hi hL (by simpa using hset) (by simpa only[Builtin.zeroCells,Array.toArray_toList] using hrep) (repL_cell hv3 n)
      refine⟨w',?_,s2⟩
      cases n with
      | zero=>exact absurd rfl hn0
      | succ n =>
       simp only[Builtin.clear_,e0,e1,Sem.run_bind,hu,Result.andThen_ok,hv1,s1,Sem.run_pure]
     ·simp at hr
    ·simp at hr
   split at hr
   ·simp at hr
   ·simp at hr
   ·rename_i hnt hny
    exact key ⟨fun vs e=>hnt vs e,fun e=>hny e⟩ hr
 ·simp at hr
theorem aLenM_ok (hE:E.Ok P) (h:SR B w0 ι st w) {t:TypeId} {ts:List TypeId} {rT:TypeId} {x r:AV} {x':Value} (hx:VR ι x x') (hr:aLenM E t x st=some r) :
  ∃v,(Builtin.len_ (t::ts).toArray rT #[x']).run P w=.ok v w∧VR ι r v:=by
 simp only[aLenM] at hr
 split at hr
 ·rename_i i
  cases hx with
  | map _ L hL =>
  split at hr
  ·rename_i ti hti
   have hu:=(mkTI_ok (hE.ty _ _ hti)).run_und w
   split at hr
   ·rename_i k e hd
    rw[hd] at hu
    split at hr
    ·rename_i es c hi
     simp only[Option.some.injEq] at hr;subst hr
     obtain⟨es',ho,hent⟩:=map_obj h hi hL
     have e0:(t::ts).toArray[0]? = some t:=rfl
     have e1:(#[Value.map (some L.b)]:Array Value)[0]? = some (.map (some L.b)):=rfl
     refine⟨.int .i64 (es'.size:Int),?_,by have:=hent.1;simp at this;rw[this];exact .int .i64 _⟩
     simp only[Builtin.len_,e0,e1,Sem.run_bind,hu,Result.andThen_ok,run_getMap ho,Sem.run_pure,goInt]
    ·simp at hr
   ·simp at hr
  ·simp at hr
 ·simp at hr
end
end
end Go.Ax
end

section
namespace Go.Ax
noncomputable section
open Go.RowKit
def aRange (E:Env) (t:TypeId) (x:AV) (st:ASt):Option (AV×ASt) :=
 match E.ty.get t with
 | none=>none
 | some ti =>
  match ti.desc with
  | .string=>match x with | .str s=>some (.ptr (some (st.next,0)),st.add (.siter s 0)) | _=>none
  | .map _ _ =>
   match x with
   | .map none=>some (.ptr (some (st.next,0)),st.add (.miter none 0 [] 0))
   | .map (some i)=>match st.h.get i with | some (.map _ c)=>some (.ptr (some (st.next,0)),st.add (.miter (some i) c [] c)) | _=>none
   | _=>none
  | _=>none
def memN (n:Nat):List Nat→Bool
 | []=>false
 | m::ms=>bif Nat.beq n m then true else memN n ms
def filt (p:Nat→Bool):Ents→Ents
 | []=>[]
 | e::es=>bif p e.2.2 then e::filt p es else filt p es
def allE (p:Nat→Bool):Ents→Bool
 | []=>true
 | e::es=>bif p e.2.2 then allE p es else false
def isNil {α:Type}:List α→Bool
 | []=>true
 | _=>false
def overA (st:ASt):Option (AV×ASt):=some (.tuple [.bool false],st)
def bytesA (l:List Nat):ByteArray:=⟨(l.map UInt8.ofNat).toArray⟩
theorem bytesA_eq {s:ByteArray} {l:List Nat} (h:s.data.toList.map UInt8.toNat=l):bytesA l=s:=by
 subst h
 have:(s.data.toList.map UInt8.toNat).map UInt8.ofNat=s.data.toList:=by
  rw[List.map_map]
  have e:(UInt8.ofNat∘UInt8.toNat)=id:=by funext x;simp
  rw[e,List.map_id]
 unfold bytesA
 rw[this]
def runeA (l:List Nat) (pos:Nat):Nat×Nat:=Utf8.decode (bytesA l) pos
def aNext (x:AV) (isS:Bool) (st:ASt):Option (AV×ASt) :=
 match x with
 | .ptr (some (i,0)) =>
  match st.h.get i with
  | some (.siter s pos) =>
   bif isS then
    bif Nat.blt pos s.length then
     match s[pos]? with
     | some b=>bif Nat.blt b 128 then some (.tuple [.bool true,.int .i64 (.ofNat pos),.int .i32 (.ofNat b)],st.put i (.siter s (pos+1)))
      else some (.tuple [.bool true,.int .i64 (.ofNat pos),.int .i32 (.ofNat (runeA s pos).1)],st.put i (.siter s (pos+(runeA s pos).2)))
     | none=>none
    else overA st
   else none
  | some (.miter m since seen last) =>
   bif isS then none else
   match m with
   | none=>overA st
   | some j =>
    match st.h.get j with
    | some (.map es c) =>
     bif (bif isNil seen then false else bif isNil es then false else allE (fun b=>Nat.ble last b) es) then none else
     let left:=filt (fun b=>Bool.not (memN b seen)) es
     match filt (fun b=>Nat.blt b since) left with
     | []=>(match filt (fun b=>Nat.ble since b) left with | []=>overA st | _=>none)
     | [e]=>(match filt (fun b=>Nat.ble since b) left with
      | []=>some (.tuple [.bool true,e.1,e.2.1],st.put i (.miter (some j) since (seen++[e.2.2]) c))
      | _=>none)
     | _=>none
    | _=>none
  | _=>none
 | _=>none
def findB (n:Nat):Ents→Option (AV×AV)
 | []=>none
 | e::es=>bif Nat.beq e.2.2 n then some (e.1,e.2.1) else findB n es
def aEntry (x:AV) (st:ASt):Option AV :=
 match x with
 | .ptr (some (i,0)) =>
  match st.h.get i with
  | some (.miter (some j) _ seen last) =>
   match seen.getLast? with
   | none=>none
   | some b =>
    match st.h.get j with
    | some (.map es c) =>
     bif Nat.beq c last then
      match findB b es with
      | some p=>some (.tuple [p.1,p.2])
      | none=>none
     else none
    | _=>none
  | _=>none
 | _=>none
section
variable {P:Program} {E:Env} {B:Prot} {w0:World} {ι:Ren} {st:ASt} {w:World}
theorem aRange_ok (hE:E.Ok P) (h:SR B w0 ι st w) {t:TypeId} {x:AV} {x':Value} {r:AV×ASt} (hx:VR ι x x') (hr:aRange E t x st=some r):Did P B w0 ι w (Instr.range t x') r:=by
 simp only[aRange] at hr
 split at hr
 ·simp at hr
 rename_i ti hti
 have hk:=(mkTI_ok (hE.ty _ _ hti)).run_und w
 split at hr
 ·rename_i hd
  rw[hd] at hk
  split at hr
  ·cases hx with
   | str _ s hs =>
    simp only[Option.some.injEq] at hr;subst hr
    obtain⟨h1,h2,h3⟩:=h.alloc (.siter _ 0) (.stringIter s 0) 0 ⟨rfl,s,rfl,hs⟩
    refine⟨_,.pointer (some ⟨w.heap.size,0,none⟩),_,?_,h2,h1,.ptr _ 0 ⟨w.heap.size,0,0⟩ h3⟩
    simp only[Instr.range,Sem.run_bind,hk,Result.andThen_ok,Sem.run_pure,run_newObj_alloc]
  ·simp at hr
 ·rename_i k e hd
  rw[hd] at hk
  split at hr
  ·cases hx
   simp only[Option.some.injEq] at hr;subst hr
   obtain⟨h1,h2,h3⟩:=h.alloc (.miter none 0 [] 0) (.mapIter none 0 #[] 0) 0 ⟨rfl,none,rfl,rfl⟩
   refine⟨_,.pointer (some ⟨w.heap.size,0,none⟩),_,?_,h2,h1,.ptr _ 0 ⟨w.heap.size,0,0⟩ h3⟩
   simp only[Instr.range,Sem.run_bind,hk,Result.andThen_ok,Sem.run_pure,run_newObj_alloc]
  ·rename_i i
   cases hx with
   | map _ L hL =>
   split at hr
   ·rename_i es c hi
    simp only[Option.some.injEq] at hr;subst hr
    obtain⟨es',ho,hent⟩:=map_obj h hi hL
    obtain⟨h1,h2,h3⟩:=h.alloc (.miter (some i) c [] c) (.mapIter (some L.b) c #[] c) 0 ⟨rfl,some L.b,rfl,L,hL,rfl⟩
    refine⟨_,.pointer (some ⟨w.heap.size,0,none⟩),_,?_,h2,h1,.ptr _ 0 ⟨w.heap.size,0,0⟩ h3⟩
    simp only[Instr.range,Sem.run_bind,hk,Result.andThen_ok,run_getMap ho,Sem.run_pure,run_newObj_alloc]
   ·simp at hr
  ·simp at hr
 ·simp at hr
theorem memN_ok (n:Nat):∀l:List Nat,memN n l=l.toArray.contains n
 | []=>by simp[memN]
 | m::ms=>by
  simp only[memN,memN_ok n ms,beq_dec]
  by_cases h:n=m
  ·subst h;simp
  ·simp[h]
theorem filt_ok {p:Nat→Bool}:∀{es:Ents} {es':List MapEntry},EntR ι es es'→EntR ι (filt p es) (es'.filter fun e=>p e.born)
 | [],es',h=>by
  have:es'=[]:=List.eq_nil_of_length_eq_zero (by have:=h.1;simpa using this.symm)
  subst this;exact⟨rfl,fun i x e hx=>by simp[filt] at hx⟩
 | e::es,[],h=>by have:=h.1;simp at this
 | e::es,e'::es',h=>by
  have h0:=h.2 0 e e' rfl rfl
  have ht:EntR ι es es':=⟨by have:=h.1;simpa using this,fun j x y hx hy=>h.2 (j+1) x y (by simpa using hx) (by simpa using hy)⟩
  have ih:=filt_ok (p:=p) ht
  simp only[filt,List.filter_cons]
  rw[h0.2.2]
  cases p e'.born
  ·exact ih
  ·refine⟨by simp only[cond_true,if_true,List.length_cons,ih.1],fun j x y hx hy=>?_⟩
   simp only[cond_true,if_true] at hx hy
   cases j with
   | zero=>simp at hx hy;subst hx;subst hy;exact h0
   | succ j=>exact ih.2 j x y (by simpa using hx) (by simpa using hy)
theorem allE_ok {p:Nat→Bool}:∀{es:Ents} {es':List MapEntry},EntR ι es es'→allE p es=es'.all fun e=>p e.born
 | [],es',h=>by
  have:es'=[]:=List.eq_nil_of_length_eq_zero (by have:=h.1;simpa using this.symm)
  subst this;rfl
 | e::es,[],h=>by have:=h.1;simp at this
 | e::es,e'::es',h=>by
  have h0:=h.2 0 e e' rfl rfl
  have ht:EntR ι es es':=⟨by have:=h.1;simpa using this,fun j x y hx hy=>h.2 (j+1) x y (by simpa using hx) (by simpa using hy)⟩
  simp only[allE,List.all_cons,allE_ok ht]
  rw[h0.2.2]
  cases p e'.born<;>rfl
theorem EntR.nil {es':List MapEntry} (h:EntR ι [] es'):es'=[]:=List.eq_nil_of_length_eq_zero (by have:=h.1;simpa using this.symm)
theorem EntR.one {e:AV×AV×Nat} {es':List MapEntry} (h:EntR ι [e] es'):∃e',es'=[e']∧VR ι e.1 e'.key∧VR ι e.2.1 e'.val∧e.2.2=e'.born:=by
 have hl:=h.1
 match es',hl,h with
 | [e'],_,h=>exact⟨e',rfl,h.2 0 e e' rfl rfl⟩
theorem three {a b:AV} {a' b':Value} (h1:VR ι a a') (h2:VR ι b b'):VR ι (.tuple [.bool true,a,b]) (.tuple #[.bool true,a',b']):=.tuple _ _ rfl (fun i y y' hy hy'=>by
 match i with
 | 0=>simp at hy hy';subst hy;subst hy';exact .bool true
 | 1=>simp at hy hy';subst hy;subst hy';exact h1
 | 2=>simp at hy hy';subst hy;subst hy';exact h2
 | i+3=>simp at hy)
theorem overA_ok (h:SR B w0 ι st w) {r:AV×ASt} (hr:overA st=some r):Did P B w0 ι w (pure (.tuple #[.bool false])) r:=by
 simp only[overA,Option.some.injEq] at hr;subst hr
 exact⟨ι,.tuple #[.bool false],w,by simp only[Sem.run_pure],ι.le_refl,h,.tuple _ _ rfl (fun i y y' hy hy'=>by
  cases i with
  | zero=>simp at hy hy';subst hy;subst hy';exact .bool false
  | succ i=>simp at hy)⟩
theorem run_getSI {b:Nat} {s:ByteArray} {p:Nat} (h:w.heap[b]? = some (.stringIter s p)):(getObj b).run P w=.ok (.stringIter s p) w:=by simp[getObj,Sem.run,h]
theorem run_setSI {b:Nat} {s:ByteArray} {p:Nat} (o':Obj) (h:w.heap[b]? = some (.stringIter s p)):(setObj b o').run P w=.ok () (setObjW w b o'):=by simp[setObj,Sem.run,h,setObjW]
theorem run_getMI {b:Nat} {m:Option Nat} {since:Nat} {seen:Array Nat} {last:Nat} (h:w.heap[b]? = some (.mapIter m since seen last)):(getObj b).run P w=.ok (.mapIter m since seen last) w:=by simp[getObj,Sem.run,h]
theorem run_setMI {b:Nat} {m:Option Nat} {since:Nat} {seen:Array Nat} {last:Nat} (o':Obj) (h:w.heap[b]? = some (.mapIter m since seen last)):(setObj b o').run P w=.ok () (setObjW w b o'):=by simp[setObj,Sem.run,h,setObjW]
theorem ascii {s:ByteArray} {pos b:Nat} (h:(s.data.toList.map UInt8.toNat)[pos]? = some b) (hb:b<128):pos<s.size∧Utf8.decode s pos=(b,1):=by
 rw[List.getElem?_map] at h
 cases hx:s.data.toList[pos]? with
 | none=>rw[hx] at h;simp at h
 | some x =>
  rw[hx] at h
  simp only[Option.map_some,Option.some.injEq] at h
  have hlt:pos<s.data.size:=by have:=(List.getElem?_eq_some_iff.1 hx).1;simpa using this
  refine⟨hlt,?_⟩
  have hg:s.get! (pos+0)=x:=by
   have h2:s.data[pos]? = some x:=by simpa using hx
   show s.data[pos+0]! = x
   rw[Nat.add_zero,getElem!_def,h2]
  unfold Utf8.decode
  simp only[hg,h,hb,if_true]
theorem aNext_ok (h:SR B w0 ι st w) {x:AV} {x':Value} {isS:Bool} {ty:TypeId} {r:AV×ASt} (hx:VR ι x x') (hr:aNext x isS st=some r):Did P B w0 ι w (Instr.next x' isS ty) r:=by
 unfold aNext at hr
 split at hr
 rotate_left
 ·simp at hr
 rename_i i
 cases hx with
 | ptr _ _ L hL =>
 split at hr
 ·rename_i s pos hi
  obtain⟨L',o,h1,h2,h0,b,h3,h4⟩:=h.obj i _ hi (by simp)
  rw[hL] at h1;cases h1
  rw[h3] at h2
  cases isS
  ·simp at hr
  simp only[cond_true] at hr
  have hlen:s.length=b.size:=by rw[←h4];simp
  have e0:L.p+0=0:=by omega
  cases hlt:Nat.blt pos s.length
  ·simp only[hlt,cond_false] at hr
   have hge:¬pos<b.size:=by
    intro hh
    have:Nat.blt pos s.length=true:=by rw[Nat.blt_eq];omega
    rw[this] at hlt;cases hlt
   obtain⟨ι',v,w',g1,g2,g3,g4⟩:=overA_ok (P:=P) h hr
   refine⟨ι',v,w',?_,g2,g3,g4⟩
   rw[←g1,e0]
   simp only[Instr.next,Sem.run_bind,run_getSI h2,Result.andThen_ok,hge,if_false]
  ·simp only[hlt,cond_true] at hr
   split at hr
   ·rename_i c hc
    cases hb:Nat.blt c 128
    ·simp only[hb,cond_false,Option.some.injEq] at hr;subst hr
     have hlt':pos<b.size:=by rw[Nat.blt_eq] at hlt;omega
     have hw:=h.write (a':=.siter s (pos+(runeA s pos).2)) hi rfl hL (o':=.stringIter b (pos+(runeA s pos).2)) ⟨h0,b,rfl,h4⟩
     refine⟨ι,.tuple #[.bool true,.int .i64 (pos:Int),.int .i32 ((runeA s pos).1:Int)],_,?_,ι.le_refl,hw,three (.int _ _) (.int _ _)⟩
     rw[e0]
     simp only[Instr.next,Sem.run_bind,run_getSI h2,Result.andThen_ok,hlt',if_true,runeA,bytesA_eq h4,run_setSI _ h2,Sem.run_pure,goInt]
    simp only[hb,cond_true,Option.some.injEq] at hr;subst hr
    have hc':c<128:=by rw[←Nat.blt_eq];exact hb
    rw[←h4] at hc
    obtain⟨k1,k2⟩:=ascii hc hc'
    have hw:=h.write (a':=.siter s (pos+1)) hi rfl hL (o':=.stringIter b (pos+1)) ⟨h0,b,rfl,h4⟩
    refine⟨ι,.tuple #[.bool true,.int .i64 (pos:Int),.int .i32 (c:Int)],_,?_,ι.le_refl,hw,three (.int _ _) (.int _ _)⟩
    rw[e0]
    simp only[Instr.next,Sem.run_bind,run_getSI h2,Result.andThen_ok,k1,if_true,k2,run_setSI _ h2,Sem.run_pure,goInt]
   ·simp at hr
 ·rename_i m since seen last hi
  obtain⟨L',o,h1,h2,h0,m',h3,h4⟩:=h.obj i _ hi (by simp)
  rw[hL] at h1;cases h1
  rw[h3] at h2
  have e0:L.p+0=0:=by omega
  cases isS
  rotate_left
  ·simp at hr
  simp only[cond_false] at hr
  split at hr
  ·subst h4
   obtain⟨ι',v,w',g1,g2,g3,g4⟩:=overA_ok (P:=P) h hr
   refine⟨ι',v,w',?_,g2,g3,g4⟩
   rw[←g1,e0]
   simp only[Instr.next,Sem.run_bind,run_getMI h2,Result.andThen_ok]
  ·rename_i j
   obtain⟨D,hD,rfl⟩:=h4
   split at hr
   rotate_left
   ·simp at hr
   rename_i es c hj
   obtain⟨es',ho,hent⟩:=map_obj h hj hD
   cases hbad:(bif isNil seen then false else bif isNil es then false else allE (fun b=>Nat.ble last b) es)
   rotate_left
   ·rw[hbad] at hr;exact absurd hr (by simp)
   simp only[hbad,cond_false] at hr
   have hbad':(!seen.toArray.isEmpty && !es'.isEmpty && es'.all (fun e=>decide (e.born ≥ last)))=false:=by
    have e1:seen.toArray.isEmpty=isNil seen:=by cases seen<;>rfl
    have e2:es'.isEmpty=isNil es:=by
     have:=hent.1
     cases es with
     | nil=>have:=hent.nil;simp at this;subst this;rfl
     | cons a l=>simp at this;simp[isNil];intro h;subst h;simp at this
    have e3:es'.all (fun e=>decide (e.born ≥ last))=allE (fun b=>Nat.ble last b) es:=by
     rw[allE_ok hent,←Array.all_toList]
     congr 1;funext e
     rw[Bool.eq_iff_iff,decide_eq_true_eq,Nat.ble_eq]
    rw[e1,e2,e3]
    revert hbad
    cases isNil seen<;>cases isNil es<;>cases allE (fun b=>Nat.ble last b) es<;>simp
   have l1:=filt_ok (p:=fun b=>Bool.not (memN b seen)) hent
   have l2:=filt_ok (p:=fun b=>Nat.blt b since) l1
   have l3:=filt_ok (p:=fun b=>Nat.ble since b) l1
   have q1:(es'.filter fun e=>!seen.toArray.contains e.born).toList=es'.toList.filter fun e=>Bool.not (memN e.born seen):=by
    rw[Array.toList_filter]
    congr 1;funext e;rw[memN_ok]
   have q2:((es'.filter fun e=>!seen.toArray.contains e.born).filter fun e=>decide (e.born<since)).toList=(es'.toList.filter fun e=>Bool.not (memN e.born seen)).filter fun e=>Nat.blt e.born since:=by
    rw[Array.toList_filter,q1]
    congr 1;funext e;rw[Bool.eq_iff_iff,decide_eq_true_eq,Nat.blt_eq]
   have q3:((es'.filter fun e=>!seen.toArray.contains e.born).filter fun e=>decide (e.born ≥ since)).toList=(es'.toList.filter fun e=>Bool.not (memN e.born seen)).filter fun e=>Nat.ble since e.born:=by
    rw[Array.toList_filter,q1]
    congr 1;funext e;rw[Bool.eq_iff_iff,decide_eq_true_eq,Nat.ble_eq]
   rw[←q2] at l2
   rw[←q3] at l3
   generalize hA:((es'.filter fun e=>!seen.toArray.contains e.born).filter fun e=>decide (e.born<since))=A at l2
   generalize hB:((es'.filter fun e=>!seen.toArray.contains e.born).filter fun e=>decide (e.born ≥ since))=Bq at l3
   split at hr
   ·rename_i hnil
    rw[hnil] at l2
    have hA0:A=#[]:=Array.ext' (by simpa using l2.nil)
    split at hr
    ·rename_i hnil2
     rw[hnil2] at l3
     have hB0:Bq=#[]:=Array.ext' (by simpa using l3.nil)
     obtain⟨ι',v,w',g1,g2,g3,g4⟩:=overA_ok (P:=P) h hr
     refine⟨ι',v,w',?_,g2,g3,g4⟩
     rw[←g1,e0]
     simp only[Instr.next,Sem.run_bind,run_getMI h2,Result.andThen_ok,run_getMap ho,hbad',Bool.false_eq_true,if_false,hA,hB,hA0,hB0]
     have harr:((if (#[]:Array MapEntry).isEmpty then #[none] else #[])++((#[]:Array MapEntry)++#[]).map some)=(#[none]:Array (Option MapEntry)):=by simp
     rw[harr]
     have hch:(choose (.mapNext (#[none]:Array (Option MapEntry)).size)).run P w=.ok 0 w:=by
      rw[run_choose_drew];rfl
     rw[hch]
     simp only[Result.andThen_ok]
     have hget:(#[none]:Array (Option MapEntry))[0]? = some (none):=rfl
     rw[hget]
    ·simp at hr
   ·rename_i e hone
    rw[hone] at l2
    obtain⟨e',he',f1,f2,f3⟩:=l2.one
    have hA0:A=#[e']:=Array.ext' (by simpa using he')
    split at hr
    ·rename_i hnil2
     rw[hnil2] at l3
     have hB0:Bq=#[]:=Array.ext' (by simpa using l3.nil)
     simp only[Option.some.injEq] at hr;subst hr
     have hw:=h.write (a':=.miter (some j) since (seen++[e.2.2]) c) hi rfl hL (o':=.mapIter (some D.b) since (seen.toArray.push e'.born) c)
      ⟨h0,some D.b,by rw[f3];simp,D,hD,rfl⟩
     refine⟨ι,.tuple #[.bool true,e'.key,e'.val],_,?_,ι.le_refl,hw,three f1 f2⟩
     rw[e0]
     simp only[Instr.next,Sem.run_bind,run_getMI h2,Result.andThen_ok,run_getMap ho,hbad',Bool.false_eq_true,if_false,hA,hB,hA0,hB0]
     have harr:((if (#[e']:Array MapEntry).isEmpty then #[none] else #[])++((#[e']:Array MapEntry)++#[]).map some)=(#[some e']:Array (Option MapEntry)):=by simp
     rw[harr]
     have hch:(choose (.mapNext (#[some e']:Array (Option MapEntry)).size)).run P w=.ok 0 w:=by
      rw[run_choose_drew];rfl
     rw[hch]
     simp only[Result.andThen_ok]
     have hget:(#[some e']:Array (Option MapEntry))[0]? = some (some e'):=rfl
     rw[hget]
     simp only[Sem.run_bind,run_setMI _ h2,Result.andThen_ok,Sem.run_pure]
    ·simp at hr
   ·simp at hr
 ·simp at hr
theorem findB_ok {n:Nat}:∀{es:Ents} {es':List MapEntry} {p:AV×AV},EntR ι es es'→findB n es=some p→∃e',es'.find? (·.born == n)=some e'∧VR ι p.1 e'.key∧VR ι p.2 e'.val
 | [],es',p,h,hf=>by simp[findB] at hf
 | e::es,[],p,h,hf=>by have:=h.1;simp at this
 | e::es,e'::es',p,h,hf=>by
  have h0:=h.2 0 e e' rfl rfl
  have ht:EntR ι es es':=⟨by have:=h.1;simpa using this,fun j x y hx hy=>h.2 (j+1) x y (by simpa using hx) (by simpa using hy)⟩
  simp only[findB] at hf
  rw[h0.2.2] at hf
  cases hb:Nat.beq e'.born n
  ·simp only[hb,cond_false] at hf
   obtain⟨e1,g1,g2⟩:=findB_ok ht hf
   refine⟨e1,?_,g2⟩
   rw[List.find?_cons]
   have hne:e'.born≠n:=by intro e;subst e;simp at hb
   have:(e'.born == n)=false:=by simp[hne]
   rw[this];exact g1
  ·simp only[hb,cond_true,Option.some.injEq] at hf;subst hf
   refine⟨e',?_,h0.1,h0.2.1⟩
   rw[List.find?_cons]
   have hne:=Nat.eq_of_beq_eq_true hb
   have:(e'.born == n)=true:=by simp[hne]
   rw[this]
theorem aEntry_ok (h:SR B w0 ι st w) {x r:AV} {x':Value} (hx:VR ι x x') (hr:aEntry x st=some r):∃v,(Instr.entry x').run P w=.ok v w∧VR ι r v:=by
 unfold aEntry at hr
 split at hr
 rotate_left
 ·simp at hr
 rename_i i
 cases hx with
 | ptr _ _ L hL =>
 split at hr
 rotate_left
 ·simp at hr
 rename_i j since seen last hi
 obtain⟨L',o,h1,h2,h0,m',h3,D,hD,rfl⟩:=h.obj i _ hi (by simp)
 rw[hL] at h1;cases h1
 rw[h3] at h2
 have e0:L.p+0=0:=by omega
 split at hr
 ·simp at hr
 rename_i b hb
 split at hr
 rotate_left
 ·simp at hr
 rename_i es c hj
 obtain⟨es',ho,hent⟩:=map_obj h hj hD
 cases hc:Nat.beq c last
 ·simp[hc] at hr
 simp only[hc,cond_true] at hr
 have hc':=Nat.eq_of_beq_eq_true hc
 split at hr
 ·rename_i p hp
  simp only[Option.some.injEq] at hr;subst hr
  obtain⟨e',g1,g2,g3⟩:=findB_ok hent hp
  have g1':es'.find? (·.born == b)=some e':=by rw[←Array.find?_toList];exact g1
  have hback:seen.toArray.back? = some b:=by simpa using hb
  have hne:(c != last)=false:=by rw[hc'];simp
  refine⟨.tuple #[e'.key,e'.val],?_,.tuple _ _ rfl (fun i y y' hy hy'=>by
   match i with
   | 0=>simp at hy hy';subst hy;subst hy';exact g2
   | 1=>simp at hy hy';subst hy;subst hy';exact g3
   | i+2=>simp at hy)⟩
  rw[e0]
  simp only[Instr.entry,Sem.run_bind,run_getMI h2,Result.andThen_ok,hback,run_getMap ho,hne,Bool.false_eq_true,if_false,g1',Sem.run_pure]
 ·simp at hr
end
def aBuiltinM (E:Env) (b:Builtin) (ts:List TypeId) (args:List AV) (st:ASt):Option (AV×ASt) :=
 match b with
 | .delete=>match ts with | t::_=>(match args with | [m,k]=>(match aDelete E t m k st with | some st'=>some (.tuple [],st') | none=>none) | _=>none) | _=>none
 | .clear=>match ts with | t::_=>(match args with | [x]=>(match aClear E t x st with | some st'=>some (.tuple [],st') | none=>none) | _=>none) | _=>none
 | .len =>
  match ts with
  | t::us=>(match args with
   | [x]=>(match x with
    | .map (some i)=>(match aLenM E t (.map (some i)) st with | some v=>some (v,st) | none=>none)
    | y=>aBuiltin E .len (t::us) [y] st)
   | l=>aBuiltin E .len (t::us) l st)
  | l=>aBuiltin E .len l args st
 | b=>aBuiltin E b ts args st
section
variable {P:Program} {E:Env} {B:Prot} {w0:World} {ι:Ren} {st:ASt} {w:World}
theorem VR.unit:VR ι (.tuple []) (.tuple #[]):=.tuple [] #[] rfl (fun i v v' h=>by simp at h)
theorem aBuiltinM_ok (hE:E.Ok P) (h:SR B w0 ι st w) {b:Builtin} {ts:List TypeId} {rT:TypeId} {cs:Array Bool} {args:List AV} {args':Array Value} {r:AV×ASt} (ha:VRs ι args args')
  (hr:aBuiltinM E b ts args st=some r) :
  ∃ι' v w',(builtin b ts.toArray rT cs args').run P w=.ok (.value v) w'∧ι.le ι'∧SR B w0 ι' r.2 w'∧VR ι' r.1 v:=by
 unfold aBuiltinM at hr
 split at hr
 ·split at hr
  ·rename_i t us
   split at hr
   ·split at hr
    ·rename_i st' hd
     simp only[Option.some.injEq] at hr;subst hr
     obtain⟨m',k',rfl,h1,h2⟩:=list2 ha
     obtain⟨w',g1,g2⟩:=aDelete_ok (ts:=us) (rT:=rT) hE h h1 h2 hd
     exact⟨ι,_,w',by simp only[builtin,Sem.run_bind,g1,Result.andThen_ok,Sem.run_pure],ι.le_refl,g2,VR.unit⟩
    ·simp at hr
   ·simp at hr
  ·simp at hr
 ·split at hr
  ·rename_i t us
   split at hr
   ·split at hr
    ·rename_i st' hd
     simp only[Option.some.injEq] at hr;subst hr
     obtain⟨x',rfl,h1⟩:=list1 ha
     obtain⟨w',g1,g2⟩:=aClear_ok (ts:=us) (rT:=rT) hE h h1 hd
     exact⟨ι,_,w',by simp only[builtin,Sem.run_bind,g1,Result.andThen_ok,Sem.run_pure],ι.le_refl,g2,VR.unit⟩
    ·simp at hr
   ·simp at hr
  ·simp at hr
 ·split at hr
  ·rename_i t us
   split at hr
   ·split at hr
    ·split at hr
     ·rename_i v hv
      simp only[Option.some.injEq] at hr;subst hr
      obtain⟨x',rfl,h1⟩:=list1 ha
      obtain⟨v',g1,g2⟩:=aLenM_ok (ts:=us) (rT:=rT) hE h h1 hv
      exact⟨ι,v',w,by simp only[builtin,Sem.run_bind,g1,Result.andThen_ok,Sem.run_pure],ι.le_refl,h,g2⟩
     ·simp at hr
    ·exact aBuiltin_ok hE h ha hr
   ·exact aBuiltin_ok hE h ha hr
  ·exact aBuiltin_ok hE h ha hr
 ·exact aBuiltin_ok hE h ha hr
end
end
end Go.Ax
end

section
namespace Go.Ax
noncomputable section
open Go.RowKit
def capEq:Cap→Cap→Bool
 | .known a,.known b=>Nat.beq a b
 | .rest a,.rest b=>Nat.beq a b
 | .atl a,.atl b=>Nat.beq a b
 | _,_=>false
def locEq:Option (Nat×Nat)→Option (Nat×Nat)→Bool
 | none,none=>true
 | some a,some b=>Nat.beq a.1 b.1 && Nat.beq a.2 b.2
 | _,_=>false
mutual
def avEq:AV→AV→Bool
 | .bool a,y=>match y with | .bool b=>boolEq a b | _=>false
 | .int k n,y=>match y with | .int j m=>decide (k=j) && decide (n=m) | _=>false
 | .str a,y=>match y with | .str b=>decide (a=b) | _=>false
 | .ptr a,y=>match y with | .ptr b=>locEq a b | _=>false
 | .slice a l c,y=>match y with | .slice b m d=>locEq a b && (Nat.beq l m && capEq c d) | _=>false
 | .clos f cs,y=>match y with | .clos g ds=>Nat.beq f g && avsEq cs ds | _=>false
 | .bound f fs cs,y=>match y with | .bound g gs ds=>Nat.beq f g && (avsEq fs gs && avsEq cs ds) | _=>false
 | .yield a,y=>match y with | .yield b=>Nat.beq a b | _=>false
 | .nilFunc,y=>match y with | .nilFunc=>true | _=>false
 | .iface t v,y=>match y with | .iface u w=>Nat.beq t u && avEq v w | _=>false
 | .nilIface,y=>match y with | .nilIface=>true | _=>false
 | .agg cs,y=>match y with | .agg ds=>avsEq cs ds | _=>false
 | .tuple cs,y=>match y with | .tuple ds=>avsEq cs ds | _=>false
 | .map a,y=>match y with | .map b=>decide (a=b) | _=>false
 | .slice0,y=>match y with | .slice0=>true | _=>false
 | .gptr g o,y=>match y with | .gptr g' o'=>Nat.beq g g' && Nat.beq o o' | _=>false
 | .any,y=>match y with | .any=>true | _=>false
def avsEq:List AV→List AV→Bool
 | [],[]=>true
 | x::xs,y::ys=>avEq x y && avsEq xs ys
 | _,_=>false
end
theorem nbeq {a b:Nat} (h:Nat.beq a b=true):a=b:=Nat.eq_of_beq_eq_true h
theorem boolEq_eq {a b:Bool} (h:boolEq a b=true):a=b:=by cases a<;>cases b<;>first | rfl | (simp[boolEq] at h)
theorem capEq_eq {a b:Cap} (h:capEq a b=true):a=b:=by
 cases a<;>cases b<;>simp only[capEq,Bool.false_eq_true] at h<;>rw[nbeq h]
theorem locEq_eq {a b:Option (Nat×Nat)} (h:locEq a b=true):a=b:=by
 cases a with
 | none=>cases b with
  | none=>rfl
  | some b=>simp[locEq] at h
 | some a=>cases b with
  | none=>simp[locEq] at h
  | some b =>
   obtain⟨a1,a2⟩:=a;obtain⟨b1,b2⟩:=b
   simp only[locEq,Bool.and_eq_true] at h
   rw[nbeq h.1,nbeq h.2]
mutual
theorem avEq_eq:∀(a b:AV),avEq a b=true→a=b
 | .bool a,b,h=>by cases b<;>simp only[avEq,Bool.false_eq_true] at h;rw[boolEq_eq h]
 | .int k n,b,h=>by
  cases b<;>simp only[avEq,Bool.false_eq_true] at h
  simp only[Bool.and_eq_true,decide_eq_true_eq] at h
  rw[h.1,h.2]
 | .str a,b,h=>by cases b<;>simp only[avEq,Bool.false_eq_true,decide_eq_true_eq] at h;rw[h]
 | .ptr a,b,h=>by cases b<;>simp only[avEq,Bool.false_eq_true] at h;rw[locEq_eq h]
 | .slice a l c,b,h=>by
  cases b<;>simp only[avEq,Bool.false_eq_true] at h
  simp only[Bool.and_eq_true] at h
  rw[locEq_eq h.1,nbeq h.2.1,capEq_eq h.2.2]
 | .clos f cs,b,h=>by
  cases b<;>simp only[avEq,Bool.false_eq_true] at h
  simp only[Bool.and_eq_true] at h
  rw[nbeq h.1,avsEq_eq _ _ h.2]
 | .bound f fs cs,b,h=>by
  cases b<;>simp only[avEq,Bool.false_eq_true] at h
  simp only[Bool.and_eq_true] at h
  rw[nbeq h.1,avsEq_eq _ _ h.2.1,avsEq_eq _ _ h.2.2]
 | .yield a,b,h=>by cases b<;>simp only[avEq,Bool.false_eq_true] at h;rw[nbeq h]
 | .nilFunc,b,h=>by cases b<;>simp only[avEq,Bool.false_eq_true] at h;rfl
 | .iface t v,b,h=>by
  cases b<;>simp only[avEq,Bool.false_eq_true] at h
  simp only[Bool.and_eq_true] at h
  rw[nbeq h.1,avEq_eq _ _ h.2]
 | .nilIface,b,h=>by cases b<;>simp only[avEq,Bool.false_eq_true] at h;rfl
 | .agg cs,b,h=>by cases b<;>simp only[avEq,Bool.false_eq_true] at h;rw[avsEq_eq _ _ h]
 | .tuple cs,b,h=>by cases b<;>simp only[avEq,Bool.false_eq_true] at h;rw[avsEq_eq _ _ h]
 | .map a,b,h=>by cases b<;>simp only[avEq,Bool.false_eq_true,decide_eq_true_eq] at h;rw[h]
 | .slice0,b,h=>by cases b<;>simp only[avEq,Bool.false_eq_true] at h;rfl
 | .gptr g o,b,h=>by
  cases b<;>simp only[avEq,Bool.false_eq_true] at h
  simp only[Bool.and_eq_true] at h
  rw[nbeq h.1,nbeq h.2]
 | .any,b,h=>by cases b<;>simp only[avEq,Bool.false_eq_true] at h;rfl
theorem avsEq_eq:∀(a b:List AV),avsEq a b=true→a=b
 | [],[],_=>rfl
 | x::xs,y::ys,h=>by
  simp only[avsEq,Bool.and_eq_true] at h
  rw[avEq_eq _ _ h.1,avsEq_eq _ _ h.2]
 | [],_::_,h=>by simp[avsEq] at h
 | _::_,[],h=>by simp[avsEq] at h
end
end
end Go.Ax
end

section
namespace Go.Ax
noncomputable section
open Go.RowKit
abbrev CallT:=FuncId→List AV→ASt→Option (AV×ASt)
abbrev ExecT:=Option Nat→Code→AFr→ASt→Option (Exit×AFr×ASt)
def evA (fr:AFr):Operand→Option AV
 | .tmp t=>some ((fr.m.get t).getD undefA)
 | .const v=>ofValue v
 | .global g=>match glV g with | some _=>some (.gptr g 0) | none=>none
 | .func f=>some (.clos f [])
def evL (fr:AFr):List Operand→Option (List AV)
 | []=>some []
 | x::xs =>
  match evA fr x with
  | some v =>
   match evL fr xs with
   | some vs=>some (v::vs)
   | none=>none
  | none=>none
def evO (fr:AFr):Option Operand→Option (Option AV)
 | none=>some none
 | some x=>match evA fr x with | some v=>some (some v) | none=>none
def evP (fr:AFr):List (Nat×Operand)→Option (List (Nat×AV))
 | []=>some []
 | x::xs =>
  match evA fr x.2 with
  | some v =>
   match evP fr xs with
   | some vs=>some ((x.1,v)::vs)
   | none=>none
  | none=>none
def still (st:ASt):Option AV→Option (AV×ASt)
 | some v=>some (v,st)
 | none=>none
def AFr.put (fr:AFr) (dst:Option Tmp) (v:AV):Option AFr :=
 match fr with
 | ⟨m,n,ds⟩ =>
  match dst with
  | none=>some ⟨m,n,ds⟩
  | some d=>bif Nat.ble (Nat.succ d) n then some ⟨m.set 11 d v,n,ds⟩ else none
def aCall (E:Env) (call:CallT) (round:CallT) (c:Call) (fr:AFr) (st:ASt):Option (AV×ASt) :=
 match evL fr c.args.toList with
 | none=>none
 | some args =>
  match c.callee with
  | .builtin b=>aBuiltinM E b c.argTypes.toList args st
  | .value f =>
   match evA fr f with
   | some (.clos g caps) =>
    match E.ex.get g with
    | some x=>still st (x (args++caps))
    | none=>call g (args++caps) st
   | some (.bound g fs caps)=>call g (fs++args++caps) st
   | some (.yield l)=>round l args st
   | _=>none
  | .invoke _ _=>none
def aOp (E:Env) (call:CallT) (round:CallT) (o:Oper) (fr:AFr) (st:ASt):Option (AV×ASt) :=
 match o.op with
 | .move x=>still st (evA fr x)
 | .assign x=>still st (evA fr x)
 | .pick c a b =>
  match evA fr c with
  | some (.bool t)=>bif t then still st (evA fr a) else still st (evA fr b)
  | _=>none
 | .alloc t=>aAlloc E t st
 | .box _ x=>match evA fr x with | some v=>aBox v st | none=>none
 | .build t ps=>match evP fr ps.toList with | some l=>still st (aBuild E t l) | none=>none
 | .buildSlice t n ps=>match evP fr ps.toList with | some l=>aBuildSlice E t n l st | none=>none
 | .load t a=>match evA fr a with | some v=>aLoad E t v st | none=>none
 | .store t a x =>
  match evA fr a with
  | some p=>match evA fr x with | some v=>(match aStore E t p v st with | some st'=>some (undefA,st') | none=>none) | none=>none
  | none=>none
 | .nilCheck x=>match evA fr x with | some v=>still st (aNilCheck v) | none=>none
 | .binOp op t x y _ =>
  match evA fr x with
  | some a=>match evA fr y with | some b=>still st (aBin E op t x y a b) | none=>none
  | none=>none
 | .unOp op _ x=>match evA fr x with | some a=>still st (aUn op a) | none=>none
 | .convert s d x=>match evA fr x with | some a=>aConvert E s d a st | none=>none
 | .makeInterface t x=>match evA fr x with | some a=>still st (aMakeIface E t a) | none=>none
 | .makeFunc f first caps =>
  match f with
  | .func g =>
   match first.toList with
   | []=>match evL fr caps.toList with | some l=>some (.clos g l,st) | none=>none
   | f0::fs0=>match evL fr (f0::fs0) with | some fs=>(match evL fr caps.toList with | some l=>some (.bound g fs l,st) | none=>none) | none=>none
  | _=>none
 | .makeSlice t l c =>
  match evA fr l with
  | some a=>match evA fr c with | some b=>aMake E t a b st | none=>none
  | none=>none
 | .slice t x lo hi mx =>
  match evA fr x with
  | some v =>
   match evO fr lo with
   | some lo=>match evO fr hi with | some hi=>(match evO fr mx with | some mx=>still st (aSlice E t v lo hi mx st) | none=>none) | none=>none
   | none=>none
  | none=>none
 | .fieldAddr s x f=>match evA fr x with | some v=>still st (aFieldAddr E s v f) | none=>none
 | .field t x f=>match evA fr x with | some v=>still st (aField E t v f) | none=>none
 | .indexAddr t x ix =>
  match evA fr x with
  | some a=>match evA fr ix with | some b=>still st (aIndexAddr E t a b) | none=>none
  | none=>none
 | .index t x ix =>
  match evA fr x with
  | some a=>match evA fr ix with | some b=>still st (aIndex E t a b) | none=>none
  | none=>none
 | .typeAssert x _ t ok=>match evA fr x with | some v=>still st (aAssert E v t ok) | none=>none
 | .extract x i=>match evA fr x with | some v=>still st (aExtract v i) | none=>none
 | .call c=>aCall E call round c fr st
 | .makeMap _ rs=>match rs with | none=>some (aMakeMap st) | some _=>none
 | .mapUpdate t m k x =>
  match evA fr m with
  | some m=>match evA fr k with
   | some k=>match evA fr x with
    | some x=>(match aMapUpdate E t m k x st with | some st'=>some (undefA,st') | none=>none)
    | none=>none
   | none=>none
  | none=>none
 | .insert t m k x =>
  match evA fr m with
  | some m=>match evA fr k with
   | some k=>match evA fr x with
    | some x=>(match aMapUpdate E t m k x st with | some st'=>some (undefA,st') | none=>none)
    | none=>none
   | none=>none
  | none=>none
 | .lookup t x ix ok=>match evA fr x with | some x=>(match evA fr ix with | some ix=>still st (aLookup E t x ix ok st) | none=>none) | none=>none
 | .range t x=>match evA fr x with | some x=>aRange E t x st | none=>none
 | .next x isS=>match evA fr x with | some x=>aNext x isS st | none=>none
 | .entry x=>match evA fr x with | some x=>still st (aEntry x st) | none=>none
 | _=>none
def wantedA (ops:List Oper) (fr:AFr) (o:Oper):Bool :=
 match o.guard with
 | none=>true
 | some (j,want) =>
  match ops[j]? with
  | some oj =>
   match oj.dst with
   | some d=>(match (fr.m.get d).getD undefA with | .bool b=>boolEq b want | _=>false)
   | none=>false
  | none=>false
def guardAny (ops:List Oper) (fr:AFr) (o:Oper):Bool :=
 match o.guard with
 | none=>false
 | some (j,_) =>
  match ops[j]? with
  | some oj =>
   match oj.dst with
   | some d=>(match (fr.m.get d).getD undefA with | .any=>true | _=>false)
   | none=>false
  | none=>false
def stepV (E:Env) (call:CallT) (round:CallT) (ops:List Oper) (o:Oper) (fr:AFr) (st:ASt):Option (AV×ASt) :=
 bif guardAny ops fr o then none else bif wantedA ops fr o then aOp E call round o fr st else some (undefA,st)
def step (E:Env) (call:CallT) (round:CallT) (ops:List Oper) (o:Oper) (fr:AFr) (st:ASt):Option (AFr×ASt) :=
 match stepV E call round ops o fr st with
 | some (v,st')=>match fr.put o.dst v with | some fr'=>some (fr',st') | none=>none
 | none=>none
abbrev DrawT:=(Oper→AFr→ASt→Option (AV×ASt))→List Oper→AFr→ASt→Option (AFr×ASt)
def regL (f:Oper→AFr→ASt→Option (AFr×ASt)):List Oper→AFr→ASt→Option (AFr×ASt)
 | [],fr,st=>some (fr,st)
 | o::os,fr,st =>
  match f o fr st with
  | some (fr',st')=>regL f os fr' st'
  | none=>none
def loopN (f:AFr→ASt→Option (Exit×AFr×ASt)):Nat→AFr→ASt→Option (Exit×AFr×ASt)
 | 0,fr,st=>f fr st
 | d+1,fr,st =>
  match loopN f d fr st with
  | some (.normal,fr',st')=>loopN f d fr' st'
  | r=>r
def putArgs:List AV→Nat→T AV→T AV
 | [],_,m=>m
 | v::vs,k,m=>putArgs vs (k+1) (m.set 11 k v)
def setPs:List Tmp→List AV→AFr→Option AFr
 | [],[],fr=>some fr
 | t::ts,v::vs,fr=>match fr.put (some t) v with | some fr'=>setPs ts vs fr' | none=>none
 | _,_,_=>none
def killAll:List Nat→ASt→Option ASt
 | [],st=>some st
 | i::is,st=>match st.h.get i with | some .defd=>killAll is (st.put i .dead) | _=>none
def resV (E:Env) (fr:AFr) (st:ASt):List ResultVar→Option (List AV)
 | []=>some []
 | r::rs =>
  match (match r with
   | .tmp t=>some ((fr.m.get t).getD undefA)
   | .cell a t=>match aLoad E t ((fr.m.get a).getD undefA) st with | some x=>some x.1 | none=>none) with
  | some v=>match resV E fr st rs with | some vs=>some (v::vs) | none=>none
  | none=>none
def retV:List AV→AV
 | [v]=>v
 | vs=>.tuple vs
def leaveA (E:Env) (fn:Func) (fr:AFr) (st:ASt):Option (AV×ASt) :=
 match killAll fr.defs st with
 | some st'=>match resV E fr st' fn.results.toList with | some vs=>some (retV vs,st') | none=>none
 | none=>none
def callF (E:Env) (ex:ExecT):CallT:=fun f args st =>
 match E.fn.get f with
 | none=>none
 | some fn =>
  match fn.body with
  | none=>none
  | some c =>
   bif Nat.ble args.length fn.ntmps then
    match ex none c {m:=putArgs args 0 .e,n:=fn.ntmps,defs:=[]} st with
    | some (.normal,fr,st')=>leaveA E fn fr st'
    | some (.ret,fr,st')=>leaveA E fn fr st'
    | _=>none
   else none
def endR (l:Nat) (j:Option Code) (st:ASt):Option (AV×ASt) :=
 match st.h.get l with
 | some (.loop _ _ tm ps as bo de) =>
  match j with
  | none=>some (.bool true,st.put l (.loop .ready none tm ps as bo de))
  | some c=>some (.bool false,st.put l (.loop .done (some c) tm ps as bo de))
 | _=>none
def roundF (ex:ExecT):CallT:=fun l args st =>
 match st.h.get l with
 | some (.loop _ _ tm ps as bo _) =>
  match setPs ps args {tm with defs:=[]} with
  | none=>none
  | some fr =>
   match ex (some l) as fr st with
   | some (.normal,fr1,st1) =>
    match st1.h.get l with
    | some (.loop .ready pe tm1 ps1 as1 bo1 de1) =>
     match ex (some l) bo fr1 (st1.put l (.loop .busy pe tm1 ps1 as1 bo1 de1)) with
     | some (.normal,_,st2)=>endR l none st2
     | some (.ret,_,st2)=>endR l (some .ret) st2
     | some (.exit id,_,st2)=>endR l (some (.exit id)) st2
     | some (.goto t,_,st2)=>endR l (some (.goto t)) st2
     | _=>none
    | _=>none
   | _=>none
 | _=>none
def rangeA (call:CallT) (ex:ExecT) (ro:Option Nat) (g:Operand) (ps:Array Tmp) (as bo:Code) (fr:AFr) (st:ASt):Option (Exit×AFr×ASt) :=
 match evA fr g with
 | some (.clos f caps) =>
  let go (de:Nat) (fr1:AFr) (st1:ASt):Option (Exit×AFr×ASt) :=
   let l:=st1.next
   match call f (.yield l::caps) (st1.add (.loop .ready none fr ps.toList as bo de)) with
   | some (_,st2) =>
    match st2.h.get l with
    | some (.loop s pe _ _ _ _ _) =>
     match s with
     | .busy=>none
     | _ =>
      match pe with
      | none=>some (.normal,fr1,st2.put l .dead)
      | some c=>ex ro c fr1 (st2.put l .dead)
    | _=>none
   | none=>none
  match ro with
  | none=>go st.next {fr with defs:=st.next::fr.defs} (st.add .defd)
  | some l0 =>
   match st.h.get l0 with
   | some (.loop _ _ _ _ _ _ de)=>go de fr st
   | _=>none
 | _=>none
def candsOf (x:AV) (st:ASt):Option (Nat×Nat×Nat×List Nat×Nat×Ents) :=
 match x with
 | .ptr (some (i,0)) =>
  match st.h.get i with
  | some (.miter (some j) since seen last) =>
   match st.h.get j with
   | some (.map es c) =>
    bif (bif isNil seen then false else bif isNil es then false else allE (fun b=>Nat.ble last b) es) then none else
    let left:=filt (fun b=>Bool.not (memN b seen)) es
    match filt (fun b=>Nat.ble since b) left with
    | []=>some (i,j,since,seen,c,filt (fun b=>Nat.blt b since) left)
    | _=>none
   | _=>none
  | _=>none
 | _=>none
def aNextC (c:Nat) (x:AV) (st:ASt):Option (AV×ASt) :=
 match candsOf x st with
 | some (i,j,since,seen,ck,es) =>
  match es[c]? with
  | some e=>some (.tuple [.bool true,e.1,e.2.1],st.put i (.miter (some j) since (seen++[e.2.2]) ck))
  | none=>none
 | none=>none
def leftHas:Code→Option Operand
 | .seq a _=>leftHas a
 | .region _ ops false =>
  match ops.toList with
  | o::_ =>
   match o.guard with
   | some _=>none
   | none=>match o.op with | .next x isS=>(bif isS then none else some x) | _=>none
  | []=>none
 | _=>none
def leftRun (E:Env) (call round:CallT) (ex:ExecT) (ro:Option Nat) (c:Nat):Code→AFr→ASt→Option (Exit×AFr×ASt)
 | .seq a b,fr,st =>
  match leftRun E call round ex ro c a fr st with
  | some (.normal,fr',st')=>ex ro b fr' st'
  | r=>r
 | .region _ ops false,fr,st =>
  match ops.toList with
  | o::os =>
   match o.op with
   | .next x _ =>
    match evA fr x with
    | some v =>
     match aNextC c v st with
     | some (u,st1) =>
      match fr.put o.dst u with
      | some fr1 =>
       match regL (step E call round ops.toList) os fr1 st1 with
       | some (fr2,st2)=>some (.normal,fr2,st2)
       | none=>none
      | none=>none
     | none=>none
    | none=>none
   | _=>none
  | []=>none
 | _,_,_=>none
def entsEq:Ents→Ents→Bool
 | [],[]=>true
 | x::xs,y::ys=>avEq x.1 y.1 && (avEq x.2.1 y.2.1 && (Nat.beq x.2.2 y.2.2 && entsEq xs ys))
 | _,_=>false
def aoEq:AO→AO→Bool
 | .cells cs rw,y=>match y with | .cells ds rw'=>boolEq rw rw' && avsEq cs ds | _=>false
 | .map es c,y=>match y with | .map fs d=>Nat.beq c d && entsEq es fs | _=>false
 | .defd,y=>match y with | .defd=>true | _=>false
 | .siter s p,y=>match y with | .siter t q=>Nat.beq p q && decide (s=t) | _=>false
 | .miter m a s l,y=>match y with | .miter m' a' s' l'=>decide (m=m') && (Nat.beq a a' && (decide (s=s') && Nat.beq l l')) | _=>false
 | _,_=>false
def joinO (v v':Option AO):Option AO :=
 match v with
 | some x=>(match v' with | some y=>bif aoEq x y then some x else none | none=>none)
 | none=>none
def joinT:T AO→T AO→T AO
 | .n l v r,t=>(match t with | .n l' v' r'=>.n (joinT l l') (joinO v v') (joinT r r') | _=>.e)
 | _,_=>.e
def joinSt (a b:ASt):ASt:={h:=joinT a.h b.h,next:=Nat.max a.next b.next}
def noO:T AV→Bool
 | .e=>true
 | .n l _ r=>bif noO l then noO r else false
 | .o ..=>false
def anyV (v:Option AV):Option AV:=match v with | some _=>some .any | none=>none
def anyT:T AV→T AV
 | .n l v r=>.n (anyT l) (anyV v) (anyT r)
 | _=>.e
def joinV (v v':Option AV):Option AV :=
 match v with
 | some x=>(match v' with | some y=>(bif avEq x y then some x else some .any) | none=>some .any)
 | none=>(match v' with | some _=>some .any | none=>none)
def joinFT:T AV→T AV→T AV
 | .n l v r,t=>(match t with | .n l' v' r'=>.n (joinFT l l') (joinV v v') (joinFT r r') | _=>anyT (.n l v r))
 | _,t=>anyT t
def exEq:Exit→Exit→Bool
 | .normal,y=>match y with | .normal=>true | _=>false
 | .exit i,y=>match y with | .exit j=>Nat.beq i j | _=>false
 | .ret,y=>match y with | .ret=>true | _=>false
 | _,_=>false
def join (r r':Exit×AFr×ASt):Option (Exit×AFr×ASt) :=
 match r,r' with
 | (e,fr,st),(e',fr',st') =>
  bif exEq e e' then bif Nat.beq fr.n fr'.n then bif lEq fr.defs fr'.defs then bif noO fr.m then bif noO fr'.m then
   some (e,{m:=joinFT fr.m fr'.m,n:=fr.n,defs:=fr.defs},joinSt st st')
  else none else none else none else none else none
def ways (run:Nat→Option (Exit×AFr×ASt)):Nat→Option (Exit×AFr×ASt)
 | 0=>none
 | n+1 =>
  match n with
  | 0=>run 0
  | m+1 =>
   match ways run (m+1) with
   | some r=>(match run (m+1) with | some r'=>join r r' | none=>none)
   | none=>none
def candN (body:Code) (fr:AFr) (st:ASt):Nat :=
 match leftHas body with
 | some x =>
  match evA fr x with
  | some v=>(match candsOf v st with | some (_,_,_,_,_,cs)=>cs.length | none=>0)
  | none=>0
 | none=>0
def loopM (E:Env) (call round:CallT) (ex:ExecT) (ro:Option Nat) (body:Code):Nat→AFr→ASt→Option (Exit×AFr×ASt)
 | 0,_,_=>none
 | d+1,fr,st =>
  bif Nat.blt (candN body fr st) 2 then
   match ex ro body fr st with
   | some (.normal,fr',st')=>loopM E call round ex ro body d fr' st'
   | r=>r
  else
   ways (fun c =>
    match leftRun E call round ex ro c body fr st with
    | some (.normal,fr',st')=>loopM E call round ex ro body d fr' st'
    | r=>r) (candN body fr st)
def scopeA (ex:Code→AFr→ASt→Option (Exit×AFr×ASt)) (c:Code):Nat→Option (Exit×AFr×ASt)→Option (Exit×AFr×ASt)
 | 0,r =>
  match r with
  | some (.goto l,fr,st)=>(match findLabel c l with | some _=>none | none=>some (.goto l,fr,st))
  | r=>r
 | d+1,r =>
  match r with
  | some (.goto l,fr,st)=>(match findLabel c l with | some rest=>scopeA ex c d (ex rest fr st) | none=>some (.goto l,fr,st))
  | r=>r
def execF (E:Env) (draw:DrawT) (ex:ExecT) (call:CallT) (round:CallT):ExecT:=fun ro c fr st =>
 match c with
 | .skip=>some (.normal,fr,st)
 | .label _=>some (.normal,fr,st)
 | .exit id=>some (.exit id,fr,st)
 | .goto l=>some (.goto l,fr,st)
 | .ret=>some (.ret,fr,st)
 | .region _ ops false =>
  match regL (step E call round ops.toList) ops.toList fr st with
  | some (fr',st')=>some (.normal,fr',st')
  | none=>none
 | .region _ ops true =>
  match draw (stepV E call round ops.toList) ops.toList fr st with
  | some (fr',st')=>some (.normal,fr',st')
  | none=>none
 | .seq a b =>
  match ex ro a fr st with
  | some (.normal,fr',st')=>ex ro b fr' st'
  | r=>r
 | .cond x t e =>
  match evA fr x with
  | some (.bool v)=>bif v then ex ro t fr st else ex ro e fr st
  | _=>none
 | .block id body =>
  match ex ro body fr st with
  | some (.exit i,fr',st')=>bif Nat.beq i id then some (.normal,fr',st') else some (.exit i,fr',st')
  | r=>r
 | .loop body =>
  match leftHas body with
  | some _ =>
   (match loopM E call round ex ro body 1000 fr st with
   | some (.normal,_,_)=>none
   | r=>r)
  | none =>
   (match loopN (ex ro body) 24 fr st with
   | some (.normal,_,_)=>none
   | r=>r)
 | .rangeFunc g ps as bo=>rangeA call ex ro g ps as bo fr st
 | .scope body=>scopeA (ex ro) body 8 (ex ro body fr st)
 | _=>none
structure Mach where
 ex:ExecT
 call:CallT
 round:CallT
def M (E:Env) (draw:DrawT) (sum:CallT):Nat→Mach
 | 0=>{ex:=fun _ _ _ _=>none,call:=fun _ _ _=>none,round:=fun _ _ _=>none}
 | n+1 =>
  let m:=M E draw sum n
  {ex:=execF E draw m.ex m.call m.round,
   call:=fun f args st=>match sum f args st with | some r=>some r | none=>callF E m.ex f args st,
   round:=roundF m.ex}
end
end Go.Ax
end

section
namespace Go.Ax
noncomputable section
open Go.RowKit
def DR (ι:Ren):List Nat→List Deferred→Prop
 | [],[]=>True
 | i::is,d::ds=>(∃L,ι i=some L∧d={target:=.collected L.b,args:=#[]})∧DR ι is ds
 | _,_=>False
theorem DR.mono {ι κ:Ren} (hle:ι.le κ):∀{is:List Nat} {ds:List Deferred},DR ι is ds→DR κ is ds
 | [],[],_=>trivial
 | _::_,_::_,⟨⟨L,h1,h2⟩,h3⟩=>⟨⟨L,hle _ _ h1,h2⟩,DR.mono hle h3⟩
 | [],_::_,h=>h.elim
 | _::_,[],h=>h.elim
structure FRA (ι:Ren) (fr:AFr) (a:Act):Prop where
 hf:FR ι fr a.tmps
 hd:DR ι fr.defs a.defers
theorem FRA.mono {ι κ:Ren} (hle:ι.le κ) {fr:AFr} {a:Act} (h:FRA ι fr a):FRA κ fr a:=⟨h.hf.mono hle,h.hd.mono hle⟩
def Post (B:Prot) (w0:World) (ι:Ren) (r:AV×ASt) (e:Ending) (w':World):Prop :=
 ∃v ι',e=.returned v∧ι.le ι'∧SR B w0 ι' r.2 w'∧VR ι' r.1 v
def CallOK (P:Program) (B:Prot) (w0:World) (call:CallT):Prop :=
 ∀f args st r,call f args st=some r→∀ι w args',SR B w0 ι st w→VRs ι args args' →
  (callFunc f args').run P w=.ok (.enter f args') w∧CallsIn Fence.wide 0 P f args' w (Post B w0 ι r)
def RoundOK (P:Program) (B:Prot) (w0:World) (round:CallT):Prop :=
 ∀l args st r,round l args st=some r→∀ι w args' L,SR B w0 ι st w→VRs ι args args'→ι l=some L →
  ∃fn tmps as bo,(Instr.yield L.b args').run P w=.ok (.round L.b fn tmps as bo) w∧RoundIn Fence.wide 0 P L.b fn tmps as bo w (Post B w0 ι r)
def CallsOK (P:Program) (call:CallT):Prop:=∀B w0,CallOK P B w0 call
def RoundsOK (P:Program) (round:CallT):Prop:=∀B w0,RoundOK P B w0 round
def FF:Option Nat→Fence
 | none=>Fence.wide
 | some l=>Fence.wide.inRound l
theorem FF_fn (ro:Option Nat) (f:FuncId):(FF ro).fn f:=by cases ro<;>trivial
theorem FF_depth (ro:Option Nat):(FF ro).depth.isSome=true→1≤0:=by cases ro<;>intro h<;>simp[FF,Fence.wide,Fence.inRound] at h
theorem FF_calls {ro:Option Nat} {P:Program} {f:FuncId} {args:Array Value} {w:World} {R:Ending→World→Prop} (h:CallsIn Fence.wide 0 P f args w R) :
 CallsIn (FF ro) 0 P f args w R:=by cases ro<;>exact h
theorem FF_rounds {ro:Option Nat} {P:Program} {l:Nat} {f:FuncId} {tmps:Array Value} {as bo:Code} {w:World} {R:Ending→World→Prop}
 (h:RoundIn Fence.wide 0 P l f tmps as bo w R):RoundIn (FF ro) 0 P l f tmps as bo w R:=by cases ro<;>exact h
section
variable {P:Program} {E:Env} {B:Prot} {w0:World} {ι:Ren} {st:ASt} {w:World} {fr:AFr} {a:Act}
theorem evA_ok (h:FR ι fr a.tmps) {x:Operand} {v:AV} (hv:evA fr x=some v):VR ι v (a.eval x):=by
 cases x with
 | tmp t=>simp only[evA,Option.some.injEq] at hv;subst hv;exact h.2 t
 | const c=>exact ofValue_ok hv
 | global g =>
  simp only[evA] at hv
  cases hg:glV g with
  | none=>rw[hg] at hv;cases hv
  | some cs=>rw[hg] at hv;simp only[Option.some.injEq] at hv;subst hv;exact .gptr g 0
 | func f=>simp only[evA,Option.some.injEq] at hv;subst hv;exact .clos f [] #[] rfl (fun i v v' h=>by simp at h)
theorem evL_ok (h:FR ι fr a.tmps):∀(l:List Operand) (vs:List AV),evL fr l=some vs→VRs ι vs (l.map a.eval).toArray
 | [],vs,hv=>by simp[evL] at hv;subst hv;exact⟨rfl,fun i v v' h=>by simp at h⟩
 | x::l,vs,hv=>by
  simp only[evL] at hv
  split at hv
  ·rename_i v hx
   split at hv
   ·rename_i vs' hl
    simp only[Option.some.injEq] at hv;subst hv
    have ih:=evL_ok h l vs' hl
    refine⟨by have:=ih.size;simp at this;simp[this],fun i y y' hy hy'=>?_⟩
    cases i with
    | zero=>simp at hy hy';subst hy;subst hy';exact evA_ok h hx
    | succ i=>simp at hy hy';exact ih.at_ i y y' hy (by simpa using hy')
   ·simp at hv
  ·simp at hv
theorem evO_ok (h:FR ι fr a.tmps) {x:Option Operand} {v:Option AV} (hv:evO fr x=some v):OVR ι v (x.map a.eval):=by
 cases x with
 | none=>simp[evO] at hv;subst hv;trivial
 | some x =>
  simp only[evO] at hv
  split at hv
  ·rename_i y hy
   simp only[Option.some.injEq] at hv;subst hv
   exact evA_ok h hy
  ·simp at hv
theorem evP_ok (h:FR ι fr a.tmps):∀(l:List (Nat×Operand)) (vs:List (Nat×AV)),evP fr l=some vs →
  vs.map (·.1)=(l.map fun (i,x)=>(i,a.eval x)).map (·.1)∧∀(k:Nat) p p',vs[k]? = some p→(l.map fun (i,x)=>(i,a.eval x))[k]? = some p'→VR ι p.2 p'.2
 | [],vs,hv=>by simp[evP] at hv;subst hv;exact⟨rfl,fun k p p' h=>by simp at h⟩
 | (i,x)::l,vs,hv=>by
  simp only[evP] at hv
  split at hv
  ·rename_i v hx
   split at hv
   ·rename_i vs' hl
    simp only[Option.some.injEq] at hv;subst hv
    obtain⟨h1,h2⟩:=evP_ok h l vs' hl
    refine⟨by simpa using h1,fun k p p' hp hp'=>?_⟩
    cases k with
    | zero=>simp at hp hp';subst hp;subst hp';exact evA_ok h hx
    | succ k=>simp only[List.map_cons,List.getElem?_cons_succ] at hp hp';exact h2 k p p' hp hp'
   ·simp at hv
  ·simp at hv
theorem put_ok (h:FRA ι fr a) {dst:Option Tmp} {v:AV} {v':Value} {fr':AFr} (hv:VR ι v v') (hp:fr.put dst v=some fr'):FRA ι fr' (a.put dst v'):=by
 obtain⟨m,n,ds⟩:=fr
 obtain⟨⟨hs,hg⟩,hd⟩:=h
 cases dst with
 | none=>simp only[AFr.put,Option.some.injEq] at hp;subst hp;exact⟨⟨hs,hg⟩,hd⟩
 | some d =>
  simp only[AFr.put] at hp
  cases hb:Nat.ble (Nat.succ d) n
  ·simp only[hb,cond_false,reduceCtorEq] at hp
  ·simp only[hb,cond_true,Option.some.injEq] at hp;subst hp
   have hlt:d<a.tmps.size:=by rw[hs];exact ble_le hb
   refine⟨⟨by simpa [Act.put] using hs,fun t=>?_⟩,hd⟩
   simp only[T.get_set,Act.put]
   by_cases ht:t=d
   ·subst ht;simp[hlt];exact hv
   ·have:¬d=t:=fun e=>ht e.symm
    simp only[ht,if_false]
    have:=hg t
    simp only[Array.getD_eq_getD_getElem?,Array.getElem?_setIfInBounds] at this ⊢
    simp only[show ¬d=t from fun e=>ht e.symm,if_false]
    exact this
theorem wanted_ok (h:FR ι fr a.tmps) (ops:Array Oper) (o:Oper) (hg:guardAny ops.toList fr o=false):Region.wanted o (yielded ops a.tmps)=wantedA ops.toList fr o:=by
 unfold guardAny at hg
 unfold Region.wanted wantedA
 cases hog:o.guard with
 | none=>rfl
 | some g =>
  obtain⟨j,want⟩:=g
  simp only[yielded]
  have e:ops.toList[j]? = ops[j]?:=by simp
  rw[hog] at hg
  simp only[e] at hg
  rw[e]
  cases hoj:ops[j]? with
  | none=>simp
  | some oj =>
   rw[hoj] at hg
   simp only at hg
   simp only[Option.bind_some]
   cases hdj:oj.dst with
   | none=>simp
   | some d =>
    rw[hdj] at hg
    simp only at hg
    simp only[Option.bind_some]
    have hd:=h.2 d
    cases ht:a.tmps[d]? with
    | none =>
     have e2:a.tmps.getD d undef=undef:=by simp[ht]
     rw[e2] at hd
     generalize (fr.m.get d).getD undefA=x at hd hg
     cases hd<;>simp at hg ⊢
    | some y =>
     have e2:a.tmps.getD d undef=y:=by simp[ht]
     rw[e2] at hd
     generalize (fr.m.get d).getD undefA=x at hd hg
     cases hd with
     | bool b=>cases b<;>cases want<;>rfl
     | any v=>simp at hg
     | _=>simp
def Runs (P:Program) (B:Prot) (w0:World) (ι:Ren) (w:World) (s:Sem Next) (r:AV×ASt):Prop :=
 (∃ι' v w',s.run P w=.ok (.value v) w'∧ι.le ι'∧SR B w0 ι' r.2 w'∧VR ι' r.1 v) ∨
 (∃w',s.run P w=.ok .skip w'∧SR B w0 ι r.2 w'∧r.1=undefA) ∨
 (∃f args,s.run P w=.ok (.enter f args) w∧CallsIn Fence.wide 0 P f args w (Post B w0 ι r)) ∨
 (∃l fn tmps as bo,s.run P w=.ok (.round l fn tmps as bo) w∧RoundIn Fence.wide 0 P l fn tmps as bo w (Post B w0 ι r))
theorem Runs.val (hsr:SR B w0 ι st w) {s:Sem Value} {x:Option AV} {r:AV×ASt} (hs:still st x=some r) (h:∀y,x=some y→∃v,s.run P w=.ok v w∧VR ι y v) :
  Runs P B w0 ι w (do pure (.value (←s))) r:=by
 cases x with
 | none=>simp[still] at hs
 | some y =>
  simp only[still,Option.some.injEq] at hs;subst hs
  obtain⟨v,h1,h2⟩:=h y rfl
  exact .inl ⟨ι,v,w,by simp only[Sem.run_bind,h1,Result.andThen_ok,Sem.run_pure],ι.le_refl,hsr,h2⟩
theorem Runs.did {s:Sem Value} {r:AV×ASt} (h:Did P B w0 ι w s r):Runs P B w0 ι w (do pure (.value (←s))) r:=by
 obtain⟨ι',v,w',h1,h2,h3,h4⟩:=h
 exact .inl ⟨ι',v,w',by simp only[Sem.run_bind,h1,Result.andThen_ok,Sem.run_pure],h2,h3,h4⟩
theorem aCall_ok (hE:E.Ok P) (hsr:SR B w0 ι st w) (hfr:FR ι fr a.tmps) {call round:CallT} (hc:CallOK P B w0 call) (hr:RoundOK P B w0 round) {c:Call} {type:TypeId} {r:AV×ASt}
  (h:aCall E call round c fr st=some r):Runs P B w0 ι w (do let d ←resolve a.eval c type;invoke d.target d.args) r:=by
 simp only[aCall] at h
 split at h
 ·simp at h
 rename_i args hargs
 have ha:VRs ι args (c.args.map a.eval):=by
  have:=evL_ok hfr c.args.toList args hargs
  have e:(c.args.map a.eval)=(c.args.toList.map a.eval).toArray:=by
   apply Array.ext';simp
  rw[e];exact this
 split at h
 ·rename_i b hb
  obtain⟨ι',v,w',h1,h2,h3,h4⟩:=aBuiltinM_ok (rT:=type) (cs:=c.args.map fun | .const _=>true | _=>false) hE hsr ha h
  refine .inl ⟨ι',v,w',?_,h2,h3,h4⟩
  simp only[resolve,hb,Sem.run_bind,Sem.run_pure,Result.andThen_ok,invoke]
  have e:c.argTypes=c.argTypes.toList.toArray:=by simp
  rw[e];exact h1
 ·rename_i f hf
  split at h
  ·rename_i g caps hg
   have hfv:=evA_ok hfr hg
   generalize hfe:a.eval f=fv at hfv
   cases hfv with
   | clos _ _ cs' hs hv =>
    have hall:VRs ι (args++caps) (c.args.map a.eval++cs'):=ha.append ⟨hs,hv⟩
    have e:∀w,(do let d ←resolve a.eval c type;invoke d.target d.args:Sem Next).run P w=(callFunc g (c.args.map a.eval++cs')).run P w:=fun w=>by
     simp only[resolve,hf,hfe,Deferred.ofValue,Sem.run_bind,Sem.run_pure,Result.andThen_ok,invoke,Array.empty_append]
    split at h
    ·rename_i x hx
     cases hxv:x (args++caps) with
     | none=>rw[hxv] at h;simp[still] at h
     | some y =>
      rw[hxv] at h
      simp only[still,Option.some.injEq] at h;subst h
      rcases hE.ex g x hx ι _ _ y w hsr.globw hxv hall.size hall.at_ with⟨v,h1,h2⟩ | ⟨h1,h2⟩
      ·exact .inl ⟨ι,v,w,by rw[e,h1],ι.le_refl,hsr,h2⟩
      ·exact .inr (.inr (.inl ⟨g,_,by rw[e,h1],h2.mono fun e w' ⟨x,he,hx,hk⟩=>⟨x,ι,he,ι.le_refl,hsr.later hk,hx⟩⟩))
    ·obtain⟨h1,h2⟩:=hc g _ _ _ h ι w _ hsr hall
     exact .inr (.inr (.inl ⟨g,_,by rw[e,h1],h2⟩))
  ·rename_i g fs caps hg
   have hfv:=evA_ok hfr hg
   generalize hfe:a.eval f=fv at hfv
   cases hfv with
   | bound _ _ _ fs' cs' hs hf' hv hvf =>
    have hall:VRs ι (fs++args++caps) (fs'++c.args.map a.eval++cs'):=((⟨hf',hvf⟩:VRs ι fs fs').append ha).append ⟨hs,hv⟩
    have e:∀w,(do let d ←resolve a.eval c type;invoke d.target d.args:Sem Next).run P w=(callFunc g (fs'++c.args.map a.eval++cs')).run P w:=fun w=>by
     simp only[resolve,hf,hfe,Deferred.ofValue,Sem.run_bind,Sem.run_pure,Result.andThen_ok,invoke]
    obtain⟨h1,h2⟩:=hc g _ _ _ h ι w _ hsr hall
    exact .inr (.inr (.inl ⟨g,_,by rw[e,h1],h2⟩))
  ·rename_i l hg
   have hfv:=evA_ok hfr hg
   generalize hfe:a.eval f=fv at hfv
   cases hfv with
   | yield _ L hL =>
    obtain⟨fn,tmps,as,bo,h1,h2⟩:=hr l _ _ _ h ι w _ L hsr ha hL
    refine .inr (.inr (.inr ⟨L.b,fn,tmps,as,bo,?_,h2⟩))
    simp only[resolve,hf,hfe,Deferred.ofValue,Sem.run_bind,Sem.run_pure,Result.andThen_ok,invoke,Array.empty_append,h1]
  ·simp at h
 ·simp at h
theorem aOp_ok (hE:E.Ok P) (hsr:SR B w0 ι st w) (hfr:FR ι fr a.tmps) {call round:CallT} (hc:CallOK P B w0 call) (hr:RoundOK P B w0 round) {o:Oper} {r:AV×ASt}
  (h:aOp E call round o fr st=some r):Runs P B w0 ι w (execOp a.eval o) r∧∀c,o.op≠.defer c:=by
 have hev:∀{x v},evA fr x=some v→VR ι v (a.eval x):=fun h=>evA_ok hfr h
 unfold aOp at h
 split at h
 case h_1 x ho =>
  refine⟨?_,by simp[ho]⟩
  cases hx:evA fr x with
  | none=>simp[hx,still] at h
  | some v =>
   simp only[hx,still,Option.some.injEq] at h;subst h
   exact .inl ⟨ι,a.eval x,w,by simp only[execOp,ho,Sem.run_pure],ι.le_refl,hsr,hev hx⟩
 case h_2 x ho =>
  refine⟨?_,by simp[ho]⟩
  cases hx:evA fr x with
  | none=>simp[hx,still] at h
  | some v =>
   simp only[hx,still,Option.some.injEq] at h;subst h
   exact .inl ⟨ι,a.eval x,w,by simp only[execOp,ho,Sem.run_pure],ι.le_refl,hsr,hev hx⟩
 case h_3 c x y ho =>
  refine⟨?_,by simp[ho]⟩
  split at h
  ·rename_i t ht
   have hcv:=hev ht
   generalize hce:a.eval c=cv at hcv
   cases hcv
   have key:∀z,still st (evA fr z)=some r→(if t then a.eval x else a.eval y)=a.eval z→Runs P B w0 ι w (execOp a.eval o) r:=by
    intro z hz he
    cases hx:evA fr z with
    | none=>simp[hx,still] at hz
    | some v =>
     simp only[hx,still,Option.some.injEq] at hz;subst hz
     exact .inl ⟨ι,a.eval z,w,by simp only[execOp,ho,hce,asBool,Sem.run_bind,Sem.run_pure,Result.andThen_ok,he],ι.le_refl,hsr,hev hx⟩
   cases t
   ·exact key y h rfl
   ·exact key x h rfl
  ·simp at h
 case h_4 t ho =>
  refine⟨?_,by simp[ho]⟩
  have:=Runs.did (aAlloc_ok hE hsr h)
  simpa only[execOp,ho] using this
 case h_5 t x ho =>
  refine⟨?_,by simp[ho]⟩
  split at h
  ·rename_i v hv
   have:=Runs.did (aBox_ok (P:=P) hsr t (hev hv) h)
   simpa only[execOp,ho] using this
  ·simp at h
 case h_6 t ps ho =>
  refine⟨?_,by simp[ho]⟩
  split at h
  ·rename_i l hl
   obtain⟨h1,h2⟩:=evP_ok hfr ps.toList l hl
   have:=Runs.val (P:=P) hsr h (s:=Instr.build t (ps.map fun (i,x)=>(i,a.eval x))) (fun y hy=>aBuild_ok hE (by simpa using h1) (by simpa using h2) hy)
   simpa only[execOp,ho] using this
  ·simp at h
 case h_7 t n ps ho =>
  refine⟨?_,by simp[ho]⟩
  split at h
  ·rename_i l hl
   obtain⟨h1,h2⟩:=evP_ok hfr ps.toList l hl
   have:=Runs.did (aBuildSlice_ok (parts':=ps.map fun (i,x)=>(i,a.eval x)) hE hsr (by simpa using h1) (by simpa using h2) h)
   simpa only[execOp,ho] using this
  ·simp at h
 case h_8 t x ho =>
  refine⟨?_,by simp[ho]⟩
  split at h
  ·rename_i v hv
   have:=Runs.did (aLoad_ok hE hsr (hev hv) h)
   simpa only[execOp,ho] using this
  ·simp at h
 case h_9 t x y ho =>
  refine⟨?_,by simp[ho]⟩
  split at h
  ·rename_i p hp
   split at h
   ·rename_i v hv
    split at h
    ·rename_i st' hst
     simp only[Option.some.injEq] at h;subst h
     obtain⟨w',h1,h2⟩:=aStore_ok (P:=P) hE hsr (hev hp) (hev hv) hst
     exact .inr (.inl ⟨w',by simp only[execOp,ho,Sem.run_bind,h1,Result.andThen_ok,Sem.run_pure],h2,rfl⟩)
    ·simp at h
   ·simp at h
  ·simp at h
 case h_10 x ho =>
  refine⟨?_,by simp[ho]⟩
  split at h
  ·rename_i v hv
   cases hn:aNilCheck v with
   | none=>simp[hn,still] at h
   | some y =>
    simp only[hn,still,Option.some.injEq] at h;subst h
    obtain⟨v',h1,h2⟩:=aNilCheck_ok (P:=P) (w:=w) (ρ:=a.eval) ho (hev hv) hn
    exact .inl ⟨ι,v',w,h1,ι.le_refl,hsr,h2⟩
  ·simp at h
 case h_11 op t x y yt ho =>
  refine⟨?_,by simp[ho]⟩
  split at h
  ·rename_i p hp
   split at h
   ·rename_i q hq
    have:=Runs.val (P:=P) hsr h (fun z hz=>aBin_ok (w:=w) hE (hev hp) (hev hq) hz)
    simpa only[execOp,ho] using this
   ·simp at h
  ·simp at h
 case h_12 op t x ho =>
  refine⟨?_,by simp[ho]⟩
  split at h
  ·rename_i p hp
   have:=Runs.val (P:=P) hsr h (fun z hz=>aUn_ok (w:=w) (hev hp) hz)
   simpa only[execOp,ho] using this
  ·simp at h
 case h_13 s d x ho =>
  refine⟨?_,by simp[ho]⟩
  split at h
  ·rename_i p hp
   have:=Runs.did (aConvert_ok hE hsr (hev hp) h)
   simpa only[execOp,ho] using this
  ·simp at h
 case h_14 t x ho =>
  refine⟨?_,by simp[ho]⟩
  split at h
  ·rename_i p hp
   have:=Runs.val (P:=P) hsr h (fun z hz=>aMakeIface_ok (w:=w) hE (hev hp) hz)
   simpa only[execOp,ho] using this
  ·simp at h
 case h_15 f first caps ho =>
  refine⟨?_,by simp[ho]⟩
  split at h
  ·rename_i g
   split at h
   ·rename_i hfirst
    split at h
    ·rename_i l hl
     simp only[Option.some.injEq] at h;subst h
     have h1:=evL_ok hfr caps.toList l hl
     have e:(caps.map a.eval)=(caps.toList.map a.eval).toArray:=by apply Array.ext';simp
     have e2:first=#[]:=by apply Array.ext';simpa using hfirst
     refine .inl ⟨ι,.func (.func g) #[] (caps.map a.eval),w,?_,ι.le_refl,hsr,?_⟩
     ·simp only[execOp,ho,Instr.makeFunc,Sem.run_bind,Sem.run_pure,Result.andThen_ok,e2,Array.map_empty]
     ·rw[e];exact .clos g l _ h1.size h1.at_
    ·simp at h
   ·rename_i f0 fs0 hfirst
    split at h
    ·rename_i fs hfs
     split at h
     ·rename_i l hl
      simp only[Option.some.injEq] at h;subst h
      have h1:=evL_ok hfr caps.toList l hl
      rw[←hfirst] at hfs
      have h2:=evL_ok hfr first.toList fs hfs
      have e:(caps.map a.eval)=(caps.toList.map a.eval).toArray:=by apply Array.ext';simp
      have e2:(first.map a.eval)=(first.toList.map a.eval).toArray:=by apply Array.ext';simp
      refine .inl ⟨ι,.func (.func g) (first.map a.eval) (caps.map a.eval),w,?_,ι.le_refl,hsr,?_⟩
      ·simp only[execOp,ho,Instr.makeFunc,Sem.run_bind,Sem.run_pure,Result.andThen_ok]
      ·rw[e,e2];exact .bound g fs l _ _ h1.size h2.size h1.at_ h2.at_
     ·simp at h
    ·simp at h
  ·simp at h
 case h_16 t x y ho =>
  refine⟨?_,by simp[ho]⟩
  split at h
  ·rename_i p hp
   split at h
   ·rename_i q hq
    have:=Runs.did (aMake_ok hE hsr (hev hp) (hev hq) h)
    simpa only[execOp,ho] using this
   ·simp at h
  ·simp at h
 case h_17 t x lo hi mx ho =>
  refine⟨?_,by simp[ho]⟩
  split at h
  ·rename_i p hp
   split at h
   ·rename_i l hl
    split at h
    ·rename_i q hq
     split at h
     ·rename_i m hm
      have:=Runs.val (P:=P) hsr h (fun z hz=>aSlice_ok (w:=w) hE hsr (hev hp) (evO_ok hfr hl) (evO_ok hfr hq) (evO_ok hfr hm) hz)
      simpa only[execOp,ho] using this
     ·simp at h
    ·simp at h
   ·simp at h
  ·simp at h
 case h_18 s x f ho =>
  refine⟨?_,by simp[ho]⟩
  split at h
  ·rename_i p hp
   have:=Runs.val (P:=P) hsr h (fun z hz=>aFieldAddr_ok (w:=w) hE (hev hp) hz)
   simpa only[execOp,ho] using this
  ·simp at h
 case h_19 s x f ho =>
  refine⟨?_,by simp[ho]⟩
  split at h
  ·rename_i p hp
   have:=Runs.val (P:=P) hsr h (fun z hz=>aField_ok (w:=w) hE (hev hp) hz)
   simpa only[execOp,ho] using this
  ·simp at h
 case h_20 t x y ho =>
  refine⟨?_,by simp[ho]⟩
  split at h
  ·rename_i p hp
   split at h
   ·rename_i q hq
    have:=Runs.val (P:=P) hsr h (fun z hz=>aIndexAddr_ok (w:=w) hE (hev hp) (hev hq) hz)
    simpa only[execOp,ho] using this
   ·simp at h
  ·simp at h
 case h_21 t x y ho =>
  refine⟨?_,by simp[ho]⟩
  split at h
  ·rename_i p hp
   split at h
   ·rename_i q hq
    have:=Runs.val (P:=P) hsr h (fun z hz=>aIndex_ok (w:=w) hE (hev hp) (hev hq) hz)
    simpa only[execOp,ho] using this
   ·simp at h
  ·simp at h
 case h_22 x xt t ok ho =>
  refine⟨?_,by simp[ho]⟩
  split at h
  ·rename_i p hp
   have:=Runs.val (P:=P) hsr h (fun z hz=>aAssert_ok (w:=w) (xt:=xt) hE (hev hp) hz)
   simpa only[execOp,ho] using this
  ·simp at h
 case h_23 x i ho =>
  refine⟨?_,by simp[ho]⟩
  split at h
  ·rename_i p hp
   have:=Runs.val (P:=P) hsr h (fun z hz=>aExtract_ok (w:=w) (hev hp) hz)
   simpa only[execOp,ho] using this
  ·simp at h
 case h_24 c ho =>
  refine⟨?_,by simp[ho]⟩
  have:=aCall_ok (type:=o.type) hE hsr hfr hc hr h
  simpa only[execOp,ho] using this
 case h_25 t rs ho =>
  refine⟨?_,by simp[ho]⟩
  split at h
  ·simp only[Option.some.injEq] at h;subst h
   have:=Runs.did (aMakeMap_ok (P:=P) (t:=t) hsr)
   simpa only[execOp,ho,Option.map_none] using this
  ·simp at h
 case h_26 t m k x ho =>
  refine⟨?_,by simp[ho]⟩
  split at h
  ·rename_i mv hm
   split at h
   ·rename_i kv hk
    split at h
    ·rename_i xv hx
     split at h
     ·rename_i st' hst
      simp only[Option.some.injEq] at h;subst h
      obtain⟨w',h1,h2⟩:=aMapUpdate_ok (P:=P) hE hsr (hev hm) (hev hk) (hev hx) hst
      exact .inr (.inl ⟨w',by simp only[execOp,ho,Sem.run_bind,h1,Result.andThen_ok,Sem.run_pure],h2,rfl⟩)
     ·simp at h
    ·simp at h
   ·simp at h
  ·simp at h
 case h_27 t m k x ho =>
  refine⟨?_,by simp[ho]⟩
  split at h
  ·rename_i mv hm
   split at h
   ·rename_i kv hk
    split at h
    ·rename_i xv hx
     split at h
     ·rename_i st' hst
      simp only[Option.some.injEq] at h;subst h
      obtain⟨w',h1,h2⟩:=aMapUpdate_ok (P:=P) hE hsr (hev hm) (hev hk) (hev hx) hst
      exact .inr (.inl ⟨w',by simp only[execOp,ho,Sem.run_bind,h1,Result.andThen_ok,Sem.run_pure],h2,rfl⟩)
     ·simp at h
    ·simp at h
   ·simp at h
  ·simp at h
 case h_28 t x y ok ho =>
  refine⟨?_,by simp[ho]⟩
  split at h
  ·rename_i p hp
   split at h
   ·rename_i q hq
    have:=Runs.val (P:=P) hsr h (fun z hz=>aLookup_ok (w:=w) hE hsr (hev hp) (hev hq) hz)
    simpa only[execOp,ho] using this
   ·simp at h
  ·simp at h
 case h_29 t x ho =>
  refine⟨?_,by simp[ho]⟩
  split at h
  ·rename_i p hp
   have:=Runs.did (aRange_ok hE hsr (hev hp) h)
   simpa only[execOp,ho] using this
  ·simp at h
 case h_30 x isS ho =>
  refine⟨?_,by simp[ho]⟩
  split at h
  ·rename_i p hp
   have:=Runs.did (aNext_ok (P:=P) (ty:=o.type) hsr (hev hp) h)
   simpa only[execOp,ho] using this
  ·simp at h
 case h_31 x ho =>
  refine⟨?_,by simp[ho]⟩
  split at h
  ·rename_i p hp
   have:=Runs.val (P:=P) hsr h (fun z hz=>aEntry_ok (w:=w) hsr (hev hp) hz)
   simpa only[execOp,ho] using this
  ·simp at h
 case h_32=>simp at h
theorem step_ok (hE:E.Ok P) (hsr:SR B w0 ι st w) (hfr:FRA ι fr a) {call round:CallT} (hc:CallOK P B w0 call) (hr:RoundOK P B w0 round) {ops:Array Oper} {o:Oper} {fr':AFr} {st':ASt}
  (h:step E call round ops.toList o fr st=some (fr',st')) {ro:Option Nat} {K:Act→World→Prop} {Q:Exit→Act→World→Prop}
  (hK:∀ι' a' w',ι.le ι'→FRA ι' fr' a'→SR B w0 ι' st' w'→K a' w') :
  if Region.wanted o (yielded ops a.tmps) then o.wpIn (FF ro) 0 P a w K Q else (∀f,o.about P w a.eval=some f→(FF ro).fn f)∧K (a.put o.dst undef) w:=by
 simp only[step,stepV] at h
 cases hgd:guardAny ops.toList fr o
 rotate_left
 ·simp only[hgd,cond_true,reduceCtorEq] at h
 simp only[hgd,cond_false] at h
 rw[wanted_ok hfr.hf ops o hgd]
 cases hw:wantedA ops.toList fr o
 ·simp only[hw,cond_false] at h
  simp only[Bool.false_eq_true,if_false]
  refine⟨fun f _=>FF_fn ro f,?_⟩
  split at h
  ·rename_i fr1 hp
   simp only[Option.some.injEq,Prod.mk.injEq] at h
   obtain⟨rfl,rfl⟩:=h
   exact hK ι _ w ι.le_refl (put_ok hfr (VR.undef ι) hp) hsr
  ·simp at h
 ·simp only[hw,cond_true] at h
  simp only[if_true]
  split at h
  ·rename_i v st1 hop
   split at h
   ·rename_i fr1 hp
    simp only[Option.some.injEq,Prod.mk.injEq] at h
    obtain⟨rfl,rfl⟩:=h
    obtain⟨hrun,hnd⟩:=aOp_ok hE hsr hfr.hf hc hr hop
    refine⟨fun f _=>FF_fn ro f,?_⟩
    rw[Oper.semAt_eq _ _ _ hnd]
    have post:∀{R:Ending→World→Prop},(∀e w',Post B w0 ι (v,st1) e w'→R e w')→True:=fun _=>trivial
    have after:∀e w',Post B w0 ι (v,st1) e w'→(match (motive:=Ending→World→Prop) e,w' with
      | .returned v,w''=>K (a.put o.dst v) w''
      | .panicked chain,w''=>Q (.panic chain) a w''
      | .outgrown,_=>LetsOut Q):=by
     rintro e w' ⟨x,ι',rfl,h2,h3,h4⟩
     exact hK ι' _ w' h2 (put_ok (hfr.mono h2) h4 hp) h3
    rcases hrun with⟨ι',x,w',h1,h2,h3,h4⟩ | ⟨w',h1,h3,h4⟩ | ⟨f,args,h1,h2⟩ | ⟨l,fn,tmps,as,bo,h1,h2⟩
    ·rw[h1,Oper.uponIn_value]
     exact hK ι' _ w' h2 (put_ok (hfr.mono h2) h4 hp) h3
    ·rw[h1,Oper.uponIn_skip]
     simp only at h4;subst h4
     exact hK ι _ w' ι.le_refl (put_ok hfr (VR.undef ι) hp) h3
    ·rw[h1,Oper.uponIn_enter]
     refine⟨FF_depth ro,?_⟩
     exact (FF_calls (ro:=ro) h2).mono fun e w' he=>by
      have:=after e w' he
      cases e<;>exact this
    ·rw[h1,Oper.uponIn_round]
     refine⟨FF_depth ro,?_⟩
     exact (FF_rounds (ro:=ro) h2).mono fun e w' he=>by
      have:=after e w' he
      cases e<;>exact this
   ·simp at h
  ·simp at h
end
end
end Go.Ax
end

section
namespace Go.Ax
noncomputable section
open Go.RowKit
section
variable {F:Fence} {n:Nat} {P:Program} {a:Act} {w:World} {b:Frame} {k:List Item} {cs:List Frame}
theorem stepR_scope {c:Code}:Go.step P (lone (b.atR a (.code (.scope c)::k)) cs w)=.next (lone (b.atR a (.code c::.inScope c::k)) cs w) :=
 step_lone_go (by simp[stepG,stepG.exec,Frame.atR])
theorem stepR_inScope {c:Code}:Go.step P (lone (b.atR a (.inScope c::k)) cs w)=.next (lone (b.atR a k) cs w) :=
 step_lone_go (by simp[stepG,stepG.exec,Frame.atR])
def JumpsIn (F:Fence) (n:Nat) (P:Program) (c:Code) (Q:Exit→Act→World→Prop):Nat→Exit→Act→World→Prop
 | 0,e,a,w=>(∀l,e=.goto l→findLabel c l=none)∧Q e a w
 | d+1,e,a,w=>(∃l rest,e=.goto l∧findLabel c l=some rest∧rest.wpIn F n P (JumpsIn F n P c Q d) a w)∨((∀l,e=.goto l→findLabel c l=none)∧Q e a w)
theorem wpIn_scope {c:Code} {Q:Exit→Act→World→Prop} (d:Nat) (h:c.wpIn F n P (JumpsIn F n P c Q d) a w):(Code.scope c).wpIn F n P Q a w:=by
 intro b k cs hro hb hr
 have h0:(lone (b.atR a (.code (.scope c)::k)) cs w).fenced P F:=fenced_calm hb hr rfl
 -- out of the scope
 have out:∀(m:Machine) (e:Exit) (a₁:Act) (w₁:World),(∀l,e=.goto l→findLabel c l=none)→ArrivesIn (Machine.fenced P F) P m b (.inScope c::k) cs e a₁ w₁→ArrivesIn (Machine.fenced P F) P m b k cs e a₁ w₁:=by
  intro m e a₁ w₁ hn harr
  cases e with
  | normal=>exact StepsIn.trans harr (.one (fenced_calm hb hr rfl) stepR_inScope)
  | exit id =>
   have hx:exitTo id (.inScope c::k)=exitTo id k:=by simp[exitTo]
   exact⟨fun k' hk=>harr.1 k' (by rw[hx];exact hk),fun hr' hk=>harr.2 hr' (by rw[hx];exact hk)⟩
  | goto l =>
   have hx:gotoIn l (.inScope c::k)=gotoIn l k:=by simp[gotoIn,hn l rfl]
   exact⟨fun k' hk=>harr.1 k' (by rw[hx];exact hk),fun hr' hk=>harr.2 hr' (by rw[hx];exact hk)⟩
  | ret=>exact harr
  | panic ch=>exact harr
  | outgrown=>exact harr
 have key:∀(d:Nat) (m:Machine) (e:Exit) (a₁:Act) (w₁:World),JumpsIn F n P c Q d e a₁ w₁→ArrivesIn (Machine.fenced P F) P m b (.inScope c::k) cs e a₁ w₁ →
   ∃e' a' w',Q e' a' w'∧ArrivesIn (Machine.fenced P F) P m b k cs e' a' w':=by
  intro d
  induction d with
  | zero=>intro m e a₁ w₁ hj harr;exact⟨e,a₁,w₁,hj.2,out m e a₁ w₁ hj.1 harr⟩
  | succ d ih =>
   intro m e a₁ w₁ hj harr
   rcases hj with⟨l,rest,rfl,hf,hw⟩ | ⟨hn,hq⟩
   ·obtain⟨e₂,a₂,w₂,hj₂,harr₂⟩:=hw b (.inScope c::k) cs hro hb hr
    have hg:gotoIn l (.inScope c::k)=some (.code rest::.inScope c::k):=by simp[gotoIn,hf]
    exact ih m e₂ a₂ w₂ hj₂ (.of_steps (harr.1 _ hg) harr₂)
   ·exact⟨e,a₁,w₁,hq,out m e a₁ w₁ hn harr⟩
 obtain⟨e,a₁,w₁,hj,harr⟩:=h b (.inScope c::k) cs hro hb hr
 obtain⟨e',a',w',hq,harr'⟩:=key d _ e a₁ w₁ hj harr
 exact⟨e',a',w',hq,.of_steps (.one h0 stepR_scope) harr'⟩
end
end
end Go.Ax
end

section
namespace Go.Ax
noncomputable section
open Go.RowKit
def RO (ι:Ren):Option Nat→Option Nat→Prop
 | none,none=>True
 | some l,some b=>∃L,ι l=some L∧L.b=b
 | _,_=>False
theorem RO.mono {ι κ:Ren} (hle:ι.le κ) {ro rl:Option Nat} (h:RO ι ro rl):RO κ ro rl:=by
 cases ro<;>cases rl<;>first | exact h | (obtain⟨L,h1,h2⟩:=h;exact⟨L,hle _ _ h1,h2⟩)
def ExPost (B:Prot) (w0:World) (ι:Ren) (r:Exit×AFr×ASt) (e:Exit) (a':Act) (w':World):Prop :=
 e=r.1∧∃ι',ι.le ι'∧SR B w0 ι' r.2.2 w'∧FRA ι' r.2.1 a'
def ExecOK (P:Program) (B:Prot) (w0:World) (ex:ExecT):Prop :=
 ∀ro c fr st r,ex ro c fr st=some r→∀ι w a rl,SR B w0 ι st w→FRA ι fr a→RO ι ro rl→c.wpIn (FF rl) 0 P (ExPost B w0 ι r) a w
def DrawOK (P:Program) (E:Env) (draw:DrawT):Prop :=
 ∀call round,CallsOK P call→RoundsOK P round→∀B w0 (ops:Array Oper) fr st fr' st',draw (stepV E call round ops.toList) ops.toList fr st=some (fr',st') →
  ∀ι w a rl id,SR B w0 ι st w→FRA ι fr a→(Code.region id ops true).wpIn (FF rl) 0 P (ExPost B w0 ι (.normal,fr',st')) a w
theorem ExPost.le {B:Prot} {w0:World} {ι κ:Ren} (hle:ι.le κ) {r:Exit×AFr×ASt} {e:Exit} {a':Act} {w':World} (h:ExPost B w0 κ r e a' w'):ExPost B w0 ι r e a' w' :=
 ⟨h.1,let ⟨ι',h1,h2⟩:=h.2;⟨ι',Ren.le_trans hle h1,h2⟩⟩
section
variable {P:Program} {E:Env} {B:Prot} {w0:World} {ι:Ren} {st:ASt} {w:World} {fr:AFr} {a:Act}
theorem regL_ok (hE:E.Ok P) {call round:CallT} (hc:CallOK P B w0 call) (hr:RoundOK P B w0 round) {ops:Array Oper} {ro:Option Nat} :
  ∀(l:List Oper) (k:Nat) (fr:AFr) (st:ASt) (fr':AFr) (st':ASt) (ι:Ren) (w:World) (a:Act),(∀j,l[j]? = ops[k+j]?)→regL (step E call round ops.toList) l fr st=some (fr',st') →
   SR B w0 ι st w→FRA ι fr a→∀{Q:Exit→Act→World→Prop},(∀ι' a' w',ι.le ι'→SR B w0 ι' st' w'→FRA ι' fr' a'→Q .normal a' w') →
   wpOpsIn (FF ro) 0 P ops Q (List.range' k l.length) a w
 | [],k,fr,st,fr',st',ι,w,a,hl,h,hsr,hfr,Q,hQ=>by
  simp only[regL,Option.some.injEq,Prod.mk.injEq] at h
  obtain⟨rfl,rfl⟩:=h
  exact hQ ι a w ι.le_refl hsr hfr
 | o::l,k,fr,st,fr',st',ι,w,a,hl,h,hsr,hfr,Q,hQ=>by
  simp only[regL] at h
  split at h
  ·rename_i fr1 st1 hs
   have ho:ops[k]? = some o:=by have:=hl 0;simpa using this.symm
   have hl':∀j,l[j]? = ops[(k+1)+j]?:=fun j=>by have:=hl (j+1);simp at this;rw[this];congr 1;omega
   have:=step_ok (ro:=ro) (Q:=Q) hE hsr hfr hc hr (ops:=ops) hs (K:=wpOpsIn (FF ro) 0 P ops Q (List.range' (k+1) l.length))
    (fun ι' a' w' hle hfr' hsr'=>regL_ok hE hc hr l (k+1) fr1 st1 fr' st' ι' w' a' hl' h hsr' hfr' (fun ι'' a'' w'' hle' h1 h2=>hQ ι'' a'' w'' (Ren.le_trans hle hle') h1 h2))
   simp only[List.length_cons,List.range'_succ,wpOpsIn,ho]
   exact this
  ·simp at h
theorem loop_ok {ex:ExecT} (hex:ExecOK P B w0 ex) {ro rl:Option Nat} {body:Code} {Q:Exit→Act→World→Prop} :
  ∀(d:Nat) (fr:AFr) (st:ASt) (r:Exit×AFr×ASt),loopN (ex ro body) d fr st=some r→∀(ι:Ren) (w:World) (a:Act) (k:Nat),SR B w0 ι st w→FRA ι fr a→RO ι ro rl →
   (r.1=.normal→∀ι' a' w',ι.le ι'→SR B w0 ι' r.2.2 w'→FRA ι' r.2.1 a'→Code.roundsIn (FF rl) 0 P body Q k a' w') →
   (r.1≠.normal→∀ι' a' w',ι.le ι'→SR B w0 ι' r.2.2 w'→FRA ι' r.2.1 a'→Q r.1 a' w') →
   Code.roundsIn (FF rl) 0 P body Q (k+2 ^ d) a w
 | 0,fr,st,r,h,ι,w,a,k,hsr,hfr,hro,hn,hq=>by
  simp only[loopN] at h
  show (body).wpIn (FF rl) 0 P (Exit.then (Code.roundsIn (FF rl) 0 P body Q k) Q) a w
  refine wpIn_mono (hex ro body fr st r h ι w a rl hsr hfr hro) fun e a' w' ⟨he,ι',h1,h2,h3⟩=>?_
  subst he
  cases hr:r.1 with
  | normal=>exact hn hr ι' a' w' h1 h2 h3
  | _ =>
     have:=hq (by rw[hr];simp) ι' a' w' h1 h2 h3
     rw[hr] at this;exact this
 | d+1,fr,st,r,h,ι,w,a,k,hsr,hfr,hro,hn,hq=>by
  simp only[loopN] at h
  have e:k+2 ^ (d+1)=(k+2 ^ d)+2 ^ d:=by rw[Nat.pow_succ];omega
  rw[e]
  split at h
  ·rename_i fr1 st1 h1
   refine loop_ok hex d fr st _ h1 ι w a (k+2 ^ d) hsr hfr hro (fun _ ι' a' w' hle hsr' hfr'=>?_) (fun hne=>absurd rfl hne)
   exact loop_ok hex d fr1 st1 r h ι' w' a' k hsr' hfr' (hro.mono hle)
    (fun hr ι'' a'' w'' hle'=>hn hr ι'' a'' w'' (Ren.le_trans hle hle')) (fun hr ι'' a'' w'' hle'=>hq hr ι'' a'' w'' (Ren.le_trans hle hle'))
  ·rename_i r1 hne
   have hnn:r.1≠.normal:=by
    intro hr
    obtain⟨e1,f1,s1⟩:=r
    simp only at hr;subst hr
    exact hne f1 s1 h
   exact loop_ok hex d fr st r h ι w a (k+2 ^ d) hsr hfr hro (fun hr=>absurd hr hnn) hq
theorem exBlock {ex:ExecT} (hex:ExecOK P B w0 ex) {ro rl:Option Nat} {id:Nat} {body:Code} {r:Exit×AFr×ASt} (hsr:SR B w0 ι st w) (hfr:FRA ι fr a) (hro:RO ι ro rl)
  (h:(match ex ro body fr st with
  | some (.exit i,fr',st')=>bif Nat.beq i id then some (.normal,fr',st') else some (.exit i,fr',st')
  | r=>r)=some r):(Code.block id body).wpIn (FF rl) 0 P (ExPost B w0 ι r) a w:=by
 refine wpIn_block ?_
 split at h
 ·rename_i i fr1 st1 h1
  refine wpIn_mono (hex ro body fr st _ h1 ι w a rl hsr hfr hro) fun e a' w' ⟨he,ι',h2,h3,h4⟩=>?_
  simp only at he;subst he
  simp only[Exit.inBlock]
  cases hb:Nat.beq i id
  ·simp only[hb,cond_false,Option.some.injEq] at h;subst h
   have hne:¬i=id:=by intro e;subst e;simp at hb
   simp only[hne,if_false]
   exact⟨rfl,ι',h2,h3,h4⟩
  ·simp only[hb,cond_true,Option.some.injEq] at h;subst h
   have he:=Nat.eq_of_beq_eq_true hb
   simp only[he,if_true]
   exact⟨rfl,ι',h2,h3,h4⟩
 ·rename_i r1 hne
  refine wpIn_mono (hex ro body fr st _ h ι w a rl hsr hfr hro) fun e a' w' hp=>?_
  have he:=hp.1
  cases e with
  | exit i =>
   exfalso
   obtain⟨e1,f1,s1⟩:=r
   simp only at he;subst he
   exact hne i f1 s1 h
  | _=>exact hp
theorem loop_at (hsr:SR B w0 ι st w) {l:Nat} {s:LoopState} {pe:Option Code} {tm:AFr} {ps:List Tmp} {as bo:Code} {de:Nat} {L:Loc} (hl:st.h.get l=some (.loop s pe tm ps as bo de))
  (hL:ι l=some L):∃r:Loop,w.heap[L.b]? = some (.loop r)∧r.state=s∧r.pending=pe∧FR ι tm r.tmps∧r.params.toList=ps∧r.assign=as∧r.body=bo∧∃D,ι de=some D∧D.b=r.defers:=by
 obtain⟨L',o,h1,h2,r,h3,h4⟩:=hsr.obj l _ hl (by simp)
 rw[hL] at h1;cases h1
 exact⟨r,by rw[h2,h3],h4⟩
theorem list_cons1 {v:AV} {caps:List AV} {x:Value} {cs':Array Value} (h1:VR ι v x) (h2:VRs ι caps cs'):VRs ι (v::caps) (#[x]++cs'):=by
 have:VRs ι [v] #[x]:=⟨rfl,fun i y y' hy hy'=>by
  cases i with
  | zero=>simp at hy hy';subst hy;subst hy';exact h1
  | succ i=>simp at hy⟩
 exact this.append h2
theorem res_range {g:Operand} {f:FuncId} {cs':Array Value} (l:Nat) (w:World) (hge:a.eval g=.func (.func f) #[] cs') :
  (resolve a.eval (rangeCall g l) 0).run P w=.ok {target:=.fn (.func f) cs',args:=#[.func (.yield l) #[] #[]]} w:=by
 have e:a.eval (.const (.func (.yield l) #[] #[]))=.func (.yield l) #[] #[]:=rfl
 simp only[resolve,hge,Deferred.ofValue,Sem.run_pure,List.map_toArray,List.map_cons,List.map_nil,e]
 rfl
theorem range_ok {ex:ExecT} {call:CallT} (hex:ExecOK P B w0 ex) (hc:CallOK P B w0 call) {ro rl:Option Nat} {g:Operand} {ps:Array Tmp} {as bo:Code} {r:Exit×AFr×ASt}
  (hsr:SR B w0 ι st w) (hfr:FRA ι fr a) (hro:RO ι ro rl) (h:rangeA call ex ro g ps as bo fr st=some r):(Code.rangeFunc g ps as bo).wpIn (FF rl) 0 P (ExPost B w0 ι r) a w:=by
 simp only[rangeA] at h
 split at h
 rotate_left
 ·simp at h
 rename_i f caps hg
 have hgv:=evA_ok hfr.hf hg
 generalize hge:a.eval g=gv at hgv
 cases hgv with
 | clos _ _ cs' hs hv =>
 -- the call and what is behind it,in whichever world
 have go:∀(de:Nat) (fr1:AFr) (st1:ASt) (ι1:Ren) (w1:World) (defs:List Deferred) (fn:FuncId) (D:Loc) (hle:ι.le ι1),SR B w0 ι1 st1 w1→FRA ι1 fr1 {a with defers:=defs}→ι1 de=some D →
   (match call f (.yield st1.next::caps) (st1.add (.loop .ready none fr ps.toList as bo de)) with
   | some (_,st2) =>
    match st2.h.get st1.next with
    | some (.loop s pe _ _ _ _ _) =>
     match s with
     | .busy=>none
     | _ =>
      match pe with
      | none=>some (.normal,fr1,st2.put st1.next .dead)
      | some c=>ex ro c fr1 (st2.put st1.next .dead)
    | _=>none
   | none=>none)=some r →
   ∃(w2:World),(callFunc f (#[.func (.yield w1.heap.size) #[] #[]]++cs')).run P (w1.alloc (.loop {state:=.ready,pending:=none,fn,tmps:=a.tmps,params:=ps,assign:=as,body:=bo,defers:=D.b}))=.ok (.enter f (#[.func (.yield w1.heap.size) #[] #[]]++cs')) w2 ∧
    CallsIn (FF rl) 0 P f (#[.func (.yield w1.heap.size) #[] #[]]++cs') w2 (rangePost (FF rl) 0 P w1.heap.size (ExPost B w0 ι r) {a with defers:=defs}):=by
  intro de fr1 st1 ι1 w1 defs fn D hle hsr1 hfr1 hD h
  let rec1:Loop:={state:=.ready,pending:=none,fn,tmps:=a.tmps,params:=ps,assign:=as,body:=bo,defers:=D.b}
  obtain⟨k1,k2,k3⟩:=hsr1.alloc (.loop .ready none fr ps.toList as bo de) (.loop rec1) 0 ⟨rec1,rfl,rfl,rfl,hfr.hf.mono hle,rfl,rfl,rfl,D,hD,rfl⟩
  split at h
  rotate_left
  ·simp at h
  rename_i v0 st2 hcall
  have hargs:=list_cons1 (ι:=ι1.ext st1.next ⟨w1.heap.size,0,0⟩) (.yield st1.next _ k3) ((⟨hs,hv⟩:VRs ι caps cs').mono (Ren.le_trans hle k2))
  obtain⟨c1,c2⟩:=hc f _ _ _ hcall _ _ _ k1 hargs
  ·refine⟨_,c1,(FF_calls (ro:=rl) c2).mono ?_⟩
   rintro e w3 ⟨x,ι3,rfl,hle3,hsr3,_⟩
   simp only at hsr3
   split at h
   rotate_left
   ·simp at h
   rename_i s pe tm2 ps2 as2 bo2 de2 hlp
   have hL3:=hle3 _ _ k3
   obtain⟨q,q1,q2,q3,q4,q5,q6,q7,D3,q8,q9⟩:=loop_at hsr3 hlp hL3
   have hnb:q.state≠.busy:=by
    rw[q2];intro e;subst e;simp at h
   have hend:=run_endLoop (P:=P) q1 hnb
   have hkill:SR B w0 ι3 (st2.put st1.next .dead) (w3.putObj w1.heap.size (.loop {q with state:=.exhausted})):=by
    have hw:=hsr3.write (a':=.loop .exhausted pe tm2 ps2 as2 bo2 de2) hlp rfl hL3 (o':=.loop {q with state:=.exhausted}) ⟨_,rfl,rfl,q3,q4,q5,q6,q7,D3,q8,q9⟩
    have hk:=hw.kill (put_get _ _ _)
    exact hk.congr (fun j=>put_put st2 st1.next _ _ j) rfl
   have hle':ι.le ι3:=Ren.le_trans hle (Ren.le_trans k2 hle3)
   refine⟨pe,w3.putObj w1.heap.size (.loop {q with state:=.exhausted}),?_,?_⟩
   ·rw[←q3];exact hend
   ·cases pe with
    | none =>
     have h':some (Exit.normal,fr1,st2.put st1.next .dead)=some r:=by
      cases s<;>first | exact h | (simp at h)
     simp only[Option.some.injEq] at h';subst h'
     exact⟨rfl,ι3,hle',hkill,hfr1.mono (Ren.le_trans k2 hle3)⟩
    | some c =>
     have h':ex ro c fr1 (st2.put st1.next .dead)=some r:=by
      cases s<;>first | exact h | (simp at h)
     exact wpIn_mono (hex ro c fr1 _ r h' ι3 _ _ rl hkill (hfr1.mono (Ren.le_trans k2 hle3)) (hro.mono hle')) fun e a' w' hp=>hp.le hle'
 refine wpIn_rangeFunc fun fn _=>?_
 cases ro with
 | none =>
  cases rl with
  | some _=>exact hro.elim
  | none =>
   obtain⟨k1,k2,k3⟩:=hsr.alloc .defd (.deferred (some [])) 0 rfl
   have hfr1:FRA (ι.ext st.next ⟨w.heap.size,0,0⟩) {fr with defs:=st.next::fr.defs} {a with defers:=[{target:=.collected w.heap.size,args:=#[]}]++a.defers} :=
    ⟨hfr.hf.mono k2,⟨_,k3,rfl⟩,hfr.hd.mono k2⟩
   obtain⟨w2,g1,g2⟩:=go st.next {fr with defs:=st.next::fr.defs} (st.add .defd) _ _ _ fn _ k2 k1 hfr1 k3 h
   refine⟨w.heap.size+1,[{target:=.collected w.heap.size,args:=#[]}],(w.alloc (.deferred (some []))).alloc (.loop {state:=.ready,pending:=none,fn,tmps:=a.tmps,params:=ps,assign:=as,body:=bo,defers:=w.heap.size}),
    {target:=.fn (.func f) cs',args:=#[.func (.yield (w.heap.size+1)) #[] #[]]},(w.alloc (.deferred (some []))).alloc (.loop {state:=.ready,pending:=none,fn,tmps:=a.tmps,params:=ps,assign:=as,body:=bo,defers:=w.heap.size}),
    f,#[.func (.yield (w.heap.size+1)) #[] #[]]++cs',w2,run_enterLoop_outer fn a.tmps ps as bo,?_,fun _ _=>FF_fn none _,?_,FF_depth none,?_⟩
   ·exact res_range _ _ hge
   ·simp only[invoke]
    have:(w.alloc (.deferred (some []))).heap.size=w.heap.size+1:=by simp
    rw[←this];exact g1
   ·have:(w.alloc (.deferred (some []))).heap.size=w.heap.size+1:=by simp
    rw[←this];exact g2
 | some l0 =>
  cases rl with
  | none=>exact hro.elim
  | some b0 =>
   dsimp only at h
   split at h
   ·rename_i s0 pe0 tm0 ps0 as0 bo0 de0 hl0
    obtain⟨L0,hL0,rfl⟩:=hro
    obtain⟨q,q1,q2,q3,q4,q5,q6,q7,D0,q8,q9⟩:=loop_at hsr hl0 hL0
    obtain⟨w2,g1,g2⟩:=go de0 fr st ι w a.defers fn D0 ι.le_refl hsr hfr q8 h
    refine⟨w.heap.size,[],w.alloc (.loop {state:=.ready,pending:=none,fn,tmps:=a.tmps,params:=ps,assign:=as,body:=bo,defers:=q.defers}),
     {target:=.fn (.func f) cs',args:=#[.func (.yield w.heap.size) #[] #[]]},w.alloc (.loop {state:=.ready,pending:=none,fn,tmps:=a.tmps,params:=ps,assign:=as,body:=bo,defers:=q.defers}),
     f,#[.func (.yield w.heap.size) #[] #[]]++cs',w2,run_enterLoop_inner q1 fn a.tmps ps as bo,?_,fun _ _=>FF_fn (some L0.b) _,?_,FF_depth (some L0.b),?_⟩
    ·exact res_range _ _ hge
    ·simp only[invoke]
     rw[q9] at g1;exact g1
    ·exact g2
   ·simp at h
theorem exLoop {ex:ExecT} (hex:ExecOK P B w0 ex) {ro rl:Option Nat} {body:Code} {r:Exit×AFr×ASt} (hsr:SR B w0 ι st w) (hfr:FRA ι fr a) (hro:RO ι ro rl) (d:Nat)
  (h:loopN (ex ro body) d fr st=some r) (hne:r.1≠.normal):(Code.loop body).wpIn (FF rl) 0 P (ExPost B w0 ι r) a w :=
 wpIn_loop_rounds (0+2 ^ d) (loop_ok hex d fr st r h ι w a 0 hsr hfr hro (fun hr=>absurd hr hne) (fun _ ι' _ _ h1 h2 h3=>⟨rfl,ι',h1,h2,h3⟩))
end
end
end Go.Ax
end
