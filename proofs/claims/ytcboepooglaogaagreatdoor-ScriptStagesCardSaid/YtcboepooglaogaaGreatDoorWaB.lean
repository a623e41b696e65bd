/-
  OWN WORK, A PART: an abstract machine for the program's text that the kernel can run, and the proof that it is sound: what it answers is what the program answers; contracts of functions by it. No condition.
-/
import Derived.Test.YtcboepooglaogaaGreatDoorWaA
import Derived.Laws.Tables
section
namespace Go.Ax
noncomputable section
open Go.RowKit
def aUn (op:UnOp) (x:AV):Option AV :=
 match x with
 | .int k n =>
  match op with
  | .neg=>some (.int k (wrapF k (0 - n)))
  | .xor=>match bitsF .xor k (if k.signed then -1 else k.max) n with | some r=>some (.int k r) | none=>none
  | _=>none
 | .bool b =>
  match op with
  | .not=>some (.bool (!b))
  | _=>none
 | _=>none
def asN (v:AV):Option Nat :=
 match v with
 | .int _ n=>match n with | .ofNat n=>some n | .negSucc _=>none
 | _=>none
def bytesL:List AV→Option (List Nat)
 | []=>some []
 | v::vs =>
  match v with
  | .int k n =>
   match k with
   | .u8 =>
    match n with
    | .ofNat n=>match bytesL vs with | some l=>some (n % 256::l) | none=>none
    | .negSucc _=>none
   | _=>none
  | _=>none
def ofBytes:List Nat→List AV
 | []=>[]
 | c::l=>.int .u8 (.ofNat c)::ofBytes l
def aConvert (E:Env) (src dst:TypeId) (x:AV) (st:ASt):Option (AV×ASt) :=
 match E.ty.get dst with
 | none=>none
 | some td =>
  match E.ty.get src with
  | none=>none
  | some ts =>
  match td.desc with
  | .int k=>match x with | .int _ n=>some (.int k (wrapF k n),st) | _=>none
  | .string =>
   match x with
   | .str l=>some (.str l,st)
   | .slice none _ _ =>
    match ts.desc with
    | .slice e=>match E.ty.get e with | some te=>(match te.desc with | .int .u8=>some (.str [],st) | _=>none) | none=>none
    | _=>none
   | .slice0 =>
    match ts.desc with
    | .slice e=>match E.ty.get e with | some te=>(match te.desc with | .int .u8=>some (.str [],st) | _=>none) | none=>none
    | _=>none
   | .slice (some (i,o)) n _ =>
    match ts.desc with
    | .slice e =>
     match E.ty.get e with
     | some te =>
      match te.desc with
      | .int .u8 =>
       match st.h.get i with
       | some (.cells cs _) =>
        match takeL cs o n with
        | some l=>match bytesL l with | some b=>some (.str b,st) | none=>none
        | none=>none
       | _=>none
      | _=>none
     | none=>none
    | _=>none
   | _=>none
  | .slice e =>
   match x with
   | .str l =>
    match ts.desc with
    | .string =>
     match E.ty.get e with
     | some te =>
      match te.desc with
      | .int .u8=>some (.slice (some (st.next,0)) l.length (.rest 1),st.add (.cells (ofBytes l) true))
      | _=>none
     | none=>none
    | _=>none
   | .slice (some (i,o)) n c =>
    match ts.desc with
    | .slice _ =>
     bif Nat.beq src dst then
      match E.ty.get e with
      | some te =>
       match te.desc with
       | .int .u8=>(match st.h.get i with | some (.cells _ true)=>some (.slice (some (i,o)) n c,st) | _=>none)
       | _=>none
      | none=>none
     else none
    | _=>none
   | _=>none
  | _=>none
def aNilCheck (x:AV):Option AV :=
 match x with
 | .ptr none=>none
 | .nilIface=>none
 | .nilFunc=>none
 | .any=>none
 | x=>some x
def aMakeIface (E:Env) (t:TypeId) (x:AV):Option AV :=
 match E.ty.get t with
 | some ti=>match ti.desc with | .interface _=>none | _=>some (.iface t x)
 | none=>none
def aAssert (E:Env) (x:AV) (asserted:TypeId) (ok:Bool):Option AV :=
 match E.ty.get asserted with
 | some ti =>
  match ti.desc with
  | .interface _=>none
  | _ =>
   match x with
   | .iface t v =>
    bif Nat.beq t asserted then some (bif ok then .tuple [v,.bool true] else v)
    else bif ok then (match ti.zero with | some z=>some (.tuple [z,.bool false]) | none=>none) else none
   | .nilIface=>bif ok then (match ti.zero with | some z=>some (.tuple [z,.bool false]) | none=>none) else none
   | _=>none
 | none=>none
def aExtract (x:AV) (i:Nat):Option AV :=
 match x with
 | .tuple vs=>vs[i]?
 | _=>none
section
variable {P:Program} {E:Env} {B:Prot} {w0:World} {ι:Ren} {st:ASt} {w:World}
theorem aUn_ok {op:UnOp} {x r:AV} {x':Value} (hx:VR ι x x') (h:aUn op x=some r):∃v,(Op.unary op x').run P w=.ok v w∧VR ι r v:=by
 cases hx with
 | int k n =>
  cases op<;>simp only[aUn,Option.some.injEq,reduceCtorEq] at h
  ·subst h;exact⟨.int k (k.wrap (0 - n)),by simp only[Op.unary,Op.intArith,Sem.run_pure],by rw[wrapF_eq];exact .int _ _⟩
  ·split at h
   ·rename_i q hq
    simp only[Option.some.injEq] at h;subst h
    exact⟨.int k q,by simp only[Op.unary];exact bitsF_ok hq w,.int _ _⟩
   ·simp at h
 | bool b =>
  cases op<;>simp only[aUn,Option.some.injEq,reduceCtorEq] at h
  subst h;exact⟨.bool (!b),by simp only[Op.unary,Sem.run_pure],.bool _⟩
 | _=>simp[aUn] at h
theorem bytesL_ok:∀(l:List AV) (b:List Nat) (r:List Value) (s:ByteArray),bytesL l=some b→VRs ι l r.toArray →
  ((forIn r s (fun c s=>(match c with | .int .u8 n=>(pure (ForInStep.yield (s.push (UInt8.ofNat n.toNat))):Sem (ForInStep ByteArray)) | _=>stuck "bytesToString: byte expected")):Sem ByteArray).run P w) =
   .ok ⟨s.data++(b.map UInt8.ofNat).toArray⟩ w
 | [],b,r,s,h,hv=>by
  simp[bytesL] at h;subst h
  have:r=[]:=by have:=hv.size;simp at this;exact List.length_eq_zero_iff.1 this.symm
  subst this
  simp
 | v::l,b,[],s,h,hv=>by have:=hv.size;simp at this
 | v::l,b,x::r,s,h,hv=>by
  have hx:=hv.at_ 0 v x rfl (by simp)
  have hv':VRs ι l r.toArray:=⟨by have:=hv.size;simp at this;simpa using this,fun j a c ha hc=>hv.at_ (j+1) a c (by simpa using ha) (by simpa using hc)⟩
  unfold bytesL at h
  split at h
  ·rename_i k n
   split at h
   ·split at h
    ·rename_i n
     split at h
     ·rename_i l' hl'
      simp only[Option.some.injEq] at h;subst h
      cases hx
      have ih:=bytesL_ok l l' r (s.push (UInt8.ofNat n)) hl' hv'
      simp only[List.forIn_cons,Sem.run_bind,Sem.run_pure,Result.andThen_ok]
      have e:(Int.ofNat n).toNat=n:=rfl
      rw[e]
      rw[ih]
      have e2:UInt8.ofNat (n % 256)=UInt8.ofNat n:=by
       apply UInt8.toNat_inj.1;simp
      simp[e2,ByteArray.push]
     ·simp at h
    ·simp at h
   ·simp at h
  ·simp at h
theorem bytesL_lt:∀(l:List AV) (b:List Nat),bytesL l=some b→∀x,x∈b→x<256
 | [],b,h=>by simp[bytesL] at h;subst h;simp
 | v::l,b,h=>by
  unfold bytesL at h
  split at h
  ·split at h
   ·split at h
    ·split at h
     ·rename_i l' hl'
      simp only[Option.some.injEq] at h;subst h
      intro x hx
      simp at hx
      rcases hx with rfl | hx
      ·omega
      ·exact bytesL_lt l l' hl' x hx
     ·simp at h
    ·simp at h
   ·simp at h
  ·simp at h
theorem ofBytes_ok:∀(l:List UInt8),ofBytes (l.map UInt8.toNat)=l.map (fun b=>AV.int .u8 (Int.ofNat b.toNat))
 | []=>rfl
 | c::l=>by simp[ofBytes,ofBytes_ok l]
theorem map_toNat_ofNat {b:List Nat} (h:∀x,x∈b→x<256):(b.map UInt8.ofNat).map UInt8.toNat=b:=by
 induction b with
 | nil=>rfl
 | cons x b ih =>
  have hx:=h x (by simp)
  simp only[List.map_cons,ih (fun y hy=>h y (by simp[hy]))]
  congr 1
  simp;omega
theorem aConvert_ok (hE:E.Ok P) (h:SR B w0 ι st w) {src dst:TypeId} {x:AV} {x':Value} {r:AV×ASt} (hx:VR ι x x') (hr:aConvert E src dst x st=some r) :
  Did P B w0 ι w (convert src dst x') r:=by
 simp only[aConvert] at hr
 split at hr
 ·simp at hr
 rename_i td htd
 split at hr
 ·simp at hr
 rename_i ts hts
 have hd:=(mkTI_ok (hE.ty _ _ htd)).run_und w
 have hs:=(mkTI_ok (hE.ty _ _ hts)).run_und w
 split at hr
 ·rename_i k hk
  rw[hk] at hd
  split at hr
  ·rename_i k' n
   cases hx
   simp only[Option.some.injEq] at hr;subst hr
   refine⟨ι,.int k (k.wrap n),w,?_,ι.le_refl,h,by rw[wrapF_eq];exact .int _ _⟩
   simp only[convert,Sem.run_bind,hs,hd,Result.andThen_ok]
   all_goals (cases ts.desc<;>rfl)
  ·simp at hr
 ·rename_i hk
  rw[hk] at hd
  have str_case:∀e te,ts.desc=.slice e→E.ty.get e=some te→te.desc=.int .u8→∀(b:List Nat),(∀z,z∈b→z<256)→∀y:Value,(∀s:ByteArray,y≠.string s)→(∀k n,y≠.int k n) →
    (Conv.bytesToString y).run P w=.ok (.string ⟨(b.map UInt8.ofNat).toArray⟩) w→r=(.str b,st)→(∃a l c,y=.slice a l c)→Did P B w0 ι w (convert src dst y) r:=by
   intro e te h1 h2 h3 b hb y hy1 hy2 hrun he hsl
   obtain⟨a,l,c,rfl⟩:=hsl
   rw[h1] at hs
   have hte:=(mkTI_ok (hE.ty _ _ h2)).run_und w
   rw[h3] at hte
   subst he
   refine⟨ι,.string ⟨(b.map UInt8.ofNat).toArray⟩,w,?_,ι.le_refl,h,.str _ _ (by simpa using map_toNat_ofNat hb)⟩
   simp only[convert,Sem.run_bind,hs,hd,hte,Result.andThen_ok,hrun]
  split at hr
  ·rename_i l
   cases hx with
   | str _ s hs' =>
    simp only[Option.some.injEq] at hr;subst hr
    refine⟨ι,.string s,w,?_,ι.le_refl,h,.str _ _ hs'⟩
    simp only[convert,Sem.run_bind,hs,hd,Result.andThen_ok]
    all_goals (cases ts.desc<;>rfl)
  ·cases hx
   split at hr
   ·rename_i e he
    split at hr
    ·rename_i te hte
     split at hr
     ·rename_i h8
      simp only[Option.some.injEq] at hr
      exact str_case e te he hte h8 [] (by simp) _ (by simp) (by simp) rfl hr.symm ⟨_,_,_,rfl⟩
     ·simp at hr
    ·simp at hr
   ·simp at hr
  ·cases hx with
   | slice0 a c =>
    split at hr
    ·rename_i e he
     split at hr
     ·rename_i te hte
      split at hr
      ·rename_i h8
       simp only[Option.some.injEq] at hr
       exact str_case e te he hte h8 [] (by simp) _ (by simp) (by simp) (by simp[Conv.bytesToString,loadCells,loadCellsFrom];rfl) hr.symm ⟨_,_,_,rfl⟩
      ·simp at hr
     ·simp at hr
    ·simp at hr
  ·rename_i i o n c
   cases hx with
   | slice _ _ _ c' L _ hL hc hl =>
    split at hr
    ·rename_i e he
     split at hr
     ·rename_i te hte
      split at hr
      ·rename_i h8
       split at hr
       ·rename_i cs rw hi
        split at hr
        ·rename_i l hl'
         split at hr
         ·rename_i b hb
          simp only[Option.some.injEq] at hr
          obtain⟨q,h1,h2,h3⟩:=h.loadCells (P:=P) hi hl' hL
          refine str_case e te he hte h8 b (bytesL_lt _ _ hb) _ (by simp) (by simp) ?_ hr.symm ⟨_,_,_,rfl⟩
          have h4:=bytesL_ok (P:=P) (w:=w) l b q.toList ByteArray.empty hb (by simpa using h2)
          simp only[Conv.bytesToString,Sem.run_bind,h1,Result.andThen_ok]
          rw[←Array.forIn_toList]
          have h5:∀z:ByteArray,(⟨ByteArray.empty.data++(b.map UInt8.ofNat).toArray⟩:ByteArray)=⟨(b.map UInt8.ofNat).toArray⟩:=fun _=>by
           show (⟨#[]++(b.map UInt8.ofNat).toArray⟩:ByteArray)=_
           rw[Array.empty_append]
          rw[h5 .empty] at h4
          have h6:∀(f g:Value→ByteArray→Sem (ForInStep ByteArray)),f=g→(forIn q.toList ByteArray.empty f:Sem ByteArray).run P w=.ok ⟨(b.map UInt8.ofNat).toArray⟩ w →
            ((forIn q.toList ByteArray.empty g:Sem ByteArray).run P w).andThen (fun s w'=>(pure (.string s):Sem Value).run P w')=.ok (.string ⟨(b.map UInt8.ofNat).toArray⟩) w:=by
           intro f g e he;subst e;rw[he];rfl
          refine h6 _ _ ?_ h4
          funext c s
          cases c<;>first | rfl | skip
          all_goals (rename_i k m;cases k<;>rfl)
         ·simp at hr
        ·simp at hr
       ·simp at hr
      ·simp at hr
     ·simp at hr
    ·simp at hr
  ·simp at hr
 ·rename_i e he
  rw[he] at hd
  split at hr
  ·rename_i l
   cases hx with
   | str _ s hs' =>
    split at hr
    rotate_left
    ·simp at hr
    rename_i hds
    rw[hds] at hs
    split at hr
    ·rename_i te hte
     split at hr
     ·rename_i h8
      simp only[Option.some.injEq] at hr;subst hr
      have hte':=(mkTI_ok (hE.ty _ _ hte)).run_und w
      rw[h8] at hte'
      have hlen:l.length=s.size:=by rw[←hs'];simp
      let q:=Question.appendCap s.size 0 e
      let cap:=q.cut (w.tape w.drawn q)
      have hcap:s.size≤cap:=by simp only[cap,q,Question.cut];omega
      let w1:World:={w with drawn:=w.drawn+1}
      have h1:SR B w0 ι st w1:=h.drawn _
      let row:Array Value:=(s.data.map fun b=>(.int .u8 b.toNat:Value))++Array.replicate (cap - s.size) (.int .u8 0)
      have hrow:row.size=cap:=by
       simp only[row,Array.size_append,Array.size_map,Array.size_replicate]
       have:s.data.size=s.size:=rfl
       omega
      obtain⟨h2,h3,h4⟩:=h1.alloc (.cells (ofBytes l) true) (.cells row e (cap,cap+1)) cap
       ⟨row,e,cap,cap+1,rfl,hrow,by
        have:(ofBytes l).length=l.length:=by rw[←hs',ofBytes_ok];simp
        simp only[Nat.zero_add,hrow];omega,by
        rw[←hs',ofBytes_ok];intro v hv;simp at hv;obtain⟨b,_,rfl⟩:=hv;rfl,by
        intro k v v' hv hv'
        rw[←hs',ofBytes_ok] at hv
        simp only[List.getElem?_map] at hv
        simp only[Nat.zero_add,row] at hv'
        cases hb:s.data.toList[k]? with
        | none=>rw[hb] at hv;simp at hv
        | some b =>
         rw[hb] at hv
         simp at hv;subst hv
         have hk:k<s.data.size:=by have:=(List.getElem?_eq_some_iff.1 hb).1;simpa using this
         rw[Array.getElem?_append_left (by simpa using hk)] at hv'
         have hb':s.data[k]? = some b:=by simpa using hb
         simp[hb'] at hv'
         subst hv'
         exact .int _ _,fun _=>.inr (by rw[hrow];exact Nat.le_refl _)⟩
      refine⟨_,.slice (some ⟨w.heap.size,0,none⟩) s.size cap,_,?_,h3,h2,?_⟩
      ·have hfz:(w1.alloc (.cells row e)).freeze ⟨w.heap.size,row.size,none⟩ 1=w1.alloc (.cells row e (cap,cap+1)):=by
        simp only[World.freeze,World.alloc]
        simp only[Nat.one_ne_zero,if_false]
        congr 1
        apply Array.ext_getElem?
        intro j
        have e1:w1.heap=w.heap:=rfl
        rw[Array.getElem?_modify]
        by_cases hj:w.heap.size=j
        ·subst hj;simp[e1,hrow]
        ·simp only[hj,if_false]
         rw[Array.getElem?_push,Array.getElem?_push,e1]
         have:¬j=w.heap.size:=fun e=>hj e.symm
         simp[this]
       have hq:q.forced=false:=rfl
       have hsh:(w1.alloc (.cells row e)).shape? w.heap.size=some (e,row.size):=by
        have:=heap_alloc_at w1 (.cells row e)
        have e1:w1.heap.size=w.heap.size:=rfl
        rw[e1] at this
        simp only[World.shape?,this]
       simp only[convert,Sem.run_bind,hs,hd,hte',Result.andThen_ok]
       have goal:(Conv.stringToBytes e s).run P w=.ok (.slice (some ⟨w.heap.size,0,none⟩) s.size cap) (w1.alloc (.cells row e (cap,cap+1))):=by
        simp only[Conv.stringToBytes,Sem.run_bind,run_choose]
        rw[show Question.forced (.appendCap s.size 0 e)=false from rfl]
        simp only[Bool.false_eq_true,if_false,Result.andThen_ok,newRow,Sem.run_bind,run_newObj,markStringish,run_shape,Sem.run_pure]
        show ((Sem.run P (match (w1.alloc (.cells row e)).shape? w.heap.size with | some (_,n)=>freeze {block:=w.heap.size,off:=n} 1 | x=>pure ()) (w1.alloc (.cells row e))).andThen fun a w' =>
         Result.ok (Value.slice (some ⟨w.heap.size,0,none⟩) s.size cap) w')=_
        rw[hsh]
        simp only[run_freeze,Result.andThen_ok]
        rw[hfz]
       exact goal
      ·show VR _ (AV.slice (some (st.next,0)) l.length (.rest 1)) _
       rw[hlen]
       refine VR.slice st.next 0 _ cap _ _ h4 ?_ (by omega)
       show 0+0+cap*1=cap
       omega
     ·simp at hr
    ·simp at hr
  ·rename_i i o n c
   cases hx with
   | slice _ _ _ c' L _ hL hc hl =>
    split at hr
    ·rename_i e0 he0
     rw[he0] at hs
     cases hb:Nat.beq src dst
     ·simp only[hb,cond_false,reduceCtorEq] at hr
     simp only[hb,cond_true] at hr
     have hsd:=Nat.eq_of_beq_eq_true hb
     split at hr
     ·rename_i te hte
      have hte':=(mkTI_ok (hE.ty _ _ hte)).run_und w
      split at hr
      ·rename_i h8
       rw[h8] at hte'
       split at hr
       ·rename_i cs hi
        simp only[Option.some.injEq] at hr;subst hr
        obtain⟨L',ob,h1,h2,c0,e1,lo,hi',g1,g2,g3,g4,g5,g6⟩:=h.obj i _ hi (by simp)
        rw[hL] at h1;cases h1
        rw[g1] at h2
        have hlt:L.b<w.heap.size:=(Array.getElem?_eq_some_iff.1 h2).1
        let fz:Nat×Nat:=if lo == hi' then (c0.size,c0.size+1) else (min lo c0.size,max hi' (c0.size+1))
        have hfz:w.freeze ⟨L.b,c0.size,none⟩ 1=setObjW w L.b (.cells c0 e1 fz):=by
         simp only[World.freeze,Nat.one_ne_zero,if_false,setObjW]
         congr 1
         apply Array.ext_getElem?
         intro j
         rw[Array.getElem?_modify,Array.getElem?_setIfInBounds]
         by_cases hj:L.b=j
         ·subst hj
          have e2:w.heap[L.b]=.cells c0 e1 (lo,hi'):=by simpa [hlt] using h2
          simp[hlt,e2,fz]
         ·simp[hj]
        have hw:=h.write (a':=.cells cs true) hi rfl hL (o':=.cells c0 e1 fz) ⟨c0,e1,fz.1,fz.2,rfl,g2,g3,g4,g5,fun _=>.inr (by
         have:=g6 rfl
         simp only[fz]
         split
         ·exact Nat.le_refl _
         ·rename_i hne
          rcases this with h | h
          ·exact absurd h.symm (by simpa using hne)
          ·simp only;omega)⟩
        refine⟨ι,_,_,?_,ι.le_refl,hw.congr (fun j=>(put_same st hi j).symm) rfl,.slice i o n c' L c hL hc hl⟩
        have hsh:w.shape? L.b=some (e1,c0.size):=by simp only[World.shape?,h2]
        have hbe:(src == dst)=true:=by simp[hsd]
        simp only[convert,Sem.run_bind,hs,hd,hte',Result.andThen_ok,hbe,markStringish,run_shape,hsh,run_freeze,Sem.run_pure,hfz]
       ·simp at hr
      ·simp at hr
     ·simp at hr
    ·simp at hr
  ·simp at hr
 ·simp at hr
theorem aNilCheck_ok {o:Oper} {ρ:Operand→Value} {xo:Operand} {x r:AV} (ho:o.op=.nilCheck xo) (hx:VR ι x (ρ xo)) (h:aNilCheck x=some r) :
  ∃v,(execOp ρ o).run P w=.ok (.value v) w∧VR ι r v:=by
 generalize hx':ρ xo=x' at hx
 cases hx<;>simp only[aNilCheck,Option.some.injEq,reduceCtorEq] at h<;>subst h
 case bool b=>exact⟨_,by simp only[execOp,ho,hx',Sem.run_pure],.bool b⟩
 case int k n=>exact⟨_,by simp only[execOp,ho,hx',Sem.run_pure],.int k n⟩
 case str l s hs=>exact⟨_,by simp only[execOp,ho,hx',Sem.run_pure],.str l s hs⟩
 case ptr i p L hL=>exact⟨_,by simp only[execOp,ho,hx',Sem.run_pure],.ptr i p L hL⟩
 case sliceN=>exact⟨_,by simp only[execOp,ho,hx',Sem.run_pure],.sliceN⟩
 case slice i p l c' L c h1 h2 h3=>exact⟨_,by simp only[execOp,ho,hx',Sem.run_pure],.slice i p l c' L c h1 h2 h3⟩
 case clos f cs cs' hs hv=>exact⟨_,by simp only[execOp,ho,hx',Sem.run_pure],.clos f cs cs' hs hv⟩
 case bound f fs cs fs' cs' hs hf hv hg=>exact⟨_,by simp only[execOp,ho,hx',Sem.run_pure],.bound f fs cs fs' cs' hs hf hv hg⟩
 case yield i L hL=>exact⟨_,by simp only[execOp,ho,hx',Sem.run_pure],.yield i L hL⟩
 case iface t v v' hv=>exact⟨_,by simp only[execOp,ho,hx',Sem.run_pure],.iface t v v' hv⟩
 case agg cs cs' hs hc hv=>exact⟨_,by simp only[execOp,ho,hx',Sem.run_pure],.agg cs cs' hs hc hv⟩
 case tuple cs cs' hs hv=>exact⟨_,by simp only[execOp,ho,hx',Sem.run_pure],.tuple cs cs' hs hv⟩
 case mapN=>exact⟨_,by simp only[execOp,ho,hx',Sem.run_pure],.mapN⟩
 case map i L hL=>exact⟨_,by simp only[execOp,ho,hx',Sem.run_pure],.map i L hL⟩
 case slice0 a c=>exact⟨_,by simp only[execOp,ho,hx',Sem.run_pure],.slice0 a c⟩
 case gptr g o=>exact⟨_,by simp only[execOp,ho,hx',Sem.run_pure],.gptr g o⟩
theorem aMakeIface_ok (hE:E.Ok P) {t:TypeId} {x r:AV} {x':Value} (hx:VR ι x x') (h:aMakeIface E t x=some r) :
  ∃v,(Instr.makeInterface t x').run P w=.ok v w∧VR ι r v:=by
 simp only[aMakeIface] at h
 split at h
 ·rename_i ti hti
  have hk:=(mkTI_ok (hE.ty _ _ hti)).run_und w
  split at h
  ·simp at h
  ·rename_i hne
   simp only[Option.some.injEq] at h;subst h
   refine⟨.iface t x',?_,.iface _ _ _ hx⟩
   simp only[Instr.makeInterface,Sem.run_bind,hk,Result.andThen_ok]
   cases hd:ti.desc<;>first | rfl | (exact absurd hd (hne _))
 ·simp at h
theorem tuple2 {a b:AV} {a' b':Value} (ha:VR ι a a') (hb:VR ι b b'):VR ι (.tuple [a,b]) (.tuple #[a',b']):=by
 refine .tuple _ _ rfl fun i v v' h h'=>?_
 match i with
 | 0=>simp at h h';subst h;subst h';exact ha
 | 1=>simp at h h';subst h;subst h';exact hb
 | i+2=>simp at h
theorem aAssert_ok (hE:E.Ok P) {x r:AV} {x':Value} {xt asserted:TypeId} {ok:Bool} (hx:VR ι x x') (h:aAssert E x asserted ok=some r) :
  ∃v,(Instr.typeAssert x' xt asserted ok).run P w=.ok v w∧VR ι r v:=by
 simp only[aAssert] at h
 split at h
 ·rename_i ti hti
  have hk:=(mkTI_ok (hE.ty _ _ hti)).run_und w
  split at h
  ·simp at h
  ·rename_i hne
   have fails:∀(a b:Option TypeId) (m:String),(bif ok then (match ti.zero with | some z=>some (AV.tuple [z,.bool false]) | none=>none) else none)=some r →
     ∃v,((do if ok then pure (.tuple #[←zeroValue asserted,.bool false]) else runtimePanic (.typeAssertion a b asserted m)):Sem Value).run P w=.ok v w∧VR ι r v:=by
    intro a b m h
    cases ok
    ·simp at h
    ·simp only[cond_true] at h
     split at h
     ·rename_i z hz
      simp only[Option.some.injEq] at h;subst h
      obtain⟨v,h1,h2⟩:=(mkTI_ok (hE.ty _ _ hti)).run_zero hz w
      exact⟨.tuple #[v,.bool false],by simp only[if_true,Sem.run_bind,h1,Result.andThen_ok,Sem.run_pure],tuple2 (h2 ι) (.bool _)⟩
     ·simp at h
   split at h
   ·rename_i t v
    cases hx with
    | iface _ _ v' hv =>
     cases hb:Nat.beq t asserted
     ·have hne2:¬t=asserted:=by intro e;subst e;simp at hb
      simp only[hb,cond_false] at h
      obtain⟨z,h1,h2⟩:=fails (some xt) (some t) "" h
      refine⟨z,?_,h2⟩
      simp only[Instr.typeAssert,Sem.run_bind,hk,Result.andThen_ok]
      cases hd:ti.desc<;>first
       | (simp only[hne2,if_false];exact h1)
       | (exact absurd hd (hne _))
     ·have he:=Nat.eq_of_beq_eq_true hb
      subst he
      simp only[hb,cond_true,Option.some.injEq] at h;subst h
      refine⟨if ok then .tuple #[v',.bool true] else v',?_,?_⟩
      ·simp only[Instr.typeAssert,Sem.run_bind,hk,Result.andThen_ok]
       cases hd:ti.desc<;>first
        | (simp only[if_true];rfl)
        | (exact absurd hd (hne _))
      ·cases ok
       ·exact hv
       ·exact tuple2 hv (.bool _)
   ·cases hx
    obtain⟨z,h1,h2⟩:=fails (some xt) none "" h
    refine⟨z,?_,h2⟩
    simp only[Instr.typeAssert,Sem.run_bind,hk,Result.andThen_ok]
    cases hd:ti.desc<;>first
     | exact h1
     | (exact absurd hd (hne _))
   ·simp at h
 ·simp at h
theorem aExtract_ok {x r:AV} {x':Value} {i:Nat} (hx:VR ι x x') (h:aExtract x i=some r):∃v,(Instr.extract x' i).run P w=.ok v w∧VR ι r v:=by
 cases hx with
 | tuple cs cs' hs hv =>
  simp only[aExtract] at h
  obtain⟨v,h1,h2⟩:=VRs.get ⟨hs,hv⟩ h
  exact⟨v,by simp only[Instr.extract,h1,Sem.run_pure],h2⟩
 | _=>simp[aExtract] at h
end
end
end Go.Ax
end

section
namespace Go.Ax
noncomputable section
open Go.RowKit
def optN:Option AV→Option (Option Nat)
 | none=>some none
 | some v=>match asN v with | some n=>some (some n) | none=>none
def OVR (ι:Ren):Option AV→Option Value→Prop
 | none,none=>True
 | some a,some v=>VR ι a v
 | _,_=>False
def aBounds (len cap:Nat) (lo hi mx:Option Nat):Option (Nat×Nat×Nat) :=
 match mx with
 | some m =>
  match hi with
  | some h =>
   let l:=match lo with | some l=>l | none=>0
   bif Nat.ble m cap then bif Nat.ble h m then bif Nat.ble l h then some (l,h,m) else none else none else none
  | none=>none
 | none =>
  let h:=match hi with | some h=>h | none=>len
  let l:=match lo with | some l=>l | none=>0
  bif (match hi with | some h=>Nat.ble h cap | none=>true) then bif (match lo with | some l=>Nat.ble l h | none=>true) then some (l,h,cap) else none else none
def aRoom (st:ASt) (i o z len:Nat):Nat :=
 match st.h.get i with
 | some (.cells cs _)=>bif Nat.beq z 0 then len else Nat.max len (Nat.div (Nat.sub cs.length o) z)
 | _=>len
def aSlice (E:Env) (t:TypeId) (x:AV) (lo hi mx:Option AV) (st:ASt):Option AV :=
 match E.ty.get t with
 | none=>none
 | some ti =>
  match optN lo with
  | none=>none
  | some lo =>
  match optN hi with
  | none=>none
  | some hi =>
  match optN mx with
  | none=>none
  | some mx =>
  match ti.desc with
  | .string =>
   match x with
   | .str s =>
    match mx with
    | some _=>none
    | none =>
     match aBounds s.length s.length lo hi none with
     | some (l,h,_)=>some (.str ((s.drop l).take (h - l)))
     | none=>none
   | _=>none
  | .array n e =>
   match x with
   | .ptr (some (i,o)) =>
    match aBounds n n lo hi mx with
    | some (l,h,m) =>
     match E.ty.get e with
     | some ei=>some (.slice (some (i,bif Nat.beq m l then o else o+l*ei.size)) (h - l) (.known (m - l)))
     | none=>none
    | none=>none
   | _=>none
  | .slice e =>
   match E.ty.get e with
   | none=>none
   | some ei =>
   match x with
   | .slice none len (.known c) =>
    match aBounds len c lo hi mx with
    | some (l,h,m)=>some (.slice none (h - l) (.known (m - l)))
    | none=>none
   | .slice (some (i,o)) len (.known c) =>
    match aBounds len c lo hi mx with
    | some (l,h,m)=>some (.slice (some (i,bif Nat.beq m l then o else o+l*ei.size)) (h - l) (.known (m - l)))
    | none=>none
   | .slice (some (i,o)) len (.rest z) =>
    bif Nat.beq z ei.size then
     let know:=aRoom st i o z len
     match aBounds len know lo hi mx with
     | some (l,h,m) =>
      match mx with
      | some _=>some (.slice (some (i,bif Nat.beq m l then o else o+l*ei.size)) (h - l) (.known (m - l)))
      | none =>
       bif Nat.blt l know then some (.slice (some (i,o+l*ei.size)) (h - l) (.rest z))
       else bif Nat.beq l 0 then some (.slice (some (i,o)) 0 (.rest z)) else some .slice0
     | none=>none
    else none
   | .slice (some (i,o)) len (.atl c) =>
    let know:=Nat.max len c
    match aBounds len know lo hi mx with
    | some (l,h,m) =>
     match mx with
     | some _=>some (.slice (some (i,bif Nat.beq m l then o else o+l*ei.size)) (h - l) (.known (m - l)))
     | none =>
      bif Nat.blt l know then some (.slice (some (i,o+l*ei.size)) (h - l) (.atl (know - l)))
      else bif Nat.beq l 0 then some (.slice (some (i,o)) 0 (.atl 0)) else some .slice0
    | none=>none
   | .slice0=>match aBounds 0 0 lo hi mx with | some _=>some .slice0 | none=>none
   | _=>none
  | _=>none
section
variable {P:Program} {E:Env} {B:Prot} {w0:World} {ι:Ren} {st:ASt} {w:World}
theorem asN_ok {a:AV} {v:Value} {n:Nat} (h:VR ι a v) (hn:asN a=some n):∃k,v=.int k (n:Int):=by
 cases h with
 | int k m =>
  cases m with
  | ofNat m=>simp[asN] at hn;subst hn;exact⟨k,rfl⟩
  | negSucc m=>simp[asN] at hn
 | _=>simp[asN] at hn
theorem optN_ok {a:Option AV} {v:Option Value} {n:Option Nat} (h:OVR ι a v) (hn:optN a=some n) :
  (n=none∧v=none)∨∃m k,n=some m∧v=some (.int k (m:Int)):=by
 cases a with
 | none =>
  cases v with
  | none=>simp[optN] at hn;exact .inl ⟨hn.symm,rfl⟩
  | some v=>exact h.elim
 | some a =>
  cases v with
  | none=>exact h.elim
  | some v =>
   simp only[optN] at hn
   split at hn
   ·rename_i m hm
    simp only[Option.some.injEq] at hn;subst hn
    obtain⟨k,hk⟩:=asN_ok h hm
    exact .inr ⟨m,k,rfl,by rw[hk]⟩
   ·simp at hn
theorem run_bound {k:IntKind} {n y:Nat} (h:n≤y) (code:BoundsCode):(Instr.sliceBound (.int k (n:Int)) y code).run P w=.ok n w:=by
 have h0:(0:Int)≤(n:Int)∧(n:Int)≤(y:Int):=⟨by omega,by omega⟩
 simp only[Instr.sliceBound,asIntOf,Sem.run_bind,Sem.run_pure,Result.andThen_ok,h0,and_self,if_true,Int.toNat_natCast]
theorem ble_le {a b:Nat} (h:Nat.ble a b=true):a≤b:=by rw[←Nat.ble_eq];exact h
theorem bounds_ok {isS:Bool} {len cap:Nat} {lo hi mx:Option Value} {lo' hi' mx':Option Nat} {l h m:Nat} (hb:aBounds len cap lo' hi' mx'=some (l,h,m))
  (hl:(lo'=none∧lo=none)∨∃q k,lo'=some q∧lo=some (.int k (q:Int))) (hh:(hi'=none∧hi=none)∨∃q k,hi'=some q∧hi=some (.int k (q:Int)))
  (hm:(mx'=none∧mx=none)∨∃q k,mx'=some q∧mx=some (.int k (q:Int))) (hle:len≤cap) (cap':Nat) (hcc:cap≤cap') :
  ∃m',(Instr.sliceBounds isS len cap' lo hi mx).run P w=.ok (l,h,m') w∧l≤h∧h≤m∧m≤cap∧(mx'=none→m=cap∧m'=cap')∧(mx'≠none→m'=m):=by
 rcases hm with⟨rfl,rfl⟩ | ⟨qm,km,rfl,rfl⟩
 ·simp only[aBounds] at hb
  rcases hh with⟨rfl,rfl⟩ | ⟨qh,kh,rfl,rfl⟩
  ·simp only[cond_true] at hb
   rcases hl with⟨rfl,rfl⟩ | ⟨ql,kl,rfl,rfl⟩
   ·simp only[cond_true,Option.some.injEq,Prod.mk.injEq] at hb
    obtain⟨rfl,rfl,rfl⟩:=hb
    exact⟨cap',by simp[Instr.sliceBounds],by omega,hle,Nat.le_refl _,fun _=>⟨rfl,rfl⟩,fun e=>absurd rfl e⟩
   ·cases h1:Nat.ble ql len
    ·simp only[h1,cond_false,reduceCtorEq] at hb
    ·simp only[h1,cond_true,Option.some.injEq,Prod.mk.injEq] at hb
     obtain⟨rfl,rfl,rfl⟩:=hb
     have:=ble_le h1
     exact⟨cap',by simp[Instr.sliceBounds,run_bound this],this,hle,Nat.le_refl _,fun _=>⟨rfl,rfl⟩,fun e=>absurd rfl e⟩
  ·cases h2:Nat.ble qh cap
   ·simp only[h2,cond_false,reduceCtorEq] at hb
   ·simp only[h2,cond_true] at hb
    have hqh:=ble_le h2
    rcases hl with⟨rfl,rfl⟩ | ⟨ql,kl,rfl,rfl⟩
    ·simp only[cond_true,Option.some.injEq,Prod.mk.injEq] at hb
     obtain⟨rfl,rfl,rfl⟩:=hb
     exact⟨cap',by simp[Instr.sliceBounds,run_bound (Nat.le_trans hqh hcc)],by omega,hqh,Nat.le_refl _,fun _=>⟨rfl,rfl⟩,fun e=>absurd rfl e⟩
    ·cases h1:Nat.ble ql qh
     ·simp only[h1,cond_false,reduceCtorEq] at hb
     ·simp only[h1,cond_true,Option.some.injEq,Prod.mk.injEq] at hb
      obtain⟨rfl,rfl,rfl⟩:=hb
      have:=ble_le h1
      exact⟨cap',by simp[Instr.sliceBounds,run_bound (Nat.le_trans hqh hcc),run_bound this],this,hqh,Nat.le_refl _,fun _=>⟨rfl,rfl⟩,fun e=>absurd rfl e⟩
 ·simp only[aBounds] at hb
  rcases hh with⟨rfl,rfl⟩ | ⟨qh,kh,rfl,rfl⟩
  ·simp at hb
  ·simp only at hb
   cases h3:Nat.ble qm cap
   ·simp only[h3,cond_false,reduceCtorEq] at hb
   ·simp only[h3,cond_true] at hb
    cases h2:Nat.ble qh qm
    ·simp only[h2,cond_false,reduceCtorEq] at hb
    ·simp only[h2,cond_true] at hb
     have hqm:=ble_le h3
     have hqh:=ble_le h2
     rcases hl with⟨rfl,rfl⟩ | ⟨ql,kl,rfl,rfl⟩
     ·have h1:Nat.ble 0 qh=true:=by cases qh<;>rfl
      simp only[h1,cond_true,Option.some.injEq,Prod.mk.injEq] at hb
      obtain⟨rfl,rfl,rfl⟩:=hb
      exact⟨qm,by simp[Instr.sliceBounds,run_bound (Nat.le_trans hqm hcc),run_bound hqh],by omega,hqh,hqm,fun e=>by simp at e,fun _=>rfl⟩
     ·cases h1:Nat.ble ql qh
      ·simp only[h1,cond_false,reduceCtorEq] at hb
      ·simp only[h1,cond_true,Option.some.injEq,Prod.mk.injEq] at hb
       obtain⟨rfl,rfl,rfl⟩:=hb
       have:=ble_le h1
       exact⟨qm,by simp[Instr.sliceBounds,run_bound (Nat.le_trans hqm hcc),run_bound hqh,run_bound this],this,hqh,hqm,fun e=>by simp at e,fun _=>rfl⟩
theorem addr_if (L:Loc) (o l s m:Nat):(if m=l then (⟨L.b,L.p+o,none⟩:Addr) else Addr.add ⟨L.b,L.p+o,none⟩ (l*s))=⟨L.b,L.p+(bif Nat.beq m l then o else o+l*s),none⟩:=by
 rw[beq_dec,add_none]
 by_cases h:m=l<;>simp[h,Nat.add_assoc]
theorem aRoom_ok (h:SR B w0 ι st w) {i o z len c':Nat} {L:Loc} (hL:ι i=some L) (hc:L.p+o+c' * z=L.tot) (hl:len≤c'):len≤aRoom st i o z len∧aRoom st i o z len≤c':=by
 simp only[aRoom]
 split
 ·rename_i cs rw hi
  cases hz:Nat.beq z 0
  ·simp only[cond_false]
   refine⟨Nat.le_max_left _ _,Nat.max_le.2 ⟨hl,?_⟩⟩
   obtain⟨L',ob,h1,h2,h3⟩:=h.obj i _ hi (by simp)
   rw[hL] at h1;cases h1
   obtain⟨c,e,lo,hi',g1,g2,g3,_⟩:=h3
   have hz0:0<z:=by
    rcases Nat.eq_zero_or_pos z with e | e
    ·subst e;simp at hz
    ·exact e
   show (cs.length - o) / z≤c'
   refine Nat.div_le_of_le_mul ?_
   rw[Nat.mul_comm];omega
  ·simp only[cond_true];exact⟨Nat.le_refl _,hl⟩
 ·exact⟨Nat.le_refl _,hl⟩
theorem aSlice_ok (hE:E.Ok P) (hsr:SR B w0 ι st w) {t:TypeId} {x r:AV} {x':Value} {lo hi mx:Option AV} {lo' hi' mx':Option Value} (hx:VR ι x x') (hl:OVR ι lo lo') (hh:OVR ι hi hi')
  (hm:OVR ι mx mx') (hr:aSlice E t x lo hi mx st=some r):∃v,(Instr.sliceAt t x' lo' hi' mx').run P w=.ok v w∧VR ι r v:=by
 simp only[aSlice] at hr
 split at hr
 ·simp at hr
 rename_i ti hti
 split at hr
 ·simp at hr
 rename_i nlo hnlo
 split at hr
 ·simp at hr
 rename_i nhi hnhi
 split at hr
 ·simp at hr
 rename_i nmx hnmx
 have hl':=optN_ok hl hnlo
 have hh':=optN_ok hh hnhi
 have hm':=optN_ok hm hnmx
 have hk:=(mkTI_ok (hE.ty _ _ hti)).run_und w
 split at hr
 ·rename_i hd
  rw[hd] at hk
  split at hr
  ·rename_i s
   cases hx with
   | str _ s' hs =>
    split at hr
    ·simp at hr
    ·rcases hm' with⟨_,hmn⟩ | ⟨q,k,hq,_⟩
     ·subst hmn
      split at hr
      ·rename_i l h m hb
       simp only[Option.some.injEq] at hr;subst hr
       have hsz:s.length=s'.size:=by rw[←hs];simp
       obtain⟨m',h1,h2,h3,h4,h5,h6⟩:=bounds_ok (P:=P) (w:=w) (isS:=false) (lo:=lo') (hi:=hi') (mx:=none) hb hl' hh' (.inl ⟨rfl,rfl⟩) (Nat.le_refl _) _ (Nat.le_refl _)
       rw[hsz] at h1
       refine⟨.string (s'.extract l h),?_,.str _ _ ?_⟩
       ·simp only[Instr.sliceAt,Sem.run_bind,hk,Result.andThen_ok,Instr.slice,Option.isSome_none,Bool.false_eq_true,if_false,h1,Sem.run_pure]
       ·rw[←hs,ByteArray.data_extract]
        simp[List.map_take,List.map_drop,List.extract_eq_take_drop]
      ·simp at hr
     ·simp at hq
  ·simp at hr
 ·rename_i n e hd
  rw[hd] at hk
  split at hr
  ·rename_i i o
   cases hx with
   | ptr _ _ L hL =>
    split at hr
    ·rename_i l h m hb
     split at hr
     ·rename_i ei hei
      simp only[Option.some.injEq] at hr;subst hr
      obtain⟨m',h1,h2,h3,h4,h5,h6⟩:=bounds_ok (P:=P) (w:=w) (isS:=false) (lo:=lo') (hi:=hi') (mx:=mx') hb hl' hh' hm' (Nat.le_refl _) _ (Nat.le_refl _)
      have em:m'=m:=by
           by_cases e:nmx=none
           ·have:=h5 e;omega
           ·exact h6 e
      rw[em] at h1
      have hs:=(mkTI_ok (hE.ty _ _ hei)).run_size w
      refine⟨.slice (some ⟨L.b,L.p+(bif Nat.beq m l then o else o+l*ei.size),none⟩) (h - l) (m - l),?_,.slice _ _ _ _ L _ hL rfl (by omega)⟩
      simp only[Instr.sliceAt,Sem.run_bind,hk,Result.andThen_ok,Instr.sureAddr,Sem.run_pure,h1,hs,addr_if]
     ·simp at hr
    ·simp at hr
  ·simp at hr
 ·rename_i e hd
  rw[hd] at hk
  split at hr
  ·simp at hr
  rename_i ei hei
  have hs:=(mkTI_ok (hE.ty _ _ hei)).run_size w
  split at hr
  ·rename_i len c
   cases hx
   split at hr
   ·rename_i l h m hb
    simp only[Option.some.injEq] at hr;subst hr
    obtain⟨m',h1,h2,h3,h4,h5,h6⟩:=bounds_ok (P:=P) (w:=w) (isS:=true) (lo:=lo') (hi:=hi') (mx:=mx') hb hl' hh' hm' (Nat.le_refl _) _ (Nat.le_refl _)
    have em:m'=0∧m=0:=by
     by_cases e:nmx=none
     ·have:=h5 e;omega
     ·have:=h6 e;omega
    have e1:h=0:=by omega
    have e2:l=0:=by omega
    obtain⟨rfl,rfl⟩:=em
    subst e1;subst e2
    refine⟨.slice none 0 0,?_,.sliceN⟩
    simp only[Instr.sliceAt,Sem.run_bind,hk,Result.andThen_ok,Instr.slice,h1,hs,Sem.run_pure,Option.map_none,ite_self,Nat.sub_self]
   ·simp at hr
  ·rename_i i o len c
   cases hx with
   | slice _ _ _ c' L _ hL hc hlen =>
    have hc:c=c':=hc
    subst hc
    split at hr
    ·rename_i l h m hb
     simp only[Option.some.injEq] at hr;subst hr
     obtain⟨m',h1,h2,h3,h4,h5,h6⟩:=bounds_ok (P:=P) (w:=w) (isS:=true) (lo:=lo') (hi:=hi') (mx:=mx') hb hl' hh' hm' hlen _ (Nat.le_refl _)
     have em:m'=m:=by
          by_cases e:nmx=none
          ·have:=h5 e;omega
          ·exact h6 e
     rw[em] at h1
     refine⟨.slice (some ⟨L.b,L.p+(bif Nat.beq m l then o else o+l*ei.size),none⟩) (h - l) (m - l),?_,.slice _ _ _ _ L _ hL rfl (by omega)⟩
     simp only[Instr.sliceAt,Sem.run_bind,hk,Result.andThen_ok,Instr.slice,h1,hs,Sem.run_pure,Option.map_some,←addr_if]
     congr 2
     split<;>rfl
    ·simp at hr
  ·rename_i i o len z
   cases hx with
   | slice _ _ _ c' L _ hL hc hlen =>
    have hc:L.p+o+c' * z=L.tot:=hc
    cases hz:Nat.beq z ei.size
    ·simp only[hz,cond_false,reduceCtorEq] at hr
    simp only[hz,cond_true] at hr
    have hz':=Nat.eq_of_beq_eq_true hz
    obtain⟨hk1,hk2⟩:=aRoom_ok hsr hL hc hlen
    generalize aRoom st i o z len=know at hr hk1 hk2
    split at hr
    ·rename_i l h m hb
     obtain⟨m',h1,h2,h3,h4,h5,h6⟩:=bounds_ok (P:=P) (w:=w) (isS:=true) (lo:=lo') (hi:=hi') (mx:=mx') hb hl' hh' hm' hk1 c' hk2
     have run:(Instr.sliceAt t (.slice (some ⟨L.b,L.p+o,none⟩) len c') lo' hi' mx').run P w =
       .ok (.slice (some ⟨L.b,L.p+(bif Nat.beq m' l then o else o+l*ei.size),none⟩) (h - l) (m' - l)) w:=by
      simp only[Instr.sliceAt,Sem.run_bind,hk,Result.andThen_ok,Instr.slice,h1,hs,Sem.run_pure,Option.map_some,←addr_if]
      congr 2
      split<;>rfl
     refine⟨_,run,?_⟩
     split at hr
     ·simp only[Option.some.injEq] at hr;subst hr
      have em:m'=m:=h6 (by simp)
      subst em
      exact .slice _ _ _ _ L _ hL rfl (by omega)
     ·have em:=h5 rfl
      obtain⟨em1,em2⟩:=em
      subst em2
      cases hlt:Nat.blt l know
      ·simp only[hlt,cond_false] at hr
       have hge:know≤l:=by
        have:¬l<know:=by intro e;rw[←Nat.blt_eq] at e;rw[e] at hlt;simp at hlt
        omega
       have e1:h - l=0:=by omega
       cases hl0:Nat.beq l 0
       ·simp only[hl0,cond_false,Option.some.injEq] at hr;subst hr
        rw[e1];exact .slice0 _ _
       ·simp only[hl0,cond_true,Option.some.injEq] at hr;subst hr
        have:=Nat.eq_of_beq_eq_true hl0
        subst this
        have e2:(bif Nat.beq m' 0 then o else o+0*ei.size)=o:=by cases Nat.beq m' 0<;>simp
        rw[e1,e2]
        exact .slice _ _ _ _ L _ hL hc (by omega)
      ·simp only[hlt,cond_true,Option.some.injEq] at hr;subst hr
       have hlt':l<know:=by rw[←Nat.blt_eq];exact hlt
       have e2:Nat.beq m' l=false:=by
        cases e:Nat.beq m' l
        ·rfl
        ·have:=Nat.eq_of_beq_eq_true e;omega
       rw[e2]
       simp only[cond_false]
       refine .slice _ _ _ _ L _ hL ?_ (by omega)
       show L.p+(o+l*ei.size)+(m' - l)*z=L.tot
       rw[hz'] at hc ⊢
       rw[←hc,Nat.sub_mul]
       have:l*ei.size≤m' * ei.size:=Nat.mul_le_mul_right _ (by omega)
       omega
    ·simp at hr
  ·rename_i i o len cc
   cases hx with
   | slice _ _ _ c' L _ hL hc hlen =>
    have hc:cc≤c':=hc
    have hk1:len≤Nat.max len cc:=Nat.le_max_left _ _
    have hk2:Nat.max len cc≤c':=Nat.max_le.2 ⟨hlen,hc⟩
    generalize Nat.max len cc=know at hr hk1 hk2
    split at hr
    ·rename_i l h m hb
     obtain⟨m',h1,h2,h3,h4,h5,h6⟩:=bounds_ok (P:=P) (w:=w) (isS:=true) (lo:=lo') (hi:=hi') (mx:=mx') hb hl' hh' hm' hk1 c' hk2
     have run:(Instr.sliceAt t (.slice (some ⟨L.b,L.p+o,none⟩) len c') lo' hi' mx').run P w =
       .ok (.slice (some ⟨L.b,L.p+(bif Nat.beq m' l then o else o+l*ei.size),none⟩) (h - l) (m' - l)) w:=by
      simp only[Instr.sliceAt,Sem.run_bind,hk,Result.andThen_ok,Instr.slice,h1,hs,Sem.run_pure,Option.map_some,←addr_if]
      congr 2
      split<;>rfl
     refine⟨_,run,?_⟩
     split at hr
     ·simp only[Option.some.injEq] at hr;subst hr
      have em:m'=m:=h6 (by simp)
      subst em
      exact .slice _ _ _ _ L _ hL rfl (by omega)
     ·have em:=h5 rfl
      obtain⟨em1,em2⟩:=em
      subst em2
      cases hlt:Nat.blt l know
      ·simp only[hlt,cond_false] at hr
       have hge:know≤l:=by
        have:¬l<know:=by intro e;rw[←Nat.blt_eq] at e;rw[e] at hlt;simp at hlt
        omega
       have e1:h - l=0:=by omega
       cases hl0:Nat.beq l 0
       ·simp only[hl0,cond_false,Option.some.injEq] at hr;subst hr
        rw[e1];exact .slice0 _ _
       ·simp only[hl0,cond_true,Option.some.injEq] at hr;subst hr
        have:=Nat.eq_of_beq_eq_true hl0
        subst this
        have e2:(bif Nat.beq m' 0 then o else o+0*ei.size)=o:=by cases Nat.beq m' 0<;>simp
        rw[e1,e2]
        exact .slice _ _ _ _ L _ hL (Nat.zero_le _) (by omega)
      ·simp only[hlt,cond_true,Option.some.injEq] at hr;subst hr
       have hlt':l<know:=by rw[←Nat.blt_eq];exact hlt
       have e2:Nat.beq m' l=false:=by
        cases e:Nat.beq m' l
        ·rfl
        ·have:=Nat.eq_of_beq_eq_true e;omega
       rw[e2]
       simp only[cond_false]
       exact .slice _ _ _ _ L _ hL (show _≤_ by omega) (by omega)
    ·simp at hr
  ·cases hx with
   | slice0 a0 c' =>
    split at hr
    ·rename_i b hb
     obtain⟨l,h,m⟩:=b
     simp only[Option.some.injEq] at hr;subst hr
     obtain⟨m',h1,h2,h3,h4,h5,h6⟩:=bounds_ok (P:=P) (w:=w) (isS:=true) (lo:=lo') (hi:=hi') (mx:=mx') hb hl' hh' hm' (Nat.le_refl 0) c' (Nat.zero_le _)
     have e1:h=0:=by omega
     have e2:l=0:=by omega
     subst e1;subst e2
     refine⟨.slice (some (if m'=0 then a0 else Addr.add a0 (0*ei.size))) 0 m',?_,.slice0 _ _⟩
     simp only[Instr.sliceAt,Sem.run_bind,hk,Result.andThen_ok,Instr.slice,h1,hs,Sem.run_pure,Option.map_some,Nat.sub_zero]
     congr 2
     split<;>rfl
    ·simp at hr
  ·simp at hr
 ·simp at hr
end
end
end Go.Ax
end

section
namespace Go.Ax
noncomputable section
open Go.RowKit
def repL (z:List AV):Nat→List AV
 | 0=>[]
 | n+1=>z++repL z n
theorem repL_len (z:List AV):∀n,(repL z n).length=n*z.length
 | 0=>by simp[repL]
 | n+1=>by simp[repL,repL_len z n,Nat.add_mul];omega
theorem repL_get (z:List AV):∀n i,i<n*z.length→(repL z n)[i]? = z[i % z.length]?
 | 0,i,h=>by omega
 | n+1,i,h=>by
  simp only[repL]
  by_cases hi:i<z.length
  ·rw[List.getElem?_append_left hi,Nat.mod_eq_of_lt hi]
  ·have hi':z.length≤i:=by omega
   rw[List.getElem?_append_right hi',repL_get z n (i - z.length) (by rw[Nat.add_mul] at h;omega)]
   congr 1
   rw[Nat.mod_eq_sub_mod hi']
theorem repL_cell {z:List AV} (hz:∀v,v∈z→v.isCell=true):∀n v,v∈repL z n→v.isCell=true
 | 0,v,h=>by simp[repL] at h
 | n+1,v,h=>by
  simp only[repL,List.mem_append] at h
  rcases h with h | h
  ·exact hz v h
  ·exact repL_cell hz n v h
theorem repL_VRs {ι:Ren} {z:List AV} {z':Array Value} (h:VRs ι z z') (n:Nat) :
  VRs ι (repL z n) ((Array.range (n*z'.size)).map (z'[· % z'.size]!)):=by
 refine⟨by rw[repL_len,h.size];simp,fun i v v' hv hv'=>?_⟩
 have hi:i<n*z.length:=by have:=(List.getElem?_eq_some_iff.1 hv).1;rw[repL_len] at this;exact this
 rw[repL_get z n i hi] at hv
 have hi':i<n*z'.size:=by rw[←h.size];exact hi
 simp[hi'] at hv'
 have hpos:0<z'.size:=by
  rcases Nat.eq_zero_or_pos z'.size with e | e
  ·rw[e] at hi';simp at hi'
  ·exact e
 have hm:i % z'.size<z'.size:=Nat.mod_lt _ hpos
 rw[getElem!_pos z' _ hm] at hv'
 rw[h.size] at hv
 exact h.at_ _ v v' hv (by rw[Array.getElem?_eq_getElem hm,hv'])
def aMake (E:Env) (t:TypeId) (len cap:AV) (st:ASt):Option (AV×ASt) :=
 match E.ty.get t with
 | none=>none
 | some ti =>
  match ti.desc with
  | .slice e =>
   match E.ty.get e with
   | none=>none
   | some ei =>
    match asN len with
    | none=>none
    | some l =>
     match asN cap with
     | none=>none
     | some c =>
      match ei.zero with
      | none=>none
      | some z =>
       bif Nat.ble (ei.bytes*c) 281474976710656 then
        bif Nat.ble l c then
         bif Nat.blt c 9223372036854775808 then
          match z with
          | .tuple _=>none
          | .any=>none
          | _=>bif Nat.beq (cellsOf z).length ei.size then some (.slice (some (st.next,0)) l (.known c),st.add (.cells (repL (cellsOf z) c) true)) else none
         else none
        else none
       else none
  | _=>none
def aFill (place:Nat→Option (Nat×Nat)) (cells:List AV):List (Nat×AV)→Option (List AV)
 | []=>some cells
 | (i,v)::rest =>
  match place i with
  | none=>none
  | some (off,size) =>
   match v with
   | .tuple _=>none
   | .any=>none
   | _ =>
    bif Nat.beq (cellsOf v).length size then
     bif Nat.beq size 0 then none else
     match setL cells off (cellsOf v) with
     | some cells'=>aFill place cells' rest
     | none=>none
    else none
def allTy (E:Env):List Field→Bool
 | []=>true
 | f::fs=>match E.ty.get f.type with | some _=>allTy E fs | none=>false
def placeOf (E:Env):Option Field→Option (Nat×Nat)
 | some f=>match E.ty.get f.type with | some fi=>some (f.offset,fi.size) | none=>none
 | none=>none
def aBuild (E:Env) (t:TypeId) (parts:List (Nat×AV)):Option AV :=
 match E.ty.get t with
 | none=>none
 | some ti =>
  match ti.zero with
  | some (.agg z) =>
   match ti.desc with
   | .struct fs =>
    bif allTy E fs.toList then
     match aFill (fun i=>placeOf E fs[i]?) z parts with
     | some cs=>some (.agg cs)
     | none=>none
    else none
   | .array _ e =>
    match E.ty.get e with
    | some ei =>
     match aFill (fun i=>some (i*ei.size,ei.size)) z parts with
     | some cs=>some (.agg cs)
     | none=>none
    | none=>none
   | _=>none
  | _=>none
def aBuildSlice (E:Env) (t:TypeId) (len:Nat) (parts:List (Nat×AV)) (st:ASt):Option (AV×ASt) :=
 match E.ty.get t with
 | none=>none
 | some ti =>
  match ti.desc with
  | .slice e =>
   match E.ty.get e with
   | none=>none
   | some ei =>
    match ei.zero with
    | none=>none
    | some z =>
     match z with
     | .tuple _=>none
     | .any=>none
     | _ =>
      bif Nat.beq (cellsOf z).length ei.size then
       bif Nat.ble (len*ei.size) 16777216 then
        match aFill (fun i=>some (i*ei.size,ei.size)) (repL (cellsOf z) len) parts with
        | some cs=>some (.slice (some (st.next,0)) len (.known len),st.add (.cells cs true))
        | none=>none
       else none
      else none
  | _=>none
section
variable {P:Program} {E:Env} {B:Prot} {w0:World} {ι:Ren} {st:ASt} {w:World}
theorem pow_vals:(2:Int) ^ 48=281474976710656∧(2:Nat) ^ 24=16777216:=by decide
theorem wrap64_small {n:Nat} (h:n<9223372036854775808):IntKind.i64.wrap (n:Int)=(n:Int):=by
 rw[←wrapF_eq]
 simp only[wrapF,modN,big,half]
 have e:n % 18446744073709551616=n:=Nat.mod_eq_of_lt (by omega)
 show (bif Nat.blt (n % 18446744073709551616) 9223372036854775808 then Int.ofNat (n % 18446744073709551616) else _)=_
 rw[e,blt_dec]
 simp[h]
theorem notTuple_cells {z:AV} (h:(∀vs,z≠.tuple vs)∧z≠.any):(∃l,z=.agg l)∨z.isCell=true:=by
 cases z<;>simp_all[AV.isCell]
theorem zero_cells (hE:E.Ok P) {e:TypeId} {ei:TI} {z:AV} (hei:E.ty.get e=some ei) (hz:ei.zero=some z) (hnt:(∀vs,z≠.tuple vs)∧z≠.any) (w:World) :
  ∃v,(zeroValue e).run P w=.ok v w∧(∀ι,VRs ι (cellsOf z) v.cells)∧∀x,x∈cellsOf z→x.isCell=true:=by
 obtain⟨v,h1,h2⟩:=(mkTI_ok (hE.ty _ _ hei)).run_zero hz w
 exact⟨v,h1,fun ι=>((h2 ι).cells (notTuple_cells hnt)).1,((h2 (fun _=>none)).cells (notTuple_cells hnt)).2⟩
theorem aMake_ok (hE:E.Ok P) (h:SR B w0 ι st w) {t:TypeId} {len cap:AV} {len' cap':Value} {r:AV×ASt} (hl:VR ι len len') (hc:VR ι cap cap')
  (hr:aMake E t len cap st=some r):Did P B w0 ι w (Instr.makeSlice t len' cap') r:=by
 simp only[aMake] at hr
 split at hr
 ·simp at hr
 rename_i ti hti
 have hk:=(mkTI_ok (hE.ty _ _ hti)).run_und w
 split at hr
 ·rename_i e hd
  rw[hd] at hk
  split at hr
  ·simp at hr
  rename_i ei hei
  split at hr
  ·simp at hr
  rename_i l hl'
  split at hr
  ·simp at hr
  rename_i c hc'
  split at hr
  ·simp at hr
  rename_i z hz
  obtain⟨kl,rfl⟩:=asN_ok hl hl'
  obtain⟨kc,rfl⟩:=asN_ok hc hc'
  cases h1:Nat.ble (ei.bytes*c) 281474976710656
  ·simp only[h1,cond_false,reduceCtorEq] at hr
  cases h2:Nat.ble l c
  ·simp only[h1,h2,cond_true,cond_false,reduceCtorEq] at hr
  cases h3:Nat.blt c 9223372036854775808
  ·simp only[h1,h2,h3,cond_true,cond_false,reduceCtorEq] at hr
  simp only[h1,h2,h3,cond_true] at hr
  have g1:=ble_le h1
  have g2:=ble_le h2
  have g3:c<9223372036854775808:=by rw[←Nat.blt_eq];exact h3
  have fin:((∀vs,z≠.tuple vs)∧z≠.any)→(bif Nat.beq (cellsOf z).length ei.size then some (AV.slice (some (st.next,0)) l (.known c),st.add (.cells (repL (cellsOf z) c) true)) else none)=some r →
    Did P B w0 ι w (Instr.makeSlice t (.int kl (l:Int)) (.int kc (c:Int))) r:=by
   intro hnt hr
   cases hb:Nat.beq (cellsOf z).length ei.size
   ·simp only[hb,cond_false,reduceCtorEq] at hr
   simp only[hb,cond_true,Option.some.injEq] at hr
   have hsz:=Nat.eq_of_beq_eq_true hb
   obtain⟨v,hv1,hv2,hv3⟩:=zero_cells hE hei hz hnt w
   obtain⟨i,hi1,hi2,hi3⟩:=(mkTI_ok (hE.ty _ _ hei)).run_info w
   have hvs:v.cells.size=ei.size:=by rw[←(hv2 ι).size,hsz]
   let zr:Array Value:=if c*ei.size=0 then #[] else v.cells
   have hrow:((Array.range (c*ei.size)).map (zr[· % zr.size]!))=((Array.range (c*v.cells.size)).map (v.cells[· % v.cells.size]!)):=by
    rw[hvs]
    by_cases h0:c*ei.size=0
    ·rw[h0];simp
    ·simp only[zr,h0,if_false,hvs]
   obtain⟨ι',q1,q2,q3,q4⟩:=newRow_ok (P:=P) h e (repL_VRs (hv2 ι) c) (repL_cell hv3 c)
   subst hr
   refine⟨ι',.slice (some ⟨w.heap.size,0,none⟩) l c,_,?_,q2,q3,?_⟩
   ·have w1:=wrap64_small g3
    have w2:IntKind.i64.wrap (l:Int)=(l:Int):=wrap64_small (by omega)
    have hb1:((i.bytes:Int)*(c:Int) > 281474976710656)=False:=by
     rw[hi2];have:((ei.bytes*c:Nat):Int)=(ei.bytes:Int)*(c:Int):=by simp
     rw[←this];simp;omega
    have hs:=(mkTI_ok (hE.ty _ _ hei)).run_size w
    have hlt0:¬((c:Int)<0):=by omega
    have hlt1:¬((l:Int)<0):=by omega
    have hlt2:¬((l:Int) > (c:Int)):=by omega
    by_cases h0:c*ei.size=0
    ·simp only[zr,h0,if_true] at hrow
     rw[←hrow] at q1 ⊢
     simp only[Instr.makeSlice,asInt,asIntOf,Sem.run_bind,hk,Sem.run_pure,Result.andThen_ok,hi1,w1,w2,pow_vals.1,hb1,decide_false,Bool.or_false,hlt0,hlt1,hlt2,Bool.false_eq_true,
      if_false,run_askRoom,hs,Int.toNat_natCast,h0,if_true,q1]
    ·simp only[zr,h0,if_false] at hrow
     rw[←hrow] at q1 ⊢
     simp only[Instr.makeSlice,asInt,asIntOf,Sem.run_bind,hk,Sem.run_pure,Result.andThen_ok,hi1,w1,w2,pow_vals.1,hb1,decide_false,Bool.or_false,hlt0,hlt1,hlt2,Bool.false_eq_true,
      if_false,run_askRoom,hs,Int.toNat_natCast,h0,hv1,q1]
   ·exact .slice _ _ _ _ _ _ q4 rfl g2
  cases z<;>first | (simp at hr;done) | exact fin ⟨by simp,by simp⟩ hr
 ·simp at hr
theorem foldl_set (off:Nat):∀(vs:List Value) (k:Nat) (cells:Array Value) (i:Nat),off+k+vs.length≤cells.size →
  ((vs.zipIdx k).foldl (fun (cs:Array Value) (c:Value×Nat)=>cs.setIfInBounds (off+c.2) c.1) cells)[i]? =
   if off+k≤i∧i<off+k+vs.length then vs[i - (off+k)]? else cells[i]?
 | [],k,cells,i,h=>by simp;omega
 | v::vs,k,cells,i,h=>by
  simp only[List.zipIdx_cons,List.foldl_cons]
  rw[foldl_set off vs (k+1) (cells.setIfInBounds (off+k) v) i (by simp at h ⊢;omega)]
  simp only[List.length_cons] at h ⊢
  by_cases h1:off+(k+1)≤i∧i<off+(k+1)+vs.length
  ·have h2:off+k≤i∧i<off+k+(vs.length+1):=by omega
   simp only[h1,h2,and_self,if_true]
   have:i - (off+k)=(i - (off+(k+1)))+1:=by omega
   rw[this,List.getElem?_cons_succ]
  ·simp only[h1,if_false]
   rw[Array.getElem?_setIfInBounds]
   by_cases h3:off+k=i
   ·subst h3
    have:off+k<cells.size:=by omega
    simp[this]
   ·have h4:¬(off+k≤i∧i<off+k+(vs.length+1)):=by omega
    simp[h3,h4]
theorem foldl_set_size (off:Nat):∀(vs:List (Value×Nat)) (cells:Array Value),(vs.foldl (fun (cs:Array Value) (c:Value×Nat)=>cs.setIfInBounds (off+c.2) c.1) cells).size=cells.size
 | [],cells=>rfl
 | v::vs,cells=>by simp only[List.foldl_cons];rw[foldl_set_size off vs];simp
theorem setL_get:∀(vs cs cs':List AV) (o:Nat),setL cs o vs=some cs'→(∀i,cs'[i]? = if o≤i∧i<o+vs.length then vs[i - o]? else cs[i]?)∧cs'.length=cs.length∧(vs≠[]→o+vs.length≤cs.length)
 | [],cs,cs',o,h=>by
  rw[setL_nil] at h;cases h
  exact⟨fun i=>by simp;omega,rfl,fun h=>absurd rfl h⟩
 | v::vs,cs,cs',o,h=>by
  obtain⟨h1,h2⟩:=setL_cons _ _ _ _ _ h
  obtain⟨h3,h4,h5⟩:=setL_get vs _ _ _ h2
  refine⟨fun i=>?_,by rw[h4];simp,fun _=>?_⟩
  ·rw[h3 i]
   simp only[List.length_cons]
   by_cases c1:o+1≤i∧i<o+1+vs.length
   ·have c2:o≤i∧i<o+(vs.length+1):=by omega
    simp only[c1,c2,and_self,if_true]
    have:i - o=(i - (o+1))+1:=by omega
    rw[this,List.getElem?_cons_succ]
   ·simp only[c1,if_false]
    rw[List.getElem?_set]
    by_cases c3:o=i
    ·subst c3;simp[h1]
    ·have c4:¬(o≤i∧i<o+(vs.length+1)):=by omega
     simp[c3,c4]
  ·by_cases hn:vs=[]
   ·subst hn;simp;omega
   ·have:=h5 hn;simp at this ⊢;omega
theorem aFill_ok {place place':Nat→Option (Nat×Nat)} (hp:∀i x,place i=some x→place' i=some x) :
  ∀(parts:List (Nat×AV)) (parts':List (Nat×Value)) (cells cs:List AV) (cells':Array Value),parts.map (·.1)=parts'.map (·.1) →
   (∀(k:Nat) p p',parts[k]? = some p→parts'[k]? = some p'→VR ι p.2 p'.2)→VRs ι cells cells'→(∀v,v∈cells→v.isCell=true) →
   aFill place cells parts=some cs→∃cs',Instr.fill place' cells' parts'=some cs'∧VRs ι cs cs'∧∀v,v∈cs→v.isCell=true
 | [],parts',cells,cs,cells',hm,hv,hc,hcc,h=>by
  simp[aFill] at h;subst h
  have:parts'=[]:=by simpa using hm.symm
  subst this
  exact⟨cells',rfl,hc,hcc⟩
 | (i,v)::rest,[],cells,cs,cells',hm,hv,hc,hcc,h=>by simp at hm
 | (i,v)::rest,(i',v')::rest',cells,cs,cells',hm,hv,hc,hcc,h=>by
  simp at hm
  obtain⟨rfl,hm⟩:=hm
  have hvv:VR ι v v':=hv 0 _ _ rfl rfl
  simp only[aFill] at h
  split at h
  ·simp at h
  rename_i off size hpl
  have fin:((∃l,v=.agg l)∨v.isCell=true)→(bif Nat.beq (cellsOf v).length size then
     bif Nat.beq size 0 then none else
     match setL cells off (cellsOf v) with
     | some cells'=>aFill place cells' rest
     | none=>none
    else none)=some cs→∃cs',Instr.fill place' cells' ((i,v')::rest')=some cs'∧VRs ι cs cs'∧∀v,v∈cs→v.isCell=true:=by
   intro hcell h
   obtain⟨g1,g2⟩:=hvv.cells hcell
   cases hb:Nat.beq (cellsOf v).length size
   ·simp only[hb,cond_false,reduceCtorEq] at h
   simp only[hb,cond_true] at h
   have hsz:=Nat.eq_of_beq_eq_true hb
   have hs0:Nat.beq size 0=false:=by
    cases hs0:Nat.beq size 0
    ·rfl
    ·simp only[hs0,cond_true,reduceCtorEq] at h
   simp only[hs0,cond_false] at h
   have hne0:size≠0:=by intro e;rw[e] at hs0;simp at hs0
   split at h
   ·rename_i cells1 hset
    obtain⟨s1,s2,s3⟩:=setL_get _ _ _ _ hset
    have hvsz:v'.cells.size=size:=by rw[←g1.size,hsz]
    by_cases hbound:off+v'.cells.size≤cells'.size
    ·have hnew:VRs ι cells1 (v'.cells.zipIdx.foldl (fun cs (c,j)=>cs.setIfInBounds (off+j) c) cells'):=by
      refine⟨?_,fun k x x' hx hx'=>?_⟩
      ·rw[s2,hc.size,←Array.foldl_toList]
       have:=foldl_set_size off v'.cells.zipIdx.toList cells'
       exact this.symm
      ·rw[s1 k] at hx
       rw[←Array.foldl_toList] at hx'
       have e:v'.cells.zipIdx.toList=v'.cells.toList.zipIdx 0:=by simp
       rw[e] at hx'
       have:=foldl_set off v'.cells.toList 0 cells' k (by simpa using hbound)
       have hx'':(if off+0≤k∧k<off+0+v'.cells.toList.length then v'.cells.toList[k - (off+0)]? else cells'[k]?)=some x':=by rw[←this];exact hx'
       simp only[Nat.add_zero,Array.length_toList] at hx''
       rw[g1.size] at hx
       by_cases hcond:off≤k∧k<off+v'.cells.size
       ·simp only[hcond,and_self,if_true] at hx hx''
        exact g1.at_ _ x x' hx (by simpa using hx'')
       ·simp only[hcond,if_false] at hx hx''
        exact hc.at_ k x x' hx hx''
     have hcc1:∀x,x∈cells1→x.isCell=true:=by
      intro x hx
      obtain⟨k,hk,e⟩:=List.getElem_of_mem hx
      have:=s1 k
      rw[List.getElem?_eq_getElem hk,e] at this
      split at this
      ·exact g2 x (List.mem_of_getElem? this.symm)
      ·exact hcc x (List.mem_of_getElem? this.symm)
     obtain⟨cs',f1,f2,f3⟩:=aFill_ok hp rest rest' cells1 cs _ hm (fun k p p' a b=>hv (k+1) p p' (by simpa using a) (by simpa using b)) hnew hcc1 h
     refine⟨cs',?_,f2,f3⟩
     simp only[Instr.fill,hp _ _ hpl]
     have c1:¬(v'.cells.size≠size || off+v'.cells.size > cells'.size)=true:=by simp[hvsz];omega
     simp only[c1]
     exact f1
    ·exfalso
     apply hbound
     have hn:cellsOf v≠[]:=by intro e;rw[e] at hsz;simp at hsz;omega
     have:=s3 hn
     rw[hc.size,g1.size] at this;exact this
   ·simp at h
  cases v<;>first | (simp at h;done) | exact fin (.inr rfl) h | exact fin (.inl ⟨_,rfl⟩) h
end
end
end Go.Ax
end

section
namespace Go.Ax
noncomputable section
open Go.RowKit
def aLen (x:AV):Option Nat :=
 match x with
 | .slice _ n _=>some n
 | .slice0=>some 0
 | .str s=>some s.length
 | _=>none
def aFirst (st:ASt) (esz n:Nat) (x:AV):Option (List AV) :=
 match x with
 | .slice none _ _=>bif Nat.beq n 0 then some [] else none
 | .slice (some (i,o)) _ _ =>
  match st.h.get i with
  | some (.cells cs _)=>takeL cs o (n*esz)
  | _=>none
 | .slice0=>bif Nat.beq n 0 then some [] else none
 | .str s=>bif Nat.beq esz 1 then some (ofBytes (s.take n)) else none
 | _=>none
def inRoom (st:ASt) (i k e:Nat):Bool :=
 match st.h.get i with
 | some (.cells cs true)=>bif Nat.ble k cs.length then Nat.blt 0 e else false
 | _=>false
def aAppendTo (ei:TI) (st:ASt) (s:AV) (n:Nat) (new:List AV):Option (AV×ASt) :=
 match s with
 | .slice none _ (.known _) =>
  bif Nat.beq n 0 then some (s,st)
  else bif Nat.ble ((2*n+200)*ei.bytes) 281474976710656 then
   bif Nat.blt n 4611686018427387904 then some (.slice (some (st.next,0)) n (.rest ei.size),st.add (.cells new true)) else none
  else none
 | .slice (some (i,o)) l (.known c) =>
  bif Nat.ble (l+n) c then
   bif Nat.beq n 0 then some (s,st)
   else
    match st.h.get i with
    | some (.cells cs true) =>
     match setL cs (o+l*ei.size) new with
     | some cs'=>some (.slice (some (i,o)) (l+n) (.known c),st.put i (.cells cs' true))
     | none=>none
    | _=>none
  else bif Nat.ble ((2*(l+n)+200)*ei.bytes) 281474976710656 then
   bif Nat.blt (l+n) 4611686018427387904 then
    match aFirst st ei.size l s with
    | some old=>some (.slice (some (st.next,0)) (l+n) (.rest ei.size),st.add (.cells (old++new) true))
    | none=>none
   else none
  else none
 | .slice (some (i,o)) l (.rest zz) =>
  bif Nat.beq n 0 then some (s,st)
  else bif Nat.beq zz ei.size then
   bif inRoom st i (o+(l+n)*ei.size) ei.size then
    match st.h.get i with
    | some (.cells cs true) =>
     match setL cs (o+l*ei.size) new with
     | some cs'=>some (.slice (some (i,o)) (l+n) (.rest zz),st.put i (.cells cs' true))
     | none=>none
    | _=>none
   else bif Nat.ble ((2*(l+n)+200)*ei.bytes) 281474976710656 then
    bif Nat.blt (l+n) 4611686018427387904 then
     match st.h.get i with
     | some (.cells cs true) =>
      match takeL cs o (l*ei.size) with
      | some old=>some (.slice (some (st.next,0)) (l+n) (.rest ei.size),(st.put i .dead).add (.cells (old++new) true))
      | none=>none
     | _=>none
    else none
   else none
  else none
 | _=>none
def isIntD:TypeDesc→Bool
 | .int _=>true
 | _=>false
def aAppend (E:Env) (sT xT:TypeId) (s x:AV) (st:ASt):Option (AV×ASt) :=
 match E.ty.get sT with
 | none=>none
 | some ti =>
  match E.ty.get xT with
  | none=>none
  | some tx =>
   bif isIntD tx.desc then none else
   match ti.desc with
   | .slice e =>
    match E.ty.get e with
    | none=>none
    | some ei =>
     match ei.zero with
     | none=>none
     | some z =>
      match z with
      | .tuple _=>none
      | .any=>none
      | _ =>
       bif Nat.beq (cellsOf z).length ei.size then
        match aLen x with
        | none=>none
        | some n =>
         match aFirst st ei.size n x with
         | none=>none
         | some new=>aAppendTo ei st s n new
       else none
   | _=>none
section
variable {P:Program} {E:Env} {B:Prot} {w0:World} {ι:Ren} {st:ASt} {w:World}
theorem growBy_le (n:Nat):∀(r c:Nat),c≤n+n / 4+192→Builtin.growBy n r c≤n+n / 4+192
 | 0,c,h=>h
 | r+1,c,h=>by
  simp only[Builtin.growBy]
  split
  ·exact h
  ·exact growBy_le n r _ (by omega)
theorem nextcap_le {n c:Nat} (h:c<n):Builtin.nextslicecap n c≤2*n+200:=by
 unfold Builtin.nextslicecap
 split
 ·omega
 ·split
  ·omega
  ·have:=growBy_le n 4 c (by omega);omega
theorem aLen_ok {x:AV} {x':Value} {n:Nat} (hx:VR ι x x') (h:aLen x=some n):(Builtin.lenOf x').run P w=.ok n w:=by
 cases hx with
 | str l s hs=>simp[aLen] at h;subst h;simp[Builtin.lenOf];rw[←hs];simp
 | sliceN=>simp[aLen] at h;subst h;rfl
 | slice i o l c' L c h1 h2 h3=>simp[aLen] at h;subst h;rfl
 | slice0 a c=>simp[aLen] at h;subst h;rfl
 | _=>simp[aLen] at h
theorem aFirst_ok (h:SR B w0 ι st w) {x:AV} {x':Value} {esz n:Nat} {l:List AV} (hx:VR ι x x') (hf:aFirst st esz n x=some l):∃r,(Builtin.firstCells esz n x').run P w=.ok r w∧VRs ι l r∧∀v,v∈l→v.isCell=true:=by
 cases hx with
 | str m s hs =>
  simp only[aFirst] at hf
  cases h1:Nat.beq esz 1
  ·simp only[h1,cond_false,reduceCtorEq] at hf
  simp only[h1,cond_true,Option.some.injEq] at hf;subst hf
  have e:(m.take n)=((s.extract 0 n).data.toList).map UInt8.toNat:=by
   rw[ByteArray.data_extract];simp[←hs,List.map_take]
  refine⟨(s.extract 0 n).data.map fun b=>.int .u8 b.toNat,by simp[Builtin.firstCells],?_,?_⟩
  ·rw[e,ofBytes_ok]
   refine⟨by simp,fun i v v' hv hv'=>?_⟩
   simp only[List.getElem?_map,Array.getElem?_map,Array.getElem?_toList] at hv hv'
   cases hb:(s.extract 0 n).data[i]? with
   | none=>rw[hb] at hv;simp at hv
   | some b=>rw[hb] at hv hv';simp at hv hv';subst hv;subst hv';exact .int _ _
  ·rw[e,ofBytes_ok];intro v hv;obtain⟨b,_,rfl⟩:=List.mem_map.1 hv;rfl
 | sliceN =>
  simp only[aFirst] at hf
  cases hn:Nat.beq n 0
  ·simp only[hn,cond_false,reduceCtorEq] at hf
  ·simp only[hn,cond_true,Option.some.injEq] at hf;subst hf
   exact⟨#[],rfl,⟨rfl,fun i v v' hv=>by simp at hv⟩,by simp⟩
 | slice i o m c' L c hL h2 h3 =>
  simp only[aFirst] at hf
  split at hf
  ·rename_i cs rw hi
   obtain⟨r,h4,h5,h6⟩:=h.loadCells (P:=P) hi hf hL
   exact⟨r,by simp only[Builtin.firstCells];exact h4,h5,h6⟩
  ·simp at hf
 | slice0 a c =>
  simp only[aFirst] at hf
  cases hn:Nat.beq n 0
  ·simp only[hn,cond_false,reduceCtorEq] at hf
  ·simp only[hn,cond_true,Option.some.injEq] at hf;subst hf
   have:=Nat.eq_of_beq_eq_true hn
   subst this
   exact⟨#[],by simp[Builtin.firstCells,loadCells,loadCellsFrom],⟨rfl,fun i v v' hv=>by simp at hv⟩,by simp⟩
 | _=>simp[aFirst] at hf
theorem VRs.append {l1 l2:List AV} {r1 r2:Array Value} (h1:VRs ι l1 r1) (h2:VRs ι l2 r2):VRs ι (l1++l2) (r1++r2):=by
 refine⟨by simp[h1.size,h2.size],fun i v v' hv hv'=>?_⟩
 by_cases hi:i<l1.length
 ·rw[List.getElem?_append_left hi] at hv
  rw[Array.getElem?_append_left (by rw[←h1.size];exact hi)] at hv'
  exact h1.at_ i v v' hv hv'
 ·have hi':l1.length≤i:=by omega
  rw[List.getElem?_append_right hi'] at hv
  rw[Array.getElem?_append_right (by rw[←h1.size];exact hi'),←h1.size] at hv'
  exact h2.at_ _ v v' hv hv'
theorem grow_ok (h:SR B w0 ι st w) {e:TypeId} {old new:List AV} {ro rn rest:Array Value} (h1:VRs ι old ro) (h2:VRs ι new rn)
  (c1:∀v,v∈old→v.isCell=true) (c2:∀v,v∈new→v.isCell=true) :
  ∃ι',(newRow e (ro++rn++rest)).run P w=.ok ⟨w.heap.size,0,none⟩ (w.alloc (.cells (ro++rn++rest) e))∧ι.le ι' ∧
   SR B w0 ι' (st.add (.cells (old++new) true)) (w.alloc (.cells (ro++rn++rest) e))∧ι' st.next=some ⟨w.heap.size,0,(ro++rn++rest).size⟩:=by
 have hv:=h1.append h2
 obtain⟨a1,a2,a3⟩:=h.alloc (.cells (old++new) true) (.cells (ro++rn++rest) e) (ro++rn++rest).size
  ⟨_,e,0,0,rfl,rfl,by rw[hv.size];simp,fun v hv'=>by
    simp only[List.mem_append] at hv';rcases hv' with hv' | hv'
    ·exact c1 v hv'
    ·exact c2 v hv',fun k v v' a b=>by
    have hk:k<(ro++rn).size:=by rw[←hv.size];exact (List.getElem?_eq_some_iff.1 a).1
    simp only[Nat.zero_add] at b
    rw[Array.getElem?_append_left hk] at b
    exact hv.at_ k v v' a b,fun _=>.inl rfl⟩
 exact⟨_,rfl,a2,a1,a3⟩
theorem cut_appendCap (need old:Nat) (e:TypeId) (t:Nat):need≤(Question.appendCap need old e).cut t:=by
 simp only[Question.cut];omega
theorem zeroCells_size (z:Array Value) (n:Nat):(Builtin.zeroCells z n).size=n*z.size:=by simp[Builtin.zeroCells]
theorem zero_cells2 (hE:E.Ok P) {e:TypeId} {ei:TI} {z:AV} (hei:E.ty.get e=some ei) (hz:ei.zero=some z) (hnt:(∀vs,z≠.tuple vs)∧z≠.any) :
  ∃v,(∀w,(zeroValue e).run P w=.ok v w)∧(∀ι,VRs ι (cellsOf z) v.cells)∧∀x,x∈cellsOf z→x.isCell=true:=by
 obtain⟨i,hi,_,_,h3⟩:=(mkTI_ok (hE.ty _ _ hei)).inf
 obtain⟨v,hv,h2⟩:=h3 z hz
 exact⟨v,fun w=>by simp only[zeroValue,Sem.run_bind,run_typeInfo w hi,Result.andThen_ok,hv,Sem.run_pure],
  fun ι=>((h2 ι).cells (notTuple_cells hnt)).1,((h2 (fun _=>none)).cells (notTuple_cells hnt)).2⟩
theorem append_in {sT xT rT e:TypeId} {td:TypeDesc} {base:Option Addr} {sLen sCap esz n:Nat} {x':Value} (h1:(underlying sT).run P w=.ok (.slice e) w) (h2:(underlying xT).run P w=.ok td w)
  (h3:isIntD td=false) (h4:(sizeOf e).run P w=.ok esz w) (h5:(Builtin.lenOf x').run P w=.ok n w) (hle:sLen+n≤sCap) :
  (Builtin.append_ #[sT,xT] rT #[.slice base sLen sCap,x']).run P w =
   ((Builtin.firstCells esz n x').run P w).andThen fun new w'=>(do (match base with | some a=>storeCells (a.add (sLen*esz)) new.toList | none=>pure ());pure (.slice base (sLen+n) sCap):Sem Value).run P w':=by
 unfold Builtin.append_
 simp only[List.getElem?_toArray,List.getElem?_cons_zero,List.getElem?_cons_succ,Sem.run_bind,h1,Result.andThen_ok,h4,h2]
 cases td<;>simp only[isIntD,Bool.true_eq_false] at h3 <;>
  (simp only[Sem.run_pure,Result.andThen_ok,Bool.false_eq_true,if_false,h5,Bool.not_false,if_true,hle,Sem.run_bind];cases base<;>simp only[Sem.run_bind,Sem.run_pure]<;>rfl)
theorem append_out {sT xT rT e:TypeId} {td:TypeDesc} {base:Option Addr} {sLen sCap esz n bytes:Nat} {x' z:Value} {ro rn:Array Value} (h1:∀w,(underlying sT).run P w=.ok (.slice e) w)
  (h2:∀w,(underlying xT).run P w=.ok td w)
  (h3:isIntD td=false) (h4:∀w,(sizeOf e).run P w=.ok esz w) (h5:∀w,(Builtin.lenOf x').run P w=.ok n w) (hle:¬sLen+n≤sCap) (hi:∀w,∃i,(typeInfo e).run P w=.ok i w∧i.bytes=bytes)
  (hb:(2*(sLen+n)+200)*bytes≤281474976710656) (hn:sLen+n<4611686018427387904) (hz:∀w,(zeroValue e).run P w=.ok z w)
  (hro:(Builtin.firstCells esz sLen (.slice base sLen sCap)).run P {w with drawn:=w.drawn+1} = .ok ro {w with drawn:=w.drawn+1})
  (hrn:(Builtin.firstCells esz n x').run P {w with drawn:=w.drawn+1} = .ok rn {w with drawn:=w.drawn+1}) :
  ∃cap,sLen+n≤cap∧(Builtin.append_ #[sT,xT] rT #[.slice base sLen sCap,x']).run P w =
   ((newRow e (ro++rn++Builtin.zeroCells z.cells (cap - (sLen+n)))).run P {w with drawn:=w.drawn+1}).andThen fun a w'=>.ok (.slice (some a) (sLen+n) cap) w':=by
 refine⟨(Question.appendCap (sLen+n) sCap e).cut (w.tape w.drawn (.appendCap (sLen+n) sCap e)),cut_appendCap _ _ _ _,?_⟩
 obtain⟨i,hi1,hi2⟩:=hi w
 have hcap:Builtin.nextslicecap (sLen+n) sCap*i.bytes≤281474976710656:=by
  rw[hi2];exact Nat.le_trans (Nat.mul_le_mul_right _ (nextcap_le (by omega))) hb
 have hcap':¬(Builtin.nextslicecap (sLen+n) sCap*i.bytes > 2 ^ 48):=by
  have:(2:Nat) ^ 48=281474976710656:=by decide
  omega
 have hmax:¬(((sLen+n:Nat):Int) > IntKind.i64.max):=by
  have:IntKind.i64.max=9223372036854775807:=by decide
  omega
 have hmax':¬((((sLen+n:Nat):Int) > IntKind.i64.max)∧(False∨i.bytes=0)):=fun h=>hmax h.1
 have hf:Question.forced (.appendCap (sLen+n) sCap e)=false:=rfl
 obtain⟨j,hj1,hj2⟩:=hi {w with drawn:=w.drawn+1}
 unfold Builtin.append_
 simp only[List.getElem?_toArray,List.getElem?_cons_zero,List.getElem?_cons_succ,Sem.run_bind,h1,Result.andThen_ok,h4,h2]
 cases td<;>simp only[isIntD,Bool.true_eq_false] at h3 <;>
  simp only[Sem.run_pure,Result.andThen_ok,Bool.false_eq_true,if_false,h5,Bool.not_false,if_true,hle,Sem.run_bind,Sem.run_ite,hi1,hmax',hcap',run_choose,hf,hj1,run_askRoom,hro,hrn,hz]
theorem aAppend_ok (hE:E.Ok P) (h:SR B w0 ι st w) {sT xT rT:TypeId} {s x:AV} {s' x':Value} {r:AV×ASt} (hs:VR ι s s') (hx:VR ι x x')
  (hr:aAppend E sT xT s x st=some r):Did P B w0 ι w (Builtin.append_ #[sT,xT] rT #[s',x']) r:=by
 simp only[aAppend] at hr
 split at hr
 ·simp at hr
 rename_i ti hti
 split at hr
 ·simp at hr
 rename_i tx htx
 cases hint:isIntD tx.desc
 rotate_left
 ·simp only[hint,cond_true,reduceCtorEq] at hr
 simp only[hint,cond_false] at hr
 split at hr
 rotate_left
 ·simp at hr
 rename_i e hd
 split at hr
 ·simp at hr
 rename_i ei hei
 split at hr
 ·simp at hr
 rename_i z hz
 have fin:((∀vs,z≠.tuple vs)∧z≠.any)→(bif Nat.beq (cellsOf z).length ei.size then
        match aLen x with
        | none=>none
        | some n =>
         match aFirst st ei.size n x with
         | none=>none
         | some new=>aAppendTo ei st s n new
       else none)=some r→Did P B w0 ι w (Builtin.append_ #[sT,xT] rT #[s',x']) r:=by
  clear hr
  intro hnt hr
  cases hbz:Nat.beq (cellsOf z).length ei.size
  ·simp only[hbz,cond_false,reduceCtorEq] at hr
  simp only[hbz,cond_true] at hr
  have hsz:=Nat.eq_of_beq_eq_true hbz
  split at hr
  ·simp at hr
  rename_i n hn
  split at hr
  ·simp at hr
  rename_i new hnew
  have k1:∀w,(underlying sT).run P w=.ok (.slice e) w:=fun w=>by rw[←hd];exact (mkTI_ok (hE.ty _ _ hti)).run_und w
  have k2:∀w,(underlying xT).run P w=.ok tx.desc w:=fun w=>(mkTI_ok (hE.ty _ _ htx)).run_und w
  have k4:∀w,(sizeOf e).run P w=.ok ei.size w:=fun w=>(mkTI_ok (hE.ty _ _ hei)).run_size w
  have k5:∀w,(Builtin.lenOf x').run P w=.ok n w:=fun w=>aLen_ok hx hn
  have k6:∀w,∃i,(typeInfo e).run P w=.ok i w∧i.bytes=ei.bytes:=fun w=>let ⟨i,a,b,_⟩:=(mkTI_ok (hE.ty _ _ hei)).run_info w;⟨i,a,b⟩
  obtain⟨zv,k7,hzv2,hzv3⟩:=zero_cells2 hE hei hz hnt
  have hzs:zv.cells.size=ei.size:=by rw[←(hzv2 ι).size,hsz]
  have hd1:SR B w0 ι st {w with drawn:=w.drawn+1}:=h.drawn _
  -- a new array
  have out:∀(base:Option Addr) (l c:Nat) (old:List AV) (ro:Array Value),¬l+n≤c→(2*(l+n)+200)*ei.bytes≤281474976710656→l+n<4611686018427387904 →
    (Builtin.firstCells ei.size l (.slice base l c)).run P {w with drawn:=w.drawn+1} = .ok ro {w with drawn:=w.drawn+1}→VRs ι old ro→(∀v,v∈old→v.isCell=true) →
    old.length=l*ei.size→new.length=n*ei.size →
    ∃cap ι' w',(Builtin.append_ #[sT,xT] rT #[.slice base l c,x']).run P w=.ok (.slice (some ⟨w.heap.size,0,none⟩) (l+n) cap) w'∧ι.le ι' ∧
     SR B w0 ι' (st.add (.cells (old++new) true)) w'∧ι' st.next=some ⟨w.heap.size,0,cap*ei.size⟩∧l+n≤cap:=by
   intro base l c old ro hle hb hlt hro hvo hco ho hn'
   obtain⟨rn,hrn,hvn,hcn⟩:=aFirst_ok (P:=P) hd1 hx hnew
   obtain⟨cap,hcap,hrun⟩:=append_out (P:=P) (w:=w) (rT:=rT) (base:=base) k1 k2 hint k4 k5 hle k6 hb hlt k7 hro hrn
   obtain⟨ι',g1,g2,g3,g4⟩:=grow_ok (P:=P) hd1 (e:=e) (rest:=Builtin.zeroCells zv.cells (cap - (l+n))) hvo hvn hco hcn
   have htot:(ro++rn++Builtin.zeroCells zv.cells (cap - (l+n))).size=cap*ei.size:=by
    simp only[Array.size_append,zeroCells_size,hzs,←hvo.size,←hvn.size,ho,hn']
    rw[←Nat.add_mul,←Nat.add_mul];congr 1;omega
   rw[htot] at g4
   exact⟨cap,ι',_,by rw[hrun,g1];rfl,g2,g3,g4,hcap⟩
  have hnewlen:new.length=n*ei.size:=by
   cases hx with
   | str m q hq =>
    simp only[aFirst] at hnew
    cases h1:Nat.beq ei.size 1
    ·simp only[h1,cond_false,reduceCtorEq] at hnew
    ·simp only[h1,cond_true,Option.some.injEq] at hnew
     have h1':=Nat.eq_of_beq_eq_true h1
     simp[aLen] at hn
     subst hnew
     rw[h1',←hn,←hq,←List.map_take,ofBytes_ok];simp
   | sliceN =>
    simp only[aFirst] at hnew
    cases h1:Nat.beq n 0
    ·simp only[h1,cond_false,reduceCtorEq] at hnew
    ·simp only[h1,cond_true,Option.some.injEq] at hnew
     have:=Nat.eq_of_beq_eq_true h1
     subst hnew;subst this;simp
   | slice i o m c' L c hL h2 h3 =>
    simp only[aFirst] at hnew
    split at hnew
    ·exact (takeL_ok hnew).1
    ·simp at hnew
   | slice0 a c =>
    simp only[aFirst] at hnew
    cases h1:Nat.beq n 0
    ·simp only[h1,cond_false,reduceCtorEq] at hnew
    ·simp only[h1,cond_true,Option.some.injEq] at hnew
     have:=Nat.eq_of_beq_eq_true h1
     subst hnew;subst this;simp
   | _=>simp[aLen] at hn
  obtain⟨rn,hrn,hvn,hcn⟩:=aFirst_ok (P:=P) h hx hnew
  -- nothing is appended
  have nothing:∀(base:Option Addr) (l c:Nat),n=0→l≤c→s'=.slice base l c→r=(s,st)→Did P B w0 ι w (Builtin.append_ #[sT,xT] rT #[s',x']) r:=by
   intro base l c hn0 hle he hre
   subst hre
   refine⟨ι,s',w,?_,ι.le_refl,h,hs⟩
   subst hn0;subst he
   have hnil:rn=#[]:=by have:=hvn.size;rw[hnewlen] at this;simp at this;exact Array.size_eq_zero_iff.1 this.symm
   rw[append_in (P:=P) (w:=w) (rT:=rT) (base:=base) (k1 w) (k2 w) hint (k4 w) (k5 w) hle,hrn,hnil]
   cases base<;>simp[storeCells]
  simp only[aAppendTo] at hr
  split at hr
  ·-- nil
   cases hs
   cases h0:Nat.beq n 0
   ·simp only[h0,cond_false] at hr
    cases hb:Nat.ble ((2*n+200)*ei.bytes) 281474976710656
    ·simp only[hb,cond_false,reduceCtorEq] at hr
    cases hlt:Nat.blt n 4611686018427387904
    ·simp only[hb,hlt,cond_true,cond_false,reduceCtorEq] at hr
    simp only[hb,hlt,cond_true,Option.some.injEq] at hr
    have hne:n≠0:=by intro e;rw[e] at h0;simp at h0
    obtain⟨cap,ι',w',g1,g2,g3,g4,g5⟩:=out none 0 0 [] #[] (by omega) (by simpa using ble_le hb) (by rw[Nat.zero_add,←Nat.blt_eq];exact hlt) rfl ⟨rfl,fun i v v' hv=>by simp at hv⟩ (by simp) (by simp) hnewlen
    subst hr
    rw[Nat.zero_add] at g1 g5
    refine⟨ι',_,w',g1,g2,by simpa using g3,.slice _ _ _ _ _ _ g4 ?_ g5⟩
    show 0+0+cap*ei.size=cap*ei.size
    omega
   ·simp only[h0,cond_true,Option.some.injEq] at hr
    exact nothing none 0 0 (Nat.eq_of_beq_eq_true h0) (Nat.le_refl _) rfl hr.symm
  ·-- a known capacity
   rename_i i o l c
   cases hs with
   | slice _ _ _ c' L _ hL hc hl =>
    have hc:c=c':=hc
    subst hc
    cases hle:Nat.ble (l+n) c
    ·simp only[hle,cond_false] at hr
     have hle':¬l+n≤c:=by intro e;rw[←Nat.ble_eq] at e;rw[e] at hle;simp at hle
     cases hb:Nat.ble ((2*(l+n)+200)*ei.bytes) 281474976710656
     ·simp only[hb,cond_false,reduceCtorEq] at hr
     cases hlt:Nat.blt (l+n) 4611686018427387904
     ·simp only[hb,hlt,cond_true,cond_false,reduceCtorEq] at hr
     simp only[hb,hlt,cond_true] at hr
     split at hr
     ·rename_i old hold
      simp only[Option.some.injEq] at hr
      have hvs:VR ι (.slice (some (i,o)) l (.known c)) (.slice (some ⟨L.b,L.p+o,none⟩) l c):=.slice _ _ _ _ L _ hL rfl hl
      obtain⟨ro,p1,p2,p3⟩:=aFirst_ok (P:=P) hd1 hvs hold
      have hol:old.length=l*ei.size:=by
       simp only[aFirst] at hold
       split at hold
       ·exact (takeL_ok hold).1
       ·simp at hold
      obtain⟨cap,ι',w',g1,g2,g3,g4,g5⟩:=out _ l c old ro hle' (ble_le hb) (by rw[←Nat.blt_eq];exact hlt) p1 p2 p3 hol hnewlen
      subst hr
      refine⟨ι',_,w',g1,g2,g3,.slice _ _ _ _ _ _ g4 ?_ g5⟩
      show 0+0+cap*ei.size=cap*ei.size
      omega
     ·simp at hr
    ·simp only[hle,cond_true] at hr
     have hle':=ble_le hle
     cases h0:Nat.beq n 0
     ·simp only[h0,cond_false] at hr
      split at hr
      ·rename_i cs hi
       split at hr
       ·rename_i cs' hset
        simp only[Option.some.injEq] at hr;subst hr
        obtain⟨w',q1,q2⟩:=SR.storeCells (P:=P) new rn.toList 0 (o+l*ei.size) cs cs' st w h hi hL (by simpa using hset) (by simpa using hvn) hcn
        refine⟨ι,.slice (some ⟨L.b,L.p+o,none⟩) (l+n) c,w',?_,ι.le_refl,q2,.slice _ _ _ _ L _ hL rfl hle'⟩
        rw[append_in (P:=P) (w:=w) (rT:=rT) (k1 w) (k2 w) hint (k4 w) (k5 w) hle',hrn]
        simp only[Result.andThen_ok,Sem.run_bind,add_none,Nat.add_assoc,q1,Sem.run_pure]
       ·simp at hr
      ·simp at hr
     ·simp only[h0,cond_true,Option.some.injEq] at hr
      exact nothing _ l c (Nat.eq_of_beq_eq_true h0) hl rfl hr.symm
  ·-- the rest of a block
   rename_i i o l zz
   cases hs with
   | slice _ _ _ c' L _ hL hc hl =>
    have hc:L.p+o+c' * zz=L.tot:=hc
    cases h0:Nat.beq n 0
    rotate_left
    ·simp only[h0,cond_true,Option.some.injEq] at hr
     exact nothing _ l c' (Nat.eq_of_beq_eq_true h0) hl rfl hr.symm
    simp only[h0,cond_false] at hr
    cases hzz:Nat.beq zz ei.size
    ·simp only[hzz,cond_false,reduceCtorEq] at hr
    have ezz:=Nat.eq_of_beq_eq_true hzz
    cases hroom:inRoom st i (o+(l+n)*ei.size) ei.size
    rotate_left
    ·-- there is room in what is known
     simp only[hzz,hroom,cond_true] at hr
     split at hr
     rotate_left
     ·simp at hr
     rename_i cs hi
     split at hr
     rotate_left
     ·simp at hr
     rename_i cs' hset
     simp only[Option.some.injEq] at hr;subst hr
     simp only[inRoom,hi] at hroom
     cases hr1:Nat.ble (o+(l+n)*ei.size) cs.length
     ·simp[hr1] at hroom
     simp only[hr1,cond_true] at hroom
     have hr2:0<ei.size:=by rw[←Nat.blt_eq];exact hroom
     have hr3:=ble_le hr1
     obtain⟨L',ob,e1,e2,c,et,lo,hi',e3,e4,e5,_⟩:=h.obj i _ hi (by simp)
     rw[hL] at e1;cases e1
     have hfit:l+n≤c':=by
      rw[ezz] at hc
      have:(l+n)*ei.size≤c' * ei.size:=by omega
      exact Nat.le_of_mul_le_mul_right this hr2
     obtain⟨w',q1,q2⟩:=SR.storeCells (P:=P) new rn.toList 0 (o+l*ei.size) cs cs' st w h hi hL (by simpa using hset) (by simpa using hvn) hcn
     refine⟨ι,.slice (some ⟨L.b,L.p+o,none⟩) (l+n) c',w',?_,ι.le_refl,q2,.slice _ _ _ _ L _ hL hc hfit⟩
     rw[append_in (P:=P) (w:=w) (rT:=rT) (k1 w) (k2 w) hint (k4 w) (k5 w) hfit,hrn]
     simp only[Result.andThen_ok,Sem.run_bind,add_none,Nat.add_assoc,q1,Sem.run_pure]
    cases hb:Nat.ble ((2*(l+n)+200)*ei.bytes) 281474976710656
    ·simp only[hzz,hroom,hb,cond_true,cond_false,reduceCtorEq] at hr
    cases hlt:Nat.blt (l+n) 4611686018427387904
    ·simp only[hzz,hroom,hb,hlt,cond_true,cond_false,reduceCtorEq] at hr
    simp only[hzz,hroom,hb,hlt,cond_true,cond_false] at hr
    rw[ezz] at hc
    split at hr
    ·rename_i cs hi
     split at hr
     ·rename_i old hold
      simp only[Option.some.injEq] at hr;subst hr
      have hol:=(takeL_ok hold).1
      by_cases hfit:l+n≤c'
      ·-- there was room: the same array,under a new number
       obtain⟨L',ob,e1,e2,c,et,lo,hi',e3,e4,e5,e6,e7,e8⟩:=h.obj i _ hi (by simp)
       rw[hL] at e1;cases e1
       rw[e3] at e2
       have hmul:l*ei.size+n*ei.size≤c' * ei.size:=by rw[←Nat.add_mul];exact Nat.mul_le_mul_right _ hfit
       have hrl:rn.size=n*ei.size:=by rw[←hvn.size,hnewlen]
       obtain⟨cc,q1,q2,q3⟩:=storeRow (P:=P) rn.toList 0 (L.p+o+l*ei.size) c w e2 (by simp only[Nat.add_zero,Array.length_toList,hrl];omega) (e8 rfl) (fun v hv=>by
        obtain⟨k,hk,ek⟩:=List.getElem_of_mem hv
        have hk':k<new.length:=by rw[hvn.size];simpa using hk
        have h9:=hvn.at_ k new[k] v (by simp[hk']) (by simp at hk ek;simp[hk,ek])
        have h10:=hcn new[k] (List.getElem_mem hk')
        generalize new[k]=y at h9 h10
        cases h9<;>simp_all[AV.isCell,Value.oneCell'])
       simp only[Nat.add_zero,Array.length_toList,hrl] at q3
       have hw:=h.write (a':=.cells [] true) (o':=.cells cc et (lo,hi')) hi rfl hL ⟨cc,et,lo,hi',rfl,by rw[q2,e4],by simp;rw[q2];omega,by simp,by simp,by rw[q2];exact e8⟩
       have hi2:(st.put i (.cells [] true)).h.get i=some (.cells [] true):=put_get _ _ _
       have hblt:L.b<w.heap.size:=(Array.getElem?_eq_some_iff.1 e2).1
       obtain⟨m1,m2,m3⟩:=hw.move (a':=.cells (old++new) true) (L':=⟨L.b,L.p+o,L.tot⟩) hi2 rfl hL rfl (fun o' ho'=>by
        rw[heap_setObjW] at ho'
        simp only[hblt,and_self,if_true,Option.some.injEq] at ho'
        subst ho'
        refine⟨cc,et,lo,hi',rfl,by rw[q2,e4],by simp[hol,hnewlen];rw[q2];omega,fun v hv=>?_,fun k v v' hk hk'=>?_,by rw[q2];exact e8⟩
        ·simp only[List.mem_append] at hv
         rcases hv with hv | hv
         ·obtain⟨j,hj,ej⟩:=List.getElem_of_mem hv
          have:=(takeL_ok hold).2 j (by omega)
          rw[List.getElem?_eq_getElem hj,ej] at this
          exact e6 v (List.mem_of_getElem? this.symm)
         ·exact hcn v hv
        ·simp only at hk'
         rw[q3] at hk'
         by_cases hko:k<old.length
         ·rw[List.getElem?_append_left hko] at hk
          have:¬(L.p+o+l*ei.size≤L.p+o+k∧L.p+o+k<L.p+o+l*ei.size+n*ei.size):=by omega
          simp only[this,if_false] at hk'
          rw[(takeL_ok hold).2 k (by omega)] at hk
          exact e7 (o+k) v v' hk (by rw[←hk'];congr 1;omega)
         ·rw[List.getElem?_append_right (by omega)] at hk
          have hkn:=(List.getElem?_eq_some_iff.1 hk).1
          have:(L.p+o+l*ei.size≤L.p+o+k∧L.p+o+k<L.p+o+l*ei.size+n*ei.size):=by omega
          simp only[this,and_self,if_true] at hk'
          refine hvn.at_ _ v v' hk ?_
          rw[←hk'];simp;congr 1;omega)
       have hnx:(st.put i (.cells [] true)).next=st.next:=rfl
       rw[hnx] at m1 m2 m3
       refine⟨_,.slice (some ⟨L.b,L.p+o,none⟩) (l+n) c',_,?_,m2,m1.congr (fun j=>?_) rfl,?_⟩
       ·rw[append_in (P:=P) (w:=w) (rT:=rT) (k1 w) (k2 w) hint (k4 w) (k5 w) hfit,hrn]
        simp only[Result.andThen_ok,Sem.run_bind,add_none,q1,Sem.run_pure]
       ·show (T.set D (T.set D st.h i .dead) st.next _).get j=(T.set D (T.set D (T.set D st.h i _) i .dead) st.next _).get j
        rw[T.get_set,T.get_set,T.get_set,T.get_set,T.get_set]
        by_cases e1:j=st.next
        ·simp[e1]
        ·by_cases e2:j=i<;>simp[e1,e2]
       ·have:=VR.slice (ι:=ι.ext st.next ⟨L.b,L.p+o,L.tot⟩) st.next 0 (l+n) c' ⟨L.b,L.p+o,L.tot⟩ (.rest ei.size) m3 (by show L.p+o+0+c' * ei.size=L.tot;omega) hfit
        simpa using this
      ·have hvs:VR ι (.slice (some (i,o)) l (.rest ei.size)) (.slice (some ⟨L.b,L.p+o,none⟩) l c'):=.slice _ _ _ _ L _ hL hc hl
       obtain⟨ro,p1,p2,p3⟩:=aFirst_ok (P:=P) (n:=l) (esz:=ei.size) (l:=old) hd1 hvs (by simp only[aFirst,hi,hold])
       obtain⟨cap,ι',w',g1,g2,g3,g4,g5⟩:=out _ l c' old ro hfit (ble_le hb) (by rw[←Nat.blt_eq];exact hlt) p1 p2 p3 hol hnewlen
       have hlt':=h.hdom _ _ hi
       have g6:=g3.kill (i:=i) (a:=.cells cs true) (by
        show (T.set D st.h st.next _).get i=_
        rw[T.get_set,if_neg (by omega)];exact hi)
       refine⟨ι',_,w',g1,g2,g6.congr (fun j=>?_) rfl,.slice _ _ _ _ _ _ g4 ?_ g5⟩
       ·show (T.set D (T.set D st.h i .dead) st.next _).get j=(T.set D (T.set D st.h st.next _) i .dead).get j
        rw[T.get_set,T.get_set,T.get_set,T.get_set]
        by_cases e1:j=st.next
        ·have:¬j=i:=by omega
         simp[e1]
         intro e2;omega
        ·simp[e1]
       ·show 0+0+cap*ei.size=cap*ei.size
        omega
     ·simp at hr
    ·simp at hr
  ·simp at hr
 cases z<;>first | (simp at hr;done) | exact fin ⟨by simp,by simp⟩ hr
end
end
end Go.Ax
end

section
namespace Go.Ax
noncomputable section
open Go.RowKit
def aCopy (E:Env) (dT:TypeId) (dst src:AV) (st:ASt):Option (AV×ASt) :=
 match E.ty.get dT with
 | none=>none
 | some ti =>
  match ti.desc with
  | .slice e =>
   match E.ty.get e with
   | none=>none
   | some ei =>
    match aLen src with
    | none=>none
    | some sl =>
     match dst with
     | .slice none dl _=>bif Nat.beq (Nat.min sl dl) 0 then (match aFirst st ei.size 0 src with | some _=>some (.int .i64 (.ofNat 0),st) | none=>none) else none
     | .slice0=>match aFirst st ei.size 0 src with | some []=>some (.int .i64 (.ofNat 0),st) | _=>none
     | .slice (some (i,o)) dl _ =>
      let n:=Nat.min sl dl
      match aFirst st ei.size n src with
      | none=>none
      | some new =>
       match new with
       | []=>some (.int .i64 (.ofNat n),st)
       | _ =>
        match st.h.get i with
        | some (.cells cs true) =>
         match setL cs o new with
         | some cs'=>some (.int .i64 (.ofNat n),st.put i (.cells cs' true))
         | none=>none
        | _=>none
     | _=>none
  | _=>none
def aLenB (E:Env) (t:TypeId) (x:AV):Option AV :=
 match E.ty.get t with
 | none=>none
 | some ti =>
  match ti.desc with
  | .string=>match x with | .str s=>some (.int .i64 (.ofNat s.length)) | _=>none
  | .array n _=>some (.int .i64 (.ofNat n))
  | .pointer arr =>
   match E.ty.get arr with
   | some ta=>match ta.desc with | .array n _=>some (.int .i64 (.ofNat n)) | _=>none
   | none=>none
  | .slice _=>match x with | .slice _ n _=>some (.int .i64 (.ofNat n)) | .slice0=>some (.int .i64 (.ofNat 0)) | _=>none
  | .map _ _=>match x with | .map none=>some (.int .i64 (.ofNat 0)) | _=>none
  | _=>none
def aCapB (E:Env) (t:TypeId) (x:AV):Option AV :=
 match E.ty.get t with
 | none=>none
 | some ti =>
  match ti.desc with
  | .slice _=>match x with | .slice _ _ (.known n)=>some (.int .i64 (.ofNat n)) | _=>none
  | _=>none
def aMin:AV→List AV→Option AV
 | x,[]=>some x
 | .int k x,.int _ y::r=>aMin (.int k (bif ltF y x then y else x)) r
 | _,_::_=>none
def aMax:AV→List AV→Option AV
 | x,[]=>some x
 | .int k x,.int _ y::r=>aMax (.int k (bif ltF x y then y else x)) r
 | _,_::_=>none
def aBuiltin (E:Env) (b:Builtin) (ts:List TypeId) (args:List AV) (st:ASt):Option (AV×ASt) :=
 match b with
 | .append=>match ts,args with | [sT,xT],[s,x]=>aAppend E sT xT s x st | _,_=>none
 | .copy=>match ts,args with | [dT,_],[d,s]=>aCopy E dT d s st | _,_=>none
 | .len=>match ts,args with | [t],[x]=>(match aLenB E t x with | some v=>some (v,st) | none=>none) | _,_=>none
 | .cap=>match ts,args with | [t],[x]=>(match aCapB E t x with | some v=>some (v,st) | none=>none) | _,_=>none
 | .min=>match args with | x::r=>(match aMin x r with | some v=>some (v,st) | none=>none) | _=>none
 | .max=>match args with | x::r=>(match aMax x r with | some v=>some (v,st) | none=>none) | _=>none
 | _=>none
section
variable {P:Program} {E:Env} {B:Prot} {w0:World} {ι:Ren} {st:ASt} {w:World}
theorem aBuild_ok (hE:E.Ok P) {t:TypeId} {parts:List (Nat×AV)} {parts':Array (Nat×Value)} {r:AV} (hm:parts.map (·.1)=parts'.toList.map (·.1))
  (hv:∀(k:Nat) p p',parts[k]? = some p→parts'.toList[k]? = some p'→VR ι p.2 p'.2) (hr:aBuild E t parts=some r) :
  ∃v,(Instr.build t parts').run P w=.ok v w∧VR ι r v:=by
 simp only[aBuild] at hr
 split at hr
 ·simp at hr
 rename_i ti hti
 have hk:=mkTI_ok (hE.ty _ _ hti)
 split at hr
 rotate_left
 ·simp at hr
 rename_i z hz
 obtain⟨it,hit,_,_,h3⟩:=hk.inf
 obtain⟨zv,hzv,hzr⟩:=h3 _ hz
 have hzc:=(hzr ι).cells (.inl ⟨z,rfl⟩)
 have hzl:∃za,zv=.agg za:=by have:=hzr ι;cases this;exact⟨_,rfl⟩
 obtain⟨za,rfl⟩:=hzl
 have hz1:VRs ι z za:=hzc.1
 split at hr
 ·rename_i fs hd
  cases hall:allTy E fs.toList
  ·simp only[hall,cond_false,reduceCtorEq] at hr
  simp only[hall,cond_true] at hr
  split at hr
  ·rename_i cs hcs
   simp only[Option.some.injEq] at hr;subst hr
   have places:∀(l:List Field),allTy E l=true→∃pl,l.mapM (fun (f:Field)=>(P.info? f.type).map fun i=>(f.offset,i.size))=some pl ∧
     ∀(i:Nat) x,placeOf E l[i]? = some x→pl[i]? = some x:=by
    intro l
    induction l with
    | nil=>intro _;exact⟨[],rfl,fun i x h=>by simp[placeOf] at h⟩
    | cons f l ih =>
     intro h
     simp only[allTy] at h
     split at h
     ·rename_i fi hfi
      obtain⟨pl,p1,p2⟩:=ih h
      obtain⟨j,hj,hj1,_⟩:=(mkTI_ok (hE.ty _ _ hfi)).inf
      refine⟨(f.offset,j.size)::pl,by simp[List.mapM_cons,hj,p1],fun i x hx=>?_⟩
      cases i with
      | zero=>simp[placeOf,hfi] at hx;subst hx;simp[hj1]
      | succ i=>simp at hx ⊢;exact p2 i x hx
     ·simp at h
   obtain⟨pl,p1,p2⟩:=places fs.toList hall
   obtain⟨cs',f1,f2,f3⟩:=aFill_ok (place':=(pl.toArray[·]?)) (fun i x hx=>by
    have:=p2 i x (by simpa using hx)
    simpa using this) parts parts'.toList z cs za hm hv hz1 hzc.2 hcs
   refine⟨.agg cs',run_build w t parts' cs' ?_,.agg _ _ f2.size f3 f2.at_⟩
   simp only[Program.built,hit,hk.und,hd,hzv,p1,Value.cells]
   exact f1
  ·simp at hr
 ·rename_i n e hd
  split at hr
  rotate_left
  ·simp at hr
  rename_i ei hei
  split at hr
  ·rename_i cs hcs
   simp only[Option.some.injEq] at hr;subst hr
   obtain⟨j,hj,hj1,_⟩:=(mkTI_ok (hE.ty _ _ hei)).inf
   obtain⟨cs',f1,f2,f3⟩:=aFill_ok (place':=fun i=>some (i*ei.size,ei.size)) (fun i x hx=>hx) parts parts'.toList z cs za hm hv hz1 hzc.2 hcs
   refine⟨.agg cs',run_build w t parts' cs' ?_,.agg _ _ f2.size f3 f2.at_⟩
   simp only[Program.built,hit,hk.und,hd,hzv,hj,hj1,Value.cells]
   exact f1
  ·simp at hr
 ·simp at hr
theorem aBuildSlice_ok (hE:E.Ok P) (h:SR B w0 ι st w) {t:TypeId} {n:Nat} {parts:List (Nat×AV)} {parts':Array (Nat×Value)} {r:AV×ASt} (hm:parts.map (·.1)=parts'.toList.map (·.1))
  (hv:∀(k:Nat) p p',parts[k]? = some p→parts'.toList[k]? = some p'→VR ι p.2 p'.2) (hr:aBuildSlice E t n parts st=some r) :
  Did P B w0 ι w (Instr.buildSlice t n parts') r:=by
 simp only[aBuildSlice] at hr
 split at hr
 ·simp at hr
 rename_i ti hti
 have hk:=(mkTI_ok (hE.ty _ _ hti)).run_und w
 split at hr
 rotate_left
 ·simp at hr
 rename_i e hd
 rw[hd] at hk
 split at hr
 ·simp at hr
 rename_i ei hei
 split at hr
 ·simp at hr
 rename_i z hz
 have fin:((∀vs,z≠.tuple vs)∧z≠.any)→(bif Nat.beq (cellsOf z).length ei.size then
      bif Nat.ble (n*ei.size) 16777216 then
       match aFill (fun i=>some (i*ei.size,ei.size)) (repL (cellsOf z) n) parts with
       | some cs=>some (AV.slice (some (st.next,0)) n (.known n),st.add (.cells cs true))
       | none=>none
      else none
     else none)=some r→Did P B w0 ι w (Instr.buildSlice t n parts') r:=by
  clear hr
  intro hnt hr
  cases hbz:Nat.beq (cellsOf z).length ei.size
  ·simp only[hbz,cond_false,reduceCtorEq] at hr
  cases hble:Nat.ble (n*ei.size) 16777216
  ·simp only[hbz,hble,cond_true,cond_false,reduceCtorEq] at hr
  simp only[hbz,hble,cond_true] at hr
  have hsz:=Nat.eq_of_beq_eq_true hbz
  have hle:=ble_le hble
  split at hr
  ·rename_i cs hcs
   simp only[Option.some.injEq] at hr;subst hr
   obtain⟨zv,k7,hzv2,hzv3⟩:=zero_cells2 hE hei hz hnt
   have hzs:zv.cells.size=ei.size:=by rw[←(hzv2 ι).size,hsz]
   have hs:=(mkTI_ok (hE.ty _ _ hei)).run_size w
   obtain⟨cs',f1,f2,f3⟩:=aFill_ok (place':=fun i=>some (i*ei.size,ei.size)) (fun i x hx=>hx) parts parts'.toList (repL (cellsOf z) n) cs _ hm hv (repL_VRs (hzv2 ι) n) (repL_cell hzv3 n) hcs
   obtain⟨ι',q1,q2,q3,q4⟩:=newRow_ok (P:=P) h e f2 f3
   refine⟨ι',.slice (some ⟨w.heap.size,0,none⟩) n n,_,?_,q2,q3,.slice _ _ _ _ _ _ q4 rfl (Nat.le_refl _)⟩
   have hle':¬(n*ei.size > 2 ^ 24):=by rw[pow_vals.2];omega
   rw[hzs] at f1
   by_cases h0:n*ei.size=0
   ·rw[h0] at f1
    have er:Array.range 0=#[]:=rfl
    have hle0:¬((0:Nat) > 2 ^ 24):=by decide
    simp only[er,Array.map_empty] at f1
    simp only[Instr.buildSlice,Sem.run_bind,hk,Result.andThen_ok,hs,Sem.run_ite,hle0,if_false,h0,if_true,Sem.run_pure,er,Array.map_empty,f1,q1]
   ·simp only[Instr.buildSlice,Sem.run_bind,hk,Result.andThen_ok,hs,Sem.run_ite,hle',if_false,h0,Sem.run_pure,k7,hzs,f1,q1]
  ·simp at hr
 cases z<;>first | (simp at hr;done) | exact fin ⟨by simp,by simp⟩ hr
theorem aCopy_ok (hE:E.Ok P) (h:SR B w0 ι st w) {dT sT rT:TypeId} {dst src:AV} {dst' src':Value} {r:AV×ASt} (hd:VR ι dst dst') (hs:VR ι src src')
  (hr:aCopy E dT dst src st=some r):Did P B w0 ι w (Builtin.copy_ #[dT,sT] rT #[dst',src']) r:=by
 simp only[aCopy] at hr
 split at hr
 ·simp at hr
 rename_i ti hti
 have hk:=(mkTI_ok (hE.ty _ _ hti)).run_und w
 split at hr
 rotate_left
 ·simp at hr
 rename_i e he
 rw[he] at hk
 split at hr
 ·simp at hr
 rename_i ei hei
 have hsz:=(mkTI_ok (hE.ty _ _ hei)).run_size w
 split at hr
 ·simp at hr
 rename_i sl hsl
 have hln:=aLen_ok (P:=P) (w:=w) hs hsl
 have run:∀(base:Option Addr) (dl c:Nat) (rn:Array Value),(Builtin.firstCells ei.size (Nat.min sl dl) src').run P w=.ok rn w →
   (Builtin.copy_ #[dT,sT] rT #[.slice base dl c,src']).run P w =
    (((match base with | some a=>storeCells a rn.toList | none=>pure ()):Sem Unit).run P w).andThen fun _ w'=>.ok (goInt (Nat.min sl dl:Nat)) w':=by
  intro base dl c rn hrn
  unfold Builtin.copy_
  simp only[List.getElem?_toArray,List.getElem?_cons_zero,List.getElem?_cons_succ,Sem.run_bind,hk,hln,Result.andThen_ok,hsz,hrn]
  cases base<;>simp only[Sem.run_bind,Sem.run_pure]<;>rfl
 split at hr
 ·rename_i dl c
  cases hd
  cases h0:Nat.beq (Nat.min sl 0) 0
  ·simp only[h0,cond_false,reduceCtorEq] at hr
  simp only[h0,cond_true] at hr
  split at hr
  ·rename_i l hl
   simp only[Option.some.injEq] at hr;subst hr
   have e0:Nat.min sl 0=0:=Nat.eq_of_beq_eq_true h0
   obtain⟨rn,h1,h2,h3⟩:=aFirst_ok (P:=P) h hs hl
   refine⟨ι,goInt 0,w,?_,ι.le_refl,h,.int _ _⟩
   rw[run none 0 0 rn (by rw[e0];exact h1),e0];rfl
  ·simp at hr
 ·cases hd with
  | slice0 a c =>
   split at hr
   ·rename_i hl
    simp only[Option.some.injEq] at hr;subst hr
    obtain⟨rn,h1,h2,h3⟩:=aFirst_ok (P:=P) h hs hl
    have e0:Nat.min sl 0=0:=Nat.min_zero _
    have hnil:rn=#[]:=by have:=h2.size;simp at this;exact Array.size_eq_zero_iff.1 this.symm
    refine⟨ι,goInt 0,w,?_,ι.le_refl,h,.int _ _⟩
    rw[run (some a) 0 c rn (by rw[e0];exact h1),e0,hnil];simp[storeCells]
   ·simp at hr
 ·rename_i i o dl c
  cases hd with
  | slice _ _ _ c' L _ hL hc hl =>
   split at hr
   ·simp at hr
   rename_i new hnew
   obtain⟨rn,h1,h2,h3⟩:=aFirst_ok (P:=P) h hs hnew
   split at hr
   ·simp only[Option.some.injEq] at hr;subst hr
    have hnil:rn=#[]:=by have:=h2.size;simp at this;exact Array.size_eq_zero_iff.1 this.symm
    refine⟨ι,goInt (Nat.min sl dl:Nat),w,?_,ι.le_refl,h,.int _ _⟩
    rw[run _ dl c' rn h1,hnil];simp[storeCells]
   ·split at hr
    ·rename_i cs hi
     split at hr
     ·rename_i cs' hset
      simp only[Option.some.injEq] at hr;subst hr
      obtain⟨w',q1,q2⟩:=SR.storeCells (P:=P) new rn.toList 0 o cs cs' st w h hi hL (by simpa using hset) (by simpa using h2) h3
      refine⟨ι,goInt (Nat.min sl dl:Nat),w',?_,ι.le_refl,q2,.int _ _⟩
      rw[run _ dl c' rn h1]
      simp only[q1,Result.andThen_ok]
     ·simp at hr
    ·simp at hr
 ·simp at hr
theorem aLenB_ok (hE:E.Ok P) {t rT:TypeId} {x r:AV} {x':Value} (hx:VR ι x x') (hr:aLenB E t x=some r):∃v,(Builtin.len_ #[t] rT #[x']).run P w=.ok v w∧VR ι r v:=by
 simp only[aLenB] at hr
 split at hr
 ·simp at hr
 rename_i ti hti
 have hk:=(mkTI_ok (hE.ty _ _ hti)).run_und w
 split at hr
 ·rename_i hd
  rw[hd] at hk
  split at hr
  ·rename_i s
   cases hx with
   | str _ s' hs =>
    simp only[Option.some.injEq] at hr;subst hr
    refine⟨goInt s'.size,?_,?_⟩
    ·simp only[Builtin.len_,List.getElem?_toArray,List.getElem?_cons_zero,Sem.run_bind,hk,Result.andThen_ok,Sem.run_pure]
    ·have:s.length=s'.size:=by rw[←hs];simp
     rw[this];exact .int _ _
  ·simp at hr
 ·rename_i n e hd
  rw[hd] at hk
  simp only[Option.some.injEq] at hr;subst hr
  refine⟨goInt n,?_,.int _ _⟩
  simp only[Builtin.len_,List.getElem?_toArray,List.getElem?_cons_zero,Sem.run_bind,hk,Result.andThen_ok,Sem.run_pure]
 ·rename_i arr hd
  rw[hd] at hk
  split at hr
  ·rename_i ta hta
   have hk2:=(mkTI_ok (hE.ty _ _ hta)).run_und w
   split at hr
   ·rename_i n e hd2
    rw[hd2] at hk2
    simp only[Option.some.injEq] at hr;subst hr
    refine⟨goInt n,?_,.int _ _⟩
    simp only[Builtin.len_,List.getElem?_toArray,List.getElem?_cons_zero,Sem.run_bind,hk,hk2,Result.andThen_ok,Sem.run_pure]
   ·simp at hr
  ·simp at hr
 ·rename_i e hd
  rw[hd] at hk
  split at hr
  ·rename_i a n c
   simp only[Option.some.injEq] at hr;subst hr
   cases hx
   ·exact⟨goInt (0:Nat),by simp only[Builtin.len_,List.getElem?_toArray,List.getElem?_cons_zero,Sem.run_bind,hk,Result.andThen_ok,Sem.run_pure],.int _ _⟩
   ·exact⟨goInt n,by simp only[Builtin.len_,List.getElem?_toArray,List.getElem?_cons_zero,Sem.run_bind,hk,Result.andThen_ok,Sem.run_pure],.int _ _⟩
  ·simp only[Option.some.injEq] at hr;subst hr
   cases hx with
   | slice0 a c=>exact⟨goInt (0:Nat),by simp only[Builtin.len_,List.getElem?_toArray,List.getElem?_cons_zero,Sem.run_bind,hk,Result.andThen_ok,Sem.run_pure],.int _ _⟩
  ·simp at hr
 ·rename_i k e hd
  rw[hd] at hk
  split at hr
  ·simp only[Option.some.injEq] at hr;subst hr
   cases hx
   exact⟨goInt 0,by simp only[Builtin.len_,List.getElem?_toArray,List.getElem?_cons_zero,Sem.run_bind,hk,Result.andThen_ok,Sem.run_pure],.int _ _⟩
  ·simp at hr
 ·simp at hr
theorem aCapB_ok (hE:E.Ok P) {t rT:TypeId} {x r:AV} {x':Value} (hx:VR ι x x') (hr:aCapB E t x=some r):∃v,(Builtin.cap_ #[t] rT #[x']).run P w=.ok v w∧VR ι r v:=by
 simp only[aCapB] at hr
 split at hr
 ·simp at hr
 rename_i ti hti
 have hk:=(mkTI_ok (hE.ty _ _ hti)).run_und w
 split at hr
 ·rename_i e hd
  rw[hd] at hk
  split at hr
  ·rename_i a n c
   simp only[Option.some.injEq] at hr;subst hr
   cases hx with
   | sliceN=>exact⟨goInt (0:Nat),by simp only[Builtin.cap_,List.getElem?_toArray,List.getElem?_cons_zero,Sem.run_bind,hk,Result.andThen_ok,Sem.run_pure],.int _ _⟩
   | slice i o _ c' L _ hL hc hl =>
    have hc:c=c':=hc
    subst hc
    exact⟨goInt c,by simp only[Builtin.cap_,List.getElem?_toArray,List.getElem?_cons_zero,Sem.run_bind,hk,Result.andThen_ok,Sem.run_pure],.int _ _⟩
  ·simp at hr
 ·simp at hr
theorem aMin_ok:∀(l:List AV) (l':List Value) (x r:AV) (x':Value),VR ι x x'→VRs ι l l'.toArray→aMin x l=some r→∃v,(l'.foldlM Builtin.min2 x').run P w=.ok v w∧VR ι r v
 | [],l',x,r,x',hx,hl,h=>by
  have:l'=[]:=by have:=hl.size;simp at this;exact List.length_eq_zero_iff.1 this.symm
  subst this
  simp[aMin] at h;subst h
  exact⟨x',by simp,hx⟩
 | y::l,[],x,r,x',hx,hl,h=>by have:=hl.size;simp at this
 | y::l,y'::l',x,r,x',hx,hl,h=>by
  have hy:=hl.at_ 0 y y' rfl (by simp)
  have hl':VRs ι l l'.toArray:=⟨by have:=hl.size;simp at this;simpa using this,fun j a b ha hb=>hl.at_ (j+1) a b (by simpa using ha) (by simpa using hb)⟩
  cases hx with
  | int k n =>
   cases hy with
   | int k' m =>
    simp only[aMin] at h
    obtain⟨v,h1,h2⟩:=aMin_ok l l' _ r (.int k (if m<n then m else n)) (by
     rw[ltF_eq]
     by_cases c:m<n<;>simp[c]<;>exact .int _ _) hl' h
    exact⟨v,by simp only[List.foldlM_cons,Builtin.min2,Sem.run_bind,Sem.run_pure,Result.andThen_ok,h1],h2⟩
   | _=>simp[aMin] at h
  | _=>simp[aMin] at h
theorem aMax_ok:∀(l:List AV) (l':List Value) (x r:AV) (x':Value),VR ι x x'→VRs ι l l'.toArray→aMax x l=some r→∃v,(l'.foldlM Builtin.max2 x').run P w=.ok v w∧VR ι r v
 | [],l',x,r,x',hx,hl,h=>by
  have:l'=[]:=by have:=hl.size;simp at this;exact List.length_eq_zero_iff.1 this.symm
  subst this
  simp[aMax] at h;subst h
  exact⟨x',by simp,hx⟩
 | y::l,[],x,r,x',hx,hl,h=>by have:=hl.size;simp at this
 | y::l,y'::l',x,r,x',hx,hl,h=>by
  have hy:=hl.at_ 0 y y' rfl (by simp)
  have hl':VRs ι l l'.toArray:=⟨by have:=hl.size;simp at this;simpa using this,fun j a b ha hb=>hl.at_ (j+1) a b (by simpa using ha) (by simpa using hb)⟩
  cases hx with
  | int k n =>
   cases hy with
   | int k' m =>
    simp only[aMax] at h
    obtain⟨v,h1,h2⟩:=aMax_ok l l' _ r (.int k (if m > n then m else n)) (by
     rw[ltF_eq]
     by_cases c:n<m<;>simp[c]<;>exact .int _ _) hl' h
    exact⟨v,by simp only[List.foldlM_cons,Builtin.max2,Sem.run_bind,Sem.run_pure,Result.andThen_ok,h1],h2⟩
   | _=>simp[aMax] at h
  | _=>simp[aMax] at h
theorem list2 {a b:AV} {r:Array Value} (h:VRs ι [a,b] r):∃a' b',r=#[a',b']∧VR ι a a'∧VR ι b b':=by
 have hs:=h.size
 simp at hs
 match r,hs with
 | ⟨[x,y]⟩,_=>exact⟨x,y,rfl,h.at_ 0 a x rfl (by simp),h.at_ 1 b y rfl (by simp)⟩
theorem list1 {a:AV} {r:Array Value} (h:VRs ι [a] r):∃a',r=#[a']∧VR ι a a':=by
 have hs:=h.size
 simp at hs
 match r,hs with
 | ⟨[x]⟩,_=>exact⟨x,rfl,h.at_ 0 a x rfl (by simp)⟩
theorem aBuiltin_ok (hE:E.Ok P) (h:SR B w0 ι st w) {b:Builtin} {ts:List TypeId} {rT:TypeId} {cs:Array Bool} {args:List AV} {args':Array Value} {r:AV×ASt} (ha:VRs ι args args')
  (hr:aBuiltin E b ts args st=some r) :
  ∃ι' v w',(builtin b ts.toArray rT cs args').run P w=.ok (.value v) w'∧ι.le ι'∧SR B w0 ι' r.2 w'∧VR ι' r.1 v:=by
 have lift:∀{s:Sem Value},Did P B w0 ι w s r→∃ι' v w',(do pure (.value (←s)):Sem Next).run P w=.ok (.value v) w'∧ι.le ι'∧SR B w0 ι' r.2 w'∧VR ι' r.1 v:=by
  intro s ⟨ι',v,w',h1,h2,h3,h4⟩
  exact⟨ι',v,w',by simp only[Sem.run_bind,h1,Result.andThen_ok,Sem.run_pure],h2,h3,h4⟩
 have still:∀{s:Sem Value} {x:AV},(∃v,s.run P w=.ok v w∧VR ι x v)→r=(x,st)→Did P B w0 ι w s r:=by
  intro s x ⟨v,h1,h2⟩ e
  subst e
  exact⟨ι,v,w,h1,ι.le_refl,h,h2⟩
 unfold aBuiltin at hr
 split at hr
 ·split at hr
  ·obtain⟨a',b',rfl,h1,h2⟩:=list2 ha
   exact lift (aAppend_ok hE h h1 h2 hr)
  ·simp at hr
 ·split at hr
  ·obtain⟨a',b',rfl,h1,h2⟩:=list2 ha
   exact lift (aCopy_ok hE h h1 h2 hr)
  ·simp at hr
 ·split at hr
  ·obtain⟨a',rfl,h1⟩:=list1 ha
   split at hr
   ·rename_i v hv
    simp only[Option.some.injEq] at hr
    exact lift (still (aLenB_ok (rT:=rT) hE h1 hv) hr.symm)
   ·simp at hr
  ·simp at hr
 ·split at hr
  ·obtain⟨a',rfl,h1⟩:=list1 ha
   split at hr
   ·rename_i v hv
    simp only[Option.some.injEq] at hr
    exact lift (still (aCapB_ok (rT:=rT) hE h1 hv) hr.symm)
   ·simp at hr
  ·simp at hr
 ·split at hr
  ·rename_i x l
   split at hr
   ·rename_i v hv
    simp only[Option.some.injEq] at hr
    have hs:=ha.size
    match args',hs,ha with
    | ⟨x'::l'⟩,_,ha =>
     have hx:=ha.at_ 0 x x' rfl (by simp)
     have hl':VRs ι l l'.toArray:=⟨by have:=ha.size;simp at this;simpa using this,fun j a b ha' hb=>ha.at_ (j+1) a b (by simpa using ha') (by simpa using hb)⟩
     exact lift (s:=Builtin.min_ ts.toArray rT ⟨x'::l'⟩) (still (aMin_ok l l' x v x' hx hl' hv) hr.symm)
   ·simp at hr
  ·simp at hr
 ·split at hr
  ·rename_i x l
   split at hr
   ·rename_i v hv
    simp only[Option.some.injEq] at hr
    have hs:=ha.size
    match args',hs,ha with
    | ⟨x'::l'⟩,_,ha =>
     have hx:=ha.at_ 0 x x' rfl (by simp)
     have hl':VRs ι l l'.toArray:=⟨by have:=ha.size;simp at this;simpa using this,fun j a b ha' hb=>ha.at_ (j+1) a b (by simpa using ha') (by simpa using hb)⟩
     exact lift (s:=Builtin.max_ ts.toArray rT ⟨x'::l'⟩) (still (aMax_ok l l' x v x' hx hl' hv) hr.symm)
   ·simp at hr
  ·simp at hr
 ·simp at hr
end
end
end Go.Ax
end
