/-
  OWN WORK, A PART: an abstract machine for the program's text that the kernel can run, and the proof that it is sound: what it answers is what the program answers; contracts of functions by it. No condition.
-/
import Derived.Test.YtiafochainjglaaGreatDoorWaA
import Derived.Laws.Tables
import Derived.Laws.NewFold
section
namespace Go.Ax
noncomputable section
open Go.RowKit
def qY1:Option AV→Option (Option Nat)
 | none=>some none
 | some v=>match asN v with | some n=>some (some n) | none=>none
def OVR (ι:Ren):Option AV→Option Value→Prop
 | none,none=>True
 | some a,some v=>VR ι a v
 | _,_=>False
def qBK (len cap:Nat) (lo hi mx:Option Nat):Option (Nat×Nat×Nat) :=
 match mx with
 | some m =>
  match hi with
  | some h =>
   let l:=match lo with | some l=>l | none=>0
   bif Nat.ble m cap then bif Nat.ble h m then bif Nat.ble l h then some (l,h,m) else none else none else none
  | none=>none
 | none =>
  let h:=match hi with | some h=>h | none=>len
  let l:=match lo with | some l=>l | none=>0
  bif (match hi with | some h=>Nat.ble h cap | none=>true) then bif (match lo with | some l=>Nat.ble l h | none=>true) then some (l,h,cap) else none else none
def qCi (st:ASt) (i o z len:Nat):Nat :=
 match st.h.get i with
 | some (.cells cs _)=>bif Nat.beq z 0 then len else Nat.max len (Nat.div (Nat.sub cs.length o) z)
 | _=>len
def qBV (E:Env) (t:TypeId) (x:AV) (lo hi mx:Option AV) (st:ASt):Option AV :=
 match E.ty.get t with
 | none=>none
 | some ti =>
  match qY1 lo with
  | none=>none
  | some lo =>
  match qY1 hi with
  | none=>none
  | some hi =>
  match qY1 mx with
  | none=>none
  | some mx =>
  match ti.desc with
  | .string =>
   match x with
   | .str s =>
    match mx with
    | some _=>none
    | none =>
     match qBK s.length s.length lo hi none with
     | some (l,h,_)=>some (.str ((s.drop l).take (h - l)))
     | none=>none
   | _=>none
  | .array n e =>
   match x with
   | .ptr (some (i,o)) =>
    match qBK n n lo hi mx with
    | some (l,h,m) =>
     match E.ty.get e with
     | some ei=>some (.slice (some (i,bif Nat.beq m l then o else o+l*ei.size)) (h - l) (.known (m - l)))
     | none=>none
    | none=>none
   | _=>none
  | .slice e =>
   match E.ty.get e with
   | none=>none
   | some ei =>
   match x with
   | .slice none len (.known c) =>
    match qBK len c lo hi mx with
    | some (l,h,m)=>some (.slice none (h - l) (.known (m - l)))
    | none=>none
   | .slice (some (i,o)) len (.known c) =>
    match qBK len c lo hi mx with
    | some (l,h,m)=>some (.slice (some (i,bif Nat.beq m l then o else o+l*ei.size)) (h - l) (.known (m - l)))
    | none=>none
   | .slice (some (i,o)) len (.rest z) =>
    bif Nat.beq z ei.size then
     let know:=qCi st i o z len
     match qBK len know lo hi mx with
     | some (l,h,m) =>
      match mx with
      | some _=>some (.slice (some (i,bif Nat.beq m l then o else o+l*ei.size)) (h - l) (.known (m - l)))
      | none =>
       bif Nat.blt l know then some (.slice (some (i,o+l*ei.size)) (h - l) (.rest z))
       else bif Nat.beq l 0 then some (.slice (some (i,o)) 0 (.rest z)) else some .slice0
     | none=>none
    else none
   | .slice (some (i,o)) len (.atl c) =>
    let know:=Nat.max len c
    match qBK len know lo hi mx with
    | some (l,h,m) =>
     match mx with
     | some _=>some (.slice (some (i,bif Nat.beq m l then o else o+l*ei.size)) (h - l) (.known (m - l)))
     | none =>
      bif Nat.blt l know then some (.slice (some (i,o+l*ei.size)) (h - l) (.atl (know - l)))
      else bif Nat.beq l 0 then some (.slice (some (i,o)) 0 (.atl 0)) else some .slice0
    | none=>none
   | .slice0=>match qBK 0 0 lo hi mx with | some _=>some .slice0 | none=>none
   | _=>none
  | _=>none
section
variable {P:Program} {E:Env} {B:Prot} {w0:World} {ι:Ren} {st:ASt} {w:World}
theorem qLT {a:AV} {v:Value} {n:Nat} (h:VR ι a v) (hn:asN a=some n):∃k,v=.int k (n:Int):=by
 cases h with
 | int k m =>
  cases m with
  | ofNat m=>simp[asN] at hn;subst hn;exact⟨k,rfl⟩
  | negSucc m=>simp[asN] at hn
 | _=>simp[asN] at hn
theorem qMA {a:Option AV} {v:Option Value} {n:Option Nat} (h:OVR ι a v) (hn:qY1 a=some n) :
  (n=none∧v=none)∨∃m k,n=some m∧v=some (.int k (m:Int)):=by
 cases a with
 | none =>
  cases v with
  | none=>simp[qY1] at hn;exact .inl ⟨hn.symm,rfl⟩
  | some v=>exact h.elim
 | some a =>
  cases v with
  | none=>exact h.elim
  | some v =>
   simp only[qY1] at hn
   split at hn
   ·rename_i m hm;simp only[qz1] at hn;subst hn;obtain⟨k,hk⟩:=qLT h hm;exact .inr ⟨m,k,rfl,by rw[hk]⟩
   ·simp at hn
theorem qCL {k:IntKind} {n y:Nat} (h:n≤y) (code:BoundsCode):(Instr.sliceBound (.int k (n:Int)) y code).run P w=.ok n w:=by
 have h0:(0:Int)≤(n:Int)∧(n:Int)≤(y:Int):=⟨by omega,by omega⟩;simp only[Instr.sliceBound,asIntOf,Sem.run_bind,Sem.run_pure,Result.andThen_ok,h0,and_self,if_true,Int.toNat_natCast]
theorem qCT {a b:Nat} (h:Nat.ble a b=true):a≤b:=by rw[←Nat.ble_eq];exact h
theorem qDK {isS:Bool} {len cap:Nat} {lo hi mx:Option Value} {lo' hi' mx':Option Nat} {l h m:Nat} (hb:qBK len cap lo' hi' mx'=some (l,h,m))
  (hl:(lo'=none∧lo=none)∨∃q k,lo'=some q∧lo=some (.int k (q:Int))) (hh:(hi'=none∧hi=none)∨∃q k,hi'=some q∧hi=some (.int k (q:Int)))
  (hm:(mx'=none∧mx=none)∨∃q k,mx'=some q∧mx=some (.int k (q:Int))) (hle:len≤cap) (cap':Nat) (hcc:cap≤cap') :
  ∃m',(Instr.sliceBounds isS len cap' lo hi mx).run P w=.ok (l,h,m') w∧l≤h∧h≤m∧m≤cap∧(mx'=none→m=cap∧m'=cap')∧(mx'≠none→m'=m):=by
 rcases hm with⟨rfl,rfl⟩ | ⟨qm,km,rfl,rfl⟩
 ·simp only[qBK] at hb;rcases hh with⟨rfl,rfl⟩ | ⟨qh,kh,rfl,rfl⟩
  ·simp only[cond_true] at hb;rcases hl with⟨rfl,rfl⟩ | ⟨ql,kl,rfl,rfl⟩
   ·simp only[cond_true,qz1,Prod.mk.injEq] at hb;obtain⟨rfl,rfl,rfl⟩:=hb;exact⟨cap',by simp[Instr.sliceBounds],by omega,hle,Nat.le_refl _,fun _=>⟨rfl,rfl⟩,fun e=>absurd rfl e⟩
   ·cases h1:Nat.ble ql len
    ·simp only[h1,cond_false,reduceCtorEq] at hb
    ·simp only[h1,cond_true,qz1,Prod.mk.injEq] at hb;obtain⟨rfl,rfl,rfl⟩:=hb;have:=qCT h1;exact⟨cap',by simp[Instr.sliceBounds,qCL this],this,hle,Nat.le_refl _,fun _=>⟨rfl,rfl⟩,fun e=>absurd rfl e⟩
  ·cases h2:Nat.ble qh cap
   ·simp only[h2,cond_false,reduceCtorEq] at hb
   ·simp only[h2,cond_true] at hb;have hqh:=qCT h2;rcases hl with⟨rfl,rfl⟩ | ⟨ql,kl,rfl,rfl⟩
    ·simp only[cond_true,qz1,Prod.mk.injEq] at hb;obtain⟨rfl,rfl,rfl⟩:=hb;exact⟨cap',by simp[Instr.sliceBounds,qCL (Nat.le_trans hqh hcc)],by omega,hqh,Nat.le_refl _,fun _=>⟨rfl,rfl⟩,fun e=>absurd rfl e⟩
    ·cases h1:Nat.ble ql qh
     ·simp only[h1,cond_false,reduceCtorEq] at hb
     ·simp only[h1,cond_true,qz1,Prod.mk.injEq] at hb;obtain⟨rfl,rfl,rfl⟩:=hb;have:=qCT h1;exact⟨cap',by simp[Instr.sliceBounds,qCL (Nat.le_trans hqh hcc),qCL this],this,hqh,Nat.le_refl _,fun _=>⟨rfl,rfl⟩,fun e=>absurd rfl e⟩
 ·simp only[qBK] at hb;rcases hh with⟨rfl,rfl⟩ | ⟨qh,kh,rfl,rfl⟩
  ·simp at hb
  ·simp only at hb;cases h3:Nat.ble qm cap
   ·simp only[h3,cond_false,reduceCtorEq] at hb
   ·simp only[h3,cond_true] at hb;cases h2:Nat.ble qh qm
    ·simp only[h2,cond_false,reduceCtorEq] at hb
    ·simp only[h2,cond_true] at hb;have hqm:=qCT h3;have hqh:=qCT h2;rcases hl with⟨rfl,rfl⟩ | ⟨ql,kl,rfl,rfl⟩
     ·have h1:Nat.ble 0 qh=true:=by cases qh<;>rfl
      simp only[h1,cond_true,qz1,Prod.mk.injEq] at hb;obtain⟨rfl,rfl,rfl⟩:=hb;exact⟨qm,by simp[Instr.sliceBounds,qCL (Nat.le_trans hqm hcc),qCL hqh],by omega,hqh,hqm,fun e=>by simp at e,fun _=>rfl⟩
     ·cases h1:Nat.ble ql qh
      ·simp only[h1,cond_false,reduceCtorEq] at hb
      ·simp only[h1,cond_true,qz1,Prod.mk.injEq] at hb;obtain⟨rfl,rfl,rfl⟩:=hb;have:=qCT h1;exact⟨qm,by simp[Instr.sliceBounds,qCL (Nat.le_trans hqm hcc),qCL hqh,qCL this],this,hqh,hqm,fun e=>by simp at e,fun _=>rfl⟩
theorem qKR (L:Loc) (o l s m:Nat):(if m=l then (⟨L.b,L.p+o,none⟩:Addr) else Addr.add ⟨L.b,L.p+o,none⟩ (l*s))=⟨L.b,L.p+(bif Nat.beq m l then o else o+l*s),none⟩:=by
 rw[qFc,qCA]
 by_cases h:m=l<;>simp[h,Nat.add_assoc]
theorem qUG (h:SR B w0 ι st w) {i o z len c':Nat} {L:Loc} (hL:ι i=some L) (hc:L.p+o+c' * z=L.tot) (hl:len≤c'):len≤qCi st i o z len∧qCi st i o z len≤c':=by
 simp only[qCi]
 split
 ·rename_i cs rw hi;cases hz:Nat.beq z 0
  ·simp only[cond_false];refine⟨Nat.le_max_left _ _,Nat.max_le.2 ⟨hl,?_⟩⟩;obtain⟨L',ob,h1,h2,h3⟩:=h.obj i _ hi (by simp);rw[hL] at h1;cases h1;obtain⟨c,e,lo,hi',g1,g2,g3,_⟩:=h3;have hz0:0<z:=by
    rcases Nat.eq_zero_or_pos z with e | e
    ·subst e;simp at hz
    ·exact e
   show (cs.length - o) / z≤c';refine Nat.div_le_of_le_mul ?_;rw[Nat.mul_comm];omega
  ·simp only[cond_true];exact⟨Nat.le_refl _,hl⟩
 ·exact⟨Nat.le_refl _,hl⟩
theorem qRu (hE:E.Ok P) (hsr:SR B w0 ι st w) {t:TypeId} {x r:AV} {x':Value} {lo hi mx:Option AV} {lo' hi' mx':Option Value} (hx:VR ι x x') (hl:OVR ι lo lo') (hh:OVR ι hi hi')
  (hm:OVR ι mx mx') (hr:qBV E t x lo hi mx st=some r):∃v,(Instr.sliceAt t x' lo' hi' mx').run P w=.ok v w∧VR ι r v:=by
 simp only[qBV] at hr
 split at hr
 ·simp at hr
 rename_i ti hti
 split at hr
 ·simp at hr
 rename_i nlo hnlo
 split at hr
 ·simp at hr
 rename_i nhi hnhi
 split at hr
 ·simp at hr
 rename_i nmx hnmx;have hl':=qMA hl hnlo;have hh':=qMA hh hnhi;have hm':=qMA hm hnmx;have hk:=(qAS (hE.ty _ _ hti)).run_und w
 split at hr
 ·rename_i hd;rw[hd] at hk
  split at hr
  ·rename_i s;cases hx with
   | str _ s' hs =>
    split at hr
    ·simp at hr
    ·rcases hm' with⟨_,hmn⟩ | ⟨q,k,hq,_⟩
     ·subst hmn
      split at hr
      ·rename_i l h m hb;simp only[qz1] at hr;subst hr;have hsz:s.length=s'.size:=by rw[←hs];simp
       obtain⟨m',h1,h2,h3,h4,h5,h6⟩:=qDK (P:=P) (w:=w) (isS:=false) (lo:=lo') (hi:=hi') (mx:=none) hb hl' hh' (.inl ⟨rfl,rfl⟩) (Nat.le_refl _) _ (Nat.le_refl _);rw[hsz] at h1;refine⟨.string (s'.extract l h),?_,.str _ _ ?_⟩
       ·simp only[Instr.sliceAt,Sem.run_bind,hk,Result.andThen_ok,Instr.slice,Option.isSome_none,Bool.false_eq_true,if_false,h1,Sem.run_pure]
       ·rw[←hs,ByteArray.data_extract];simp[List.map_take,List.map_drop,List.extract_eq_take_drop]
      ·simp at hr
     ·simp at hq
  ·simp at hr
 ·rename_i n e hd;rw[hd] at hk
  split at hr
  ·rename_i i o;cases hx with
   | ptr _ _ L hL =>
    split at hr
    ·rename_i l h m hb
     split at hr
     ·rename_i ei hei;simp only[qz1] at hr;subst hr;obtain⟨m',h1,h2,h3,h4,h5,h6⟩:=qDK (P:=P) (w:=w) (isS:=false) (lo:=lo') (hi:=hi') (mx:=mx') hb hl' hh' hm' (Nat.le_refl _) _ (Nat.le_refl _);have em:m'=m:=by
           by_cases e:nmx=none
           ·have:=h5 e;omega
           ·exact h6 e
      rw[em] at h1;have hs:=(qAS (hE.ty _ _ hei)).run_size w;refine⟨.slice (some ⟨L.b,L.p+(bif Nat.beq m l then o else o+l*ei.size),none⟩) (h - l) (m - l),?_,.slice _ _ _ _ L _ hL rfl (by omega)⟩;simp only[Instr.sliceAt,Sem.run_bind,hk,Result.andThen_ok,Instr.sureAddr,Sem.run_pure,h1,hs,qKR]
     ·simp at hr
    ·simp at hr
  ·simp at hr
 ·rename_i e hd;rw[hd] at hk
  split at hr
  ·simp at hr
  rename_i ei hei;have hs:=(qAS (hE.ty _ _ hei)).run_size w
  split at hr
  ·rename_i len c;cases hx
   split at hr
   ·rename_i l h m hb;simp only[qz1] at hr;subst hr;obtain⟨m',h1,h2,h3,h4,h5,h6⟩:=qDK (P:=P) (w:=w) (isS:=true) (lo:=lo') (hi:=hi') (mx:=mx') hb hl' hh' hm' (Nat.le_refl _) _ (Nat.le_refl _);have em:m'=0∧m=0:=by
     by_cases e:nmx=none
     ·have:=h5 e;omega
     ·have:=h6 e;omega
    have e1:h=0:=by omega
    have e2:l=0:=by omega
    obtain⟨rfl,rfl⟩:=em;subst e1;subst e2;refine⟨.slice none 0 0,?_,.sliceN⟩;simp only[Instr.sliceAt,Sem.run_bind,hk,Result.andThen_ok,Instr.slice,h1,hs,Sem.run_pure,Option.map_none,ite_self,Nat.sub_self]
   ·simp at hr
  ·rename_i i o len c;cases hx with
   | slice _ _ _ c' L _ hL hc hlen =>
    have hc:c=c':=hc;subst hc
    split at hr
    ·rename_i l h m hb;simp only[qz1] at hr;subst hr;obtain⟨m',h1,h2,h3,h4,h5,h6⟩:=qDK (P:=P) (w:=w) (isS:=true) (lo:=lo') (hi:=hi') (mx:=mx') hb hl' hh' hm' hlen _ (Nat.le_refl _);have em:m'=m:=by
          by_cases e:nmx=none
          ·have:=h5 e;omega
          ·exact h6 e
     rw[em] at h1;refine⟨.slice (some ⟨L.b,L.p+(bif Nat.beq m l then o else o+l*ei.size),none⟩) (h - l) (m - l),?_,.slice _ _ _ _ L _ hL rfl (by omega)⟩;simp only[Instr.sliceAt,Sem.run_bind,hk,Result.andThen_ok,Instr.slice,h1,hs,Sem.run_pure,Option.map_some,←qKR]
     congr 2
     split<;>rfl
    ·simp at hr
  ·rename_i i o len z;cases hx with
   | slice _ _ _ c' L _ hL hc hlen =>
    have hc:L.p+o+c' * z=L.tot:=hc;cases hz:Nat.beq z ei.size
    ·simp only[hz,cond_false,reduceCtorEq] at hr
    simp only[hz,cond_true] at hr;have hz':=Nat.eq_of_beq_eq_true hz;obtain⟨hk1,hk2⟩:=qUG hsr hL hc hlen;generalize qCi st i o z len=know at hr hk1 hk2
    split at hr
    ·rename_i l h m hb;obtain⟨m',h1,h2,h3,h4,h5,h6⟩:=qDK (P:=P) (w:=w) (isS:=true) (lo:=lo') (hi:=hi') (mx:=mx') hb hl' hh' hm' hk1 c' hk2;have run:(Instr.sliceAt t (.slice (some ⟨L.b,L.p+o,none⟩) len c') lo' hi' mx').run P w =
       .ok (.slice (some ⟨L.b,L.p+(bif Nat.beq m' l then o else o+l*ei.size),none⟩) (h - l) (m' - l)) w:=by
      simp only[Instr.sliceAt,Sem.run_bind,hk,Result.andThen_ok,Instr.slice,h1,hs,Sem.run_pure,Option.map_some,←qKR]
      congr 2
      split<;>rfl
     refine⟨_,run,?_⟩
     split at hr
     ·simp only[qz1] at hr;subst hr;have em:m'=m:=h6 (by simp);subst em;exact .slice _ _ _ _ L _ hL rfl (by omega)
     ·have em:=h5 rfl;obtain⟨em1,em2⟩:=em;subst em2;cases hlt:Nat.blt l know
      ·simp only[hlt,cond_false] at hr;have hge:know≤l:=by
        have:¬l<know:=by intro e;rw[←Nat.blt_eq] at e;rw[e] at hlt;simp at hlt
        omega
       have e1:h - l=0:=by omega
       cases hl0:Nat.beq l 0
       ·simp only[hl0,cond_false,qz1] at hr;subst hr;rw[e1];exact .slice0 _ _
       ·simp only[hl0,cond_true,qz1] at hr;subst hr;have:=Nat.eq_of_beq_eq_true hl0;subst this;have e2:(bif Nat.beq m' 0 then o else o+0*ei.size)=o:=by cases Nat.beq m' 0<;>simp
        rw[e1,e2];exact .slice _ _ _ _ L _ hL hc (by omega)
      ·simp only[hlt,cond_true,qz1] at hr;subst hr;have hlt':l<know:=by rw[←Nat.blt_eq];exact hlt
       have e2:Nat.beq m' l=false:=by
        cases e:Nat.beq m' l
        ·rfl
        ·have:=Nat.eq_of_beq_eq_true e;omega
       rw[e2];simp only[cond_false];refine .slice _ _ _ _ L _ hL ?_ (by omega);show L.p+(o+l*ei.size)+(m' - l)*z=L.tot;rw[hz'] at hc ⊢;rw[←hc,Nat.sub_mul];have:l*ei.size≤m' * ei.size:=Nat.mul_le_mul_right _ (by omega);omega
    ·simp at hr
  ·rename_i i o len cc;cases hx with
   | slice _ _ _ c' L _ hL hc hlen =>
    have hc:cc≤c':=hc;have hk1:len≤Nat.max len cc:=Nat.le_max_left _ _;have hk2:Nat.max len cc≤c':=Nat.max_le.2 ⟨hlen,hc⟩;generalize Nat.max len cc=know at hr hk1 hk2
    split at hr
    ·rename_i l h m hb;obtain⟨m',h1,h2,h3,h4,h5,h6⟩:=qDK (P:=P) (w:=w) (isS:=true) (lo:=lo') (hi:=hi') (mx:=mx') hb hl' hh' hm' hk1 c' hk2;have run:(Instr.sliceAt t (.slice (some ⟨L.b,L.p+o,none⟩) len c') lo' hi' mx').run P w =
       .ok (.slice (some ⟨L.b,L.p+(bif Nat.beq m' l then o else o+l*ei.size),none⟩) (h - l) (m' - l)) w:=by
      simp only[Instr.sliceAt,Sem.run_bind,hk,Result.andThen_ok,Instr.slice,h1,hs,Sem.run_pure,Option.map_some,←qKR]
      congr 2
      split<;>rfl
     refine⟨_,run,?_⟩
     split at hr
     ·simp only[qz1] at hr;subst hr;have em:m'=m:=h6 (by simp);subst em;exact .slice _ _ _ _ L _ hL rfl (by omega)
     ·have em:=h5 rfl;obtain⟨em1,em2⟩:=em;subst em2;cases hlt:Nat.blt l know
      ·simp only[hlt,cond_false] at hr;have hge:know≤l:=by
        have:¬l<know:=by intro e;rw[←Nat.blt_eq] at e;rw[e] at hlt;simp at hlt
        omega
       have e1:h - l=0:=by omega
       cases hl0:Nat.beq l 0
       ·simp only[hl0,cond_false,qz1] at hr;subst hr;rw[e1];exact .slice0 _ _
       ·simp only[hl0,cond_true,qz1] at hr;subst hr;have:=Nat.eq_of_beq_eq_true hl0;subst this;have e2:(bif Nat.beq m' 0 then o else o+0*ei.size)=o:=by cases Nat.beq m' 0<;>simp
        rw[e1,e2];exact .slice _ _ _ _ L _ hL (Nat.zero_le _) (by omega)
      ·simp only[hlt,cond_true,qz1] at hr;subst hr;have hlt':l<know:=by rw[←Nat.blt_eq];exact hlt
       have e2:Nat.beq m' l=false:=by
        cases e:Nat.beq m' l
        ·rfl
        ·have:=Nat.eq_of_beq_eq_true e;omega
       rw[e2];simp only[cond_false];exact .slice _ _ _ _ L _ hL (show _≤_ by omega) (by omega)
    ·simp at hr
  ·cases hx with
   | slice0 a0 c' =>
    split at hr
    ·rename_i b hb;obtain⟨l,h,m⟩:=b;simp only[qz1] at hr;subst hr;obtain⟨m',h1,h2,h3,h4,h5,h6⟩:=qDK (P:=P) (w:=w) (isS:=true) (lo:=lo') (hi:=hi') (mx:=mx') hb hl' hh' hm' (Nat.le_refl 0) c' (Nat.zero_le _);have e1:h=0:=by omega
     have e2:l=0:=by omega
     subst e1;subst e2;refine⟨.slice (some (if m'=0 then a0 else Addr.add a0 (0*ei.size))) 0 m',?_,.slice0 _ _⟩;simp only[Instr.sliceAt,Sem.run_bind,hk,Result.andThen_ok,Instr.slice,h1,hs,Sem.run_pure,Option.map_some,Nat.sub_zero]
     congr 2
     split<;>rfl
    ·simp at hr
  ·simp at hr
 ·simp at hr
end
def qGO (z:List AV):Nat→List AV
 | 0=>[]
 | n+1=>z++qGO z n
theorem qJ7 (z:List AV):∀n,(qGO z n).length=n*z.length
 | 0=>by simp[qGO]
 | n+1=>by simp[qGO,qJ7 z n,Nat.add_mul];omega
theorem qNC (z:List AV):∀n i,i<n*z.length→(qGO z n)[i]? = z[i % z.length]?
 | 0,i,h=>by omega
 | n+1,i,h=>by
  simp only[qGO]
  by_cases hi:i<z.length
  ·rw[List.getElem?_append_left hi,Nat.mod_eq_of_lt hi]
  ·have hi':z.length≤i:=by omega
   rw[List.getElem?_append_right hi',qNC z n (i - z.length) (by rw[Nat.add_mul] at h;omega)]
   congr 1
   rw[Nat.mod_eq_sub_mod hi']
theorem qDg {z:List AV} (hz:∀v,v∈z→v.isCell=true):∀n v,v∈qGO z n→v.isCell=true
 | 0,v,h=>by simp[qGO] at h
 | n+1,v,h=>by
  simp only[qGO,List.mem_append] at h;rcases h with h | h
  ·exact hz v h
  ·exact qDg hz n v h
theorem qFl {ι:Ren} {z:List AV} {z':Array Value} (h:VRs ι z z') (n:Nat) :
  VRs ι (qGO z n) ((Array.range (n*z'.size)).map (z'[· % z'.size]!)):=by
 refine⟨by rw[qJ7,h.size];simp,fun i v v' hv hv'=>?_⟩;have hi:i<n*z.length:=by have:=(List.getElem?_eq_some_iff.1 hv).1;rw[qJ7] at this;exact this
 rw[qNC z n i hi] at hv;have hi':i<n*z'.size:=by rw[←h.size];exact hi
 simp[hi'] at hv';have hpos:0<z'.size:=by
  rcases Nat.eq_zero_or_pos z'.size with e | e
  ·rw[e] at hi';simp at hi'
  ·exact e
 have hm:i % z'.size<z'.size:=Nat.mod_lt _ hpos;rw[getElem!_pos z' _ hm] at hv';rw[h.size] at hv;exact h.at_ _ v v' hv (by rw[Array.getElem?_eq_getElem hm,hv'])
def qOa (E:Env) (t:TypeId) (len cap:AV) (st:ASt):Option (AV×ASt) :=
 match E.ty.get t with
 | none=>none
 | some ti =>
  match ti.desc with
  | .slice e =>
   match E.ty.get e with
   | none=>none
   | some ei =>
    match asN len with
    | none=>none
    | some l =>
     match asN cap with
     | none=>none
     | some c =>
      match ei.zero with
      | none=>none
      | some z =>
       bif Nat.ble (ei.bytes*c) 281474976710656 then
        bif Nat.ble l c then
         bif Nat.blt c 9223372036854775808 then
          match z with
          | .tuple _=>none
          | .any=>none
          | _=>bif Nat.beq (cellsOf z).length ei.size then some (.slice (some (st.next,0)) l (.known c),st.add (.cells (qGO (cellsOf z) c) true)) else none
         else none
        else none
       else none
  | _=>none
def qIV (place:Nat→Option (Nat×Nat)) (cells:List AV):List (Nat×AV)→Option (List AV)
 | []=>some cells
 | (i,v)::rest =>
  match place i with
  | none=>none
  | some (off,size) =>
   match v with
   | .tuple _=>none
   | .any=>none
   | _ =>
    bif Nat.beq (cellsOf v).length size then
     bif Nat.beq size 0 then none else
     match qHH cells off (cellsOf v) with
     | some cells'=>qIV place cells' rest
     | none=>none
    else none
def qRr (E:Env):List Field→Bool
 | []=>true
 | f::fs=>match E.ty.get f.type with | some _=>qRr E fs | none=>false
def placeOf (E:Env):Option Field→Option (Nat×Nat)
 | some f=>match E.ty.get f.type with | some fi=>some (f.offset,fi.size) | none=>none
 | none=>none
def qSL (E:Env) (t:TypeId) (parts:List (Nat×AV)):Option AV :=
 match E.ty.get t with
 | none=>none
 | some ti =>
  match ti.zero with
  | some (.agg z) =>
   match ti.desc with
   | .struct fs =>
    bif qRr E fs.toList then
     match qIV (fun i=>placeOf E fs[i]?) z parts with
     | some cs=>some (.agg cs)
     | none=>none
    else none
   | .array _ e =>
    match E.ty.get e with
    | some ei =>
     match qIV (fun i=>some (i*ei.size,ei.size)) z parts with
     | some cs=>some (.agg cs)
     | none=>none
    | none=>none
   | _=>none
  | _=>none
def qFg (E:Env) (t:TypeId) (len:Nat) (parts:List (Nat×AV)) (st:ASt):Option (AV×ASt) :=
 match E.ty.get t with
 | none=>none
 | some ti =>
  match ti.desc with
  | .slice e =>
   match E.ty.get e with
   | none=>none
   | some ei =>
    match ei.zero with
    | none=>none
    | some z =>
     match z with
     | .tuple _=>none
     | .any=>none
     | _ =>
      bif Nat.beq (cellsOf z).length ei.size then
       bif Nat.ble (len*ei.size) 16777216 then
        match qIV (fun i=>some (i*ei.size,ei.size)) (qGO (cellsOf z) len) parts with
        | some cs=>some (.slice (some (st.next,0)) len (.known len),st.add (.cells cs true))
        | none=>none
       else none
      else none
  | _=>none
section
variable {P:Program} {E:Env} {B:Prot} {w0:World} {ι:Ren} {st:ASt} {w:World}
theorem qEz:(2:Int) ^ 48=281474976710656∧(2:Nat) ^ 24=16777216:=by decide
theorem qCc {n:Nat} (h:n<9223372036854775808):IntKind.i64.wrap (n:Int)=(n:Int):=by
 rw[←qBb];simp only[qAH,qB5,big,half];have e:n % 18446744073709551616=n:=Nat.mod_eq_of_lt (by omega);show (bif Nat.blt (n % 18446744073709551616) 9223372036854775808 then Int.ofNat (n % 18446744073709551616) else _)=_;rw[e,qKL];simp[h]
theorem qC8 {z:AV} (h:(∀vs,z≠.tuple vs)∧z≠.any):(∃l,z=.agg l)∨z.isCell=true:=by
 cases z<;>simp_all[AV.isCell]
theorem qGK (hE:E.Ok P) {e:TypeId} {ei:TI} {z:AV} (hei:E.ty.get e=some ei) (hz:ei.zero=some z) (hnt:(∀vs,z≠.tuple vs)∧z≠.any) (w:World) :
  ∃v,(zeroValue e).run P w=.ok v w∧(∀ι,VRs ι (cellsOf z) v.cells)∧∀x,x∈cellsOf z→x.isCell=true:=by
 obtain⟨v,h1,h2⟩:=(qAS (hE.ty _ _ hei)).run_zero hz w;exact⟨v,h1,fun ι=>((h2 ι).cells (qC8 hnt)).1,((h2 (fun _=>none)).cells (qC8 hnt)).2⟩
theorem qUI (hE:E.Ok P) (h:SR B w0 ι st w) {t:TypeId} {len cap:AV} {len' cap':Value} {r:AV×ASt} (hl:VR ι len len') (hc:VR ι cap cap')
  (hr:qOa E t len cap st=some r):Did P B w0 ι w (Instr.makeSlice t len' cap') r:=by
 simp only[qOa] at hr
 split at hr
 ·simp at hr
 rename_i ti hti;have hk:=(qAS (hE.ty _ _ hti)).run_und w
 split at hr
 ·rename_i e hd;rw[hd] at hk
  split at hr
  ·simp at hr
  rename_i ei hei
  split at hr
  ·simp at hr
  rename_i l hl'
  split at hr
  ·simp at hr
  rename_i c hc'
  split at hr
  ·simp at hr
  rename_i z hz;obtain⟨kl,rfl⟩:=qLT hl hl';obtain⟨kc,rfl⟩:=qLT hc hc';cases h1:Nat.ble (ei.bytes*c) 281474976710656
  ·simp only[h1,cond_false,reduceCtorEq] at hr
  cases h2:Nat.ble l c
  ·simp only[h1,h2,cond_true,cond_false,reduceCtorEq] at hr
  cases h3:Nat.blt c 9223372036854775808
  ·simp only[h1,h2,h3,cond_true,cond_false,reduceCtorEq] at hr
  simp only[h1,h2,h3,cond_true] at hr;have g1:=qCT h1;have g2:=qCT h2;have g3:c<9223372036854775808:=by rw[←Nat.blt_eq];exact h3
  have fin:((∀vs,z≠.tuple vs)∧z≠.any)→(bif Nat.beq (cellsOf z).length ei.size then some (AV.slice (some (st.next,0)) l (.known c),st.add (.cells (qGO (cellsOf z) c) true)) else none)=some r →
    Did P B w0 ι w (Instr.makeSlice t (.int kl (l:Int)) (.int kc (c:Int))) r:=by
   intro hnt hr;cases hb:Nat.beq (cellsOf z).length ei.size
   ·simp only[hb,cond_false,reduceCtorEq] at hr
   simp only[hb,cond_true,qz1] at hr;have hsz:=Nat.eq_of_beq_eq_true hb;obtain⟨v,hv1,hv2,hv3⟩:=qGK hE hei hz hnt w;obtain⟨i,hi1,hi2,hi3⟩:=(qAS (hE.ty _ _ hei)).run_info w;have hvs:v.cells.size=ei.size:=by rw[←(hv2 ι).size,hsz]
   let zr:Array Value:=if c*ei.size=0 then #[] else v.cells
   have hrow:((Array.range (c*ei.size)).map (zr[· % zr.size]!))=((Array.range (c*v.cells.size)).map (v.cells[· % v.cells.size]!)):=by
    rw[hvs]
    by_cases h0:c*ei.size=0
    ·rw[h0];simp
    ·simp only[zr,h0,if_false,hvs]
   obtain⟨ι',q1,q2,q3,q4⟩:=qHf (P:=P) h e (qFl (hv2 ι) c) (qDg hv3 c);subst hr;refine⟨ι',.slice (some ⟨w.heap.size,0,none⟩) l c,_,?_,q2,q3,?_⟩
   ·have w1:=qCc g3;have w2:IntKind.i64.wrap (l:Int)=(l:Int):=qCc (by omega);have hb1:((i.bytes:Int)*(c:Int) > 281474976710656)=False:=by
     rw[hi2];have:((ei.bytes*c:Nat):Int)=(ei.bytes:Int)*(c:Int):=by simp
     rw[←this];simp;omega
    have hs:=(qAS (hE.ty _ _ hei)).run_size w;have hlt0:¬((c:Int)<0):=by omega
    have hlt1:¬((l:Int)<0):=by omega
    have hlt2:¬((l:Int) > (c:Int)):=by omega
    by_cases h0:c*ei.size=0
    ·simp only[zr,h0,if_true] at hrow;rw[←hrow] at q1 ⊢;simp only[Instr.makeSlice,asInt,asIntOf,Sem.run_bind,hk,Sem.run_pure,Result.andThen_ok,hi1,w1,w2,qEz.1,hb1,decide_false,Bool.or_false,hlt0,hlt1,hlt2,Bool.false_eq_true,
      if_false,run_askRoom,hs,Int.toNat_natCast,h0,if_true,q1]
    ·simp only[zr,h0,if_false] at hrow;rw[←hrow] at q1 ⊢;simp only[Instr.makeSlice,asInt,asIntOf,Sem.run_bind,hk,Sem.run_pure,Result.andThen_ok,hi1,w1,w2,qEz.1,hb1,decide_false,Bool.or_false,hlt0,hlt1,hlt2,Bool.false_eq_true,
      if_false,run_askRoom,hs,Int.toNat_natCast,h0,hv1,q1]
   ·exact .slice _ _ _ _ _ _ q4 rfl g2
  cases z<;>first | (simp at hr;done) | exact fin ⟨by simp,by simp⟩ hr
 ·simp at hr
theorem foldl_set (off:Nat):∀(vs:List Value) (k:Nat) (cells:Array Value) (i:Nat),off+k+vs.length≤cells.size →
  ((vs.zipIdx k).foldl (fun (cs:Array Value) (c:Value×Nat)=>cs.setIfInBounds (off+c.2) c.1) cells)[i]? =
   if off+k≤i∧i<off+k+vs.length then vs[i - (off+k)]? else cells[i]?
 | [],k,cells,i,h=>by simp;omega
 | v::vs,k,cells,i,h=>by
  simp only[List.zipIdx_cons,List.foldl_cons];rw[foldl_set off vs (k+1) (cells.setIfInBounds (off+k) v) i (by simp at h ⊢;omega)];simp only[List.length_cons] at h ⊢
  by_cases h1:off+(k+1)≤i∧i<off+(k+1)+vs.length
  ·have h2:off+k≤i∧i<off+k+(vs.length+1):=by omega
   simp only[h1,h2,and_self,if_true];have:i - (off+k)=(i - (off+(k+1)))+1:=by omega
   rw[this,List.getElem?_cons_succ]
  ·simp only[h1,if_false];rw[Array.getElem?_setIfInBounds]
   by_cases h3:off+k=i
   ·subst h3;have:off+k<cells.size:=by omega
    simp[this]
   ·have h4:¬(off+k≤i∧i<off+k+(vs.length+1)):=by omega
    simp[h3,h4]
theorem qFO (off:Nat):∀(vs:List (Value×Nat)) (cells:Array Value),(vs.foldl (fun (cs:Array Value) (c:Value×Nat)=>cs.setIfInBounds (off+c.2) c.1) cells).size=cells.size
 | [],cells=>rfl
 | v::vs,cells=>by simp only[List.foldl_cons];rw[qFO off vs];simp
theorem qMw:∀(vs cs cs':List AV) (o:Nat),qHH cs o vs=some cs'→(∀i,cs'[i]? = if o≤i∧i<o+vs.length then vs[i - o]? else cs[i]?)∧cs'.length=cs.length∧(vs≠[]→o+vs.length≤cs.length)
 | [],cs,cs',o,h=>by
  rw[qMv] at h;cases h;exact⟨fun i=>by simp;omega,rfl,fun h=>absurd rfl h⟩
 | v::vs,cs,cs',o,h=>by
  obtain⟨h1,h2⟩:=qK5 _ _ _ _ _ h;obtain⟨h3,h4,h5⟩:=qMw vs _ _ _ h2;refine⟨fun i=>?_,by rw[h4];simp,fun _=>?_⟩
  ·rw[h3 i];simp only[List.length_cons]
   by_cases c1:o+1≤i∧i<o+1+vs.length
   ·have c2:o≤i∧i<o+(vs.length+1):=by omega
    simp only[c1,c2,and_self,if_true];have:i - o=(i - (o+1))+1:=by omega
    rw[this,List.getElem?_cons_succ]
   ·simp only[c1,if_false];rw[List.getElem?_set]
    by_cases c3:o=i
    ·subst c3;simp[h1]
    ·have c4:¬(o≤i∧i<o+(vs.length+1)):=by omega
     simp[c3,c4]
  ·by_cases hn:vs=[]
   ·subst hn;simp;omega
   ·have:=h5 hn;simp at this ⊢;omega
theorem qGE {place place':Nat→Option (Nat×Nat)} (hp:∀i x,place i=some x→place' i=some x) :
  ∀(parts:List (Nat×AV)) (parts':List (Nat×Value)) (cells cs:List AV) (cells':Array Value),parts.map (·.1)=parts'.map (·.1) →
   (∀(k:Nat) p p',parts[k]? = some p→parts'[k]? = some p'→VR ι p.2 p'.2)→VRs ι cells cells'→(∀v,v∈cells→v.isCell=true) →
   qIV place cells parts=some cs→∃cs',Instr.fill place' cells' parts'=some cs'∧VRs ι cs cs'∧∀v,v∈cs→v.isCell=true
 | [],parts',cells,cs,cells',hm,hv,hc,hcc,h=>by
  simp[qIV] at h;subst h;have:parts'=[]:=by simpa using hm.symm
  subst this;exact⟨cells',rfl,hc,hcc⟩
 | (i,v)::rest,[],cells,cs,cells',hm,hv,hc,hcc,h=>by simp at hm
 | (i,v)::rest,(i',v')::rest',cells,cs,cells',hm,hv,hc,hcc,h=>by
  simp at hm;obtain⟨rfl,hm⟩:=hm;have hvv:VR ι v v':=hv 0 _ _ rfl rfl;simp only[qIV] at h
  split at h
  ·simp at h
  rename_i off size hpl;have fin:((∃l,v=.agg l)∨v.isCell=true)→(bif Nat.beq (cellsOf v).length size then
     bif Nat.beq size 0 then none else
     match qHH cells off (cellsOf v) with
     | some cells'=>qIV place cells' rest
     | none=>none
    else none)=some cs→∃cs',Instr.fill place' cells' ((i,v')::rest')=some cs'∧VRs ι cs cs'∧∀v,v∈cs→v.isCell=true:=by
   intro hcell h;obtain⟨g1,g2⟩:=hvv.cells hcell;cases hb:Nat.beq (cellsOf v).length size
   ·simp only[hb,cond_false,reduceCtorEq] at h
   simp only[hb,cond_true] at h;have hsz:=Nat.eq_of_beq_eq_true hb;have hs0:Nat.beq size 0=false:=by
    cases hs0:Nat.beq size 0
    ·rfl
    ·simp only[hs0,cond_true,reduceCtorEq] at h
   simp only[hs0,cond_false] at h;have hne0:size≠0:=by intro e;rw[e] at hs0;simp at hs0
   split at h
   ·rename_i cells1 hset;obtain⟨s1,s2,s3⟩:=qMw _ _ _ _ hset;have hvsz:v'.cells.size=size:=by rw[←g1.size,hsz]
    by_cases hbound:off+v'.cells.size≤cells'.size
    ·have hnew:VRs ι cells1 (v'.cells.zipIdx.foldl (fun cs (c,j)=>cs.setIfInBounds (off+j) c) cells'):=by
      refine⟨?_,fun k x x' hx hx'=>?_⟩
      ·rw[s2,hc.size,←Array.foldl_toList];have:=qFO off v'.cells.zipIdx.toList cells';exact this.symm
      ·rw[s1 k] at hx;rw[←Array.foldl_toList] at hx';have e:v'.cells.zipIdx.toList=v'.cells.toList.zipIdx 0:=by simp
       rw[e] at hx';have:=foldl_set off v'.cells.toList 0 cells' k (by simpa using hbound);have hx'':(if off+0≤k∧k<off+0+v'.cells.toList.length then v'.cells.toList[k - (off+0)]? else cells'[k]?)=some x':=by rw[←this];exact hx'
       simp only[Nat.add_zero,Array.length_toList] at hx'';rw[g1.size] at hx
       by_cases hcond:off≤k∧k<off+v'.cells.size
       ·simp only[hcond,and_self,if_true] at hx hx'';exact g1.at_ _ x x' hx (by simpa using hx'')
       ·simp only[hcond,if_false] at hx hx'';exact hc.at_ k x x' hx hx''
     have hcc1:∀x,x∈cells1→x.isCell=true:=by
      intro x hx;obtain⟨k,hk,e⟩:=List.getElem_of_mem hx;have:=s1 k;rw[List.getElem?_eq_getElem hk,e] at this
      split at this
      ·exact g2 x (List.mem_of_getElem? this.symm)
      ·exact hcc x (List.mem_of_getElem? this.symm)
     obtain⟨cs',f1,f2,f3⟩:=qGE hp rest rest' cells1 cs _ hm (fun k p p' a b=>hv (k+1) p p' (by simpa using a) (by simpa using b)) hnew hcc1 h;refine⟨cs',?_,f2,f3⟩;simp only[Instr.fill,hp _ _ hpl];have c1:¬(v'.cells.size≠size || off+v'.cells.size > cells'.size)=true:=by simp[hvsz];omega
     simp only[c1];exact f1
    ·exfalso;apply hbound;have hn:cellsOf v≠[]:=by intro e;rw[e] at hsz;simp at hsz;omega
     have:=s3 hn;rw[hc.size,g1.size] at this;exact this
   ·simp at h
  cases v<;>first | (simp at h;done) | exact fin (.inr rfl) h | exact fin (.inl ⟨_,rfl⟩) h
end
def qL7 (x:AV):Option Nat :=
 match x with
 | .slice _ n _=>some n
 | .slice0=>some 0
 | .str s=>some s.length
 | _=>none
def qAw (st:ASt) (esz n:Nat) (x:AV):Option (List AV) :=
 match x with
 | .slice none _ _=>bif Nat.beq n 0 then some [] else none
 | .slice (some (i,o)) _ _ =>
  match st.h.get i with
  | some (.cells cs _)=>qAy cs o (n*esz)
  | _=>none
 | .slice0=>bif Nat.beq n 0 then some [] else none
 | .str s=>bif Nat.beq esz 1 then some (ofBytes (s.take n)) else none
 | _=>none
def qII (st:ASt) (i k e:Nat):Bool :=
 match st.h.get i with
 | some (.cells cs true)=>bif Nat.ble k cs.length then Nat.blt 0 e else false
 | _=>false
def qBT (ei:TI) (st:ASt) (s:AV) (n:Nat) (new:List AV):Option (AV×ASt) :=
 match s with
 | .slice none _ (.known _) =>
  bif Nat.beq n 0 then some (s,st)
  else bif Nat.ble ((2*n+200)*ei.bytes) 281474976710656 then
   bif Nat.blt n 4611686018427387904 then some (.slice (some (st.next,0)) n (.rest ei.size),st.add (.cells new true)) else none
  else none
 | .slice (some (i,o)) l (.known c) =>
  bif Nat.ble (l+n) c then
   bif Nat.beq n 0 then some (s,st)
   else
    match st.h.get i with
    | some (.cells cs true) =>
     match qHH cs (o+l*ei.size) new with
     | some cs'=>some (.slice (some (i,o)) (l+n) (.known c),st.put i (.cells cs' true))
     | none=>none
    | _=>none
  else bif Nat.ble ((2*(l+n)+200)*ei.bytes) 281474976710656 then
   bif Nat.blt (l+n) 4611686018427387904 then
    match qAw st ei.size l s with
    | some old=>some (.slice (some (st.next,0)) (l+n) (.rest ei.size),st.add (.cells (old++new) true))
    | none=>none
   else none
  else none
 | .slice (some (i,o)) l (.rest zz) =>
  bif Nat.beq n 0 then some (s,st)
  else bif Nat.beq zz ei.size then
   bif qII st i (o+(l+n)*ei.size) ei.size then
    match st.h.get i with
    | some (.cells cs true) =>
     match qHH cs (o+l*ei.size) new with
     | some cs'=>some (.slice (some (i,o)) (l+n) (.rest zz),st.put i (.cells cs' true))
     | none=>none
    | _=>none
   else bif Nat.ble ((2*(l+n)+200)*ei.bytes) 281474976710656 then
    bif Nat.blt (l+n) 4611686018427387904 then
     match st.h.get i with
     | some (.cells cs true) =>
      match qAy cs o (l*ei.size) with
      | some old=>some (.slice (some (st.next,0)) (l+n) (.rest ei.size),(st.put i .dead).add (.cells (old++new) true))
      | none=>none
     | _=>none
    else none
   else none
  else none
 | _=>none
def qGq:TypeDesc→Bool
 | .int _=>true
 | _=>false
def qEr (E:Env) (sT xT:TypeId) (s x:AV) (st:ASt):Option (AV×ASt) :=
 match E.ty.get sT with
 | none=>none
 | some ti =>
  match E.ty.get xT with
  | none=>none
  | some tx =>
   bif qGq tx.desc then none else
   match ti.desc with
   | .slice e =>
    match E.ty.get e with
    | none=>none
    | some ei =>
     match ei.zero with
     | none=>none
     | some z =>
      match z with
      | .tuple _=>none
      | .any=>none
      | _ =>
       bif Nat.beq (cellsOf z).length ei.size then
        match qL7 x with
        | none=>none
        | some n =>
         match qAw st ei.size n x with
         | none=>none
         | some new=>qBT ei st s n new
       else none
   | _=>none
section
variable {P:Program} {E:Env} {B:Prot} {w0:World} {ι:Ren} {st:ASt} {w:World}
theorem qLB (n:Nat):∀(r c:Nat),c≤n+n / 4+192→Builtin.growBy n r c≤n+n / 4+192
 | 0,c,h=>h
 | r+1,c,h=>by
  simp only[Builtin.growBy]
  split
  ·exact h
  ·exact qLB n r _ (by omega)
theorem qOM {n c:Nat} (h:c<n):Builtin.nextslicecap n c≤2*n+200:=by
 unfold Builtin.nextslicecap
 split
 ·omega
 ·split
  ·omega
  ·have:=qLB n 4 c (by omega);omega
theorem qSB {x:AV} {x':Value} {n:Nat} (hx:VR ι x x') (h:qL7 x=some n):(Builtin.lenOf x').run P w=.ok n w:=by
 cases hx with
 | str l s hs=>simp[qL7] at h;subst h;simp[Builtin.lenOf];rw[←hs];simp
 | sliceN=>simp[qL7] at h;subst h;rfl
 | slice i o l c' L c h1 h2 h3=>simp[qL7] at h;subst h;rfl
 | slice0 a c=>simp[qL7] at h;subst h;rfl
 | _=>simp[qL7] at h
theorem qDM (h:SR B w0 ι st w) {x:AV} {x':Value} {esz n:Nat} {l:List AV} (hx:VR ι x x') (hf:qAw st esz n x=some l):∃r,(Builtin.firstCells esz n x').run P w=.ok r w∧VRs ι l r∧∀v,v∈l→v.isCell=true:=by
 cases hx with
 | str m s hs =>
  simp only[qAw] at hf;cases h1:Nat.beq esz 1
  ·simp only[h1,cond_false,reduceCtorEq] at hf
  simp only[h1,cond_true,qz1] at hf;subst hf;have e:(m.take n)=((s.extract 0 n).data.toList).map UInt8.toNat:=by
   rw[ByteArray.data_extract];simp[←hs,List.map_take]
  refine⟨(s.extract 0 n).data.map fun b=>.int .u8 b.toNat,by simp[Builtin.firstCells],?_,?_⟩
  ·rw[e,qB4];refine⟨by simp,fun i v v' hv hv'=>?_⟩;simp only[List.getElem?_map,Array.getElem?_map,Array.getElem?_toList] at hv hv';cases hb:(s.extract 0 n).data[i]? with
   | none=>rw[hb] at hv;simp at hv
   | some b=>rw[hb] at hv hv';simp at hv hv';subst hv;subst hv';exact .int _ _
  ·rw[e,qB4];intro v hv;obtain⟨b,_,rfl⟩:=List.mem_map.1 hv;rfl
 | sliceN =>
  simp only[qAw] at hf;cases hn:Nat.beq n 0
  ·simp only[hn,cond_false,reduceCtorEq] at hf
  ·simp only[hn,cond_true,qz1] at hf;subst hf;exact⟨#[],rfl,⟨rfl,fun i v v' hv=>by simp at hv⟩,by simp⟩
 | slice i o m c' L c hL h2 h3 =>
  simp only[qAw] at hf
  split at hf
  ·rename_i cs rw hi;obtain⟨r,h4,h5,h6⟩:=h.loadCells (P:=P) hi hf hL;exact⟨r,by simp only[Builtin.firstCells];exact h4,h5,h6⟩
  ·simp at hf
 | slice0 a c =>
  simp only[qAw] at hf;cases hn:Nat.beq n 0
  ·simp only[hn,cond_false,reduceCtorEq] at hf
  ·simp only[hn,cond_true,qz1] at hf;subst hf;have:=Nat.eq_of_beq_eq_true hn;subst this;exact⟨#[],by simp[Builtin.firstCells,loadCells,loadCellsFrom],⟨rfl,fun i v v' hv=>by simp at hv⟩,by simp⟩
 | _=>simp[qAw] at hf
theorem VRs.append {l1 l2:List AV} {r1 r2:Array Value} (h1:VRs ι l1 r1) (h2:VRs ι l2 r2):VRs ι (l1++l2) (r1++r2):=by
 refine⟨by simp[h1.size,h2.size],fun i v v' hv hv'=>?_⟩
 by_cases hi:i<l1.length
 ·rw[List.getElem?_append_left hi] at hv;rw[Array.getElem?_append_left (by rw[←h1.size];exact hi)] at hv';exact h1.at_ i v v' hv hv'
 ·have hi':l1.length≤i:=by omega
  rw[List.getElem?_append_right hi'] at hv;rw[Array.getElem?_append_right (by rw[←h1.size];exact hi'),←h1.size] at hv';exact h2.at_ _ v v' hv hv'
theorem qXK (h:SR B w0 ι st w) {e:TypeId} {old new:List AV} {ro rn rest:Array Value} (h1:VRs ι old ro) (h2:VRs ι new rn)
  (c1:∀v,v∈old→v.isCell=true) (c2:∀v,v∈new→v.isCell=true) :
  ∃ι',(newRow e (ro++rn++rest)).run P w=.ok ⟨w.heap.size,0,none⟩ (w.alloc (.cells (ro++rn++rest) e))∧ι.le ι' ∧
   SR B w0 ι' (st.add (.cells (old++new) true)) (w.alloc (.cells (ro++rn++rest) e))∧ι' st.next=some ⟨w.heap.size,0,(ro++rn++rest).size⟩:=by
 have hv:=h1.append h2;obtain⟨a1,a2,a3⟩:=h.alloc (.cells (old++new) true) (.cells (ro++rn++rest) e) (ro++rn++rest).size
  ⟨_,e,0,0,rfl,rfl,by rw[hv.size];simp,fun v hv'=>by
    simp only[List.mem_append] at hv';rcases hv' with hv' | hv'
    ·exact c1 v hv'
    ·exact c2 v hv',fun k v v' a b=>by
    have hk:k<(ro++rn).size:=by rw[←hv.size];exact (List.getElem?_eq_some_iff.1 a).1
    simp only[Nat.zero_add] at b;rw[Array.getElem?_append_left hk] at b;exact hv.at_ k v v' a b,fun _=>.inl rfl⟩
 exact⟨_,rfl,a2,a1,a3⟩
theorem qKJ (need old:Nat) (e:TypeId) (t:Nat):need≤(Question.appendCap need old e).cut t:=by
 simp only[Question.cut];omega
theorem qIX (z:Array Value) (n:Nat):(Builtin.zeroCells z n).size=n*z.size:=by simp[Builtin.zeroCells]
theorem qFS (hE:E.Ok P) {e:TypeId} {ei:TI} {z:AV} (hei:E.ty.get e=some ei) (hz:ei.zero=some z) (hnt:(∀vs,z≠.tuple vs)∧z≠.any) :
  ∃v,(∀w,(zeroValue e).run P w=.ok v w)∧(∀ι,VRs ι (cellsOf z) v.cells)∧∀x,x∈cellsOf z→x.isCell=true:=by
 obtain⟨i,hi,_,_,h3⟩:=(qAS (hE.ty _ _ hei)).inf;obtain⟨v,hv,h2⟩:=h3 z hz;exact⟨v,fun w=>by simp only[zeroValue,Sem.run_bind,run_typeInfo w hi,Result.andThen_ok,hv,Sem.run_pure],
  fun ι=>((h2 ι).cells (qC8 hnt)).1,((h2 (fun _=>none)).cells (qC8 hnt)).2⟩
theorem qGB {sT xT rT e:TypeId} {td:TypeDesc} {base:Option Addr} {sLen sCap esz n:Nat} {x':Value} (h1:(underlying sT).run P w=.ok (.slice e) w) (h2:(underlying xT).run P w=.ok td w)
  (h3:qGq td=false) (h4:(sizeOf e).run P w=.ok esz w) (h5:(Builtin.lenOf x').run P w=.ok n w) (hle:sLen+n≤sCap) :
  (Builtin.append_ #[sT,xT] rT #[.slice base sLen sCap,x']).run P w =
   ((Builtin.firstCells esz n x').run P w).andThen fun new w'=>(do (match base with | some a=>storeCells (a.add (sLen*esz)) new.toList | none=>pure ());pure (.slice base (sLen+n) sCap):Sem Value).run P w':=by
 unfold Builtin.append_;simp only[List.getElem?_toArray,List.getElem?_cons_zero,List.getElem?_cons_succ,Sem.run_bind,h1,Result.andThen_ok,h4,h2];cases td<;>simp only[qGq,Bool.true_eq_false] at h3 <;>
  (simp only[Sem.run_pure,Result.andThen_ok,Bool.false_eq_true,if_false,h5,Bool.not_false,if_true,hle,Sem.run_bind];cases base<;>simp only[Sem.run_bind,Sem.run_pure]<;>rfl)
theorem qO8 {sT xT rT e:TypeId} {td:TypeDesc} {base:Option Addr} {sLen sCap esz n bytes:Nat} {x' z:Value} {ro rn:Array Value} (h1:∀w,(underlying sT).run P w=.ok (.slice e) w)
  (h2:∀w,(underlying xT).run P w=.ok td w)
  (h3:qGq td=false) (h4:∀w,(sizeOf e).run P w=.ok esz w) (h5:∀w,(Builtin.lenOf x').run P w=.ok n w) (hle:¬sLen+n≤sCap) (hi:∀w,∃i,(typeInfo e).run P w=.ok i w∧i.bytes=bytes)
  (hb:(2*(sLen+n)+200)*bytes≤281474976710656) (hn:sLen+n<4611686018427387904) (hz:∀w,(zeroValue e).run P w=.ok z w)
  (hro:(Builtin.firstCells esz sLen (.slice base sLen sCap)).run P {w with drawn:=w.drawn+1} = .ok ro {w with drawn:=w.drawn+1})
  (hrn:(Builtin.firstCells esz n x').run P {w with drawn:=w.drawn+1} = .ok rn {w with drawn:=w.drawn+1}) :
  ∃cap,sLen+n≤cap∧(Builtin.append_ #[sT,xT] rT #[.slice base sLen sCap,x']).run P w =
   ((newRow e (ro++rn++Builtin.zeroCells z.cells (cap - (sLen+n)))).run P {w with drawn:=w.drawn+1}).andThen fun a w'=>.ok (.slice (some a) (sLen+n) cap) w':=by
 refine⟨(Question.appendCap (sLen+n) sCap e).cut (w.tape w.drawn (.appendCap (sLen+n) sCap e)),qKJ _ _ _ _,?_⟩;obtain⟨i,hi1,hi2⟩:=hi w;have hcap:Builtin.nextslicecap (sLen+n) sCap*i.bytes≤281474976710656:=by
  rw[hi2];exact Nat.le_trans (Nat.mul_le_mul_right _ (qOM (by omega))) hb
 have hcap':¬(Builtin.nextslicecap (sLen+n) sCap*i.bytes > 2 ^ 48):=by
  have:(2:Nat) ^ 48=281474976710656:=by decide
  omega
 have hmax:¬(((sLen+n:Nat):Int) > IntKind.i64.max):=by
  have:IntKind.i64.max=9223372036854775807:=by decide
  omega
 have hmax':¬((((sLen+n:Nat):Int) > IntKind.i64.max)∧(False∨i.bytes=0)):=fun h=>hmax h.1;have hf:Question.forced (.appendCap (sLen+n) sCap e)=false:=rfl;obtain⟨j,hj1,hj2⟩:=hi {w with drawn:=w.drawn+1};unfold Builtin.append_;simp only[List.getElem?_toArray,List.getElem?_cons_zero,List.getElem?_cons_succ,Sem.run_bind,h1,Result.andThen_ok,h4,h2];cases td<;>simp only[qGq,Bool.true_eq_false] at h3 <;>
  simp only[Sem.run_pure,Result.andThen_ok,Bool.false_eq_true,if_false,h5,Bool.not_false,if_true,hle,Sem.run_bind,Sem.run_ite,hi1,hmax',hcap',run_choose,hf,hj1,run_askRoom,hro,hrn,hz]
theorem qOf (hE:E.Ok P) (h:SR B w0 ι st w) {sT xT rT:TypeId} {s x:AV} {s' x':Value} {r:AV×ASt} (hs:VR ι s s') (hx:VR ι x x')
  (hr:qEr E sT xT s x st=some r):Did P B w0 ι w (Builtin.append_ #[sT,xT] rT #[s',x']) r:=by
 simp only[qEr] at hr
 split at hr
 ·simp at hr
 rename_i ti hti
 split at hr
 ·simp at hr
 rename_i tx htx;cases hint:qGq tx.desc
 rotate_left
 ·simp only[hint,cond_true,reduceCtorEq] at hr
 simp only[hint,cond_false] at hr
 split at hr
 rotate_left
 ·simp at hr
 rename_i e hd
 split at hr
 ·simp at hr
 rename_i ei hei
 split at hr
 ·simp at hr
 rename_i z hz;have fin:((∀vs,z≠.tuple vs)∧z≠.any)→(bif Nat.beq (cellsOf z).length ei.size then
        match qL7 x with
        | none=>none
        | some n =>
         match qAw st ei.size n x with
         | none=>none
         | some new=>qBT ei st s n new
       else none)=some r→Did P B w0 ι w (Builtin.append_ #[sT,xT] rT #[s',x']) r:=by
  clear hr;intro hnt hr;cases hbz:Nat.beq (cellsOf z).length ei.size
  ·simp only[hbz,cond_false,reduceCtorEq] at hr
  simp only[hbz,cond_true] at hr;have hsz:=Nat.eq_of_beq_eq_true hbz
  split at hr
  ·simp at hr
  rename_i n hn
  split at hr
  ·simp at hr
  rename_i new hnew;have k1:∀w,(underlying sT).run P w=.ok (.slice e) w:=fun w=>by rw[←hd];exact (qAS (hE.ty _ _ hti)).run_und w
  have k2:∀w,(underlying xT).run P w=.ok tx.desc w:=fun w=>(qAS (hE.ty _ _ htx)).run_und w;have k4:∀w,(sizeOf e).run P w=.ok ei.size w:=fun w=>(qAS (hE.ty _ _ hei)).run_size w;have k5:∀w,(Builtin.lenOf x').run P w=.ok n w:=fun w=>qSB hx hn;have k6:∀w,∃i,(typeInfo e).run P w=.ok i w∧i.bytes=ei.bytes:=fun w=>let ⟨i,a,b,_⟩:=(qAS (hE.ty _ _ hei)).run_info w;⟨i,a,b⟩;obtain⟨zv,k7,hzv2,hzv3⟩:=qFS hE hei hz hnt;have hzs:zv.cells.size=ei.size:=by rw[←(hzv2 ι).size,hsz]
  have hd1:SR B w0 ι st {w with drawn:=w.drawn+1}:=h.drawn _
  -- a new array
  have out:∀(base:Option Addr) (l c:Nat) (old:List AV) (ro:Array Value),¬l+n≤c→(2*(l+n)+200)*ei.bytes≤281474976710656→l+n<4611686018427387904 →
    (Builtin.firstCells ei.size l (.slice base l c)).run P {w with drawn:=w.drawn+1} = .ok ro {w with drawn:=w.drawn+1}→VRs ι old ro→(∀v,v∈old→v.isCell=true) →
    old.length=l*ei.size→new.length=n*ei.size →
    ∃cap ι' w',(Builtin.append_ #[sT,xT] rT #[.slice base l c,x']).run P w=.ok (.slice (some ⟨w.heap.size,0,none⟩) (l+n) cap) w'∧ι.le ι' ∧
     SR B w0 ι' (st.add (.cells (old++new) true)) w'∧ι' st.next=some ⟨w.heap.size,0,cap*ei.size⟩∧l+n≤cap:=by
   intro base l c old ro hle hb hlt hro hvo hco ho hn';obtain⟨rn,hrn,hvn,hcn⟩:=qDM (P:=P) hd1 hx hnew;obtain⟨cap,hcap,hrun⟩:=qO8 (P:=P) (w:=w) (rT:=rT) (base:=base) k1 k2 hint k4 k5 hle k6 hb hlt k7 hro hrn;obtain⟨ι',g1,g2,g3,g4⟩:=qXK (P:=P) hd1 (e:=e) (rest:=Builtin.zeroCells zv.cells (cap - (l+n))) hvo hvn hco hcn;have htot:(ro++rn++Builtin.zeroCells zv.cells (cap - (l+n))).size=cap*ei.size:=by
    simp only[Array.size_append,qIX,hzs,←hvo.size,←hvn.size,ho,hn'];rw[←Nat.add_mul,←Nat.add_mul];congr 1;omega
   rw[htot] at g4;exact⟨cap,ι',_,by rw[hrun,g1];rfl,g2,g3,g4,hcap⟩
  have hnewlen:new.length=n*ei.size:=by
   cases hx with
   | str m q hq =>
    simp only[qAw] at hnew;cases h1:Nat.beq ei.size 1
    ·simp only[h1,cond_false,reduceCtorEq] at hnew
    ·simp only[h1,cond_true,qz1] at hnew;have h1':=Nat.eq_of_beq_eq_true h1;simp[qL7] at hn;subst hnew;rw[h1',←hn,←hq,←List.map_take,qB4];simp
   | sliceN =>
    simp only[qAw] at hnew;cases h1:Nat.beq n 0
    ·simp only[h1,cond_false,reduceCtorEq] at hnew
    ·simp only[h1,cond_true,qz1] at hnew;have:=Nat.eq_of_beq_eq_true h1;subst hnew;subst this;simp
   | slice i o m c' L c hL h2 h3 =>
    simp only[qAw] at hnew
    split at hnew
    ·exact (qBQ hnew).1
    ·simp at hnew
   | slice0 a c =>
    simp only[qAw] at hnew;cases h1:Nat.beq n 0
    ·simp only[h1,cond_false,reduceCtorEq] at hnew
    ·simp only[h1,cond_true,qz1] at hnew;have:=Nat.eq_of_beq_eq_true h1;subst hnew;subst this;simp
   | _=>simp[qL7] at hn
  obtain⟨rn,hrn,hvn,hcn⟩:=qDM (P:=P) h hx hnew
  -- nothing is appended
  have nothing:∀(base:Option Addr) (l c:Nat),n=0→l≤c→s'=.slice base l c→r=(s,st)→Did P B w0 ι w (Builtin.append_ #[sT,xT] rT #[s',x']) r:=by
   intro base l c hn0 hle he hre;subst hre;refine⟨ι,s',w,?_,ι.le_refl,h,hs⟩;subst hn0;subst he;have hnil:rn=#[]:=by have:=hvn.size;rw[hnewlen] at this;simp at this;exact Array.size_eq_zero_iff.1 this.symm
   rw[qGB (P:=P) (w:=w) (rT:=rT) (base:=base) (k1 w) (k2 w) hint (k4 w) (k5 w) hle,hrn,hnil];cases base<;>simp[storeCells]
  simp only[qBT] at hr
  split at hr
  ·-- nil
   cases hs;cases h0:Nat.beq n 0
   ·simp only[h0,cond_false] at hr;cases hb:Nat.ble ((2*n+200)*ei.bytes) 281474976710656
    ·simp only[hb,cond_false,reduceCtorEq] at hr
    cases hlt:Nat.blt n 4611686018427387904
    ·simp only[hb,hlt,cond_true,cond_false,reduceCtorEq] at hr
    simp only[hb,hlt,cond_true,qz1] at hr;have hne:n≠0:=by intro e;rw[e] at h0;simp at h0
    obtain⟨cap,ι',w',g1,g2,g3,g4,g5⟩:=out none 0 0 [] #[] (by omega) (by simpa using qCT hb) (by rw[Nat.zero_add,←Nat.blt_eq];exact hlt) rfl ⟨rfl,fun i v v' hv=>by simp at hv⟩ (by simp) (by simp) hnewlen;subst hr;rw[Nat.zero_add] at g1 g5;refine⟨ι',_,w',g1,g2,by simpa using g3,.slice _ _ _ _ _ _ g4 ?_ g5⟩;show 0+0+cap*ei.size=cap*ei.size;omega
   ·simp only[h0,cond_true,qz1] at hr;exact nothing none 0 0 (Nat.eq_of_beq_eq_true h0) (Nat.le_refl _) rfl hr.symm
  ·-- a known capacity
   rename_i i o l c;cases hs with
   | slice _ _ _ c' L _ hL hc hl =>
    have hc:c=c':=hc;subst hc;cases hle:Nat.ble (l+n) c
    ·simp only[hle,cond_false] at hr;have hle':¬l+n≤c:=by intro e;rw[←Nat.ble_eq] at e;rw[e] at hle;simp at hle
     cases hb:Nat.ble ((2*(l+n)+200)*ei.bytes) 281474976710656
     ·simp only[hb,cond_false,reduceCtorEq] at hr
     cases hlt:Nat.blt (l+n) 4611686018427387904
     ·simp only[hb,hlt,cond_true,cond_false,reduceCtorEq] at hr
     simp only[hb,hlt,cond_true] at hr
     split at hr
     ·rename_i old hold;simp only[qz1] at hr;have hvs:VR ι (.slice (some (i,o)) l (.known c)) (.slice (some ⟨L.b,L.p+o,none⟩) l c):=.slice _ _ _ _ L _ hL rfl hl;obtain⟨ro,p1,p2,p3⟩:=qDM (P:=P) hd1 hvs hold;have hol:old.length=l*ei.size:=by
       simp only[qAw] at hold
       split at hold
       ·exact (qBQ hold).1
       ·simp at hold
      obtain⟨cap,ι',w',g1,g2,g3,g4,g5⟩:=out _ l c old ro hle' (qCT hb) (by rw[←Nat.blt_eq];exact hlt) p1 p2 p3 hol hnewlen;subst hr;refine⟨ι',_,w',g1,g2,g3,.slice _ _ _ _ _ _ g4 ?_ g5⟩;show 0+0+cap*ei.size=cap*ei.size;omega
     ·simp at hr
    ·simp only[hle,cond_true] at hr;have hle':=qCT hle;cases h0:Nat.beq n 0
     ·simp only[h0,cond_false] at hr
      split at hr
      ·rename_i cs hi
       split at hr
       ·rename_i cs' hset;simp only[qz1] at hr;subst hr;obtain⟨w',q1,q2⟩:=SR.storeCells (P:=P) new rn.toList 0 (o+l*ei.size) cs cs' st w h hi hL (by simpa using hset) (by simpa using hvn) hcn;refine⟨ι,.slice (some ⟨L.b,L.p+o,none⟩) (l+n) c,w',?_,ι.le_refl,q2,.slice _ _ _ _ L _ hL rfl hle'⟩;rw[qGB (P:=P) (w:=w) (rT:=rT) (k1 w) (k2 w) hint (k4 w) (k5 w) hle',hrn];simp only[Result.andThen_ok,Sem.run_bind,qCA,Nat.add_assoc,q1,Sem.run_pure]
       ·simp at hr
      ·simp at hr
     ·simp only[h0,cond_true,qz1] at hr;exact nothing _ l c (Nat.eq_of_beq_eq_true h0) hl rfl hr.symm
  ·-- the rest of a block
   rename_i i o l zz;cases hs with
   | slice _ _ _ c' L _ hL hc hl =>
    have hc:L.p+o+c' * zz=L.tot:=hc;cases h0:Nat.beq n 0
    rotate_left
    ·simp only[h0,cond_true,qz1] at hr;exact nothing _ l c' (Nat.eq_of_beq_eq_true h0) hl rfl hr.symm
    simp only[h0,cond_false] at hr;cases hzz:Nat.beq zz ei.size
    ·simp only[hzz,cond_false,reduceCtorEq] at hr
    have ezz:=Nat.eq_of_beq_eq_true hzz;cases hroom:qII st i (o+(l+n)*ei.size) ei.size
    rotate_left
    ·-- there is room in what is known
     simp only[hzz,hroom,cond_true] at hr
     split at hr
     rotate_left
     ·simp at hr
     rename_i cs hi
     split at hr
     rotate_left
     ·simp at hr
     rename_i cs' hset;simp only[qz1] at hr;subst hr;simp only[qII,hi] at hroom;cases hr1:Nat.ble (o+(l+n)*ei.size) cs.length
     ·simp[hr1] at hroom
     simp only[hr1,cond_true] at hroom;have hr2:0<ei.size:=by rw[←Nat.blt_eq];exact hroom
     have hr3:=qCT hr1;obtain⟨L',ob,e1,e2,c,et,lo,hi',e3,e4,e5,_⟩:=h.obj i _ hi (by simp);rw[hL] at e1;cases e1;have hfit:l+n≤c':=by
      rw[ezz] at hc;have:(l+n)*ei.size≤c' * ei.size:=by omega
      exact Nat.le_of_mul_le_mul_right this hr2
     obtain⟨w',q1,q2⟩:=SR.storeCells (P:=P) new rn.toList 0 (o+l*ei.size) cs cs' st w h hi hL (by simpa using hset) (by simpa using hvn) hcn;refine⟨ι,.slice (some ⟨L.b,L.p+o,none⟩) (l+n) c',w',?_,ι.le_refl,q2,.slice _ _ _ _ L _ hL hc hfit⟩;rw[qGB (P:=P) (w:=w) (rT:=rT) (k1 w) (k2 w) hint (k4 w) (k5 w) hfit,hrn];simp only[Result.andThen_ok,Sem.run_bind,qCA,Nat.add_assoc,q1,Sem.run_pure]
    cases hb:Nat.ble ((2*(l+n)+200)*ei.bytes) 281474976710656
    ·simp only[hzz,hroom,hb,cond_true,cond_false,reduceCtorEq] at hr
    cases hlt:Nat.blt (l+n) 4611686018427387904
    ·simp only[hzz,hroom,hb,hlt,cond_true,cond_false,reduceCtorEq] at hr
    simp only[hzz,hroom,hb,hlt,cond_true,cond_false] at hr;rw[ezz] at hc
    split at hr
    ·rename_i cs hi
     split at hr
     ·rename_i old hold;simp only[qz1] at hr;subst hr;have hol:=(qBQ hold).1
      by_cases hfit:l+n≤c'
      ·-- there was room: the same array,under a new number
       obtain⟨L',ob,e1,e2,c,et,lo,hi',e3,e4,e5,e6,e7,e8⟩:=h.obj i _ hi (by simp);rw[hL] at e1;cases e1;rw[e3] at e2;have hmul:l*ei.size+n*ei.size≤c' * ei.size:=by rw[←Nat.add_mul];exact Nat.mul_le_mul_right _ hfit
       have hrl:rn.size=n*ei.size:=by rw[←hvn.size,hnewlen]
       obtain⟨cc,q1,q2,q3⟩:=qMp (P:=P) rn.toList 0 (L.p+o+l*ei.size) c w e2 (by simp only[Nat.add_zero,Array.length_toList,hrl];omega) (e8 rfl) (fun v hv=>by
        obtain⟨k,hk,ek⟩:=List.getElem_of_mem hv;have hk':k<new.length:=by rw[hvn.size];simpa using hk
        have h9:=hvn.at_ k new[k] v (by simp[hk']) (by simp at hk ek;simp[hk,ek]);have h10:=hcn new[k] (List.getElem_mem hk');generalize new[k]=y at h9 h10;cases h9<;>simp_all[AV.isCell,Value.oneCell'])
       simp only[Nat.add_zero,Array.length_toList,hrl] at q3;have hw:=h.write (a':=.cells [] true) (o':=.cells cc et (lo,hi')) hi rfl hL ⟨cc,et,lo,hi',rfl,by rw[q2,e4],by simp;rw[q2];omega,by simp,by simp,by rw[q2];exact e8⟩;have hi2:(st.put i (.cells [] true)).h.get i=some (.cells [] true):=qJc _ _ _;have hblt:L.b<w.heap.size:=(Array.getElem?_eq_some_iff.1 e2).1;obtain⟨m1,m2,m3⟩:=hw.move (a':=.cells (old++new) true) (L':=⟨L.b,L.p+o,L.tot⟩) hi2 rfl hL rfl (fun o' ho'=>by
        rw[qCf] at ho';simp only[hblt,and_self,if_true,qz1] at ho';subst ho';refine⟨cc,et,lo,hi',rfl,by rw[q2,e4],by simp[hol,hnewlen];rw[q2];omega,fun v hv=>?_,fun k v v' hk hk'=>?_,by rw[q2];exact e8⟩
        ·simp only[List.mem_append] at hv;rcases hv with hv | hv
         ·obtain⟨j,hj,ej⟩:=List.getElem_of_mem hv;have:=(qBQ hold).2 j (by omega);rw[List.getElem?_eq_getElem hj,ej] at this;exact e6 v (List.mem_of_getElem? this.symm)
         ·exact hcn v hv
        ·simp only at hk';rw[q3] at hk'
         by_cases hko:k<old.length
         ·rw[List.getElem?_append_left hko] at hk;have:¬(L.p+o+l*ei.size≤L.p+o+k∧L.p+o+k<L.p+o+l*ei.size+n*ei.size):=by omega
          simp only[this,if_false] at hk';rw[(qBQ hold).2 k (by omega)] at hk;exact e7 (o+k) v v' hk (by rw[←hk'];congr 1;omega)
         ·rw[List.getElem?_append_right (by omega)] at hk;have hkn:=(List.getElem?_eq_some_iff.1 hk).1;have:(L.p+o+l*ei.size≤L.p+o+k∧L.p+o+k<L.p+o+l*ei.size+n*ei.size):=by omega
          simp only[this,and_self,if_true] at hk';refine hvn.at_ _ v v' hk ?_;rw[←hk'];simp;congr 1;omega)
       have hnx:(st.put i (.cells [] true)).next=st.next:=rfl;rw[hnx] at m1 m2 m3;refine⟨_,.slice (some ⟨L.b,L.p+o,none⟩) (l+n) c',_,?_,m2,m1.congr (fun j=>?_) rfl,?_⟩
       ·rw[qGB (P:=P) (w:=w) (rT:=rT) (k1 w) (k2 w) hint (k4 w) (k5 w) hfit,hrn];simp only[Result.andThen_ok,Sem.run_bind,qCA,q1,Sem.run_pure]
       ·show (T.set D (T.set D st.h i .dead) st.next _).get j=(T.set D (T.set D (T.set D st.h i _) i .dead) st.next _).get j;rw[T.get_set,T.get_set,T.get_set,T.get_set,T.get_set]
        by_cases e1:j=st.next
        ·simp[e1]
        ·by_cases e2:j=i<;>simp[e1,e2]
       ·have:=VR.slice (ι:=ι.ext st.next ⟨L.b,L.p+o,L.tot⟩) st.next 0 (l+n) c' ⟨L.b,L.p+o,L.tot⟩ (.rest ei.size) m3 (by show L.p+o+0+c' * ei.size=L.tot;omega) hfit;simpa using this
      ·have hvs:VR ι (.slice (some (i,o)) l (.rest ei.size)) (.slice (some ⟨L.b,L.p+o,none⟩) l c'):=.slice _ _ _ _ L _ hL hc hl;obtain⟨ro,p1,p2,p3⟩:=qDM (P:=P) (n:=l) (esz:=ei.size) (l:=old) hd1 hvs (by simp only[qAw,hi,hold]);obtain⟨cap,ι',w',g1,g2,g3,g4,g5⟩:=out _ l c' old ro hfit (qCT hb) (by rw[←Nat.blt_eq];exact hlt) p1 p2 p3 hol hnewlen;have hlt':=h.hdom _ _ hi;have g6:=g3.kill (i:=i) (a:=.cells cs true) (by
        show (T.set D st.h st.next _).get i=_;rw[T.get_set,if_neg (by omega)];exact hi)
       refine⟨ι',_,w',g1,g2,g6.congr (fun j=>?_) rfl,.slice _ _ _ _ _ _ g4 ?_ g5⟩
       ·show (T.set D (T.set D st.h i .dead) st.next _).get j=(T.set D (T.set D st.h st.next _) i .dead).get j;rw[T.get_set,T.get_set,T.get_set,T.get_set]
        by_cases e1:j=st.next
        ·have:¬j=i:=by omega
         simp[e1];intro e2;omega
        ·simp[e1]
       ·show 0+0+cap*ei.size=cap*ei.size;omega
     ·simp at hr
    ·simp at hr
  ·simp at hr
 cases z<;>first | (simp at hr;done) | exact fin ⟨by simp,by simp⟩ hr
end
def qYO (E:Env) (dT:TypeId) (dst src:AV) (st:ASt):Option (AV×ASt) :=
 match E.ty.get dT with
 | none=>none
 | some ti =>
  match ti.desc with
  | .slice e =>
   match E.ty.get e with
   | none=>none
   | some ei =>
    match qL7 src with
    | none=>none
    | some sl =>
     match dst with
     | .slice none dl _=>bif Nat.beq (Nat.min sl dl) 0 then (match qAw st ei.size 0 src with | some _=>some (.int .i64 (.ofNat 0),st) | none=>none) else none
     | .slice0=>match qAw st ei.size 0 src with | some []=>some (.int .i64 (.ofNat 0),st) | _=>none
     | .slice (some (i,o)) dl _ =>
      let n:=Nat.min sl dl
      match qAw st ei.size n src with
      | none=>none
      | some new =>
       match new with
       | []=>some (.int .i64 (.ofNat n),st)
       | _ =>
        match st.h.get i with
        | some (.cells cs true) =>
         match qHH cs o new with
         | some cs'=>some (.int .i64 (.ofNat n),st.put i (.cells cs' true))
         | none=>none
        | _=>none
     | _=>none
  | _=>none
def qOc (E:Env) (t:TypeId) (x:AV):Option AV :=
 match E.ty.get t with
 | none=>none
 | some ti =>
  match ti.desc with
  | .string=>match x with | .str s=>some (.int .i64 (.ofNat s.length)) | _=>none
  | .array n _=>some (.int .i64 (.ofNat n))
  | .pointer arr =>
   match E.ty.get arr with
   | some ta=>match ta.desc with | .array n _=>some (.int .i64 (.ofNat n)) | _=>none
   | none=>none
  | .slice _=>match x with | .slice _ n _=>some (.int .i64 (.ofNat n)) | .slice0=>some (.int .i64 (.ofNat 0)) | _=>none
  | .map _ _=>match x with | .map none=>some (.int .i64 (.ofNat 0)) | _=>none
  | _=>none
def qYP (E:Env) (t:TypeId) (x:AV):Option AV :=
 match E.ty.get t with
 | none=>none
 | some ti =>
  match ti.desc with
  | .slice _=>match x with | .slice _ _ (.known n)=>some (.int .i64 (.ofNat n)) | _=>none
  | _=>none
def qYK:AV→List AV→Option AV
 | x,[]=>some x
 | .int k x,.int _ y::r=>qYK (.int k (bif ltF y x then y else x)) r
 | _,_::_=>none
def qYL:AV→List AV→Option AV
 | x,[]=>some x
 | .int k x,.int _ y::r=>qYL (.int k (bif ltF x y then y else x)) r
 | _,_::_=>none
def qCU (E:Env) (b:Builtin) (ts:List TypeId) (args:List AV) (st:ASt):Option (AV×ASt) :=
 match b with
 | .append=>match ts,args with | [sT,xT],[s,x]=>qEr E sT xT s x st | _,_=>none
 | .copy=>match ts,args with | [dT,_],[d,s]=>qYO E dT d s st | _,_=>none
 | .len=>match ts,args with | [t],[x]=>(match qOc E t x with | some v=>some (v,st) | none=>none) | _,_=>none
 | .cap=>match ts,args with | [t],[x]=>(match qYP E t x with | some v=>some (v,st) | none=>none) | _,_=>none
 | .min=>match args with | x::r=>(match qYK x r with | some v=>some (v,st) | none=>none) | _=>none
 | .max=>match args with | x::r=>(match qYL x r with | some v=>some (v,st) | none=>none) | _=>none
 | _=>none
section
variable {P:Program} {E:Env} {B:Prot} {w0:World} {ι:Ren} {st:ASt} {w:World}
theorem qSK (hE:E.Ok P) {t:TypeId} {parts:List (Nat×AV)} {parts':Array (Nat×Value)} {r:AV} (hm:parts.map (·.1)=parts'.toList.map (·.1))
  (hv:∀(k:Nat) p p',parts[k]? = some p→parts'.toList[k]? = some p'→VR ι p.2 p'.2) (hr:qSL E t parts=some r) :
  ∃v,(Instr.build t parts').run P w=.ok v w∧VR ι r v:=by
 simp only[qSL] at hr
 split at hr
 ·simp at hr
 rename_i ti hti;have hk:=qAS (hE.ty _ _ hti)
 split at hr
 rotate_left
 ·simp at hr
 rename_i z hz;obtain⟨it,hit,_,_,h3⟩:=hk.inf;obtain⟨zv,hzv,hzr⟩:=h3 _ hz;have hzc:=(hzr ι).cells (.inl ⟨z,rfl⟩);have hzl:∃za,zv=.agg za:=by have:=hzr ι;cases this;exact⟨_,rfl⟩
 obtain⟨za,rfl⟩:=hzl;have hz1:VRs ι z za:=hzc.1
 split at hr
 ·rename_i fs hd;cases hall:qRr E fs.toList
  ·simp only[hall,cond_false,reduceCtorEq] at hr
  simp only[hall,cond_true] at hr
  split at hr
  ·rename_i cs hcs;simp only[qz1] at hr;subst hr;have places:∀(l:List Field),qRr E l=true→∃pl,l.mapM (fun (f:Field)=>(P.info? f.type).map fun i=>(f.offset,i.size))=some pl ∧
     ∀(i:Nat) x,placeOf E l[i]? = some x→pl[i]? = some x:=by
    intro l
    induction l with
    | nil=>intro _;exact⟨[],rfl,fun i x h=>by simp[placeOf] at h⟩
    | cons f l ih =>
     intro h;simp only[qRr] at h
     split at h
     ·rename_i fi hfi;obtain⟨pl,p1,p2⟩:=ih h;obtain⟨j,hj,hj1,_⟩:=(qAS (hE.ty _ _ hfi)).inf;refine⟨(f.offset,j.size)::pl,by simp[List.mapM_cons,hj,p1],fun i x hx=>?_⟩;cases i with
      | zero=>simp[placeOf,hfi] at hx;subst hx;simp[hj1]
      | succ i=>simp at hx ⊢;exact p2 i x hx
     ·simp at h
   obtain⟨pl,p1,p2⟩:=places fs.toList hall;obtain⟨cs',f1,f2,f3⟩:=qGE (place':=(pl.toArray[·]?)) (fun i x hx=>by
    have:=p2 i x (by simpa using hx);simpa using this) parts parts'.toList z cs za hm hv hz1 hzc.2 hcs
   refine⟨.agg cs',run_build w t parts' cs' ?_,.agg _ _ f2.size f3 f2.at_⟩;simp only[Program.built,hit,hk.und,hd,hzv,p1,Value.cells];exact f1
  ·simp at hr
 ·rename_i n e hd
  split at hr
  rotate_left
  ·simp at hr
  rename_i ei hei
  split at hr
  ·rename_i cs hcs;simp only[qz1] at hr;subst hr;obtain⟨j,hj,hj1,_⟩:=(qAS (hE.ty _ _ hei)).inf;obtain⟨cs',f1,f2,f3⟩:=qGE (place':=fun i=>some (i*ei.size,ei.size)) (fun i x hx=>hx) parts parts'.toList z cs za hm hv hz1 hzc.2 hcs;refine⟨.agg cs',run_build w t parts' cs' ?_,.agg _ _ f2.size f3 f2.at_⟩;simp only[Program.built,hit,hk.und,hd,hzv,hj,hj1,Value.cells];exact f1
  ·simp at hr
 ·simp at hr
theorem qI6 (hE:E.Ok P) (h:SR B w0 ι st w) {t:TypeId} {n:Nat} {parts:List (Nat×AV)} {parts':Array (Nat×Value)} {r:AV×ASt} (hm:parts.map (·.1)=parts'.toList.map (·.1))
  (hv:∀(k:Nat) p p',parts[k]? = some p→parts'.toList[k]? = some p'→VR ι p.2 p'.2) (hr:qFg E t n parts st=some r) :
  Did P B w0 ι w (Instr.buildSlice t n parts') r:=by
 simp only[qFg] at hr
 split at hr
 ·simp at hr
 rename_i ti hti;have hk:=(qAS (hE.ty _ _ hti)).run_und w
 split at hr
 rotate_left
 ·simp at hr
 rename_i e hd;rw[hd] at hk
 split at hr
 ·simp at hr
 rename_i ei hei
 split at hr
 ·simp at hr
 rename_i z hz;have fin:((∀vs,z≠.tuple vs)∧z≠.any)→(bif Nat.beq (cellsOf z).length ei.size then
      bif Nat.ble (n*ei.size) 16777216 then
       match qIV (fun i=>some (i*ei.size,ei.size)) (qGO (cellsOf z) n) parts with
       | some cs=>some (AV.slice (some (st.next,0)) n (.known n),st.add (.cells cs true))
       | none=>none
      else none
     else none)=some r→Did P B w0 ι w (Instr.buildSlice t n parts') r:=by
  clear hr;intro hnt hr;cases hbz:Nat.beq (cellsOf z).length ei.size
  ·simp only[hbz,cond_false,reduceCtorEq] at hr
  cases hble:Nat.ble (n*ei.size) 16777216
  ·simp only[hbz,hble,cond_true,cond_false,reduceCtorEq] at hr
  simp only[hbz,hble,cond_true] at hr;have hsz:=Nat.eq_of_beq_eq_true hbz;have hle:=qCT hble
  split at hr
  ·rename_i cs hcs;simp only[qz1] at hr;subst hr;obtain⟨zv,k7,hzv2,hzv3⟩:=qFS hE hei hz hnt;have hzs:zv.cells.size=ei.size:=by rw[←(hzv2 ι).size,hsz]
   have hs:=(qAS (hE.ty _ _ hei)).run_size w;obtain⟨cs',f1,f2,f3⟩:=qGE (place':=fun i=>some (i*ei.size,ei.size)) (fun i x hx=>hx) parts parts'.toList (qGO (cellsOf z) n) cs _ hm hv (qFl (hzv2 ι) n) (qDg hzv3 n) hcs;obtain⟨ι',q1,q2,q3,q4⟩:=qHf (P:=P) h e f2 f3;refine⟨ι',.slice (some ⟨w.heap.size,0,none⟩) n n,_,?_,q2,q3,.slice _ _ _ _ _ _ q4 rfl (Nat.le_refl _)⟩;have hle':¬(n*ei.size > 2 ^ 24):=by rw[qEz.2];omega
   rw[hzs] at f1
   by_cases h0:n*ei.size=0
   ·rw[h0] at f1;have er:Array.range 0=#[]:=rfl;have hle0:¬((0:Nat) > 2 ^ 24):=by decide
    simp only[er,Array.map_empty] at f1;simp only[Instr.buildSlice,Sem.run_bind,hk,Result.andThen_ok,hs,Sem.run_ite,hle0,if_false,h0,if_true,Sem.run_pure,er,Array.map_empty,f1,q1]
   ·simp only[Instr.buildSlice,Sem.run_bind,hk,Result.andThen_ok,hs,Sem.run_ite,hle',if_false,h0,Sem.run_pure,k7,hzs,f1,q1]
  ·simp at hr
 cases z<;>first | (simp at hr;done) | exact fin ⟨by simp,by simp⟩ hr
theorem qUO (hE:E.Ok P) (h:SR B w0 ι st w) {dT sT rT:TypeId} {dst src:AV} {dst' src':Value} {r:AV×ASt} (hd:VR ι dst dst') (hs:VR ι src src')
  (hr:qYO E dT dst src st=some r):Did P B w0 ι w (Builtin.copy_ #[dT,sT] rT #[dst',src']) r:=by
 simp only[qYO] at hr
 split at hr
 ·simp at hr
 rename_i ti hti;have hk:=(qAS (hE.ty _ _ hti)).run_und w
 split at hr
 rotate_left
 ·simp at hr
 rename_i e he;rw[he] at hk
 split at hr
 ·simp at hr
 rename_i ei hei;have hsz:=(qAS (hE.ty _ _ hei)).run_size w
 split at hr
 ·simp at hr
 rename_i sl hsl;have hln:=qSB (P:=P) (w:=w) hs hsl;have run:∀(base:Option Addr) (dl c:Nat) (rn:Array Value),(Builtin.firstCells ei.size (Nat.min sl dl) src').run P w=.ok rn w →
   (Builtin.copy_ #[dT,sT] rT #[.slice base dl c,src']).run P w =
    (((match base with | some a=>storeCells a rn.toList | none=>pure ()):Sem Unit).run P w).andThen fun _ w'=>.ok (goInt (Nat.min sl dl:Nat)) w':=by
  intro base dl c rn hrn;unfold Builtin.copy_;simp only[List.getElem?_toArray,List.getElem?_cons_zero,List.getElem?_cons_succ,Sem.run_bind,hk,hln,Result.andThen_ok,hsz,hrn];cases base<;>simp only[Sem.run_bind,Sem.run_pure]<;>rfl
 split at hr
 ·rename_i dl c;cases hd;cases h0:Nat.beq (Nat.min sl 0) 0
  ·simp only[h0,cond_false,reduceCtorEq] at hr
  simp only[h0,cond_true] at hr
  split at hr
  ·rename_i l hl;simp only[qz1] at hr;subst hr;have e0:Nat.min sl 0=0:=Nat.eq_of_beq_eq_true h0;obtain⟨rn,h1,h2,h3⟩:=qDM (P:=P) h hs hl;refine⟨ι,goInt 0,w,?_,ι.le_refl,h,.int _ _⟩;rw[run none 0 0 rn (by rw[e0];exact h1),e0];rfl
  ·simp at hr
 ·cases hd with
  | slice0 a c =>
   split at hr
   ·rename_i hl;simp only[qz1] at hr;subst hr;obtain⟨rn,h1,h2,h3⟩:=qDM (P:=P) h hs hl;have e0:Nat.min sl 0=0:=Nat.min_zero _;have hnil:rn=#[]:=by have:=h2.size;simp at this;exact Array.size_eq_zero_iff.1 this.symm
    refine⟨ι,goInt 0,w,?_,ι.le_refl,h,.int _ _⟩;rw[run (some a) 0 c rn (by rw[e0];exact h1),e0,hnil];simp[storeCells]
   ·simp at hr
 ·rename_i i o dl c;cases hd with
  | slice _ _ _ c' L _ hL hc hl =>
   split at hr
   ·simp at hr
   rename_i new hnew;obtain⟨rn,h1,h2,h3⟩:=qDM (P:=P) h hs hnew
   split at hr
   ·simp only[qz1] at hr;subst hr;have hnil:rn=#[]:=by have:=h2.size;simp at this;exact Array.size_eq_zero_iff.1 this.symm
    refine⟨ι,goInt (Nat.min sl dl:Nat),w,?_,ι.le_refl,h,.int _ _⟩;rw[run _ dl c' rn h1,hnil];simp[storeCells]
   ·split at hr
    ·rename_i cs hi
     split at hr
     ·rename_i cs' hset;simp only[qz1] at hr;subst hr;obtain⟨w',q1,q2⟩:=SR.storeCells (P:=P) new rn.toList 0 o cs cs' st w h hi hL (by simpa using hset) (by simpa using h2) h3;refine⟨ι,goInt (Nat.min sl dl:Nat),w',?_,ι.le_refl,q2,.int _ _⟩;rw[run _ dl c' rn h1];simp only[q1,Result.andThen_ok]
     ·simp at hr
    ·simp at hr
 ·simp at hr
theorem qUM (hE:E.Ok P) {t rT:TypeId} {x r:AV} {x':Value} (hx:VR ι x x') (hr:qOc E t x=some r):∃v,(Builtin.len_ #[t] rT #[x']).run P w=.ok v w∧VR ι r v:=by
 simp only[qOc] at hr
 split at hr
 ·simp at hr
 rename_i ti hti;have hk:=(qAS (hE.ty _ _ hti)).run_und w
 split at hr
 ·rename_i hd;rw[hd] at hk
  split at hr
  ·rename_i s;cases hx with
   | str _ s' hs =>
    simp only[qz1] at hr;subst hr;refine⟨goInt s'.size,?_,?_⟩
    ·simp only[Builtin.len_,List.getElem?_toArray,List.getElem?_cons_zero,Sem.run_bind,hk,Result.andThen_ok,Sem.run_pure]
    ·have:s.length=s'.size:=by rw[←hs];simp
     rw[this];exact .int _ _
  ·simp at hr
 ·rename_i n e hd;rw[hd] at hk;simp only[qz1] at hr;subst hr;refine⟨goInt n,?_,.int _ _⟩;simp only[Builtin.len_,List.getElem?_toArray,List.getElem?_cons_zero,Sem.run_bind,hk,Result.andThen_ok,Sem.run_pure]
 ·rename_i arr hd;rw[hd] at hk
  split at hr
  ·rename_i ta hta;have hk2:=(qAS (hE.ty _ _ hta)).run_und w
   split at hr
   ·rename_i n e hd2;rw[hd2] at hk2;simp only[qz1] at hr;subst hr;refine⟨goInt n,?_,.int _ _⟩;simp only[Builtin.len_,List.getElem?_toArray,List.getElem?_cons_zero,Sem.run_bind,hk,hk2,Result.andThen_ok,Sem.run_pure]
   ·simp at hr
  ·simp at hr
 ·rename_i e hd;rw[hd] at hk
  split at hr
  ·rename_i a n c;simp only[qz1] at hr;subst hr;cases hx
   ·exact⟨goInt (0:Nat),by simp only[Builtin.len_,List.getElem?_toArray,List.getElem?_cons_zero,Sem.run_bind,hk,Result.andThen_ok,Sem.run_pure],.int _ _⟩
   ·exact⟨goInt n,by simp only[Builtin.len_,List.getElem?_toArray,List.getElem?_cons_zero,Sem.run_bind,hk,Result.andThen_ok,Sem.run_pure],.int _ _⟩
  ·simp only[qz1] at hr;subst hr;cases hx with
   | slice0 a c=>exact⟨goInt (0:Nat),by simp only[Builtin.len_,List.getElem?_toArray,List.getElem?_cons_zero,Sem.run_bind,hk,Result.andThen_ok,Sem.run_pure],.int _ _⟩
  ·simp at hr
 ·rename_i k e hd;rw[hd] at hk
  split at hr
  ·simp only[qz1] at hr;subst hr;cases hx;exact⟨goInt 0,by simp only[Builtin.len_,List.getElem?_toArray,List.getElem?_cons_zero,Sem.run_bind,hk,Result.andThen_ok,Sem.run_pure],.int _ _⟩
  ·simp at hr
 ·simp at hr
theorem qUP (hE:E.Ok P) {t rT:TypeId} {x r:AV} {x':Value} (hx:VR ι x x') (hr:qYP E t x=some r):∃v,(Builtin.cap_ #[t] rT #[x']).run P w=.ok v w∧VR ι r v:=by
 simp only[qYP] at hr
 split at hr
 ·simp at hr
 rename_i ti hti;have hk:=(qAS (hE.ty _ _ hti)).run_und w
 split at hr
 ·rename_i e hd;rw[hd] at hk
  split at hr
  ·rename_i a n c;simp only[qz1] at hr;subst hr;cases hx with
   | sliceN=>exact⟨goInt (0:Nat),by simp only[Builtin.cap_,List.getElem?_toArray,List.getElem?_cons_zero,Sem.run_bind,hk,Result.andThen_ok,Sem.run_pure],.int _ _⟩
   | slice i o _ c' L _ hL hc hl =>
    have hc:c=c':=hc;subst hc;exact⟨goInt c,by simp only[Builtin.cap_,List.getElem?_toArray,List.getElem?_cons_zero,Sem.run_bind,hk,Result.andThen_ok,Sem.run_pure],.int _ _⟩
  ·simp at hr
 ·simp at hr
theorem qRz:∀(l:List AV) (l':List Value) (x r:AV) (x':Value),VR ι x x'→VRs ι l l'.toArray→qYK x l=some r→∃v,(l'.foldlM Builtin.min2 x').run P w=.ok v w∧VR ι r v
 | [],l',x,r,x',hx,hl,h=>by
  have:l'=[]:=by have:=hl.size;simp at this;exact List.length_eq_zero_iff.1 this.symm
  subst this;simp[qYK] at h;subst h;exact⟨x',by simp,hx⟩
 | y::l,[],x,r,x',hx,hl,h=>by have:=hl.size;simp at this
 | y::l,y'::l',x,r,x',hx,hl,h=>by
  have hy:=hl.at_ 0 y y' rfl (by simp);have hl':VRs ι l l'.toArray:=⟨by have:=hl.size;simp at this;simpa using this,fun j a b ha hb=>hl.at_ (j+1) a b (by simpa using ha) (by simpa using hb)⟩;cases hx with
  | int k n =>
   cases hy with
   | int k' m =>
    simp only[qYK] at h;obtain⟨v,h1,h2⟩:=qRz l l' _ r (.int k (if m<n then m else n)) (by
     rw[qDH]
     by_cases c:m<n<;>simp[c]<;>exact .int _ _) hl' h
    exact⟨v,by simp only[List.foldlM_cons,Builtin.min2,Sem.run_bind,Sem.run_pure,Result.andThen_ok,h1],h2⟩
   | _=>simp[qYK] at h
  | _=>simp[qYK] at h
theorem qSA:∀(l:List AV) (l':List Value) (x r:AV) (x':Value),VR ι x x'→VRs ι l l'.toArray→qYL x l=some r→∃v,(l'.foldlM Builtin.max2 x').run P w=.ok v w∧VR ι r v
 | [],l',x,r,x',hx,hl,h=>by
  have:l'=[]:=by have:=hl.size;simp at this;exact List.length_eq_zero_iff.1 this.symm
  subst this;simp[qYL] at h;subst h;exact⟨x',by simp,hx⟩
 | y::l,[],x,r,x',hx,hl,h=>by have:=hl.size;simp at this
 | y::l,y'::l',x,r,x',hx,hl,h=>by
  have hy:=hl.at_ 0 y y' rfl (by simp);have hl':VRs ι l l'.toArray:=⟨by have:=hl.size;simp at this;simpa using this,fun j a b ha hb=>hl.at_ (j+1) a b (by simpa using ha) (by simpa using hb)⟩;cases hx with
  | int k n =>
   cases hy with
   | int k' m =>
    simp only[qYL] at h;obtain⟨v,h1,h2⟩:=qSA l l' _ r (.int k (if m > n then m else n)) (by
     rw[qDH]
     by_cases c:n<m<;>simp[c]<;>exact .int _ _) hl' h
    exact⟨v,by simp only[List.foldlM_cons,Builtin.max2,Sem.run_bind,Sem.run_pure,Result.andThen_ok,h1],h2⟩
   | _=>simp[qYL] at h
  | _=>simp[qYL] at h
theorem qWt {a b:AV} {r:Array Value} (h:VRs ι [a,b] r):∃a' b',r=#[a',b']∧VR ι a a'∧VR ι b b':=by
 have hs:=h.size;simp at hs
 match r,hs with
 | ⟨[x,y]⟩,_=>exact⟨x,y,rfl,h.at_ 0 a x rfl (by simp),h.at_ 1 b y rfl (by simp)⟩
theorem qT2 {a:AV} {r:Array Value} (h:VRs ι [a] r):∃a',r=#[a']∧VR ι a a':=by
 have hs:=h.size;simp at hs
 match r,hs with
 | ⟨[x]⟩,_=>exact⟨x,rfl,h.at_ 0 a x rfl (by simp)⟩
theorem qEF (hE:E.Ok P) (h:SR B w0 ι st w) {b:Builtin} {ts:List TypeId} {rT:TypeId} {cs:Array Bool} {args:List AV} {args':Array Value} {r:AV×ASt} (ha:VRs ι args args')
  (hr:qCU E b ts args st=some r) :
  ∃ι' v w',(builtin b ts.toArray rT cs args').run P w=.ok (.value v) w'∧ι.le ι'∧SR B w0 ι' r.2 w'∧VR ι' r.1 v:=by
 have lift:∀{s:Sem Value},Did P B w0 ι w s r→∃ι' v w',(do pure (.value (←s)):Sem Next).run P w=.ok (.value v) w'∧ι.le ι'∧SR B w0 ι' r.2 w'∧VR ι' r.1 v:=by
  intro s ⟨ι',v,w',h1,h2,h3,h4⟩;exact⟨ι',v,w',by simp only[Sem.run_bind,h1,Result.andThen_ok,Sem.run_pure],h2,h3,h4⟩
 have still:∀{s:Sem Value} {x:AV},(∃v,s.run P w=.ok v w∧VR ι x v)→r=(x,st)→Did P B w0 ι w s r:=by
  intro s x ⟨v,h1,h2⟩ e;subst e;exact⟨ι,v,w,h1,ι.le_refl,h,h2⟩
 unfold qCU at hr
 split at hr
 ·split at hr
  ·obtain⟨a',b',rfl,h1,h2⟩:=qWt ha;exact lift (qOf hE h h1 h2 hr)
  ·simp at hr
 ·split at hr
  ·obtain⟨a',b',rfl,h1,h2⟩:=qWt ha;exact lift (qUO hE h h1 h2 hr)
  ·simp at hr
 ·split at hr
  ·obtain⟨a',rfl,h1⟩:=qT2 ha
   split at hr
   ·rename_i v hv;simp only[qz1] at hr;exact lift (still (qUM (rT:=rT) hE h1 hv) hr.symm)
   ·simp at hr
  ·simp at hr
 ·split at hr
  ·obtain⟨a',rfl,h1⟩:=qT2 ha
   split at hr
   ·rename_i v hv;simp only[qz1] at hr;exact lift (still (qUP (rT:=rT) hE h1 hv) hr.symm)
   ·simp at hr
  ·simp at hr
 ·split at hr
  ·rename_i x l
   split at hr
   ·rename_i v hv;simp only[qz1] at hr;have hs:=ha.size
    match args',hs,ha with
    | ⟨x'::l'⟩,_,ha =>
     have hx:=ha.at_ 0 x x' rfl (by simp);have hl':VRs ι l l'.toArray:=⟨by have:=ha.size;simp at this;simpa using this,fun j a b ha' hb=>ha.at_ (j+1) a b (by simpa using ha') (by simpa using hb)⟩;exact lift (s:=Builtin.min_ ts.toArray rT ⟨x'::l'⟩) (still (qRz l l' x v x' hx hl' hv) hr.symm)
   ·simp at hr
  ·simp at hr
 ·split at hr
  ·rename_i x l
   split at hr
   ·rename_i v hv;simp only[qz1] at hr;have hs:=ha.size
    match args',hs,ha with
    | ⟨x'::l'⟩,_,ha =>
     have hx:=ha.at_ 0 x x' rfl (by simp);have hl':VRs ι l l'.toArray:=⟨by have:=ha.size;simp at this;simpa using this,fun j a b ha' hb=>ha.at_ (j+1) a b (by simpa using ha') (by simpa using hb)⟩;exact lift (s:=Builtin.max_ ts.toArray rT ⟨x'::l'⟩) (still (qSA l l' x v x' hx hl' hv) hr.symm)
   ·simp at hr
  ·simp at hr
 ·simp at hr
end
abbrev qHE:=List (AV×AV×Nat)
def plainKey:TypeDesc→Bool
 | .int _=>true
 | .string=>true
 | .bool=>true
 | _=>false
def qFH (d:TypeDesc) (x y:AV):Option Bool :=
 match d with
 | .int _=>match x with | .int k a=>(match y with | .int j b=>bif kEq k j then some (eqF a b) else none | _=>none) | _=>none
 | .string=>match x with | .str a=>(match y with | .str b=>some (lEq a b) | _=>none) | _=>none
 | .bool=>match x with | .bool a=>(match y with | .bool b=>some (qFP a b) | _=>none) | _=>none
 | _=>none
def qHD (d:TypeDesc) (k:AV):qHE→Nat→Option (Option (Nat×AV))
 | [],_=>some none
 | e::es,i =>
  match qFH d k e.1 with
  | some true=>some (some (i,e.2.1))
  | some false=>qHD d k es (i+1)
  | none=>none
def qMD (st:ASt) (x:AV):Option qHE :=
 match x with
 | .map none=>some []
 | .map (some i)=>match st.h.get i with | some (.map es _)=>some es | _=>none
 | _=>none
def qKT (st:ASt):AV×ASt:=(.map (some st.next),st.add (.map [] 0))
def qDL (E:Env) (t:TypeId) (x ix:AV) (ok:Bool) (st:ASt):Option AV :=
 match E.ty.get t with
 | none=>none
 | some ti =>
  match ti.desc with
  | .map key elem =>
   match E.ty.get key with
   | none=>none
   | some tk =>
    match qMD st x with
    | none=>none
    | some es =>
     match qHD tk.desc ix es 0 with
     | none=>none
     | some (some p)=>bif plainKey tk.desc then some (bif ok then .tuple [p.2,.bool true] else p.2) else none
     | some none =>
      match E.ty.get elem with
      | none=>none
      | some te=>match te.zero with | some z=>(bif plainKey tk.desc then some (bif ok then .tuple [z,.bool false] else z) else none) | none=>none
  | _=>none
def qIa (es:qHE) (i:Nat) (k v:AV):qHE:=es.modify i (fun e=>(k,v,e.2.2))
def qB6 (E:Env) (t:TypeId) (m k v:AV) (st:ASt):Option ASt :=
 match E.ty.get t with
 | none=>none
 | some ti =>
  match ti.desc with
  | .map key _ =>
   match E.ty.get key with
   | none=>none
   | some tk =>
    bif plainKey tk.desc then
     match m with
     | .map (some i) =>
      match st.h.get i with
      | some (.map es c) =>
       match qHD tk.desc k es 0 with
       | some (some p)=>some (st.put i (.map (qIa es p.1 k v) c))
       | some none=>some (st.put i (.map (es++[(k,v,c)]) (c+1)))
       | none=>none
      | _=>none
     | _=>none
    else none
  | _=>none
def qMc (E:Env) (t:TypeId) (m k:AV) (st:ASt):Option ASt :=
 match E.ty.get t with
 | none=>none
 | some ti =>
  match ti.desc with
  | .map key _ =>
   match E.ty.get key with
   | none=>none
   | some tk =>
    bif plainKey tk.desc then
     match m with
     | .map none=>some st
     | .map (some i) =>
      match st.h.get i with
      | some (.map es c) =>
       match qHD tk.desc k es 0 with
       | some (some p)=>some (st.put i (.map (es.eraseIdx p.1) c))
       | some none=>some (st.put i (.map es c))
       | none=>none
      | _=>none
     | _=>none
    else none
  | _=>none
def qSI (E:Env) (t:TypeId) (x:AV) (st:ASt):Option ASt :=
 match E.ty.get t with
 | none=>none
 | some ti =>
  match x with
  | .map none=>some st
  | .map (some i)=>match st.h.get i with | some (.map _ c)=>some (st.put i (.map [] c)) | _=>none
  | .slice none _ _=>some st
  | .slice0=>some st
  | .slice (some (i,o)) n _ =>
   match n with
   | 0=>some st
   | _ =>
    match ti.desc with
    | .slice e =>
     match E.ty.get e with
     | none=>none
     | some ei =>
      match ei.zero with
      | none=>none
      | some z =>
       match z with
       | .tuple _=>none
       | .any=>none
       | _ =>
        match st.h.get i with
        | some (.cells cs true)=>match qHH cs o (qGO (cellsOf z) n) with | some cs'=>some (st.put i (.cells cs' true)) | none=>none
        | _=>none
    | _=>none
  | _=>none
def qYM (E:Env) (t:TypeId) (x:AV) (st:ASt):Option AV :=
 match x with
 | .map (some i) =>
  match E.ty.get t with
  | some ti =>
   match ti.desc with
   | .map _ _=>match st.h.get i with | some (.map es _)=>some (.int .i64 (.ofNat es.length)) | _=>none
   | _=>none
  | none=>none
 | _=>none
section
variable {P:Program} {E:Env} {B:Prot} {w0:World} {ι:Ren} {st:ASt} {w:World}
theorem baEq (a b:ByteArray):(a == b)=(a.toList == b.toList):=by
 have e:(a == b)=(a.data == b.data):=rfl;rw[e,Bool.eq_iff_iff,beq_iff_eq,beq_iff_eq,ByteArray.toList_eq,ByteArray.toList_eq];exact⟨fun h=>by rw[h],fun h=>Array.ext' h⟩
theorem qRm {a b:ByteArray} (h:(a == b)=true):a=b:=by
 have e:(a == b)=(a.data == b.data):=rfl;rw[e,beq_iff_eq] at h;exact ByteArray.ext h
theorem qYD (a:ByteArray):(a == a)=true:=by
 have e:(a == a)=(a.data == a.data):=rfl;rw[e];exact beq_self_eq_true _
theorem qNW {d:TypeDesc} {x y:AV} {x' y':Value} {b:Bool} (hx:VR ι x x') (hy:VR ι y y') (h:qFH d x y=some b):Instr.sameNow d x' y'=some b∧(b=true→Instr.sameBits 10000 y' x'=true):=by
 cases d with
 | int kk =>
  cases hx with
  | int k a =>
   cases hy with
   | int j c =>
    simp only[qFH] at h;cases hk:kEq k j
    ·simp[hk] at h
    ·have:=qQn hk;subst this;simp only[hk,cond_true,qz1] at h;rw[qCG] at h;refine⟨by simp only[Instr.sameNow,if_true];rw[h],fun hb=>?_⟩;rw[hb] at h;have:a=c:=by simpa using h
     subst this;simp[Instr.sameBits]
   | _=>simp[qFH] at h
  | _=>simp[qFH] at h
 | string =>
  have hx0:=hx;have hy0:=hy;cases hx with
  | str l s hs =>
   cases hy with
   | str m r hr =>
    simp only[qFH,qz1] at h;have e:=str_eq hx0 hy0;refine⟨by simp only[Instr.sameNow];rw[baEq,e,h],fun hb=>?_⟩;rw[hb,←e] at h;have:s=r:=qRm (by rw[baEq];exact h);subst this;simp only[Instr.sameBits];exact qYD s
   | _=>simp[qFH] at h
  | _=>simp[qFH] at h
 | bool =>
  cases hx with
  | bool a =>
   cases hy with
   | bool c =>
    simp only[qFH,qz1] at h;have e:(a == c)=qFP a c:=by cases a<;>cases c<;>rfl
    refine⟨by simp only[Instr.sameNow];rw[e,h],fun hb=>?_⟩;rw[hb,←e] at h;have:a=c:=by simpa using h
    subst this;simp[Instr.sameBits]
   | _=>simp[qFH] at h
  | _=>simp[qFH] at h
 | _=>simp[qFH] at h
def qKY (ι:Ren) (es:qHE) (es':List MapEntry):Prop:=es.length=es'.length∧∀(i:Nat) x e,es[i]? = some x→es'[i]? = some e→VR ι x.1 e.key∧VR ι x.2.1 e.val∧x.2.2=e.born
theorem qEA {d:TypeDesc} {k:AV} {k':Value} (hk:VR ι k k'):∀(es:qHE) (es':List MapEntry) (i:Nat) (r:Option (Nat×AV)),qKY ι es es'→qHD d k es i=some r →
  match r with
  | none=>Instr.findNow d k' es' i=some none
  | some p=>∃v' j e,Instr.findNow d k' es' i=some (some (p.1,v'))∧VR ι p.2 v'∧p.1=i+j∧es'[j]? = some e∧Instr.sameBits 10000 e.key k'=true
 | [],es',i,r,he,h=>by
  simp only[qHD,qz1] at h;subst h;have:es'=[]:=by have:=he.1;simp at this;exact List.eq_nil_of_length_eq_zero this.symm
  subst this;rfl
 | e::es,[],i,r,he,h=>by have:=he.1;simp at this
 | e::es,e'::es',i,r,he,h=>by
  have h0:=he.2 0 e e' rfl rfl;have het:qKY ι es es':=⟨by have:=he.1;simpa using this,fun j x y hx hy=>he.2 (j+1) x y (by simpa using hx) (by simpa using hy)⟩;simp only[qHD] at h
  split at h
  ·rename_i hq;simp only[qz1] at h;subst h;obtain⟨q1,q2⟩:=qNW hk h0.1 hq;exact⟨e'.val,0,e',by simp only[Instr.findNow,q1],h0.2.1,rfl,rfl,q2 rfl⟩
  ·rename_i hq;obtain⟨q1,_⟩:=qNW hk h0.1 hq;have ih:=qEA hk es es' (i+1) r het h;cases r with
   | none=>simp only[Instr.findNow,q1];exact ih
   | some p =>
    obtain⟨v',j,e1,g1,g2,g3,g4,g5⟩:=ih;exact⟨v',j+1,e1,by simp only[Instr.findNow,q1];exact g1,g2,by omega,by simpa using g4,g5⟩
  ·simp at h
theorem run_checkKey {t:TypeId} {ti:TI} (hE:E.Ok P) (hti:E.ty.get t=some ti) (hp:plainKey ti.desc=true) (b:Bool) (v:Value):(Instr.checkKey b 10000 t v).run P w=.ok () w:=by
 have hk:=(qAS (hE.ty _ _ hti)).run_und w;rw[show (10000:Nat)=9999+1 from rfl,Instr.checkKey];simp only[Sem.run_bind,hk,Result.andThen_ok];cases hd:ti.desc<;>simp only[hd,plainKey,Bool.false_eq_true] at hp<;>simp only[Sem.run_pure]
theorem run_findKey {t:TypeId} {ti:TI} (hE:E.Ok P) (hti:E.ty.get t=some ti) {k':Value} {es':List MapEntry} {r:Option (Nat×Value)} (h:Instr.findNow ti.desc k' es' 0=some r) :
  (Instr.findKey t k' es').run P w=.ok r w:=by
 have hk:=(qAS (hE.ty _ _ hti)).run_und w;simp only[Instr.findKey,Sem.run_bind,hk,Result.andThen_ok,h,Sem.run_pure]
theorem qDu (h:SR B w0 ι st w) {i:Nat} {es:qHE} {c:Nat} {L:Loc} (hi:st.h.get i=some (.map es c)) (hL:ι i=some L):∃es':Array MapEntry,w.heap[L.b]? = some (.map es' c)∧qKY ι es es'.toList:=by
 obtain⟨L',o,h1,h2,es',h3,h4,h5⟩:=h.obj i _ hi (by simp);rw[hL] at h1;cases h1;exact⟨es',by rw[h2,h3],by simpa using h4,fun i x e hx he=>h5 i x e hx (by simpa using he)⟩
theorem qBJ {b:Nat} {es:Array MapEntry} {c:Nat} (h:w.heap[b]? = some (.map es c)):(getObj b).run P w=.ok (.map es c) w:=by simp[getObj,Sem.run,h]
theorem qDe {b:Nat} {es:Array MapEntry} {c:Nat} (o':Obj) (h:w.heap[b]? = some (.map es c)):(setObj b o').run P w=.ok () (setObjW w b o'):=by simp[setObj,Sem.run,h,setObjW]
theorem qM7 (h:SR B w0 ι st w) {t:TypeId}:Did P B w0 ι w (Instr.makeMap t none) (qKT st):=by
 obtain⟨h1,h2,h3⟩:=h.alloc (.map [] 0) (.map #[] 0) 0 ⟨#[],rfl,rfl,fun i x e hx=>by simp at hx⟩;refine⟨_,.map (some w.heap.size),_,?_,h2,h1,.map _ ⟨w.heap.size,0,0⟩ h3⟩;simp only[Instr.makeMap,Sem.run_bind,run_newObj_alloc,Result.andThen_ok,Sem.run_pure]
theorem qTT (h:SR B w0 ι st w) {x:AV} {x':Value} (hx:VR ι x x') {es:qHE} (hm:qMD st x=some es) :
  ∃es':Array MapEntry,((x'=.map none∧es'=#[])∨∃r c,x'=.map (some r)∧w.heap[r]? = some (.map es' c))∧qKY ι es es'.toList:=by
 cases hx with
 | mapN =>
  simp only[qMD,qz1] at hm;subst hm;exact⟨#[],.inl ⟨rfl,rfl⟩,rfl,fun i x e hx=>by simp at hx⟩
 | map i L hL =>
  simp only[qMD] at hm
  split at hm
  ·rename_i es1 c hi;simp only[qz1] at hm;subst hm;obtain⟨es',h1,h2⟩:=qDu h hi hL;exact⟨es',.inr ⟨_,_,rfl,h1⟩,h2⟩
  ·simp at hm
 | _=>simp[qMD] at hm
theorem qOb (hE:E.Ok P) (h:SR B w0 ι st w) {t:TypeId} {x ix r:AV} {x' ix':Value} {ok:Bool} (hx:VR ι x x') (hi:VR ι ix ix') (hr:qDL E t x ix ok st=some r) :
  ∃v,(Instr.lookup t x' ix' ok).run P w=.ok v w∧VR ι r v:=by
 simp only[qDL] at hr
 split at hr
 ·simp at hr
 rename_i ti hti;have hk:=(qAS (hE.ty _ _ hti)).run_und w
 split at hr
 rotate_left
 ·simp at hr
 rename_i key elem hd;rw[hd] at hk
 split at hr
 ·simp at hr
 rename_i tk htk
 split at hr
 ·simp at hr
 rename_i es hes;obtain⟨es',qI0,hent⟩:=qTT h hx hes;have two:∀{a:AV} {v:Value} (b:Bool),VR ι a v→VR ι (.tuple [a,.bool b]) (.tuple #[v,.bool b]):=fun {a v} b hv=>.tuple _ _ rfl (fun i y y' hy hy'=>by
  match i with
  | 0=>simp at hy hy';subst hy;subst hy';exact hv
  | 1=>simp at hy hy';subst hy;subst hy';exact .bool b
  | i+2=>simp at hy)
 have fin:∀{a:AV} {v:Value} (b:Bool),VR ι a v→VR ι (bif ok then .tuple [a,.bool b] else a) (if ok=true then .tuple #[v,.bool b] else v):=fun {a v} b hv=>by
  cases ok
  ·exact hv
  ·exact two b hv
 split at hr
 ·simp at hr
 ·rename_i p hp;cases hpl:plainKey tk.desc
  ·simp[hpl] at hr
  simp only[hpl,cond_true,qz1] at hr;subst hr;obtain⟨v',j,e,g1,g2,_⟩:=qEA hi es es'.toList 0 _ hent hp;refine⟨if ok=true then .tuple #[v',.bool true] else v',?_,fin true g2⟩;rcases qI0 with⟨rfl,rfl⟩ | ⟨r0,c0,rfl,ho⟩
  ·simp only[Instr.lookup,Sem.run_bind,hk,Result.andThen_ok,run_checkKey hE htk hpl,run_findKey hE htk g1,Sem.run_pure]
  ·simp only[Instr.lookup,Sem.run_bind,hk,Result.andThen_ok,qBJ ho,run_checkKey hE htk hpl,run_findKey hE htk g1,Sem.run_pure]
 ·rename_i hp
  split at hr
  ·simp at hr
  rename_i te hte
  split at hr
  ·rename_i z hz;cases hpl:plainKey tk.desc
   ·simp[hpl] at hr
   simp only[hpl,cond_true,qz1] at hr;subst hr;have g1:=qEA hi es es'.toList 0 _ hent hp;simp only at g1;obtain⟨v,hv1,hv2⟩:=(qAS (hE.ty _ _ hte)).run_zero hz w;refine⟨if ok=true then .tuple #[v,.bool false] else v,?_,fin false (hv2 ι)⟩;rcases qI0 with⟨rfl,rfl⟩ | ⟨r0,c0,rfl,ho⟩
   ·simp only[Instr.lookup,Sem.run_bind,hk,Result.andThen_ok,run_checkKey hE htk hpl,run_findKey hE htk g1,hv1,Sem.run_pure]
   ·simp only[Instr.lookup,Sem.run_bind,hk,Result.andThen_ok,qBJ ho,run_checkKey hE htk hpl,run_findKey hE htk g1,hv1,Sem.run_pure]
  ·simp at hr
theorem qKY.snoc {es:qHE} {es':List MapEntry} (h:qKY ι es es') {k v:AV} {k' v':Value} (hk:VR ι k k') (hv:VR ι v v') (c:Nat):qKY ι (es++[(k,v,c)]) (es'++[{key:=k',val:=v',born:=c}]):=by
 refine⟨by simp[h.1],fun i x e hx he=>?_⟩
 by_cases hi:i<es.length
 ·rw[List.getElem?_append_left hi] at hx;rw[List.getElem?_append_left (by rw[←h.1];exact hi)] at he;exact h.2 i x e hx he
 ·have e1:i=es.length:=by
   have:=(List.getElem?_eq_some_iff.1 hx).1;simp at this;omega
  subst e1;rw[List.getElem?_append_right (Nat.le_refl _)] at hx;rw[List.getElem?_append_right (by rw[h.1];exact Nat.le_refl _)] at he;simp[h.1] at hx he;subst hx;subst he;exact⟨hk,hv,rfl⟩
theorem qGD (hE:E.Ok P) (h:SR B w0 ι st w) {t:TypeId} {m k v:AV} {m' k' v':Value} {st':ASt} (hm:VR ι m m') (hk:VR ι k k') (hv:VR ι v v') (hr:qB6 E t m k v st=some st') :
  ∃w',(Instr.mapUpdate t m' k' v').run P w=.ok () w'∧SR B w0 ι st' w':=by
 simp only[qB6] at hr
 split at hr
 ·simp at hr
 rename_i ti hti;have hu:=(qAS (hE.ty _ _ hti)).run_und w
 split at hr
 rotate_left
 ·simp at hr
 rename_i key elem hd;rw[hd] at hu
 split at hr
 ·simp at hr
 rename_i tk htk;cases hpl:plainKey tk.desc
 ·simp[hpl] at hr
 simp only[hpl,cond_true] at hr
 split at hr
 rotate_left
 ·simp at hr
 rename_i i;cases hm with
 | map _ L hL =>
 split at hr
 rotate_left
 ·simp at hr
 rename_i es c hi;obtain⟨es',ho,hent⟩:=qDu h hi hL
 split at hr
 ·rename_i p hp;simp only[qz1] at hr;subst hr;obtain⟨v0,j,e,g1,g2,g3,g4,g5⟩:=qEA hk es es'.toList 0 _ hent hp;have hpj:p.1=j:=by omega
  have g4':es'[p.1]? = some e:=by rw[hpj];simpa using g4
  have hw:=h.write (a':=.map (qIa es p.1 k v) c) hi rfl hL (o':=.map (es'.modify p.1 fun e=>{e with key:=k',val:=v'}) c)
   ⟨_,rfl,by simpa [qIa] using hent.1,fun q x y hx hy=>by
    simp only[qIa,List.getElem?_modify] at hx;rw[Array.getElem?_modify] at hy
    by_cases e1:p.1=q
    ·subst e1;cases h1:es[p.1]? with
     | none=>simp[h1] at hx
     | some x0 =>
      cases h2:es'[p.1]? with
      | none=>simp[h2] at hy
      | some y0 =>
       simp only[h1,if_true,Option.map_eq_map,Option.map_some,qz1] at hx;simp only[h2,if_true,Option.map_some,qz1] at hy;have h3:=(hent.2 _ _ _ h1 (by rw[Array.getElem?_toList];exact h2)).2.2;subst hx;subst hy;exact⟨hk,hv,h3⟩
    ·simp only[e1,if_false] at hx hy;exact hent.2 q x y (by simpa using hx) (by simpa using hy)⟩
  refine⟨_,?_,hw⟩;simp only[Instr.mapUpdate,Sem.run_bind,hu,Result.andThen_ok,qBJ ho,run_checkKey hE htk hpl,run_findKey hE htk g1,g4',Option.map_some,Option.getD_some,Instr.keyThatStays,g5,if_true,Sem.run_pure,qDe _ ho]
 ·rename_i hp;simp only[qz1] at hr;subst hr;have g1:=qEA hk es es'.toList 0 _ hent hp;simp only at g1;have hs:=hent.snoc hk hv c;have hw:=h.write (a':=.map (es++[(k,v,c)]) (c+1)) hi rfl hL (o':=.map (es'.push {key:=k',val:=v',born:=c}) (c+1))
   ⟨_,rfl,by simpa using hs.1,fun q x y hx hy=>hs.2 q x y hx (by rw[←Array.toList_push,Array.getElem?_toList];exact hy)⟩
  refine⟨_,?_,hw⟩;simp only[Instr.mapUpdate,Sem.run_bind,hu,Result.andThen_ok,qBJ ho,run_checkKey hE htk hpl,run_findKey hE htk g1,qDe _ ho]
 ·simp at hr
theorem qOd (hE:E.Ok P) (h:SR B w0 ι st w) {t:TypeId} {ts:List TypeId} {rT:TypeId} {m k:AV} {m' k':Value} {st':ASt} (hm:VR ι m m') (hk:VR ι k k') (hr:qMc E t m k st=some st') :
  ∃w',(Builtin.delete_ (t::ts).toArray rT #[m',k']).run P w=.ok (.tuple #[]) w'∧SR B w0 ι st' w':=by
 simp only[qMc] at hr
 split at hr
 ·simp at hr
 rename_i ti hti;have hu:=(qAS (hE.ty _ _ hti)).run_und w
 split at hr
 rotate_left
 ·simp at hr
 rename_i key elem hd;rw[hd] at hu
 split at hr
 ·simp at hr
 rename_i tk htk;cases hpl:plainKey tk.desc
 ·simp[hpl] at hr
 simp only[hpl,cond_true] at hr;have e0:(t::ts).toArray[0]? = some t:=rfl;have e1:(#[m',k']:Array Value)[0]? = some m':=rfl;have e2:(#[m',k']:Array Value)[1]? = some k':=rfl
 split at hr
 ·cases hm;simp only[qz1] at hr;subst hr;refine⟨w,?_,h⟩;simp only[Builtin.delete_,e0,e1,e2,Sem.run_bind,hu,Result.andThen_ok,run_checkKey hE htk hpl,Sem.run_pure]
 ·rename_i i;cases hm with
  | map _ L hL =>
  split at hr
  rotate_left
  ·simp at hr
  rename_i es c hi;obtain⟨es',ho,hent⟩:=qDu h hi hL
  split at hr
  ·rename_i p hp;simp only[qz1] at hr;subst hr;obtain⟨v0,j,e,g1,g2,g3,g4,g5⟩:=qEA hk es es'.toList 0 _ hent hp;have hlt:p.1<es'.size:=by have:=(List.getElem?_eq_some_iff.1 g4).1;simp at this;omega
   have hw:=h.write (a':=.map (es.eraseIdx p.1) c) hi rfl hL (o':=.map (es'.eraseIdxIfInBounds p.1) c)
    ⟨_,rfl,by
     have hlen:es.length=es'.size:=by simpa using hent.1
     rw[←Array.length_toList,Array.toList_eraseIdxIfInBounds,List.length_eraseIdx,List.length_eraseIdx];simp only[hlen,Array.length_toList],fun q x y hx hy=>by
     rw[←Array.getElem?_toList,Array.toList_eraseIdxIfInBounds,List.getElem?_eraseIdx] at hy;rw[List.getElem?_eraseIdx] at hx
     by_cases hq:q<p.1
     ·simp only[hq,if_true] at hx hy;exact hent.2 _ _ _ hx hy
     ·simp only[hq,if_false] at hx hy;exact hent.2 _ _ _ hx hy⟩
   refine⟨_,?_,hw⟩;simp only[Builtin.delete_,e0,e1,e2,Sem.run_bind,hu,Result.andThen_ok,qBJ ho,run_checkKey hE htk hpl,run_findKey hE htk g1,qDe _ ho,Sem.run_pure]
  ·rename_i hp;simp only[qz1] at hr;subst hr;have g1:=qEA hk es es'.toList 0 _ hent hp;simp only at g1;have hw:=h.write (a':=.map es c) hi rfl hL (o':=.map es' c) ⟨_,rfl,by simpa using hent.1,fun q x y hx hy=>hent.2 q x y hx (by simpa using hy)⟩;refine⟨_,?_,hw⟩;simp only[Builtin.delete_,e0,e1,e2,Sem.run_bind,hu,Result.andThen_ok,qBJ ho,run_checkKey hE htk hpl,run_findKey hE htk g1,qDe _ ho,Sem.run_pure]
  ·simp at hr
 ·simp at hr
theorem qSH (hE:E.Ok P) (h:SR B w0 ι st w) {t:TypeId} {ts:List TypeId} {rT:TypeId} {x:AV} {x':Value} {st':ASt} (hx:VR ι x x') (hr:qSI E t x st=some st') :
  ∃w',(Builtin.clear_ (t::ts).toArray rT #[x']).run P w=.ok (.tuple #[]) w'∧SR B w0 ι st' w':=by
 simp only[qSI] at hr
 split at hr
 ·simp at hr
 rename_i ti hti;have hu:=(qAS (hE.ty _ _ hti)).run_und w;have e0:(t::ts).toArray[0]? = some t:=rfl;have e1:(#[x']:Array Value)[0]? = some x':=rfl
 split at hr
 ·cases hx;simp only[qz1] at hr;subst hr;refine⟨w,?_,h⟩;simp only[Builtin.clear_,e0,e1,Sem.run_bind,hu,Result.andThen_ok,Sem.run_pure]
 ·rename_i i;cases hx with
  | map _ L hL =>
  split at hr
  ·rename_i es c hi;simp only[qz1] at hr;subst hr;obtain⟨es',ho,hent⟩:=qDu h hi hL;have hw:=h.write (a':=.map [] c) hi rfl hL (o':=.map #[] c) ⟨#[],rfl,rfl,fun i x e hx=>by simp at hx⟩;refine⟨_,?_,hw⟩;simp only[Builtin.clear_,e0,e1,Sem.run_bind,hu,Result.andThen_ok,qBJ ho,qDe _ ho,Sem.run_pure]
  ·simp at hr
 ·cases hx;simp only[qz1] at hr;subst hr;refine⟨w,?_,h⟩;simp only[Builtin.clear_,e0,e1,Sem.run_bind,hu,Result.andThen_ok,Sem.run_pure]
 ·cases hx;simp only[qz1] at hr;subst hr;refine⟨w,?_,h⟩;simp only[Builtin.clear_,e0,e1,Sem.run_bind,hu,Result.andThen_ok,Sem.run_pure]
 ·rename_i i o n cp;cases hx with
  | slice _ _ _ c' L _ hL hc hl =>
  split at hr
  ·simp only[qz1] at hr;subst hr;refine⟨w,?_,h⟩;simp only[Builtin.clear_,e0,e1,Sem.run_bind,hu,Result.andThen_ok,Sem.run_pure]
  ·rename_i hn0
   split at hr
   rotate_left
   ·simp at hr
   rename_i e hd;rw[hd] at hu
   split at hr
   ·simp at hr
   rename_i ei hei
   split at hr
   ·simp at hr
   rename_i z hz;have key:((∀vs,z≠.tuple vs)∧z≠.any)→(match st.h.get i with
     | some (.cells cs true)=>match qHH cs o (qGO (cellsOf z) n) with | some cs'=>some (st.put i (.cells cs' true)) | none=>none
     | _=>none)=some st'→∃w',(Builtin.clear_ (t::ts).toArray rT #[.slice (some ⟨L.b,L.p+o,none⟩) n c']).run P w=.ok (.tuple #[]) w'∧SR B w0 ι st' w':=by
    intro hnt hr
    split at hr
    ·rename_i cs hi
     split at hr
     ·rename_i cs' hset;simp only[qz1] at hr;subst hr;obtain⟨v,hv1,hv2,hv3⟩:=qGK hE hei hz hnt w;have hrep:=qFl (hv2 ι) n;obtain⟨w',s1,s2⟩:=SR.storeCells (P:=P) (qGO (cellsOf z) n) (Builtin.zeroCells v.cells n).toList 0 o cs cs' st w h hi hL (by simpa using hset) (by simpa only[Builtin.zeroCells,Array.toArray_toList] using hrep) (qDg hv3 n);refine⟨w',?_,s2⟩;cases n with
      | zero=>exact absurd rfl hn0
      | succ n =>
       simp only[Builtin.clear_,e0,e1,Sem.run_bind,hu,Result.andThen_ok,hv1,s1,Sem.run_pure]
     ·simp at hr
    ·simp at hr
   split at hr
   ·simp at hr
   ·simp at hr
   ·rename_i hnt hny;exact key ⟨fun vs e=>hnt vs e,fun e=>hny e⟩ hr
 ·simp at hr
theorem qUL (hE:E.Ok P) (h:SR B w0 ι st w) {t:TypeId} {ts:List TypeId} {rT:TypeId} {x r:AV} {x':Value} (hx:VR ι x x') (hr:qYM E t x st=some r) :
  ∃v,(Builtin.len_ (t::ts).toArray rT #[x']).run P w=.ok v w∧VR ι r v:=by
 simp only[qYM] at hr
 split at hr
 ·rename_i i;cases hx with
  | map _ L hL =>
  split at hr
  ·rename_i ti hti;have hu:=(qAS (hE.ty _ _ hti)).run_und w
   split at hr
   ·rename_i k e hd;rw[hd] at hu
    split at hr
    ·rename_i es c hi;simp only[qz1] at hr;subst hr;obtain⟨es',ho,hent⟩:=qDu h hi hL;have e0:(t::ts).toArray[0]? = some t:=rfl;have e1:(#[Value.map (some L.b)]:Array Value)[0]? = some (.map (some L.b)):=rfl;refine⟨.int .i64 (es'.size:Int),?_,by have:=hent.1;simp at this;rw[this];exact .int .i64 _⟩;simp only[Builtin.len_,e0,e1,Sem.run_bind,hu,Result.andThen_ok,qBJ ho,Sem.run_pure,goInt]
    ·simp at hr
   ·simp at hr
  ·simp at hr
 ·simp at hr
end
def qJD (E:Env) (t:TypeId) (x:AV) (st:ASt):Option (AV×ASt) :=
 match E.ty.get t with
 | none=>none
 | some ti =>
  match ti.desc with
  | .string=>match x with | .str s=>some (.ptr (some (st.next,0)),st.add (.siter s 0)) | _=>none
  | .map _ _ =>
   match x with
   | .map none=>some (.ptr (some (st.next,0)),st.add (.miter none 0 [] 0))
   | .map (some i)=>match st.h.get i with | some (.map _ c)=>some (.ptr (some (st.next,0)),st.add (.miter (some i) c [] c)) | _=>none
   | _=>none
  | _=>none
def qCY (n:Nat):List Nat→Bool
 | []=>false
 | m::ms=>bif Nat.beq n m then true else qCY n ms
def qKG (p:Nat→Bool):qHE→qHE
 | []=>[]
 | e::es=>bif p e.2.2 then e::qKG p es else qKG p es
def qOo (p:Nat→Bool):qHE→Bool
 | []=>true
 | e::es=>bif p e.2.2 then qOo p es else false
def isNil {α:Type}:List α→Bool
 | []=>true
 | _=>false
def qQM (st:ASt):Option (AV×ASt):=some (.tuple [.bool false],st)
def qO9 (x:AV) (isS:Bool) (st:ASt):Option (AV×ASt) :=
 match x with
 | .ptr (some (i,0)) =>
  match st.h.get i with
  | some (.siter s pos) =>
   bif isS then
    bif Nat.blt pos s.length then
     match s[pos]? with
     | some b=>bif Nat.blt b 128 then some (.tuple [.bool true,.int .i64 (.ofNat pos),.int .i32 (.ofNat b)],st.put i (.siter s (pos+1))) else none
     | none=>none
    else qQM st
   else none
  | some (.miter m since seen last) =>
   bif isS then none else
   match m with
   | none=>qQM st
   | some j =>
    match st.h.get j with
    | some (.map es c) =>
     bif (bif isNil seen then false else bif isNil es then false else qOo (fun b=>Nat.ble last b) es) then none else
     let left:=qKG (fun b=>Bool.not (qCY b seen)) es
     match qKG (fun b=>Nat.blt b since) left with
     | []=>(match qKG (fun b=>Nat.ble since b) left with | []=>qQM st | _=>none)
     | [e]=>(match qKG (fun b=>Nat.ble since b) left with
      | []=>some (.tuple [.bool true,e.1,e.2.1],st.put i (.miter (some j) since (seen++[e.2.2]) c))
      | _=>none)
     | _=>none
    | _=>none
  | _=>none
 | _=>none
def qMZ (n:Nat):qHE→Option (AV×AV)
 | []=>none
 | e::es=>bif Nat.beq e.2.2 n then some (e.1,e.2.1) else qMZ n es
def qJF (x:AV) (st:ASt):Option AV :=
 match x with
 | .ptr (some (i,0)) =>
  match st.h.get i with
  | some (.miter (some j) _ seen last) =>
   match seen.getLast? with
   | none=>none
   | some b =>
    match st.h.get j with
    | some (.map es c) =>
     bif Nat.beq c last then
      match qMZ b es with
      | some p=>some (.tuple [p.1,p.2])
      | none=>none
     else none
    | _=>none
  | _=>none
 | _=>none
section
variable {P:Program} {E:Env} {B:Prot} {w0:World} {ι:Ren} {st:ASt} {w:World}
theorem qRw (hE:E.Ok P) (h:SR B w0 ι st w) {t:TypeId} {x:AV} {x':Value} {r:AV×ASt} (hx:VR ι x x') (hr:qJD E t x st=some r):Did P B w0 ι w (Instr.range t x') r:=by
 simp only[qJD] at hr
 split at hr
 ·simp at hr
 rename_i ti hti;have hk:=(qAS (hE.ty _ _ hti)).run_und w
 split at hr
 ·rename_i hd;rw[hd] at hk
  split at hr
  ·cases hx with
   | str _ s hs =>
    simp only[qz1] at hr;subst hr;obtain⟨h1,h2,h3⟩:=h.alloc (.siter _ 0) (.stringIter s 0) 0 ⟨rfl,s,rfl,hs⟩;refine⟨_,.pointer (some ⟨w.heap.size,0,none⟩),_,?_,h2,h1,.ptr _ 0 ⟨w.heap.size,0,0⟩ h3⟩;simp only[Instr.range,Sem.run_bind,hk,Result.andThen_ok,Sem.run_pure,run_newObj_alloc]
  ·simp at hr
 ·rename_i k e hd;rw[hd] at hk
  split at hr
  ·cases hx;simp only[qz1] at hr;subst hr;obtain⟨h1,h2,h3⟩:=h.alloc (.miter none 0 [] 0) (.mapIter none 0 #[] 0) 0 ⟨rfl,none,rfl,rfl⟩;refine⟨_,.pointer (some ⟨w.heap.size,0,none⟩),_,?_,h2,h1,.ptr _ 0 ⟨w.heap.size,0,0⟩ h3⟩;simp only[Instr.range,Sem.run_bind,hk,Result.andThen_ok,Sem.run_pure,run_newObj_alloc]
  ·rename_i i;cases hx with
   | map _ L hL =>
   split at hr
   ·rename_i es c hi;simp only[qz1] at hr;subst hr;obtain⟨es',ho,hent⟩:=qDu h hi hL;obtain⟨h1,h2,h3⟩:=h.alloc (.miter (some i) c [] c) (.mapIter (some L.b) c #[] c) 0 ⟨rfl,some L.b,rfl,L,hL,rfl⟩;refine⟨_,.pointer (some ⟨w.heap.size,0,none⟩),_,?_,h2,h1,.ptr _ 0 ⟨w.heap.size,0,0⟩ h3⟩;simp only[Instr.range,Sem.run_bind,hk,Result.andThen_ok,qBJ ho,Sem.run_pure,run_newObj_alloc]
   ·simp at hr
  ·simp at hr
 ·simp at hr
theorem qEb (n:Nat):∀l:List Nat,qCY n l=l.toArray.contains n
 | []=>by simp[qCY]
 | m::ms=>by
  simp only[qCY,qEb n ms,qFc]
  by_cases h:n=m
  ·subst h;simp
  ·simp[h]
theorem qF5 {p:Nat→Bool}:∀{es:qHE} {es':List MapEntry},qKY ι es es'→qKY ι (qKG p es) (es'.filter fun e=>p e.born)
 | [],es',h=>by
  have:es'=[]:=List.eq_nil_of_length_eq_zero (by have:=h.1;simpa using this.symm);subst this;exact⟨rfl,fun i x e hx=>by simp[qKG] at hx⟩
 | e::es,[],h=>by have:=h.1;simp at this
 | e::es,e'::es',h=>by
  have h0:=h.2 0 e e' rfl rfl;have ht:qKY ι es es':=⟨by have:=h.1;simpa using this,fun j x y hx hy=>h.2 (j+1) x y (by simpa using hx) (by simpa using hy)⟩;have ih:=qF5 (p:=p) ht;simp only[qKG,List.filter_cons];rw[h0.2.2];cases p e'.born
  ·exact ih
  ·refine⟨by simp only[cond_true,if_true,List.length_cons,ih.1],fun j x y hx hy=>?_⟩;simp only[cond_true,if_true] at hx hy;cases j with
   | zero=>simp at hx hy;subst hx;subst hy;exact h0
   | succ j=>exact ih.2 j x y (by simpa using hx) (by simpa using hy)
theorem qM6 {p:Nat→Bool}:∀{es:qHE} {es':List MapEntry},qKY ι es es'→qOo p es=es'.all fun e=>p e.born
 | [],es',h=>by
  have:es'=[]:=List.eq_nil_of_length_eq_zero (by have:=h.1;simpa using this.symm);subst this;rfl
 | e::es,[],h=>by have:=h.1;simp at this
 | e::es,e'::es',h=>by
  have h0:=h.2 0 e e' rfl rfl;have ht:qKY ι es es':=⟨by have:=h.1;simpa using this,fun j x y hx hy=>h.2 (j+1) x y (by simpa using hx) (by simpa using hy)⟩;simp only[qOo,List.all_cons,qM6 ht];rw[h0.2.2];cases p e'.born<;>rfl
theorem qKY.nil {es':List MapEntry} (h:qKY ι [] es'):es'=[]:=List.eq_nil_of_length_eq_zero (by have:=h.1;simpa using this.symm)
theorem qKY.one {e:AV×AV×Nat} {es':List MapEntry} (h:qKY ι [e] es'):∃e',es'=[e']∧VR ι e.1 e'.key∧VR ι e.2.1 e'.val∧e.2.2=e'.born:=by
 have hl:=h.1
 match es',hl,h with
 | [e'],_,h=>exact⟨e',rfl,h.2 0 e e' rfl rfl⟩
theorem three {a b:AV} {a' b':Value} (h1:VR ι a a') (h2:VR ι b b'):VR ι (.tuple [.bool true,a,b]) (.tuple #[.bool true,a',b']):=.tuple _ _ rfl (fun i y y' hy hy'=>by
 match i with
 | 0=>simp at hy hy';subst hy;subst hy';exact .bool true
 | 1=>simp at hy hy';subst hy;subst hy';exact h1
 | 2=>simp at hy hy';subst hy;subst hy';exact h2
 | i+3=>simp at hy)
theorem qJd (h:SR B w0 ι st w) {r:AV×ASt} (hr:qQM st=some r):Did P B w0 ι w (pure (.tuple #[.bool false])) r:=by
 simp only[qQM,qz1] at hr;subst hr;exact⟨ι,.tuple #[.bool false],w,by simp only[Sem.run_pure],ι.le_refl,h,.tuple _ _ rfl (fun i y y' hy hy'=>by
  cases i with
  | zero=>simp at hy hy';subst hy;subst hy';exact .bool false
  | succ i=>simp at hy)⟩
theorem qKb {b:Nat} {s:ByteArray} {p:Nat} (h:w.heap[b]? = some (.stringIter s p)):(getObj b).run P w=.ok (.stringIter s p) w:=by simp[getObj,Sem.run,h]
theorem qPs {b:Nat} {s:ByteArray} {p:Nat} (o':Obj) (h:w.heap[b]? = some (.stringIter s p)):(setObj b o').run P w=.ok () (setObjW w b o'):=by simp[setObj,Sem.run,h,setObjW]
theorem qE9 {b:Nat} {m:Option Nat} {since:Nat} {seen:Array Nat} {last:Nat} (h:w.heap[b]? = some (.mapIter m since seen last)):(getObj b).run P w=.ok (.mapIter m since seen last) w:=by simp[getObj,Sem.run,h]
theorem qKa {b:Nat} {m:Option Nat} {since:Nat} {seen:Array Nat} {last:Nat} (o':Obj) (h:w.heap[b]? = some (.mapIter m since seen last)):(setObj b o').run P w=.ok () (setObjW w b o'):=by simp[setObj,Sem.run,h,setObjW]
theorem ascii {s:ByteArray} {pos b:Nat} (h:(s.data.toList.map UInt8.toNat)[pos]? = some b) (hb:b<128):pos<s.size∧Utf8.decode s pos=(b,1):=by
 rw[List.getElem?_map] at h;cases hx:s.data.toList[pos]? with
 | none=>rw[hx] at h;simp at h
 | some x =>
  rw[hx] at h;simp only[Option.map_some,qz1] at h;have hlt:pos<s.data.size:=by have:=(List.getElem?_eq_some_iff.1 hx).1;simpa using this
  refine⟨hlt,?_⟩;have hg:s.get! (pos+0)=x:=by
   have h2:s.data[pos]? = some x:=by simpa using hx
   show s.data[pos+0]! = x;rw[Nat.add_zero,getElem!_def,h2]
  unfold Utf8.decode;simp only[hg,h,hb,if_true]
theorem qUH (h:SR B w0 ι st w) {x:AV} {x':Value} {isS:Bool} {ty:TypeId} {r:AV×ASt} (hx:VR ι x x') (hr:qO9 x isS st=some r):Did P B w0 ι w (Instr.next x' isS ty) r:=by
 unfold qO9 at hr
 split at hr
 rotate_left
 ·simp at hr
 rename_i i;cases hx with
 | ptr _ _ L hL =>
 split at hr
 ·rename_i s pos hi;obtain⟨L',o,h1,h2,h0,b,h3,h4⟩:=h.obj i _ hi (by simp);rw[hL] at h1;cases h1;rw[h3] at h2;cases isS
  ·simp at hr
  simp only[cond_true] at hr;have hlen:s.length=b.size:=by rw[←h4];simp
  have e0:L.p+0=0:=by omega
  cases hlt:Nat.blt pos s.length
  ·simp only[hlt,cond_false] at hr;have hge:¬pos<b.size:=by
    intro hh;have:Nat.blt pos s.length=true:=by rw[Nat.blt_eq];omega
    rw[this] at hlt;cases hlt
   obtain⟨ι',v,w',g1,g2,g3,g4⟩:=qJd (P:=P) h hr;refine⟨ι',v,w',?_,g2,g3,g4⟩;rw[←g1,e0];simp only[Instr.next,Sem.run_bind,qKb h2,Result.andThen_ok,hge,if_false]
  ·simp only[hlt,cond_true] at hr
   split at hr
   ·rename_i c hc;cases hb:Nat.blt c 128
    ·simp[hb] at hr
    simp only[hb,cond_true,qz1] at hr;subst hr;have hc':c<128:=by rw[←Nat.blt_eq];exact hb
    rw[←h4] at hc;obtain⟨k1,k2⟩:=ascii hc hc';have hw:=h.write (a':=.siter s (pos+1)) hi rfl hL (o':=.stringIter b (pos+1)) ⟨h0,b,rfl,h4⟩;refine⟨ι,.tuple #[.bool true,.int .i64 (pos:Int),.int .i32 (c:Int)],_,?_,ι.le_refl,hw,three (.int _ _) (.int _ _)⟩;rw[e0];simp only[Instr.next,Sem.run_bind,qKb h2,Result.andThen_ok,k1,if_true,k2,qPs _ h2,Sem.run_pure,goInt]
   ·simp at hr
 ·rename_i m since seen last hi;obtain⟨L',o,h1,h2,h0,m',h3,h4⟩:=h.obj i _ hi (by simp);rw[hL] at h1;cases h1;rw[h3] at h2;have e0:L.p+0=0:=by omega
  cases isS
  rotate_left
  ·simp at hr
  simp only[cond_false] at hr
  split at hr
  ·subst h4;obtain⟨ι',v,w',g1,g2,g3,g4⟩:=qJd (P:=P) h hr;refine⟨ι',v,w',?_,g2,g3,g4⟩;rw[←g1,e0];simp only[Instr.next,Sem.run_bind,qE9 h2,Result.andThen_ok]
  ·rename_i j;obtain⟨D,hD,rfl⟩:=h4
   split at hr
   rotate_left
   ·simp at hr
   rename_i es c hj;obtain⟨es',ho,hent⟩:=qDu h hj hD;cases hbad:(bif isNil seen then false else bif isNil es then false else qOo (fun b=>Nat.ble last b) es)
   rotate_left
   ·rw[hbad] at hr;exact absurd hr (by simp)
   simp only[hbad,cond_false] at hr;have hbad':(!seen.toArray.isEmpty && !es'.isEmpty && es'.all (fun e=>decide (e.born ≥ last)))=false:=by
    have e1:seen.toArray.isEmpty=isNil seen:=by cases seen<;>rfl
    have e2:es'.isEmpty=isNil es:=by
     have:=hent.1;cases es with
     | nil=>have:=hent.nil;simp at this;subst this;rfl
     | cons a l=>simp at this;simp[isNil];intro h;subst h;simp at this
    have e3:es'.all (fun e=>decide (e.born ≥ last))=qOo (fun b=>Nat.ble last b) es:=by
     rw[qM6 hent,←Array.all_toList]
     congr 1;funext e
     rw[Bool.eq_iff_iff,decide_eq_true_eq,Nat.ble_eq]
    rw[e1,e2,e3]
    revert hbad
    cases isNil seen<;>cases isNil es<;>cases qOo (fun b=>Nat.ble last b) es<;>simp
   have l1:=qF5 (p:=fun b=>Bool.not (qCY b seen)) hent;have l2:=qF5 (p:=fun b=>Nat.blt b since) l1;have l3:=qF5 (p:=fun b=>Nat.ble since b) l1;have q1:(es'.filter fun e=>!seen.toArray.contains e.born).toList=es'.toList.filter fun e=>Bool.not (qCY e.born seen):=by
    rw[Array.toList_filter]
    congr 1;funext e;rw[qEb]
   have q2:((es'.filter fun e=>!seen.toArray.contains e.born).filter fun e=>decide (e.born<since)).toList=(es'.toList.filter fun e=>Bool.not (qCY e.born seen)).filter fun e=>Nat.blt e.born since:=by
    rw[Array.toList_filter,q1]
    congr 1;funext e;rw[Bool.eq_iff_iff,decide_eq_true_eq,Nat.blt_eq]
   have q3:((es'.filter fun e=>!seen.toArray.contains e.born).filter fun e=>decide (e.born ≥ since)).toList=(es'.toList.filter fun e=>Bool.not (qCY e.born seen)).filter fun e=>Nat.ble since e.born:=by
    rw[Array.toList_filter,q1]
    congr 1;funext e;rw[Bool.eq_iff_iff,decide_eq_true_eq,Nat.ble_eq]
   rw[←q2] at l2;rw[←q3] at l3;generalize hA:((es'.filter fun e=>!seen.toArray.contains e.born).filter fun e=>decide (e.born<since))=A at l2;generalize hB:((es'.filter fun e=>!seen.toArray.contains e.born).filter fun e=>decide (e.born ≥ since))=Bq at l3
   split at hr
   ·rename_i hnil;rw[hnil] at l2;have hA0:A=#[]:=Array.ext' (by simpa using l2.nil)
    split at hr
    ·rename_i hnil2;rw[hnil2] at l3;have hB0:Bq=#[]:=Array.ext' (by simpa using l3.nil);obtain⟨ι',v,w',g1,g2,g3,g4⟩:=qJd (P:=P) h hr;refine⟨ι',v,w',?_,g2,g3,g4⟩;rw[←g1,e0];simp only[Instr.next,Sem.run_bind,qE9 h2,Result.andThen_ok,qBJ ho,hbad',Bool.false_eq_true,if_false,hA,hB,hA0,hB0];have harr:((if (#[]:Array MapEntry).isEmpty then #[none] else #[])++((#[]:Array MapEntry)++#[]).map some)=(#[none]:Array (Option MapEntry)):=by simp
     rw[harr];have hch:(choose (.mapNext (#[none]:Array (Option MapEntry)).size)).run P w=.ok 0 w:=by
      rw[run_choose_drew];rfl
     rw[hch];simp only[Result.andThen_ok];have hget:(#[none]:Array (Option MapEntry))[0]? = some (none):=rfl;rw[hget]
    ·simp at hr
   ·rename_i e hone;rw[hone] at l2;obtain⟨e',he',f1,f2,f3⟩:=l2.one;have hA0:A=#[e']:=Array.ext' (by simpa using he')
    split at hr
    ·rename_i hnil2;rw[hnil2] at l3;have hB0:Bq=#[]:=Array.ext' (by simpa using l3.nil);simp only[qz1] at hr;subst hr;have hw:=h.write (a':=.miter (some j) since (seen++[e.2.2]) c) hi rfl hL (o':=.mapIter (some D.b) since (seen.toArray.push e'.born) c)
      ⟨h0,some D.b,by rw[f3];simp,D,hD,rfl⟩
     refine⟨ι,.tuple #[.bool true,e'.key,e'.val],_,?_,ι.le_refl,hw,three f1 f2⟩;rw[e0];simp only[Instr.next,Sem.run_bind,qE9 h2,Result.andThen_ok,qBJ ho,hbad',Bool.false_eq_true,if_false,hA,hB,hA0,hB0];have harr:((if (#[e']:Array MapEntry).isEmpty then #[none] else #[])++((#[e']:Array MapEntry)++#[]).map some)=(#[some e']:Array (Option MapEntry)):=by simp
     rw[harr];have hch:(choose (.mapNext (#[some e']:Array (Option MapEntry)).size)).run P w=.ok 0 w:=by
      rw[run_choose_drew];rfl
     rw[hch];simp only[Result.andThen_ok];have hget:(#[some e']:Array (Option MapEntry))[0]? = some (some e'):=rfl;rw[hget];simp only[Sem.run_bind,qKa _ h2,Result.andThen_ok,Sem.run_pure]
    ·simp at hr
   ·simp at hr
 ·simp at hr
theorem qNf {n:Nat}:∀{es:qHE} {es':List MapEntry} {p:AV×AV},qKY ι es es'→qMZ n es=some p→∃e',es'.find? (·.born == n)=some e'∧VR ι p.1 e'.key∧VR ι p.2 e'.val
 | [],es',p,h,hf=>by simp[qMZ] at hf
 | e::es,[],p,h,hf=>by have:=h.1;simp at this
 | e::es,e'::es',p,h,hf=>by
  have h0:=h.2 0 e e' rfl rfl;have ht:qKY ι es es':=⟨by have:=h.1;simpa using this,fun j x y hx hy=>h.2 (j+1) x y (by simpa using hx) (by simpa using hy)⟩;simp only[qMZ] at hf;rw[h0.2.2] at hf;cases hb:Nat.beq e'.born n
  ·simp only[hb,cond_false] at hf;obtain⟨e1,g1,g2⟩:=qNf ht hf;refine⟨e1,?_,g2⟩;rw[List.find?_cons];have hne:e'.born≠n:=by intro e;subst e;simp at hb
   have:(e'.born == n)=false:=by simp[hne]
   rw[this];exact g1
  ·simp only[hb,cond_true,qz1] at hf;subst hf;refine⟨e',?_,h0.1,h0.2.1⟩;rw[List.find?_cons];have hne:=Nat.eq_of_beq_eq_true hb;have:(e'.born == n)=true:=by simp[hne]
   rw[this]
theorem qSG (h:SR B w0 ι st w) {x r:AV} {x':Value} (hx:VR ι x x') (hr:qJF x st=some r):∃v,(Instr.entry x').run P w=.ok v w∧VR ι r v:=by
 unfold qJF at hr
 split at hr
 rotate_left
 ·simp at hr
 rename_i i;cases hx with
 | ptr _ _ L hL =>
 split at hr
 rotate_left
 ·simp at hr
 rename_i j since seen last hi;obtain⟨L',o,h1,h2,h0,m',h3,D,hD,rfl⟩:=h.obj i _ hi (by simp);rw[hL] at h1;cases h1;rw[h3] at h2;have e0:L.p+0=0:=by omega
 split at hr
 ·simp at hr
 rename_i b hb
 split at hr
 rotate_left
 ·simp at hr
 rename_i es c hj;obtain⟨es',ho,hent⟩:=qDu h hj hD;cases hc:Nat.beq c last
 ·simp[hc] at hr
 simp only[hc,cond_true] at hr;have hc':=Nat.eq_of_beq_eq_true hc
 split at hr
 ·rename_i p hp;simp only[qz1] at hr;subst hr;obtain⟨e',g1,g2,g3⟩:=qNf hent hp;have g1':es'.find? (·.born == b)=some e':=by rw[←Array.find?_toList];exact g1
  have hback:seen.toArray.back? = some b:=by simpa using hb
  have hne:(c != last)=false:=by rw[hc'];simp
  refine⟨.tuple #[e'.key,e'.val],?_,.tuple _ _ rfl (fun i y y' hy hy'=>by
   match i with
   | 0=>simp at hy hy';subst hy;subst hy';exact g2
   | 1=>simp at hy hy';subst hy;subst hy';exact g3
   | i+2=>simp at hy)⟩
  rw[e0];simp only[Instr.entry,Sem.run_bind,qE9 h2,Result.andThen_ok,hback,qBJ ho,hne,Bool.false_eq_true,if_false,g1',Sem.run_pure]
 ·simp at hr
end
def qAU (E:Env) (b:Builtin) (ts:List TypeId) (args:List AV) (st:ASt):Option (AV×ASt) :=
 match b with
 | .delete=>match ts with | t::_=>(match args with | [m,k]=>(match qMc E t m k st with | some st'=>some (.tuple [],st') | none=>none) | _=>none) | _=>none
 | .clear=>match ts with | t::_=>(match args with | [x]=>(match qSI E t x st with | some st'=>some (.tuple [],st') | none=>none) | _=>none) | _=>none
 | .len =>
  match ts with
  | t::us=>(match args with
   | [x]=>(match x with
    | .map (some i)=>(match qYM E t (.map (some i)) st with | some v=>some (v,st) | none=>none)
    | y=>qCU E .len (t::us) [y] st)
   | l=>qCU E .len (t::us) l st)
  | l=>qCU E .len l args st
 | b=>qCU E b ts args st
section
variable {P:Program} {E:Env} {B:Prot} {w0:World} {ι:Ren} {st:ASt} {w:World}
theorem VR.unit:VR ι (.tuple []) (.tuple #[]):=.tuple [] #[] rfl (fun i v v' h=>by simp at h)
theorem qLZ (hE:E.Ok P) (h:SR B w0 ι st w) {b:Builtin} {ts:List TypeId} {rT:TypeId} {cs:Array Bool} {args:List AV} {args':Array Value} {r:AV×ASt} (ha:VRs ι args args')
  (hr:qAU E b ts args st=some r) :
  ∃ι' v w',(builtin b ts.toArray rT cs args').run P w=.ok (.value v) w'∧ι.le ι'∧SR B w0 ι' r.2 w'∧VR ι' r.1 v:=by
 unfold qAU at hr
 split at hr
 ·split at hr
  ·rename_i t us
   split at hr
   ·split at hr
    ·rename_i st' hd;simp only[qz1] at hr;subst hr;obtain⟨m',k',rfl,h1,h2⟩:=qWt ha;obtain⟨w',g1,g2⟩:=qOd (ts:=us) (rT:=rT) hE h h1 h2 hd;exact⟨ι,_,w',by simp only[builtin,Sem.run_bind,g1,Result.andThen_ok,Sem.run_pure],ι.le_refl,g2,VR.unit⟩
    ·simp at hr
   ·simp at hr
  ·simp at hr
 ·split at hr
  ·rename_i t us
   split at hr
   ·split at hr
    ·rename_i st' hd;simp only[qz1] at hr;subst hr;obtain⟨x',rfl,h1⟩:=qT2 ha;obtain⟨w',g1,g2⟩:=qSH (ts:=us) (rT:=rT) hE h h1 hd;exact⟨ι,_,w',by simp only[builtin,Sem.run_bind,g1,Result.andThen_ok,Sem.run_pure],ι.le_refl,g2,VR.unit⟩
    ·simp at hr
   ·simp at hr
  ·simp at hr
 ·split at hr
  ·rename_i t us
   split at hr
   ·split at hr
    ·split at hr
     ·rename_i v hv;simp only[qz1] at hr;subst hr;obtain⟨x',rfl,h1⟩:=qT2 ha;obtain⟨v',g1,g2⟩:=qUL (ts:=us) (rT:=rT) hE h h1 hv;exact⟨ι,v',w,by simp only[builtin,Sem.run_bind,g1,Result.andThen_ok,Sem.run_pure],ι.le_refl,h,g2⟩
     ·simp at hr
    ·exact qEF hE h ha hr
   ·exact qEF hE h ha hr
  ·exact qEF hE h ha hr
 ·exact qEF hE h ha hr
end
def qRd:Cap→Cap→Bool
 | .known a,.known b=>Nat.beq a b
 | .rest a,.rest b=>Nat.beq a b
 | .atl a,.atl b=>Nat.beq a b
 | _,_=>false
def qKo:Option (Nat×Nat)→Option (Nat×Nat)→Bool
 | none,none=>true
 | some a,some b=>Nat.beq a.1 b.1 && Nat.beq a.2 b.2
 | _,_=>false
mutual
def qCx:AV→AV→Bool
 | .bool a,y=>match y with | .bool b=>qFP a b | _=>false
 | .int k n,y=>match y with | .int j m=>decide (k=j) && decide (n=m) | _=>false
 | .str a,y=>match y with | .str b=>decide (a=b) | _=>false
 | .ptr a,y=>match y with | .ptr b=>qKo a b | _=>false
 | .slice a l c,y=>match y with | .slice b m d=>qKo a b && (Nat.beq l m && qRd c d) | _=>false
 | .clos f cs,y=>match y with | .clos g ds=>Nat.beq f g && qFd cs ds | _=>false
 | .bound f fs cs,y=>match y with | .bound g gs ds=>Nat.beq f g && (qFd fs gs && qFd cs ds) | _=>false
 | .yield a,y=>match y with | .yield b=>Nat.beq a b | _=>false
 | .nilFunc,y=>match y with | .nilFunc=>true | _=>false
 | .iface t v,y=>match y with | .iface u w=>Nat.beq t u && qCx v w | _=>false
 | .nilIface,y=>match y with | .nilIface=>true | _=>false
 | .agg cs,y=>match y with | .agg ds=>qFd cs ds | _=>false
 | .tuple cs,y=>match y with | .tuple ds=>qFd cs ds | _=>false
 | .map a,y=>match y with | .map b=>decide (a=b) | _=>false
 | .slice0,y=>match y with | .slice0=>true | _=>false
 | .gptr g o,y=>match y with | .gptr g' o'=>Nat.beq g g' && Nat.beq o o' | _=>false
 | .any,y=>match y with | .any=>true | _=>false
def qFd:List AV→List AV→Bool
 | [],[]=>true
 | x::xs,y::ys=>qCx x y && qFd xs ys
 | _,_=>false
end
theorem qEQ {a b:Nat} (h:Nat.beq a b=true):a=b:=Nat.eq_of_beq_eq_true h
theorem qIR {a b:Bool} (h:qFP a b=true):a=b:=by cases a<;>cases b<;>first | rfl | (simp[qFP] at h)
theorem qTu {a b:Cap} (h:qRd a b=true):a=b:=by
 cases a<;>cases b<;>simp only[qRd,Bool.false_eq_true] at h<;>rw[qEQ h]
theorem qNS {a b:Option (Nat×Nat)} (h:qKo a b=true):a=b:=by
 cases a with
 | none=>cases b with
  | none=>rfl
  | some b=>simp[qKo] at h
 | some a=>cases b with
  | none=>simp[qKo] at h
  | some b =>
   obtain⟨a1,a2⟩:=a;obtain⟨b1,b2⟩:=b;simp only[qKo,Bool.and_eq_true] at h;rw[qEQ h.1,qEQ h.2]
mutual
theorem qD6:∀(a b:AV),qCx a b=true→a=b
 | .bool a,b,h=>by cases b<;>simp only[qCx,Bool.false_eq_true] at h;rw[qIR h]
 | .int k n,b,h=>by
  cases b<;>simp only[qCx,Bool.false_eq_true] at h;simp only[Bool.and_eq_true,decide_eq_true_eq] at h;rw[h.1,h.2]
 | .str a,b,h=>by cases b<;>simp only[qCx,Bool.false_eq_true,decide_eq_true_eq] at h;rw[h]
 | .ptr a,b,h=>by cases b<;>simp only[qCx,Bool.false_eq_true] at h;rw[qNS h]
 | .slice a l c,b,h=>by
  cases b<;>simp only[qCx,Bool.false_eq_true] at h;simp only[Bool.and_eq_true] at h;rw[qNS h.1,qEQ h.2.1,qTu h.2.2]
 | .clos f cs,b,h=>by
  cases b<;>simp only[qCx,Bool.false_eq_true] at h;simp only[Bool.and_eq_true] at h;rw[qEQ h.1,qD0 _ _ h.2]
 | .bound f fs cs,b,h=>by
  cases b<;>simp only[qCx,Bool.false_eq_true] at h;simp only[Bool.and_eq_true] at h;rw[qEQ h.1,qD0 _ _ h.2.1,qD0 _ _ h.2.2]
 | .yield a,b,h=>by cases b<;>simp only[qCx,Bool.false_eq_true] at h;rw[qEQ h]
 | .nilFunc,b,h=>by cases b<;>simp only[qCx,Bool.false_eq_true] at h;rfl
 | .iface t v,b,h=>by
  cases b<;>simp only[qCx,Bool.false_eq_true] at h;simp only[Bool.and_eq_true] at h;rw[qEQ h.1,qD6 _ _ h.2]
 | .nilIface,b,h=>by cases b<;>simp only[qCx,Bool.false_eq_true] at h;rfl
 | .agg cs,b,h=>by cases b<;>simp only[qCx,Bool.false_eq_true] at h;rw[qD0 _ _ h]
 | .tuple cs,b,h=>by cases b<;>simp only[qCx,Bool.false_eq_true] at h;rw[qD0 _ _ h]
 | .map a,b,h=>by cases b<;>simp only[qCx,Bool.false_eq_true,decide_eq_true_eq] at h;rw[h]
 | .slice0,b,h=>by cases b<;>simp only[qCx,Bool.false_eq_true] at h;rfl
 | .gptr g o,b,h=>by
  cases b<;>simp only[qCx,Bool.false_eq_true] at h;simp only[Bool.and_eq_true] at h;rw[qEQ h.1,qEQ h.2]
 | .any,b,h=>by cases b<;>simp only[qCx,Bool.false_eq_true] at h;rfl
theorem qD0:∀(a b:List AV),qFd a b=true→a=b
 | [],[],_=>rfl
 | x::xs,y::ys,h=>by
  simp only[qFd,Bool.and_eq_true] at h;rw[qD6 _ _ h.1,qD0 _ _ h.2]
 | [],_::_,h=>by simp[qFd] at h
 | _::_,[],h=>by simp[qFd] at h
end
abbrev CallT:=FuncId→List AV→ASt→Option (AV×ASt)
abbrev qCy:=Option Nat→Code→AFr→ASt→Option (Exit×AFr×ASt)
def evA (fr:AFr):Operand→Option AV
 | .tmp t=>some ((fr.m.get t).getD qAC)
 | .const v=>ofValue v
 | .global g=>match glV g with | some _=>some (.gptr g 0) | none=>none
 | .func f=>some (.clos f [])
def evL (fr:AFr):List Operand→Option (List AV)
 | []=>some []
 | x::xs =>
  match evA fr x with
  | some v =>
   match evL fr xs with
   | some vs=>some (v::vs)
   | none=>none
  | none=>none
def evO (fr:AFr):Option Operand→Option (Option AV)
 | none=>some none
 | some x=>match evA fr x with | some v=>some (some v) | none=>none
def evP (fr:AFr):List (Nat×Operand)→Option (List (Nat×AV))
 | []=>some []
 | x::xs =>
  match evA fr x.2 with
  | some v =>
   match evP fr xs with
   | some vs=>some ((x.1,v)::vs)
   | none=>none
  | none=>none
def still (st:ASt):Option AV→Option (AV×ASt)
 | some v=>some (v,st)
 | none=>none
def AFr.put (fr:AFr) (dst:Option Tmp) (v:AV):Option AFr :=
 match fr with
 | ⟨m,n,ds⟩ =>
  match dst with
  | none=>some ⟨m,n,ds⟩
  | some d=>bif Nat.ble (Nat.succ d) n then some ⟨m.set 11 d v,n,ds⟩ else none
def qLY (E:Env) (call:CallT) (round:CallT) (c:Call) (fr:AFr) (st:ASt):Option (AV×ASt) :=
 match evL fr c.args.toList with
 | none=>none
 | some args =>
  match c.callee with
  | .builtin b=>qAU E b c.argTypes.toList args st
  | .value f =>
   match evA fr f with
   | some (.clos g caps) =>
    match E.ex.get g with
    | some x=>still st (x (args++caps))
    | none=>call g (args++caps) st
   | some (.bound g fs caps)=>call g (fs++args++caps) st
   | some (.yield l)=>round l args st
   | _=>none
  | .invoke _ _=>none
def aOp (E:Env) (call:CallT) (round:CallT) (o:Oper) (fr:AFr) (st:ASt):Option (AV×ASt) :=
 match o.op with
 | .move x=>still st (evA fr x)
 | .assign x=>still st (evA fr x)
 | .pick c a b =>
  match evA fr c with
  | some (.bool t)=>bif t then still st (evA fr a) else still st (evA fr b)
  | _=>none
 | .alloc t=>qAY E t st
 | .box _ x=>match evA fr x with | some v=>qFi v st | none=>none
 | .build t ps=>match evP fr ps.toList with | some l=>still st (qSL E t l) | none=>none
 | .buildSlice t n ps=>match evP fr ps.toList with | some l=>qFg E t n l st | none=>none
 | .load t a=>match evA fr a with | some v=>qAQ E t v st | none=>none
 | .store t a x =>
  match evA fr a with
  | some p=>match evA fr x with | some v=>(match qAL E t p v st with | some st'=>some (qAC,st') | none=>none) | none=>none
  | none=>none
 | .nilCheck x=>match evA fr x with | some v=>still st (qGC v) | none=>none
 | .binOp op t x y _ =>
  match evA fr x with
  | some a=>match evA fr y with | some b=>still st (qAD E op t x y a b) | none=>none
  | none=>none
 | .unOp op _ x=>match evA fr x with | some a=>still st (aUn op a) | none=>none
 | .convert s d x=>match evA fr x with | some a=>qA5 E s d a st | none=>none
 | .makeInterface t x=>match evA fr x with | some a=>still st (qG9 E t a) | none=>none
 | .makeFunc f first caps =>
  match f with
  | .func g =>
   match first.toList with
   | []=>match evL fr caps.toList with | some l=>some (.clos g l,st) | none=>none
   | f0::fs0=>match evL fr (f0::fs0) with | some fs=>(match evL fr caps.toList with | some l=>some (.bound g fs l,st) | none=>none) | none=>none
  | _=>none
 | .makeSlice t l c =>
  match evA fr l with
  | some a=>match evA fr c with | some b=>qOa E t a b st | none=>none
  | none=>none
 | .slice t x lo hi mx =>
  match evA fr x with
  | some v =>
   match evO fr lo with
   | some lo=>match evO fr hi with | some hi=>(match evO fr mx with | some mx=>still st (qBV E t v lo hi mx st) | none=>none) | none=>none
   | none=>none
  | none=>none
 | .fieldAddr s x f=>match evA fr x with | some v=>still st (qFF E s v f) | none=>none
 | .field t x f=>match evA fr x with | some v=>still st (qOB E t v f) | none=>none
 | .indexAddr t x ix =>
  match evA fr x with
  | some a=>match evA fr ix with | some b=>still st (qA4 E t a b) | none=>none
  | none=>none
 | .index t x ix =>
  match evA fr x with
  | some a=>match evA fr ix with | some b=>still st (qLX E t a b) | none=>none
  | none=>none
 | .typeAssert x _ t ok=>match evA fr x with | some v=>still st (qMe E v t ok) | none=>none
 | .extract x i=>match evA fr x with | some v=>still st (qHP v i) | none=>none
 | .call c=>qLY E call round c fr st
 | .makeMap _ rs=>match rs with | none=>some (qKT st) | some _=>none
 | .mapUpdate t m k x =>
  match evA fr m with
  | some m=>match evA fr k with
   | some k=>match evA fr x with
    | some x=>(match qB6 E t m k x st with | some st'=>some (qAC,st') | none=>none)
    | none=>none
   | none=>none
  | none=>none
 | .insert t m k x =>
  match evA fr m with
  | some m=>match evA fr k with
   | some k=>match evA fr x with
    | some x=>(match qB6 E t m k x st with | some st'=>some (qAC,st') | none=>none)
    | none=>none
   | none=>none
  | none=>none
 | .lookup t x ix ok=>match evA fr x with | some x=>(match evA fr ix with | some ix=>still st (qDL E t x ix ok st) | none=>none) | none=>none
 | .range t x=>match evA fr x with | some x=>qJD E t x st | none=>none
 | .next x isS=>match evA fr x with | some x=>qO9 x isS st | none=>none
 | .entry x=>match evA fr x with | some x=>still st (qJF x st) | none=>none
 | _=>none
def qAt (ops:List Oper) (fr:AFr) (o:Oper):Bool :=
 match o.guard with
 | none=>true
 | some (j,want) =>
  match ops[j]? with
  | some oj =>
   match oj.dst with
   | some d=>(match (fr.m.get d).getD qAC with | .bool b=>qFP b want | _=>false)
   | none=>false
  | none=>false
def qBZ (ops:List Oper) (fr:AFr) (o:Oper):Bool :=
 match o.guard with
 | none=>false
 | some (j,_) =>
  match ops[j]? with
  | some oj =>
   match oj.dst with
   | some d=>(match (fr.m.get d).getD qAC with | .any=>true | _=>false)
   | none=>false
  | none=>false
def qBm (E:Env) (call:CallT) (round:CallT) (ops:List Oper) (o:Oper) (fr:AFr) (st:ASt):Option (AV×ASt) :=
 bif qBZ ops fr o then none else bif qAt ops fr o then aOp E call round o fr st else some (qAC,st)
def step (E:Env) (call:CallT) (round:CallT) (ops:List Oper) (o:Oper) (fr:AFr) (st:ASt):Option (AFr×ASt) :=
 match qBm E call round ops o fr st with
 | some (v,st')=>match fr.put o.dst v with | some fr'=>some (fr',st') | none=>none
 | none=>none
abbrev qI8:=(Oper→AFr→ASt→Option (AV×ASt))→List Oper→AFr→ASt→Option (AFr×ASt)
def qOi (f:Oper→AFr→ASt→Option (AFr×ASt)):List Oper→AFr→ASt→Option (AFr×ASt)
 | [],fr,st=>some (fr,st)
 | o::os,fr,st =>
  match f o fr st with
  | some (fr',st')=>qOi f os fr' st'
  | none=>none
def qDv (f:AFr→ASt→Option (Exit×AFr×ASt)):Nat→AFr→ASt→Option (Exit×AFr×ASt)
 | 0,fr,st=>f fr st
 | d+1,fr,st =>
  match qDv f d fr st with
  | some (.normal,fr',st')=>qDv f d fr' st'
  | r=>r
def qAM:List AV→Nat→T AV→T AV
 | [],_,m=>m
 | v::vs,k,m=>qAM vs (k+1) (m.set 11 k v)
def qJ2:List Tmp→List AV→AFr→Option AFr
 | [],[],fr=>some fr
 | t::ts,v::vs,fr=>match fr.put (some t) v with | some fr'=>qJ2 ts vs fr' | none=>none
 | _,_,_=>none
def qD4:List Nat→ASt→Option ASt
 | [],st=>some st
 | i::is,st=>match st.h.get i with | some .defd=>qD4 is (st.put i .dead) | _=>none
def qHA (E:Env) (fr:AFr) (st:ASt):List ResultVar→Option (List AV)
 | []=>some []
 | r::rs =>
  match (match r with
   | .tmp t=>some ((fr.m.get t).getD qAC)
   | .cell a t=>match qAQ E t ((fr.m.get a).getD qAC) st with | some x=>some x.1 | none=>none) with
  | some v=>match qHA E fr st rs with | some vs=>some (v::vs) | none=>none
  | none=>none
def qUd:List AV→AV
 | [v]=>v
 | vs=>.tuple vs
def leaveA (E:Env) (fn:Func) (fr:AFr) (st:ASt):Option (AV×ASt) :=
 match qD4 fr.defs st with
 | some st'=>match qHA E fr st' fn.results.toList with | some vs=>some (qUd vs,st') | none=>none
 | none=>none
def qFy (E:Env) (ex:qCy):CallT:=fun f args st =>
 match E.fn.get f with
 | none=>none
 | some fn =>
  match fn.body with
  | none=>none
  | some c =>
   bif Nat.ble args.length fn.ntmps then
    match ex none c {m:=qAM args 0 .e,n:=fn.ntmps,defs:=[]} st with
    | some (.normal,fr,st')=>leaveA E fn fr st'
    | some (.ret,fr,st')=>leaveA E fn fr st'
    | _=>none
   else none
def qR4 (l:Nat) (j:Option Code) (st:ASt):Option (AV×ASt) :=
 match st.h.get l with
 | some (.loop _ _ tm ps as bo de) =>
  match j with
  | none=>some (.bool true,st.put l (.loop .ready none tm ps as bo de))
  | some c=>some (.bool false,st.put l (.loop .done (some c) tm ps as bo de))
 | _=>none
def qH6 (ex:qCy):CallT:=fun l args st =>
 match st.h.get l with
 | some (.loop _ _ tm ps as bo _) =>
  match qJ2 ps args {tm with defs:=[]} with
  | none=>none
  | some fr =>
   match ex (some l) as fr st with
   | some (.normal,fr1,st1) =>
    match st1.h.get l with
    | some (.loop .ready pe tm1 ps1 as1 bo1 de1) =>
     match ex (some l) bo fr1 (st1.put l (.loop .busy pe tm1 ps1 as1 bo1 de1)) with
     | some (.normal,_,st2)=>qR4 l none st2
     | some (.ret,_,st2)=>qR4 l (some .ret) st2
     | some (.exit id,_,st2)=>qR4 l (some (.exit id)) st2
     | some (.goto t,_,st2)=>qR4 l (some (.goto t)) st2
     | _=>none
    | _=>none
   | _=>none
 | _=>none
def qNE (call:CallT) (ex:qCy) (ro:Option Nat) (g:Operand) (ps:Array Tmp) (as bo:Code) (fr:AFr) (st:ASt):Option (Exit×AFr×ASt) :=
 match evA fr g with
 | some (.clos f caps) =>
  let go (de:Nat) (fr1:AFr) (st1:ASt):Option (Exit×AFr×ASt) :=
   let l:=st1.next
   match call f (.yield l::caps) (st1.add (.loop .ready none fr ps.toList as bo de)) with
   | some (_,st2) =>
    match st2.h.get l with
    | some (.loop s pe _ _ _ _ _) =>
     match s with
     | .busy=>none
     | _ =>
      match pe with
      | none=>some (.normal,fr1,st2.put l .dead)
      | some c=>ex ro c fr1 (st2.put l .dead)
    | _=>none
   | none=>none
  match ro with
  | none=>go st.next {fr with defs:=st.next::fr.defs} (st.add .defd)
  | some l0 =>
   match st.h.get l0 with
   | some (.loop _ _ _ _ _ _ de)=>go de fr st
   | _=>none
 | _=>none
def qEB (x:AV) (st:ASt):Option (Nat×Nat×Nat×List Nat×Nat×qHE) :=
 match x with
 | .ptr (some (i,0)) =>
  match st.h.get i with
  | some (.miter (some j) since seen last) =>
   match st.h.get j with
   | some (.map es c) =>
    bif (bif isNil seen then false else bif isNil es then false else qOo (fun b=>Nat.ble last b) es) then none else
    let left:=qKG (fun b=>Bool.not (qCY b seen)) es
    match qKG (fun b=>Nat.ble since b) left with
    | []=>some (i,j,since,seen,c,qKG (fun b=>Nat.blt b since) left)
    | _=>none
   | _=>none
  | _=>none
 | _=>none
def qIT (c:Nat) (x:AV) (st:ASt):Option (AV×ASt) :=
 match qEB x st with
 | some (i,j,since,seen,ck,es) =>
  match es[c]? with
  | some e=>some (.tuple [.bool true,e.1,e.2.1],st.put i (.miter (some j) since (seen++[e.2.2]) ck))
  | none=>none
 | none=>none
def qCO:Code→Option Operand
 | .seq a _=>qCO a
 | .region _ ops false =>
  match ops.toList with
  | o::_ =>
   match o.guard with
   | some _=>none
   | none=>match o.op with | .next x isS=>(bif isS then none else some x) | _=>none
  | []=>none
 | _=>none
def qCN (E:Env) (call round:CallT) (ex:qCy) (ro:Option Nat) (c:Nat):Code→AFr→ASt→Option (Exit×AFr×ASt)
 | .seq a b,fr,st =>
  match qCN E call round ex ro c a fr st with
  | some (.normal,fr',st')=>ex ro b fr' st'
  | r=>r
 | .region _ ops false,fr,st =>
  match ops.toList with
  | o::os =>
   match o.op with
   | .next x _ =>
    match evA fr x with
    | some v =>
     match qIT c v st with
     | some (u,st1) =>
      match fr.put o.dst u with
      | some fr1 =>
       match qOi (step E call round ops.toList) os fr1 st1 with
       | some (fr2,st2)=>some (.normal,fr2,st2)
       | none=>none
      | none=>none
     | none=>none
    | none=>none
   | _=>none
  | []=>none
 | _,_,_=>none
def qIw:qHE→qHE→Bool
 | [],[]=>true
 | x::xs,y::ys=>qCx x.1 y.1 && (qCx x.2.1 y.2.1 && (Nat.beq x.2.2 y.2.2 && qIw xs ys))
 | _,_=>false
def q0e:AO→AO→Bool
 | .cells cs rw,y=>match y with | .cells ds rw'=>qFP rw rw' && qFd cs ds | _=>false
 | .map es c,y=>match y with | .map fs d=>Nat.beq c d && qIw es fs | _=>false
 | .defd,y=>match y with | .defd=>true | _=>false
 | .siter s p,y=>match y with | .siter t q=>Nat.beq p q && decide (s=t) | _=>false
 | .miter m a s l,y=>match y with | .miter m' a' s' l'=>decide (m=m') && (Nat.beq a a' && (decide (s=s') && Nat.beq l l')) | _=>false
 | _,_=>false
def qXA (v v':Option AO):Option AO :=
 match v with
 | some x=>(match v' with | some y=>bif q0e x y then some x else none | none=>none)
 | none=>none
def qKB:T AO→T AO→T AO
 | .n l v r,t=>(match t with | .n l' v' r'=>.n (qKB l l') (qXA v v') (qKB r r') | _=>.e)
 | _,_=>.e
def qZo (a b:ASt):ASt:={h:=qKB a.h b.h,next:=Nat.max a.next b.next}
def noO:T AV→Bool
 | .e=>true
 | .n l _ r=>bif noO l then noO r else false
 | .o ..=>false
def anyV (v:Option AV):Option AV:=match v with | some _=>some .any | none=>none
def qYG:T AV→T AV
 | .n l v r=>.n (qYG l) (anyV v) (qYG r)
 | _=>.e
def qOV (v v':Option AV):Option AV :=
 match v with
 | some x=>(match v' with | some y=>(bif qCx x y then some x else some .any) | none=>some .any)
 | none=>(match v' with | some _=>some .any | none=>none)
def qFs:T AV→T AV→T AV
 | .n l v r,t=>(match t with | .n l' v' r'=>.n (qFs l l') (qOV v v') (qFs r r') | _=>qYG (.n l v r))
 | _,t=>qYG t
def qVO:Exit→Exit→Bool
 | .normal,y=>match y with | .normal=>true | _=>false
 | .exit i,y=>match y with | .exit j=>Nat.beq i j | _=>false
 | .ret,y=>match y with | .ret=>true | _=>false
 | _,_=>false
def join (r r':Exit×AFr×ASt):Option (Exit×AFr×ASt) :=
 match r,r' with
 | (e,fr,st),(e',fr',st') =>
  bif qVO e e' then bif Nat.beq fr.n fr'.n then bif lEq fr.defs fr'.defs then bif noO fr.m then bif noO fr'.m then
   some (e,{m:=qFs fr.m fr'.m,n:=fr.n,defs:=fr.defs},qZo st st')
  else none else none else none else none else none
def ways (run:Nat→Option (Exit×AFr×ASt)):Nat→Option (Exit×AFr×ASt)
 | 0=>none
 | n+1 =>
  match n with
  | 0=>run 0
  | m+1 =>
   match ways run (m+1) with
   | some r=>(match run (m+1) with | some r'=>join r r' | none=>none)
   | none=>none
def qI4 (body:Code) (fr:AFr) (st:ASt):Nat :=
 match qCO body with
 | some x =>
  match evA fr x with
  | some v=>(match qEB v st with | some (_,_,_,_,_,cs)=>cs.length | none=>0)
  | none=>0
 | none=>0
def qHl (E:Env) (call round:CallT) (ex:qCy) (ro:Option Nat) (body:Code):Nat→AFr→ASt→Option (Exit×AFr×ASt)
 | 0,_,_=>none
 | d+1,fr,st =>
  bif Nat.blt (qI4 body fr st) 2 then
   match ex ro body fr st with
   | some (.normal,fr',st')=>qHl E call round ex ro body d fr' st'
   | r=>r
  else
   ways (fun c =>
    match qCN E call round ex ro c body fr st with
    | some (.normal,fr',st')=>qHl E call round ex ro body d fr' st'
    | r=>r) (qI4 body fr st)
def qEG (ex:Code→AFr→ASt→Option (Exit×AFr×ASt)) (c:Code):Nat→Option (Exit×AFr×ASt)→Option (Exit×AFr×ASt)
 | 0,r =>
  match r with
  | some (.goto l,fr,st)=>(match findLabel c l with | some _=>none | none=>some (.goto l,fr,st))
  | r=>r
 | d+1,r =>
  match r with
  | some (.goto l,fr,st)=>(match findLabel c l with | some rest=>qEG ex c d (ex rest fr st) | none=>some (.goto l,fr,st))
  | r=>r
def qCm (E:Env) (draw:qI8) (ex:qCy) (call:CallT) (round:CallT):qCy:=fun ro c fr st =>
 match c with
 | .skip=>some (.normal,fr,st)
 | .label _=>some (.normal,fr,st)
 | .exit id=>some (.exit id,fr,st)
 | .goto l=>some (.goto l,fr,st)
 | .ret=>some (.ret,fr,st)
 | .region _ ops false =>
  match qOi (step E call round ops.toList) ops.toList fr st with
  | some (fr',st')=>some (.normal,fr',st')
  | none=>none
 | .region _ ops true =>
  match draw (qBm E call round ops.toList) ops.toList fr st with
  | some (fr',st')=>some (.normal,fr',st')
  | none=>none
 | .seq a b =>
  match ex ro a fr st with
  | some (.normal,fr',st')=>ex ro b fr' st'
  | r=>r
 | .cond x t e =>
  match evA fr x with
  | some (.bool v)=>bif v then ex ro t fr st else ex ro e fr st
  | _=>none
 | .block id body =>
  match ex ro body fr st with
  | some (.exit i,fr',st')=>bif Nat.beq i id then some (.normal,fr',st') else some (.exit i,fr',st')
  | r=>r
 | .loop body =>
  match qCO body with
  | some _ =>
   (match qHl E call round ex ro body 1000 fr st with
   | some (.normal,_,_)=>none
   | r=>r)
  | none =>
   (match qDv (ex ro body) 24 fr st with
   | some (.normal,_,_)=>none
   | r=>r)
 | .rangeFunc g ps as bo=>qNE call ex ro g ps as bo fr st
 | .scope body=>qEG (ex ro) body 8 (ex ro body fr st)
 | _=>none
structure Mach where
 ex:qCy
 call:CallT
 round:CallT
def M (E:Env) (draw:qI8) (sum:CallT):Nat→Mach
 | 0=>{ex:=fun _ _ _ _=>none,call:=fun _ _ _=>none,round:=fun _ _ _=>none}
 | n+1 =>
  let m:=M E draw sum n
  {ex:=qCm E draw m.ex m.call m.round,
   call:=fun f args st=>match sum f args st with | some r=>some r | none=>qFy E m.ex f args st,
   round:=qH6 m.ex}
end
end Go.Ax
end
