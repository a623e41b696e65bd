/-
  OWN WORK, A PART: an abstract machine for the program's text that the kernel can run, and the proof that it is sound: what it answers is what the program answers; contracts of functions by it. No condition.
-/
import Derived.Test.YtiafochainjglaaGreatDoorWaC
import Derived.Laws.Externs
import Derived.KernelRfl
section
namespace Go.Ax
noncomputable section
open Go.RowKit Go.Region
abbrev qz2:=Exit×AFr×ASt→Prop
theorem val_append:∀(ps qs:List Rec) (k:Nat) (D:Nat→Bool) (g:Tmp→AV),val (ps++qs) k D g=val qs (k+ps.length) D (val ps k D g)
 | [],qs,k,D,g=>by simp[val]
 | p::ps,qs,k,D,g=>by
  simp only[List.cons_append,val,val_append ps qs,List.length_cons]
  congr 1;omega
theorem qDV:∀(ps qs:List Rec) (k:Nat) (D:Nat→Bool) (c:Option Nat×ASt),qA7 (ps++qs) k D c=qA7 qs (k+ps.length) D (qA7 ps k D c)
 | [],qs,k,D,c=>by simp[qA7]
 | p::ps,qs,k,D,c=>by
  simp only[List.cons_append,qA7,qDV ps qs,List.length_cons]
  congr 1;omega
theorem qP7 (ps qs:List Rec) (g:Tmp→AV) (t:Tmp):val (ps++qs) 0 (fun j=>decide (j<ps.length)) g t=val ps 0 (fun _=>true) g t:=by
 rw[val_append,qHF]
 ·exact qE8 ps 0 _ _ g g rfl (fun j r hr _=>by have:=(List.getElem?_eq_some_iff.1 hr).1;simp[this])
 ·intro j r _ _;simp
theorem qMF (ps qs:List Rec) (c:Option Nat×ASt):qA7 (ps++qs) 0 (fun j=>decide (j<ps.length)) c=qA7 ps 0 (fun _=>true) c:=by
 rw[qDV,qCz]
 ·exact qC5 ps 0 _ _ c (fun j r hr _=>by have:=(List.getElem?_eq_some_iff.1 hr).1;simp[this])
 ·intro j r _ _;simp
theorem qDZ:∀(ps qs:List Rec) (k:Nat),qBH (ps++qs) k=qBH ps k++qBH qs (k+ps.length)
 | [],qs,k=>by simp[qBH]
 | p::ps,qs,k=>by
  have e:k+1+ps.length=k+(p::ps).length:=by simp;omega
  simp only[List.cons_append,qBH,qDZ ps qs,e];cases p.ob<;>simp
theorem qFu:∀{rs:List Rec} {k p:Nat} {a:AO},(p,a)∈qBH rs k→∃i r,p=k+i∧rs[i]? = some r∧r.ob=some a
 | r::rs,k,p,a,h=>by
  simp only[qBH] at h;cases ho:r.ob with
  | none =>
   rw[ho] at h;obtain⟨i,r',h1,h2,h3⟩:=qFu h;exact⟨i+1,r',by omega,by simpa using h2,h3⟩
  | some b =>
   rw[ho] at h;rcases List.mem_cons.1 h with e | h
   ·cases e;exact⟨0,r,rfl,rfl,ho⟩
   ·obtain⟨i,r',h1,h2,h3⟩:=qFu h;exact⟨i+1,r',by omega,by simpa using h2,h3⟩
theorem qKm:∀{rs:List Rec} {k i:Nat} {r:Rec} {a:AO},rs[i]? = some r→r.ob=some a→(k+i,a)∈qBH rs k
 | [],_,_,_,_,h,_=>by simp at h
 | r0::rs,k,i,r,a,h,ha=>by
  simp only[qBH];cases i with
  | zero =>
   simp only[List.getElem?_cons_zero,qz1] at h;subst h;rw[ha];exact List.mem_cons_self
  | succ i =>
   have:=qKm (k:=k+1) (rs:=rs) (by simpa using h) ha;have e:k+1+i=k+(i+1):=by omega
   rw[e] at this;cases r0.ob with
   | none=>exact this
   | some _=>exact List.mem_cons_of_mem _ this
theorem qLC {rs:List Rec} {p:Nat} {a:AO}:(p,a)∈qBH rs 0↔∃r,rs[p]? = some r∧r.ob=some a:=by
 constructor
 ·intro h;obtain⟨i,r,h1,h2,h3⟩:=qFu h;have:p=i:=by omega
  subst this;exact⟨r,h2,h3⟩
 ·rintro ⟨r,h1,h2⟩;have:=qKm (k:=0) h1 h2
  rwa [Nat.zero_add] at this
theorem qRN {rs:List Rec} (p:Nat) (a b:AO) (h:(p,a)∈qBH rs 0) (h':(p,b)∈qBH rs 0):a=b:=by
 obtain⟨r,h1,h2⟩:=qLC.1 h;obtain⟨r',h3,h4⟩:=qLC.1 h';rw[h1] at h3;cases h3;rw[h2] at h4;cases h4;rfl
theorem qNw (p:Nat):bit 0 p=false:=by simp[bit]
theorem qJb {m g p:Nat}:qm m g p=true↔bit m p=true∧bit g p=false:=by
 simp only[qm];cases bit g p<;>simp
def RunP (E:Env) (f:Oper→AFr→ASt→Option (AV×ASt)) (wd:AFr→Oper→Bool) (nb:Nat) (bs:List Nat) (fr0:AFr) (st0:ASt) (os:List Oper) (ps rs:List Rec) (fr':AFr) (g:Nat) (st':ASt):Prop :=
 rs.length=os.length ∧
 (∀(i:Nat) r,rs[i]? = some r→os[i]? = some r.o∧r.fr.n=fr0.n∧(∃fr1,r.fr.put r.o.dst r.v=some fr1)∧(∀t,(r.fr.m.get t).getD qAC=val (ps++rs) 0 (fun j=>decide (j<ps.length+i)) (base fr0) t) ∧
  ((qCe E r.o=true∧r.hs=none∧((wd r.fr r.o=true∧∃x,qFf E r.o r.fr=some x∧r.ob=some x.1∧r.v=x.2.val (nb+(ps.length+i)))∨(wd r.fr r.o=false∧r.ob=none∧r.v=qAC))) ∨
   (qCe E r.o=false∧r.ob=none∧∃s',f r.o r.fr (qD3 nb (qm (bs.getD (ps.length+i) 0) (gm bs (qA7 (ps++rs) 0 (fun j=>decide (j<ps.length+i)) (none,st0)).1)) (qBH (ps++rs) 0) (qA7 (ps++rs) 0 (fun j=>decide (j<ps.length+i)) (none,st0)).2)=some (r.v,s') ∧
    (r.hs=if qBS E r.o=true then none else some s') ∧
    (qBS E r.o=false→Nat.land (gm bs (qA7 (ps++rs) 0 (fun j=>decide (j<ps.length+i)) (none,st0)).1) (bs.getD (ps.length+i) 0)=gm bs (qA7 (ps++rs) 0 (fun j=>decide (j<ps.length+i)) (none,st0)).1)))) ∧
 (fr'.n=fr0.n∧fr'.defs=fr0.defs∧∀t,(fr'.m.get t).getD qAC=val (ps++rs) 0 (fun _=>true) (base fr0) t) ∧
 (st'=(qA7 (ps++rs) 0 (fun _=>true) (none,st0)).2∧g=gm bs (qA7 (ps++rs) 0 (fun _=>true) (none,st0)).1)
section
variable {P:Program} {E:Env} {f:Oper→AFr→ASt→Option (AV×ASt)} {wd:AFr→Oper→Bool} {nb:Nat} {bs:List Nat} {fr0:AFr} {st0:ASt}
theorem qPt (hl:∀o fr st r,f o fr st=some r→qBS E o=true→r.2=st) (hm:∀i p,bit (bs.getD i 0) p=true→p<i) :
  ∀(os:List Oper) (ps:List Rec) (fr:AFr) (rs:List Rec) (fr':AFr) (g:Nat) (st':ASt),
  qI0 E f wd nb bs os ps.length (qBH ps 0) (gm bs (qA7 ps 0 (fun _=>true) (none,st0)).1) fr (qA7 ps 0 (fun _=>true) (none,st0)).2=some (rs,fr',g,st') →
  fr.n=fr0.n→fr.defs=fr0.defs→(∀t,(fr.m.get t).getD qAC=val ps 0 (fun _=>true) (base fr0) t) →
  RunP E f wd nb bs fr0 st0 os ps rs fr' g st'
 | [],ps,fr,rs,fr',g,st',h,hn,hd,hv=>by
  simp only[qI0,qz1,Prod.mk.injEq] at h;obtain⟨rfl,rfl,rfl,rfl⟩:=h;exact⟨rfl,fun i r hr=>by simp at hr,⟨hn,hd,by simpa using hv⟩,by simp,by simp⟩
 | o::os,ps,fr,rs,fr',g,st',h,hn,hd,hv=>by
  -- one step,whatever it was
  have one:∀(r:Rec) (rs1:List Rec) (fr1:AFr),r.o=o→r.fr=fr→fr.put o.dst r.v=some fr1 →
    qI0 E f wd nb bs os (ps++[r]).length (qBH (ps++[r]) 0) (gm bs (qA7 (ps++[r]) 0 (fun _=>true) (none,st0)).1) fr1 (qA7 (ps++[r]) 0 (fun _=>true) (none,st0)).2=some (rs1,fr',g,st') →
    ((qCe E r.o=true∧r.hs=none∧((wd r.fr r.o=true∧∃x,qFf E r.o r.fr=some x∧r.ob=some x.1∧r.v=x.2.val (nb+ps.length))∨(wd r.fr r.o=false∧r.ob=none∧r.v=qAC))) ∨
     (qCe E r.o=false∧r.ob=none∧∃s',f r.o r.fr (qD3 nb (qm (bs.getD ps.length 0) (gm bs (qA7 ps 0 (fun _=>true) (none,st0)).1)) (qBH ps 0) (qA7 ps 0 (fun _=>true) (none,st0)).2)=some (r.v,s') ∧
       (r.hs=if qBS E r.o=true then none else some s') ∧
       (qBS E r.o=false→Nat.land (gm bs (qA7 ps 0 (fun _=>true) (none,st0)).1) (bs.getD ps.length 0)=gm bs (qA7 ps 0 (fun _=>true) (none,st0)).1))) →
    rs=r::rs1→RunP E f wd nb bs fr0 st0 (o::os) ps rs fr' g st':=by
   intro r rs1 fr1 hro hrf hp hrun hcase hrs;obtain⟨p1,p2,p3⟩:=qNG hp;have hone:∀t,val (ps++[r]) 0 (fun _=>true) (base fr0) t=if o.dst=some t then r.v else val ps 0 (fun _=>true) (base fr0) t:=fun t=>by
    rw[val_append];simp[val,hro]
   obtain⟨i1,i2,i3,i4⟩:=qPt hl hm os (ps++[r]) fr1 rs1 fr' g st' hrun (by rw[p2,hn]) (by rw[p3,hd]) (fun t=>by rw[p1,hone,hv]);have eap:ps++r::rs1=ps++[r]++rs1:=by simp
   subst hrs;unfold RunP;rw[eap];refine⟨by simp[i1],fun i r' hr'=>?_,i3,i4⟩;cases i with
   | zero =>
    simp only[List.getElem?_cons_zero,qz1] at hr';subst hr';have e1:ps++[r]++rs1=ps++([r]++rs1):=by simp
    refine⟨by rw[hro];rfl,by rw[hrf];exact hn,⟨fr1,by rw[hro,hrf];exact hp⟩,fun t=>?_,?_⟩
    · rw[e1,Nat.add_zero,qP7,hrf];exact hv t
    · rw[e1,Nat.add_zero,qMF,qDZ,qLx]
      ·exact hcase
      ·intro p a hpa;obtain⟨i,_,h1,_,_⟩:=qFu hpa;cases hq:qm (bs.getD ps.length 0) (gm bs (qA7 ps 0 (fun _=>true) (none,st0)).1) p with
       | false=>rfl
       | true =>
        have:=hm _ _ (qJb.1 hq).1;omega
   | succ i =>
    have:=i2 i r' (by simpa using hr');have e2:(ps++[r]).length+i=ps.length+(i+1):=by simp;omega
    rw[e2] at this;simpa using this
  -- what stands behind a step
  have calm:∀(r:Rec),r.hs=none→qA7 (ps++[r]) 0 (fun _=>true) (none,st0)=qA7 ps 0 (fun _=>true) (none,st0):=fun r hr=>by
   rw[qDV];simp[qA7,hr]
  have loud:∀(r:Rec) (s:ASt),r.hs=some s→qA7 (ps++[r]) 0 (fun _=>true) (none,st0)=(some ps.length,s):=fun r s hr=>by
   rw[qDV];simp[qA7,hr]
  have fnone:∀(r:Rec),r.ob=none→qBH (ps++[r]) 0=qBH ps 0:=fun r hr=>by rw[qDZ];simp[qBH,hr]
  have fsome:∀(r:Rec) (a:AO),r.ob=some a→qBH (ps++[r]) 0=qBH ps 0++[(ps.length,a)]:=fun r a hr=>by rw[qDZ];simp[qBH,hr]
  have len:∀(r:Rec),(ps++[r]).length=ps.length+1:=fun r=>by simp
  simp only[qI0] at h;cases hfree:qCe E o
  ·simp only[hfree,cond_false] at h
   split at h
   ·simp at h
   rename_i v st1 hf
   split at h
   ·simp at h
   rename_i fr1 hp;cases hli:qBS E o
   ·simp only[hli,cond_false] at h;cases hla:Nat.beq (Nat.land (gm bs (qA7 ps 0 (fun _=>true) (none,st0)).1) (bs.getD ps.length 0)) (gm bs (qA7 ps 0 (fun _=>true) (none,st0)).1)
    · simp only[hla,cond_false,reduceCtorEq] at h
    simp only[hla,cond_true] at h
    split at h
    · simp at h
    rename_i rs1 z hr1;simp only[qz1,Prod.mk.injEq] at h;obtain⟨h1,h2⟩:=h;subst h2;refine one ⟨o,fr,v,some st1,none⟩ rs1 fr1 rfl rfl hp ?_ (.inr ⟨hfree,rfl,st1,hf,by simp[hli],fun _=>qEQ hla⟩) h1.symm;rw[len,fnone _ rfl,loud _ st1 rfl];exact hr1
   ·simp only[hli,cond_true] at h
    split at h
    · simp at h
    rename_i rs1 z hr1;simp only[qz1,Prod.mk.injEq] at h;obtain⟨h1,h2⟩:=h;subst h2;refine one ⟨o,fr,v,none,none⟩ rs1 fr1 rfl rfl hp ?_ (.inr ⟨hfree,rfl,st1,hf,by simp[hli],fun h=>by rw[hli] at h;cases h⟩) h1.symm;rw[len,fnone _ rfl,calm _ rfl];exact hr1
  ·simp only[hfree,cond_true] at h;cases hw:wd fr o
   ·simp only[hw,cond_false] at h
    split at h
    · simp at h
    rename_i fr1 hp
    split at h
    · simp at h
    rename_i rs1 z hr1;simp only[qz1,Prod.mk.injEq] at h;obtain⟨h1,h2⟩:=h;subst h2;refine one ⟨o,fr,qAC,none,none⟩ rs1 fr1 rfl rfl hp ?_ (.inl ⟨hfree,rfl,.inr ⟨hw,rfl,rfl⟩⟩) h1.symm;rw[len,fnone _ rfl,calm _ rfl];exact hr1
   ·simp only[hw,cond_true] at h
    split at h
    · simp at h
    rename_i x hx
    split at h
    · simp at h
    rename_i fr1 hp
    split at h
    · simp at h
    rename_i rs1 z hr1;simp only[qz1,Prod.mk.injEq] at h;obtain⟨h1,h2⟩:=h;subst h2;refine one ⟨o,fr,x.2.val (nb+ps.length),none,some x.1⟩ rs1 fr1 rfl rfl hp ?_ (.inl ⟨hfree,rfl,.inl ⟨hw,x,hx,rfl,rfl⟩⟩) h1.symm;rw[len,fsome _ _ rfl,calm _ rfl];exact hr1
theorem qZL (hl:∀o fr st r,f o fr st=some r→qBS E o=true→r.2=st) (hm:∀i p,bit (bs.getD i 0) p=true→p<i) {ops:List Oper} {fr:AFr} {st:ASt} {rs:List Rec} {fr':AFr} {g:Nat} {st':ASt}
  (h:qI0 E f wd nb bs ops 0 [] 0 fr st=some (rs,fr',g,st')):RunOK E f wd nb bs ops fr st rs fr' g st':=by
 obtain⟨h1,h2,h3,h4⟩:=qPt (fr0:=fr) (st0:=st) hl hm ops [] fr rs fr' g st' h rfl rfl (fun t=>rfl);exact⟨h1,fun i r hr=>by simpa using h2 i r hr,by simpa using h3,by simpa using h4⟩
theorem qQ1 (ops:List Oper):(qA2 ops).length=ops.length:=by
 have key:∀(os:List Oper) (bs:List Nat),(qEc os bs).length=bs.length+os.length:=by
  intro os
  induction os with
  | nil=>intro bs;simp[qEc]
  | cons o os ih=>intro bs;simp only[qEc,force_eq];rw[ih];simp;omega
 simpa [qA2] using key ops []
theorem qWj {ops:Array Oper} (hd:Down ops) (i p:Nat) (h:bit ((qA2 ops.toList).getD i 0) p=true):p<i:=by
 cases ho:ops[i]? with
 | none =>
  have hle:ops.size≤i:=by simpa using ho
  have:(qA2 ops.toList).getD i 0=0:=by
   rw[List.getD_eq_getElem?_getD,List.getElem?_eq_none (by rw[qQ1];simpa using hle)];rfl
  rw[this,qNw] at h;cases h
 | some o =>
  have:=qDA (D:=fun j=>decide (j<i)) hd (fun j q hq hj e he hb=>by
   have:=hd j q hq e he hb;simp only[decide_eq_true_eq] at hj ⊢;omega) i o p ho (fun e he hb=>by have:=hd i o ho e he hb;simpa using this) h
  simpa using this
theorem qDz (bs:List Nat):∀(rs:List Rec) (k i:Nat) (r:Rec) (s:ASt),rs[i]? = some r→r.hs=some s→(⟨k+i,bs.getD (k+i) 0,s⟩:Hv)∈qAr rs bs k
 | [],_,_,_,_,h,_=>by simp at h
 | r0::rs,k,i,r,s,h,hs=>by
  cases i with
  | zero =>
   simp only[List.getElem?_cons_zero,qz1] at h;subst h;simp only[qAr,hs];exact List.mem_cons_self
  | succ i =>
   have:=qDz bs rs (k+1) i r s (by simpa using h) hs;have e:k+1+i=k+(i+1):=by omega
   rw[e] at this;simp only[qAr];cases r0.hs with
   | none=>exact this
   | some _=>exact List.mem_cons_of_mem _ this
theorem qF3 (bs:List Nat):∀(rs:List Rec) (k:Nat) (g:Hv),g∈qAr rs bs k→∃i r,rs[i]? = some r∧r.hs=some g.s∧g.i=k+i
 | r0::rs,k,g,h=>by
  simp only[qAr] at h;cases hs:r0.hs with
  | none =>
   rw[hs] at h;obtain⟨i,r,h1,h2,h3⟩:=qF3 bs rs (k+1) g h;exact⟨i+1,r,by simpa using h1,h2,by omega⟩
  | some s =>
   rw[hs] at h;rcases List.mem_cons.1 h with rfl | h
   ·exact⟨0,r0,rfl,hs,rfl⟩
   ·obtain⟨i,r,h1,h2,h3⟩:=qF3 bs rs (k+1) g h;exact⟨i+1,r,by simpa using h1,h2,by omega⟩
theorem qIe {H:List Hv} {s0:ASt} {fs:List (Nat×AO)}:∀(rs:List Rec) (k i:Nat) (r:Rec),qDU E f nb fs H s0 bs rs k=true→rs[i]? = some r→qOL E f nb fs H s0 (k+i) (bs.getD (k+i) 0) r=true
 | [],_,_,_,_,h=>by simp at h
 | r0::rs,k,i,r,h,hr=>by
  simp only[qDU] at h;cases hb:qOL E f nb fs H s0 k (bs.getD k 0) r0
  ·rw[hb] at h;exact absurd h (by simp)
  ·rw[hb,cond_true] at h;cases i with
   | zero=>simp only[List.getElem?_cons_zero,qz1] at hr;subst hr;exact hb
   | succ i =>
    have:=qIe rs (k+1) i r h (by simpa using hr);have e:k+1+i=k+(i+1):=by omega
    rwa [e] at this
theorem qQG {r:Rec} {s:ASt} (h:qTB f r s=true):∃s',f r.o r.fr s=some (r.v,s'):=by
 simp only[qTB] at h
 split at h
 ·rename_i v s' hf;rw[qD6 _ _ h] at hf;exact⟨s',hf⟩
 ·simp at h
theorem qME (hpure:∀o fr st r,f o fr st=some r→qGp E o=true→∀st',f o fr st'=some (r.1,st'))
  {ops:Array Oper} {fr:AFr} {st:ASt} {rs:List Rec} {fr':AFr} {g:Nat} {st':ASt} (hT:TextOK E ops) (hR:RunOK E f wd nb (qA2 ops.toList) ops.toList fr st rs fr' g st')
  (hok:qAr rs (qA2 ops.toList) 0=[]∨qDU E f nb (qBH rs 0) (qAr rs (qA2 ops.toList) 0) st (qA2 ops.toList) rs 0=true)
  {D:Nat→Bool} (hc:Closed ops D) {i:Nat} {r:Rec} (hr:rs[i]? = some r) (hnf:qCe E r.o=false) (hlight:r.hs=none) (hD:D i=false) (hready:∀e,e∈r.o.after→binds .any e=true→D e.on=true) :
  ∃s',f r.o r.fr (qD3 nb (qm ((qA2 ops.toList).getD i 0) (gm (qA2 ops.toList) (qA7 rs 0 D (none,st)).1)) (qBH rs 0) (qA7 rs 0 D (none,st)).2)=some (r.v,s'):=by
 obtain⟨ho,hn,_,hfr,hcase⟩:=hR.at_ i r hr;rcases hcase with⟨h1,_⟩ | ⟨_,_,s',hf,hs,_⟩
 ·rw[hnf] at h1;cases h1
 have ho':ops[i]? = some r.o:=by simpa using ho
 have hrec:∀{j:Nat} {q:Rec},rs[j]? = some q→ops[j]? = some q.o:=fun {j q} hq=>by have:=(hR.at_ j q hq).1;simpa using this
 -- what stands before i is done;what i stands before is not
 have hbef:∀j,bit ((qA2 ops.toList).getD i 0) j=true→D j=true:=fun j hj=>qDA hT.down hc i r.o j ho' hready hj;have haft:∀(j:Nat) (q:Rec),rs[j]? = some q→bit ((qA2 ops.toList).getD j 0) i=true→D j=false:=fun j q hq hb=>by
  cases hDj:D j with
  | false=>rfl
  | true =>
   have:=qDA hT.down hc j q.o i (hrec hq) (fun e he hb=>hc j q.o (hrec hq) hDj e he hb) hb;rw[hD] at this;cases this
 have own:qA7 rs 0 D (none,st)=qA7 rs 0 (fun j=>decide (j<i)) (none,st) →
   ∃s',f r.o r.fr (qD3 nb (qm ((qA2 ops.toList).getD i 0) (gm (qA2 ops.toList) (qA7 rs 0 D (none,st)).1)) (qBH rs 0) (qA7 rs 0 D (none,st)).2)=some (r.v,s'):=fun e=>⟨s',by rw[e];exact hf⟩
 rcases hok with hnil | hok
 ·-- no heavy ones at all
  have none_:∀(j:Nat) (q:Rec),rs[j]? = some q→q.hs≠none→False:=fun j q hq hne=>by
   cases hqs:q.hs with
   | none=>exact hne hqs
   | some s =>
    have:=qDz (qA2 ops.toList) rs 0 j q s hq hqs;rw[hnil] at this;simp at this
  exact own (qC5 rs 0 _ _ _ (fun j q hq hne=>(none_ j q hq hne).elim))
 have hk:=qIe rs 0 i r hok hr;simp only[Nat.zero_add,qOL,hlight,hnf,cond_false] at hk;cases hpu:qGp E r.o with
 | true=>exact⟨_,hpure _ _ _ _ hf hpu _⟩
 | false =>
 simp only[hpu,cond_false] at hk;generalize hHe:qAr rs (qA2 ops.toList) 0=H at hk;have hkN:(bif qLq H i ((qA2 ops.toList).getD i 0) then true else qTB f r (qD3 nb (qm ((qA2 ops.toList).getD i 0) 0) (qBH rs 0) st))=true:=by
  cases hx:(bif qLq H i ((qA2 ops.toList).getD i 0) then true else qTB f r (qD3 nb (qm ((qA2 ops.toList).getD i 0) 0) (qBH rs 0) st))
  ·rw[hx] at hk;simp at hk
  ·rfl
 rw[hkN,cond_true] at hk;have inH:∀(j:Nat) (q:Rec) (s:ASt),rs[j]? = some q→q.hs=some s→(⟨j,(qA2 ops.toList).getD j 0,s⟩:Hv)∈H:=fun j q s hq hqs=>by
  have:=qDz (qA2 ops.toList) rs 0 j q s hq hqs;rw[hHe] at this;simpa using this
 have ofH:∀g,g∈H→∃(q:Rec),rs[g.i]? = some q∧q.hs=some g.s:=fun g hg=>by
  rw[←hHe] at hg;obtain⟨j,q,h1,h2,h3⟩:=qF3 _ rs 0 g hg;have:g.i=j:=by omega
  exact⟨q,by rw[this];exact h1,h2⟩
 rcases last_cases rs D (none,st) with⟨hno,hlast⟩ | ⟨j,q,s,hq,hqs,hDj,hmax,hlast⟩
 ·-- none of the heavy ones is done
  rw[hlast];cases hsk:qLq H i ((qA2 ops.toList).getD i 0)
  ·rw[hsk,cond_false] at hkN;exact qQG hkN
  ·simp only[qLq] at hsk;cases hall:H.all (fun h=>Bool.not (Nat.blt h.i i))
   ·rw[hall,cond_false] at hsk;obtain⟨g,hg,hb⟩:=List.any_eq_true.1 hsk;obtain⟨q,hq,hqs⟩:=ofH g hg;have h1:=hbef g.i hb;have h2:=hno g.i q hq (by rw[hqs];simp);rw[h1] at h2;cases h2
   ·-- the run itself had none before
    have:qA7 rs 0 (fun j=>decide (j<i)) (none,st)=(none,st):=qCz rs 0 _ _ (fun j q hq hne=>by
     cases hqs:q.hs with
     | none=>exact absurd hqs hne
     | some s =>
      have:=List.all_eq_true.1 hall _ (inH j q s hq hqs);simp only[Bool.not_eq_true'] at this;have:=qFz this;simpa using this)
    have:=own (by rw[hlast,this])
    rwa [hlast] at this
 ·rw[hlast];have hg:=inH j q s hq hqs;have hkS:=List.all_eq_true.1 hk _ hg;cases hsk:qOF H i ((qA2 ops.toList).getD i 0) ⟨j,(qA2 ops.toList).getD j 0,s⟩
  ·simp only[hsk,cond_false] at hkS;exact qQG hkS
  ·simp only[qOF] at hsk;cases hb1:bit ((qA2 ops.toList).getD j 0) i
   ·rw[hb1,cond_false] at hsk;cases hb2:H.any (fun h=>bif Nat.blt j h.i then bit ((qA2 ops.toList).getD i 0) h.i else false)
    ·rw[hb2,cond_false] at hsk;cases hb3:Nat.blt j i
     ·rw[hb3] at hsk;simp at hsk
     ·rw[hb3,cond_true] at hsk;have hji:j<i:=by simpa [Nat.blt_eq] using hb3
      have:qA7 rs 0 (fun j=>decide (j<i)) (none,st)=(some (0+j),s):=qHL rs 0 _ _ j q s hq hqs (by simpa using hji) (fun j' q' hq' hlt hne=>by
       cases hqs':q'.hs with
       | none=>exact absurd hqs' hne
       | some s' =>
        have h1:=List.all_eq_true.1 hsk _ (inH j' q' s' hq' hqs');have hb:Nat.blt j j'=true:=by rw[Nat.blt_eq];exact hlt
        simp only[hb,cond_true,Bool.not_eq_true'] at h1;have:=qFz h1;simpa using this)
      rw[Nat.zero_add] at this;have:=own (by rw[hlast,this])
      rwa [hlast] at this
    ·obtain⟨g,hg,hb⟩:=List.any_eq_true.1 hb2;cases hb4:Nat.blt j g.i
     ·rw[hb4] at hb;simp at hb
     ·rw[hb4,cond_true] at hb;obtain⟨q',hq',hqs'⟩:=ofH g hg;have hlt:j<g.i:=by simpa [Nat.blt_eq] using hb4
      have h1:=hbef g.i hb;have h2:=hmax g.i q' hq' hlt (by rw[hqs'];simp);rw[h1] at h2;cases h2
   ·have:=haft j q hq hb1;rw[hDj] at this;cases this
end
section
variable {P:Program} {E:Env} {B:Prot} {w0:World}
theorem qB0 {listed:Array Bool} {i j:Nat} (h:i<listed.size):(listed.setIfInBounds i true).getD j false=(decide (j=i) || listed.getD j false):=by
 by_cases e:j=i
 ·subst e;simp[Array.getD_eq_getD_getElem?,h]
 ·simp only[Array.getD_eq_getD_getElem?,Array.getElem?_setIfInBounds_ne (Ne.symm e),e,decide_false,Bool.false_or]
def rsD (B:Prot) (nb n:Nat) (D:Nat→Bool) (i:Nat):Prop:=B.rs i∨∃p,p<n∧i=nb+p∧D p=false
def qD (D:Nat→Bool) (g:Nat):Nat→Bool:=fun p=>D p && !bit g p
theorem SR.reserve {ι:Ren} {st:ASt} {w:World} (h:SR B w0 ι st w) (n:Nat) (D:Nat→Bool):SR ⟨B.ro,B.ex,rsD B st.next n D⟩ w0 ι {h:=st.h,next:=st.next+n} w:=by
 have hn:∀i,st.next≤i→ι i=none:=fun i hi=>by
  cases e:ι i with
  | none=>rfl
  | some L=>have:=h.dom i L e;omega
 refine⟨h.below,h.base,h.obj,h.own,fun i L hL=>Nat.lt_of_lt_of_le (h.dom i L hL) (Nat.le_add_right _ _),fun i a ha=>Nat.lt_of_lt_of_le (h.hdom i a ha) (Nat.le_add_right _ _),h.ro,?_,h.glob⟩;rintro i (hi | ⟨p,hp,rfl,_⟩)
 ·exact⟨Nat.lt_of_lt_of_le (h.res i hi).1 (Nat.le_add_right _ _),(h.res i hi).2⟩
 ·exact⟨by show st.next+p<st.next+n;omega,hn _ (by omega)⟩
theorem qT4 {a b p:Nat} (h:Nat.land a b=a) (hp:bit a p=true):bit b p=true:=by
 unfold bit at *;have h2:(a &&& b).testBit p=true:=by
  show (Nat.land a b).testBit p=true;rw[h];exact hp
 rw[Nat.testBit_and] at h2;simp only[Bool.and_eq_true] at h2;exact h2.2
theorem qTm (hE:E.Ok P) {call round:CallT} (hc:CallsOK P call) (hr:qHQ P round) {ops:Array Oper} {fr:AFr} {nb:Nat} {st:ASt} {rs:List Rec} {fr':AFr} {g:Nat} {st':ASt} (hT:TextOK E ops)
  (hR:RunOK E (qBm E call round ops.toList) (fun fr o=>qAt ops.toList fr o) nb (qA2 ops.toList) ops.toList fr st rs fr' g st')
  (hok:qAr rs (qA2 ops.toList) 0=[]∨qDU E (qBm E call round ops.toList) nb (qBH rs 0) (qAr rs (qA2 ops.toList) 0) st (qA2 ops.toList) rs 0=true)
  (hslot:qC4 nb (qBH rs 0) (qAr rs (qA2 ops.toList) 0)=true) (hslot0:∀p,st.h.get (nb+p)=none) (hrsB:∀i,B.rs i→i<nb)
  {ι0:Ren} {rl:Option Nat} {Q:Exit→Act→World→Prop} (hQ:∀ι a w,ι0.le ι→SR B w0 ι (qD3 nb (fun p=>!bit g p) (qBH rs 0) st') w→FRA ι fr' a→Q .normal a w) :
  ∀(fuel:Nat) (listed:Array Bool) (ι:Ren) (a:Act) (w:World) (frD:AFr),listed.size=ops.size→listed.toList.count false≤fuel→Closed ops (fun j=>listed.getD j false) →
   ι0.le ι→FRA ι frD a→frD.n=fr.n→frD.defs=fr.defs→(∀t,(frD.m.get t).getD qAC=val rs 0 (fun j=>listed.getD j false) (base fr) t) →
   SR ⟨B.ro,B.ex,rsD B nb ops.size (fun j=>listed.getD j false)⟩ w0 ι
    (qD3 nb (qD (fun j=>listed.getD j false) (gm (qA2 ops.toList) (qA7 rs 0 (fun j=>listed.getD j false) (none,st)).1)) (qBH rs 0) (qA7 rs 0 (fun j=>listed.getD j false) (none,st)).2) w→wpAnyIn (FF rl) 0 P .any ops Q fuel listed a w:=by
 have hlen:rs.length=ops.size:=by have:=hR.len;simpa using this
 have hin:∀{j:Nat} {r:Rec},rs[j]? = some r→j<ops.size:=fun {j r} h=>by have:=(List.getElem?_eq_some_iff.1 h).1;omega
 -- at the end
 have fin:∀(listed:Array Bool) (ι:Ren) (a:Act) (w:World) (frD:AFr),listed.size=ops.size→ready .any ops listed=[] →
   ι0.le ι→FRA ι frD a→frD.n=fr.n→frD.defs=fr.defs→(∀t,(frD.m.get t).getD qAC=val rs 0 (fun j=>listed.getD j false) (base fr) t) →
   SR ⟨B.ro,B.ex,rsD B nb ops.size (fun j=>listed.getD j false)⟩ w0 ι
    (qD3 nb (qD (fun j=>listed.getD j false) (gm (qA2 ops.toList) (qA7 rs 0 (fun j=>listed.getD j false) (none,st)).1)) (qBH rs 0) (qA7 rs 0 (fun j=>listed.getD j false) (none,st)).2) w→Q .normal a w:=by
  intro listed ι a w frD hsz hnil hle hfr hn hd hv hsr;have hall:∀j,j<ops.size→listed.getD j false=true:=by
   intro j
   induction j using Nat.strongRecOn with
   | ind j ih =>
    intro hj;cases hlj:listed.getD j false with
    | true=>rfl
    | false =>
      have hm:j∈ready .any ops listed:=by
       rw[mem_ready];refine⟨?_,ops[j]'hj,by simp[hj],fun e he hb=>ih e.on (hT.down j _ (by simp[hj]) e he hb) ?_⟩
       ·have hj':j<listed.size:=by omega
        simp only[Array.getD_eq_getD_getElem?,Array.getElem?_eq_getElem hj',Option.getD_some] at hlj ⊢;exact hlj
       ·have:=hT.down j _ (by simp[hj]) e he hb;omega
      rw[hnil] at hm;simp at hm
  obtain⟨f1,f2,f3⟩:=hR.fin;have hlast:qA7 rs 0 (fun j=>listed.getD j false) (none,st)=qA7 rs 0 (fun _=>true) (none,st):=qC5 rs 0 _ _ _ (fun j r h _=>by have:=hall j (hin h);simpa using this);refine hQ ι a w hle ?_ ⟨⟨?_,fun t=>?_⟩,?_⟩
  ·rw[hlast,←hR.fins.1,←hR.fins.2] at hsr;have h2:SR B w0 ι _ w:=hsr.lessrs (rs:=B.rs) (fun i hi=>.inl hi);refine h2.congr (fun j=>?_) (by rw[qBL,qBL]);rw[qDT,qDT,qBR,qBR,qGP j (fun p a hm=>?_)];obtain⟨r,h3,_⟩:=qLC.1 hm;simp only[qD,hall p (hin h3),Bool.true_and]
  ·rw[f1,←hn];exact hfr.hf.1
  ·rw[f3,←qE8 rs 0 (fun j=>listed.getD j false) _ (base fr) (base fr) rfl (fun j r h _=>by have:=hall j (hin h);simpa using this),←hv];exact hfr.hf.2 t
  ·rw[f2,←hd];exact hfr.hd
 intro fuel
 induction fuel with
 | zero =>
  intro listed ι a w frD hsz hcount hcl hle hfr hn hd hv hsr;have hnil:ready .any ops listed=[]:=by
   refine List.eq_nil_iff_forall_not_mem.2 fun j hj=>?_;have h1:=(mem_ready.1 hj).1;have hj':j<listed.size:=by
    by_cases hlt:j<listed.size
    · exact hlt
    · simp[Array.getD_eq_getD_getElem?,hlt] at h1
   have h2:listed.toList[j]? = some false:=by
    simp only[Array.getD_eq_getD_getElem?,Array.getElem?_eq_getElem hj',Option.getD_some] at h1;simp[hj',h1]
   have h3:=List.count_pos_iff.2 (List.mem_of_getElem? h2);omega
  exact⟨hnil,fin listed ι a w frD hsz hnil hle hfr hn hd hv hsr⟩
 | succ fuel ih =>
  intro listed ι a w frD hsz hcount hcl hle hfr hn hd hv hsr;refine⟨fun hnil=>fin listed ι a w frD hsz hnil hle hfr hn hd hv hsr,fun i hi=>?_⟩;obtain⟨hDi',o,ho,hready⟩:=mem_ready.1 hi;have hisz:i<ops.size:=(Array.getElem?_eq_some_iff.1 ho).1;have hil:i<listed.size:=by omega
  have hDi:listed.getD i false=false:=by
   simp only[Array.getD_eq_getD_getElem?,Array.getElem?_eq_getElem hil,Option.getD_some] at hDi' ⊢;exact hDi'
  have hri:rs[i]? = some (rs[i]'(by omega)):=by simp[hlen,hisz]
  generalize rs[i]'(by omega)=r at hri;obtain⟨ho',hrn,⟨fr1,hput⟩,hrfr,hcase⟩:=hR.at_ i r hri;have hro:r.o=o:=by
   have:ops[i]? = some r.o:=by simpa using ho'
   rw[ho] at this;cases this;rfl
  rw[hro] at hput;have hrec:∀{j:Nat} {q:Rec},rs[j]? = some q→ops[j]? = some q.o:=fun {j q} hq=>by have:=(hR.at_ j q hq).1;simpa using this
  have hbef:∀j,bit ((qA2 ops.toList).getD i 0) j=true→listed.getD j false=true:=fun j hj=>qDA (D:=fun j=>listed.getD j false) hT.down hcl i o j ho hready hj;have haft:∀(j:Nat) (q:Rec),rs[j]? = some q→bit ((qA2 ops.toList).getD j 0) i=true→listed.getD j false=false:=fun j q hq hb=>by
   cases hDj:listed.getD j false with
   | false=>rfl
   | true =>
    have:=qDA (D:=fun j=>listed.getD j false) hT.down hcl j q.o i (hrec hq) (fun e he hb=>hcl j q.o (hrec hq) hDj e he hb) hb;simp only[hDi] at this;cases this
  -- the operands are what they were
  have hagree:AgreeOn (looks ops.toList o) r.fr frD:=fun t ht=>by
   rw[hrfr,hv];refine qE8 rs 0 _ _ _ _ rfl fun j q hq hd=>?_;simp only[Nat.zero_add]
   by_cases e:j=i
   ·subst e;simp[hDi]
   ·obtain⟨t1,t2⟩:=hT.tmp i j o q.o t ho (hrec hq) hd (.inl ht)
    by_cases hlt:j<i
    · simp[hlt,hbef j (t1 hlt)]
    · have:=haft j q hq (t2 (by omega));simp[hlt,this]
  have hcong:∀s,qBm E call round ops.toList o frD s=qBm E call round ops.toList o r.fr s:=fun s=>(qLo hagree).symm;have hwd:qAt ops.toList frD o=qAt ops.toList r.fr o:=(qJJ hagree).symm;obtain⟨frD',hputD⟩:=qTE (fr:=frD) (v:=r.v) hput (by rw[hn,hrn]);obtain⟨p1,p2,p3⟩:=qNG hputD
  -- what holds behind the step,but for the memory
  have count1:(listed.setIfInBounds i true).toList.count false≤fuel:=by
   have e:(listed.setIfInBounds i true).toList=listed.toList.set i true:=by simp
   rw[e,List.count_set (by simpa using hil)];have h2:listed.toList[i]'(by simpa using hil)=false:=by
    simp only[Array.getD_eq_getD_getElem?,Array.getElem?_eq_getElem hil,Option.getD_some] at hDi;simpa using hDi
   rw[h2];simp;have e2:Array.count false listed=listed.toList.count false:=by simp
   omega
  have closed1:Closed ops (fun j=>(listed.setIfInBounds i true).getD j false):=by
   intro j p hp hDj e he hb;simp only[qB0 hil] at hDj ⊢
   by_cases e1:j=i
   ·subst e1;rw[ho] at hp;cases hp;simp[hready e he hb]
   ·simp only[e1,decide_false,Bool.false_or] at hDj;simp[hcl j p hp hDj e he hb]
  have val1:∀t,(frD'.m.get t).getD qAC=val rs 0 (fun j=>(listed.setIfInBounds i true).getD j false) (base fr) t:=fun t=>by
   rw[p1]
   by_cases e:o.dst=some t
   ·simp only[e,if_true];refine (qU3 rs 0 _ _ i r hri (by rw[hro];exact e) (by rw[Nat.zero_add,qB0 hil];simp) (fun j q hq hlt hd=>?_)).symm;rw[Nat.zero_add,qB0 hil];obtain⟨t1,t2⟩:=hT.tmp i j o q.o t ho (hrec hq) hd (.inr e);have h1:=haft j q hq (t2 hlt);have h2:¬j=i:=by omega
    simp[h1,h2]
   ·simp only[e,if_false];rw[hv];refine qE8 rs 0 _ _ _ _ rfl fun j q hq hd=>?_;rw[Nat.zero_add,qB0 hil]
    by_cases e1:j=i
    · subst e1;rw[hri] at hq;cases hq;rw[hro] at hd;exact absurd hd e
    · simp[e1]
  have less1:∀x,rsD B nb ops.size (fun j=>(listed.setIfInBounds i true).getD j false) x→rsD B nb ops.size (fun j=>listed.getD j false) x∧(B.rs x∨x≠nb+i):=by
   rintro x (hx | ⟨p,hp,rfl,hDp⟩)
   ·exact⟨.inl hx,.inl hx⟩
   ·simp only[qB0 hil] at hDp
    by_cases e:p=i
    · subst e;simp at hDp
    · simp only[e,decide_false,Bool.false_or] at hDp;exact⟨.inr ⟨p,hp,rfl,hDp⟩,.inr (by omega)⟩
  have next1:∀ι' a' w',ι.le ι'→FRA ι' frD' a'→SR ⟨B.ro,B.ex,rsD B nb ops.size (fun j=>(listed.setIfInBounds i true).getD j false)⟩ w0 ι'
    (qD3 nb (qD (fun j=>(listed.setIfInBounds i true).getD j false) (gm (qA2 ops.toList) (qA7 rs 0 (fun j=>(listed.setIfInBounds i true).getD j false) (none,st)).1)) (qBH rs 0)
      (qA7 rs 0 (fun j=>(listed.setIfInBounds i true).getD j false) (none,st)).2) w'→wpAnyIn (FF rl) 0 P .any ops Q fuel (listed.setIfInBounds i true) a' w' :=
   fun ι' a' w' h1 h2 h3=>ih (listed.setIfInBounds i true) ι' a' w' frD' (by simpa using hsz) count1 closed1 (Ren.le_trans hle h1) h2 (by rw[p2,hn]) (by rw[p3,hd]) val1 h3
  -- the qA2 of the last heavy one
  have ofg:∀p,bit (gm (qA2 ops.toList) (qA7 rs 0 (fun j=>listed.getD j false) (none,st)).1) p=true→listed.getD p false=true:=fun p hp=>by
   rcases last_cases rs (fun j=>listed.getD j false) (none,st) with⟨_,hlast⟩ | ⟨j,q,s,hq,hqs,hDj,_,hlast⟩
   ·rw[hlast] at hp;simp only[gm,qNw] at hp;cases hp
   ·rw[hlast] at hp;simp only[gm] at hp;exact qDA (D:=fun j=>listed.getD j false) hT.down hcl j q.o p (hrec hq) (fun e he hb=>hcl j q.o (hrec hq) hDj e he hb) hp
  have slot:∀p a,(p,a)∈qBH rs 0→bit (gm (qA2 ops.toList) (qA7 rs 0 (fun j=>listed.getD j false) (none,st)).1) p=false →
    (qA7 rs 0 (fun j=>listed.getD j false) (none,st)).2.h.get (nb+p)=none:=fun p a hp hb=>by
   rcases last_cases rs (fun j=>listed.getD j false) (none,st) with⟨_,hlast⟩ | ⟨j,q,s,hq,hqs,hDj,_,hlast⟩
   ·rw[hlast];exact hslot0 p
   ·rw[hlast] at hb ⊢;have h1:=qDz (qA2 ops.toList) rs 0 j q s hq hqs;rw[Nat.zero_add] at h1;have h2:=List.all_eq_true.1 (List.all_eq_true.1 hslot _ h1) _ hp;simp only[gm] at hb;simp only[hb,cond_false] at h2;cases hx:s.h.get (nb+p) with
    | none=>rfl
    | some y=>rw[hx] at h2;simp[isNone] at h2
  generalize hfs:qBH rs 0=fs at *;have ffun:∀p a b,(p,a)∈fs→(p,b)∈fs→a=b:=fun p a b h1 h2=>by subst hfs;exact qRN p a b h1 h2
  have fmem:∀p a,(p,a)∈fs→∃r,rs[p]? = some r∧r.ob=some a:=fun p a h1=>by subst hfs;exact qLC.1 h1
  have fown:∀p a,(p,a)∈fs→a.own=true:=fun p a h1=>by
   obtain⟨q,h2,h3⟩:=fmem p a h1;rcases (hR.at_ p q h2).2.2.2.2 with⟨_,_,⟨_,x,h4,h5,_⟩ | ⟨_,h5,_⟩⟩ | ⟨_,h5,_⟩
   ·rw[h3] at h5;cases h5;exact qSD h4
   ·rw[h3] at h5;cases h5
   ·rw[h3] at h5;cases h5
  unfold wpOpIn;rw[ho]
  -- a step that makes no object on the side
  have plain:∀s1,r.ob=none→qBm E call round ops.toList o frD (qD3 nb (qm ((qA2 ops.toList).getD i 0) (gm (qA2 ops.toList) (qA7 rs 0 (fun j=>listed.getD j false) (none,st)).1)) fs (qA7 rs 0 (fun j=>listed.getD j false) (none,st)).2)=some (r.v,s1) →
    ((r.hs=none∧s1=qD3 nb (qm ((qA2 ops.toList).getD i 0) (gm (qA2 ops.toList) (qA7 rs 0 (fun j=>listed.getD j false) (none,st)).1)) fs (qA7 rs 0 (fun j=>listed.getD j false) (none,st)).2 ∧
       qA7 rs 0 (fun j=>(listed.setIfInBounds i true).getD j false) (none,st)=qA7 rs 0 (fun j=>listed.getD j false) (none,st)) ∨
     (qA7 rs 0 (fun j=>(listed.setIfInBounds i true).getD j false) (none,st)=(some i,s1) ∧
       ∀p,bit (gm (qA2 ops.toList) (qA7 rs 0 (fun j=>listed.getD j false) (none,st)).1) p=true→bit ((qA2 ops.toList).getD i 0) p=true)) →
    (if wanted o (yielded ops a.tmps) then o.wpIn (FF rl) 0 P a w (wpAnyIn (FF rl) 0 P .any ops Q fuel (listed.setIfInBounds i true)) Q
      else (∀f,o.about P w a.eval=some f→(FF rl).fn f)∧wpAnyIn (FF rl) 0 P .any ops Q fuel (listed.setIfInBounds i true) (a.put o.dst undef) w):=by
   intro s1 hob hstepV hkind;generalize hmi:(qA2 ops.toList).getD i 0=mi at *;generalize hcc:qA7 rs 0 (fun j=>listed.getD j false) (none,st)=c at *;generalize hgg:gm (qA2 ops.toList) c.1=gD at *
   let X:Nat→Bool:=fun j=>fs.any fun x=>Nat.beq (nb+x.1) j && (listed.getD x.1 false && (!bit gD x.1 && !bit mi x.1))
   have Xmem:∀j,X j=true↔∃p a,(p,a)∈fs∧nb+p=j∧listed.getD p false=true∧bit gD p=false∧bit mi p=false:=fun j=>by
    constructor
    · intro h;obtain⟨x,h1,h2⟩:=List.any_eq_true.1 h;simp only[Bool.and_eq_true,Bool.not_eq_true'] at h2;exact⟨x.1,x.2,h1,qEQ h2.1,h2.2.1,h2.2.2.1,h2.2.2.2⟩
    · rintro ⟨p,a,h1,rfl,h2,h3,h4⟩;exact List.any_eq_true.2 ⟨(p,a),h1,by simp[h2,h3,h4]⟩
   have qD_true:∀(L:Array Bool) (g p:Nat),qD (fun j=>L.getD j false) g p=true↔L.getD p false=true∧bit g p=false:=fun L g p=>by simp[qD]
   have hX:∀j,X j=true→∃a,(qD3 nb (qD (fun j=>listed.getD j false) gD) fs c.2).h.get j=some a∧a.own=true:=fun j hj=>by
    obtain⟨p,a,h1,rfl,h2,h3,h4⟩:=(Xmem j).1 hj;refine⟨a,?_,fown p a h1⟩;rw[qDT,qBR,qFA ffun h1 ((qD_true _ _ _).2 ⟨h2,h3⟩)]
   have hg:∀j,(qD3 nb (qm mi gD) fs c.2).h.get j=if X j then none else (qD3 nb (qD (fun j=>listed.getD j false) gD) fs c.2).h.get j:=fun j=>by
    rw[qDT,qDT,qBR,qBR];cases hx:X j with
    | true =>
      obtain⟨p,a,h1,rfl,h2,h3,h4⟩:=(Xmem j).1 hx;cases hp:pick nb (qm mi gD) fs (nb+p) with
      | some b =>
       obtain⟨p',q1,q2,q3⟩:=qCM hp;have:p'=p:=by omega
       subst this;have:=(qJb.1 q2).1;rw[h4] at this;cases this
      | none=>simpa using slot p a h1 h3
    | false =>
      simp only[Bool.false_eq_true,if_false];cases hp:pick nb (qm mi gD) fs j with
      | some b =>
       obtain⟨p,q1,q2,rfl⟩:=qCM hp;obtain⟨q3,q4⟩:=qJb.1 q2;rw[qFA ffun q1 ((qD_true _ _ _).2 ⟨hbef p q3,q4⟩)]
      | none =>
       cases hp':pick nb (qD (fun j=>listed.getD j false) gD) fs j with
       | none=>rfl
       | some b =>
        obtain⟨p,q1,q2,rfl⟩:=qCM hp';obtain⟨q3,q4⟩:=(qD_true _ _ _).1 q2;cases hb:bit mi p with
        | true=>exact absurd rfl (qFm hp p b q1 (qJb.2 ⟨hb,q4⟩))
        | false =>
         have:=(Xmem (nb+p)).2 ⟨p,b,q1,rfl,q3,q4,hb⟩;rw[hx] at this;cases this
   have hsplit:=hsr.split (F:=qD3 nb (qm mi gD) fs c.2) X hX (by rw[qBL,qBL]) hg;have hst:step E call round ops.toList o frD (qD3 nb (qm mi gD) fs c.2)=some (frD',s1):=by simp only[step,hstepV,hputD]
   have noti:∀p a,(p,a)∈fs→p≠i:=fun p a h1 e=>by
    subst e;obtain⟨q,h2,h3⟩:=fmem p a h1;rw[hri] at h2;cases h2;rw[hob] at h3;cases h3
   refine step_ok (ro:=rl) (Q:=Q) hE hsplit hfr (hc _ _) (hr _ _) (ops:=ops) hst (fun ι' a' w' hle' hfr' hsr'=>next1 ι' a' w' hle' hfr' ?_);rcases hkind with⟨hh,rfl,hl1⟩ | ⟨hl1,hsub⟩
   ·have hm:=hsr.merge (T':=qD3 nb (qD (fun j=>listed.getD j false) gD) fs c.2) X hX hsr' hle' (by rw[qBL,qBL]) (fun j=>by
      rw[hg];cases X j<;>simp)
    rw[hl1,hgg];refine ((hm.lessrs (rs:=rsD B nb ops.size (fun j=>(listed.setIfInBounds i true).getD j false)) (fun y hy=>(less1 y hy).1))).congr (fun j=>?_) (by rw[qBL,qBL]);rw[qDT,qDT,qBR,qBR,qGP j (fun p a h1=>?_)];simp only[qD,qB0 hil,noti p a h1,decide_false,Bool.false_or]
   ·rw[hl1];simp only[gm,hmi];refine (hsr.merge (T':=qD3 nb (qD (fun j=>(listed.setIfInBounds i true).getD j false) mi) fs s1) X hX hsr' hle' (by rw[qBL]) (fun j=>?_)).lessrs (fun y hy=>(less1 y hy).1);rw[qDT,qBR];cases hx:X j with
    | true =>
      obtain⟨p,a,h1,rfl,h2,h3,h4⟩:=(Xmem j).1 hx;rw[qFA ffun h1 ((qD_true _ _ _).2 ⟨by rw[qB0 hil];simp[h2],h4⟩)];simp only[if_true];rw[qDT,qBR,qFA ffun h1 ((qD_true _ _ _).2 ⟨h2,h3⟩)]
    | false =>
      simp only[Bool.false_eq_true,if_false];cases hp:pick nb (qD (fun j=>(listed.setIfInBounds i true).getD j false) mi) fs j with
      | none=>rfl
      | some b =>
       obtain⟨p,q1,q2,rfl⟩:=qCM hp;obtain⟨q3,q4⟩:=(qD_true _ _ _).1 q2;rw[qB0 hil] at q3;simp only[noti p b q1,decide_false,Bool.false_or] at q3;have q5:bit gD p=false:=by
        cases hb:bit gD p with
        | false=>rfl
        | true=>have:=hsub p hb;rw[q4] at this;cases this
       have:=(Xmem (nb+p)).2 ⟨p,b,q1,rfl,q3,q5,q4⟩;rw[hx] at this;cases this
  have calm1:r.hs=none→qA7 rs 0 (fun j=>(listed.setIfInBounds i true).getD j false) (none,st)=qA7 rs 0 (fun j=>listed.getD j false) (none,st):=fun hhs=>qC5 rs 0 _ _ _ fun j q hq hne=>by
   simp only[Nat.zero_add];rw[qB0 hil]
   by_cases e:j=i
   ·subst e;rw[hri] at hq;cases hq;exact absurd hhs hne
   ·simp[e]
  rcases hcase with⟨hfree,hhs,hc2⟩ | ⟨hfree,hob,s',hf,hhs,hland⟩
  ·rcases hc2 with⟨hw,x,hx,hrob,hrv⟩ | ⟨hw,hrob,hrv⟩
   ·-- an object is made
    rw[hro] at hw hx;have hgi:bit (gm (qA2 ops.toList) (qA7 rs 0 (fun j=>listed.getD j false) (none,st)).1) i=false:=by
      cases hb:bit (gm (qA2 ops.toList) (qA7 rs 0 (fun j=>listed.getD j false) (none,st)).1) i with
      | false=>rfl
      | true=>have:=ofg i hb;rw[hDi] at this;cases this
    have hxa:qFf E o frD=some x:=by rw[←qM8 (fun t ht=>hagree t (List.mem_append_left _ ht))];exact hx
    have hmem:(i,x.1)∈fs:=by rw[←hfs];exact qLC.2 ⟨r,hri,hrob⟩
    have hres:=hsr.res (nb+i) (.inr ⟨i,hisz,rfl,hDi⟩);refine qLD (ro:=rl) (Q:=Q) hE hsr hfr (k:=nb+i) (x:=x) (rs:=rsD B nb ops.size (fun j=>(listed.setIfInBounds i true).getD j false)) (by rw[hwd];exact hw) (by simp only[qBZ,qGr (hro▸hfree)]) hxa (by rw[←hrv];exact hputD) hres.1 hres.2
      (fun y hy=>⟨(less1 y hy).1,?_⟩) (fun ι' a' w' hle' hfr' hsr'=>next1 ι' a' w' hle' hfr' ?_)
    · rcases hy with hy | ⟨p,hp,rfl,hDp⟩
      ·have:=hrsB _ hy;omega
      ·simp only[qB0 hil] at hDp;intro e;have:p=i:=by omega
       subst this;simp at hDp
    · rw[calm1 hhs];refine hsr'.congr (fun j=>?_) (by rw[qBL];show _=(qD3 _ _ _ _).next;rw[qBL]);show _=(T.set _ _ _ _).get j;rw[T.get_set,qDT,qDT,qBR,qBR]
      by_cases e:j=nb+i
      ·subst e;rw[qFA ffun hmem (by simp only[qD,qB0 hil,hgi];simp)];simp
      ·simp only[e,if_false];have hpc:pick nb (qD (fun j=>(listed.setIfInBounds i true).getD j false) (gm (qA2 ops.toList) (qA7 rs 0 (fun j=>listed.getD j false) (none,st)).1)) fs j =
         pick nb (qD (fun j=>listed.getD j false) (gm (qA2 ops.toList) (qA7 rs 0 (fun j=>listed.getD j false) (none,st)).1)) fs j:=by
        cases h1:pick nb (qD (fun j=>(listed.setIfInBounds i true).getD j false) (gm (qA2 ops.toList) (qA7 rs 0 (fun j=>listed.getD j false) (none,st)).1)) fs j with
        | some b =>
         obtain⟨p,q1,q2,rfl⟩:=qCM h1;have hne:p≠i:=fun h=>e (by rw[h]);simp only[qD,qB0 hil,hne,decide_false,Bool.false_or] at q2;rw[qFA ffun q1 q2]
        | none =>
         cases h2:pick nb (qD (fun j=>listed.getD j false) (gm (qA2 ops.toList) (qA7 rs 0 (fun j=>listed.getD j false) (none,st)).1)) fs j with
         | none=>rfl
         | some b =>
          obtain⟨p,q1,q2,rfl⟩:=qCM h2;have hne:p≠i:=fun h=>e (by rw[h]);refine absurd rfl (qFm h1 p b q1 ?_);simp only[qD,qB0 hil,hne,decide_false,Bool.false_or];exact q2
       rw[hpc]
   ·-- it is not wanted
    rw[hro] at hw;refine plain _ hrob ?_ (.inl ⟨hhs,rfl,calm1 hhs⟩);have hgn:=qGr (hro▸hfree);simp only[qAt,hgn] at hw;cases hw
  ·cases hlt:qBS E o with
   | true =>
    rw[hro,hlt,if_pos rfl] at hhs;obtain⟨s1,h1⟩:=qME (f:=qBm E call round ops.toList) (fun o fr st r h hp st'=>qQJ hp h st') hT hR (by rw[hfs];exact hok) (D:=fun j=>listed.getD j false) hcl hri hfree hhs hDi (by rw[hro];exact hready);rw[hro,hfs] at h1;have h2:=qKp hlt h1;simp only at h2;exact plain s1 hob (by rw[hcong];exact h1) (.inl ⟨hhs,h2,calm1 hhs⟩)
   | false =>
    rw[hro] at hhs hland hf hfree;simp only[hlt,Bool.false_eq_true,if_false] at hhs;have hcalm:qGs E o=false:=by simp[qGs,hlt,hfree]
    have hother:∀(j:Nat) (q:Rec),rs[j]? = some q→q.hs≠none→j≠i→(j<i→listed.getD j false=true)∧(i<j→listed.getD j false=false):=fun j q hq hne hji=>by
      have hlq:qGs E q.o=false:=by
       rcases (hR.at_ j q hq).2.2.2.2 with⟨_,h3,_⟩ | ⟨h2,_,_,_,h3,_⟩
       ·exact absurd h3 hne
       ·cases hl:qBS E q.o with
        | false=>simp[qGs,hl,h2]
        | true=>simp[hl] at h3;exact absurd h3 hne
      obtain⟨t1,t2⟩:=hT.heavy i j o q.o ho (hrec hq) hcalm hlq;exact⟨fun h=>hbef j (t1 h),fun h=>haft j q hq (t2 h)⟩
    have hsame:qA7 rs 0 (fun j=>listed.getD j false) (none,st)=qA7 rs 0 (fun j=>decide (j<i)) (none,st):=qC5 rs 0 _ _ _ fun j q hq hne=>by
      simp only[Nat.zero_add]
      by_cases e:j=i
      ·subst e;simp[hDi]
      ·obtain⟨t1,t2⟩:=hother j q hq hne e
       by_cases hlt:j<i
       ·simp[hlt,t1 hlt]
       ·simp[hlt,t2 (by omega)]
    rw[←hsame] at hf;rw[←hsame] at hland;refine plain s' hob (by rw[hcong];exact hf) (.inr ⟨?_,fun p hp=>qT4 (hland hlt) hp⟩);have:=qHL rs 0 (fun j=>(listed.setIfInBounds i true).getD j false) (none,st) i r s' hri hhs (by rw[Nat.zero_add,qB0 hil];simp) (fun j q hq hlt' hne=>by
      rw[Nat.zero_add,qB0 hil,(hother j q hq hne (by omega)).2 hlt'];have:¬j=i:=by omega
      simp[this])
    rw[this,Nat.zero_add]
theorem qCa (hE:E.Ok P):qSU P E (drawA E):=by
 intro call round hc hr B w0 ops fr st fr' st' h ι w a rl id hsr hfr;simp only[drawA] at h;cases hS:okS E ops.toList
 ·simp[hS] at h
 simp only[hS,cond_true,force_eq] at h
 split at h
 ·simp at h
 rename_i rs fr1 g st1 hrun;have hT:=qZ4 hS;have hR:=qZL (fun o fr st r h hl=>qKp hl h) (qWj hT.down) hrun;have hboth:(fr1=fr'∧qD3 st.next (fun p=>!bit g p) (qBH rs 0) st1=st')∧qC4 st.next (qBH rs 0) (qAr rs (qA2 ops.toList) 0)=true ∧
   (qAr rs (qA2 ops.toList) 0=[]∨qDU E (qBm E call round ops.toList) st.next (qBH rs 0) (qAr rs (qA2 ops.toList) 0) {h:=st.h,next:=st.next+ops.toList.length} (qA2 ops.toList) rs 0=true):=by
  have slots0:∀H,qC4 st.next [] H=true:=fun H=>by simp[qC4]
  split at h
  ·rename_i hfn;rw[hfn]
   split at h
   ·rename_i hnil;simp only[qz1,Prod.mk.injEq] at h;exact⟨h,slots0 _,.inl hnil⟩
   ·cases hb:qDU E (qBm E call round ops.toList) st.next [] (qAr rs (qA2 ops.toList) 0) {h:=st.h,next:=st.next+ops.toList.length} (qA2 ops.toList) rs 0
    ·rw[hb] at h;simp at h
    ·rw[hb] at h;simp only[cond_true,qz1,Prod.mk.injEq] at h;exact⟨h,slots0 _,.inr rfl⟩
  ·split at h
   ·rename_i hnil;simp only[qz1,Prod.mk.injEq] at h;exact⟨h,by rw[hnil];rfl,.inl hnil⟩
   ·cases hs:qC4 st.next (qBH rs 0) (qAr rs (qA2 ops.toList) 0)
    ·rw[hs] at h;simp at h
    ·rw[hs] at h;simp only[cond_true] at h;cases hb:qDU E (qBm E call round ops.toList) st.next (qBH rs 0) (qAr rs (qA2 ops.toList) 0) {h:=st.h,next:=st.next+ops.toList.length} (qA2 ops.toList) rs 0
     ·rw[hb] at h;simp at h
     ·rw[hb] at h;simp only[cond_true,qz1,Prod.mk.injEq] at h;exact⟨h,rfl,.inr rfl⟩
 obtain⟨⟨rfl,rfl⟩,hslot,hok⟩:=hboth;refine wpIn_region_any hE.mixed ?_;have hfalse:∀j,(Array.replicate ops.size false).getD j false=false:=fun j=>by
  by_cases hj:j<ops.size<;>simp[Array.getD_eq_getD_getElem?,hj]
 have hnone:∀p,st.h.get (st.next+p)=none:=fun p=>by
  cases hx:st.h.get (st.next+p) with
  | none=>rfl
  | some y=>have:=hsr.hdom _ y hx;omega
 have hl0:qA7 rs 0 (fun j=>(Array.replicate ops.size false).getD j false) (none,({h:=st.h,next:=st.next+ops.toList.length}:ASt))=(none,{h:=st.h,next:=st.next+ops.toList.length}) :=
  qCz rs 0 _ _ (fun j r _ _=>hfalse _)
 refine qTm hE hc hr hT hR hok hslot hnone (fun i hi=>(hsr.res i hi).1) (ι0:=ι) (fun ι' a' w' h1 h2 h3=>⟨rfl,ι',h1,h2,h3⟩) ops.size _ ι a _ fr (by simp) (by simp[Array.toList_replicate]) (fun i o _ h=>?_) ι.le_refl hfr rfl rfl (fun t=>?_) ?_
 ·simp only[hfalse] at h;cases h
 ·rw[qHF rs 0 _ _ (fun j r _ _=>hfalse _)];rfl
 ·rw[hl0];refine ((hsr.drawn _).reserve ops.size (fun j=>(Array.replicate ops.size false).getD j false)).congr (fun j=>?_) (by rw[qBL];simp);rw[qDT,qBR];cases hp:pick st.next (qD (fun j=>(Array.replicate ops.size false).getD j false) (gm (qA2 ops.toList) none)) (qBH rs 0) j with
  | none=>rfl
  | some b =>
   obtain⟨p,_,q2,_⟩:=qCM hp;simp only[qD,hfalse,Bool.false_and] at q2;cases q2
end
end
end Go.Ax
end
section
namespace Go.Ax
noncomputable section
open Go.RowKit
def tyT (P:Program) (l:List Nat):T TI:=l.foldl (fun t i=>match qTP P i with | some ti=>t.set 11 i ti | none=>t) .e
theorem qYh {P:Program} (l:List Nat):∀t ti,(tyT P l).get t=some ti→qTP P t=some ti:=by
 have key:∀(l:List Nat) (s:T TI),(∀t ti,s.get t=some ti→qTP P t=some ti)→∀t ti,(l.foldl (fun t i=>match qTP P i with | some ti=>t.set 11 i ti | none=>t) s).get t=some ti→qTP P t=some ti:=by
  intro l
  induction l with
  | nil=>intro s hs t ti h;exact hs t ti h
  | cons i l ih =>
   intro s hs t ti h;refine ih _ (fun t ti ht=>?_) t ti h;cases hi:qTP P i with
   | none=>simp only[hi] at ht;exact hs t ti ht
   | some x =>
    simp only[hi,T.get_set] at ht
    by_cases e:t=i
    ·subst e;simp at ht;rw[hi,ht]
    ·simp only[e,if_false] at ht;exact hs t ti ht
 exact key l .e (fun t ti h=>by simp[T.get_e] at h)
def fnT (l:List (Nat×Func)):T Func:=l.foldl (fun t p=>t.set 11 p.1 p.2) .e
structure FnOK (P:Program) (f:Nat) (fn:Func):Prop where
 at_:P.funcs[f]? = some fn
 call:∀args w,(callFunc f args).run P w=.ok (.enter f args) w
def AllFn (P:Program):List (Nat×Func)→Prop
 | []=>True
 | p::ps=>FnOK P p.1 p.2∧AllFn P ps
theorem qVJ {P:Program} {l:List (Nat×Func)} (h:AllFn P l):∀f fn,(fnT l).get f=some fn→FnOK P f fn:=by
 have key:∀(l:List (Nat×Func)),AllFn P l→∀(s:T Func),(∀f fn,s.get f=some fn→FnOK P f fn)→∀f fn,(l.foldl (fun t p=>t.set 11 p.1 p.2) s).get f=some fn→FnOK P f fn:=by
  intro l
  induction l with
  | nil=>intro _ s hs f fn h;exact hs f fn h
  | cons p l ih =>
   intro hl s hs f fn h;refine ih hl.2 _ (fun f fn hf=>?_) f fn h;simp only[T.get_set] at hf
   by_cases e:f=p.1
   ·subst e;simp at hf;rw[←hf];exact hl.1
   ·simp only[e,if_false] at hf;exact hs f fn hf
 exact key l h .e (fun f fn h=>by simp[T.get_e] at h)
def qAa:CallT:=fun _ _ _=>none
theorem qAB {P:Program}:CallsOK P qAa:=fun _ _ _ _ _ _ h=>by simp[qAa] at h
def add64A (args:List AV):Option AV :=
 match args with
 | [.int .u64 (.ofNat x),.int .u64 (.ofNat y),.int .u64 (.ofNat c)] =>
  bif Nat.ble c 1 then some (.tuple [.int .u64 (.ofNat ((x+y+c) % 18446744073709551616)),.int .u64 (.ofNat ((x+y+c) / 18446744073709551616))]) else none
 | _=>none
structure ExOK (P:Program) (f:Nat) (g:List AV→Option AV):Prop where
 ok:∀ι args args' v w,qGG w→g args=some v→args.length=args'.size→(∀(i:Nat) x x',args[i]? = some x→args'[i]? = some x'→VR ι x x') →
  (∃v',(callFunc f args').run P w=.ok (.value v') w∧VR ι v v') ∨
  ((callFunc f args').run P w=.ok (.enter f args') w∧CallsIn Fence.wide 0 P f args' w fun e w'=>∃x,e=.returned x∧VR ι v x∧Keeps (fun k=>k<w.heap.size) w w')
theorem qUF {P:Program} {f:Nat} (h:∀args w,(callFunc f args).run P w=((add64Entry args).run P w).andThen fun v w'=>.ok (.value v) w'):ExOK P f add64A:=by
 refine⟨fun ι args args' v w _ hg hs hr=>?_⟩;unfold add64A at hg
 split at hg
 rotate_left
 ·simp at hg
 rename_i x y c;cases hc:Nat.ble c 1
 ·simp[hc] at hg
 simp only[hc,cond_true,qz1] at hg;subst hg;have hc1:=qCT hc;obtain⟨l⟩:=args'
 match l,hs with
 | [a,b,d],_ =>
  have h0:=hr 0 _ a rfl (by simp);have h1:=hr 1 _ b rfl (by simp);have h2:=hr 2 _ d rfl (by simp);cases h0;cases h1;cases h2;have hrun:=run_add64 (P:=P) (x:Int) (y:Int) (c:Int) (by omega) (by omega) (by omega) (by omega) w;refine .inl ⟨.tuple #[.int .u64 (((x+y+c) % 18446744073709551616:Nat):Int),.int .u64 (((x+y+c) / 18446744073709551616:Nat):Int)],?_,?_⟩
  ·rw[h];have e:∀n:Nat,(Int.ofNat n)=(n:Int):=fun _=>rfl;have e1:((x:Int)+(y:Int)+(c:Int)) % 18446744073709551616=(((x+y+c) % 18446744073709551616:Nat):Int):=by omega
   have e2:((x:Int)+(y:Int)+(c:Int)) / 18446744073709551616=(((x+y+c) / 18446744073709551616:Nat):Int):=by omega
   simp only[e];rw[hrun,e1,e2];rfl
  ·refine .tuple _ _ rfl (fun i u u' hu hu'=>?_)
   match i with
   | 0=>simp at hu hu';subst hu;subst hu';exact .int _ _
   | 1=>simp at hu hu';subst hu;subst hu';exact .int _ _
   | i+2=>simp at hu
def qUV (P:Program):List (Nat×(List AV→Option AV))→Prop
 | []=>True
 | p::ps=>ExOK P p.1 p.2∧qUV P ps
def exT (l:List (Nat×(List AV→Option AV))):T (List AV→Option AV):=l.foldl (fun t p=>t.set 11 p.1 p.2) .e
theorem q0B {P:Program} {l:List (Nat×(List AV→Option AV))} (h:qUV P l):∀f g,(exT l).get f=some g→ExOK P f g:=by
 have key:∀(l:List (Nat×(List AV→Option AV))),qUV P l→∀(s:T (List AV→Option AV)),(∀f g,s.get f=some g→ExOK P f g)→∀f g,(l.foldl (fun t p=>t.set 11 p.1 p.2) s).get f=some g→ExOK P f g:=by
  intro l
  induction l with
  | nil=>intro _ s hs f fn h;exact hs f fn h
  | cons p l ih =>
   intro hl s hs f fn h;refine ih hl.2 _ (fun f fn hf=>?_) f fn h;simp only[T.get_set] at hf
   by_cases e:f=p.1
   ·subst e;simp at hf;rw[←hf];exact hl.1
   ·simp only[e,if_false] at hf;exact hs f fn hf
 exact key l h .e (fun f fn h=>by simp[T.get_e] at h)
def envEx (P:Program) (ts:List Nat) (fs:List (Nat×Func)) (xs:List (Nat×(List AV→Option AV))):Env:={ty:=tyT P ts,fn:=fnT fs,ex:=exT xs}
theorem envEx_ok {P:Program} {ts:List Nat} {fs:List (Nat×Func)} {xs:List (Nat×(List AV→Option AV))} (h:AllFn P fs) (hx:qUV P xs) (hm:P.follows .mixedOrders=true):Env.Ok P (envEx P ts fs xs) where
 ty:=qYh ts
 fn:=fun f fn hf=>(qVJ h f fn hf).at_
 call:=fun f fn hf args w=>(qVJ h f fn hf).call args w
 ex:=fun f g hg=>(q0B hx f g hg).ok
 mixed:=hm
def qCd:AV→Bool
 | .bool _=>true
 | .int _ _=>true
 | .str _=>true
 | _=>false
def qEO:AV→Bool
 | .agg l=>l.all qCd
 | v=>qCd v
theorem qTH {ι κ:Ren} {v:AV} {x:Value} (hp:qCd v=true) (h:VR ι v x):VR κ v x:=by
 cases h<;>simp[qCd] at hp
 ·exact .bool _
 ·exact .int _ _
 ·exact .str _ _ (by assumption)
theorem qDs {ι κ:Ren} {v:AV} {x:Value} (hp:qEO v=true) (h:VR ι v x):VR κ v x:=by
 cases h with
 | agg cs cs' hs hc h =>
  exact .agg cs cs' hs hc (fun i y y' hy hy'=>qTH (List.all_eq_true.1 hp y (List.mem_of_getElem? hy)) (h i y y' hy hy'))
 | bool b=>exact .bool b
 | int k n=>exact .int k n
 | str l s hl=>exact .str l s hl
 | _=>simp[qEO,qCd] at hp
theorem qId {ι κ:Ren} {l:List AV} {r:Array Value} (hp:l.all qEO=true) (h:VRs ι l r):VRs κ l r :=
 ⟨h.size,fun i v v' hv hv'=>qDs (List.all_eq_true.1 hp v (List.mem_of_getElem? hv)) (h.at_ i v v' hv hv')⟩
structure Memo where
 f:Nat
 args:List AV
 v:AV
structure MemoOK (P:Program) (m:Memo):Prop where
 enter:∀args w,(callFunc m.f args).run P w=.ok (.enter m.f args) w
 pa:m.args.all qEO=true
 pv:qEO m.v=true
 run:∀w args',qGG w→VRs (fun _=>none) m.args args'→CallsIn Fence.wide 0 P m.f args' w fun e w'=>∃x,e=.returned x∧VR (fun _=>none) m.v x∧Keeps (fun k=>k<w.heap.size) w w'
def qMf (P:Program):List Memo→Prop
 | []=>True
 | p::ps=>MemoOK P p∧qMf P ps
def qYY:List Memo→CallT
 | [],_,_,_=>none
 | m::ms,f,args,st=>bif (bif Nat.beq m.f f then qFd m.args args else false) then some (m.v,st) else qYY ms f args st
theorem qHZ {P:Program}:∀{l:List Memo},qMf P l→CallsOK P (qYY l)
 | [],_=>fun _ _ _ _ _ _ h=>by simp[qYY] at h
 | m::ms,hm=>fun B w0 f args st r h ι w args' hsr hv=>by
  simp only[qYY] at h;cases hb:(bif Nat.beq m.f f then qFd m.args args else false)
  ·rw[hb,cond_false] at h;exact qHZ hm.2 B w0 f args st r h ι w args' hsr hv
  ·rw[hb,cond_true] at h;simp only[qz1] at h;cases hf:Nat.beq m.f f
   ·rw[hf] at hb;simp at hb
   rw[hf,cond_true] at hb;have e1:=qEQ hf;have e2:=qD0 _ _ hb;subst e1;subst e2;subst h;obtain⟨k1,k2,k3,k4⟩:=hm.1;refine⟨k1 args' w,(k4 w args' hsr.globw (qId k2 hv)).mono fun e w' ⟨x,he,hx,hk⟩=>?_⟩;exact⟨x,ι,he,ι.le_refl,hsr.later hk,qDs k3 hx⟩
def q2d (v:AV):Option (AV×ASt)→Bool
 | some (x,_)=>qCx x v
 | none=>false
theorem qAT {P:Program} {E:Env} (hE:E.Ok P) {sum:CallT} (hs:CallsOK P sum) {n:Nat} {m:Memo} (henter:∀args w,(callFunc m.f args).run P w=.ok (.enter m.f args) w)
  (hp:(bif m.args.all qEO then qEO m.v else false)=true) (h:q2d m.v ((M E (drawA E) sum n).call m.f m.args st0)=true):MemoOK P m:=by
 cases hp1:m.args.all qEO
 ·rw[hp1] at hp;simp at hp
 rw[hp1,cond_true] at hp;refine⟨henter,hp1,hp,fun w args' hgl hv=>?_⟩
 revert h
 generalize hq:(M E (drawA E) sum n).call m.f m.args st0=q;intro h
 match q,h with
 | some (x,st),h =>
  have:=qD6 _ _ h;subst this;obtain⟨_,hc⟩:=(qSQ hE (qCa hE) hs n).call (Old w) w m.f m.args st0 _ hq _ w args' (qMr w hgl) hv;refine hc.mono ?_;rintro e w' ⟨v,ι',rfl,_,h2,h3⟩;exact⟨v,rfl,qDs hp h3,h2.below.os,h2.below.tape,h2.below.output,h2.below.size,fun k hk=>h2.below.block k (.inr hk)⟩
theorem qQI {P:Program} {E:Env} (hE:E.Ok P) {sum:CallT} (hs:CallsOK P sum) {n:Nat} {f:Nat} {g:List AV→Option AV} (henter:∀args w,(callFunc f args).run P w=.ok (.enter f args) w)
  (hrun:∀args v,g args=some v→args.all qEO=true∧qEO v=true∧∃st,(M E (drawA E) sum n).call f args st0=some (v,st)):ExOK P f g:=by
 refine⟨fun ι args args' v w hgl hg hsz hr=>.inr ⟨henter args' w,?_⟩⟩;obtain⟨h1,h2,st,h3⟩:=hrun args v hg;obtain⟨_,hc⟩:=(qSQ hE (qCa hE) hs n).call (Old w) w f args st0 _ h3 _ w args' (qMr w hgl) (qId h1 ⟨hsz,hr⟩);refine hc.mono ?_;rintro e w' ⟨x,ι',rfl,_,h4,h5⟩;exact⟨x,rfl,qDs h2 h5,h4.below.os,h4.below.tape,h4.below.output,h4.below.size,fun k hk=>h4.below.block k (.inr hk)⟩
def orI (x y:Int):Int:=qAH .u32 (.ofNat (Nat.lor (qB5 x 4294967296) (qB5 y 4294967296)))
def qIW (x y:Int):Int:=qAH .u32 (.ofNat (Nat.xor (qB5 x 4294967296) (qB5 y 4294967296)))
def qS0 (x y:Int):Int:=qAH .u32 (.ofNat (Nat.land (qB5 x 4294967296) (qB5 y 4294967296)))
def q2U (y:Int):Int:=qAH .u32 (.ofNat (Nat.xor (qB5 4294967295 4294967296) (qB5 y 4294967296)))
def qDQ (x y:Int):Int:=qAH .u32 (x+y)
def qH7 (x:Int) (n:Nat):Int:=orI (qDO .u32 x (32 - n)) (qCV x n)
def word (a b c d:Nat):Int:=orI (qDO .u32 (orI (qDO .u32 (orI (qDO .u32 (orI (qDO .u32 0 8) (qAH .u32 (.ofNat a))) 8) (qAH .u32 (.ofNat b))) 8) (qAH .u32 (.ofNat c))) 8) (qAH .u32 (.ofNat d))
def words:List Nat→List Int→List Int
 | a::b::c::d::l,acc=>words l (word a b c d::acc)
 | _,acc=>acc
def qQU (w16 x w7 y:Int):Int:=qDQ (qDQ (qDQ w16 (qIW (qIW (qH7 x 7) (qH7 x 18)) (qCV x 3))) w7) (qIW (qIW (qH7 y 17) (qH7 y 19)) (qCV y 10))
def qVN:Nat→List Int→List Int
 | 0,l=>l
 | n+1,l=>qVN n (qQU (l.getD 15 0) (l.getD 14 0) (l.getD 6 0) (l.getD 1 0)::l)
structure S8 where
 a:Int
 b:Int
 c:Int
 d:Int
 e:Int
 f:Int
 g:Int
 h:Int
def rnd (k w:Int) (s:S8):S8 :=
 match s with
 | ⟨a,b,c,d,e,f,g,h⟩ =>
  let x:=qDQ (qDQ (qDQ (qDQ h (qIW (qIW (qH7 e 6) (qH7 e 11)) (qH7 e 25))) (qIW (qS0 e f) (qS0 (q2U e) g))) k) w
  let y:=qDQ (qIW (qIW (qH7 a 2) (qH7 a 13)) (qH7 a 22)) (qIW (qIW (qS0 a b) (qS0 a c)) (qS0 b c))
  ⟨qDQ x y,a,b,c,qDQ d x,e,f,g⟩
def qWS:List Int→List Int→S8→S8
 | k::ks,w::ws,s=>qWS ks ws (rnd k w s)
 | _,_,s=>s
def qWM:List Int:=[0x428a2f98,0x71374491,0xb5c0fbcf,0xe9b5dba5,0x3956c25b,0x59f111f1,0x923f82a4,0xab1c5ed5,0xd807aa98,0x12835b01,0x243185be,0x550c7dc3,0x72be5d74,0x80deb1fe,0x9bdc06a7,0xc19bf174,0xe49b69c1,0xefbe4786,0x0fc19dc6,0x240ca1cc,0x2de92c6f,0x4a7484aa,0x5cb0a9dc,0x76f988da,0x983e5152,0xa831c66d,0xb00327c8,0xbf597fc7,0xc6e00bf3,0xd5a79147,0x06ca6351,0x14292967,0x27b70a85,0x2e1b2138,0x4d2c6dfc,0x53380d13,0x650a7354,0x766a0abb,0x81c2c92e,0x92722c85,0xa2bfe8a1,0xa81a664b,0xc24b8b70,0xc76c51a3,0xd192e819,0xd6990624,0xf40e3585,0x106aa070,0x19a4c116,0x1e376c08,0x2748774c,0x34b0bcb5,0x391c0cb3,0x4ed8aa4a,0x5b9cca4f,0x682e6ff3,0x748f82ee,0x78a5636f,0x84c87814,0x8cc70208,0x90befffa,0xa4506ceb,0xbef9a3f7,0xc67178f2]
def qDF (s:S8) (bs:List Nat):S8 :=
 match qWS qWM (qVN 48 (words bs [])).reverse s with
 | ⟨a,b,c,d,e,f,g,h⟩=>⟨qDQ a s.a,qDQ b s.b,qDQ c s.c,qDQ d s.d,qDQ e s.e,qDQ f s.f,qDQ g s.g,qDQ h s.h⟩
def S8.av (s:S8):AV:=.agg [.int .u32 s.a,.int .u32 s.b,.int .u32 s.c,.int .u32 s.d,.int .u32 s.e,.int .u32 s.f,.int .u32 s.g,.int .u32 s.h]
def qGz:AV:=.agg (qWM.map (AV.int .u32))
def qVq:List AV→Option AV
 | [.int .u32 x,.int .i64 (.ofNat n)]=>bif qCY n [2,6,7,11,13,17,18,19,22,25] then some (.int .u32 (qH7 x n)) else none
 | _=>none
def qEJ:List AV→Option (List Nat)
 | []=>some []
 | v::vs =>
  match v with
  | .int k n =>
   match k with
   | .u8 =>
    match n with
    | .ofNat n=>match qEJ vs with | some l=>some (n::l) | none=>none
    | .negSucc _=>none
   | _=>none
  | _=>none
theorem qDn:∀{l:List AV} {bs:List Nat},qEJ l=some bs→l=bs.map fun b=>AV.int .u8 (.ofNat b)
 | [],bs,h=>by simp[qEJ] at h;subst h;rfl
 | v::vs,bs,h=>by
  unfold qEJ at h
  split at h
  ·split at h
   ·split at h
    ·split at h
     ·rename_i l hl;simp only[qz1] at h;subst h;rw[qDn hl];rfl
     ·simp at h
    ·simp at h
   ·simp at h
  ·simp at h
def stB (bs:List Nat):ASt:={h:=T.set D .e 0 (.cells (bs.map fun b=>AV.int .u8 (.ofNat b)) false),next:=1}
def ans:Option (AV×ASt)→Option AV
 | some (v,_)=>some v
 | none=>none
theorem qHO {q:Option (AV×ASt)} {v:AV} (h:ans q=some v):∃st,q=some (v,st):=by
 match q,h with
 | some (x,st),h=>simp only[ans,qz1] at h;subst h;exact⟨st,rfl⟩
theorem qDw {P:Program} {E:Env} (hE:E.Ok P) {sum:CallT} (hs:CallsOK P sum) {n f:Nat} {pre:List AV} {bs:List Nat} {v:AV} (hz:bs.length≠0) (hp:pre.all qEO=true) (hv:qEO v=true)
  (hrun:ans ((M E (drawA E) sum n).call f (pre++[.slice (some (0,0)) bs.length (.atl bs.length)]) (stB bs))=some v)
  {B:Prot} {w0:World} {ι:Ren} {st:ASt} {w:World} (hsr:SR B w0 ι st w) {i o:Nat} {cap:Cap} {cs:List AV} {rw:Bool} (hi:st.h.get i=some (.cells cs rw))
  (hcs:qAy cs o bs.length=some (bs.map fun b=>AV.int .u8 (.ofNat b))) {args':Array Value} (hargs:VRs ι (pre++[.slice (some (i,o)) bs.length cap]) args') :
  (callFunc f args').run P w=.ok (.enter f args') w∧CallsIn Fence.wide 0 P f args' w (qGw B w0 ι (v,st)):=by
 obtain⟨st2,hq⟩:=qHO hrun;have hlast:=hargs.get (i:=pre.length) (v:=.slice (some (i,o)) bs.length cap) (by simp);obtain⟨y,hy,hyv⟩:=hlast;cases hyv with
 | slice _ _ _ c' L _ hL hcap hle =>
  obtain⟨L',ob,h1,h2,c,e,lo,hi',h3,h4,h5,h6,h7,h8⟩:=hsr.obj i _ hi (by simp);rw[hL] at h1;cases h1;rw[h3] at h2;obtain⟨t1,t2⟩:=qBQ hcs;have hlt:L.b<w.heap.size:=(Array.getElem?_eq_some_iff.1 h2).1;have hlen:bs.length≠0→o+bs.length≤cs.length:=fun hne=>by
   have:=t2 (bs.length - 1) (by omega);rw[List.getElem?_eq_getElem (by simp;omega)] at this;have:=(List.getElem?_eq_some_iff.1 this.symm).1;omega
  let ι1:Ren:=fun j=>if j=0 then some ⟨L.b,L.p+o,L.tot⟩ else none
  let B1:Prot:=⟨fun k=>k=L.b,fun k=>k<w.heap.size,fun _=>False⟩
  have hg:∀j,(stB bs).h.get j=if j=0 then some (.cells (bs.map fun b=>AV.int .u8 (.ofNat b)) false) else none:=fun j=>by
   show (T.set D .e 0 _).get j=_;rw[T.get_set,T.get_e]
  have hob:∀(k:Nat) v v',(bs.map fun b=>AV.int .u8 (.ofNat b))[k]? = some v→c[L.p+o+k]? = some v'→VR ι1 v v':=fun k v v' hk hk'=>by
   have hkl:k<bs.length:=by have:=(List.getElem?_eq_some_iff.1 hk).1;simpa using this
   have hk2:=hk;rw[t2 k hkl] at hk2;have:=h7 (o+k) v v' hk2 (by rw[←hk'];congr 1;omega);simp only[List.getElem?_map] at hk;cases hb:bs[k]? with
   | none=>rw[hb] at hk;simp at hk
   | some b=>rw[hb] at hk;simp at hk;subst hk;cases this;exact .int _ _
  have hsr1:SR B1 w ι1 (stB bs) w:=by
   refine⟨Keeps.refl _ _,?_,?_,?_,?_,?_,?_,fun i hi=>hi.elim,fun g cs hg=>⟨.inr (hsr.globw g cs hg).lt,hsr.globw g cs hg⟩⟩
   ·rintro k (hk | hk)
    ·exact hk▸hlt
    ·exact hk
   ·intro j a hj hd;rw[hg] at hj
    by_cases e:j=0
    ·subst e;simp only[if_true,qz1] at hj;subst hj;refine⟨⟨L.b,L.p+o,L.tot⟩,.cells c e (lo,hi'),rfl,h2,c,e,lo,hi',rfl,h4,?_,?_,hob,fun h=>by cases h⟩
     ·have:=hlen hz;simp;omega
     ·intro x hx;simp at hx;obtain⟨b,_,rfl⟩:=hx;rfl
    ·simp[e] at hj
   ·intro j a L' hj ho hL';rw[hg] at hj
    by_cases e:j=0
    ·simp only[e,if_true,qz1] at hj;subst hj;cases ho
    ·simp[e] at hj
   ·intro j L' hj;simp only[ι1] at hj
    by_cases e:j=0
    ·subst e;show 0<1;omega
    ·simp[e] at hj
   ·intro j a hj;rw[hg] at hj
    by_cases e:j=0
    ·subst e;show 0<1;omega
    ·simp[e] at hj
   ·intro j a L' hj hd ho hL';simp only[ι1] at hL'
    by_cases e:j=0
    ·simp only[e,if_true,qz1] at hL';subst hL';rfl
    ·simp[e] at hL'
  have hv1:VRs ι1 (pre++[.slice (some (0,0)) bs.length (.atl bs.length)]) args':=by
   refine⟨by have:=hargs.size;simpa using this,fun j x x' hx hx'=>?_⟩
   by_cases hj:j<pre.length
   ·rw[List.getElem?_append_left hj] at hx;exact qDs (List.all_eq_true.1 hp x (List.mem_of_getElem? hx)) (hargs.at_ j x x' (by rw[List.getElem?_append_left hj];exact hx) hx')
   ·have hj2:j=pre.length:=by have:=(List.getElem?_eq_some_iff.1 hx).1;simp at this;omega
    subst hj2;simp at hx;subst hx;rw[hy] at hx';cases hx';have:=VR.slice (ι:=ι1) 0 0 bs.length c' ⟨L.b,L.p+o,L.tot⟩ (.atl bs.length) rfl hle hle;simpa using this
  obtain⟨k1,k2⟩:=(qSQ hE (qCa hE) hs n).call B1 w f _ _ _ hq ι1 w args' hsr1 hv1;refine⟨k1,k2.mono ?_⟩;rintro e w' ⟨x,ι',rfl,_,h9,h10⟩;exact⟨x,ι,rfl,ι.le_refl,hsr.later ⟨h9.below.os,h9.below.tape,h9.below.output,h9.below.size,fun k hk=>h9.below.block k (.inr hk)⟩,qDs hv h10⟩
def orC (s t:CallT):CallT:=fun f args st=>match s f args st with | some r=>some r | none=>t f args st
theorem orC_ok {P:Program} {s t:CallT} (hs:CallsOK P s) (ht:CallsOK P t):CallsOK P (orC s t):=fun B w0 f args st r h=>by
 simp only[orC] at h
 split at h
 ·rename_i x hx;simp only[qz1] at h;subst h;exact hs B w0 f args st _ hx
 ·exact ht B w0 f args st r h
def qC1 {α:Type} (x:Int) (k:Int→α):α :=
 match x with
 | .ofNat n=>force n fun m=>k (.ofNat m)
 | .negSucc n=>k (.negSucc n)
theorem qLE {α:Type} (x:Int) (k:Int→α):qC1 x k=k x:=by cases x<;>simp[qC1,force_eq]
def S8.force (s:S8) (k:AV→Option (AV×ASt)):Option (AV×ASt) :=
 match s with
 | ⟨a,b,c,d,e,f,g,h⟩=>qC1 a fun a=>qC1 b fun b=>qC1 c fun c=>qC1 d fun d=>qC1 e fun e=>qC1 f fun f=>qC1 g fun g=>qC1 h fun h=>k (S8.av ⟨a,b,c,d,e,f,g,h⟩)
theorem S8.force_eq (s:S8) (k:AV→Option (AV×ASt)):s.force k=k s.av:=by
 obtain⟨a,b,c,d,e,f,g,h⟩:=s;simp only[S8.force,qLE]
def qEw (fp:Nat):CallT:=fun fn args st =>
 bif Nat.beq fp fn then
  match args with
  | [k,.agg [.int .u32 a,.int .u32 b,.int .u32 c,.int .u32 d,.int .u32 e,.int .u32 f,.int .u32 g,.int .u32 h],.slice (some (i,o)) len _] =>
   bif Nat.beq len 64 then
    bif qCx k qGz then
     match st.h.get i with
     | some (.cells cs _) =>
      match qAy cs o 64 with
      | some l =>
       match qEJ l with
       | some bs=>(qDF ⟨a,b,c,d,e,f,g,h⟩ bs).force fun v=>some (v,st)
       | none=>none
      | none=>none
     | _=>none
    else none
   else none
  | _=>none
 else none
theorem S8.pure (s:S8):qEO s.av=true:=rfl
theorem qOG:qEO qGz=true:=by
 show (qWM.map (AV.int .u32)).all qCd=true;rw[List.all_map];exact List.all_eq_true.2 fun _ _=>rfl
theorem qLm {P:Program} {E:Env} (hE:E.Ok P) {sum:CallT} (hs:CallsOK P sum) {n fp:Nat}
  (hrun:∀(s:S8) (b:Nat→Nat),ans ((M E (drawA E) sum n).call fp [qGz,s.av,.slice (some (0,0)) 64 (.atl 64)] (stB ((List.range 64).map b)))=some (qDF s ((List.range 64).map b)).av) :
  CallsOK P (qEw fp):=by
 intro B w0 fn args st r h ι w args' hsr hv;unfold qEw at h;cases hf:Nat.beq fp fn
 ·simp[hf] at h
 simp only[hf,cond_true] at h;have:=qEQ hf;subst this
 split at h
 rotate_left
 ·simp at h
 rename_i k a b c d e f g hh i o len cap;cases hl:Nat.beq len 64
 ·simp[hl] at h
 simp only[hl,cond_true] at h;have:=qEQ hl;subst this;cases hk:qCx k qGz
 ·simp[hk] at h
 simp only[hk,cond_true] at h;have:=qD6 _ _ hk;subst this
 split at h
 rotate_left
 ·simp at h
 rename_i cs rw hi
 split at h
 rotate_left
 ·simp at h
 rename_i l hl
 split at h
 rotate_left
 ·simp at h
 rename_i bs hbs;rw[S8.force_eq] at h;simp only[qz1] at h;have hll:=(qBQ hl).1;have hb:=qDn hbs;have hlen:bs.length=64:=by rw[hb] at hll;simpa using hll
 have hbl:bs=(List.range 64).map fun j=>bs.getD j 0:=by
  apply List.ext_getElem?;intro j
  by_cases hj:j<64
  ·have hj':j<bs.length:=by omega
   simp[hj,hj']
  ·have hj':¬j<bs.length:=by omega
   simp[hj];omega
 have hr:=hrun ⟨a,b,c,d,e,f,g,hh⟩ fun j=>bs.getD j 0;rw[←hbl] at hr;have:=qDw (pre:=[qGz,S8.av ⟨a,b,c,d,e,f,g,hh⟩]) (bs:=bs) (v:=(qDF ⟨a,b,c,d,e,f,g,hh⟩ bs).av) hE hs (n:=n) (f:=fp) (by omega)
  (by simp only[List.all_cons,List.all_nil,qOG,S8.pure,Bool.and_self]) (S8.pure _) (by rw[hlen];exact hr) hsr hi (by rw[hlen,hl,hb]) (args':=args') (cap:=cap) (by rw[hlen];exact hv)
 rw[←h];exact this
def it (f:AFr→ASt→Option (Exit×AFr×ASt)):Nat→AFr→ASt→Option (Exit×AFr×ASt)
 | 0,fr,st=>some (.normal,fr,st)
 | k+1,fr,st =>
  match f fr st with
  | some (.normal,fr',st')=>it f k fr' st'
  | r=>r
theorem qN7 (f:AFr→ASt→Option (Exit×AFr×ASt)):∀(a b:Nat) (fr:AFr) (st:ASt),it f (a+b) fr st=match it f a fr st with | some (.normal,fr',st')=>it f b fr' st' | r=>r
 | 0,b,fr,st=>by simp[it]
 | a+1,b,fr,st=>by
  have e:a+1+b=(a+b)+1:=by omega
  rw[e];simp only[it];cases h:f fr st with
  | none=>rfl
  | some r =>
   obtain⟨e,fr',st'⟩:=r;cases e<;>first | exact qN7 f a b fr' st' | rfl
theorem qNP (f:AFr→ASt→Option (Exit×AFr×ASt)):∀(d:Nat) (fr:AFr) (st:ASt),qDv f d fr st=it f (2 ^ d) fr st
 | 0,fr,st=>by
  simp only[qDv,Nat.pow_zero,it];cases h:f fr st with
  | none=>rfl
  | some r=>obtain⟨e,fr',st'⟩:=r;cases e<;>rfl
 | d+1,fr,st=>by
  have e:2 ^ (d+1)=2 ^ d+2 ^ d:=by rw[Nat.pow_succ];omega
  rw[e,qN7];simp only[qDv,qNP f d];cases h:it f (2 ^ d) fr st with
  | none=>rfl
  | some r =>
   obtain⟨e,fr',st'⟩:=r;cases e<;>rfl
def Comes (f:AFr→ASt→Option (Exit×AFr×ASt)) (n:Nat) (fr:AFr) (st:ASt) (r:Exit×AFr×ASt):Prop:=∃k,k≤n∧it f k fr st=some r
theorem qO4 {f:AFr→ASt→Option (Exit×AFr×ASt)} {n:Nat} {fr:AFr} {st:ASt} {r:Exit×AFr×ASt} (h:it f n fr st=some r):Comes f n fr st r:=⟨n,Nat.le_refl _,h⟩
theorem qDm {f:AFr→ASt→Option (Exit×AFr×ASt)} {a b:Nat} {fr fr':AFr} {st st':ASt} {r:Exit×AFr×ASt} (h:it f a fr st=some (.normal,fr',st')) (h':Comes f b fr' st' r):Comes f (a+b) fr st r:=by
 obtain⟨k,hk,hr⟩:=h';exact⟨a+k,by omega,by rw[qN7,h];exact hr⟩
theorem qO3 {f:AFr→ASt→Option (Exit×AFr×ASt)} {n:Nat} {fr:AFr} {st:ASt} {r:Exit×AFr×ASt} (h:Comes f n fr st r) (hn:n≤2 ^ 24) (hr:r.1≠.normal):qDv f 24 fr st=some r:=by
 obtain⟨k,hk,hit⟩:=h;rw[qNP,show 2 ^ 24=k+(2 ^ 24 - k) by omega,qN7,hit];obtain⟨e,fr',st'⟩:=r;cases e<;>first | exact absurd rfl hr | rfl
def seqL:Code→Code
 | .seq a _=>a
 | c=>c
def seqR:Code→Code
 | .seq _ b=>b
 | c=>c
def qSY:Code→Code
 | .block _ b=>b
 | c=>c
def qSX:Code→Code
 | .loop b=>b
 | c=>c
section
variable {E:Env} {draw:qI8} {sum:CallT} {n:Nat} {ro:Option Nat} {fr fr1:AFr} {st st1:ASt} {r:Exit×AFr×ASt}
theorem qNi {a b:Code} (h:(M E draw sum n).ex ro a fr st=some (.normal,fr1,st1)) (h':(M E draw sum n).ex ro b fr1 st1=some r):(M E draw sum (n+1)).ex ro (.seq a b) fr st=some r:=by
 show qCm E draw (M E draw sum n).ex (M E draw sum n).call (M E draw sum n).round ro (.seq a b) fr st=_;rw[qLH,h];exact h'
theorem qXO {b:Code} {k:Nat} (hl:qCO b=none) (h:Comes ((M E draw sum n).ex ro b) k fr st r) (hk:k≤2 ^ 24) (hr:r.1≠.normal):(M E draw sum (n+1)).ex ro (.loop b) fr st=some r:=by
 show (match qCO b with | some _=>(match qHl E (M E draw sum n).call (M E draw sum n).round (M E draw sum n).ex ro b 1000 fr st with | some (.normal,_,_)=>none | r=>r) | none=>(match qDv ((M E draw sum n).ex ro b) 24 fr st with | some (.normal,_,_)=>none | r=>r))=_;rw[hl];simp only;rw[qO3 h hk hr];obtain⟨e,fr',st'⟩:=r;cases e<;>first | exact absurd rfl hr | rfl
theorem qTh {b:Code} {id:Nat} (h:(M E draw sum n).ex ro b fr st=some (.exit id,fr1,st1)):(M E draw sum (n+1)).ex ro (.block id b) fr st=some (.normal,fr1,st1):=by
 show qCm E draw (M E draw sum n).ex (M E draw sum n).call (M E draw sum n).round ro (.block id b) fr st=_;rw[qIN,h];simp
theorem qXz {f:Nat} {fn:Func} {c:Code} {args:List AV} {v:AV} {st2:ASt} (hs:sum f args st=none) (h1:E.fn.get f=some fn) (h2:fn.body=some c) (h3:Nat.ble args.length fn.ntmps=true)
  (h4:(M E draw sum n).ex none c {m:=qAM args 0 .e,n:=fn.ntmps,defs:=[]} st=some (.ret,fr1,st1)) (h5:leaveA E fn fr1 st1=some (v,st2)) :
  (M E draw sum (n+1)).call f args st=some (v,st2):=by
 show (match sum f args st with | some r=>some r | none=>qFy E (M E draw sum n).ex f args st)=_;rw[hs];simp only[qFy,h1,h2,h3,cond_true,h4,h5]
end
def qSW (l:List (Nat×AV)) (n:Nat) (ds:List Nat):AFr:={m:=l.foldl (fun t p=>t.set 11 p.1 p.2) .e,n:=n,defs:=ds}
def mkSt (l:List (Nat×AO)) (n:Nat):ASt:={h:=l.foldl (fun t p=>t.set D p.1 p.2) .e,next:=n}
def qHY (fp:Nat):CallT:=fun fn args st =>
 bif Nat.beq fp fn then
  match args with
  | [k,.agg [.int .u32 a,.int .u32 b,.int .u32 c,.int .u32 d,.int .u32 e,.int .u32 f,.int .u32 g,.int .u32 h],.slice (some (i,o)) len _] =>
   bif Nat.beq len 64 then
    bif qCx k qGz then
     match st.h.get i with
     | some (.cells cs _) =>
      match qAy cs o 64 with
      | some l =>
       match qEJ l with
       | some bs=>some ((qDF ⟨a,b,c,d,e,f,g,h⟩ bs).av,st)
       | none=>none
      | none=>none
     | _=>none
    else none
   else none
  | _=>none
 else none
theorem qK0 (fp:Nat):qHY fp=qEw fp:=by
 funext fn args st
 simp only[qHY,qEw,S8.force_eq]
 try rfl
def lenB (n:Nat):List Nat:=[n*8 / 2 ^ 56 % 256,n*8 / 2 ^ 48 % 256,n*8 / 2 ^ 40 % 256,n*8 / 2 ^ 32 % 256,n*8 / 2 ^ 24 % 256,n*8 / 2 ^ 16 % 256,n*8 / 2 ^ 8 % 256,n*8 % 256]
def qHb (n:Nat):List Nat:=128::(List.replicate ((119 - n % 64) % 64) 0++lenB n)
def chunks:Nat→List Nat→List (List Nat)
 | 0,_=>[]
 | k+1,l=>l.take 64::chunks k (l.drop 64)
def qPm:S8:=⟨0x6a09e667,0xbb67ae85,0x3c6ef372,0xa54ff53a,0x510e527f,0x9b05688c,0x1f83d9ab,0x5be0cd19⟩
def qMn (bs:List Nat):S8:=(chunks ((bs.length+72) / 64) (bs++qHb bs.length)).foldl qDF qPm
def qUi (w:Int):List AV:=[.int .u8 (qAH .u8 (qCV w 24)),.int .u8 (qAH .u8 (qCV w 16)),.int .u8 (qAH .u8 (qCV w 8)),.int .u8 (qAH .u8 (qCV w 0))]
def qOj (s:S8):AV:=.agg (qUi s.a++(qUi s.b++(qUi s.c++(qUi s.d++(qUi s.e++(qUi s.f++(qUi s.g++qUi s.h)))))))
theorem qKh (s:S8):qEO (qOj s)=true:=rfl
def S8.forceS {α:Type} (s:S8) (k:S8→α):α :=
 match s with
 | ⟨a,b,c,d,e,f,g,h⟩=>qC1 a fun a=>qC1 b fun b=>qC1 c fun c=>qC1 d fun d=>qC1 e fun e=>qC1 f fun f=>qC1 g fun g=>qC1 h fun h=>k ⟨a,b,c,d,e,f,g,h⟩
theorem S8.forceS_eq {α:Type} (s:S8) (k:S8→α):s.forceS k=k s:=by
 obtain⟨a,b,c,d,e,f,g,h⟩:=s;simp only[S8.forceS,qLE]
def qRP:List (List Nat)→S8→S8
 | [],s=>s
 | b::bs,s=>(qDF s b).forceS fun t=>qRP bs t
theorem qKF:∀(l:List (List Nat)) (s:S8),qRP l s=l.foldl qDF s
 | [],_=>rfl
 | b::bs,s=>by simp only[qRP,S8.forceS_eq,List.foldl_cons,qKF bs]
def sumSum (fs:Nat) (ns:List Nat):CallT:=fun fn args st =>
 bif Nat.beq fs fn then
  match args with
  | [.slice (some (i,o)) len _] =>
   bif qCY len ns then
    match st.h.get i with
    | some (.cells cs _) =>
     match qAy cs o len with
     | some l =>
      match qEJ l with
      | some bs=>(qRP (chunks ((bs.length+72) / 64) (bs++qHb bs.length)) qPm).forceS fun s=>some (qOj s,st)
      | none=>none
     | none=>none
    | _=>none
   else none
  | _=>none
 else none
theorem sumSum_ok {P:Program} {E:Env} (hE:E.Ok P) {sum:CallT} (hs:CallsOK P sum) {n fs:Nat} {ns:List Nat} (hpos:qCY 0 ns=false)
  (hrun:∀m,m∈ns→∀(b:Nat→Nat),ans ((M E (drawA E) sum n).call fs [.slice (some (0,0)) m (.atl m)] (stB ((List.range m).map b)))=some (qOj (qMn ((List.range m).map b)))) :
  CallsOK P (sumSum fs ns):=by
 intro B w0 fn args st r h ι w args' hsr hv;unfold sumSum at h;cases hf:Nat.beq fs fn
 ·simp[hf] at h
 simp only[hf,cond_true] at h;have:=qEQ hf;subst this
 split at h
 rotate_left
 ·simp at h
 rename_i i o len cap;cases hm:qCY len ns
 ·simp[hm] at h
 simp only[hm,cond_true] at h
 split at h
 rotate_left
 ·simp at h
 rename_i cs rw hi
 split at h
 rotate_left
 ·simp at h
 rename_i l hl
 split at h
 rotate_left
 ·simp at h
 rename_i bs hbs;rw[S8.forceS_eq,qKF] at h;simp only[qz1] at h;have hll:=(qBQ hl).1;have hb:=qDn hbs;have hlen:bs.length=len:=by rw[hb] at hll;simpa using hll
 have hmem:len∈ns:=by rw[qEb] at hm;simpa using hm
 have hz:bs.length≠0:=fun e=>by
  rw[hlen] at e;subst e;rw[hm] at hpos;cases hpos
 have hbl:bs=(List.range len).map fun j=>bs.getD j 0:=by
  apply List.ext_getElem?;intro j
  by_cases hj:j<len
  ·have hj':j<bs.length:=by omega
   simp[hj,hj']
  ·have hj':¬j<bs.length:=by omega
   simp[hj];omega
 have hr:=hrun len hmem fun j=>bs.getD j 0;rw[←hbl] at hr;have:=qDw (pre:=[]) (bs:=bs) (v:=qOj (qMn bs)) hE hs (n:=n) (f:=fs) hz rfl (qKh _) (by rw[hlen];exact hr) hsr hi (by rw[hlen,hl,hb]) (args':=args') (cap:=cap) (by rw[hlen];exact hv);rw[←h];exact this
inductive Tr (α:Type) where
 | ret (a:Option α)
 | askB (b:Bool) (t f:Tr α)
 | askV (x:Option (AV×ASt)) (k:AV×ASt→Tr α)
 | askE (x:Option (Exit×AFr×ASt)) (k:Exit×AFr×ASt→Tr α)
 | askC (b:Bool) (p:Prop) (h:p→b=true) (t:Tr α)
def Tr.bind {α β:Type} (t:Tr α) (k:α→Tr β):Tr β :=
 @Tr.rec α (fun _=>Tr β) (fun a=>match a with | some a=>k a | none=>.ret none) (fun b _ _ it jf=>.askB b it jf) (fun x _ ih=>.askV x ih) (fun x _ ih=>.askE x ih) (fun b p h _ ih=>.askC b p h ih) t
def Tr.ev {α:Type} (t:Tr α):Option α :=
 @Tr.rec α (fun _=>Option α) (fun a=>a) (fun b _ _ it jf=>bif b then it else jf) (fun x _ ih=>match x with | some y=>ih y | none=>none) (fun x _ ih=>match x with | some y=>ih y | none=>none) (fun b _ _ _ ih=>bif b then ih else none) t
def Tr.all {α:Type} (Q:α→Prop) (t:Tr α):Prop :=
 @Tr.rec α (fun _=>Prop) (fun a=>match a with | some a=>Q a | none=>False) (fun b _ _ it jf=>(b=true→it)∧(b=false→jf))
  (fun x _ ih=>∃y,x=some y∧ih y) (fun x _ ih=>∃y,x=some y∧ih y) (fun _ p _ _ ih=>p∧ih) t
theorem Tr.all_ev {α:Type} {Q:α→Prop} (t:Tr α) (h:t.all Q):∃a,t.ev=some a∧Q a:=by
 induction t with
 | ret a=>cases a with
  | some a=>exact⟨a,rfl,h⟩
  | none=>exact h.elim
 | askB b t f it jf=>cases b with
  | true=>exact it (h.1 rfl)
  | false=>exact jf (h.2 rfl)
 | askV x k ih=>obtain⟨y,rfl,h⟩:=h;exact ih y h
 | askE x k ih=>obtain⟨y,rfl,h⟩:=h;exact ih y h
 | askC b p hp t ih =>
  have hb:=hp h.1;subst hb;exact ih h.2
theorem Tr.bind_ev {α β:Type} (t:Tr α) (k:α→Tr β):(t.bind k).ev=match t.ev with | some a=>(k a).ev | none=>none:=by
 induction t with
 | ret a=>cases a<;>rfl
 | askB b t f it jf=>cases b with
  | true=>exact it
  | false=>exact jf
 | askV x f ih=>cases x with
  | some y=>exact ih y
  | none=>rfl
 | askE x f ih=>cases x with
  | some y=>exact ih y
  | none=>rfl
 | askC b p hp t ih=>cases b with
  | true=>exact ih
  | false=>rfl
structure Fl where
 v:List Nat
 c:List Nat
 b:List Nat
 l:List Nat
def q1H:List (Nat×Fl)→Nat→Option Fl
 | [],_=>none
 | x::xs,f=>bif Nat.beq x.1 f then some x.2 else q1H xs f
def qIj (l:List Nat):Option Nat→Bool
 | some d=>qCY d l
 | none=>qCY 4095 l
abbrev qGx:=FuncId→List AV→ASt→Tr (AV×ASt)
abbrev qJG:=Option Nat→Code→AFr→ASt→Tr (Exit×AFr×ASt)
def qTK (fl:Fl) (o:Oper):Bool:=qIj fl.v o.dst || (qIj fl.c o.dst || qIj fl.b o.dst)
def q0c (x:Option (AV×ASt)):Tr (AV×ASt) :=
 match x with
 | some (.bool b,st)=>.askB b (.ret (some (.bool true,st))) (.ret (some (.bool false,st)))
 | r=>.ret r
theorem qRo (x:Option (AV×ASt)):(q0c x).ev=x:=by
 unfold q0c
 split
 ·rename_i b st;cases b<;>rfl
 ·rfl
def qSJ (E:Env) (call:CallT) (round:CallT) (callT roundT:qGx) (o:Oper) (fr:AFr) (st:ASt):Tr (AV×ASt) :=
 match o.op with
 | .call c =>
  match evL fr c.args.toList with
  | none=>.ret none
  | some args =>
   match c.callee with
   | .value f =>
    match evA fr f with
    | some (.clos g caps) =>
     match E.ex.get g with
     | some x=>.ret (still st (x (args++caps)))
     | none=>callT g (args++caps) st
    | some (.bound g fs caps)=>callT g (fs++args++caps) st
    | some (.yield l)=>roundT l args st
    | _=>.ret none
   | _=>.ret (aOp E call round o fr st)
 | _=>.ret (aOp E call round o fr st)
def goT (E:Env) (call:CallT) (round:CallT) (callT roundT:qGx) (fl:Fl) (o:Oper) (fr:AFr) (st:ASt):Tr (AV×ASt) :=
 bif qIj fl.v o.dst then .askV (aOp E call round o fr st) (fun y=>bif qIj fl.b o.dst then q0c (some y) else .ret (some y))
 else bif qIj fl.c o.dst then qSJ E call round callT roundT o fr st
 else bif qIj fl.b o.dst then q0c (aOp E call round o fr st)
 else .ret (aOp E call round o fr st)
def stepT (E:Env) (call:CallT) (round:CallT) (callT roundT:qGx) (fl:Fl) (ops:List Oper) (o:Oper) (fr:AFr) (st:ASt):Tr (AV×ASt) :=
 bif qBZ ops fr o then .ret none else
 bif qAt ops fr o then goT E call round callT roundT fl o fr st else .ret (some (qAC,st))
section
variable {E:Env} {call round:CallT} {callT roundT:qGx}
theorem qZu (hc:∀f a s,(callT f a s).ev=call f a s) (hr:∀f a s,(roundT f a s).ev=round f a s) (fl:Fl) (o:Oper) (fr:AFr) (st:ASt):(goT E call round callT roundT fl o fr st).ev=aOp E call round o fr st:=by
 unfold goT;cases qIj fl.v o.dst
 ·cases qIj fl.c o.dst
  ·cases qIj fl.b o.dst
   ·rfl
   ·exact qRo _
  ·show (qSJ E call round callT roundT o fr st).ev=_;unfold qSJ
   split
   ·rename_i c ho;have e:aOp E call round o fr st=qLY E call round c fr st:=by unfold aOp;rw[ho]
    rw[e];unfold qLY;cases ha:evL fr c.args.toList with
    | none=>rfl
    | some args =>
     simp only;cases hf:c.callee with
     | builtin b =>
      simp only[Tr.ev]
     | invoke r m =>
      simp only[Tr.ev]
     | value f =>
      simp only;cases hv:evA fr f with
      | none=>rfl
      | some v =>
       cases v with
       | clos g caps =>
        simp only;cases E.ex.get g with
        | some x=>rfl
        | none=>exact hc _ _ _
       | bound g fs caps=>exact hc _ _ _
       | yield l=>exact hr _ _ _
       | _=>rfl
   ·rfl
 ·show (match aOp E call round o fr st with | some y=>(bif qIj fl.b o.dst then q0c (some y) else Tr.ret (some y)).ev | none=>none)=_;cases aOp E call round o fr st with
  | none=>rfl
  | some y =>
   cases qIj fl.b o.dst
   ·rfl
   ·exact qRo (some y)
theorem qJZ (hc:∀f a s,(callT f a s).ev=call f a s) (hr:∀f a s,(roundT f a s).ev=round f a s) (fl:Fl) (ops:List Oper) (o:Oper) (fr:AFr) (st:ASt) :
  (stepT E call round callT roundT fl ops o fr st).ev=qBm E call round ops o fr st:=by
 unfold stepT qBm;cases qBZ ops fr o
 ·simp only[cond_false];cases qAt ops fr o
  ·rfl
  ·exact qZu hc hr fl o fr st
 ·rfl
end
def q0s (s:Oper→AFr→ASt→Tr (AV×ASt)):List Oper→AFr→ASt→Tr (AFr×ASt)
 | [],fr,st=>.ret (some (fr,st))
 | o::os,fr,st=>(s o fr st).bind fun r=>match fr.put o.dst r.1 with | some fr'=>q0s s os fr' r.2 | none=>.ret none
theorem qQF {E:Env} {call round:CallT} {ops:List Oper} {s:Oper→AFr→ASt→Tr (AV×ASt)} (hs:∀o fr st,(s o fr st).ev=qBm E call round ops o fr st) :
  ∀(l:List Oper) (fr:AFr) (st:ASt),(q0s s l fr st).ev=qOi (step E call round ops) l fr st
 | [],fr,st=>rfl
 | o::os,fr,st=>by
  simp only[q0s,qOi,Tr.bind_ev,hs,step];cases qBm E call round ops o fr st with
  | none=>rfl
  | some r =>
   obtain⟨v,st'⟩:=r;simp only;cases fr.put o.dst v with
   | none=>rfl
   | some fr'=>exact qQF hs os fr' st'
def qKc (E:Env) (s:Oper→AFr→ASt→Tr (AV×ASt)) (wd:AFr→Oper→Bool) (nb:Nat) (bs:List Nat):List Oper→Nat→List (Nat×AO)→Nat→AFr→ASt→Tr (List Rec×AFr×Nat×ASt)
 | [],_,_,g,fr,st=>.ret (some ([],fr,g,st))
 | o::os,i,fs,g,fr,st =>
  bif qCe E o then
   bif wd fr o then
    match qFf E o fr with
    | none=>.ret none
    | some x =>
     match fr.put o.dst (x.2.val (nb+i)) with
     | none=>.ret none
     | some fr'=>(qKc E s wd nb bs os (i+1) (fs++[(i,x.1)]) g fr' st).bind fun z=>.ret (some (⟨o,fr,x.2.val (nb+i),none,some x.1⟩::z.1,z.2))
   else
    match fr.put o.dst qAC with
    | none=>.ret none
    | some fr'=>(qKc E s wd nb bs os (i+1) fs g fr' st).bind fun z=>.ret (some (⟨o,fr,qAC,none,none⟩::z.1,z.2))
  else
   (s o fr (qD3 nb (qm (bs.getD i 0) g) fs st)).bind fun r =>
    match fr.put o.dst r.1 with
    | none=>.ret none
    | some fr' =>
     bif qBS E o then
      (qKc E s wd nb bs os (i+1) fs g fr' st).bind fun z=>.ret (some (⟨o,fr,r.1,none,none⟩::z.1,z.2))
     else bif Nat.beq (Nat.land g (bs.getD i 0)) g then
      (qKc E s wd nb bs os (i+1) fs (bs.getD i 0) fr' r.2).bind fun z=>.ret (some (⟨o,fr,r.1,some r.2,none⟩::z.1,z.2))
     else .ret none
theorem qEy {E:Env} {f:Oper→AFr→ASt→Option (AV×ASt)} {s:Oper→AFr→ASt→Tr (AV×ASt)} (hs:∀o fr st,(s o fr st).ev=f o fr st) (wd:AFr→Oper→Bool) (nb:Nat) (bs:List Nat) :
  ∀(l:List Oper) (i:Nat) (fs:List (Nat×AO)) (g:Nat) (fr:AFr) (st:ASt),(qKc E s wd nb bs l i fs g fr st).ev=qI0 E f wd nb bs l i fs g fr st
 | [],i,fs,g,fr,st=>rfl
 | o::os,i,fs,g,fr,st=>by
  simp only[qKc,qI0];cases qCe E o
  ·simp only[cond_false,Tr.bind_ev,hs];cases f o fr (qD3 nb (qm (bs.getD i 0) g) fs st) with
   | none=>rfl
   | some r =>
    obtain⟨v,st'⟩:=r;simp only;cases fr.put o.dst v with
    | none=>rfl
    | some fr' =>
     simp only;cases qBS E o
     ·simp only[cond_false];cases Nat.beq (Nat.land g (bs.getD i 0)) g
      ·rfl
      ·simp only[cond_true,Tr.bind_ev,qEy hs wd nb bs os];cases qI0 E f wd nb bs os (i+1) fs (bs.getD i 0) fr' st' with
       | none=>rfl
       | some z=>rfl
     ·simp only[cond_true,Tr.bind_ev,qEy hs wd nb bs os];cases qI0 E f wd nb bs os (i+1) fs g fr' st with
      | none=>rfl
      | some z=>rfl
  ·simp only[cond_true];cases wd fr o
   ·simp only[cond_false];cases fr.put o.dst qAC with
    | none=>rfl
    | some fr' =>
     simp only[Tr.bind_ev,qEy hs wd nb bs os];cases qI0 E f wd nb bs os (i+1) fs g fr' st with
     | none=>rfl
     | some z=>rfl
   ·simp only[cond_true];cases qFf E o fr with
    | none=>rfl
    | some x =>
     simp only;cases fr.put o.dst (x.2.val (nb+i)) with
     | none=>rfl
     | some fr' =>
      simp only[Tr.bind_ev,qEy hs wd nb bs os];cases qI0 E f wd nb bs os (i+1) (fs++[(i,x.1)]) g fr' st with
      | none=>rfl
      | some z=>rfl
def reO (f:Oper→AFr→ASt→Option (AV×ASt)) (r:Rec) (s:ASt):Option AV×AV:=(match f r.o r.fr s with | some (v,_)=>some v | none=>none,r.v)
def qY2 (f:Oper→AFr→ASt→Option (AV×ASt)) (nb:Nat) (fs:List (Nat×AO)) (i m:Nat) (r:Rec) (H:List Hv):List Hv→List (Option AV×AV)
 | []=>[]
 | g::gs=>bif qOF H i m g then qY2 f nb fs i m r H gs else reO f r (qD3 nb (qm m g.m) fs g.s)::qY2 f nb fs i m r H gs
def qUp (E:Env) (f:Oper→AFr→ASt→Option (AV×ASt)) (nb:Nat) (fs:List (Nat×AO)) (H:List Hv) (s0:ASt) (i m:Nat) (r:Rec):List (Option AV×AV) :=
 match r.hs with
 | some _=>[]
 | none =>
  bif qCe E r.o then [] else
  bif qGp E r.o then [] else
  bif qLq H i m then qY2 f nb fs i m r H H else reO f r (qD3 nb (qm m 0) fs s0)::qY2 f nb fs i m r H H
def appO:List (Option AV×AV)→List (Option AV×AV)→List (Option AV×AV)
 | [],l=>l
 | x::xs,l=>x::appO xs l
def qJf (E:Env) (f:Oper→AFr→ASt→Option (AV×ASt)) (nb:Nat) (fs:List (Nat×AO)) (H:List Hv) (s0:ASt) (bs:List Nat):List Rec→Nat→List (Option AV×AV)
 | [],_=>[]
 | r::rs,i=>appO (qUp E f nb fs H s0 i (bs.getD i 0) r) (qJf E f nb fs H s0 bs rs (i+1))
def qAh:List (Option AV×AV)→Prop
 | []=>True
 | x::xs=>(x.1=some x.2∧qCx x.2 x.2=true)∧qAh xs
theorem qIs:∀{a b:List (Option AV×AV)},qAh (appO a b)→qAh a∧qAh b
 | [],_,h=>⟨trivial,h⟩
 | _::xs,b,h=>let ⟨h1,h2⟩:=qIs (a:=xs) (b:=b) h.2;⟨⟨h.1,h1⟩,h2⟩
theorem qUg {f:Oper→AFr→ASt→Option (AV×ASt)} {r:Rec} {s:ASt} (h:(reO f r s).1=some (reO f r s).2∧qCx (reO f r s).2 (reO f r s).2=true):qTB f r s=true:=by
 unfold reO at h;unfold qTB;simp only at h;cases hq:f r.o r.fr s with
 | none=>rw[hq] at h;cases h.1
 | some p =>
  obtain⟨v,st⟩:=p;rw[hq] at h;simp only[qz1] at h;simp only;rw[h.1];exact h.2
theorem qJg {f:Oper→AFr→ASt→Option (AV×ASt)} {nb:Nat} {fs:List (Nat×AO)} {i m:Nat} {r:Rec} {H:List Hv}:∀(G:List Hv),qAh (qY2 f nb fs i m r H G)→(G.all fun g=>bif qOF H i m g then true else qTB f r (qD3 nb (qm m g.m) fs g.s))=true
 | [],_=>rfl
 | g::gs,h=>by
  simp only[List.all_cons,Bool.and_eq_true];unfold qY2 at h;cases hk:qOF H i m g
  ·rw[hk,cond_false] at h;exact⟨qUg h.1,qJg gs h.2⟩
  ·rw[hk,cond_true] at h;exact⟨rfl,qJg gs h⟩
theorem qIg {E:Env} {f:Oper→AFr→ASt→Option (AV×ASt)} {nb:Nat} {fs:List (Nat×AO)} {H:List Hv} {s0:ASt} {bs:List Nat}:∀(rs:List Rec) (i:Nat),qAh (qJf E f nb fs H s0 bs rs i)→qDU E f nb fs H s0 bs rs i=true
 | [],_,_=>rfl
 | r::rs,i,h=>by
  unfold qJf at h;obtain⟨h1,h2⟩:=qIs h;unfold qDU;have h3:qOL E f nb fs H s0 i (bs.getD i 0) r=true:=by
   unfold qUp at h1;unfold qOL
   split
   ·rfl
   ·rename_i hn;rw[hn] at h1;simp only at h1;cases hf:qCe E r.o
    ·rw[hf,cond_false] at h1;cases hp:qGp E r.o
     ·rw[hp,cond_false] at h1;simp only[cond_false];cases hk:qLq H i (bs.getD i 0)
      ·rw[hk,cond_false] at h1;simp only[cond_false];rw[qUg h1.1,cond_true];exact qJg H h1.2
      ·rw[hk,cond_true] at h1;simp only[cond_true];exact qJg H h1
     ·rfl
    ·rfl
  rw[h3,cond_true];exact qIg rs (i+1) h2
def qYV {α:Type} (E:Env) (f:Oper→AFr→ASt→Option (AV×ASt)) (nb:Nat) (fs:List (Nat×AO)) (H:List Hv) (s0:ASt) (bs:List Nat) (rs:List Rec) (a:α):Tr α :=
 .askC (qDU E f nb fs H s0 bs rs 0) (qAh (qJf E f nb fs H s0 bs rs 0)) (qIg rs 0) (.ret (some a))
theorem qJH {α:Type} {E:Env} {f:Oper→AFr→ASt→Option (AV×ASt)} {nb:Nat} {fs:List (Nat×AO)} {H:List Hv} {s0:ASt} {bs:List Nat} {rs:List Rec} (a:α) :
 (qYV E f nb fs H s0 bs rs a).ev=bif qDU E f nb fs H s0 bs rs 0 then some a else none:=rfl
def qTo (E:Env) (f:Oper→AFr→ASt→Option (AV×ASt)) (s:Oper→AFr→ASt→Tr (AV×ASt)) (ops:List Oper) (fr:AFr) (st:ASt):Tr (AFr×ASt) :=
 bif okS E ops then
  force (st.next+ops.length) fun nx =>
  (qKc E s (fun fr o=>qAt ops fr o) st.next (qA2 ops) ops 0 [] 0 fr {h:=st.h,next:=nx}).bind fun z =>
   match z with
   | (rs,fr',g,st') =>
    match qBH rs 0 with
    | [] =>
     (match qAr rs (qA2 ops) 0 with
     | []=>.ret (some (fr',st'))
     | H=>qYV E f st.next [] H {h:=st.h,next:=nx} (qA2 ops) rs (fr',st'))
    | fs =>
     (match qAr rs (qA2 ops) 0 with
     | []=>.ret (some (fr',qD3 st.next (fun p=>Bool.not (bit g p)) fs st'))
     | H=>bif qC4 st.next fs H then qYV E f st.next fs H {h:=st.h,next:=nx} (qA2 ops) rs (fr',qD3 st.next (fun p=>Bool.not (bit g p)) fs st') else .ret none)
 else .ret none
theorem qTn {E:Env} {f:Oper→AFr→ASt→Option (AV×ASt)} {s:Oper→AFr→ASt→Tr (AV×ASt)} (hs:∀o fr st,(s o fr st).ev=f o fr st) (ops:List Oper) (fr:AFr) (st:ASt) :
  (qTo E f s ops fr st).ev=drawA E f ops fr st:=by
 unfold qTo drawA;cases okS E ops
 ·rfl
 ·simp only[cond_true,force_eq,Tr.bind_ev,qEy hs];cases qI0 E f (fun fr o=>qAt ops fr o) st.next (qA2 ops) ops 0 [] 0 fr {h:=st.h,next:=st.next+ops.length} with
  | none=>rfl
  | some z =>
   obtain⟨rs,fr',g,st'⟩:=z;simp only;cases qBH rs 0 with
   | nil =>
    simp only;cases qAr rs (qA2 ops) 0 with
    | nil=>rfl
    | cons a l=>exact qJH _
   | cons x fs =>
    simp only;cases qAr rs (qA2 ops) 0 with
    | nil=>rfl
    | cons a l =>
     simp only;cases qC4 st.next (x::fs) (a::l)
     ·rfl
     ·exact qJH _
def qWH (nb:Nat):List (Nat×AO)→Hv→Prop
 | [],_=>True
 | x::fs,g=>(bif bit g.m x.1 then True else g.s.h.get (nb+x.1)=none)∧qWH nb fs g
def qPj (nb:Nat) (fs:List (Nat×AO)):List Hv→Prop
 | []=>True
 | g::gs=>qWH nb fs g∧qPj nb fs gs
theorem qMs {nb:Nat} {g:Hv}:∀{fs:List (Nat×AO)},qWH nb fs g→(fs.all fun x=>bif bit g.m x.1 then true else isNone (g.s.h.get (nb+x.1)))=true
 | [],_=>rfl
 | x::fs,h=>by
  have h2:=qMs (fs:=fs) h.2;have h1:=h.1;rw[List.all_cons,h2,Bool.and_true];cases hb:bit g.m x.1
  ·rw[hb,cond_false] at h1;rw[cond_false,h1];rfl
  ·rfl
theorem qK2 {nb:Nat} {fs:List (Nat×AO)}:∀{H:List Hv},qPj nb fs H→qC4 nb fs H=true
 | [],_=>rfl
 | g::gs,h=>by
  have h2:=qK2 (H:=gs) h.2;unfold qC4 at h2 ⊢;rw[List.all_cons,h2,Bool.and_true];exact qMs h.1
def qNn (E:Env) (f:Oper→AFr→ASt→Option (AV×ASt)) (s:Oper→AFr→ASt→Tr (AV×ASt)) (ops:List Oper) (fr:AFr) (st:ASt):Tr (AFr×ASt) :=
 bif okS E ops then
  (qKc E s (fun fr o=>qAt ops fr o) st.next (qA2 ops) ops 0 [] 0 fr {h:=st.h,next:=st.next+ops.length}).bind fun z =>
   match z with
   | (rs,fr',g,st') =>
    match qBH rs 0 with
    | [] =>
     (match qAr rs (qA2 ops) 0 with
     | []=>.ret (some (fr',st'))
     | H=>qYV E f st.next [] H {h:=st.h,next:=st.next+ops.length} (qA2 ops) rs (fr',st'))
    | fs =>
     (match qAr rs (qA2 ops) 0 with
     | []=>.ret (some (fr',qD3 st.next (fun p=>Bool.not (bit g p)) fs st'))
     | H=>.askC (qC4 st.next fs H) (qPj st.next fs H) qK2 (qYV E f st.next fs H {h:=st.h,next:=st.next+ops.length} (qA2 ops) rs (fr',qD3 st.next (fun p=>Bool.not (bit g p)) fs st')))
 else .ret none
theorem qR8 {E:Env} {f:Oper→AFr→ASt→Option (AV×ASt)} {s:Oper→AFr→ASt→Tr (AV×ASt)} (hs:∀o fr st,(s o fr st).ev=f o fr st) (ops:List Oper) (fr:AFr) (st:ASt) :
  (qNn E f s ops fr st).ev=drawA E f ops fr st:=by
 unfold qNn drawA;cases okS E ops
 ·rfl
 ·simp only[cond_true,force_eq,Tr.bind_ev,qEy hs];cases qI0 E f (fun fr o=>qAt ops fr o) st.next (qA2 ops) ops 0 [] 0 fr {h:=st.h,next:=st.next+ops.length} with
  | none=>rfl
  | some z =>
   obtain⟨rs,fr',g,st'⟩:=z;simp only;cases qBH rs 0 with
   | nil =>
    simp only;cases qAr rs (qA2 ops) 0 with
    | nil=>rfl
    | cons a l=>exact qJH _
   | cons x fs =>
    simp only;cases qAr rs (qA2 ops) 0 with
    | nil=>rfl
    | cons a l =>
     simp only;show (bif qC4 st.next (x::fs) (a::l) then (qYV E f st.next (x::fs) (a::l) {h:=st.h,next:=st.next+ops.length} (qA2 ops) rs (fr',qD3 st.next (fun p=>Bool.not (bit g p)) (x::fs) st')).ev else none)=_;cases qC4 st.next (x::fs) (a::l)
     ·rfl
     ·exact qJH _
def qQ8 (f:AFr→ASt→Tr (Exit×AFr×ASt)):Nat→AFr→ASt→Tr (Exit×AFr×ASt)
 | 0,fr,st=>f fr st
 | d+1,fr,st=>(qQ8 f d fr st).bind fun r=>match r with | (.normal,fr',st')=>qQ8 f d fr' st' | r=>.ret (some r)
theorem qJn {f:AFr→ASt→Option (Exit×AFr×ASt)} {g:AFr→ASt→Tr (Exit×AFr×ASt)} (h:∀fr st,(g fr st).ev=f fr st):∀(d:Nat) (fr:AFr) (st:ASt),(qQ8 g d fr st).ev=qDv f d fr st
 | 0,fr,st=>h fr st
 | d+1,fr,st=>by
  simp only[qQ8,qDv,Tr.bind_ev,qJn h d];cases qDv f d fr st with
  | none=>rfl
  | some r =>
   obtain⟨e,fr',st'⟩:=r;cases e<;>first | exact qJn h d fr' st' | rfl
def qNr (E:Env) (ex:qJG):qGx:=fun f args st =>
 match E.fn.get f with
 | none=>.ret none
 | some fn =>
  match fn.body with
  | none=>.ret none
  | some c =>
   bif Nat.ble args.length fn.ntmps then
    (ex none c {m:=qAM args 0 .e,n:=fn.ntmps,defs:=[]} st).bind fun r =>
     match r with
     | (.normal,fr,st')=>.ret (leaveA E fn fr st')
     | (.ret,fr,st')=>.ret (leaveA E fn fr st')
     | _=>.ret none
   else .ret none
theorem qRe {E:Env} {ex:qCy} {exT:qJG} (h:∀ro c fr st,(exT ro c fr st).ev=ex ro c fr st) (f:FuncId) (args:List AV) (st:ASt):(qNr E exT f args st).ev=qFy E ex f args st:=by
 unfold qNr qFy;cases E.fn.get f with
 | none=>rfl
 | some fn =>
  simp only;cases fn.body with
  | none=>rfl
  | some c =>
   simp only;cases Nat.ble args.length fn.ntmps
   ·rfl
   ·simp only[cond_true,Tr.bind_ev,h];cases ex none c {m:=qAM args 0 .e,n:=fn.ntmps,defs:=[]} st with
    | none=>rfl
    | some r =>
     obtain⟨e,fr',st'⟩:=r;cases e<;>rfl
def qLs (ex:qJG):qGx:=fun l args st =>
 match st.h.get l with
 | some (.loop _ _ tm ps as bo _) =>
  match qJ2 ps args {tm with defs:=[]} with
  | none=>.ret none
  | some fr =>
   (ex (some l) as fr st).bind fun r =>
   match r with
   | (.normal,fr1,st1) =>
    match st1.h.get l with
    | some (.loop .ready pe tm1 ps1 as1 bo1 de1) =>
     (ex (some l) bo fr1 (st1.put l (.loop .busy pe tm1 ps1 as1 bo1 de1))).bind fun r =>
     match r with
     | (.normal,_,st2)=>.ret (qR4 l none st2)
     | (.ret,_,st2)=>.ret (qR4 l (some .ret) st2)
     | (.exit id,_,st2)=>.ret (qR4 l (some (.exit id)) st2)
     | (.goto t,_,st2)=>.ret (qR4 l (some (.goto t)) st2)
     | _=>.ret none
    | _=>.ret none
   | _=>.ret none
 | _=>.ret none
theorem qOJ {ex:qCy} {exT:qJG} (h:∀ro c fr st,(exT ro c fr st).ev=ex ro c fr st) (l:FuncId) (args:List AV) (st:ASt):(qLs exT l args st).ev=qH6 ex l args st:=by
 unfold qLs qH6;cases hl:st.h.get l with
 | none=>rfl
 | some x =>
  cases x<;>simp only<;>first | rfl | skip;rename_i s0 pe0 tm ps as bo de0;cases qJ2 ps args {tm with defs:=[]} with
  | none=>rfl
  | some fr =>
   simp only[Tr.bind_ev,h];cases ex (some l) as fr st with
   | none=>rfl
   | some r =>
    obtain⟨e,fr1,st1⟩:=r;cases e<;>simp only<;>first | rfl | skip;cases st1.h.get l with
    | none=>rfl
    | some y =>
     cases y with
     | loop s pe tm1 ps1 as1 bo1 de1 =>
      cases s with
      | ready =>
       simp only[Tr.bind_ev,h];cases ex (some l) bo fr1 (st1.put l (.loop .busy pe tm1 ps1 as1 bo1 de1)) with
       | none=>rfl
       | some r =>
        obtain⟨e,fr2,st2⟩:=r;cases e<;>rfl
      | _=>rfl
     | _=>rfl
def qMx (ex:Code→AFr→ASt→Tr (Exit×AFr×ASt)) (c:Code):Nat→Exit×AFr×ASt→Tr (Exit×AFr×ASt)
 | 0,r =>
  match r with
  | (.goto l,fr,st)=>(match findLabel c l with | some _=>.ret none | none=>.ret (some (.goto l,fr,st)))
  | r=>.ret (some r)
 | d+1,r =>
  match r with
  | (.goto l,fr,st)=>(match findLabel c l with | some rest=>(ex rest fr st).bind (qMx ex c d) | none=>.ret (some (.goto l,fr,st)))
  | r=>.ret (some r)
theorem qK8 {exT:Code→AFr→ASt→Tr (Exit×AFr×ASt)} {ex:Code→AFr→ASt→Option (Exit×AFr×ASt)} (h:∀c fr st,(exT c fr st).ev=ex c fr st) (c:Code) :
  ∀d r,(qMx exT c d r).ev=qEG ex c d (some r)
 | 0,(e,fr,st)=>by
  cases e<;>first | rfl | skip;rename_i l;show (match findLabel c l with | some _=>Tr.ret none | none=>Tr.ret (some (Exit.goto l,fr,st))).ev=(match findLabel c l with | some _=>none | none=>some (Exit.goto l,fr,st));cases findLabel c l<;>rfl
 | d+1,(e,fr,st)=>by
  cases e<;>first | rfl | skip;rename_i l;show (match findLabel c l with | some rest=>(exT rest fr st).bind (qMx exT c d) | none=>Tr.ret (some (Exit.goto l,fr,st))).ev=(match findLabel c l with | some rest=>qEG ex c d (ex rest fr st) | none=>some (Exit.goto l,fr,st));cases findLabel c l with
  | none=>rfl
  | some rest =>
   simp only[Tr.bind_ev,h];cases ex rest fr st with
   | none=>exact (qFU _ _ d).symm
   | some r=>exact qK8 h c d r
structure TMach where
 ex:Fl→qJG
 call:qGx
 round:qGx
def qXN (E:Env) (m:Mach) (t:TMach) (fl:Fl):qJG:=fun ro c fr st =>
 match c with
 | .region _ ops false =>
  bif ops.toList.any (qTK fl) then
   (q0s (stepT E m.call m.round t.call t.round fl ops.toList) ops.toList fr st).bind fun r=>.ret (some (.normal,r.1,r.2))
  else .ret (qCm E (drawA E) m.ex m.call m.round ro c fr st)
 | .region _ ops true =>
  bif ops.toList.any (qTK fl) then
   (bif qCY 4094 fl.v then qNn E (qBm E m.call m.round ops.toList) (stepT E m.call m.round t.call t.round fl ops.toList) ops.toList fr st else qTo E (qBm E m.call m.round ops.toList) (stepT E m.call m.round t.call t.round fl ops.toList) ops.toList fr st).bind fun r=>.ret (some (.normal,r.1,r.2))
  else .ret (qCm E (drawA E) m.ex m.call m.round ro c fr st)
 | .seq a b=>(t.ex fl ro a fr st).bind fun r=>match r with | (.normal,fr',st')=>t.ex fl ro b fr' st' | r=>.ret (some r)
 | .cond x tc ec =>
  match evA fr x with
  | some (.bool v)=>bif v then t.ex fl ro tc fr st else t.ex fl ro ec fr st
  | _=>.ret none
 | .block id body =>
  bif qCY id fl.l then .askE (qCm E (drawA E) m.ex m.call m.round ro (.block id body) fr st) (fun r=>.ret (some r)) else
  (t.ex fl ro body fr st).bind fun r =>
   match r with
   | (.exit i,fr',st')=>bif Nat.beq i id then .ret (some (.normal,fr',st')) else .ret (some (.exit i,fr',st'))
   | r=>.ret (some r)
 | .loop body =>
  match qCO body with
  | some _=>.ret (qCm E (drawA E) m.ex m.call m.round ro (.loop body) fr st)
  | none=>(qQ8 (t.ex fl ro body) 24 fr st).bind fun r=>match r with | (.normal,_,_)=>.ret none | r=>.ret (some r)
 | .scope body=>(t.ex fl ro body fr st).bind (qMx (t.ex fl ro) body 8)
 | c=>.ret (qCm E (drawA E) m.ex m.call m.round ro c fr st)
def TM (E:Env) (sum:CallT) (fls:List (Nat×Fl)) (rf:Fl):Nat→TMach
 | 0=>{ex:=fun _ _ _ _ _=>.ret none,call:=fun _ _ _=>.ret none,round:=fun _ _ _=>.ret none}
 | n+1 =>
  let m:=M E (drawA E) sum n
  let t:=TM E sum fls rf n
  {ex:=qXN E m t,
   call:=fun f args st=>match q1H fls f with | none=>.ret ((M E (drawA E) sum (n+1)).call f args st) | some fl=>(match sum f args st with | some r=>.ret (some r) | none=>qNr E (t.ex fl) f args st),
   round:=qLs (t.ex rf)}
theorem qTf {E:Env} {m:Mach} {t:TMach} (hx:∀fl ro c fr st,(t.ex fl ro c fr st).ev=m.ex ro c fr st) (hc:∀f a s,(t.call f a s).ev=m.call f a s) (hr:∀f a s,(t.round f a s).ev=m.round f a s)
  (fl:Fl) (ro:Option Nat) (c:Code) (fr:AFr) (st:ASt):(qXN E m t fl ro c fr st).ev=qCm E (drawA E) m.ex m.call m.round ro c fr st:=by
 unfold qXN
 split
 ·rename_i id ops;cases ops.toList.any (qTK fl)
  ·rfl
  ·simp only[cond_true,Tr.bind_ev,qQF (qJZ hc hr fl ops.toList)];show _=(match qOi (step E m.call m.round ops.toList) ops.toList fr st with | some (fr',st')=>some (Exit.normal,fr',st') | none=>none);cases qOi (step E m.call m.round ops.toList) ops.toList fr st<;>rfl
 ·rename_i id ops;cases ops.toList.any (qTK fl)
  ·rfl
  ·have hd:(bif qCY 4094 fl.v then qNn E (qBm E m.call m.round ops.toList) (stepT E m.call m.round t.call t.round fl ops.toList) ops.toList fr st else qTo E (qBm E m.call m.round ops.toList) (stepT E m.call m.round t.call t.round fl ops.toList) ops.toList fr st).ev=drawA E (qBm E m.call m.round ops.toList) ops.toList fr st:=by
    cases qCY 4094 fl.v
    ·exact qTn (qJZ hc hr fl ops.toList) ops.toList fr st
    ·exact qR8 (qJZ hc hr fl ops.toList) ops.toList fr st
   simp only[cond_true,Tr.bind_ev,hd];show _=(match drawA E (qBm E m.call m.round ops.toList) ops.toList fr st with | some (fr',st')=>some (Exit.normal,fr',st') | none=>none);cases drawA E (qBm E m.call m.round ops.toList) ops.toList fr st<;>rfl
 ·rename_i a b;simp only[Tr.bind_ev,hx];show _=(match m.ex ro a fr st with | some (.normal,fr',st')=>m.ex ro b fr' st' | r=>r);cases m.ex ro a fr st with
  | none=>rfl
  | some r =>
   obtain⟨e,fr',st'⟩:=r;cases e<;>first | exact hx _ _ _ _ _ | rfl
 ·rename_i x tc ec;show _=(match evA fr x with | some (.bool v)=>bif v then m.ex ro tc fr st else m.ex ro ec fr st | _=>none);cases evA fr x with
  | none=>rfl
  | some v =>
   cases v<;>simp only<;>first | rfl | skip;rename_i v;cases v<;>exact hx _ _ _ _ _
 ·rename_i id body;cases qCY id fl.l
  ·simp only[cond_false,Tr.bind_ev,hx];show _=(match m.ex ro body fr st with | some (Exit.exit i,fr',st')=>bif Nat.beq i id then some (Exit.normal,fr',st') else some (Exit.exit i,fr',st') | r=>r);cases m.ex ro body fr st with
   | none=>rfl
   | some r =>
    obtain⟨e,fr',st'⟩:=r;cases e<;>simp only<;>first | rfl | skip;rename_i i;cases Nat.beq i id<;>rfl
  ·simp only[cond_true];show (match qCm E (drawA E) m.ex m.call m.round ro (.block id body) fr st with | some y=>(Tr.ret (some y)).ev | none=>none)=_;cases qCm E (drawA E) m.ex m.call m.round ro (.block id body) fr st<;>rfl
 ·rename_i body
  split
  ·rfl
  ·rename_i hn;simp only[Tr.bind_ev,qJn (fun fr st=>hx fl ro body fr st)];show _=(match qCO body with | some _=>(match qHl E m.call m.round m.ex ro body 1000 fr st with | some (.normal,_,_)=>none | r=>r) | none=>(match qDv (m.ex ro body) 24 fr st with | some (.normal,_,_)=>none | r=>r));rw[hn];simp only;cases qDv (m.ex ro body) 24 fr st with
   | none=>rfl
   | some r =>
    obtain⟨e,fr',st'⟩:=r;cases e<;>rfl
 ·rename_i body;simp only[Tr.bind_ev,hx];show _=qEG (m.ex ro) body 8 (m.ex ro body fr st);cases m.ex ro body fr st with
  | none=>rfl
  | some r=>exact qK8 (fun c fr st=>hx fl ro c fr st) body 8 r
 ·rfl
theorem qYT (E:Env) (sum:CallT) (fls:List (Nat×Fl)) (rf:Fl):∀n,(∀fl ro c fr st,((TM E sum fls rf n).ex fl ro c fr st).ev=(M E (drawA E) sum n).ex ro c fr st) ∧
  (∀f a s,((TM E sum fls rf n).call f a s).ev=(M E (drawA E) sum n).call f a s)∧(∀f a s,((TM E sum fls rf n).round f a s).ev=(M E (drawA E) sum n).round f a s)
 | 0=>⟨fun _ _ _ _ _=>rfl,fun _ _ _=>rfl,fun _ _ _=>rfl⟩
 | n+1=>by
  obtain⟨h1,h2,h3⟩:=qYT E sum fls rf n;refine⟨fun fl ro c fr st=>qTf h1 h2 h3 fl ro c fr st,fun f a s=>?_,fun f a s=>qOJ (h1 rf) f a s⟩;show (match q1H fls f with | none=>Tr.ret ((M E (drawA E) sum (n+1)).call f a s) | some fl=>(match sum f a s with | some r=>Tr.ret (some r) | none=>qNr E ((TM E sum fls rf n).ex fl) f a s)).ev=_;cases q1H fls f with
  | none=>rfl
  | some fl =>
   show _=(match sum f a s with | some r=>some r | none=>qFy E (M E (drawA E) sum n).ex f a s);cases sum f a s with
   | some r=>rfl
   | none=>exact qRe (h1 fl) f a s
theorem qSP {E:Env} {sum:CallT} {fls:List (Nat×Fl)} {rf:Fl} {n:Nat} {f:FuncId} {args:List AV} {st:ASt} {Q:AV×ASt→Prop} (h:((TM E sum fls rf n).call f args st).all Q) :
  ∃r,(M E (drawA E) sum n).call f args st=some r∧Q r:=by
 obtain⟨a,h1,h2⟩:=Tr.all_ev _ h;exact⟨a,by rw[←(qYT E sum fls rf n).2.1];exact h1,h2⟩
theorem qSO {E:Env} {sum:CallT} {fls:List (Nat×Fl)} {rf:Fl} {n:Nat} {fl:Fl} {ro:Option Nat} {c:Code} {fr:AFr} {st:ASt} {Q:qz2} (h:((TM E sum fls rf n).ex fl ro c fr st).all Q) :
  ∃r,(M E (drawA E) sum n).ex ro c fr st=some r∧Q r:=by
 obtain⟨a,h1,h2⟩:=Tr.all_ev _ h;exact⟨a,by rw[←(qYT E sum fls rf n).1];exact h1,h2⟩
structure Base (B:Prot) (kb:Nat) (κ:Ren):Prop where
 rs:∀i,¬B.rs i
 dom:∀i L,κ i=some L→i<kb
def qL0 (B:Prot) (w0:World) (κ:Ren) (Q:qz2) (e:Exit) (a':Act) (w':World):Prop :=
 ∃r,Q r∧e=r.1∧∃ι',κ.le ι'∧SR B w0 ι' r.2.2 w'∧FRA ι' r.2.1 a'
def Trip (P:Program) (kb:Nat) (ro:Option Nat) (c:Code) (fr:AFr) (st:ASt) (Q:qz2):Prop :=
 ∀B w0 κ,Base B kb κ→∀ι w a rl,κ.le ι→SR B w0 ι st w→FRA ι fr a→RO κ ro rl→c.wpIn (FF rl) 0 P (qL0 B w0 κ Q) a w
def Wk (kb:Nat) (fr:AFr) (st:ASt) (fr':AFr) (st':ASt):Prop:=∀B w0 κ,Base B kb κ→∀ι w a,κ.le ι→SR B w0 ι st w→FRA ι fr a→∃ι',κ.le ι'∧SR B w0 ι' st' w∧FRA ι' fr' a
theorem Wk.refl (kb:Nat) (fr:AFr) (st:ASt):Wk kb fr st fr st:=fun _ _ _ _ ι _ _ hk h g=>⟨ι,hk,h,g⟩
theorem Wk.trans {kb:Nat} {fr fr1 fr2:AFr} {st st1 st2:ASt} (h:Wk kb fr st fr1 st1) (k:Wk kb fr1 st1 fr2 st2):Wk kb fr st fr2 st2:=fun B w0 κ hb ι w a hk h1 h2 =>
 let ⟨ι1,g0,g1,g2⟩:=h B w0 κ hb ι w a hk h1 h2;k B w0 κ hb ι1 w a g0 g1 g2
def canF (keep:List Nat) (fr:AFr):AFr:={m:=(List.range fr.n).foldl (fun t k=>t.set 11 k (bif qCY k keep then (fr.m.get k).getD qAC else .any)) .e,n:=fr.n,defs:=fr.defs}
def q09 (h:T AO):List Nat→T AO→T AO
 | [],t=>t
 | i::is,t=>match h.get i with | some a=>q09 h is (t.set D i a) | none=>q09 h is t
def qG7 (keep:List Nat) (st:ASt):ASt:={h:=q09 st.h keep .e,next:=st.next}
theorem qNq (keep:List Nat) (fr:AFr) (t:Nat):((canF keep fr).m.get t).getD qAC=if t<fr.n then (bif qCY t keep then (fr.m.get t).getD qAC else .any) else qAC:=by
 have key:∀(n:Nat) (g:Nat→AV),(((List.range n).foldl (fun t k=>t.set 11 k (g k)) (.e:T AV)).get t)=if t<n then some (g t) else none:=by
  intro n g
  induction n with
  | zero=>simp[T.get_e]
  | succ n ih =>
   rw[List.range_succ,List.foldl_append];simp only[List.foldl_cons,List.foldl_nil,T.get_set,ih]
   by_cases h:t=n
   ·subst h;simp
   ·have:(t<n+1)=(t<n):=by apply propext;omega
    simp only[h,if_false,this]
 unfold canF;simp only[key fr.n]
 by_cases h:t<fr.n<;>simp[h]
theorem qKK (h:T AO):∀(is:List Nat) (t:T AO) (i:Nat),(∀j a,t.get j=some a→h.get j=some a)→∀a,(q09 h is t).get i=some a→h.get i=some a
 | [],t,i,ht,a,hi=>ht i a hi
 | k::ks,t,i,ht,a,hi=>by
  unfold q09 at hi
  split at hi
  ·rename_i x hx;refine qKK h ks _ i (fun j b hj=>?_) a hi;rw[T.get_set] at hj
   by_cases e:j=k
   ·subst e;simp at hj;subst hj;exact hx
   ·simp only[e,if_false] at hj;exact ht j b hj
  ·exact qKK h ks t i ht a hi
theorem qVV (kf ko:List Nat) (fr:AFr) (st:ASt) {B:Prot} {w0:World} {ι:Ren} {w:World} {a:Act} (h:SR B w0 ι st w) (g:FRA ι fr a):SR B w0 ι (qG7 ko st) w∧FRA ι (canF kf fr) a:=by
 have get:∀{i x},(qG7 ko st).h.get i=some x→st.h.get i=some x:=fun {i x} hi=>qKK st.h ko .e i (fun j b hj=>by rw[T.get_e] at hj;cases hj) x hi;refine⟨⟨h.below,h.base,fun i a hi=>h.obj i a (get hi),fun i a L hi ho hL=>⟨(h.own i a L (get hi) ho hL).1,fun j a' L' hj=>(h.own i a L (get hi) ho hL).2 j a' L' (get hj)⟩,
  fun i L hL=>h.dom i L hL,fun i a hi=>h.hdom i a (get hi),fun i a L hi=>h.ro i a L (get hi),fun i hi=>h.res i hi,h.glob⟩,⟨g.hf.1,fun t=>?_⟩,g.hd⟩
 rw[qNq]
 by_cases ht:t<fr.n
 ·simp only[ht,if_true];cases qCY t kf
  ·exact .any _
  ·exact g.hf.2 t
 ·simp only[ht,if_false];have:a.tmps.getD t undef=undef:=by
   have:=g.hf.1;simp[Array.getD];omega
  rw[this];exact .undef ι
theorem Wk.can (kb:Nat) (kf ko:List Nat) (fr:AFr) (st:ASt):Wk kb fr st (canF kf fr) (qG7 ko st):=fun _ _ _ _ ι _ _ hk h g=>⟨ι,hk,qVV kf ko fr st h g⟩
def qY7 (kf ko:List Nat) (r:Exit×AFr×ASt):Exit×AFr×ASt:=(r.1,canF kf r.2.1,qG7 ko r.2.2)
def qAP (k:Nat):AV→Prop
 | .ptr (some (i,_))=>i<k
 | .slice (some (i,_)) _ _=>i<k
 | .clos _ cs=>∀c,c∈cs→qAP k c
 | .bound _ fs cs=>(∀c,c∈fs→qAP k c)∧∀c,c∈cs→qAP k c
 | .yield i=>i<k
 | .iface _ v=>qAP k v
 | .agg cs=>∀c,c∈cs→qAP k c
 | .tuple cs=>∀c,c∈cs→qAP k c
 | .map (some i)=>i<k
 | _=>True
def qIx (k:Nat) (ι:Ren):Ren:=fun i=>if i<k then ι i else none
theorem VR.cut {k:Nat} {ι:Ren} {v:AV} {x:Value} (h:VR ι v x):qAP k v→VR (qIx k ι) v x:=by
 have hc:∀{i L},ι i=some L→i<k→qIx k ι i=some L:=fun {i L} hi hk=>by simp[qIx,hk,hi]
 induction h with
 | bool b=>intro _;exact .bool b
 | int k n=>intro _;exact .int k n
 | str l s h=>intro _;exact .str l s h
 | ptrN=>intro _;exact .ptrN
 | ptr i o L h=>intro hr;simp only[qAP] at hr;exact .ptr i o L (hc h hr)
 | sliceN=>intro _;exact .sliceN
 | slice i o l c' L c h hcap hl=>intro hr;simp only[qAP] at hr;exact .slice i o l c' L c (hc h hr) hcap hl
 | clos f cs cs' hs h ih=>intro hr;simp only[qAP] at hr;exact .clos f cs cs' hs fun i v v' hv hv'=>ih i v v' hv hv' (hr v (List.mem_of_getElem? hv))
 | bound f fs cs fs' cs' hs hf h g ih ig=>intro hr;simp only[qAP] at hr;exact .bound f fs cs fs' cs' hs hf (fun i v v' hv hv'=>ih i v v' hv hv' (hr.2 v (List.mem_of_getElem? hv))) (fun i v v' hv hv'=>ig i v v' hv hv' (hr.1 v (List.mem_of_getElem? hv)))
 | yield i L h=>intro hr;simp only[qAP] at hr;exact .yield i L (hc h hr)
 | nilFunc=>intro _;exact .nilFunc
 | iface t v v' h ih=>intro hr;simp only[qAP] at hr;exact .iface t v v' (ih hr)
 | nilIface=>intro _;exact .nilIface
 | agg cs cs' hs hcell h ih=>intro hr;simp only[qAP] at hr;exact .agg cs cs' hs hcell fun i v v' hv hv'=>ih i v v' hv hv' (hr v (List.mem_of_getElem? hv))
 | tuple cs cs' hs h ih=>intro hr;simp only[qAP] at hr;exact .tuple cs cs' hs fun i v v' hv hv'=>ih i v v' hv hv' (hr v (List.mem_of_getElem? hv))
 | mapN=>intro _;exact .mapN
 | map i L h=>intro hr;simp only[qAP] at hr;exact .map i L (hc h hr)
 | slice0 a c=>intro _;exact .slice0 a c
 | gptr g o=>intro _;exact .gptr g o
 | any v=>intro _;exact .any v
section
variable {P:Program} {kb:Nat} {ro:Option Nat} {fr:AFr} {st:ASt} {Q R:Exit×AFr×ASt→Prop}
theorem qL0.mono {B:Prot} {w0:World} {κ:Ren} {e:Exit} {a':Act} {w':World} (h:qL0 B w0 κ Q e a' w') (hq:∀r,Q r→R r):qL0 B w0 κ R e a' w' :=
 let ⟨r,h1,h2⟩:=h;⟨r,hq r h1,h2⟩
theorem Trip.mono {c:Code} (h:Trip P kb ro c fr st Q) (hq:∀r,Q r→R r):Trip P kb ro c fr st R:=fun B w0 κ hb ι w a rl hk h1 h2 h3 =>
 wpIn_mono (h B w0 κ hb ι w a rl hk h1 h2 h3) fun _ _ _ hp=>hp.mono hq
theorem Trip.exec {E:Env} (hE:E.Ok P) {sum:CallT} (hs:CallsOK P sum) {n:Nat} {c:Code} {r:Exit×AFr×ASt} (h:(M E (drawA E) sum n).ex ro c fr st=some r) (hq:Q r):Trip P kb ro c fr st Q:=fun B w0 _ _ ι w a rl hk h1 h2 h3 =>
 wpIn_mono ((qSQ hE (qCa hE) hs n).ex B w0 ro c fr st r h ι w a rl h1 h2 (h3.mono hk)) fun _ _ _ ⟨he,ι',g1,g2,g3⟩=>⟨r,hq,he,ι',Ren.le_trans hk g1,g2,g3⟩
theorem Trip.run {E:Env} (hE:E.Ok P) {sum:CallT} (hs:CallsOK P sum) {fls:List (Nat×Fl)} {rf:Fl} {n:Nat} {fl:Fl} {c:Code} (h:((TM E sum fls rf n).ex fl ro c fr st).all Q):Trip P kb ro c fr st Q:=by
 obtain⟨r,k1,k2⟩:=qSO h;exact Trip.exec hE hs k1 k2
theorem Trip.less {c:Code} {fr':AFr} {st':ASt} (l:Wk kb fr st fr' st') (h:Trip P kb ro c fr' st' Q):Trip P kb ro c fr st Q:=fun B w0 κ hb ι w a rl hk h1 h2 h3 =>
 let ⟨ι',g0,g1,g2⟩:=l B w0 κ hb ι w a hk h1 h2;h B w0 κ hb ι' w a rl g0 g1 g2 h3
theorem Trip.seq {x y:Code} (h:Trip P kb ro x fr st R) (hn:∀fr' st',R (.normal,fr',st')→Trip P kb ro y fr' st' Q) (he:∀e fr' st',e≠.normal→R (e,fr',st')→Q (e,fr',st')):Trip P kb ro (.seq x y) fr st Q:=fun B w0 κ hb ι w a rl hk h1 h2 h3=>by
 refine wpIn_seq (wpIn_mono (h B w0 κ hb ι w a rl hk h1 h2 h3) ?_);rintro e a' w' ⟨⟨e1,fr',st'⟩,hr,he1,ι',g1,g2,g3⟩;simp only at he1;subst he1;cases e with
 | normal=>exact hn fr' st' hr B w0 κ hb ι' w' a' rl g1 g2 g3 h3
 | _=>exact⟨_,he _ fr' st' (by intro h;cases h) hr,rfl,ι',g1,g2,g3⟩
def outB (id:Nat) (Q:qz2) (r:Exit×AFr×ASt):Prop :=
 match r with
 | (.exit i,fr',st')=>(i=id→Q (.normal,fr',st'))∧(i≠id→Q (.exit i,fr',st'))
 | r=>Q r
theorem Trip.block {id:Nat} {x:Code} (h:Trip P kb ro x fr st (outB id Q)):Trip P kb ro (.block id x) fr st Q:=fun B w0 κ hb ι w a rl hk h1 h2 h3=>by
 refine wpIn_block (wpIn_mono (h B w0 κ hb ι w a rl hk h1 h2 h3) ?_);rintro e a' w' ⟨⟨e1,fr',st'⟩,hr,he1,ι',g1,g2,g3⟩;simp only at he1;subst he1;cases e with
 | exit i =>
  simp only[Exit.inBlock]
  by_cases hi:i=id
  ·simp only[hi,if_true];exact⟨_,hr.1 hi,rfl,ι',g1,g2,g3⟩
  ·simp only[hi,if_false];exact⟨_,hr.2 hi,rfl,ι',g1,g2,g3⟩
 | _=>exact⟨_,hr,rfl,ι',g1,g2,g3⟩
def qSV (kb:Nat) (I:Nat→AFr→ASt→Prop) (m:Nat) (Q:qz2) (r:Exit×AFr×ASt):Prop :=
 match r with
 | (.normal,fr',st')=>∃m' fr2 st2,m'<m∧Wk kb fr' st' fr2 st2∧I m' fr2 st2
 | r=>Q r
theorem Trip.rounds {x:Code} (I:Nat→AFr→ASt→Prop) (h:∀m fr st,I m fr st→Trip P kb ro x fr st (qSV kb I m Q)) :
  ∀(k m:Nat) (fr:AFr) (st:ASt),m<k→I m fr st→∀B w0 κ,Base B kb κ→∀ι w a rl,κ.le ι→SR B w0 ι st w→FRA ι fr a→RO κ ro rl→Code.roundsIn (FF rl) 0 P x (qL0 B w0 κ Q) k a w
 | 0,m,fr,st,hm,h0,B,w0,κ,hb,ι,w,a,rl,hk,h1,h2,h3=>by omega
 | k+1,m,fr,st,hm,h0,B,w0,κ,hb,ι,w,a,rl,hk,h1,h2,h3=>by
  refine wpIn_mono (h m fr st h0 B w0 κ hb ι w a rl hk h1 h2 h3) ?_;rintro e a' w' ⟨⟨e1,fr',st'⟩,hr,he1,ι',g1,g2,g3⟩;simp only at he1;subst he1;cases e with
  | normal =>
   obtain⟨m',fr2,st2,hlt,l,hi⟩:=hr;obtain⟨ι2,q1,q2,q3⟩:=l B w0 κ hb ι' w' a' g1 g2 g3;exact Trip.rounds I h k m' fr2 st2 (by omega) hi B w0 κ hb ι2 w' a' rl q1 q2 q3 h3
  | _=>exact⟨_,hr,rfl,ι',g1,g2,g3⟩
theorem Trip.loop {x:Code} (I:Nat→AFr→ASt→Prop) (h:∀m fr st,I m fr st→Trip P kb ro x fr st (qSV kb I m Q)) (m:Nat) (h0:I m fr st):Trip P kb ro (.loop x) fr st Q:=fun B w0 κ hb ι w a rl hk h1 h2 h3 =>
 wpIn_loop_rounds (m+1) (Trip.rounds I h (m+1) m fr st (by omega) h0 B w0 κ hb ι w a rl hk h1 h2 h3)
end
theorem qOT {P:Program} {E:Env} {B:Prot} {w0:World} {ι:Ren} {w:World} {st:ASt} {fr:AFr} {a:Act} (hE:E.Ok P) {R:AV×ASt→Prop} {fn:Func} {r:AV×ASt} (hsr:SR B w0 ι st w) (hf:FRA ι fr a) (h:leaveA E fn fr st=some r) (hR:R r) {ι0:Ren} (hle:ι0.le ι) :
  LeavesInM Fence.wide 0 P fn a.tmps (fun e w'=>∃v,R v∧qGw B w0 ι0 v e w') a.defers .returning w:=by
 simp only[leaveA] at h
 split at h
 ·rename_i st' hk
  split at h
  ·rename_i vs hv;simp only[qz1] at h;subst h;refine qGS fr.defs st st' a.defers w hk hsr hf.hd fun w' hsr'=>?_;obtain⟨vs',h1,h2⟩:=qLt hE hsr' hf.hf fn.results.toList vs hv;have hrun:(results fn a.tmps).run P w'=.ok (if h:vs'.toArray.size=1 then vs'.toArray[0] else .tuple vs'.toArray) w':=by
    unfold results;rw[Array.mapM_eq_mapM_toList];simp only[Sem.run_bind,map_eq_pure_bind,Sem.run_pure];exact congrArg (fun r:Result (List Value)=>(r.andThen fun a w'=>Result.ok a.toArray w').andThen fun a w'=>Result.ok (if h:a.size=1 then a[0] else Value.tuple a) w') h1
   refine⟨_,hrun,_,hR,_,ι,rfl,hle,hsr',?_⟩;show VR ι (qUd vs) _;have hs:=h2.size
   match vs,hs,h2 with
   | [],hs,h2 =>
    have:¬vs'.toArray.size=1:=by simp at hs ⊢;omega
    simp only[this,dite_false];exact .tuple _ _ h2.size h2.at_
   | [x],hs,h2 =>
    have:vs'.toArray.size=1:=by simp at hs ⊢;omega
    simp only[this,dite_true];exact h2.at_ 0 x _ rfl (by simp)
   | x::y::zs,hs,h2 =>
    have:¬vs'.toArray.size=1:=by simp at hs ⊢;omega
    simp only[this,dite_false];exact .tuple _ _ h2.size h2.at_
  ·simp at h
 ·simp at h
section
variable {P:Program} {kb:Nat} {ro:Option Nat} {fr:AFr} {st:ASt} {Q R:Exit×AFr×ASt→Prop}
theorem Trip.call {E:Env} (hE:E.Ok P) {f:Nat} {fn:Func} {c:Code} (hfn:E.fn.get f=some fn) (hc:fn.body=some c) {args:List AV} (hb:Nat.ble args.length fn.ntmps=true) {R:AV×ASt→Prop}
  (h:Trip P st.next none c {m:=qAM args 0 .e,n:=fn.ntmps,defs:=[]} st fun r=>(r.1=.normal∨r.1=.ret)∧∃v,leaveA E fn r.2.1 r.2.2=some v∧R v)
  (B:Prot) (hB:∀i,¬B.rs i) (w0:World) (ι:Ren) (w:World) (args':Array Value) (hsr:SR B w0 ι st w) (hargs:VRs ι args args') :
  (callFunc f args').run P w=.ok (.enter f args') w∧CallsIn Fence.wide 0 P f args' w fun e w'=>∃v,R v∧qGw B w0 ι v e w':=by
 refine⟨hE.call f fn hfn args' w,callsIn_of_wp_marks (hE.fn f fn hfn) hc trivial ?_⟩;have hfr:FRA ι {m:=qAM args 0 .e,n:=fn.ntmps,defs:=[]} {tmps:=args'++Array.replicate (fn.ntmps - args'.size) undef,defers:=[]} :=
  ⟨qNl (Nat.le_of_ble_eq_true hb) hargs,trivial⟩
 refine wpIn_mono (h B w0 ι ⟨hB,hsr.dom⟩ ι w _ none ι.le_refl hsr hfr trivial) ?_;rintro e a' w' ⟨⟨e1,fr',st'⟩,⟨hr,v,hl,hv⟩,he1,ι',g1,g2,g3⟩;simp only at he1 hr;subst he1;have:=qOT hE g2 g3 hl hv g1;rcases hr with rfl | rfl<;>exact this
end
end
end Go.Ax
end
