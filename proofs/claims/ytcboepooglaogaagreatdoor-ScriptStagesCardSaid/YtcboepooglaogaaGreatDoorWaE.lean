/-
  OWN WORK, A PART: an abstract machine for the program's text that the kernel can run, and the proof that it is sound: what it answers is what the program answers; contracts of functions by it. No condition.
-/
import Derived.Test.YtcboepooglaogaaGreatDoorWaD
import Derived.Laws.Externs
import Derived.KernelRfl
section
namespace Go.Ax
noncomputable section
open Go.RowKit Go.Region
theorem val_append:∀(ps qs:List Rec) (k:Nat) (D:Nat→Bool) (g:Tmp→AV),val (ps++qs) k D g=val qs (k+ps.length) D (val ps k D g)
 | [],qs,k,D,g=>by simp[val]
 | p::ps,qs,k,D,g=>by
  simp only[List.cons_append,val,val_append ps qs,List.length_cons]
  congr 1;omega
theorem lastH_append:∀(ps qs:List Rec) (k:Nat) (D:Nat→Bool) (c:Option Nat×ASt),lastH (ps++qs) k D c=lastH qs (k+ps.length) D (lastH ps k D c)
 | [],qs,k,D,c=>by simp[lastH]
 | p::ps,qs,k,D,c=>by
  simp only[List.cons_append,lastH,lastH_append ps qs,List.length_cons]
  congr 1;omega
theorem val_below (ps qs:List Rec) (g:Tmp→AV) (t:Tmp):val (ps++qs) 0 (fun j=>decide (j<ps.length)) g t=val ps 0 (fun _=>true) g t:=by
 rw[val_append,val_none]
 ·exact val_congr ps 0 _ _ g g rfl (fun j r hr _=>by have:=(List.getElem?_eq_some_iff.1 hr).1;simp[this])
 ·intro j r _ _;simp
theorem lastH_below (ps qs:List Rec) (c:Option Nat×ASt):lastH (ps++qs) 0 (fun j=>decide (j<ps.length)) c=lastH ps 0 (fun _=>true) c:=by
 rw[lastH_append,lastH_none]
 ·exact lastH_congr ps 0 _ _ c (fun j r hr _=>by have:=(List.getElem?_eq_some_iff.1 hr).1;simp[this])
 ·intro j r _ _;simp
theorem frees_append:∀(ps qs:List Rec) (k:Nat),frees (ps++qs) k=frees ps k++frees qs (k+ps.length)
 | [],qs,k=>by simp[frees]
 | p::ps,qs,k=>by
  have e:k+1+ps.length=k+(p::ps).length:=by simp;omega
  simp only[List.cons_append,frees,frees_append ps qs,e]
  cases p.ob<;>simp
theorem frees_mem:∀{rs:List Rec} {k p:Nat} {a:AO},(p,a)∈frees rs k→∃i r,p=k+i∧rs[i]? = some r∧r.ob=some a
 | r::rs,k,p,a,h=>by
  simp only[frees] at h
  cases ho:r.ob with
  | none =>
   rw[ho] at h
   obtain⟨i,r',h1,h2,h3⟩:=frees_mem h
   exact⟨i+1,r',by omega,by simpa using h2,h3⟩
  | some b =>
   rw[ho] at h
   rcases List.mem_cons.1 h with e | h
   ·cases e;exact⟨0,r,rfl,rfl,ho⟩
   ·obtain⟨i,r',h1,h2,h3⟩:=frees_mem h
    exact⟨i+1,r',by omega,by simpa using h2,h3⟩
theorem mem_frees:∀{rs:List Rec} {k i:Nat} {r:Rec} {a:AO},rs[i]? = some r→r.ob=some a→(k+i,a)∈frees rs k
 | [],_,_,_,_,h,_=>by simp at h
 | r0::rs,k,i,r,a,h,ha=>by
  simp only[frees]
  cases i with
  | zero =>
   simp only[List.getElem?_cons_zero,Option.some.injEq] at h;subst h
   rw[ha];exact List.mem_cons_self
  | succ i =>
   have:=mem_frees (k:=k+1) (rs:=rs) (by simpa using h) ha
   have e:k+1+i=k+(i+1):=by omega
   rw[e] at this
   cases r0.ob with
   | none=>exact this
   | some _=>exact List.mem_cons_of_mem _ this
theorem frees0 {rs:List Rec} {p:Nat} {a:AO}:(p,a)∈frees rs 0↔∃r,rs[p]? = some r∧r.ob=some a:=by
 constructor
 ·intro h
  obtain⟨i,r,h1,h2,h3⟩:=frees_mem h
  have:p=i:=by omega
  subst this
  exact⟨r,h2,h3⟩
 ·rintro ⟨r,h1,h2⟩
  have:=mem_frees (k:=0) h1 h2
  rwa [Nat.zero_add] at this
theorem frees_fun {rs:List Rec} (p:Nat) (a b:AO) (h:(p,a)∈frees rs 0) (h':(p,b)∈frees rs 0):a=b:=by
 obtain⟨r,h1,h2⟩:=frees0.1 h
 obtain⟨r',h3,h4⟩:=frees0.1 h'
 rw[h1] at h3;cases h3
 rw[h2] at h4;cases h4;rfl
theorem bit_zero (p:Nat):bit 0 p=false:=by simp[bit]
theorem qm_true {m g p:Nat}:qm m g p=true↔bit m p=true∧bit g p=false:=by
 simp only[qm];cases bit g p<;>simp
def RunP (E:Env) (f:Oper→AFr→ASt→Option (AV×ASt)) (wd:AFr→Oper→Bool) (nb:Nat) (bs:List Nat) (fr0:AFr) (st0:ASt) (os:List Oper) (ps rs:List Rec) (fr':AFr) (g:Nat) (st':ASt):Prop :=
 rs.length=os.length ∧
 (∀(i:Nat) r,rs[i]? = some r→os[i]? = some r.o∧r.fr.n=fr0.n∧(∃fr1,r.fr.put r.o.dst r.v=some fr1)∧(∀t,(r.fr.m.get t).getD undefA=val (ps++rs) 0 (fun j=>decide (j<ps.length+i)) (base fr0) t) ∧
  ((isFree E r.o=true∧r.hs=none∧((wd r.fr r.o=true∧∃x,aFree E r.o r.fr=some x∧r.ob=some x.1∧r.v=x.2.val (nb+(ps.length+i)))∨(wd r.fr r.o=false∧r.ob=none∧r.v=undefA))) ∨
   (isFree E r.o=false∧r.ob=none∧∃s',f r.o r.fr (putF nb (qm (bs.getD (ps.length+i) 0) (gm bs (lastH (ps++rs) 0 (fun j=>decide (j<ps.length+i)) (none,st0)).1)) (frees (ps++rs) 0) (lastH (ps++rs) 0 (fun j=>decide (j<ps.length+i)) (none,st0)).2)=some (r.v,s') ∧
    (r.hs=if isLight E r.o=true then none else some s') ∧
    (isLight E r.o=false→Nat.land (gm bs (lastH (ps++rs) 0 (fun j=>decide (j<ps.length+i)) (none,st0)).1) (bs.getD (ps.length+i) 0)=gm bs (lastH (ps++rs) 0 (fun j=>decide (j<ps.length+i)) (none,st0)).1)))) ∧
 (fr'.n=fr0.n∧fr'.defs=fr0.defs∧∀t,(fr'.m.get t).getD undefA=val (ps++rs) 0 (fun _=>true) (base fr0) t) ∧
 (st'=(lastH (ps++rs) 0 (fun _=>true) (none,st0)).2∧g=gm bs (lastH (ps++rs) 0 (fun _=>true) (none,st0)).1)
section
variable {P:Program} {E:Env} {f:Oper→AFr→ASt→Option (AV×ASt)} {wd:AFr→Oper→Bool} {nb:Nat} {bs:List Nat} {fr0:AFr} {st0:ASt}
theorem run1_ok (hl:∀o fr st r,f o fr st=some r→isLight E o=true→r.2=st) (hm:∀i p,bit (bs.getD i 0) p=true→p<i) :
  ∀(os:List Oper) (ps:List Rec) (fr:AFr) (rs:List Rec) (fr':AFr) (g:Nat) (st':ASt),
  run1 E f wd nb bs os ps.length (frees ps 0) (gm bs (lastH ps 0 (fun _=>true) (none,st0)).1) fr (lastH ps 0 (fun _=>true) (none,st0)).2=some (rs,fr',g,st') →
  fr.n=fr0.n→fr.defs=fr0.defs→(∀t,(fr.m.get t).getD undefA=val ps 0 (fun _=>true) (base fr0) t) →
  RunP E f wd nb bs fr0 st0 os ps rs fr' g st'
 | [],ps,fr,rs,fr',g,st',h,hn,hd,hv=>by
  simp only[run1,Option.some.injEq,Prod.mk.injEq] at h
  obtain⟨rfl,rfl,rfl,rfl⟩:=h
  exact⟨rfl,fun i r hr=>by simp at hr,⟨hn,hd,by simpa using hv⟩,by simp,by simp⟩
 | o::os,ps,fr,rs,fr',g,st',h,hn,hd,hv=>by
  -- one step,whatever it was
  have one:∀(r:Rec) (rs1:List Rec) (fr1:AFr),r.o=o→r.fr=fr→fr.put o.dst r.v=some fr1 →
    run1 E f wd nb bs os (ps++[r]).length (frees (ps++[r]) 0) (gm bs (lastH (ps++[r]) 0 (fun _=>true) (none,st0)).1) fr1 (lastH (ps++[r]) 0 (fun _=>true) (none,st0)).2=some (rs1,fr',g,st') →
    ((isFree E r.o=true∧r.hs=none∧((wd r.fr r.o=true∧∃x,aFree E r.o r.fr=some x∧r.ob=some x.1∧r.v=x.2.val (nb+ps.length))∨(wd r.fr r.o=false∧r.ob=none∧r.v=undefA))) ∨
     (isFree E r.o=false∧r.ob=none∧∃s',f r.o r.fr (putF nb (qm (bs.getD ps.length 0) (gm bs (lastH ps 0 (fun _=>true) (none,st0)).1)) (frees ps 0) (lastH ps 0 (fun _=>true) (none,st0)).2)=some (r.v,s') ∧
       (r.hs=if isLight E r.o=true then none else some s') ∧
       (isLight E r.o=false→Nat.land (gm bs (lastH ps 0 (fun _=>true) (none,st0)).1) (bs.getD ps.length 0)=gm bs (lastH ps 0 (fun _=>true) (none,st0)).1))) →
    rs=r::rs1→RunP E f wd nb bs fr0 st0 (o::os) ps rs fr' g st':=by
   intro r rs1 fr1 hro hrf hp hrun hcase hrs
   obtain⟨p1,p2,p3⟩:=put_look hp
   have hone:∀t,val (ps++[r]) 0 (fun _=>true) (base fr0) t=if o.dst=some t then r.v else val ps 0 (fun _=>true) (base fr0) t:=fun t=>by
    rw[val_append];simp[val,hro]
   obtain⟨i1,i2,i3,i4⟩:=run1_ok hl hm os (ps++[r]) fr1 rs1 fr' g st' hrun (by rw[p2,hn]) (by rw[p3,hd]) (fun t=>by rw[p1,hone,hv])
   have eap:ps++r::rs1=ps++[r]++rs1:=by simp
   subst hrs
   unfold RunP
   rw[eap]
   refine⟨by simp[i1],fun i r' hr'=>?_,i3,i4⟩
   cases i with
   | zero =>
    simp only[List.getElem?_cons_zero,Option.some.injEq] at hr';subst hr'
    have e1:ps++[r]++rs1=ps++([r]++rs1):=by simp
    refine⟨by rw[hro];rfl,by rw[hrf];exact hn,⟨fr1,by rw[hro,hrf];exact hp⟩,fun t=>?_,?_⟩
    · rw[e1,Nat.add_zero,val_below,hrf];exact hv t
    · rw[e1,Nat.add_zero,lastH_below,frees_append,putF_append]
      ·exact hcase
      ·intro p a hpa
       obtain⟨i,_,h1,_,_⟩:=frees_mem hpa
       cases hq:qm (bs.getD ps.length 0) (gm bs (lastH ps 0 (fun _=>true) (none,st0)).1) p with
       | false=>rfl
       | true =>
        have:=hm _ _ (qm_true.1 hq).1
        omega
   | succ i =>
    have:=i2 i r' (by simpa using hr')
    have e2:(ps++[r]).length+i=ps.length+(i+1):=by simp;omega
    rw[e2] at this
    simpa using this
  -- what stands behind a step
  have calm:∀(r:Rec),r.hs=none→lastH (ps++[r]) 0 (fun _=>true) (none,st0)=lastH ps 0 (fun _=>true) (none,st0):=fun r hr=>by
   rw[lastH_append];simp[lastH,hr]
  have loud:∀(r:Rec) (s:ASt),r.hs=some s→lastH (ps++[r]) 0 (fun _=>true) (none,st0)=(some ps.length,s):=fun r s hr=>by
   rw[lastH_append];simp[lastH,hr]
  have fnone:∀(r:Rec),r.ob=none→frees (ps++[r]) 0=frees ps 0:=fun r hr=>by rw[frees_append];simp[frees,hr]
  have fsome:∀(r:Rec) (a:AO),r.ob=some a→frees (ps++[r]) 0=frees ps 0++[(ps.length,a)]:=fun r a hr=>by rw[frees_append];simp[frees,hr]
  have len:∀(r:Rec),(ps++[r]).length=ps.length+1:=fun r=>by simp
  simp only[run1] at h
  cases hfree:isFree E o
  ·simp only[hfree,cond_false] at h
   split at h
   ·simp at h
   rename_i v st1 hf
   split at h
   ·simp at h
   rename_i fr1 hp
   cases hli:isLight E o
   ·simp only[hli,cond_false] at h
    cases hla:Nat.beq (Nat.land (gm bs (lastH ps 0 (fun _=>true) (none,st0)).1) (bs.getD ps.length 0)) (gm bs (lastH ps 0 (fun _=>true) (none,st0)).1)
    · simp only[hla,cond_false,reduceCtorEq] at h
    simp only[hla,cond_true] at h
    split at h
    · simp at h
    rename_i rs1 z hr1
    simp only[Option.some.injEq,Prod.mk.injEq] at h
    obtain⟨h1,h2⟩:=h
    subst h2
    refine one ⟨o,fr,v,some st1,none⟩ rs1 fr1 rfl rfl hp ?_ (.inr ⟨hfree,rfl,st1,hf,by simp[hli],fun _=>nbeq hla⟩) h1.symm
    rw[len,fnone _ rfl,loud _ st1 rfl]
    exact hr1
   ·simp only[hli,cond_true] at h
    split at h
    · simp at h
    rename_i rs1 z hr1
    simp only[Option.some.injEq,Prod.mk.injEq] at h
    obtain⟨h1,h2⟩:=h
    subst h2
    refine one ⟨o,fr,v,none,none⟩ rs1 fr1 rfl rfl hp ?_ (.inr ⟨hfree,rfl,st1,hf,by simp[hli],fun h=>by rw[hli] at h;cases h⟩) h1.symm
    rw[len,fnone _ rfl,calm _ rfl]
    exact hr1
  ·simp only[hfree,cond_true] at h
   cases hw:wd fr o
   ·simp only[hw,cond_false] at h
    split at h
    · simp at h
    rename_i fr1 hp
    split at h
    · simp at h
    rename_i rs1 z hr1
    simp only[Option.some.injEq,Prod.mk.injEq] at h
    obtain⟨h1,h2⟩:=h
    subst h2
    refine one ⟨o,fr,undefA,none,none⟩ rs1 fr1 rfl rfl hp ?_ (.inl ⟨hfree,rfl,.inr ⟨hw,rfl,rfl⟩⟩) h1.symm
    rw[len,fnone _ rfl,calm _ rfl]
    exact hr1
   ·simp only[hw,cond_true] at h
    split at h
    · simp at h
    rename_i x hx
    split at h
    · simp at h
    rename_i fr1 hp
    split at h
    · simp at h
    rename_i rs1 z hr1
    simp only[Option.some.injEq,Prod.mk.injEq] at h
    obtain⟨h1,h2⟩:=h
    subst h2
    refine one ⟨o,fr,x.2.val (nb+ps.length),none,some x.1⟩ rs1 fr1 rfl rfl hp ?_ (.inl ⟨hfree,rfl,.inl ⟨hw,x,hx,rfl,rfl⟩⟩) h1.symm
    rw[len,fsome _ _ rfl,calm _ rfl]
    exact hr1
theorem run_ok (hl:∀o fr st r,f o fr st=some r→isLight E o=true→r.2=st) (hm:∀i p,bit (bs.getD i 0) p=true→p<i) {ops:List Oper} {fr:AFr} {st:ASt} {rs:List Rec} {fr':AFr} {g:Nat} {st':ASt}
  (h:run1 E f wd nb bs ops 0 [] 0 fr st=some (rs,fr',g,st')):RunOK E f wd nb bs ops fr st rs fr' g st':=by
 obtain⟨h1,h2,h3,h4⟩:=run1_ok (fr0:=fr) (st0:=st) hl hm ops [] fr rs fr' g st' h rfl rfl (fun t=>rfl)
 exact⟨h1,fun i r hr=>by simpa using h2 i r hr,by simpa using h3,by simpa using h4⟩
theorem masks_len (ops:List Oper):(masks ops).length=ops.length:=by
 have key:∀(os:List Oper) (bs:List Nat),(masksGo os bs).length=bs.length+os.length:=by
  intro os
  induction os with
  | nil=>intro bs;simp[masksGo]
  | cons o os ih=>intro bs;simp only[masksGo,force_eq];rw[ih];simp;omega
 simpa [masks] using key ops []
theorem mask_lt {ops:Array Oper} (hd:Down ops) (i p:Nat) (h:bit ((masks ops.toList).getD i 0) p=true):p<i:=by
 cases ho:ops[i]? with
 | none =>
  have hle:ops.size≤i:=by simpa using ho
  have:(masks ops.toList).getD i 0=0:=by
   rw[List.getD_eq_getElem?_getD,List.getElem?_eq_none (by rw[masks_len];simpa using hle)];rfl
  rw[this,bit_zero] at h;cases h
 | some o =>
  have:=closed_bit (D:=fun j=>decide (j<i)) hd (fun j q hq hj e he hb=>by
   have:=hd j q hq e he hb
   simp only[decide_eq_true_eq] at hj ⊢;omega) i o p ho (fun e he hb=>by have:=hd i o ho e he hb;simpa using this) h
  simpa using this
theorem heavies_get (bs:List Nat):∀(rs:List Rec) (k i:Nat) (r:Rec) (s:ASt),rs[i]? = some r→r.hs=some s→(⟨k+i,bs.getD (k+i) 0,s⟩:Hv)∈heavies rs bs k
 | [],_,_,_,_,h,_=>by simp at h
 | r0::rs,k,i,r,s,h,hs=>by
  cases i with
  | zero =>
   simp only[List.getElem?_cons_zero,Option.some.injEq] at h;subst h
   simp only[heavies,hs]
   exact List.mem_cons_self
  | succ i =>
   have:=heavies_get bs rs (k+1) i r s (by simpa using h) hs
   have e:k+1+i=k+(i+1):=by omega
   rw[e] at this
   simp only[heavies]
   cases r0.hs with
   | none=>exact this
   | some _=>exact List.mem_cons_of_mem _ this
theorem heavies_mem (bs:List Nat):∀(rs:List Rec) (k:Nat) (g:Hv),g∈heavies rs bs k→∃i r,rs[i]? = some r∧r.hs=some g.s∧g.i=k+i
 | r0::rs,k,g,h=>by
  simp only[heavies] at h
  cases hs:r0.hs with
  | none =>
   rw[hs] at h
   obtain⟨i,r,h1,h2,h3⟩:=heavies_mem bs rs (k+1) g h
   exact⟨i+1,r,by simpa using h1,h2,by omega⟩
  | some s =>
   rw[hs] at h
   rcases List.mem_cons.1 h with rfl | h
   ·exact⟨0,r0,rfl,hs,rfl⟩
   ·obtain⟨i,r,h1,h2,h3⟩:=heavies_mem bs rs (k+1) g h
    exact⟨i+1,r,by simpa using h1,h2,by omega⟩
theorem okRecs_get {H:List Hv} {s0:ASt} {fs:List (Nat×AO)}:∀(rs:List Rec) (k i:Nat) (r:Rec),okRecs E f nb fs H s0 bs rs k=true→rs[i]? = some r→okRec E f nb fs H s0 (k+i) (bs.getD (k+i) 0) r=true
 | [],_,_,_,_,h=>by simp at h
 | r0::rs,k,i,r,h,hr=>by
  simp only[okRecs] at h
  cases hb:okRec E f nb fs H s0 k (bs.getD k 0) r0
  ·rw[hb] at h;exact absurd h (by simp)
  ·rw[hb,cond_true] at h
   cases i with
   | zero=>simp only[List.getElem?_cons_zero,Option.some.injEq] at hr;subst hr;exact hb
   | succ i =>
    have:=okRecs_get rs (k+1) i r h (by simpa using hr)
    have e:k+1+i=k+(i+1):=by omega
    rwa [e] at this
theorem reEv_ok {r:Rec} {s:ASt} (h:reEv f r s=true):∃s',f r.o r.fr s=some (r.v,s'):=by
 simp only[reEv] at h
 split at h
 ·rename_i v s' hf
  rw[avEq_eq _ _ h] at hf
  exact⟨s',hf⟩
 ·simp at h
theorem light_again (hpure:∀o fr st r,f o fr st=some r→isPure E o=true→∀st',f o fr st'=some (r.1,st'))
  {ops:Array Oper} {fr:AFr} {st:ASt} {rs:List Rec} {fr':AFr} {g:Nat} {st':ASt} (hT:TextOK E ops) (hR:RunOK E f wd nb (masks ops.toList) ops.toList fr st rs fr' g st')
  (hok:heavies rs (masks ops.toList) 0=[]∨okRecs E f nb (frees rs 0) (heavies rs (masks ops.toList) 0) st (masks ops.toList) rs 0=true)
  {D:Nat→Bool} (hc:Closed ops D) {i:Nat} {r:Rec} (hr:rs[i]? = some r) (hnf:isFree E r.o=false) (hlight:r.hs=none) (hD:D i=false) (hready:∀e,e∈r.o.after→binds .any e=true→D e.on=true) :
  ∃s',f r.o r.fr (putF nb (qm ((masks ops.toList).getD i 0) (gm (masks ops.toList) (lastH rs 0 D (none,st)).1)) (frees rs 0) (lastH rs 0 D (none,st)).2)=some (r.v,s'):=by
 obtain⟨ho,hn,_,hfr,hcase⟩:=hR.at_ i r hr
 rcases hcase with⟨h1,_⟩ | ⟨_,_,s',hf,hs,_⟩
 ·rw[hnf] at h1;cases h1
 have ho':ops[i]? = some r.o:=by simpa using ho
 have hrec:∀{j:Nat} {q:Rec},rs[j]? = some q→ops[j]? = some q.o:=fun {j q} hq=>by have:=(hR.at_ j q hq).1;simpa using this
 -- what stands before i is done;what i stands before is not
 have hbef:∀j,bit ((masks ops.toList).getD i 0) j=true→D j=true:=fun j hj=>closed_bit hT.down hc i r.o j ho' hready hj
 have haft:∀(j:Nat) (q:Rec),rs[j]? = some q→bit ((masks ops.toList).getD j 0) i=true→D j=false:=fun j q hq hb=>by
  cases hDj:D j with
  | false=>rfl
  | true =>
   have:=closed_bit hT.down hc j q.o i (hrec hq) (fun e he hb=>hc j q.o (hrec hq) hDj e he hb) hb
   rw[hD] at this;cases this
 have own:lastH rs 0 D (none,st)=lastH rs 0 (fun j=>decide (j<i)) (none,st) →
   ∃s',f r.o r.fr (putF nb (qm ((masks ops.toList).getD i 0) (gm (masks ops.toList) (lastH rs 0 D (none,st)).1)) (frees rs 0) (lastH rs 0 D (none,st)).2)=some (r.v,s'):=fun e=>⟨s',by rw[e];exact hf⟩
 rcases hok with hnil | hok
 ·-- no heavy ones at all
  have none_:∀(j:Nat) (q:Rec),rs[j]? = some q→q.hs≠none→False:=fun j q hq hne=>by
   cases hqs:q.hs with
   | none=>exact hne hqs
   | some s =>
    have:=heavies_get (masks ops.toList) rs 0 j q s hq hqs
    rw[hnil] at this;simp at this
  exact own (lastH_congr rs 0 _ _ _ (fun j q hq hne=>(none_ j q hq hne).elim))
 have hk:=okRecs_get rs 0 i r hok hr
 simp only[Nat.zero_add,okRec,hlight,hnf,cond_false] at hk
 cases hpu:isPure E r.o with
 | true=>exact⟨_,hpure _ _ _ _ hf hpu _⟩
 | false =>
 simp only[hpu,cond_false] at hk
 generalize hHe:heavies rs (masks ops.toList) 0=H at hk
 have hkN:(bif skipN H i ((masks ops.toList).getD i 0) then true else reEv f r (putF nb (qm ((masks ops.toList).getD i 0) 0) (frees rs 0) st))=true:=by
  cases hx:(bif skipN H i ((masks ops.toList).getD i 0) then true else reEv f r (putF nb (qm ((masks ops.toList).getD i 0) 0) (frees rs 0) st))
  ·rw[hx] at hk;simp at hk
  ·rfl
 rw[hkN,cond_true] at hk
 have inH:∀(j:Nat) (q:Rec) (s:ASt),rs[j]? = some q→q.hs=some s→(⟨j,(masks ops.toList).getD j 0,s⟩:Hv)∈H:=fun j q s hq hqs=>by
  have:=heavies_get (masks ops.toList) rs 0 j q s hq hqs
  rw[hHe] at this;simpa using this
 have ofH:∀g,g∈H→∃(q:Rec),rs[g.i]? = some q∧q.hs=some g.s:=fun g hg=>by
  rw[←hHe] at hg
  obtain⟨j,q,h1,h2,h3⟩:=heavies_mem _ rs 0 g hg
  have:g.i=j:=by omega
  exact⟨q,by rw[this];exact h1,h2⟩
 rcases last_cases rs D (none,st) with⟨hno,hlast⟩ | ⟨j,q,s,hq,hqs,hDj,hmax,hlast⟩
 ·-- none of the heavy ones is done
  rw[hlast]
  cases hsk:skipN H i ((masks ops.toList).getD i 0)
  ·rw[hsk,cond_false] at hkN
   exact reEv_ok hkN
  ·simp only[skipN] at hsk
   cases hall:H.all (fun h=>Bool.not (Nat.blt h.i i))
   ·rw[hall,cond_false] at hsk
    obtain⟨g,hg,hb⟩:=List.any_eq_true.1 hsk
    obtain⟨q,hq,hqs⟩:=ofH g hg
    have h1:=hbef g.i hb
    have h2:=hno g.i q hq (by rw[hqs];simp)
    rw[h1] at h2;cases h2
   ·-- the run itself had none before
    have:lastH rs 0 (fun j=>decide (j<i)) (none,st)=(none,st):=lastH_none rs 0 _ _ (fun j q hq hne=>by
     cases hqs:q.hs with
     | none=>exact absurd hqs hne
     | some s =>
      have:=List.all_eq_true.1 hall _ (inH j q s hq hqs)
      simp only[Bool.not_eq_true'] at this
      have:=blt_false this
      simpa using this)
    have:=own (by rw[hlast,this])
    rwa [hlast] at this
 ·rw[hlast]
  have hg:=inH j q s hq hqs
  have hkS:=List.all_eq_true.1 hk _ hg
  cases hsk:skipS H i ((masks ops.toList).getD i 0) ⟨j,(masks ops.toList).getD j 0,s⟩
  ·simp only[hsk,cond_false] at hkS
   exact reEv_ok hkS
  ·simp only[skipS] at hsk
   cases hb1:bit ((masks ops.toList).getD j 0) i
   ·rw[hb1,cond_false] at hsk
    cases hb2:H.any (fun h=>bif Nat.blt j h.i then bit ((masks ops.toList).getD i 0) h.i else false)
    ·rw[hb2,cond_false] at hsk
     cases hb3:Nat.blt j i
     ·rw[hb3] at hsk;simp at hsk
     ·rw[hb3,cond_true] at hsk
      have hji:j<i:=by simpa [Nat.blt_eq] using hb3
      have:lastH rs 0 (fun j=>decide (j<i)) (none,st)=(some (0+j),s):=lastH_at rs 0 _ _ j q s hq hqs (by simpa using hji) (fun j' q' hq' hlt hne=>by
       cases hqs':q'.hs with
       | none=>exact absurd hqs' hne
       | some s' =>
        have h1:=List.all_eq_true.1 hsk _ (inH j' q' s' hq' hqs')
        have hb:Nat.blt j j'=true:=by rw[Nat.blt_eq];exact hlt
        simp only[hb,cond_true,Bool.not_eq_true'] at h1
        have:=blt_false h1
        simpa using this)
      rw[Nat.zero_add] at this
      have:=own (by rw[hlast,this])
      rwa [hlast] at this
    ·obtain⟨g,hg,hb⟩:=List.any_eq_true.1 hb2
     cases hb4:Nat.blt j g.i
     ·rw[hb4] at hb;simp at hb
     ·rw[hb4,cond_true] at hb
      obtain⟨q',hq',hqs'⟩:=ofH g hg
      have hlt:j<g.i:=by simpa [Nat.blt_eq] using hb4
      have h1:=hbef g.i hb
      have h2:=hmax g.i q' hq' hlt (by rw[hqs'];simp)
      rw[h1] at h2;cases h2
   ·have:=haft j q hq hb1
    rw[hDj] at this;cases this
end
end
end Go.Ax
end

section
namespace Go.Ax
noncomputable section
open Go.RowKit Go.Region
section
variable {P:Program} {E:Env} {B:Prot} {w0:World}
theorem getD_put {listed:Array Bool} {i j:Nat} (h:i<listed.size):(listed.setIfInBounds i true).getD j false=(decide (j=i) || listed.getD j false):=by
 by_cases e:j=i
 ·subst e;simp[Array.getD_eq_getD_getElem?,h]
 ·simp only[Array.getD_eq_getD_getElem?,Array.getElem?_setIfInBounds_ne (Ne.symm e),e,decide_false,Bool.false_or]
def rsD (B:Prot) (nb n:Nat) (D:Nat→Bool) (i:Nat):Prop:=B.rs i∨∃p,p<n∧i=nb+p∧D p=false
def qD (D:Nat→Bool) (g:Nat):Nat→Bool:=fun p=>D p && !bit g p
theorem SR.reserve {ι:Ren} {st:ASt} {w:World} (h:SR B w0 ι st w) (n:Nat) (D:Nat→Bool):SR ⟨B.ro,B.ex,rsD B st.next n D⟩ w0 ι {h:=st.h,next:=st.next+n} w:=by
 have hn:∀i,st.next≤i→ι i=none:=fun i hi=>by
  cases e:ι i with
  | none=>rfl
  | some L=>have:=h.dom i L e;omega
 refine⟨h.below,h.base,h.obj,h.own,fun i L hL=>Nat.lt_of_lt_of_le (h.dom i L hL) (Nat.le_add_right _ _),fun i a ha=>Nat.lt_of_lt_of_le (h.hdom i a ha) (Nat.le_add_right _ _),h.ro,?_,h.glob⟩
 rintro i (hi | ⟨p,hp,rfl,_⟩)
 ·exact⟨Nat.lt_of_lt_of_le (h.res i hi).1 (Nat.le_add_right _ _),(h.res i hi).2⟩
 ·exact⟨by show st.next+p<st.next+n;omega,hn _ (by omega)⟩
theorem land_bit {a b p:Nat} (h:Nat.land a b=a) (hp:bit a p=true):bit b p=true:=by
 unfold bit at *
 have h2:(a &&& b).testBit p=true:=by
  show (Nat.land a b).testBit p=true
  rw[h];exact hp
 rw[Nat.testBit_and] at h2
 simp only[Bool.and_eq_true] at h2
 exact h2.2
theorem draw_any (hE:E.Ok P) {call round:CallT} (hc:CallsOK P call) (hr:RoundsOK P round) {ops:Array Oper} {fr:AFr} {nb:Nat} {st:ASt} {rs:List Rec} {fr':AFr} {g:Nat} {st':ASt} (hT:TextOK E ops)
  (hR:RunOK E (stepV E call round ops.toList) (fun fr o=>wantedA ops.toList fr o) nb (masks ops.toList) ops.toList fr st rs fr' g st')
  (hok:heavies rs (masks ops.toList) 0=[]∨okRecs E (stepV E call round ops.toList) nb (frees rs 0) (heavies rs (masks ops.toList) 0) st (masks ops.toList) rs 0=true)
  (hslot:okSlots nb (frees rs 0) (heavies rs (masks ops.toList) 0)=true) (hslot0:∀p,st.h.get (nb+p)=none) (hrsB:∀i,B.rs i→i<nb)
  {ι0:Ren} {rl:Option Nat} {Q:Exit→Act→World→Prop} (hQ:∀ι a w,ι0.le ι→SR B w0 ι (putF nb (fun p=>!bit g p) (frees rs 0) st') w→FRA ι fr' a→Q .normal a w) :
  ∀(fuel:Nat) (listed:Array Bool) (ι:Ren) (a:Act) (w:World) (frD:AFr),listed.size=ops.size→listed.toList.count false≤fuel→Closed ops (fun j=>listed.getD j false) →
   ι0.le ι→FRA ι frD a→frD.n=fr.n→frD.defs=fr.defs→(∀t,(frD.m.get t).getD undefA=val rs 0 (fun j=>listed.getD j false) (base fr) t) →
   SR ⟨B.ro,B.ex,rsD B nb ops.size (fun j=>listed.getD j false)⟩ w0 ι
    (putF nb (qD (fun j=>listed.getD j false) (gm (masks ops.toList) (lastH rs 0 (fun j=>listed.getD j false) (none,st)).1)) (frees rs 0) (lastH rs 0 (fun j=>listed.getD j false) (none,st)).2) w→wpAnyIn (FF rl) 0 P .any ops Q fuel listed a w:=by
 have hlen:rs.length=ops.size:=by have:=hR.len;simpa using this
 have hin:∀{j:Nat} {r:Rec},rs[j]? = some r→j<ops.size:=fun {j r} h=>by have:=(List.getElem?_eq_some_iff.1 h).1;omega
 -- at the end
 have fin:∀(listed:Array Bool) (ι:Ren) (a:Act) (w:World) (frD:AFr),listed.size=ops.size→ready .any ops listed=[] →
   ι0.le ι→FRA ι frD a→frD.n=fr.n→frD.defs=fr.defs→(∀t,(frD.m.get t).getD undefA=val rs 0 (fun j=>listed.getD j false) (base fr) t) →
   SR ⟨B.ro,B.ex,rsD B nb ops.size (fun j=>listed.getD j false)⟩ w0 ι
    (putF nb (qD (fun j=>listed.getD j false) (gm (masks ops.toList) (lastH rs 0 (fun j=>listed.getD j false) (none,st)).1)) (frees rs 0) (lastH rs 0 (fun j=>listed.getD j false) (none,st)).2) w→Q .normal a w:=by
  intro listed ι a w frD hsz hnil hle hfr hn hd hv hsr
  have hall:∀j,j<ops.size→listed.getD j false=true:=by
   intro j
   induction j using Nat.strongRecOn with
   | ind j ih =>
    intro hj
    cases hlj:listed.getD j false with
    | true=>rfl
    | false =>
      have hm:j∈ready .any ops listed:=by
       rw[mem_ready]
       refine⟨?_,ops[j]'hj,by simp[hj],fun e he hb=>ih e.on (hT.down j _ (by simp[hj]) e he hb) ?_⟩
       ·have hj':j<listed.size:=by omega
        simp only[Array.getD_eq_getD_getElem?,Array.getElem?_eq_getElem hj',Option.getD_some] at hlj ⊢
        exact hlj
       ·have:=hT.down j _ (by simp[hj]) e he hb;omega
      rw[hnil] at hm;simp at hm
  obtain⟨f1,f2,f3⟩:=hR.fin
  have hlast:lastH rs 0 (fun j=>listed.getD j false) (none,st)=lastH rs 0 (fun _=>true) (none,st):=lastH_congr rs 0 _ _ _ (fun j r h _=>by have:=hall j (hin h);simpa using this)
  refine hQ ι a w hle ?_ ⟨⟨?_,fun t=>?_⟩,?_⟩
  ·rw[hlast,←hR.fins.1,←hR.fins.2] at hsr
   have h2:SR B w0 ι _ w:=hsr.lessrs (rs:=B.rs) (fun i hi=>.inl hi)
   refine h2.congr (fun j=>?_) (by rw[putF_next,putF_next])
   rw[putF_h,putF_h,withF_get,withF_get,pick_congr j (fun p a hm=>?_)]
   obtain⟨r,h3,_⟩:=frees0.1 hm
   simp only[qD,hall p (hin h3),Bool.true_and]
  ·rw[f1,←hn];exact hfr.hf.1
  ·rw[f3,←val_congr rs 0 (fun j=>listed.getD j false) _ (base fr) (base fr) rfl (fun j r h _=>by have:=hall j (hin h);simpa using this),←hv]
   exact hfr.hf.2 t
  ·rw[f2,←hd];exact hfr.hd
 intro fuel
 induction fuel with
 | zero =>
  intro listed ι a w frD hsz hcount hcl hle hfr hn hd hv hsr
  have hnil:ready .any ops listed=[]:=by
   refine List.eq_nil_iff_forall_not_mem.2 fun j hj=>?_
   have h1:=(mem_ready.1 hj).1
   have hj':j<listed.size:=by
    by_cases hlt:j<listed.size
    · exact hlt
    · simp[Array.getD_eq_getD_getElem?,hlt] at h1
   have h2:listed.toList[j]? = some false:=by
    simp only[Array.getD_eq_getD_getElem?,Array.getElem?_eq_getElem hj',Option.getD_some] at h1
    simp[hj',h1]
   have h3:=List.count_pos_iff.2 (List.mem_of_getElem? h2)
   omega
  exact⟨hnil,fin listed ι a w frD hsz hnil hle hfr hn hd hv hsr⟩
 | succ fuel ih =>
  intro listed ι a w frD hsz hcount hcl hle hfr hn hd hv hsr
  refine⟨fun hnil=>fin listed ι a w frD hsz hnil hle hfr hn hd hv hsr,fun i hi=>?_⟩
  obtain⟨hDi',o,ho,hready⟩:=mem_ready.1 hi
  have hisz:i<ops.size:=(Array.getElem?_eq_some_iff.1 ho).1
  have hil:i<listed.size:=by omega
  have hDi:listed.getD i false=false:=by
   simp only[Array.getD_eq_getD_getElem?,Array.getElem?_eq_getElem hil,Option.getD_some] at hDi' ⊢
   exact hDi'
  have hri:rs[i]? = some (rs[i]'(by omega)):=by simp[hlen,hisz]
  generalize rs[i]'(by omega)=r at hri
  obtain⟨ho',hrn,⟨fr1,hput⟩,hrfr,hcase⟩:=hR.at_ i r hri
  have hro:r.o=o:=by
   have:ops[i]? = some r.o:=by simpa using ho'
   rw[ho] at this;cases this;rfl
  rw[hro] at hput
  have hrec:∀{j:Nat} {q:Rec},rs[j]? = some q→ops[j]? = some q.o:=fun {j q} hq=>by have:=(hR.at_ j q hq).1;simpa using this
  have hbef:∀j,bit ((masks ops.toList).getD i 0) j=true→listed.getD j false=true:=fun j hj=>closed_bit (D:=fun j=>listed.getD j false) hT.down hcl i o j ho hready hj
  have haft:∀(j:Nat) (q:Rec),rs[j]? = some q→bit ((masks ops.toList).getD j 0) i=true→listed.getD j false=false:=fun j q hq hb=>by
   cases hDj:listed.getD j false with
   | false=>rfl
   | true =>
    have:=closed_bit (D:=fun j=>listed.getD j false) hT.down hcl j q.o i (hrec hq) (fun e he hb=>hcl j q.o (hrec hq) hDj e he hb) hb
    simp only[hDi] at this;cases this
  -- the operands are what they were
  have hagree:AgreeOn (looks ops.toList o) r.fr frD:=fun t ht=>by
   rw[hrfr,hv]
   refine val_congr rs 0 _ _ _ _ rfl fun j q hq hd=>?_
   simp only[Nat.zero_add]
   by_cases e:j=i
   ·subst e;simp[hDi]
   ·obtain⟨t1,t2⟩:=hT.tmp i j o q.o t ho (hrec hq) hd (.inl ht)
    by_cases hlt:j<i
    · simp[hlt,hbef j (t1 hlt)]
    · have:=haft j q hq (t2 (by omega));simp[hlt,this]
  have hcong:∀s,stepV E call round ops.toList o frD s=stepV E call round ops.toList o r.fr s:=fun s=>(stepV_congr hagree).symm
  have hwd:wantedA ops.toList frD o=wantedA ops.toList r.fr o:=(wantedA_congr hagree).symm
  obtain⟨frD',hputD⟩:=put_some (fr:=frD) (v:=r.v) hput (by rw[hn,hrn])
  obtain⟨p1,p2,p3⟩:=put_look hputD
  -- what holds behind the step,but for the memory
  have count1:(listed.setIfInBounds i true).toList.count false≤fuel:=by
   have e:(listed.setIfInBounds i true).toList=listed.toList.set i true:=by simp
   rw[e,List.count_set (by simpa using hil)]
   have h2:listed.toList[i]'(by simpa using hil)=false:=by
    simp only[Array.getD_eq_getD_getElem?,Array.getElem?_eq_getElem hil,Option.getD_some] at hDi
    simpa using hDi
   rw[h2]
   simp
   have e2:Array.count false listed=listed.toList.count false:=by simp
   omega
  have closed1:Closed ops (fun j=>(listed.setIfInBounds i true).getD j false):=by
   intro j p hp hDj e he hb
   simp only[getD_put hil] at hDj ⊢
   by_cases e1:j=i
   ·subst e1
    rw[ho] at hp;cases hp
    simp[hready e he hb]
   ·simp only[e1,decide_false,Bool.false_or] at hDj
    simp[hcl j p hp hDj e he hb]
  have val1:∀t,(frD'.m.get t).getD undefA=val rs 0 (fun j=>(listed.setIfInBounds i true).getD j false) (base fr) t:=fun t=>by
   rw[p1]
   by_cases e:o.dst=some t
   ·simp only[e,if_true]
    refine (val_at rs 0 _ _ i r hri (by rw[hro];exact e) (by rw[Nat.zero_add,getD_put hil];simp) (fun j q hq hlt hd=>?_)).symm
    rw[Nat.zero_add,getD_put hil]
    obtain⟨t1,t2⟩:=hT.tmp i j o q.o t ho (hrec hq) hd (.inr e)
    have h1:=haft j q hq (t2 hlt)
    have h2:¬j=i:=by omega
    simp[h1,h2]
   ·simp only[e,if_false]
    rw[hv]
    refine val_congr rs 0 _ _ _ _ rfl fun j q hq hd=>?_
    rw[Nat.zero_add,getD_put hil]
    by_cases e1:j=i
    · subst e1;rw[hri] at hq;cases hq;rw[hro] at hd;exact absurd hd e
    · simp[e1]
  have less1:∀x,rsD B nb ops.size (fun j=>(listed.setIfInBounds i true).getD j false) x→rsD B nb ops.size (fun j=>listed.getD j false) x∧(B.rs x∨x≠nb+i):=by
   rintro x (hx | ⟨p,hp,rfl,hDp⟩)
   ·exact⟨.inl hx,.inl hx⟩
   ·simp only[getD_put hil] at hDp
    by_cases e:p=i
    · subst e;simp at hDp
    · simp only[e,decide_false,Bool.false_or] at hDp
      exact⟨.inr ⟨p,hp,rfl,hDp⟩,.inr (by omega)⟩
  have next1:∀ι' a' w',ι.le ι'→FRA ι' frD' a'→SR ⟨B.ro,B.ex,rsD B nb ops.size (fun j=>(listed.setIfInBounds i true).getD j false)⟩ w0 ι'
    (putF nb (qD (fun j=>(listed.setIfInBounds i true).getD j false) (gm (masks ops.toList) (lastH rs 0 (fun j=>(listed.setIfInBounds i true).getD j false) (none,st)).1)) (frees rs 0)
      (lastH rs 0 (fun j=>(listed.setIfInBounds i true).getD j false) (none,st)).2) w'→wpAnyIn (FF rl) 0 P .any ops Q fuel (listed.setIfInBounds i true) a' w' :=
   fun ι' a' w' h1 h2 h3=>ih (listed.setIfInBounds i true) ι' a' w' frD' (by simpa using hsz) count1 closed1 (Ren.le_trans hle h1) h2 (by rw[p2,hn]) (by rw[p3,hd]) val1 h3
  -- the masks of the last heavy one
  have ofg:∀p,bit (gm (masks ops.toList) (lastH rs 0 (fun j=>listed.getD j false) (none,st)).1) p=true→listed.getD p false=true:=fun p hp=>by
   rcases last_cases rs (fun j=>listed.getD j false) (none,st) with⟨_,hlast⟩ | ⟨j,q,s,hq,hqs,hDj,_,hlast⟩
   ·rw[hlast] at hp;simp only[gm,bit_zero] at hp;cases hp
   ·rw[hlast] at hp
    simp only[gm] at hp
    exact closed_bit (D:=fun j=>listed.getD j false) hT.down hcl j q.o p (hrec hq) (fun e he hb=>hcl j q.o (hrec hq) hDj e he hb) hp
  have slot:∀p a,(p,a)∈frees rs 0→bit (gm (masks ops.toList) (lastH rs 0 (fun j=>listed.getD j false) (none,st)).1) p=false →
    (lastH rs 0 (fun j=>listed.getD j false) (none,st)).2.h.get (nb+p)=none:=fun p a hp hb=>by
   rcases last_cases rs (fun j=>listed.getD j false) (none,st) with⟨_,hlast⟩ | ⟨j,q,s,hq,hqs,hDj,_,hlast⟩
   ·rw[hlast];exact hslot0 p
   ·rw[hlast] at hb ⊢
    have h1:=heavies_get (masks ops.toList) rs 0 j q s hq hqs
    rw[Nat.zero_add] at h1
    have h2:=List.all_eq_true.1 (List.all_eq_true.1 hslot _ h1) _ hp
    simp only[gm] at hb
    simp only[hb,cond_false] at h2
    cases hx:s.h.get (nb+p) with
    | none=>rfl
    | some y=>rw[hx] at h2;simp[isNone] at h2
  generalize hfs:frees rs 0=fs at *
  have ffun:∀p a b,(p,a)∈fs→(p,b)∈fs→a=b:=fun p a b h1 h2=>by subst hfs;exact frees_fun p a b h1 h2
  have fmem:∀p a,(p,a)∈fs→∃r,rs[p]? = some r∧r.ob=some a:=fun p a h1=>by subst hfs;exact frees0.1 h1
  have fown:∀p a,(p,a)∈fs→a.own=true:=fun p a h1=>by
   obtain⟨q,h2,h3⟩:=fmem p a h1
   rcases (hR.at_ p q h2).2.2.2.2 with⟨_,_,⟨_,x,h4,h5,_⟩ | ⟨_,h5,_⟩⟩ | ⟨_,h5,_⟩
   ·rw[h3] at h5;cases h5;exact aFree_own h4
   ·rw[h3] at h5;cases h5
   ·rw[h3] at h5;cases h5
  unfold wpOpIn
  rw[ho]
  -- a step that makes no object on the side
  have plain:∀s1,r.ob=none→stepV E call round ops.toList o frD (putF nb (qm ((masks ops.toList).getD i 0) (gm (masks ops.toList) (lastH rs 0 (fun j=>listed.getD j false) (none,st)).1)) fs (lastH rs 0 (fun j=>listed.getD j false) (none,st)).2)=some (r.v,s1) →
    ((r.hs=none∧s1=putF nb (qm ((masks ops.toList).getD i 0) (gm (masks ops.toList) (lastH rs 0 (fun j=>listed.getD j false) (none,st)).1)) fs (lastH rs 0 (fun j=>listed.getD j false) (none,st)).2 ∧
       lastH rs 0 (fun j=>(listed.setIfInBounds i true).getD j false) (none,st)=lastH rs 0 (fun j=>listed.getD j false) (none,st)) ∨
     (lastH rs 0 (fun j=>(listed.setIfInBounds i true).getD j false) (none,st)=(some i,s1) ∧
       ∀p,bit (gm (masks ops.toList) (lastH rs 0 (fun j=>listed.getD j false) (none,st)).1) p=true→bit ((masks ops.toList).getD i 0) p=true)) →
    (if wanted o (yielded ops a.tmps) then o.wpIn (FF rl) 0 P a w (wpAnyIn (FF rl) 0 P .any ops Q fuel (listed.setIfInBounds i true)) Q
      else (∀f,o.about P w a.eval=some f→(FF rl).fn f)∧wpAnyIn (FF rl) 0 P .any ops Q fuel (listed.setIfInBounds i true) (a.put o.dst undef) w):=by
   intro s1 hob hstepV hkind
   generalize hmi:(masks ops.toList).getD i 0=mi at *
   generalize hcc:lastH rs 0 (fun j=>listed.getD j false) (none,st)=c at *
   generalize hgg:gm (masks ops.toList) c.1=gD at *
   let X:Nat→Bool:=fun j=>fs.any fun x=>Nat.beq (nb+x.1) j && (listed.getD x.1 false && (!bit gD x.1 && !bit mi x.1))
   have Xmem:∀j,X j=true↔∃p a,(p,a)∈fs∧nb+p=j∧listed.getD p false=true∧bit gD p=false∧bit mi p=false:=fun j=>by
    constructor
    · intro h
      obtain⟨x,h1,h2⟩:=List.any_eq_true.1 h
      simp only[Bool.and_eq_true,Bool.not_eq_true'] at h2
      exact⟨x.1,x.2,h1,nbeq h2.1,h2.2.1,h2.2.2.1,h2.2.2.2⟩
    · rintro ⟨p,a,h1,rfl,h2,h3,h4⟩
      exact List.any_eq_true.2 ⟨(p,a),h1,by simp[h2,h3,h4]⟩
   have qD_true:∀(L:Array Bool) (g p:Nat),qD (fun j=>L.getD j false) g p=true↔L.getD p false=true∧bit g p=false:=fun L g p=>by simp[qD]
   have hX:∀j,X j=true→∃a,(putF nb (qD (fun j=>listed.getD j false) gD) fs c.2).h.get j=some a∧a.own=true:=fun j hj=>by
    obtain⟨p,a,h1,rfl,h2,h3,h4⟩:=(Xmem j).1 hj
    refine⟨a,?_,fown p a h1⟩
    rw[putF_h,withF_get,pick_mem ffun h1 ((qD_true _ _ _).2 ⟨h2,h3⟩)]
   have hg:∀j,(putF nb (qm mi gD) fs c.2).h.get j=if X j then none else (putF nb (qD (fun j=>listed.getD j false) gD) fs c.2).h.get j:=fun j=>by
    rw[putF_h,putF_h,withF_get,withF_get]
    cases hx:X j with
    | true =>
      obtain⟨p,a,h1,rfl,h2,h3,h4⟩:=(Xmem j).1 hx
      cases hp:pick nb (qm mi gD) fs (nb+p) with
      | some b =>
       obtain⟨p',q1,q2,q3⟩:=pick_some hp
       have:p'=p:=by omega
       subst this
       have:=(qm_true.1 q2).1
       rw[h4] at this;cases this
      | none=>simpa using slot p a h1 h3
    | false =>
      simp only[Bool.false_eq_true,if_false]
      cases hp:pick nb (qm mi gD) fs j with
      | some b =>
       obtain⟨p,q1,q2,rfl⟩:=pick_some hp
       obtain⟨q3,q4⟩:=qm_true.1 q2
       rw[pick_mem ffun q1 ((qD_true _ _ _).2 ⟨hbef p q3,q4⟩)]
      | none =>
       cases hp':pick nb (qD (fun j=>listed.getD j false) gD) fs j with
       | none=>rfl
       | some b =>
        obtain⟨p,q1,q2,rfl⟩:=pick_some hp'
        obtain⟨q3,q4⟩:=(qD_true _ _ _).1 q2
        cases hb:bit mi p with
        | true=>exact absurd rfl (pick_none hp p b q1 (qm_true.2 ⟨hb,q4⟩))
        | false =>
         have:=(Xmem (nb+p)).2 ⟨p,b,q1,rfl,q3,q4,hb⟩
         rw[hx] at this;cases this
   have hsplit:=hsr.split (F:=putF nb (qm mi gD) fs c.2) X hX (by rw[putF_next,putF_next]) hg
   have hst:step E call round ops.toList o frD (putF nb (qm mi gD) fs c.2)=some (frD',s1):=by simp only[step,hstepV,hputD]
   have noti:∀p a,(p,a)∈fs→p≠i:=fun p a h1 e=>by
    subst e
    obtain⟨q,h2,h3⟩:=fmem p a h1
    rw[hri] at h2;cases h2;rw[hob] at h3;cases h3
   refine step_ok (ro:=rl) (Q:=Q) hE hsplit hfr (hc _ _) (hr _ _) (ops:=ops) hst (fun ι' a' w' hle' hfr' hsr'=>next1 ι' a' w' hle' hfr' ?_)
   rcases hkind with⟨hh,rfl,hl1⟩ | ⟨hl1,hsub⟩
   ·have hm:=hsr.merge (T':=putF nb (qD (fun j=>listed.getD j false) gD) fs c.2) X hX hsr' hle' (by rw[putF_next,putF_next]) (fun j=>by
      rw[hg];cases X j<;>simp)
    rw[hl1,hgg]
    refine ((hm.lessrs (rs:=rsD B nb ops.size (fun j=>(listed.setIfInBounds i true).getD j false)) (fun y hy=>(less1 y hy).1))).congr (fun j=>?_) (by rw[putF_next,putF_next])
    rw[putF_h,putF_h,withF_get,withF_get,pick_congr j (fun p a h1=>?_)]
    simp only[qD,getD_put hil,noti p a h1,decide_false,Bool.false_or]
   ·rw[hl1]
    simp only[gm,hmi]
    refine (hsr.merge (T':=putF nb (qD (fun j=>(listed.setIfInBounds i true).getD j false) mi) fs s1) X hX hsr' hle' (by rw[putF_next]) (fun j=>?_)).lessrs (fun y hy=>(less1 y hy).1)
    rw[putF_h,withF_get]
    cases hx:X j with
    | true =>
      obtain⟨p,a,h1,rfl,h2,h3,h4⟩:=(Xmem j).1 hx
      rw[pick_mem ffun h1 ((qD_true _ _ _).2 ⟨by rw[getD_put hil];simp[h2],h4⟩)]
      simp only[if_true]
      rw[putF_h,withF_get,pick_mem ffun h1 ((qD_true _ _ _).2 ⟨h2,h3⟩)]
    | false =>
      simp only[Bool.false_eq_true,if_false]
      cases hp:pick nb (qD (fun j=>(listed.setIfInBounds i true).getD j false) mi) fs j with
      | none=>rfl
      | some b =>
       obtain⟨p,q1,q2,rfl⟩:=pick_some hp
       obtain⟨q3,q4⟩:=(qD_true _ _ _).1 q2
       rw[getD_put hil] at q3
       simp only[noti p b q1,decide_false,Bool.false_or] at q3
       have q5:bit gD p=false:=by
        cases hb:bit gD p with
        | false=>rfl
        | true=>have:=hsub p hb;rw[q4] at this;cases this
       have:=(Xmem (nb+p)).2 ⟨p,b,q1,rfl,q3,q5,q4⟩
       rw[hx] at this;cases this
  have calm1:r.hs=none→lastH rs 0 (fun j=>(listed.setIfInBounds i true).getD j false) (none,st)=lastH rs 0 (fun j=>listed.getD j false) (none,st):=fun hhs=>lastH_congr rs 0 _ _ _ fun j q hq hne=>by
   simp only[Nat.zero_add]
   rw[getD_put hil]
   by_cases e:j=i
   ·subst e;rw[hri] at hq;cases hq;exact absurd hhs hne
   ·simp[e]
  rcases hcase with⟨hfree,hhs,hc2⟩ | ⟨hfree,hob,s',hf,hhs,hland⟩
  ·rcases hc2 with⟨hw,x,hx,hrob,hrv⟩ | ⟨hw,hrob,hrv⟩
   ·-- an object is made
    rw[hro] at hw hx
    have hgi:bit (gm (masks ops.toList) (lastH rs 0 (fun j=>listed.getD j false) (none,st)).1) i=false:=by
      cases hb:bit (gm (masks ops.toList) (lastH rs 0 (fun j=>listed.getD j false) (none,st)).1) i with
      | false=>rfl
      | true=>have:=ofg i hb;rw[hDi] at this;cases this
    have hxa:aFree E o frD=some x:=by rw[←aFree_congr (fun t ht=>hagree t (List.mem_append_left _ ht))];exact hx
    have hmem:(i,x.1)∈fs:=by rw[←hfs];exact frees0.2 ⟨r,hri,hrob⟩
    have hres:=hsr.res (nb+i) (.inr ⟨i,hisz,rfl,hDi⟩)
    refine free_step_ok (ro:=rl) (Q:=Q) hE hsr hfr (k:=nb+i) (x:=x) (rs:=rsD B nb ops.size (fun j=>(listed.setIfInBounds i true).getD j false)) (by rw[hwd];exact hw) (by simp only[guardAny,isFree_guard (hro▸hfree)]) hxa (by rw[←hrv];exact hputD) hres.1 hres.2
      (fun y hy=>⟨(less1 y hy).1,?_⟩) (fun ι' a' w' hle' hfr' hsr'=>next1 ι' a' w' hle' hfr' ?_)
    · rcases hy with hy | ⟨p,hp,rfl,hDp⟩
      ·have:=hrsB _ hy;omega
      ·simp only[getD_put hil] at hDp
       intro e
       have:p=i:=by omega
       subst this;simp at hDp
    · rw[calm1 hhs]
      refine hsr'.congr (fun j=>?_) (by rw[putF_next];show _=(putF _ _ _ _).next;rw[putF_next])
      show _=(T.set _ _ _ _).get j
      rw[T.get_set,putF_h,putF_h,withF_get,withF_get]
      by_cases e:j=nb+i
      ·subst e
       rw[pick_mem ffun hmem (by simp only[qD,getD_put hil,hgi];simp)]
       simp
      ·simp only[e,if_false]
       have hpc:pick nb (qD (fun j=>(listed.setIfInBounds i true).getD j false) (gm (masks ops.toList) (lastH rs 0 (fun j=>listed.getD j false) (none,st)).1)) fs j =
         pick nb (qD (fun j=>listed.getD j false) (gm (masks ops.toList) (lastH rs 0 (fun j=>listed.getD j false) (none,st)).1)) fs j:=by
        cases h1:pick nb (qD (fun j=>(listed.setIfInBounds i true).getD j false) (gm (masks ops.toList) (lastH rs 0 (fun j=>listed.getD j false) (none,st)).1)) fs j with
        | some b =>
         obtain⟨p,q1,q2,rfl⟩:=pick_some h1
         have hne:p≠i:=fun h=>e (by rw[h])
         simp only[qD,getD_put hil,hne,decide_false,Bool.false_or] at q2
         rw[pick_mem ffun q1 q2]
        | none =>
         cases h2:pick nb (qD (fun j=>listed.getD j false) (gm (masks ops.toList) (lastH rs 0 (fun j=>listed.getD j false) (none,st)).1)) fs j with
         | none=>rfl
         | some b =>
          obtain⟨p,q1,q2,rfl⟩:=pick_some h2
          have hne:p≠i:=fun h=>e (by rw[h])
          refine absurd rfl (pick_none h1 p b q1 ?_)
          simp only[qD,getD_put hil,hne,decide_false,Bool.false_or]
          exact q2
       rw[hpc]
   ·-- it is not wanted
    rw[hro] at hw
    refine plain _ hrob ?_ (.inl ⟨hhs,rfl,calm1 hhs⟩)
    have hgn:=isFree_guard (hro▸hfree)
    simp only[wantedA,hgn] at hw
    cases hw
  ·cases hlt:isLight E o with
   | true =>
    rw[hro,hlt,if_pos rfl] at hhs
    obtain⟨s1,h1⟩:=light_again (f:=stepV E call round ops.toList) (fun o fr st r h hp st'=>pureV_any hp h st') hT hR (by rw[hfs];exact hok) (D:=fun j=>listed.getD j false) hcl hri hfree hhs hDi (by rw[hro];exact hready)
    rw[hro,hfs] at h1
    have h2:=lightV_st hlt h1
    simp only at h2
    exact plain s1 hob (by rw[hcong];exact h1) (.inl ⟨hhs,h2,calm1 hhs⟩)
   | false =>
    rw[hro] at hhs hland hf hfree
    simp only[hlt,Bool.false_eq_true,if_false] at hhs
    have hcalm:isCalm E o=false:=by simp[isCalm,hlt,hfree]
    have hother:∀(j:Nat) (q:Rec),rs[j]? = some q→q.hs≠none→j≠i→(j<i→listed.getD j false=true)∧(i<j→listed.getD j false=false):=fun j q hq hne hji=>by
      have hlq:isCalm E q.o=false:=by
       rcases (hR.at_ j q hq).2.2.2.2 with⟨_,h3,_⟩ | ⟨h2,_,_,_,h3,_⟩
       ·exact absurd h3 hne
       ·cases hl:isLight E q.o with
        | false=>simp[isCalm,hl,h2]
        | true=>simp[hl] at h3;exact absurd h3 hne
      obtain⟨t1,t2⟩:=hT.heavy i j o q.o ho (hrec hq) hcalm hlq
      exact⟨fun h=>hbef j (t1 h),fun h=>haft j q hq (t2 h)⟩
    have hsame:lastH rs 0 (fun j=>listed.getD j false) (none,st)=lastH rs 0 (fun j=>decide (j<i)) (none,st):=lastH_congr rs 0 _ _ _ fun j q hq hne=>by
      simp only[Nat.zero_add]
      by_cases e:j=i
      ·subst e;simp[hDi]
      ·obtain⟨t1,t2⟩:=hother j q hq hne e
       by_cases hlt:j<i
       ·simp[hlt,t1 hlt]
       ·simp[hlt,t2 (by omega)]
    rw[←hsame] at hf
    rw[←hsame] at hland
    refine plain s' hob (by rw[hcong];exact hf) (.inr ⟨?_,fun p hp=>land_bit (hland hlt) hp⟩)
    have:=lastH_at rs 0 (fun j=>(listed.setIfInBounds i true).getD j false) (none,st) i r s' hri hhs (by rw[Nat.zero_add,getD_put hil];simp) (fun j q hq hlt' hne=>by
      rw[Nat.zero_add,getD_put hil,(hother j q hq hne (by omega)).2 hlt']
      have:¬j=i:=by omega
      simp[this])
    rw[this,Nat.zero_add]
theorem drawA_ok (hE:E.Ok P):DrawOK P E (drawA E):=by
 intro call round hc hr B w0 ops fr st fr' st' h ι w a rl id hsr hfr
 simp only[drawA] at h
 cases hS:okS E ops.toList
 ·simp[hS] at h
 simp only[hS,cond_true,force_eq] at h
 split at h
 ·simp at h
 rename_i rs fr1 g st1 hrun
 have hT:=okS_ok hS
 have hR:=run_ok (fun o fr st r h hl=>lightV_st hl h) (mask_lt hT.down) hrun
 have hboth:(fr1=fr'∧putF st.next (fun p=>!bit g p) (frees rs 0) st1=st')∧okSlots st.next (frees rs 0) (heavies rs (masks ops.toList) 0)=true ∧
   (heavies rs (masks ops.toList) 0=[]∨okRecs E (stepV E call round ops.toList) st.next (frees rs 0) (heavies rs (masks ops.toList) 0) {h:=st.h,next:=st.next+ops.toList.length} (masks ops.toList) rs 0=true):=by
  have slots0:∀H,okSlots st.next [] H=true:=fun H=>by simp[okSlots]
  split at h
  ·rename_i hfn
   rw[hfn]
   split at h
   ·rename_i hnil
    simp only[Option.some.injEq,Prod.mk.injEq] at h
    exact⟨h,slots0 _,.inl hnil⟩
   ·cases hb:okRecs E (stepV E call round ops.toList) st.next [] (heavies rs (masks ops.toList) 0) {h:=st.h,next:=st.next+ops.toList.length} (masks ops.toList) rs 0
    ·rw[hb] at h;simp at h
    ·rw[hb] at h
     simp only[cond_true,Option.some.injEq,Prod.mk.injEq] at h
     exact⟨h,slots0 _,.inr rfl⟩
  ·split at h
   ·rename_i hnil
    simp only[Option.some.injEq,Prod.mk.injEq] at h
    exact⟨h,by rw[hnil];rfl,.inl hnil⟩
   ·cases hs:okSlots st.next (frees rs 0) (heavies rs (masks ops.toList) 0)
    ·rw[hs] at h;simp at h
    ·rw[hs] at h
     simp only[cond_true] at h
     cases hb:okRecs E (stepV E call round ops.toList) st.next (frees rs 0) (heavies rs (masks ops.toList) 0) {h:=st.h,next:=st.next+ops.toList.length} (masks ops.toList) rs 0
     ·rw[hb] at h;simp at h
     ·rw[hb] at h
      simp only[cond_true,Option.some.injEq,Prod.mk.injEq] at h
      exact⟨h,rfl,.inr rfl⟩
 obtain⟨⟨rfl,rfl⟩,hslot,hok⟩:=hboth
 refine wpIn_region_any hE.mixed ?_
 have hfalse:∀j,(Array.replicate ops.size false).getD j false=false:=fun j=>by
  by_cases hj:j<ops.size<;>simp[Array.getD_eq_getD_getElem?,hj]
 have hnone:∀p,st.h.get (st.next+p)=none:=fun p=>by
  cases hx:st.h.get (st.next+p) with
  | none=>rfl
  | some y=>have:=hsr.hdom _ y hx;omega
 have hl0:lastH rs 0 (fun j=>(Array.replicate ops.size false).getD j false) (none,({h:=st.h,next:=st.next+ops.toList.length}:ASt))=(none,{h:=st.h,next:=st.next+ops.toList.length}) :=
  lastH_none rs 0 _ _ (fun j r _ _=>hfalse _)
 refine draw_any hE hc hr hT hR hok hslot hnone (fun i hi=>(hsr.res i hi).1) (ι0:=ι) (fun ι' a' w' h1 h2 h3=>⟨rfl,ι',h1,h2,h3⟩) ops.size _ ι a _ fr (by simp) (by simp[Array.toList_replicate]) (fun i o _ h=>?_) ι.le_refl hfr rfl rfl (fun t=>?_) ?_
 ·simp only[hfalse] at h;cases h
 ·rw[val_none rs 0 _ _ (fun j r _ _=>hfalse _)];rfl
 ·rw[hl0]
  refine ((hsr.drawn _).reserve ops.size (fun j=>(Array.replicate ops.size false).getD j false)).congr (fun j=>?_) (by rw[putF_next];simp)
  rw[putF_h,withF_get]
  cases hp:pick st.next (qD (fun j=>(Array.replicate ops.size false).getD j false) (gm (masks ops.toList) none)) (frees rs 0) j with
  | none=>rfl
  | some b =>
   obtain⟨p,_,q2,_⟩:=pick_some hp
   simp only[qD,hfalse,Bool.false_and] at q2
   cases q2
end
end
end Go.Ax
end

section
namespace Go.Ax
noncomputable section
open Go.RowKit
def tyT (P:Program) (l:List Nat):T TI:=l.foldl (fun t i=>match mkTI P i with | some ti=>t.set 11 i ti | none=>t) .e
theorem tyT_ok {P:Program} (l:List Nat):∀t ti,(tyT P l).get t=some ti→mkTI P t=some ti:=by
 have key:∀(l:List Nat) (s:T TI),(∀t ti,s.get t=some ti→mkTI P t=some ti)→∀t ti,(l.foldl (fun t i=>match mkTI P i with | some ti=>t.set 11 i ti | none=>t) s).get t=some ti→mkTI P t=some ti:=by
  intro l
  induction l with
  | nil=>intro s hs t ti h;exact hs t ti h
  | cons i l ih =>
   intro s hs t ti h
   refine ih _ (fun t ti ht=>?_) t ti h
   cases hi:mkTI P i with
   | none=>simp only[hi] at ht;exact hs t ti ht
   | some x =>
    simp only[hi,T.get_set] at ht
    by_cases e:t=i
    ·subst e;simp at ht;rw[hi,ht]
    ·simp only[e,if_false] at ht;exact hs t ti ht
 exact key l .e (fun t ti h=>by simp[T.get_e] at h)
def fnT (l:List (Nat×Func)):T Func:=l.foldl (fun t p=>t.set 11 p.1 p.2) .e
structure FnOK (P:Program) (f:Nat) (fn:Func):Prop where
 at_:P.funcs[f]? = some fn
 call:∀args w,(callFunc f args).run P w=.ok (.enter f args) w
def AllFn (P:Program):List (Nat×Func)→Prop
 | []=>True
 | p::ps=>FnOK P p.1 p.2∧AllFn P ps
theorem fnT_ok {P:Program} {l:List (Nat×Func)} (h:AllFn P l):∀f fn,(fnT l).get f=some fn→FnOK P f fn:=by
 have key:∀(l:List (Nat×Func)),AllFn P l→∀(s:T Func),(∀f fn,s.get f=some fn→FnOK P f fn)→∀f fn,(l.foldl (fun t p=>t.set 11 p.1 p.2) s).get f=some fn→FnOK P f fn:=by
  intro l
  induction l with
  | nil=>intro _ s hs f fn h;exact hs f fn h
  | cons p l ih =>
   intro hl s hs f fn h
   refine ih hl.2 _ (fun f fn hf=>?_) f fn h
   simp only[T.get_set] at hf
   by_cases e:f=p.1
   ·subst e;simp at hf;rw[←hf];exact hl.1
   ·simp only[e,if_false] at hf;exact hs f fn hf
 exact key l h .e (fun f fn h=>by simp[T.get_e] at h)
def noSum:CallT:=fun _ _ _=>none
theorem noSum_ok {P:Program}:CallsOK P noSum:=fun _ _ _ _ _ _ h=>by simp[noSum] at h
end
end Go.Ax
end

section
namespace Go.Ax
noncomputable section
open Go.RowKit
structure ExOK (P:Program) (f:Nat) (g:List AV→Option AV):Prop where
 ok:∀ι args args' v w,GlobOK w→g args=some v→args.length=args'.size→(∀(i:Nat) x x',args[i]? = some x→args'[i]? = some x'→VR ι x x') →
  (∃v',(callFunc f args').run P w=.ok (.value v') w∧VR ι v v') ∨
  ((callFunc f args').run P w=.ok (.enter f args') w∧CallsIn Fence.wide 0 P f args' w fun e w'=>∃x,e=.returned x∧VR ι v x∧Keeps (fun k=>k<w.heap.size) w w')
def AllEx (P:Program):List (Nat×(List AV→Option AV))→Prop
 | []=>True
 | p::ps=>ExOK P p.1 p.2∧AllEx P ps
def exT (l:List (Nat×(List AV→Option AV))):T (List AV→Option AV):=l.foldl (fun t p=>t.set 11 p.1 p.2) .e
theorem exT_ok {P:Program} {l:List (Nat×(List AV→Option AV))} (h:AllEx P l):∀f g,(exT l).get f=some g→ExOK P f g:=by
 have key:∀(l:List (Nat×(List AV→Option AV))),AllEx P l→∀(s:T (List AV→Option AV)),(∀f g,s.get f=some g→ExOK P f g)→∀f g,(l.foldl (fun t p=>t.set 11 p.1 p.2) s).get f=some g→ExOK P f g:=by
  intro l
  induction l with
  | nil=>intro _ s hs f fn h;exact hs f fn h
  | cons p l ih =>
   intro hl s hs f fn h
   refine ih hl.2 _ (fun f fn hf=>?_) f fn h
   simp only[T.get_set] at hf
   by_cases e:f=p.1
   ·subst e;simp at hf;rw[←hf];exact hl.1
   ·simp only[e,if_false] at hf;exact hs f fn hf
 exact key l h .e (fun f fn h=>by simp[T.get_e] at h)
def envEx (P:Program) (ts:List Nat) (fs:List (Nat×Func)) (xs:List (Nat×(List AV→Option AV))):Env:={ty:=tyT P ts,fn:=fnT fs,ex:=exT xs}
theorem envEx_ok {P:Program} {ts:List Nat} {fs:List (Nat×Func)} {xs:List (Nat×(List AV→Option AV))} (h:AllFn P fs) (hx:AllEx P xs) (hm:P.follows .mixedOrders=true):Env.Ok P (envEx P ts fs xs) where
 ty:=tyT_ok ts
 fn:=fun f fn hf=>(fnT_ok h f fn hf).at_
 call:=fun f fn hf args w=>(fnT_ok h f fn hf).call args w
 ex:=fun f g hg=>(exT_ok hx f g hg).ok
 mixed:=hm
end
end Go.Ax
end

section
namespace Go.Ax
noncomputable section
open Go.RowKit
def ans:Option (AV×ASt)→Option AV
 | some (v,_)=>some v
 | none=>none
theorem ans_some {q:Option (AV×ASt)} {v:AV} (h:ans q=some v):∃st,q=some (v,st):=by
 match q,h with
 | some (x,st),h=>simp only[ans,Option.some.injEq] at h;subst h;exact⟨st,rfl⟩
def orC (s t:CallT):CallT:=fun f args st=>match s f args st with | some r=>some r | none=>t f args st
theorem orC_ok {P:Program} {s t:CallT} (hs:CallsOK P s) (ht:CallsOK P t):CallsOK P (orC s t):=fun B w0 f args st r h=>by
 simp only[orC] at h
 split at h
 ·rename_i x hx
  simp only[Option.some.injEq] at h;subst h
  exact hs B w0 f args st _ hx
 ·exact ht B w0 f args st r h
end
end Go.Ax
end

section
namespace Go.Ax
noncomputable section
open Go.RowKit
def seqL:Code→Code
 | .seq a _=>a
 | c=>c
def seqR:Code→Code
 | .seq _ b=>b
 | c=>c
def blkB:Code→Code
 | .block _ b=>b
 | c=>c
def lopB:Code→Code
 | .loop b=>b
 | c=>c
section
variable {E:Env} {draw:DrawT} {sum:CallT} {n:Nat} {ro:Option Nat} {fr fr1:AFr} {st st1:ASt} {r:Exit×AFr×ASt}
end
def mkSt (l:List (Nat×AO)) (n:Nat):ASt:={h:=l.foldl (fun t p=>t.set D p.1 p.2) .e,next:=n}
end
end Go.Ax
end

section
namespace Go.Ax
noncomputable section
open Go.RowKit
end
end Go.Ax
end

section
namespace Go.Ax
noncomputable section
open Go.RowKit
end
end Go.Ax
end

section
namespace Go.Ax
noncomputable section
open Go.RowKit
end
end Go.Ax
end

section
namespace Go.Ax
noncomputable section
open Go.RowKit
inductive Tr (α:Type) where
 | ret (a:Option α)
 | askB (b:Bool) (t f:Tr α)
 | askV (x:Option (AV×ASt)) (k:AV×ASt→Tr α)
 | askE (x:Option (Exit×AFr×ASt)) (k:Exit×AFr×ASt→Tr α)
 | askC (b:Bool) (p:Prop) (h:p→b=true) (t:Tr α)
def Tr.bind {α β:Type} (t:Tr α) (k:α→Tr β):Tr β :=
 @Tr.rec α (fun _=>Tr β) (fun a=>match a with | some a=>k a | none=>.ret none) (fun b _ _ it jf=>.askB b it jf) (fun x _ ih=>.askV x ih) (fun x _ ih=>.askE x ih) (fun b p h _ ih=>.askC b p h ih) t
def Tr.ev {α:Type} (t:Tr α):Option α :=
 @Tr.rec α (fun _=>Option α) (fun a=>a) (fun b _ _ it jf=>bif b then it else jf) (fun x _ ih=>match x with | some y=>ih y | none=>none) (fun x _ ih=>match x with | some y=>ih y | none=>none) (fun b _ _ _ ih=>bif b then ih else none) t
def Tr.all {α:Type} (Q:α→Prop) (t:Tr α):Prop :=
 @Tr.rec α (fun _=>Prop) (fun a=>match a with | some a=>Q a | none=>False) (fun b _ _ it jf=>(b=true→it)∧(b=false→jf))
  (fun x _ ih=>∃y,x=some y∧ih y) (fun x _ ih=>∃y,x=some y∧ih y) (fun _ p _ _ ih=>p∧ih) t
theorem Tr.all_ev {α:Type} {Q:α→Prop} (t:Tr α) (h:t.all Q):∃a,t.ev=some a∧Q a:=by
 induction t with
 | ret a=>cases a with
  | some a=>exact⟨a,rfl,h⟩
  | none=>exact h.elim
 | askB b t f it jf=>cases b with
  | true=>exact it (h.1 rfl)
  | false=>exact jf (h.2 rfl)
 | askV x k ih=>obtain⟨y,rfl,h⟩:=h;exact ih y h
 | askE x k ih=>obtain⟨y,rfl,h⟩:=h;exact ih y h
 | askC b p hp t ih =>
  have hb:=hp h.1
  subst hb
  exact ih h.2
theorem Tr.bind_ev {α β:Type} (t:Tr α) (k:α→Tr β):(t.bind k).ev=match t.ev with | some a=>(k a).ev | none=>none:=by
 induction t with
 | ret a=>cases a<;>rfl
 | askB b t f it jf=>cases b with
  | true=>exact it
  | false=>exact jf
 | askV x f ih=>cases x with
  | some y=>exact ih y
  | none=>rfl
 | askE x f ih=>cases x with
  | some y=>exact ih y
  | none=>rfl
 | askC b p hp t ih=>cases b with
  | true=>exact ih
  | false=>rfl
structure Fl where
 v:List Nat
 c:List Nat
 b:List Nat
 l:List Nat
def flOf:List (Nat×Fl)→Nat→Option Fl
 | [],_=>none
 | x::xs,f=>bif Nat.beq x.1 f then some x.2 else flOf xs f
def memO (l:List Nat):Option Nat→Bool
 | some d=>memN d l
 | none=>memN 4095 l
abbrev CallTT:=FuncId→List AV→ASt→Tr (AV×ASt)
abbrev ExecTT:=Option Nat→Code→AFr→ASt→Tr (Exit×AFr×ASt)
def openO (fl:Fl) (o:Oper):Bool:=memO fl.v o.dst || (memO fl.c o.dst || memO fl.b o.dst)
def askR (x:Option (AV×ASt)):Tr (AV×ASt) :=
 match x with
 | some (.bool b,st)=>.askB b (.ret (some (.bool true,st))) (.ret (some (.bool false,st)))
 | r=>.ret r
theorem askR_ev (x:Option (AV×ASt)):(askR x).ev=x:=by
 unfold askR
 split
 ·rename_i b st;cases b<;>rfl
 ·rfl
def aCallT (E:Env) (call:CallT) (round:CallT) (callT roundT:CallTT) (o:Oper) (fr:AFr) (st:ASt):Tr (AV×ASt) :=
 match o.op with
 | .call c =>
  match evL fr c.args.toList with
  | none=>.ret none
  | some args =>
   match c.callee with
   | .value f =>
    match evA fr f with
    | some (.clos g caps) =>
     match E.ex.get g with
     | some x=>.ret (still st (x (args++caps)))
     | none=>callT g (args++caps) st
    | some (.bound g fs caps)=>callT g (fs++args++caps) st
    | some (.yield l)=>roundT l args st
    | _=>.ret none
   | _=>.ret (aOp E call round o fr st)
 | _=>.ret (aOp E call round o fr st)
def goT (E:Env) (call:CallT) (round:CallT) (callT roundT:CallTT) (fl:Fl) (o:Oper) (fr:AFr) (st:ASt):Tr (AV×ASt) :=
 bif memO fl.v o.dst then .askV (aOp E call round o fr st) (fun y=>bif memO fl.b o.dst then askR (some y) else .ret (some y))
 else bif memO fl.c o.dst then aCallT E call round callT roundT o fr st
 else bif memO fl.b o.dst then askR (aOp E call round o fr st)
 else .ret (aOp E call round o fr st)
def stepT (E:Env) (call:CallT) (round:CallT) (callT roundT:CallTT) (fl:Fl) (ops:List Oper) (o:Oper) (fr:AFr) (st:ASt):Tr (AV×ASt) :=
 bif guardAny ops fr o then .ret none else
 bif wantedA ops fr o then goT E call round callT roundT fl o fr st else .ret (some (undefA,st))
section
variable {E:Env} {call round:CallT} {callT roundT:CallTT}
theorem goT_ev (hc:∀f a s,(callT f a s).ev=call f a s) (hr:∀f a s,(roundT f a s).ev=round f a s) (fl:Fl) (o:Oper) (fr:AFr) (st:ASt):(goT E call round callT roundT fl o fr st).ev=aOp E call round o fr st:=by
 unfold goT
 cases memO fl.v o.dst
 ·cases memO fl.c o.dst
  ·cases memO fl.b o.dst
   ·rfl
   ·exact askR_ev _
  ·show (aCallT E call round callT roundT o fr st).ev=_
   unfold aCallT
   split
   ·rename_i c ho
    have e:aOp E call round o fr st=aCall E call round c fr st:=by unfold aOp;rw[ho]
    rw[e]
    unfold aCall
    cases ha:evL fr c.args.toList with
    | none=>rfl
    | some args =>
     simp only
     cases hf:c.callee with
     | builtin b =>
      simp only[Tr.ev]
     | invoke r m =>
      simp only[Tr.ev]
     | value f =>
      simp only
      cases hv:evA fr f with
      | none=>rfl
      | some v =>
       cases v with
       | clos g caps =>
        simp only
        cases E.ex.get g with
        | some x=>rfl
        | none=>exact hc _ _ _
       | bound g fs caps=>exact hc _ _ _
       | yield l=>exact hr _ _ _
       | _=>rfl
   ·rfl
 ·show (match aOp E call round o fr st with | some y=>(bif memO fl.b o.dst then askR (some y) else Tr.ret (some y)).ev | none=>none)=_
  cases aOp E call round o fr st with
  | none=>rfl
  | some y =>
   cases memO fl.b o.dst
   ·rfl
   ·exact askR_ev (some y)
theorem stepT_ev (hc:∀f a s,(callT f a s).ev=call f a s) (hr:∀f a s,(roundT f a s).ev=round f a s) (fl:Fl) (ops:List Oper) (o:Oper) (fr:AFr) (st:ASt) :
  (stepT E call round callT roundT fl ops o fr st).ev=stepV E call round ops o fr st:=by
 unfold stepT stepV
 cases guardAny ops fr o
 ·simp only[cond_false]
  cases wantedA ops fr o
  ·rfl
  ·exact goT_ev hc hr fl o fr st
 ·rfl
end
def regT (s:Oper→AFr→ASt→Tr (AV×ASt)):List Oper→AFr→ASt→Tr (AFr×ASt)
 | [],fr,st=>.ret (some (fr,st))
 | o::os,fr,st=>(s o fr st).bind fun r=>match fr.put o.dst r.1 with | some fr'=>regT s os fr' r.2 | none=>.ret none
theorem regT_ev {E:Env} {call round:CallT} {ops:List Oper} {s:Oper→AFr→ASt→Tr (AV×ASt)} (hs:∀o fr st,(s o fr st).ev=stepV E call round ops o fr st) :
  ∀(l:List Oper) (fr:AFr) (st:ASt),(regT s l fr st).ev=regL (step E call round ops) l fr st
 | [],fr,st=>rfl
 | o::os,fr,st=>by
  simp only[regT,regL,Tr.bind_ev,hs,step]
  cases stepV E call round ops o fr st with
  | none=>rfl
  | some r =>
   obtain⟨v,st'⟩:=r
   simp only
   cases fr.put o.dst v with
   | none=>rfl
   | some fr'=>exact regT_ev hs os fr' st'
def run1T (E:Env) (s:Oper→AFr→ASt→Tr (AV×ASt)) (wd:AFr→Oper→Bool) (nb:Nat) (bs:List Nat):List Oper→Nat→List (Nat×AO)→Nat→AFr→ASt→Tr (List Rec×AFr×Nat×ASt)
 | [],_,_,g,fr,st=>.ret (some ([],fr,g,st))
 | o::os,i,fs,g,fr,st =>
  bif isFree E o then
   bif wd fr o then
    match aFree E o fr with
    | none=>.ret none
    | some x =>
     match fr.put o.dst (x.2.val (nb+i)) with
     | none=>.ret none
     | some fr'=>(run1T E s wd nb bs os (i+1) (fs++[(i,x.1)]) g fr' st).bind fun z=>.ret (some (⟨o,fr,x.2.val (nb+i),none,some x.1⟩::z.1,z.2))
   else
    match fr.put o.dst undefA with
    | none=>.ret none
    | some fr'=>(run1T E s wd nb bs os (i+1) fs g fr' st).bind fun z=>.ret (some (⟨o,fr,undefA,none,none⟩::z.1,z.2))
  else
   (s o fr (putF nb (qm (bs.getD i 0) g) fs st)).bind fun r =>
    match fr.put o.dst r.1 with
    | none=>.ret none
    | some fr' =>
     bif isLight E o then
      (run1T E s wd nb bs os (i+1) fs g fr' st).bind fun z=>.ret (some (⟨o,fr,r.1,none,none⟩::z.1,z.2))
     else bif Nat.beq (Nat.land g (bs.getD i 0)) g then
      (run1T E s wd nb bs os (i+1) fs (bs.getD i 0) fr' r.2).bind fun z=>.ret (some (⟨o,fr,r.1,some r.2,none⟩::z.1,z.2))
     else .ret none
theorem run1T_ev {E:Env} {f:Oper→AFr→ASt→Option (AV×ASt)} {s:Oper→AFr→ASt→Tr (AV×ASt)} (hs:∀o fr st,(s o fr st).ev=f o fr st) (wd:AFr→Oper→Bool) (nb:Nat) (bs:List Nat) :
  ∀(l:List Oper) (i:Nat) (fs:List (Nat×AO)) (g:Nat) (fr:AFr) (st:ASt),(run1T E s wd nb bs l i fs g fr st).ev=run1 E f wd nb bs l i fs g fr st
 | [],i,fs,g,fr,st=>rfl
 | o::os,i,fs,g,fr,st=>by
  simp only[run1T,run1]
  cases isFree E o
  ·simp only[cond_false,Tr.bind_ev,hs]
   cases f o fr (putF nb (qm (bs.getD i 0) g) fs st) with
   | none=>rfl
   | some r =>
    obtain⟨v,st'⟩:=r
    simp only
    cases fr.put o.dst v with
    | none=>rfl
    | some fr' =>
     simp only
     cases isLight E o
     ·simp only[cond_false]
      cases Nat.beq (Nat.land g (bs.getD i 0)) g
      ·rfl
      ·simp only[cond_true,Tr.bind_ev,run1T_ev hs wd nb bs os]
       cases run1 E f wd nb bs os (i+1) fs (bs.getD i 0) fr' st' with
       | none=>rfl
       | some z=>rfl
     ·simp only[cond_true,Tr.bind_ev,run1T_ev hs wd nb bs os]
      cases run1 E f wd nb bs os (i+1) fs g fr' st with
      | none=>rfl
      | some z=>rfl
  ·simp only[cond_true]
   cases wd fr o
   ·simp only[cond_false]
    cases fr.put o.dst undefA with
    | none=>rfl
    | some fr' =>
     simp only[Tr.bind_ev,run1T_ev hs wd nb bs os]
     cases run1 E f wd nb bs os (i+1) fs g fr' st with
     | none=>rfl
     | some z=>rfl
   ·simp only[cond_true]
    cases aFree E o fr with
    | none=>rfl
    | some x =>
     simp only
     cases fr.put o.dst (x.2.val (nb+i)) with
     | none=>rfl
     | some fr' =>
      simp only[Tr.bind_ev,run1T_ev hs wd nb bs os]
      cases run1 E f wd nb bs os (i+1) (fs++[(i,x.1)]) g fr' st with
      | none=>rfl
      | some z=>rfl
def reO (f:Oper→AFr→ASt→Option (AV×ASt)) (r:Rec) (s:ASt):Option AV×AV:=(match f r.o r.fr s with | some (v,_)=>some v | none=>none,r.v)
def oblG (f:Oper→AFr→ASt→Option (AV×ASt)) (nb:Nat) (fs:List (Nat×AO)) (i m:Nat) (r:Rec) (H:List Hv):List Hv→List (Option AV×AV)
 | []=>[]
 | g::gs=>bif skipS H i m g then oblG f nb fs i m r H gs else reO f r (putF nb (qm m g.m) fs g.s)::oblG f nb fs i m r H gs
def oblRec (E:Env) (f:Oper→AFr→ASt→Option (AV×ASt)) (nb:Nat) (fs:List (Nat×AO)) (H:List Hv) (s0:ASt) (i m:Nat) (r:Rec):List (Option AV×AV) :=
 match r.hs with
 | some _=>[]
 | none =>
  bif isFree E r.o then [] else
  bif isPure E r.o then [] else
  bif skipN H i m then oblG f nb fs i m r H H else reO f r (putF nb (qm m 0) fs s0)::oblG f nb fs i m r H H
def appO:List (Option AV×AV)→List (Option AV×AV)→List (Option AV×AV)
 | [],l=>l
 | x::xs,l=>x::appO xs l
def oblRecs (E:Env) (f:Oper→AFr→ASt→Option (AV×ASt)) (nb:Nat) (fs:List (Nat×AO)) (H:List Hv) (s0:ASt) (bs:List Nat):List Rec→Nat→List (Option AV×AV)
 | [],_=>[]
 | r::rs,i=>appO (oblRec E f nb fs H s0 i (bs.getD i 0) r) (oblRecs E f nb fs H s0 bs rs (i+1))
def holdsO:List (Option AV×AV)→Prop
 | []=>True
 | x::xs=>(x.1=some x.2∧avEq x.2 x.2=true)∧holdsO xs
theorem holdsO_app:∀{a b:List (Option AV×AV)},holdsO (appO a b)→holdsO a∧holdsO b
 | [],_,h=>⟨trivial,h⟩
 | _::xs,b,h=>let ⟨h1,h2⟩:=holdsO_app (a:=xs) (b:=b) h.2;⟨⟨h.1,h1⟩,h2⟩
theorem reO_ok {f:Oper→AFr→ASt→Option (AV×ASt)} {r:Rec} {s:ASt} (h:(reO f r s).1=some (reO f r s).2∧avEq (reO f r s).2 (reO f r s).2=true):reEv f r s=true:=by
 unfold reO at h
 unfold reEv
 simp only at h
 cases hq:f r.o r.fr s with
 | none=>rw[hq] at h;cases h.1
 | some p =>
  obtain⟨v,st⟩:=p
  rw[hq] at h
  simp only[Option.some.injEq] at h
  simp only
  rw[h.1];exact h.2
theorem oblG_ok {f:Oper→AFr→ASt→Option (AV×ASt)} {nb:Nat} {fs:List (Nat×AO)} {i m:Nat} {r:Rec} {H:List Hv}:∀(G:List Hv),holdsO (oblG f nb fs i m r H G)→(G.all fun g=>bif skipS H i m g then true else reEv f r (putF nb (qm m g.m) fs g.s))=true
 | [],_=>rfl
 | g::gs,h=>by
  simp only[List.all_cons,Bool.and_eq_true]
  unfold oblG at h
  cases hk:skipS H i m g
  ·rw[hk,cond_false] at h
   exact⟨reO_ok h.1,oblG_ok gs h.2⟩
  ·rw[hk,cond_true] at h
   exact⟨rfl,oblG_ok gs h⟩
theorem oblRecs_ok {E:Env} {f:Oper→AFr→ASt→Option (AV×ASt)} {nb:Nat} {fs:List (Nat×AO)} {H:List Hv} {s0:ASt} {bs:List Nat}:∀(rs:List Rec) (i:Nat),holdsO (oblRecs E f nb fs H s0 bs rs i)→okRecs E f nb fs H s0 bs rs i=true
 | [],_,_=>rfl
 | r::rs,i,h=>by
  unfold oblRecs at h
  obtain⟨h1,h2⟩:=holdsO_app h
  unfold okRecs
  have h3:okRec E f nb fs H s0 i (bs.getD i 0) r=true:=by
   unfold oblRec at h1
   unfold okRec
   split
   ·rfl
   ·rename_i hn
    rw[hn] at h1
    simp only at h1
    cases hf:isFree E r.o
    ·rw[hf,cond_false] at h1
     cases hp:isPure E r.o
     ·rw[hp,cond_false] at h1
      simp only[cond_false]
      cases hk:skipN H i (bs.getD i 0)
      ·rw[hk,cond_false] at h1
       simp only[cond_false]
       rw[reO_ok h1.1,cond_true]
       exact oblG_ok H h1.2
      ·rw[hk,cond_true] at h1
       simp only[cond_true]
       exact oblG_ok H h1
     ·rfl
    ·rfl
  rw[h3,cond_true]
  exact oblRecs_ok rs (i+1) h2
def yesT {α:Type} (E:Env) (f:Oper→AFr→ASt→Option (AV×ASt)) (nb:Nat) (fs:List (Nat×AO)) (H:List Hv) (s0:ASt) (bs:List Nat) (rs:List Rec) (a:α):Tr α :=
 .askC (okRecs E f nb fs H s0 bs rs 0) (holdsO (oblRecs E f nb fs H s0 bs rs 0)) (oblRecs_ok rs 0) (.ret (some a))
theorem yesT_ev {α:Type} {E:Env} {f:Oper→AFr→ASt→Option (AV×ASt)} {nb:Nat} {fs:List (Nat×AO)} {H:List Hv} {s0:ASt} {bs:List Nat} {rs:List Rec} (a:α) :
 (yesT E f nb fs H s0 bs rs a).ev=bif okRecs E f nb fs H s0 bs rs 0 then some a else none:=rfl
def drawT (E:Env) (f:Oper→AFr→ASt→Option (AV×ASt)) (s:Oper→AFr→ASt→Tr (AV×ASt)) (ops:List Oper) (fr:AFr) (st:ASt):Tr (AFr×ASt) :=
 bif okS E ops then
  force (st.next+ops.length) fun nx =>
  (run1T E s (fun fr o=>wantedA ops fr o) st.next (masks ops) ops 0 [] 0 fr {h:=st.h,next:=nx}).bind fun z =>
   match z with
   | (rs,fr',g,st') =>
    match frees rs 0 with
    | [] =>
     (match heavies rs (masks ops) 0 with
     | []=>.ret (some (fr',st'))
     | H=>yesT E f st.next [] H {h:=st.h,next:=nx} (masks ops) rs (fr',st'))
    | fs =>
     (match heavies rs (masks ops) 0 with
     | []=>.ret (some (fr',putF st.next (fun p=>Bool.not (bit g p)) fs st'))
     | H=>bif okSlots st.next fs H then yesT E f st.next fs H {h:=st.h,next:=nx} (masks ops) rs (fr',putF st.next (fun p=>Bool.not (bit g p)) fs st') else .ret none)
 else .ret none
theorem drawT_ev {E:Env} {f:Oper→AFr→ASt→Option (AV×ASt)} {s:Oper→AFr→ASt→Tr (AV×ASt)} (hs:∀o fr st,(s o fr st).ev=f o fr st) (ops:List Oper) (fr:AFr) (st:ASt) :
  (drawT E f s ops fr st).ev=drawA E f ops fr st:=by
 unfold drawT drawA
 cases okS E ops
 ·rfl
 ·simp only[cond_true,force_eq,Tr.bind_ev,run1T_ev hs]
  cases run1 E f (fun fr o=>wantedA ops fr o) st.next (masks ops) ops 0 [] 0 fr {h:=st.h,next:=st.next+ops.length} with
  | none=>rfl
  | some z =>
   obtain⟨rs,fr',g,st'⟩:=z
   simp only
   cases frees rs 0 with
   | nil =>
    simp only
    cases heavies rs (masks ops) 0 with
    | nil=>rfl
    | cons a l=>exact yesT_ev _
   | cons x fs =>
    simp only
    cases heavies rs (masks ops) 0 with
    | nil=>rfl
    | cons a l =>
     simp only
     cases okSlots st.next (x::fs) (a::l)
     ·rfl
     ·exact yesT_ev _
def slotP (nb:Nat):List (Nat×AO)→Hv→Prop
 | [],_=>True
 | x::fs,g=>(bif bit g.m x.1 then True else g.s.h.get (nb+x.1)=none)∧slotP nb fs g
def slotsP (nb:Nat) (fs:List (Nat×AO)):List Hv→Prop
 | []=>True
 | g::gs=>slotP nb fs g∧slotsP nb fs gs
theorem slotP_ok {nb:Nat} {g:Hv}:∀{fs:List (Nat×AO)},slotP nb fs g→(fs.all fun x=>bif bit g.m x.1 then true else isNone (g.s.h.get (nb+x.1)))=true
 | [],_=>rfl
 | x::fs,h=>by
  have h2:=slotP_ok (fs:=fs) h.2
  have h1:=h.1
  rw[List.all_cons,h2,Bool.and_true]
  cases hb:bit g.m x.1
  ·rw[hb,cond_false] at h1
   rw[cond_false,h1];rfl
  ·rfl
theorem slotsP_ok {nb:Nat} {fs:List (Nat×AO)}:∀{H:List Hv},slotsP nb fs H→okSlots nb fs H=true
 | [],_=>rfl
 | g::gs,h=>by
  have h2:=slotsP_ok (H:=gs) h.2
  unfold okSlots at h2 ⊢
  rw[List.all_cons,h2,Bool.and_true]
  exact slotP_ok h.1
def drawTr (E:Env) (f:Oper→AFr→ASt→Option (AV×ASt)) (s:Oper→AFr→ASt→Tr (AV×ASt)) (ops:List Oper) (fr:AFr) (st:ASt):Tr (AFr×ASt) :=
 bif okS E ops then
  (run1T E s (fun fr o=>wantedA ops fr o) st.next (masks ops) ops 0 [] 0 fr {h:=st.h,next:=st.next+ops.length}).bind fun z =>
   match z with
   | (rs,fr',g,st') =>
    match frees rs 0 with
    | [] =>
     (match heavies rs (masks ops) 0 with
     | []=>.ret (some (fr',st'))
     | H=>yesT E f st.next [] H {h:=st.h,next:=st.next+ops.length} (masks ops) rs (fr',st'))
    | fs =>
     (match heavies rs (masks ops) 0 with
     | []=>.ret (some (fr',putF st.next (fun p=>Bool.not (bit g p)) fs st'))
     | H=>.askC (okSlots st.next fs H) (slotsP st.next fs H) slotsP_ok (yesT E f st.next fs H {h:=st.h,next:=st.next+ops.length} (masks ops) rs (fr',putF st.next (fun p=>Bool.not (bit g p)) fs st')))
 else .ret none
theorem drawTr_ev {E:Env} {f:Oper→AFr→ASt→Option (AV×ASt)} {s:Oper→AFr→ASt→Tr (AV×ASt)} (hs:∀o fr st,(s o fr st).ev=f o fr st) (ops:List Oper) (fr:AFr) (st:ASt) :
  (drawTr E f s ops fr st).ev=drawA E f ops fr st:=by
 unfold drawTr drawA
 cases okS E ops
 ·rfl
 ·simp only[cond_true,force_eq,Tr.bind_ev,run1T_ev hs]
  cases run1 E f (fun fr o=>wantedA ops fr o) st.next (masks ops) ops 0 [] 0 fr {h:=st.h,next:=st.next+ops.length} with
  | none=>rfl
  | some z =>
   obtain⟨rs,fr',g,st'⟩:=z
   simp only
   cases frees rs 0 with
   | nil =>
    simp only
    cases heavies rs (masks ops) 0 with
    | nil=>rfl
    | cons a l=>exact yesT_ev _
   | cons x fs =>
    simp only
    cases heavies rs (masks ops) 0 with
    | nil=>rfl
    | cons a l =>
     simp only
     show (bif okSlots st.next (x::fs) (a::l) then (yesT E f st.next (x::fs) (a::l) {h:=st.h,next:=st.next+ops.length} (masks ops) rs (fr',putF st.next (fun p=>Bool.not (bit g p)) (x::fs) st')).ev else none)=_
     cases okSlots st.next (x::fs) (a::l)
     ·rfl
     ·exact yesT_ev _
def loopT (f:AFr→ASt→Tr (Exit×AFr×ASt)):Nat→AFr→ASt→Tr (Exit×AFr×ASt)
 | 0,fr,st=>f fr st
 | d+1,fr,st=>(loopT f d fr st).bind fun r=>match r with | (.normal,fr',st')=>loopT f d fr' st' | r=>.ret (some r)
theorem loopT_ev {f:AFr→ASt→Option (Exit×AFr×ASt)} {g:AFr→ASt→Tr (Exit×AFr×ASt)} (h:∀fr st,(g fr st).ev=f fr st):∀(d:Nat) (fr:AFr) (st:ASt),(loopT g d fr st).ev=loopN f d fr st
 | 0,fr,st=>h fr st
 | d+1,fr,st=>by
  simp only[loopT,loopN,Tr.bind_ev,loopT_ev h d]
  cases loopN f d fr st with
  | none=>rfl
  | some r =>
   obtain⟨e,fr',st'⟩:=r
   cases e<;>first | exact loopT_ev h d fr' st' | rfl
def callFT (E:Env) (ex:ExecTT):CallTT:=fun f args st =>
 match E.fn.get f with
 | none=>.ret none
 | some fn =>
  match fn.body with
  | none=>.ret none
  | some c =>
   bif Nat.ble args.length fn.ntmps then
    (ex none c {m:=putArgs args 0 .e,n:=fn.ntmps,defs:=[]} st).bind fun r =>
     match r with
     | (.normal,fr,st')=>.ret (leaveA E fn fr st')
     | (.ret,fr,st')=>.ret (leaveA E fn fr st')
     | _=>.ret none
   else .ret none
theorem callFT_ev {E:Env} {ex:ExecT} {exT:ExecTT} (h:∀ro c fr st,(exT ro c fr st).ev=ex ro c fr st) (f:FuncId) (args:List AV) (st:ASt):(callFT E exT f args st).ev=callF E ex f args st:=by
 unfold callFT callF
 cases E.fn.get f with
 | none=>rfl
 | some fn =>
  simp only
  cases fn.body with
  | none=>rfl
  | some c =>
   simp only
   cases Nat.ble args.length fn.ntmps
   ·rfl
   ·simp only[cond_true,Tr.bind_ev,h]
    cases ex none c {m:=putArgs args 0 .e,n:=fn.ntmps,defs:=[]} st with
    | none=>rfl
    | some r =>
     obtain⟨e,fr',st'⟩:=r
     cases e<;>rfl
def roundFT (ex:ExecTT):CallTT:=fun l args st =>
 match st.h.get l with
 | some (.loop _ _ tm ps as bo _) =>
  match setPs ps args {tm with defs:=[]} with
  | none=>.ret none
  | some fr =>
   (ex (some l) as fr st).bind fun r =>
   match r with
   | (.normal,fr1,st1) =>
    match st1.h.get l with
    | some (.loop .ready pe tm1 ps1 as1 bo1 de1) =>
     (ex (some l) bo fr1 (st1.put l (.loop .busy pe tm1 ps1 as1 bo1 de1))).bind fun r =>
     match r with
     | (.normal,_,st2)=>.ret (endR l none st2)
     | (.ret,_,st2)=>.ret (endR l (some .ret) st2)
     | (.exit id,_,st2)=>.ret (endR l (some (.exit id)) st2)
     | (.goto t,_,st2)=>.ret (endR l (some (.goto t)) st2)
     | _=>.ret none
    | _=>.ret none
   | _=>.ret none
 | _=>.ret none
theorem roundFT_ev {ex:ExecT} {exT:ExecTT} (h:∀ro c fr st,(exT ro c fr st).ev=ex ro c fr st) (l:FuncId) (args:List AV) (st:ASt):(roundFT exT l args st).ev=roundF ex l args st:=by
 unfold roundFT roundF
 cases hl:st.h.get l with
 | none=>rfl
 | some x =>
  cases x<;>simp only<;>first | rfl | skip
  rename_i s0 pe0 tm ps as bo de0
  cases setPs ps args {tm with defs:=[]} with
  | none=>rfl
  | some fr =>
   simp only[Tr.bind_ev,h]
   cases ex (some l) as fr st with
   | none=>rfl
   | some r =>
    obtain⟨e,fr1,st1⟩:=r
    cases e<;>simp only<;>first | rfl | skip
    cases st1.h.get l with
    | none=>rfl
    | some y =>
     cases y with
     | loop s pe tm1 ps1 as1 bo1 de1 =>
      cases s with
      | ready =>
       simp only[Tr.bind_ev,h]
       cases ex (some l) bo fr1 (st1.put l (.loop .busy pe tm1 ps1 as1 bo1 de1)) with
       | none=>rfl
       | some r =>
        obtain⟨e,fr2,st2⟩:=r
        cases e<;>rfl
      | _=>rfl
     | _=>rfl
def scopeT (ex:Code→AFr→ASt→Tr (Exit×AFr×ASt)) (c:Code):Nat→Exit×AFr×ASt→Tr (Exit×AFr×ASt)
 | 0,r =>
  match r with
  | (.goto l,fr,st)=>(match findLabel c l with | some _=>.ret none | none=>.ret (some (.goto l,fr,st)))
  | r=>.ret (some r)
 | d+1,r =>
  match r with
  | (.goto l,fr,st)=>(match findLabel c l with | some rest=>(ex rest fr st).bind (scopeT ex c d) | none=>.ret (some (.goto l,fr,st)))
  | r=>.ret (some r)
theorem scopeT_ev {exT:Code→AFr→ASt→Tr (Exit×AFr×ASt)} {ex:Code→AFr→ASt→Option (Exit×AFr×ASt)} (h:∀c fr st,(exT c fr st).ev=ex c fr st) (c:Code) :
  ∀d r,(scopeT exT c d r).ev=scopeA ex c d (some r)
 | 0,(e,fr,st)=>by
  cases e<;>first | rfl | skip
  rename_i l
  show (match findLabel c l with | some _=>Tr.ret none | none=>Tr.ret (some (Exit.goto l,fr,st))).ev=(match findLabel c l with | some _=>none | none=>some (Exit.goto l,fr,st))
  cases findLabel c l<;>rfl
 | d+1,(e,fr,st)=>by
  cases e<;>first | rfl | skip
  rename_i l
  show (match findLabel c l with | some rest=>(exT rest fr st).bind (scopeT exT c d) | none=>Tr.ret (some (Exit.goto l,fr,st))).ev=(match findLabel c l with | some rest=>scopeA ex c d (ex rest fr st) | none=>some (Exit.goto l,fr,st))
  cases findLabel c l with
  | none=>rfl
  | some rest =>
   simp only[Tr.bind_ev,h]
   cases ex rest fr st with
   | none=>exact (scopeA_none _ _ d).symm
   | some r=>exact scopeT_ev h c d r
structure TMach where
 ex:Fl→ExecTT
 call:CallTT
 round:CallTT
def execT (E:Env) (m:Mach) (t:TMach) (fl:Fl):ExecTT:=fun ro c fr st =>
 match c with
 | .region _ ops false =>
  bif ops.toList.any (openO fl) then
   (regT (stepT E m.call m.round t.call t.round fl ops.toList) ops.toList fr st).bind fun r=>.ret (some (.normal,r.1,r.2))
  else .ret (execF E (drawA E) m.ex m.call m.round ro c fr st)
 | .region _ ops true =>
  bif ops.toList.any (openO fl) then
   (bif memN 4094 fl.v then drawTr E (stepV E m.call m.round ops.toList) (stepT E m.call m.round t.call t.round fl ops.toList) ops.toList fr st else drawT E (stepV E m.call m.round ops.toList) (stepT E m.call m.round t.call t.round fl ops.toList) ops.toList fr st).bind fun r=>.ret (some (.normal,r.1,r.2))
  else .ret (execF E (drawA E) m.ex m.call m.round ro c fr st)
 | .seq a b=>(t.ex fl ro a fr st).bind fun r=>match r with | (.normal,fr',st')=>t.ex fl ro b fr' st' | r=>.ret (some r)
 | .cond x tc ec =>
  match evA fr x with
  | some (.bool v)=>bif v then t.ex fl ro tc fr st else t.ex fl ro ec fr st
  | _=>.ret none
 | .block id body =>
  bif memN id fl.l then .askE (execF E (drawA E) m.ex m.call m.round ro (.block id body) fr st) (fun r=>.ret (some r)) else
  (t.ex fl ro body fr st).bind fun r =>
   match r with
   | (.exit i,fr',st')=>bif Nat.beq i id then .ret (some (.normal,fr',st')) else .ret (some (.exit i,fr',st'))
   | r=>.ret (some r)
 | .loop body =>
  match leftHas body with
  | some _=>.ret (execF E (drawA E) m.ex m.call m.round ro (.loop body) fr st)
  | none=>(loopT (t.ex fl ro body) 24 fr st).bind fun r=>match r with | (.normal,_,_)=>.ret none | r=>.ret (some r)
 | .scope body=>(t.ex fl ro body fr st).bind (scopeT (t.ex fl ro) body 8)
 | c=>.ret (execF E (drawA E) m.ex m.call m.round ro c fr st)
def TM (E:Env) (sum:CallT) (fls:List (Nat×Fl)) (rf:Fl):Nat→TMach
 | 0=>{ex:=fun _ _ _ _ _=>.ret none,call:=fun _ _ _=>.ret none,round:=fun _ _ _=>.ret none}
 | n+1 =>
  let m:=M E (drawA E) sum n
  let t:=TM E sum fls rf n
  {ex:=execT E m t,
   call:=fun f args st=>match flOf fls f with | none=>.ret ((M E (drawA E) sum (n+1)).call f args st) | some fl=>(match sum f args st with | some r=>.ret (some r) | none=>callFT E (t.ex fl) f args st),
   round:=roundFT (t.ex rf)}
theorem execT_ev {E:Env} {m:Mach} {t:TMach} (hx:∀fl ro c fr st,(t.ex fl ro c fr st).ev=m.ex ro c fr st) (hc:∀f a s,(t.call f a s).ev=m.call f a s) (hr:∀f a s,(t.round f a s).ev=m.round f a s)
  (fl:Fl) (ro:Option Nat) (c:Code) (fr:AFr) (st:ASt):(execT E m t fl ro c fr st).ev=execF E (drawA E) m.ex m.call m.round ro c fr st:=by
 unfold execT
 split
 ·rename_i id ops
  cases ops.toList.any (openO fl)
  ·rfl
  ·simp only[cond_true,Tr.bind_ev,regT_ev (stepT_ev hc hr fl ops.toList)]
   show _=(match regL (step E m.call m.round ops.toList) ops.toList fr st with | some (fr',st')=>some (Exit.normal,fr',st') | none=>none)
   cases regL (step E m.call m.round ops.toList) ops.toList fr st<;>rfl
 ·rename_i id ops
  cases ops.toList.any (openO fl)
  ·rfl
  ·have hd:(bif memN 4094 fl.v then drawTr E (stepV E m.call m.round ops.toList) (stepT E m.call m.round t.call t.round fl ops.toList) ops.toList fr st else drawT E (stepV E m.call m.round ops.toList) (stepT E m.call m.round t.call t.round fl ops.toList) ops.toList fr st).ev=drawA E (stepV E m.call m.round ops.toList) ops.toList fr st:=by
    cases memN 4094 fl.v
    ·exact drawT_ev (stepT_ev hc hr fl ops.toList) ops.toList fr st
    ·exact drawTr_ev (stepT_ev hc hr fl ops.toList) ops.toList fr st
   simp only[cond_true,Tr.bind_ev,hd]
   show _=(match drawA E (stepV E m.call m.round ops.toList) ops.toList fr st with | some (fr',st')=>some (Exit.normal,fr',st') | none=>none)
   cases drawA E (stepV E m.call m.round ops.toList) ops.toList fr st<;>rfl
 ·rename_i a b
  simp only[Tr.bind_ev,hx]
  show _=(match m.ex ro a fr st with | some (.normal,fr',st')=>m.ex ro b fr' st' | r=>r)
  cases m.ex ro a fr st with
  | none=>rfl
  | some r =>
   obtain⟨e,fr',st'⟩:=r
   cases e<;>first | exact hx _ _ _ _ _ | rfl
 ·rename_i x tc ec
  show _=(match evA fr x with | some (.bool v)=>bif v then m.ex ro tc fr st else m.ex ro ec fr st | _=>none)
  cases evA fr x with
  | none=>rfl
  | some v =>
   cases v<;>simp only<;>first | rfl | skip
   rename_i v
   cases v<;>exact hx _ _ _ _ _
 ·rename_i id body
  cases memN id fl.l
  ·simp only[cond_false,Tr.bind_ev,hx]
   show _=(match m.ex ro body fr st with | some (Exit.exit i,fr',st')=>bif Nat.beq i id then some (Exit.normal,fr',st') else some (Exit.exit i,fr',st') | r=>r)
   cases m.ex ro body fr st with
   | none=>rfl
   | some r =>
    obtain⟨e,fr',st'⟩:=r
    cases e<;>simp only<;>first | rfl | skip
    rename_i i
    cases Nat.beq i id<;>rfl
  ·simp only[cond_true]
   show (match execF E (drawA E) m.ex m.call m.round ro (.block id body) fr st with | some y=>(Tr.ret (some y)).ev | none=>none)=_
   cases execF E (drawA E) m.ex m.call m.round ro (.block id body) fr st<;>rfl
 ·rename_i body
  split
  ·rfl
  ·rename_i hn
   simp only[Tr.bind_ev,loopT_ev (fun fr st=>hx fl ro body fr st)]
   show _=(match leftHas body with | some _=>(match loopM E m.call m.round m.ex ro body 1000 fr st with | some (.normal,_,_)=>none | r=>r) | none=>(match loopN (m.ex ro body) 24 fr st with | some (.normal,_,_)=>none | r=>r))
   rw[hn]
   simp only
   cases loopN (m.ex ro body) 24 fr st with
   | none=>rfl
   | some r =>
    obtain⟨e,fr',st'⟩:=r
    cases e<;>rfl
 ·rename_i body
  simp only[Tr.bind_ev,hx]
  show _=scopeA (m.ex ro) body 8 (m.ex ro body fr st)
  cases m.ex ro body fr st with
  | none=>rfl
  | some r=>exact scopeT_ev (fun c fr st=>hx fl ro c fr st) body 8 r
 ·rfl
theorem TM_ev (E:Env) (sum:CallT) (fls:List (Nat×Fl)) (rf:Fl):∀n,(∀fl ro c fr st,((TM E sum fls rf n).ex fl ro c fr st).ev=(M E (drawA E) sum n).ex ro c fr st) ∧
  (∀f a s,((TM E sum fls rf n).call f a s).ev=(M E (drawA E) sum n).call f a s)∧(∀f a s,((TM E sum fls rf n).round f a s).ev=(M E (drawA E) sum n).round f a s)
 | 0=>⟨fun _ _ _ _ _=>rfl,fun _ _ _=>rfl,fun _ _ _=>rfl⟩
 | n+1=>by
  obtain⟨h1,h2,h3⟩:=TM_ev E sum fls rf n
  refine⟨fun fl ro c fr st=>execT_ev h1 h2 h3 fl ro c fr st,fun f a s=>?_,fun f a s=>roundFT_ev (h1 rf) f a s⟩
  show (match flOf fls f with | none=>Tr.ret ((M E (drawA E) sum (n+1)).call f a s) | some fl=>(match sum f a s with | some r=>Tr.ret (some r) | none=>callFT E ((TM E sum fls rf n).ex fl) f a s)).ev=_
  cases flOf fls f with
  | none=>rfl
  | some fl =>
   show _=(match sum f a s with | some r=>some r | none=>callF E (M E (drawA E) sum n).ex f a s)
   cases sum f a s with
   | some r=>rfl
   | none=>exact callFT_ev (h1 fl) f a s
theorem TM_call {E:Env} {sum:CallT} {fls:List (Nat×Fl)} {rf:Fl} {n:Nat} {f:FuncId} {args:List AV} {st:ASt} {Q:AV×ASt→Prop} (h:((TM E sum fls rf n).call f args st).all Q) :
  ∃r,(M E (drawA E) sum n).call f args st=some r∧Q r:=by
 obtain⟨a,h1,h2⟩:=Tr.all_ev _ h
 exact⟨a,by rw[←(TM_ev E sum fls rf n).2.1];exact h1,h2⟩
theorem TM_ex {E:Env} {sum:CallT} {fls:List (Nat×Fl)} {rf:Fl} {n:Nat} {fl:Fl} {ro:Option Nat} {c:Code} {fr:AFr} {st:ASt} {Q:Exit×AFr×ASt→Prop} (h:((TM E sum fls rf n).ex fl ro c fr st).all Q) :
  ∃r,(M E (drawA E) sum n).ex ro c fr st=some r∧Q r:=by
 obtain⟨a,h1,h2⟩:=Tr.all_ev _ h
 exact⟨a,by rw[←(TM_ev E sum fls rf n).1];exact h1,h2⟩
end
end Go.Ax
end

section
namespace Go.Ax
noncomputable section
open Go.RowKit
structure Base (B:Prot) (kb:Nat) (κ:Ren):Prop where
 rs:∀i,¬B.rs i
 dom:∀i L,κ i=some L→i<kb
def TrPost (B:Prot) (w0:World) (κ:Ren) (Q:Exit×AFr×ASt→Prop) (e:Exit) (a':Act) (w':World):Prop :=
 ∃r,Q r∧e=r.1∧∃ι',κ.le ι'∧SR B w0 ι' r.2.2 w'∧FRA ι' r.2.1 a'
def Trip (P:Program) (kb:Nat) (ro:Option Nat) (c:Code) (fr:AFr) (st:ASt) (Q:Exit×AFr×ASt→Prop):Prop :=
 ∀B w0 κ,Base B kb κ→∀ι w a rl,κ.le ι→SR B w0 ι st w→FRA ι fr a→RO κ ro rl→c.wpIn (FF rl) 0 P (TrPost B w0 κ Q) a w
def Wk (kb:Nat) (fr:AFr) (st:ASt) (fr':AFr) (st':ASt):Prop:=∀B w0 κ,Base B kb κ→∀ι w a,κ.le ι→SR B w0 ι st w→FRA ι fr a→∃ι',κ.le ι'∧SR B w0 ι' st' w∧FRA ι' fr' a
theorem Wk.refl (kb:Nat) (fr:AFr) (st:ASt):Wk kb fr st fr st:=fun _ _ _ _ ι _ _ hk h g=>⟨ι,hk,h,g⟩
theorem Wk.trans {kb:Nat} {fr fr1 fr2:AFr} {st st1 st2:ASt} (h:Wk kb fr st fr1 st1) (k:Wk kb fr1 st1 fr2 st2):Wk kb fr st fr2 st2:=fun B w0 κ hb ι w a hk h1 h2 =>
 let ⟨ι1,g0,g1,g2⟩:=h B w0 κ hb ι w a hk h1 h2;k B w0 κ hb ι1 w a g0 g1 g2
def canF (keep:List Nat) (fr:AFr):AFr:={m:=(List.range fr.n).foldl (fun t k=>t.set 11 k (bif memN k keep then (fr.m.get k).getD undefA else .any)) .e,n:=fr.n,defs:=fr.defs}
def canL (h:T AO):List Nat→T AO→T AO
 | [],t=>t
 | i::is,t=>match h.get i with | some a=>canL h is (t.set D i a) | none=>canL h is t
def canS (keep:List Nat) (st:ASt):ASt:={h:=canL st.h keep .e,next:=st.next}
theorem canF_get (keep:List Nat) (fr:AFr) (t:Nat):((canF keep fr).m.get t).getD undefA=if t<fr.n then (bif memN t keep then (fr.m.get t).getD undefA else .any) else undefA:=by
 have key:∀(n:Nat) (g:Nat→AV),(((List.range n).foldl (fun t k=>t.set 11 k (g k)) (.e:T AV)).get t)=if t<n then some (g t) else none:=by
  intro n g
  induction n with
  | zero=>simp[T.get_e]
  | succ n ih =>
   rw[List.range_succ,List.foldl_append]
   simp only[List.foldl_cons,List.foldl_nil,T.get_set,ih]
   by_cases h:t=n
   ·subst h;simp
   ·have:(t<n+1)=(t<n):=by apply propext;omega
    simp only[h,if_false,this]
 unfold canF
 simp only[key fr.n]
 by_cases h:t<fr.n<;>simp[h]
theorem canL_get (h:T AO):∀(is:List Nat) (t:T AO) (i:Nat),(∀j a,t.get j=some a→h.get j=some a)→∀a,(canL h is t).get i=some a→h.get i=some a
 | [],t,i,ht,a,hi=>ht i a hi
 | k::ks,t,i,ht,a,hi=>by
  unfold canL at hi
  split at hi
  ·rename_i x hx
   refine canL_get h ks _ i (fun j b hj=>?_) a hi
   rw[T.get_set] at hj
   by_cases e:j=k
   ·subst e;simp at hj;subst hj;exact hx
   ·simp only[e,if_false] at hj;exact ht j b hj
  ·exact canL_get h ks t i ht a hi
theorem can_ok (kf ko:List Nat) (fr:AFr) (st:ASt) {B:Prot} {w0:World} {ι:Ren} {w:World} {a:Act} (h:SR B w0 ι st w) (g:FRA ι fr a):SR B w0 ι (canS ko st) w∧FRA ι (canF kf fr) a:=by
 have get:∀{i x},(canS ko st).h.get i=some x→st.h.get i=some x:=fun {i x} hi=>canL_get st.h ko .e i (fun j b hj=>by rw[T.get_e] at hj;cases hj) x hi
 refine⟨⟨h.below,h.base,fun i a hi=>h.obj i a (get hi),fun i a L hi ho hL=>⟨(h.own i a L (get hi) ho hL).1,fun j a' L' hj=>(h.own i a L (get hi) ho hL).2 j a' L' (get hj)⟩,
  fun i L hL=>h.dom i L hL,fun i a hi=>h.hdom i a (get hi),fun i a L hi=>h.ro i a L (get hi),fun i hi=>h.res i hi,h.glob⟩,⟨g.hf.1,fun t=>?_⟩,g.hd⟩
 rw[canF_get]
 by_cases ht:t<fr.n
 ·simp only[ht,if_true]
  cases memN t kf
  ·exact .any _
  ·exact g.hf.2 t
 ·simp only[ht,if_false]
  have:a.tmps.getD t undef=undef:=by
   have:=g.hf.1
   simp[Array.getD];omega
  rw[this];exact .undef ι
theorem Wk.can (kb:Nat) (kf ko:List Nat) (fr:AFr) (st:ASt):Wk kb fr st (canF kf fr) (canS ko st):=fun _ _ _ _ ι _ _ hk h g=>⟨ι,hk,can_ok kf ko fr st h g⟩
def canR (kf ko:List Nat) (r:Exit×AFr×ASt):Exit×AFr×ASt:=(r.1,canF kf r.2.1,canS ko r.2.2)
def refsV (k:Nat):AV→Prop
 | .ptr (some (i,_))=>i<k
 | .slice (some (i,_)) _ _=>i<k
 | .clos _ cs=>∀c,c∈cs→refsV k c
 | .bound _ fs cs=>(∀c,c∈fs→refsV k c)∧∀c,c∈cs→refsV k c
 | .yield i=>i<k
 | .iface _ v=>refsV k v
 | .agg cs=>∀c,c∈cs→refsV k c
 | .tuple cs=>∀c,c∈cs→refsV k c
 | .map (some i)=>i<k
 | _=>True
def cutR (k:Nat) (ι:Ren):Ren:=fun i=>if i<k then ι i else none
theorem VR.cut {k:Nat} {ι:Ren} {v:AV} {x:Value} (h:VR ι v x):refsV k v→VR (cutR k ι) v x:=by
 have hc:∀{i L},ι i=some L→i<k→cutR k ι i=some L:=fun {i L} hi hk=>by simp[cutR,hk,hi]
 induction h with
 | bool b=>intro _;exact .bool b
 | int k n=>intro _;exact .int k n
 | str l s h=>intro _;exact .str l s h
 | ptrN=>intro _;exact .ptrN
 | ptr i o L h=>intro hr;simp only[refsV] at hr;exact .ptr i o L (hc h hr)
 | sliceN=>intro _;exact .sliceN
 | slice i o l c' L c h hcap hl=>intro hr;simp only[refsV] at hr;exact .slice i o l c' L c (hc h hr) hcap hl
 | clos f cs cs' hs h ih=>intro hr;simp only[refsV] at hr;exact .clos f cs cs' hs fun i v v' hv hv'=>ih i v v' hv hv' (hr v (List.mem_of_getElem? hv))
 | bound f fs cs fs' cs' hs hf h g ih ig=>intro hr;simp only[refsV] at hr;exact .bound f fs cs fs' cs' hs hf (fun i v v' hv hv'=>ih i v v' hv hv' (hr.2 v (List.mem_of_getElem? hv))) (fun i v v' hv hv'=>ig i v v' hv hv' (hr.1 v (List.mem_of_getElem? hv)))
 | yield i L h=>intro hr;simp only[refsV] at hr;exact .yield i L (hc h hr)
 | nilFunc=>intro _;exact .nilFunc
 | iface t v v' h ih=>intro hr;simp only[refsV] at hr;exact .iface t v v' (ih hr)
 | nilIface=>intro _;exact .nilIface
 | agg cs cs' hs hcell h ih=>intro hr;simp only[refsV] at hr;exact .agg cs cs' hs hcell fun i v v' hv hv'=>ih i v v' hv hv' (hr v (List.mem_of_getElem? hv))
 | tuple cs cs' hs h ih=>intro hr;simp only[refsV] at hr;exact .tuple cs cs' hs fun i v v' hv hv'=>ih i v v' hv hv' (hr v (List.mem_of_getElem? hv))
 | mapN=>intro _;exact .mapN
 | map i L h=>intro hr;simp only[refsV] at hr;exact .map i L (hc h hr)
 | slice0 a c=>intro _;exact .slice0 a c
 | gptr g o=>intro _;exact .gptr g o
 | any v=>intro _;exact .any v
section
variable {P:Program} {kb:Nat} {ro:Option Nat} {fr:AFr} {st:ASt} {Q R:Exit×AFr×ASt→Prop}
theorem TrPost.mono {B:Prot} {w0:World} {κ:Ren} {e:Exit} {a':Act} {w':World} (h:TrPost B w0 κ Q e a' w') (hq:∀r,Q r→R r):TrPost B w0 κ R e a' w' :=
 let ⟨r,h1,h2⟩:=h;⟨r,hq r h1,h2⟩
theorem Trip.mono {c:Code} (h:Trip P kb ro c fr st Q) (hq:∀r,Q r→R r):Trip P kb ro c fr st R:=fun B w0 κ hb ι w a rl hk h1 h2 h3 =>
 wpIn_mono (h B w0 κ hb ι w a rl hk h1 h2 h3) fun _ _ _ hp=>hp.mono hq
theorem Trip.exec {E:Env} (hE:E.Ok P) {sum:CallT} (hs:CallsOK P sum) {n:Nat} {c:Code} {r:Exit×AFr×ASt} (h:(M E (drawA E) sum n).ex ro c fr st=some r) (hq:Q r):Trip P kb ro c fr st Q:=fun B w0 _ _ ι w a rl hk h1 h2 h3 =>
 wpIn_mono ((M_ok hE (drawA_ok hE) hs n).ex B w0 ro c fr st r h ι w a rl h1 h2 (h3.mono hk)) fun _ _ _ ⟨he,ι',g1,g2,g3⟩=>⟨r,hq,he,ι',Ren.le_trans hk g1,g2,g3⟩
theorem Trip.run {E:Env} (hE:E.Ok P) {sum:CallT} (hs:CallsOK P sum) {fls:List (Nat×Fl)} {rf:Fl} {n:Nat} {fl:Fl} {c:Code} (h:((TM E sum fls rf n).ex fl ro c fr st).all Q):Trip P kb ro c fr st Q:=by
 obtain⟨r,k1,k2⟩:=TM_ex h
 exact Trip.exec hE hs k1 k2
theorem Trip.less {c:Code} {fr':AFr} {st':ASt} (l:Wk kb fr st fr' st') (h:Trip P kb ro c fr' st' Q):Trip P kb ro c fr st Q:=fun B w0 κ hb ι w a rl hk h1 h2 h3 =>
 let ⟨ι',g0,g1,g2⟩:=l B w0 κ hb ι w a hk h1 h2;h B w0 κ hb ι' w a rl g0 g1 g2 h3
theorem Trip.seq {x y:Code} (h:Trip P kb ro x fr st R) (hn:∀fr' st',R (.normal,fr',st')→Trip P kb ro y fr' st' Q) (he:∀e fr' st',e≠.normal→R (e,fr',st')→Q (e,fr',st')):Trip P kb ro (.seq x y) fr st Q:=fun B w0 κ hb ι w a rl hk h1 h2 h3=>by
 refine wpIn_seq (wpIn_mono (h B w0 κ hb ι w a rl hk h1 h2 h3) ?_)
 rintro e a' w' ⟨⟨e1,fr',st'⟩,hr,he1,ι',g1,g2,g3⟩
 simp only at he1
 subst he1
 cases e with
 | normal=>exact hn fr' st' hr B w0 κ hb ι' w' a' rl g1 g2 g3 h3
 | _=>exact⟨_,he _ fr' st' (by intro h;cases h) hr,rfl,ι',g1,g2,g3⟩
def outB (id:Nat) (Q:Exit×AFr×ASt→Prop) (r:Exit×AFr×ASt):Prop :=
 match r with
 | (.exit i,fr',st')=>(i=id→Q (.normal,fr',st'))∧(i≠id→Q (.exit i,fr',st'))
 | r=>Q r
theorem Trip.block {id:Nat} {x:Code} (h:Trip P kb ro x fr st (outB id Q)):Trip P kb ro (.block id x) fr st Q:=fun B w0 κ hb ι w a rl hk h1 h2 h3=>by
 refine wpIn_block (wpIn_mono (h B w0 κ hb ι w a rl hk h1 h2 h3) ?_)
 rintro e a' w' ⟨⟨e1,fr',st'⟩,hr,he1,ι',g1,g2,g3⟩
 simp only at he1
 subst he1
 cases e with
 | exit i =>
  simp only[Exit.inBlock]
  by_cases hi:i=id
  ·simp only[hi,if_true]
   exact⟨_,hr.1 hi,rfl,ι',g1,g2,g3⟩
  ·simp only[hi,if_false]
   exact⟨_,hr.2 hi,rfl,ι',g1,g2,g3⟩
 | _=>exact⟨_,hr,rfl,ι',g1,g2,g3⟩
def outL (kb:Nat) (I:Nat→AFr→ASt→Prop) (m:Nat) (Q:Exit×AFr×ASt→Prop) (r:Exit×AFr×ASt):Prop :=
 match r with
 | (.normal,fr',st')=>∃m' fr2 st2,m'<m∧Wk kb fr' st' fr2 st2∧I m' fr2 st2
 | r=>Q r
theorem Trip.rounds {x:Code} (I:Nat→AFr→ASt→Prop) (h:∀m fr st,I m fr st→Trip P kb ro x fr st (outL kb I m Q)) :
  ∀(k m:Nat) (fr:AFr) (st:ASt),m<k→I m fr st→∀B w0 κ,Base B kb κ→∀ι w a rl,κ.le ι→SR B w0 ι st w→FRA ι fr a→RO κ ro rl→Code.roundsIn (FF rl) 0 P x (TrPost B w0 κ Q) k a w
 | 0,m,fr,st,hm,h0,B,w0,κ,hb,ι,w,a,rl,hk,h1,h2,h3=>by omega
 | k+1,m,fr,st,hm,h0,B,w0,κ,hb,ι,w,a,rl,hk,h1,h2,h3=>by
  refine wpIn_mono (h m fr st h0 B w0 κ hb ι w a rl hk h1 h2 h3) ?_
  rintro e a' w' ⟨⟨e1,fr',st'⟩,hr,he1,ι',g1,g2,g3⟩
  simp only at he1
  subst he1
  cases e with
  | normal =>
   obtain⟨m',fr2,st2,hlt,l,hi⟩:=hr
   obtain⟨ι2,q1,q2,q3⟩:=l B w0 κ hb ι' w' a' g1 g2 g3
   exact Trip.rounds I h k m' fr2 st2 (by omega) hi B w0 κ hb ι2 w' a' rl q1 q2 q3 h3
  | _=>exact⟨_,hr,rfl,ι',g1,g2,g3⟩
theorem Trip.loop {x:Code} (I:Nat→AFr→ASt→Prop) (h:∀m fr st,I m fr st→Trip P kb ro x fr st (outL kb I m Q)) (m:Nat) (h0:I m fr st):Trip P kb ro (.loop x) fr st Q:=fun B w0 κ hb ι w a rl hk h1 h2 h3 =>
 wpIn_loop_rounds (m+1) (Trip.rounds I h (m+1) m fr st (by omega) h0 B w0 κ hb ι w a rl hk h1 h2 h3)
end
theorem leaveA_okR {P:Program} {E:Env} {B:Prot} {w0:World} {ι:Ren} {w:World} {st:ASt} {fr:AFr} {a:Act} (hE:E.Ok P) {R:AV×ASt→Prop} {fn:Func} {r:AV×ASt} (hsr:SR B w0 ι st w) (hf:FRA ι fr a) (h:leaveA E fn fr st=some r) (hR:R r) {ι0:Ren} (hle:ι0.le ι) :
  LeavesInM Fence.wide 0 P fn a.tmps (fun e w'=>∃v,R v∧Post B w0 ι0 v e w') a.defers .returning w:=by
 simp only[leaveA] at h
 split at h
 ·rename_i st' hk
  split at h
  ·rename_i vs hv
   simp only[Option.some.injEq] at h;subst h
   refine killAll_ok fr.defs st st' a.defers w hk hsr hf.hd fun w' hsr'=>?_
   obtain⟨vs',h1,h2⟩:=resV_ok hE hsr' hf.hf fn.results.toList vs hv
   have hrun:(results fn a.tmps).run P w'=.ok (if h:vs'.toArray.size=1 then vs'.toArray[0] else .tuple vs'.toArray) w':=by
    unfold results
    rw[Array.mapM_eq_mapM_toList]
    simp only[Sem.run_bind,map_eq_pure_bind,Sem.run_pure]
    exact congrArg (fun r:Result (List Value)=>(r.andThen fun a w'=>Result.ok a.toArray w').andThen fun a w'=>Result.ok (if h:a.size=1 then a[0] else Value.tuple a) w') h1
   refine⟨_,hrun,_,hR,_,ι,rfl,hle,hsr',?_⟩
   show VR ι (retV vs) _
   have hs:=h2.size
   match vs,hs,h2 with
   | [],hs,h2 =>
    have:¬vs'.toArray.size=1:=by simp at hs ⊢;omega
    simp only[this,dite_false]
    exact .tuple _ _ h2.size h2.at_
   | [x],hs,h2 =>
    have:vs'.toArray.size=1:=by simp at hs ⊢;omega
    simp only[this,dite_true]
    exact h2.at_ 0 x _ rfl (by simp)
   | x::y::zs,hs,h2 =>
    have:¬vs'.toArray.size=1:=by simp at hs ⊢;omega
    simp only[this,dite_false]
    exact .tuple _ _ h2.size h2.at_
  ·simp at h
 ·simp at h
section
variable {P:Program} {kb:Nat} {ro:Option Nat} {fr:AFr} {st:ASt} {Q R:Exit×AFr×ASt→Prop}
theorem Trip.call {E:Env} (hE:E.Ok P) {f:Nat} {fn:Func} {c:Code} (hfn:E.fn.get f=some fn) (hc:fn.body=some c) {args:List AV} (hb:Nat.ble args.length fn.ntmps=true) {R:AV×ASt→Prop}
  (h:Trip P st.next none c {m:=putArgs args 0 .e,n:=fn.ntmps,defs:=[]} st fun r=>(r.1=.normal∨r.1=.ret)∧∃v,leaveA E fn r.2.1 r.2.2=some v∧R v)
  (B:Prot) (hB:∀i,¬B.rs i) (w0:World) (ι:Ren) (w:World) (args':Array Value) (hsr:SR B w0 ι st w) (hargs:VRs ι args args') :
  (callFunc f args').run P w=.ok (.enter f args') w∧CallsIn Fence.wide 0 P f args' w fun e w'=>∃v,R v∧Post B w0 ι v e w':=by
 refine⟨hE.call f fn hfn args' w,callsIn_of_wp_marks (hE.fn f fn hfn) hc trivial ?_⟩
 have hfr:FRA ι {m:=putArgs args 0 .e,n:=fn.ntmps,defs:=[]} {tmps:=args'++Array.replicate (fn.ntmps - args'.size) undef,defers:=[]} :=
  ⟨enter_FR (Nat.le_of_ble_eq_true hb) hargs,trivial⟩
 refine wpIn_mono (h B w0 ι ⟨hB,hsr.dom⟩ ι w _ none ι.le_refl hsr hfr trivial) ?_
 rintro e a' w' ⟨⟨e1,fr',st'⟩,⟨hr,v,hl,hv⟩,he1,ι',g1,g2,g3⟩
 simp only at he1 hr
 subst he1
 have:=leaveA_okR hE g2 g3 hl hv g1
 rcases hr with rfl | rfl<;>exact this
end
end
end Go.Ax
end
