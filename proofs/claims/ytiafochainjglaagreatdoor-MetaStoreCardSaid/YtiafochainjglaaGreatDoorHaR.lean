/-
  OWN WORK, A PART: an abstract machine for the program's text that the kernel can run, and the proof that it is sound: what it answers is what the program answers; contracts of functions by it. No condition.
-/
import Derived.Test.YtiafochainjglaaGreatDoorHaE
import Derived.KernelRfl
section
namespace Go.Proofs.YtiafochainjglaaGreatDoor.shaPart
open Go.Ax
noncomputable def E3:Env:=envEx Tryz.prog (List.range 337) [(131,Tryz.f131)] []
theorem E3ok:Env.Ok Tryz.prog E3:=envEx_ok (fs:=[(131,Tryz.f131)]) (xs:=[]) ⟨⟨Tryz.func131,Tryz.call131⟩,trivial⟩ trivial mixed
noncomputable def smL:CallT:=orC (qYY [⟨175,[],qGz⟩]) (qHY 176)
theorem smL_ok:CallsOK Tryz.prog smL:=orC_ok (qHZ (l:=[⟨175,[],qGz⟩]) ⟨qVT,trivial⟩) (by rw[qK0];exact qNH)
theorem sumL248 (b:Nat→Nat):ans ((M E3 (drawA E3) smL 40).call 131 [.slice (some (0,0)) 248 (.atl 248)] (stB ((List.range 248).map b)))=some (qOj (qMn ((List.range 248).map b))):=by kernel_rfl
theorem sum_ok:CallsOK Tryz.prog (sumSum 131 [248]):=sumSum_ok (n:=40) E3ok smL_ok rfl (fun m hm b=>by
 simp only[List.mem_cons,List.not_mem_nil,or_false] at hm;rcases hm with rfl
 ·exact sumL248 b)
noncomputable def shaSumF:CallT:=orC (sumSum 131 [248]) (orC (qYY [⟨175,[],qGz⟩]) (qEw 176))
theorem shaSumF_ok:CallsOK Tryz.prog shaSumF:=orC_ok sum_ok (orC_ok (qHZ (l:=[⟨175,[],qGz⟩]) ⟨qVT,trivial⟩) qNH)
end Go.Proofs.YtiafochainjglaaGreatDoor.shaPart
end
section
namespace Go.Ax
section
def W (x:Int):Prop:=∃m:Nat,m<4294967296∧x=.ofNat m
theorem wrap32 (z:Int):qAH .u32 z=.ofNat (qB5 z 4294967296):=by
 unfold qAH;have h:qB5 z 4294967296<4294967296:=by
  cases z with
  | ofNat m=>exact Nat.mod_lt _ (by omega)
  | negSucc m=>show 4294967296 - 1 - m % 4294967296<4294967296;omega
 have hb:Nat.blt (qB5 z (big .u32)) (half .u32)=true:=by
  rw[Nat.blt_eq];exact h
 show (bif Nat.blt (qB5 z (big .u32)) (half .u32) then Int.ofNat (qB5 z (big .u32)) else _)=_;rw[hb];rfl
theorem qWi (z:Int):qB5 z 4294967296<4294967296:=by
 cases z with
 | ofNat m=>exact Nat.mod_lt _ (by omega)
 | negSucc m=>show 4294967296 - 1 - m % 4294967296<4294967296;omega
theorem qEs (z:Int):W (qAH .u32 z):=⟨_,qWi z,wrap32 z⟩
theorem qC7 {m:Nat} (h:m<4294967296):W (.ofNat m):=⟨m,h,rfl⟩
theorem qCb {x:Int} (h:W x):qAH .u32 x=x:=by
 obtain⟨m,hm,rfl⟩:=h;rw[wrap32];show Int.ofNat (m % 4294967296)=_;rw[Nat.mod_eq_of_lt hm]
def qNA (x:Int) (n:Nat):Int:=qDQ (qCV x n) (qDO .u32 x (32 - n))
def q2T (e:Int):Int:=qAH .u32 (4294967295 - e)
def q0u (x y:Int):Int:=qAH .u32 (x*y)
def q1J (x y:Int):Int:=qAH .u32 (x.tdiv y)
theorem qFJ {x:Int} (h:W x) {n:Nat} (h1:0<n) (h2:n<32):qNA x n=qH7 x n:=by
 obtain⟨m,hm,rfl⟩:=h;unfold qNA qH7 qDQ orI;have e1:qCV (.ofNat m) n=.ofNat (m / 2 ^ n):=rfl;have e2:qDO .u32 (.ofNat m) (32 - n)=.ofNat (m % 2 ^ n*2 ^ (32 - n)):=by
  show qAH .u32 (.ofNat (m*2 ^ (32 - n)))=_;rw[wrap32];show Int.ofNat (m*2 ^ (32 - n) % 4294967296)=_;have:(4294967296:Nat)=2 ^ n*2 ^ (32 - n):=by rw[←Nat.pow_add,show n+(32 - n)=32 by omega]
  rw[this,Nat.mul_mod_mul_right]
 have h3:m / 2 ^ n<2 ^ (32 - n):=by
  rw[Nat.div_lt_iff_lt_mul (Nat.two_pow_pos n),←Nat.pow_add,show 32 - n+n=32 by omega];exact hm
 have h4:m % 2 ^ n*2 ^ (32 - n)<4294967296:=by
  have:m % 2 ^ n<2 ^ n:=Nat.mod_lt _ (Nat.two_pow_pos n);have h5:m % 2 ^ n*2 ^ (32 - n)<2 ^ n*2 ^ (32 - n):=Nat.mul_lt_mul_of_pos_right this (Nat.two_pow_pos _);rw[←Nat.pow_add,show n+(32 - n)=32 by omega] at h5;exact h5
 have h5:m / 2 ^ n<4294967296:=Nat.lt_of_le_of_lt (Nat.div_le_self _ _) hm;rw[e1,e2];have e3:qB5 (.ofNat (m % 2 ^ n*2 ^ (32 - n))) 4294967296=m % 2 ^ n*2 ^ (32 - n):=Nat.mod_eq_of_lt h4;have e4:qB5 (.ofNat (m / 2 ^ n)) 4294967296=m / 2 ^ n:=Nat.mod_eq_of_lt h5;rw[e3,e4]
 congr 1
 have:=Nat.two_pow_add_eq_or_of_lt h3 (m % 2 ^ n);show Int.ofNat (m / 2 ^ n+m % 2 ^ n*2 ^ (32 - n))=Int.ofNat (m % 2 ^ n*2 ^ (32 - n) ||| m / 2 ^ n);rw[Nat.mul_comm (m % 2 ^ n),←this,Nat.add_comm]
theorem qZ6 {x:Int} (h:W x):q2T x=q2U x:=by
 obtain⟨m,hm,rfl⟩:=h;unfold q2T q2U
 congr 1
 have e1:qB5 (.ofNat m) 4294967296=m:=Nat.mod_eq_of_lt hm;have e2:qB5 4294967295 4294967296=4294967295:=rfl;rw[e1,e2];have key:4294967295 ^^^ m=4294967295 - m:=by
  have h1:=congrArg BitVec.toNat (BitVec.allOnes_xor (x:=BitVec.ofNat 32 m));rw[BitVec.toNat_xor,BitVec.toNat_not,BitVec.toNat_allOnes,BitVec.toNat_ofNat,Nat.mod_eq_of_lt (show m<2 ^ 32 from hm)] at h1;exact h1
 show (4294967295:Int) - Int.ofNat m=Int.ofNat (4294967295 ^^^ m);rw[key];show (4294967295:Int) - (m:Int)=((4294967295 - m:Nat):Int);omega
theorem qVR {x:Int} (h:W x) (n:Nat):q1J x (.ofNat (2 ^ n))=qCV x n:=by
 obtain⟨m,hm,rfl⟩:=h;unfold q1J;have:(Int.ofNat m).tdiv (.ofNat (2 ^ n))=.ofNat (m / 2 ^ n):=rfl;rw[this];exact qCb (qC7 (Nat.lt_of_le_of_lt (Nat.div_le_self _ _) hm))
theorem qCh (x y:Int):qDQ x y=qDQ y x:=by unfold qDQ;rw[Int.add_comm]
def qTN (w16 x w7 y:Int):Int:=qDQ (qDQ (qDQ w16 (qIW (qIW (qNA x 7) (qNA x 18)) (q1J x (.ofNat 8)))) w7) (qIW (qIW (qNA y 17) (qNA y 19)) (q1J y (.ofNat 1024)))
def q1I:Nat→List Int→List Int
 | 0,l=>l
 | n+1,l=>q1I n (qTN (l.getD 15 0) (l.getD 14 0) (l.getD 6 0) (l.getD 1 0)::l)
def q0q (k w:Int) (s:S8):S8 :=
 match s with
 | ⟨a,b,c,d,e,f,g,h⟩ =>
  let x:=qDQ (qDQ (qDQ (qDQ h (qIW (qIW (qNA e 6) (qNA e 11)) (qNA e 25))) (qIW (qS0 e f) (qS0 (q2T e) g))) k) w
  let y:=qDQ (qIW (qIW (qNA a 2) (qNA a 13)) (qNA a 22)) (qIW (qIW (qS0 a b) (qS0 a c)) (qS0 b c))
  ⟨qDQ x y,a,b,c,qDQ d x,e,f,g⟩
def qSy:List Int→List Int→S8→S8
 | k::ks,w::ws,s=>qSy ks ws (q0q k w s)
 | _,_,s=>s
def qS2 (a b c d:Nat):Int:=qDQ (qDQ (qDQ (q0u (qAH .u32 (.ofNat a)) 16777216) (q0u (qAH .u32 (.ofNat b)) 65536)) (q0u (qAH .u32 (.ofNat c)) 256)) (qAH .u32 (.ofNat d))
def qMi:List Nat→List Int→List Int
 | a::b::c::d::l,acc=>qMi l (qS2 a b c d::acc)
 | _,acc=>acc
def qFK (s:S8) (bs:List Nat):S8 :=
 match qSy qWM (q1I 48 (qMi bs [])).reverse s with
 | ⟨a,b,c,d,e,f,g,h⟩=>⟨qDQ s.a a,qDQ s.b b,qDQ s.c c,qDQ s.d d,qDQ s.e e,qDQ s.f f,qDQ s.g g,qDQ s.h h⟩
theorem qWc {w16 x w7 y:Int} (hx:W x) (hy:W y):qTN w16 x w7 y=qQU w16 x w7 y:=by
 unfold qTN qQU;rw[qFJ hx (by omega) (by omega),qFJ hx (by omega) (by omega),qFJ hy (by omega) (by omega),qFJ hy (by omega) (by omega),show (Int.ofNat 8)=.ofNat (2 ^ 3) from rfl,show (Int.ofNat 1024)=.ofNat (2 ^ 10) from rfl,qVR hx 3,qVR hy 10]
theorem qVY {l:List Int} (h:∀x,x∈l→W x) (i:Nat):W (l.getD i 0):=by
 rw[List.getD_eq_getElem?_getD];cases e:l[i]? with
 | none=>exact qC7 (m:=0) (by omega)
 | some x=>exact h x (List.mem_of_getElem? e)
theorem ext_eq:∀(n:Nat) {l:List Int},(∀x,x∈l→W x)→q1I n l=qVN n l∧∀x,x∈qVN n l→W x
 | 0,l,h=>⟨rfl,h⟩
 | n+1,l,h=>by
  have e:=qWc (w16:=l.getD 15 0) (w7:=l.getD 6 0) (qVY h 14) (qVY h 1);have h2:∀x,x∈qQU (l.getD 15 0) (l.getD 14 0) (l.getD 6 0) (l.getD 1 0)::l→W x:=fun x hx=>by
   rcases List.mem_cons.1 hx with rfl | hx
   ·exact qEs _
   ·exact h x hx
  obtain⟨i1,i2⟩:=ext_eq n h2;exact⟨by show q1I n (qTN _ _ _ _::l)=qVN n (qQU _ _ _ _::l);rw[e];exact i1,i2⟩
def WS (s:S8):Prop:=W s.a∧W s.b∧W s.c∧W s.d∧W s.e∧W s.f∧W s.g∧W s.h
theorem qZN {k w:Int} {s:S8} (h:WS s):q0q k w s=rnd k w s∧WS (rnd k w s):=by
 obtain⟨a,b,c,d,e,f,g,hh⟩:=s;obtain⟨ha,hb,hc,hd,he,hf,hg,hh'⟩:=h
 constructor
 ·unfold q0q rnd;simp only;rw[qFJ he (by omega) (by omega),qFJ he (by omega) (by omega),qFJ he (by omega) (by omega),qFJ ha (by omega) (by omega),qFJ ha (by omega) (by omega),qFJ ha (by omega) (by omega),qZ6 he]
 ·exact⟨qEs _,ha,hb,hc,qEs _,he,hf,hg⟩
theorem qPz:∀(ks ws:List Int) {s:S8},WS s→qSy ks ws s=qWS ks ws s∧WS (qWS ks ws s)
 | [],ws,s,h=>⟨rfl,h⟩
 | k::ks,[],s,h=>⟨rfl,h⟩
 | k::ks,w::ws,s,h=>by
  obtain⟨e,h2⟩:=qZN (k:=k) (w:=w) h;obtain⟨i1,i2⟩:=qPz ks ws h2;exact⟨by show qSy ks ws (q0q k w s)=qWS ks ws (rnd k w s);rw[e];exact i1,i2⟩
theorem qJe {n b:Nat} (hn:n<16777216) (hb:b<256):orI (qDO .u32 (.ofNat n) 8) (.ofNat b)=.ofNat (n*256+b):=by
 have e1:qDO .u32 (.ofNat n) 8=.ofNat (n*256):=by
  have e0:qDO .u32 (.ofNat n) 8=qAH .u32 (.ofNat (n*2 ^ 8)):=rfl;rw[e0,show n*2 ^ 8=n*256 by omega];exact qCb (qC7 (m:=n*256) (by omega))
 unfold orI;rw[e1];have e3:qB5 (.ofNat (n*256)) 4294967296=n*256:=Nat.mod_eq_of_lt (by omega);have e4:qB5 (.ofNat b) 4294967296=b:=Nat.mod_eq_of_lt (by omega);rw[e3,e4];have e5:Nat.lor (n*256) b=n*256+b:=by
  have:=Nat.two_pow_add_eq_or_of_lt (i:=8) (show b<2 ^ 8 from hb) n;rw[show (2 ^ 8*n:Nat)=n*256 by omega] at this;exact this.symm
 rw[e5];exact qCb (qC7 (m:=n*256+b) (by omega))
theorem qV4 {a b c d:Nat} (ha:a<256) (hb:b<256) (hc:c<256) (hd:d<256):qS2 a b c d=word a b c d∧W (word a b c d):=by
 have e:word a b c d=.ofNat (((a*256+b)*256+c)*256+d):=by
  unfold word;rw[qCb (qC7 (m:=a) (by omega)),qCb (qC7 (m:=b) (by omega)),qCb (qC7 (m:=c) (by omega)),qCb (qC7 (m:=d) (by omega))];have s1:orI (qDO .u32 0 8) (.ofNat a)=.ofNat (0*256+a):=qJe (n:=0) (b:=a) (by omega) ha;have s2:=qJe (n:=0*256+a) (b:=b) (by omega) hb;have s3:=qJe (n:=(0*256+a)*256+b) (b:=c) (by omega) hc;have s4:=qJe (n:=((0*256+a)*256+b)*256+c) (b:=d) (by omega) hd;rw[s1,s2,s3,s4];exact congrArg Int.ofNat (by omega)
 refine⟨?_,by rw[e];exact qC7 (by omega)⟩;rw[e];unfold qS2 q0u qDQ;rw[qCb (qC7 (m:=a) (by omega)),qCb (qC7 (m:=b) (by omega)),qCb (qC7 (m:=c) (by omega)),qCb (qC7 (m:=d) (by omega))];have ml:∀x y:Nat,Int.ofNat x*Int.ofNat y=Int.ofNat (x*y):=fun _ _=>rfl;have ad:∀x y:Nat,Int.ofNat x+Int.ofNat y=Int.ofNat (x+y):=fun _ _=>rfl;rw[show (16777216:Int)=.ofNat 16777216 from rfl,show (65536:Int)=.ofNat 65536 from rfl,show (256:Int)=.ofNat 256 from rfl];rw[ml,ml,ml,qCb (qC7 (m:=a*16777216) (by omega)),qCb (qC7 (m:=b*65536) (by omega)),qCb (qC7 (m:=c*256) (by omega))];rw[ad,qCb (qC7 (m:=a*16777216+b*65536) (by omega)),ad,qCb (qC7 (m:=a*16777216+b*65536+c*256) (by omega)),ad,qCb (qC7 (m:=a*16777216+b*65536+c*256+d) (by omega))];exact congrArg Int.ofNat (by omega)
theorem qMh:∀(l:List Nat) (acc:List Int),(∀x,x∈l→x<256)→(∀x,x∈acc→W x)→qMi l acc=words l acc∧∀x,x∈words l acc→W x
 | a::b::c::d::l,acc,h,ha=>by
  obtain⟨e,w⟩:=qV4 (h a (by simp)) (h b (by simp)) (h c (by simp)) (h d (by simp));have h2:∀x,x∈word a b c d::acc→W x:=fun x hx=>by
   rcases List.mem_cons.1 hx with rfl | hx
   ·exact w
   ·exact ha x hx
  obtain⟨i1,i2⟩:=qMh l (word a b c d::acc) (fun x hx=>h x (by simp[hx])) h2;exact⟨by show qMi l (qS2 a b c d::acc)=_;rw[e];exact i1,i2⟩
 | [],acc,_,ha=>⟨rfl,ha⟩
 | [_],acc,_,ha=>⟨rfl,ha⟩
 | [_,_],acc,_,ha=>⟨rfl,ha⟩
 | [_,_,_],acc,_,ha=>⟨rfl,ha⟩
theorem qTI {s:S8} {bs:List Nat} (hs:WS s) (hb:∀x,x∈bs→x<256):qFK s bs=qDF s bs∧WS (qDF s bs):=by
 obtain⟨e1,w1⟩:=qMh bs [] hb (fun x hx=>by cases hx);obtain⟨e2,w2⟩:=ext_eq 48 w1;obtain⟨e3,w3⟩:=qPz qWM (qVN 48 (words bs [])).reverse hs
 constructor
 ·unfold qFK qDF;rw[e1,e2,e3];cases qWS qWM (qVN 48 (words bs [])).reverse s with
  | mk a b c d e f g h =>
   simp only;rw[qCh s.a,qCh s.b,qCh s.c,qCh s.d,qCh s.e,qCh s.f,qCh s.g,qCh s.h]
 ·unfold qDF;cases qWS qWM (qVN 48 (words bs [])).reverse s with
  | mk a b c d e f g h=>exact⟨qEs _,qEs _,qEs _,qEs _,qEs _,qEs _,qEs _,qEs _⟩
end
noncomputable def qWC (fp:Nat):CallT:=fun fn args st =>
 bif Nat.beq fp fn then
  match args with
  | [.agg [.int .u32 a,.int .u32 b,.int .u32 c,.int .u32 d,.int .u32 e,.int .u32 f,.int .u32 g,.int .u32 h],.slice (some (i,o)) len _] =>
   bif Nat.beq len 64 then
    match st.h.get i with
    | some (.cells cs _) =>
     match qAy cs o 64 with
     | some l =>
      match qEJ l with
      | some bs=>some ((qFK ⟨a,b,c,d,e,f,g,h⟩ bs).av,st)
      | none=>none
     | none=>none
    | _=>none
   else none
  | _=>none
 else none
theorem qSp {P:Program} {E:Env} (hE:E.Ok P) {sum:CallT} (hs:CallsOK P sum) {n fp:Nat}
  (hrun:∀(s:S8) (b:Nat→Nat),ans ((M E (drawA E) sum n).call fp [s.av,.slice (some (0,0)) 64 (.atl 64)] (stB ((List.range 64).map b)))=some (qFK s ((List.range 64).map b)).av) :
  CallsOK P (qWC fp):=by
 intro B w0 fn args st r h ι w args' hsr hv;unfold qWC at h;cases hf:Nat.beq fp fn
 ·simp[hf] at h
 simp only[hf,cond_true] at h;have:=qEQ hf;subst this
 split at h
 rotate_left
 ·simp at h
 rename_i a b c d e f g hh i o len cap;cases hl:Nat.beq len 64
 ·simp[hl] at h
 simp only[hl,cond_true] at h;have:=qEQ hl;subst this
 split at h
 rotate_left
 ·simp at h
 rename_i cs rw hi
 split at h
 rotate_left
 ·simp at h
 rename_i l hl
 split at h
 rotate_left
 ·simp at h
 rename_i bs hbs;simp only[qz1] at h;have hll:=(qBQ hl).1;have hb:=qDn hbs;have hlen:bs.length=64:=by rw[hb] at hll;simpa using hll
 have hbl:bs=(List.range 64).map fun j=>bs.getD j 0:=by
  apply List.ext_getElem?;intro j
  by_cases hj:j<64
  ·have hj':j<bs.length:=by omega
   simp[hj,hj']
  ·have hj':¬j<bs.length:=by omega
   simp[hj];omega
 have hr:=hrun ⟨a,b,c,d,e,f,g,hh⟩ fun j=>bs.getD j 0;rw[←hbl] at hr;have:=qDw (pre:=[S8.av ⟨a,b,c,d,e,f,g,hh⟩]) (bs:=bs) (v:=(qFK ⟨a,b,c,d,e,f,g,hh⟩ bs).av) hE hs (n:=n) (f:=fp) (by omega) rfl (S8.pure _) (by rw[hlen];exact hr) hsr hi (by rw[hlen,hl,hb]) (args':=args') (cap:=cap) (by rw[hlen];exact hv);rw[←h];exact this
noncomputable def qPf (fs:Nat) (ns:List Nat):CallT:=fun fn args st =>
 bif Nat.beq fs fn then
  match args with
  | [.slice (some (i,o)) len _] =>
   bif qCY len ns then
    match st.h.get i with
    | some (.cells cs _) =>
     match qAy cs o len with
     | some l =>
      match qEJ l with
      | some bs=>bif bs.all (fun x=>Nat.blt x 256) then some (qOj (qMn bs),st) else none
      | none=>none
     | none=>none
    | _=>none
   else none
  | _=>none
 else none
theorem qSq {P:Program} {E:Env} (hE:E.Ok P) {sum:CallT} (hs:CallsOK P sum) {n fs:Nat} {ns:List Nat} (hpos:qCY 0 ns=false)
  (hrun:∀m,m∈ns→∀(b:Nat→Nat),(∀j,b j<256)→ans ((M E (drawA E) sum n).call fs [.slice (some (0,0)) m (.atl m)] (stB ((List.range m).map b)))=some (qOj (qMn ((List.range m).map b)))) :
  CallsOK P (qPf fs ns):=by
 intro B w0 fn args st r h ι w args' hsr hv;unfold qPf at h;cases hf:Nat.beq fs fn
 ·simp[hf] at h
 simp only[hf,cond_true] at h;have:=qEQ hf;subst this
 split at h
 rotate_left
 ·simp at h
 rename_i i o len cap;cases hm:qCY len ns
 ·simp[hm] at h
 simp only[hm,cond_true] at h
 split at h
 rotate_left
 ·simp at h
 rename_i cs rw hi
 split at h
 rotate_left
 ·simp at h
 rename_i l hl
 split at h
 rotate_left
 ·simp at h
 rename_i bs hbs;cases h8:bs.all (fun x=>Nat.blt x 256)
 ·simp[h8] at h
 simp only[h8,cond_true] at h;simp only[qz1] at h;have hll:=(qBQ hl).1;have hb:=qDn hbs;have hlen:bs.length=len:=by rw[hb] at hll;simpa using hll
 have hmem:len∈ns:=by rw[qEb] at hm;simpa using hm
 have hz:bs.length≠0:=fun e=>by
  rw[hlen] at e;subst e;rw[hm] at hpos;cases hpos
 have hbl:bs=(List.range len).map fun j=>bs.getD j 0:=by
  apply List.ext_getElem?;intro j
  by_cases hj:j<len
  ·have hj':j<bs.length:=by omega
   simp[hj,hj']
  ·have hj':¬j<bs.length:=by omega
   simp[hj];omega
 have hr:=hrun len hmem (fun j=>bs.getD j 0) fun j=>by
  rw[List.getD_eq_getElem?_getD];cases e:bs[j]? with
  | none=>exact Nat.zero_lt_succ _
  | some x=>have:=List.all_eq_true.1 h8 x (List.mem_of_getElem? e);simpa using this
 rw[←hbl] at hr;have:=qDw (pre:=[]) (bs:=bs) (v:=qOj (qMn bs)) hE hs (n:=n) (f:=fs) hz rfl (qKh _) (by rw[hlen];exact hr) hsr hi (by rw[hlen,hl,hb]) (args':=args') (cap:=cap) (by rw[hlen];exact hv);rw[←h];exact this
theorem qNc:∀(l:List (List Nat)) {s:S8},WS s→(∀c,c∈l→∀x,x∈c→x<256)→l.foldl qFK s=l.foldl qDF s
 | [],_,_,_=>rfl
 | c::l,s,hs,h=>by
  obtain⟨e,w⟩:=qTI hs (h c (by simp));show l.foldl qFK (qFK s c)=l.foldl qDF (qDF s c);rw[e];exact qNc l w fun c hc=>h c (by simp[hc])
theorem qIy:∀(k:Nat) (l:List Nat) {c:List Nat} {x:Nat},c∈chunks k l→x∈c→x∈l
 | k+1,l,c,x,hc,hx=>by
  rcases List.mem_cons.1 hc with rfl | hc
  ·exact List.mem_of_mem_take hx
  ·exact List.mem_of_mem_drop (qIy k (l.drop 64) hc hx)
end Go.Ax
namespace Go.Proofs.YtiafochainjglaaGreatDoor.shaPart
open Go.Ax
noncomputable def q2m:List (Nat×Func):=[(186,Tryz.f186),(247,Tryz.f247),(215,Tryz.f215),(248,Tryz.f248)]
noncomputable def ER:Env:=envEx Tryz.prog [0,3,4,5,24,75,176,190,233,234,236] q2m []
theorem qVI:AllFn Tryz.prog q2m:=⟨⟨Tryz.func186,Tryz.call186⟩,⟨Tryz.func247,Tryz.call247⟩,⟨Tryz.func215,Tryz.call215⟩,⟨Tryz.func248,Tryz.call248⟩,trivial⟩
theorem ERok:Env.Ok Tryz.prog ER:=envEx_ok (xs:=[]) qVI trivial mixed
noncomputable def qQB:List AV→Option AV
 | [.int .u32 x,.int .u64 (.ofNat n)]=>bif qCY n [2,6,7,11,13,17,18,19,22,25] then some (.int .u32 (qNA x n)) else none
 | _=>none
theorem qQA (x:Int):∀n,n∈[2,6,7,11,13,17,18,19,22,25]→ans ((M ER (drawA ER) qAa 40).call 248 [.int .u32 x,.int .u64 (.ofNat n)] st0)=some (.int .u32 (qNA x n)):=fun n hm=>by
 simp only[List.mem_cons,List.not_mem_nil,or_false] at hm;rcases hm with rfl | rfl | rfl | rfl | rfl | rfl | rfl | rfl | rfl | rfl<;>kernel_rfl
theorem qSz:ExOK Tryz.prog 248 qQB:=by
 refine qQI (n:=40) ERok qAB Tryz.call248 fun args v h=>?_;unfold qQB at h
 split at h
 rotate_left
 ·simp at h
 rename_i x n;cases hm:qCY n [2,6,7,11,13,17,18,19,22,25]
 ·simp[hm] at h
 simp only[hm,cond_true,qz1] at h;subst h;rw[qEb] at hm;exact⟨rfl,rfl,qHO (qQA x n (by simpa using hm))⟩
noncomputable def EQ:Env:=envEx Tryz.prog [0,3,4,5,24,75,176,190,233,234,236] q2m [(248,qQB)]
theorem qOh:Env.Ok Tryz.prog EQ:=envEx_ok qVI ⟨qSz,trivial⟩ mixed
theorem qOK (s:S8) (b:Nat→Nat):ans ((M EQ (drawA EQ) qAa 40).call 215 [s.av,.slice (some (0,0)) 64 (.atl 64)] (stB ((List.range 64).map b)))=some (qFK s ((List.range 64).map b)).av:=by kernel_rfl
theorem qSo (b:Nat→Nat):ans ((M EQ (drawA EQ) (qWC 215) 40).call 186 [.slice (some (0,0)) 248 (.atl 248)] (stB ((List.range 248).map b)))=some (qOj ((chunks 5 ((List.range 248).map b++qHb 248)).foldl qFK qPm)):=by kernel_rfl
theorem sumR_ok:CallsOK Tryz.prog (qPf 186 [248]):=qSq qOh (qSp qOh qAB qOK) rfl fun m hm b hb=>by
 simp only[List.mem_cons,List.not_mem_nil,or_false] at hm;subst hm;refine (qSo b).trans ?_;have W0:WS qPm:=⟨qC7 (m:=0x6a09e667) (by omega),qC7 (m:=0xbb67ae85) (by omega),qC7 (m:=0x3c6ef372) (by omega),qC7 (m:=0xa54ff53a) (by omega),qC7 (m:=0x510e527f) (by omega),qC7 (m:=0x9b05688c) (by omega),qC7 (m:=0x1f83d9ab) (by omega),qC7 (m:=0x5be0cd19) (by omega)⟩;have hp:∀x,x∈qHb 248→x<256:=by decide
 rw[qNc _ W0 fun c hc x hx=>?_]
 ·unfold qMn;rw[List.length_map,List.length_range]
 ·rcases List.mem_append.1 (qIy 5 _ hc hx) with h | h
  ·obtain⟨i,_,rfl⟩:=List.mem_map.1 h;exact hb i
  ·exact hp x h
end Go.Proofs.YtiafochainjglaaGreatDoor.shaPart
end
