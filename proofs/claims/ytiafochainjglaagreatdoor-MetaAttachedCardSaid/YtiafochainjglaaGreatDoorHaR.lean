/-
  OWN WORK, A PART: an abstract machine for the program's text that the kernel can run, and the proof that it is sound: what it answers is what the program answers; contracts of functions by it. No condition.
-/
import Derived.Test.YtiafochainjglaaGreatDoorHaE
import Derived.KernelRfl
section
namespace Go.Proofs.YtiafochainjglaaGreatDoor.shaPart
open Go.Ax
noncomputable def E3:Env:=envEx Tryz.prog (List.range 337) [(131,Tryz.f131)] []
theorem E3ok:Env.Ok Tryz.prog E3:=envEx_ok (fs:=[(131,Tryz.f131)]) (xs:=[]) ⟨⟨Tryz.func131,Tryz.call131⟩,trivial⟩ trivial mixed
noncomputable def smL:CallT:=orC (sumC [⟨175,[],shaKv⟩]) (sumPressL 176)
theorem smL_ok:CallsOK Tryz.prog smL:=orC_ok (sumC_ok (l:=[⟨175,[],shaKv⟩]) ⟨consts,trivial⟩) (by rw[sumPressL_eq];exact press_ok)
theorem sumL248 (b:Nat→Nat):ans ((M E3 (drawA E3) smL 40).call 131 [.slice (some (0,0)) 248 (.atl 248)] (stB ((List.range 248).map b)))=some (outI (sumI ((List.range 248).map b))):=by kernel_rfl
theorem sum_ok:CallsOK Tryz.prog (sumSum 131 [248]):=sumSum_ok (n:=40) E3ok smL_ok rfl (fun m hm b=>by
 simp only[List.mem_cons,List.not_mem_nil,or_false] at hm
 rcases hm with rfl
 ·exact sumL248 b)
noncomputable def shaSumF:CallT:=orC (sumSum 131 [248]) (orC (sumC [⟨175,[],shaKv⟩]) (sumPress 176))
theorem shaSumF_ok:CallsOK Tryz.prog shaSumF:=orC_ok sum_ok (orC_ok (sumC_ok (l:=[⟨175,[],shaKv⟩]) ⟨consts,trivial⟩) press_ok)
end Go.Proofs.YtiafochainjglaaGreatDoor.shaPart
end

section
namespace Go.Ax
section
def W (x:Int):Prop:=∃m:Nat,m<4294967296∧x=.ofNat m
theorem wrap32 (z:Int):wrapF .u32 z=.ofNat (modN z 4294967296):=by
 unfold wrapF
 have h:modN z 4294967296<4294967296:=by
  cases z with
  | ofNat m=>exact Nat.mod_lt _ (by omega)
  | negSucc m=>show 4294967296 - 1 - m % 4294967296<4294967296;omega
 have hb:Nat.blt (modN z (big .u32)) (half .u32)=true:=by
  rw[Nat.blt_eq];exact h
 show (bif Nat.blt (modN z (big .u32)) (half .u32) then Int.ofNat (modN z (big .u32)) else _)=_
 rw[hb];rfl
theorem modN_lt (z:Int):modN z 4294967296<4294967296:=by
 cases z with
 | ofNat m=>exact Nat.mod_lt _ (by omega)
 | negSucc m=>show 4294967296 - 1 - m % 4294967296<4294967296;omega
theorem W_wrap (z:Int):W (wrapF .u32 z):=⟨_,modN_lt z,wrap32 z⟩
theorem W_nat {m:Nat} (h:m<4294967296):W (.ofNat m):=⟨m,h,rfl⟩
theorem wrap_W {x:Int} (h:W x):wrapF .u32 x=x:=by
 obtain⟨m,hm,rfl⟩:=h
 rw[wrap32]
 show Int.ofNat (m % 4294967296)=_
 rw[Nat.mod_eq_of_lt hm]
def rotR (x:Int) (n:Nat):Int:=addI (shrF x n) (shlF .u32 x (32 - n))
def notR (e:Int):Int:=wrapF .u32 (4294967295 - e)
def mulI (x y:Int):Int:=wrapF .u32 (x*y)
def divI (x y:Int):Int:=wrapF .u32 (x.tdiv y)
theorem rot_eq {x:Int} (h:W x) {n:Nat} (h1:0<n) (h2:n<32):rotR x n=rotI x n:=by
 obtain⟨m,hm,rfl⟩:=h
 unfold rotR rotI addI orI
 have e1:shrF (.ofNat m) n=.ofNat (m / 2 ^ n):=rfl
 have e2:shlF .u32 (.ofNat m) (32 - n)=.ofNat (m % 2 ^ n*2 ^ (32 - n)):=by
  show wrapF .u32 (.ofNat (m*2 ^ (32 - n)))=_
  rw[wrap32]
  show Int.ofNat (m*2 ^ (32 - n) % 4294967296)=_
  have:(4294967296:Nat)=2 ^ n*2 ^ (32 - n):=by rw[←Nat.pow_add,show n+(32 - n)=32 by omega]
  rw[this,Nat.mul_mod_mul_right]
 have h3:m / 2 ^ n<2 ^ (32 - n):=by
  rw[Nat.div_lt_iff_lt_mul (Nat.two_pow_pos n),←Nat.pow_add,show 32 - n+n=32 by omega];exact hm
 have h4:m % 2 ^ n*2 ^ (32 - n)<4294967296:=by
  have:m % 2 ^ n<2 ^ n:=Nat.mod_lt _ (Nat.two_pow_pos n)
  have h5:m % 2 ^ n*2 ^ (32 - n)<2 ^ n*2 ^ (32 - n):=Nat.mul_lt_mul_of_pos_right this (Nat.two_pow_pos _)
  rw[←Nat.pow_add,show n+(32 - n)=32 by omega] at h5
  exact h5
 have h5:m / 2 ^ n<4294967296:=Nat.lt_of_le_of_lt (Nat.div_le_self _ _) hm
 rw[e1,e2]
 have e3:modN (.ofNat (m % 2 ^ n*2 ^ (32 - n))) 4294967296=m % 2 ^ n*2 ^ (32 - n):=Nat.mod_eq_of_lt h4
 have e4:modN (.ofNat (m / 2 ^ n)) 4294967296=m / 2 ^ n:=Nat.mod_eq_of_lt h5
 rw[e3,e4]
 congr 1
 have:=Nat.two_pow_add_eq_or_of_lt h3 (m % 2 ^ n)
 show Int.ofNat (m / 2 ^ n+m % 2 ^ n*2 ^ (32 - n))=Int.ofNat (m % 2 ^ n*2 ^ (32 - n) ||| m / 2 ^ n)
 rw[Nat.mul_comm (m % 2 ^ n),←this,Nat.add_comm]
theorem not_eq {x:Int} (h:W x):notR x=notI x:=by
 obtain⟨m,hm,rfl⟩:=h
 unfold notR notI
 congr 1
 have e1:modN (.ofNat m) 4294967296=m:=Nat.mod_eq_of_lt hm
 have e2:modN 4294967295 4294967296=4294967295:=rfl
 rw[e1,e2]
 have key:4294967295 ^^^ m=4294967295 - m:=by
  have h1:=congrArg BitVec.toNat (BitVec.allOnes_xor (x:=BitVec.ofNat 32 m))
  rw[BitVec.toNat_xor,BitVec.toNat_not,BitVec.toNat_allOnes,BitVec.toNat_ofNat,Nat.mod_eq_of_lt (show m<2 ^ 32 from hm)] at h1
  exact h1
 show (4294967295:Int) - Int.ofNat m=Int.ofNat (4294967295 ^^^ m)
 rw[key]
 show (4294967295:Int) - (m:Int)=((4294967295 - m:Nat):Int)
 omega
theorem div_eq {x:Int} (h:W x) (n:Nat):divI x (.ofNat (2 ^ n))=shrF x n:=by
 obtain⟨m,hm,rfl⟩:=h
 unfold divI
 have:(Int.ofNat m).tdiv (.ofNat (2 ^ n))=.ofNat (m / 2 ^ n):=rfl
 rw[this]
 exact wrap_W (W_nat (Nat.lt_of_le_of_lt (Nat.div_le_self _ _) hm))
theorem add_comm' (x y:Int):addI x y=addI y x:=by unfold addI;rw[Int.add_comm]
def nextR (w16 x w7 y:Int):Int:=addI (addI (addI w16 (xorI (xorI (rotR x 7) (rotR x 18)) (divI x (.ofNat 8)))) w7) (xorI (xorI (rotR y 17) (rotR y 19)) (divI y (.ofNat 1024)))
def extR:Nat→List Int→List Int
 | 0,l=>l
 | n+1,l=>extR n (nextR (l.getD 15 0) (l.getD 14 0) (l.getD 6 0) (l.getD 1 0)::l)
def rndR (k w:Int) (s:S8):S8 :=
 match s with
 | ⟨a,b,c,d,e,f,g,h⟩ =>
  let x:=addI (addI (addI (addI h (xorI (xorI (rotR e 6) (rotR e 11)) (rotR e 25))) (xorI (andI e f) (andI (notR e) g))) k) w
  let y:=addI (xorI (xorI (rotR a 2) (rotR a 13)) (rotR a 22)) (xorI (xorI (andI a b) (andI a c)) (andI b c))
  ⟨addI x y,a,b,c,addI d x,e,f,g⟩
def rndsR:List Int→List Int→S8→S8
 | k::ks,w::ws,s=>rndsR ks ws (rndR k w s)
 | _,_,s=>s
def wordR (a b c d:Nat):Int:=addI (addI (addI (mulI (wrapF .u32 (.ofNat a)) 16777216) (mulI (wrapF .u32 (.ofNat b)) 65536)) (mulI (wrapF .u32 (.ofNat c)) 256)) (wrapF .u32 (.ofNat d))
def wordsR:List Nat→List Int→List Int
 | a::b::c::d::l,acc=>wordsR l (wordR a b c d::acc)
 | _,acc=>acc
def pressR (s:S8) (bs:List Nat):S8 :=
 match rndsR shaK (extR 48 (wordsR bs [])).reverse s with
 | ⟨a,b,c,d,e,f,g,h⟩=>⟨addI s.a a,addI s.b b,addI s.c c,addI s.d d,addI s.e e,addI s.f f,addI s.g g,addI s.h h⟩
theorem next_eq {w16 x w7 y:Int} (hx:W x) (hy:W y):nextR w16 x w7 y=nextW w16 x w7 y:=by
 unfold nextR nextW
 rw[rot_eq hx (by omega) (by omega),rot_eq hx (by omega) (by omega),rot_eq hy (by omega) (by omega),rot_eq hy (by omega) (by omega),show (Int.ofNat 8)=.ofNat (2 ^ 3) from rfl,show (Int.ofNat 1024)=.ofNat (2 ^ 10) from rfl,div_eq hx 3,div_eq hy 10]
theorem W_getD {l:List Int} (h:∀x,x∈l→W x) (i:Nat):W (l.getD i 0):=by
 rw[List.getD_eq_getElem?_getD]
 cases e:l[i]? with
 | none=>exact W_nat (m:=0) (by omega)
 | some x=>exact h x (List.mem_of_getElem? e)
theorem ext_eq:∀(n:Nat) {l:List Int},(∀x,x∈l→W x)→extR n l=extW n l∧∀x,x∈extW n l→W x
 | 0,l,h=>⟨rfl,h⟩
 | n+1,l,h=>by
  have e:=next_eq (w16:=l.getD 15 0) (w7:=l.getD 6 0) (W_getD h 14) (W_getD h 1)
  have h2:∀x,x∈nextW (l.getD 15 0) (l.getD 14 0) (l.getD 6 0) (l.getD 1 0)::l→W x:=fun x hx=>by
   rcases List.mem_cons.1 hx with rfl | hx
   ·exact W_wrap _
   ·exact h x hx
  obtain⟨i1,i2⟩:=ext_eq n h2
  exact⟨by show extR n (nextR _ _ _ _::l)=extW n (nextW _ _ _ _::l);rw[e];exact i1,i2⟩
def WS (s:S8):Prop:=W s.a∧W s.b∧W s.c∧W s.d∧W s.e∧W s.f∧W s.g∧W s.h
theorem rnd_eq {k w:Int} {s:S8} (h:WS s):rndR k w s=rnd k w s∧WS (rnd k w s):=by
 obtain⟨a,b,c,d,e,f,g,hh⟩:=s
 obtain⟨ha,hb,hc,hd,he,hf,hg,hh'⟩:=h
 constructor
 ·unfold rndR rnd
  simp only
  rw[rot_eq he (by omega) (by omega),rot_eq he (by omega) (by omega),rot_eq he (by omega) (by omega),rot_eq ha (by omega) (by omega),rot_eq ha (by omega) (by omega),rot_eq ha (by omega) (by omega),not_eq he]
 ·exact⟨W_wrap _,ha,hb,hc,W_wrap _,he,hf,hg⟩
theorem rnds_eq:∀(ks ws:List Int) {s:S8},WS s→rndsR ks ws s=rnds ks ws s∧WS (rnds ks ws s)
 | [],ws,s,h=>⟨rfl,h⟩
 | k::ks,[],s,h=>⟨rfl,h⟩
 | k::ks,w::ws,s,h=>by
  obtain⟨e,h2⟩:=rnd_eq (k:=k) (w:=w) h
  obtain⟨i1,i2⟩:=rnds_eq ks ws h2
  exact⟨by show rndsR ks ws (rndR k w s)=rnds ks ws (rnd k w s);rw[e];exact i1,i2⟩
theorem or_step {n b:Nat} (hn:n<16777216) (hb:b<256):orI (shlF .u32 (.ofNat n) 8) (.ofNat b)=.ofNat (n*256+b):=by
 have e1:shlF .u32 (.ofNat n) 8=.ofNat (n*256):=by
  have e0:shlF .u32 (.ofNat n) 8=wrapF .u32 (.ofNat (n*2 ^ 8)):=rfl
  rw[e0,show n*2 ^ 8=n*256 by omega]
  exact wrap_W (W_nat (m:=n*256) (by omega))
 unfold orI
 rw[e1]
 have e3:modN (.ofNat (n*256)) 4294967296=n*256:=Nat.mod_eq_of_lt (by omega)
 have e4:modN (.ofNat b) 4294967296=b:=Nat.mod_eq_of_lt (by omega)
 rw[e3,e4]
 have e5:Nat.lor (n*256) b=n*256+b:=by
  have:=Nat.two_pow_add_eq_or_of_lt (i:=8) (show b<2 ^ 8 from hb) n
  rw[show (2 ^ 8*n:Nat)=n*256 by omega] at this
  exact this.symm
 rw[e5]
 exact wrap_W (W_nat (m:=n*256+b) (by omega))
theorem word_eq {a b c d:Nat} (ha:a<256) (hb:b<256) (hc:c<256) (hd:d<256):wordR a b c d=word a b c d∧W (word a b c d):=by
 have e:word a b c d=.ofNat (((a*256+b)*256+c)*256+d):=by
  unfold word
  rw[wrap_W (W_nat (m:=a) (by omega)),wrap_W (W_nat (m:=b) (by omega)),wrap_W (W_nat (m:=c) (by omega)),wrap_W (W_nat (m:=d) (by omega))]
  have s1:orI (shlF .u32 0 8) (.ofNat a)=.ofNat (0*256+a):=or_step (n:=0) (b:=a) (by omega) ha
  have s2:=or_step (n:=0*256+a) (b:=b) (by omega) hb
  have s3:=or_step (n:=(0*256+a)*256+b) (b:=c) (by omega) hc
  have s4:=or_step (n:=((0*256+a)*256+b)*256+c) (b:=d) (by omega) hd
  rw[s1,s2,s3,s4]
  exact congrArg Int.ofNat (by omega)
 refine⟨?_,by rw[e];exact W_nat (by omega)⟩
 rw[e]
 unfold wordR mulI addI
 rw[wrap_W (W_nat (m:=a) (by omega)),wrap_W (W_nat (m:=b) (by omega)),wrap_W (W_nat (m:=c) (by omega)),wrap_W (W_nat (m:=d) (by omega))]
 have ml:∀x y:Nat,Int.ofNat x*Int.ofNat y=Int.ofNat (x*y):=fun _ _=>rfl
 have ad:∀x y:Nat,Int.ofNat x+Int.ofNat y=Int.ofNat (x+y):=fun _ _=>rfl
 rw[show (16777216:Int)=.ofNat 16777216 from rfl,show (65536:Int)=.ofNat 65536 from rfl,show (256:Int)=.ofNat 256 from rfl]
 rw[ml,ml,ml,wrap_W (W_nat (m:=a*16777216) (by omega)),wrap_W (W_nat (m:=b*65536) (by omega)),wrap_W (W_nat (m:=c*256) (by omega))]
 rw[ad,wrap_W (W_nat (m:=a*16777216+b*65536) (by omega)),ad,wrap_W (W_nat (m:=a*16777216+b*65536+c*256) (by omega)),ad,wrap_W (W_nat (m:=a*16777216+b*65536+c*256+d) (by omega))]
 exact congrArg Int.ofNat (by omega)
theorem words_eq:∀(l:List Nat) (acc:List Int),(∀x,x∈l→x<256)→(∀x,x∈acc→W x)→wordsR l acc=words l acc∧∀x,x∈words l acc→W x
 | a::b::c::d::l,acc,h,ha=>by
  obtain⟨e,w⟩:=word_eq (h a (by simp)) (h b (by simp)) (h c (by simp)) (h d (by simp))
  have h2:∀x,x∈word a b c d::acc→W x:=fun x hx=>by
   rcases List.mem_cons.1 hx with rfl | hx
   ·exact w
   ·exact ha x hx
  obtain⟨i1,i2⟩:=words_eq l (word a b c d::acc) (fun x hx=>h x (by simp[hx])) h2
  exact⟨by show wordsR l (wordR a b c d::acc)=_;rw[e];exact i1,i2⟩
 | [],acc,_,ha=>⟨rfl,ha⟩
 | [_],acc,_,ha=>⟨rfl,ha⟩
 | [_,_],acc,_,ha=>⟨rfl,ha⟩
 | [_,_,_],acc,_,ha=>⟨rfl,ha⟩
theorem press_eq {s:S8} {bs:List Nat} (hs:WS s) (hb:∀x,x∈bs→x<256):pressR s bs=pressI s bs∧WS (pressI s bs):=by
 obtain⟨e1,w1⟩:=words_eq bs [] hb (fun x hx=>by cases hx)
 obtain⟨e2,w2⟩:=ext_eq 48 w1
 obtain⟨e3,w3⟩:=rnds_eq shaK (extW 48 (words bs [])).reverse hs
 constructor
 ·unfold pressR pressI
  rw[e1,e2,e3]
  cases rnds shaK (extW 48 (words bs [])).reverse s with
  | mk a b c d e f g h =>
   simp only
   rw[add_comm' s.a,add_comm' s.b,add_comm' s.c,add_comm' s.d,add_comm' s.e,add_comm' s.f,add_comm' s.g,add_comm' s.h]
 ·unfold pressI
  cases rnds shaK (extW 48 (words bs [])).reverse s with
  | mk a b c d e f g h=>exact⟨W_wrap _,W_wrap _,W_wrap _,W_wrap _,W_wrap _,W_wrap _,W_wrap _,W_wrap _⟩
end
noncomputable def sumPR (fp:Nat):CallT:=fun fn args st =>
 bif Nat.beq fp fn then
  match args with
  | [.agg [.int .u32 a,.int .u32 b,.int .u32 c,.int .u32 d,.int .u32 e,.int .u32 f,.int .u32 g,.int .u32 h],.slice (some (i,o)) len _] =>
   bif Nat.beq len 64 then
    match st.h.get i with
    | some (.cells cs _) =>
     match takeL cs o 64 with
     | some l =>
      match bytesN l with
      | some bs=>some ((pressR ⟨a,b,c,d,e,f,g,h⟩ bs).av,st)
      | none=>none
     | none=>none
    | _=>none
   else none
  | _=>none
 else none
theorem sumPR_ok {P:Program} {E:Env} (hE:E.Ok P) {sum:CallT} (hs:CallsOK P sum) {n fp:Nat}
  (hrun:∀(s:S8) (b:Nat→Nat),ans ((M E (drawA E) sum n).call fp [s.av,.slice (some (0,0)) 64 (.atl 64)] (stB ((List.range 64).map b)))=some (pressR s ((List.range 64).map b)).av) :
  CallsOK P (sumPR fp):=by
 intro B w0 fn args st r h ι w args' hsr hv
 unfold sumPR at h
 cases hf:Nat.beq fp fn
 ·simp[hf] at h
 simp only[hf,cond_true] at h
 have:=nbeq hf
 subst this
 split at h
 rotate_left
 ·simp at h
 rename_i a b c d e f g hh i o len cap
 cases hl:Nat.beq len 64
 ·simp[hl] at h
 simp only[hl,cond_true] at h
 have:=nbeq hl
 subst this
 split at h
 rotate_left
 ·simp at h
 rename_i cs rw hi
 split at h
 rotate_left
 ·simp at h
 rename_i l hl
 split at h
 rotate_left
 ·simp at h
 rename_i bs hbs
 simp only[Option.some.injEq] at h
 have hll:=(takeL_ok hl).1
 have hb:=bytesN_eq hbs
 have hlen:bs.length=64:=by rw[hb] at hll;simpa using hll
 have hbl:bs=(List.range 64).map fun j=>bs.getD j 0:=by
  apply List.ext_getElem?
  intro j
  by_cases hj:j<64
  ·have hj':j<bs.length:=by omega
   simp[hj,hj']
  ·have hj':¬j<bs.length:=by omega
   simp[hj];omega
 have hr:=hrun ⟨a,b,c,d,e,f,g,hh⟩ fun j=>bs.getD j 0
 rw[←hbl] at hr
 have:=local_bytes (pre:=[S8.av ⟨a,b,c,d,e,f,g,hh⟩]) (bs:=bs) (v:=(pressR ⟨a,b,c,d,e,f,g,hh⟩ bs).av) hE hs (n:=n) (f:=fp) (by omega) rfl (S8.pure _) (by rw[hlen];exact hr) hsr hi (by rw[hlen,hl,hb]) (args':=args') (cap:=cap) (by rw[hlen];exact hv)
 rw[←h]
 exact this
noncomputable def sumB8 (fs:Nat) (ns:List Nat):CallT:=fun fn args st =>
 bif Nat.beq fs fn then
  match args with
  | [.slice (some (i,o)) len _] =>
   bif memN len ns then
    match st.h.get i with
    | some (.cells cs _) =>
     match takeL cs o len with
     | some l =>
      match bytesN l with
      | some bs=>bif bs.all (fun x=>Nat.blt x 256) then some (outI (sumI bs),st) else none
      | none=>none
     | none=>none
    | _=>none
   else none
  | _=>none
 else none
theorem sumB8_ok {P:Program} {E:Env} (hE:E.Ok P) {sum:CallT} (hs:CallsOK P sum) {n fs:Nat} {ns:List Nat} (hpos:memN 0 ns=false)
  (hrun:∀m,m∈ns→∀(b:Nat→Nat),(∀j,b j<256)→ans ((M E (drawA E) sum n).call fs [.slice (some (0,0)) m (.atl m)] (stB ((List.range m).map b)))=some (outI (sumI ((List.range m).map b)))) :
  CallsOK P (sumB8 fs ns):=by
 intro B w0 fn args st r h ι w args' hsr hv
 unfold sumB8 at h
 cases hf:Nat.beq fs fn
 ·simp[hf] at h
 simp only[hf,cond_true] at h
 have:=nbeq hf
 subst this
 split at h
 rotate_left
 ·simp at h
 rename_i i o len cap
 cases hm:memN len ns
 ·simp[hm] at h
 simp only[hm,cond_true] at h
 split at h
 rotate_left
 ·simp at h
 rename_i cs rw hi
 split at h
 rotate_left
 ·simp at h
 rename_i l hl
 split at h
 rotate_left
 ·simp at h
 rename_i bs hbs
 cases h8:bs.all (fun x=>Nat.blt x 256)
 ·simp[h8] at h
 simp only[h8,cond_true] at h
 simp only[Option.some.injEq] at h
 have hll:=(takeL_ok hl).1
 have hb:=bytesN_eq hbs
 have hlen:bs.length=len:=by rw[hb] at hll;simpa using hll
 have hmem:len∈ns:=by rw[memN_ok] at hm;simpa using hm
 have hz:bs.length≠0:=fun e=>by
  rw[hlen] at e;subst e;rw[hm] at hpos;cases hpos
 have hbl:bs=(List.range len).map fun j=>bs.getD j 0:=by
  apply List.ext_getElem?
  intro j
  by_cases hj:j<len
  ·have hj':j<bs.length:=by omega
   simp[hj,hj']
  ·have hj':¬j<bs.length:=by omega
   simp[hj];omega
 have hr:=hrun len hmem (fun j=>bs.getD j 0) fun j=>by
  rw[List.getD_eq_getElem?_getD]
  cases e:bs[j]? with
  | none=>exact Nat.zero_lt_succ _
  | some x=>have:=List.all_eq_true.1 h8 x (List.mem_of_getElem? e);simpa using this
 rw[←hbl] at hr
 have:=local_bytes (pre:=[]) (bs:=bs) (v:=outI (sumI bs)) hE hs (n:=n) (f:=fs) hz rfl (outI_pure _) (by rw[hlen];exact hr) hsr hi (by rw[hlen,hl,hb]) (args':=args') (cap:=cap) (by rw[hlen];exact hv)
 rw[←h]
 exact this
theorem folds_eq:∀(l:List (List Nat)) {s:S8},WS s→(∀c,c∈l→∀x,x∈c→x<256)→l.foldl pressR s=l.foldl pressI s
 | [],_,_,_=>rfl
 | c::l,s,hs,h=>by
  obtain⟨e,w⟩:=press_eq hs (h c (by simp))
  show l.foldl pressR (pressR s c)=l.foldl pressI (pressI s c)
  rw[e]
  exact folds_eq l w fun c hc=>h c (by simp[hc])
theorem chunks_mem:∀(k:Nat) (l:List Nat) {c:List Nat} {x:Nat},c∈chunks k l→x∈c→x∈l
 | k+1,l,c,x,hc,hx=>by
  rcases List.mem_cons.1 hc with rfl | hc
  ·exact List.mem_of_mem_take hx
  ·exact List.mem_of_mem_drop (chunks_mem k (l.drop 64) hc hx)
end Go.Ax
namespace Go.Proofs.YtiafochainjglaaGreatDoor.shaPart
open Go.Ax
noncomputable def fnsR:List (Nat×Func):=[(186,Tryz.f186),(247,Tryz.f247),(215,Tryz.f215),(248,Tryz.f248)]
noncomputable def ER:Env:=envEx Tryz.prog [0,3,4,5,24,75,176,190,233,234,236] fnsR []
theorem fnsRok:AllFn Tryz.prog fnsR:=⟨⟨Tryz.func186,Tryz.call186⟩,⟨Tryz.func247,Tryz.call247⟩,⟨Tryz.func215,Tryz.call215⟩,⟨Tryz.func248,Tryz.call248⟩,trivial⟩
theorem ERok:Env.Ok Tryz.prog ER:=envEx_ok (xs:=[]) fnsRok trivial mixed
noncomputable def rightA:List AV→Option AV
 | [.int .u32 x,.int .u64 (.ofNat n)]=>bif memN n [2,6,7,11,13,17,18,19,22,25] then some (.int .u32 (rotR x n)) else none
 | _=>none
theorem right_run (x:Int):∀n,n∈[2,6,7,11,13,17,18,19,22,25]→ans ((M ER (drawA ER) noSum 40).call 248 [.int .u32 x,.int .u64 (.ofNat n)] st0)=some (.int .u32 (rotR x n)):=fun n hm=>by
 simp only[List.mem_cons,List.not_mem_nil,or_false] at hm
 rcases hm with rfl | rfl | rfl | rfl | rfl | rfl | rfl | rfl | rfl | rfl<;>kernel_rfl
theorem right_ok:ExOK Tryz.prog 248 rightA:=by
 refine pure_ex (n:=40) ERok noSum_ok Tryz.call248 fun args v h=>?_
 unfold rightA at h
 split at h
 rotate_left
 ·simp at h
 rename_i x n
 cases hm:memN n [2,6,7,11,13,17,18,19,22,25]
 ·simp[hm] at h
 simp only[hm,cond_true,Option.some.injEq] at h
 subst h
 rw[memN_ok] at hm
 exact⟨rfl,rfl,ans_some (right_run x n (by simpa using hm))⟩
noncomputable def EQ:Env:=envEx Tryz.prog [0,3,4,5,24,75,176,190,233,234,236] fnsR [(248,rightA)]
theorem EQok:Env.Ok Tryz.prog EQ:=envEx_ok fnsRok ⟨right_ok,trivial⟩ mixed
theorem pressR_run (s:S8) (b:Nat→Nat):ans ((M EQ (drawA EQ) noSum 40).call 215 [s.av,.slice (some (0,0)) 64 (.atl 64)] (stB ((List.range 64).map b)))=some (pressR s ((List.range 64).map b)).av:=by kernel_rfl
theorem sumR_run (b:Nat→Nat):ans ((M EQ (drawA EQ) (sumPR 215) 40).call 186 [.slice (some (0,0)) 248 (.atl 248)] (stB ((List.range 248).map b)))=some (outI ((chunks 5 ((List.range 248).map b++padTail 248)).foldl pressR shaS0)):=by kernel_rfl
theorem sumR_ok:CallsOK Tryz.prog (sumB8 186 [248]):=sumB8_ok EQok (sumPR_ok EQok noSum_ok pressR_run) rfl fun m hm b hb=>by
 simp only[List.mem_cons,List.not_mem_nil,or_false] at hm
 subst hm
 refine (sumR_run b).trans ?_
 have W0:WS shaS0:=⟨W_nat (m:=0x6a09e667) (by omega),W_nat (m:=0xbb67ae85) (by omega),W_nat (m:=0x3c6ef372) (by omega),W_nat (m:=0xa54ff53a) (by omega),W_nat (m:=0x510e527f) (by omega),W_nat (m:=0x9b05688c) (by omega),W_nat (m:=0x1f83d9ab) (by omega),W_nat (m:=0x5be0cd19) (by omega)⟩
 have hp:∀x,x∈padTail 248→x<256:=by decide
 rw[folds_eq _ W0 fun c hc x hx=>?_]
 ·unfold sumI
  rw[List.length_map,List.length_range]
 ·rcases List.mem_append.1 (chunks_mem 5 _ hc hx) with h | h
  ·obtain⟨i,_,rfl⟩:=List.mem_map.1 h
   exact hb i
  ·exact hp x h
end Go.Proofs.YtiafochainjglaaGreatDoor.shaPart
end
