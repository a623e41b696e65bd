/-
  OWN WORK, A PART: an abstract machine for the program's text that the kernel can run, and the proof that it is sound: what it answers is what the program answers; contracts of functions by it. No condition.
-/
import Derived.Test.YtiafochainjglaaGreatDoorMtH
import Derived.Test.YtiafochainjglaaGreatDoorMtA
import Derived.KernelRfl
import Derived.Test.YtiafochainjglaaGreatDoorMtE
namespace Go.Proofs.YtiafochainjglaaGreatDoor.drp
open Go Go.Ax Go.Proofs
set_option linter.unusedVariables false
namespace atc
def qFI (ho room:Nat):Nat→List Nat
 | 0=>[]
 | x+1=>if ho / 2 ^ x % 2=1∧(qFI ho room x).length<room then qFI ho room x++[x] else qFI ho room x
theorem qKD (ho room:Nat):∀x,(qFI ho room x).length≤room∧(qFI ho room x).length≤x
 | 0=>⟨Nat.zero_le _,Nat.zero_le _⟩
 | x+1=>by
  have ih:=qKD ho room x;unfold qFI
  split
  ·rename_i h;rw[List.length_append,List.length_singleton];exact⟨by omega,by omega⟩
  ·exact⟨ih.1,by omega⟩
theorem qRH (ho room:Nat):∀x,∀e,e∈qFI ho room x→e<x
 | 0,e,h=>by cases h
 | x+1,e,h=>by
  have ih:=qRH ho room x e;unfold qFI at h
  split at h
  ·rcases List.mem_append.1 h with h | h
   ·have:=ih h;omega
   ·rw[List.mem_singleton.1 h];omega
  ·have:=ih h;omega
end atc
namespace atc
open oo cd cd2 cd3 cd4 cd5 cd9
section
variable {E:Env} {Y:ASt} {a b:Nat} {x y:Operand} {t:TypeId} {k:IntKind}
theorem qZX:still Y (qAD E .lss t x y (.int k (.ofNat a)) (.int k (.ofNat b)))=some (.bool (decide (a<b)),Y):=by
 have e:qAD E .lss t x y (.int k (.ofNat a)) (.int k (.ofNat b))=some (.bool (ltF (.ofNat a) (.ofNat b))):=by cases k<;>rfl
 rw[qBN] at e;exact qAF e
theorem qZY:still Y (qAD E .gtr t x y (.int k (.ofNat a)) (.int k (.ofNat b)))=some (.bool (decide (b<a)),Y):=by
 have e:qAD E .gtr t x y (.int k (.ofNat a)) (.int k (.ofNat b))=some (.bool (ltF (.ofNat b) (.ofNat a))):=by cases k<;>rfl
 rw[qBN] at e;exact qAF e
theorem qZZ:still Y (qAD E .geq t x y (.int k (.ofNat a)) (.int k (.ofNat b)))=some (.bool (!decide (a<b)),Y):=by
 have e:qAD E .geq t x y (.int k (.ofNat a)) (.int k (.ofNat b))=some (.bool (!ltF (.ofNat a) (.ofNat b))):=by cases k<;>rfl
 rw[qBN] at e;exact qAF e
theorem qZ0:still Y (qAD E .eql t x y (.int k (.ofNat a)) (.int k (.ofNat b)))=some (.bool (decide (a=b)),Y):=by
 have e:qAD E .eql t x y (.int k (.ofNat a)) (.int k (.ofNat b))=some (.bool (Nat.beq a b)):=by cases k<;>rfl
 rw[qFc] at e;exact qAF e
theorem qZW:still Y (qAD E .neq t x y (.int k (.ofNat a)) (.int k (.ofNat b)))=some (.bool (!decide (a=b)),Y):=by
 have e:qAD E .neq t x y (.int k (.ofNat a)) (.int k (.ofNat b))=some (.bool (!Nat.beq a b)):=by cases k<;>rfl
 rw[qFc] at e;exact qAF e
theorem lT (h:a<b):still Y (qAD E .lss t x y (.int k (.ofNat a)) (.int k (.ofNat b)))=some (.bool true,Y):=by rw[qZX,decide_eq_true h]
theorem lF (h:b≤a):still Y (qAD E .lss t x y (.int k (.ofNat a)) (.int k (.ofNat b)))=some (.bool false,Y):=by rw[qZX,decide_eq_false (by omega)]
theorem gT (h:b<a):still Y (qAD E .gtr t x y (.int k (.ofNat a)) (.int k (.ofNat b)))=some (.bool true,Y):=by rw[qZY,decide_eq_true h]
theorem gF (h:a≤b):still Y (qAD E .gtr t x y (.int k (.ofNat a)) (.int k (.ofNat b)))=some (.bool false,Y):=by rw[qZY,decide_eq_false (by omega)]
theorem geT (h:b≤a):still Y (qAD E .geq t x y (.int k (.ofNat a)) (.int k (.ofNat b)))=some (.bool true,Y):=by rw[qZZ,decide_eq_false (by omega)];rfl
theorem geF (h:a<b):still Y (qAD E .geq t x y (.int k (.ofNat a)) (.int k (.ofNat b)))=some (.bool false,Y):=by rw[qZZ,decide_eq_true h];rfl
theorem eT (h:a=b):still Y (qAD E .eql t x y (.int k (.ofNat a)) (.int k (.ofNat b)))=some (.bool true,Y):=by rw[qZ0,decide_eq_true h]
theorem eF (h:a≠b):still Y (qAD E .eql t x y (.int k (.ofNat a)) (.int k (.ofNat b)))=some (.bool false,Y):=by rw[qZ0,decide_eq_false h]
theorem nT (h:a≠b):still Y (qAD E .neq t x y (.int k (.ofNat a)) (.int k (.ofNat b)))=some (.bool true,Y):=by rw[qZW,decide_eq_false h];rfl
theorem nF (h:a=b):still Y (qAD E .neq t x y (.int k (.ofNat a)) (.int k (.ofNat b)))=some (.bool false,Y):=by rw[qZW,decide_eq_true h];rfl
theorem qDt (h:a+b<4611686018427387904):still Y (qAD E .add t x y (.int .i64 (.ofNat a)) (.int .i64 (.ofNat b)))=some (.int .i64 (.ofNat (a+b)),Y):=by
 have e:qAD E .add t x y (.int .i64 (.ofNat a)) (.int .i64 (.ofNat b))=some (.int .i64 (qAH .i64 (.ofNat a+.ofNat b))):=rfl;rw[show (Int.ofNat a+Int.ofNat b)=Int.ofNat (a+b) from rfl,qBW (by omega)] at e;exact qAF e
theorem qW6 {z:Nat} (e0:z=a - b) (h:b≤a∧a<4611686018427387904:=by omega):still Y (qAD E .sub t x y (.int .i64 (.ofNat a)) (.int .i64 (.ofNat b)))=some (.int .i64 (.ofNat z),Y):=by
 have e:qAD E .sub t x y (.int .i64 (.ofNat a)) (.int .i64 (.ofNat b))=some (.int .i64 (qAH .i64 (.ofNat a - .ofNat b))):=rfl;rw[show (Int.ofNat a - Int.ofNat b)=Int.ofNat z by simp only[Int.ofNat_eq_natCast];omega,qBW (by omega)] at e;exact qAF e
theorem q2L (h:a<4611686018427387904) (hb:b≠0):still Y (qAD E .quo t x y (.int .i64 (.ofNat a)) (.int .i64 (.ofNat b)))=some (.int .i64 (.ofNat (a / b)),Y):=by
 cases b with
 | zero=>exact absurd rfl hb
 | succ b =>
  have e:qAD E .quo t x y (.int .i64 (.ofNat a)) (.int .i64 (.ofNat (b+1)))=some (.int .i64 (qAH .i64 (Int.tdiv (.ofNat a) (.ofNat (b+1))))):=rfl;rw[show Int.tdiv (.ofNat a) (.ofNat (b+1))=.ofNat (a / (b+1)) from rfl,qBW (by have:=Nat.div_le_self a (b+1);omega)] at e;exact qAF e
theorem qW9 (hb:b≠0):still Y (qAD E .rem t x y (.int k (.ofNat a)) (.int k (.ofNat b)))=some (.int k (.ofNat (a % b)),Y):=by
 cases b with
 | zero=>exact absurd rfl hb
 | succ b =>
  have e:qAD E .rem t x y (.int k (.ofNat a)) (.int k (.ofNat (b+1)))=some (.int k (Int.tmod (.ofNat a) (.ofNat (b+1)))):=by cases k<;>rfl
  rw[show Int.tmod (.ofNat a) (.ofNat (b+1))=.ofNat (a % (b+1)) from rfl] at e;exact qAF e
theorem qW7 {k2:IntKind} (hb:b≤k.bits):still Y (qAD E .shr t x y (.int k (.ofNat a)) (.int k2 (.ofNat b)))=some (.int k (.ofNat (a / 2 ^ b)),Y):=by
 have e:qAD E .shr t x y (.int k (.ofNat a)) (.int k2 (.ofNat b))=(match qFR .shr k (.ofNat a) (.ofNat b) with | some r=>some (.int k r) | none=>none):=rfl;have e2:qFR .shr k (.ofNat a) (.ofNat b)=some (qCV (.ofNat a) b):=by
  show some (qCV (.ofNat a) (bif Nat.ble b k.bits then b else k.bits))=_;rw[qEC hb];rfl
 rw[e2] at e;exact qAF e
theorem qWa {a:Nat}:still Y (qAD E .and t x y (.int .u16 (.ofNat a)) (.int .u16 (.ofNat 1)))=some (.int .u16 (.ofNat (a % 2)),Y):=by
 have e:qAD E .and t x y (.int .u16 (.ofNat a)) (.int .u16 (.ofNat 1))=some (.int .u16 (qAH .u16 (.ofNat (Nat.land (qB5 (.ofNat a) (big .u16)) (qB5 (.ofNat 1) (big .u16)))))):=rfl;have e2:Nat.land (qB5 (.ofNat a) (big .u16)) (qB5 (.ofNat 1) (big .u16))=a % 2:=by
  show (a % 65536) &&& 1=_;rw[Nat.and_one_is_mod];omega
 have e3:qAH .u16 (.ofNat (a % 2))=.ofNat (a % 2):=by
  rcases Nat.mod_two_eq_zero_or_one a with h | h<;>rw[h]<;>rfl
 rw[e2,e3] at e;exact qAF e
theorem qW8 {k2:IntKind} (hb:b≤k.bits):still Y (qAD E .shl t x y (.int k (.ofNat a)) (.int k2 (.ofNat b)))=some (.int k (qAH k (.ofNat (a*2 ^ b))),Y):=by
 have e:qAD E .shl t x y (.int k (.ofNat a)) (.int k2 (.ofNat b))=(match qFR .shl k (.ofNat a) (.ofNat b) with | some r=>some (.int k r) | none=>none):=rfl;have e2:qFR .shl k (.ofNat a) (.ofNat b)=some (qDO k (.ofNat a) b):=by
  show some (qDO k (.ofNat a) (bif Nat.ble b k.bits then b else k.bits))=_;rw[qEC hb];rfl
 rw[e2] at e;exact qAF e
end
theorem qNo {α:Type} {Inv:Nat→α→Prop} {R:Nat→α→α→Prop} {X0:α} (h0:Inv 0 X0):∀n:Nat,(∀i X,i<n→Inv i X→∃X',R i X X'∧Inv (i+1) X')→∃T:Nat→α,T 0=X0∧∀i,i<n→Inv i (T i)∧R i (T i) (T (i+1))∧Inv (i+1) (T (i+1))
 | 0,_=>⟨fun _=>X0,rfl,fun i h=>absurd h (Nat.not_lt_zero i)⟩
 | n+1,hs=>by
  obtain⟨T,h1,h2⟩:=qNo h0 n fun i X hi hI=>hs i X (by omega) hI;have hn:Inv n (T n):=by
   cases n with
   | zero=>rw[h1];exact h0
   | succ k=>exact (h2 k (by omega)).2.2
  obtain⟨X',h3,h4⟩:=hs n (T n) (by omega) hn;refine⟨fun j=>if j≤n then T j else X',by simp[h1],fun i hi=>?_⟩;rcases Nat.lt_or_ge i n with hin | hin
  ·have:=h2 i hin;simp only[show i≤n by omega,show i+1≤n by omega,if_true];exact this
  ·have:i=n:=by omega
   subst this;simp only[Nat.le_refl,if_true,show ¬i+1≤i by omega,if_false];exact⟨hn,h3,h4⟩
theorem Trip.turns {P:Program} {kb:Nat} {ro:Option Nat} {L:Code} {id n:Nat} {T:Nat→AFr×ASt} {F:AFr} {Z:ASt} (h:∀i,i<n→Trip P kb ro L (T i).1 (T i).2 fun r=>r=(.normal,(T (i+1)).1,(T (i+1)).2))
  (hx:Trip P kb ro L (T n).1 (T n).2 fun r=>r=(.exit id,F,Z)):Trip P kb ro (.block id (.loop L)) (T 0).1 (T 0).2 fun r=>r=(.normal,F,Z):=by
 refine Trip.block (Trip.loop (fun m fr st=>∃i,i≤n∧m=n - i∧fr=(T i).1∧st=(T i).2) ?_ n ⟨0,Nat.zero_le _,rfl,rfl,rfl⟩);rintro m fr st ⟨i,hi,rfl,rfl,rfl⟩
 by_cases e:i<n
 ·refine (h i e).mono fun r hr=>?_;subst hr;exact⟨n - (i+1),_,_,by omega,Wk.refl _ _ _,i+1,e,rfl,rfl,rfl⟩
 ·have:i=n:=by omega
  subst this;refine hx.mono fun r hr=>?_;subst hr;exact⟨fun _=>rfl,fun q=>absurd rfl q⟩
theorem Trip.then {P:Program} {kb:Nat} {ro:Option Nat} {a b:Code} {fr F:AFr} {st Z:ASt} {Q:qz2} (h:Trip P kb ro a fr st fun r=>r=(.normal,F,Z)) (h2:Trip P kb ro b F Z Q):Trip P kb ro (.seq a b) fr st Q :=
 Trip.seq h (fun F Y hr=>by cases hr;exact h2) (fun e F Y he hr=>by cases hr;exact absurd rfl he)
section
variable {S Z:ASt} {L:List (Nat×AO)} {n k:Nat}
theorem qP8:∀{L:List (Nat×AO)} {t:T AO},(∀p,p∈L→p.1≠k)→(L.foldl (fun t p=>t.set D p.1 p.2) t).get k=t.get k
 | [],t,_=>rfl
 | p::L,t,h=>by
  show (L.foldl (fun t p=>t.set D p.1 p.2) (t.set D p.1 p.2)).get k=_;rw[qP8 fun q hq=>h q (List.mem_cons_of_mem _ hq),T.get_set,if_neg (fun e=>h p List.mem_cons_self e.symm)]
theorem qU4:∀{L:List (Nat×AO)} {t:T AO} {p:Nat×AO},(L.map (·.1)).Nodup→p∈L→(L.foldl (fun t p=>t.set D p.1 p.2) t).get p.1=some p.2
 | [],t,p,_,h=>by cases h
 | q::L,t,p,hn,h=>by
  rw[List.map_cons,List.nodup_cons] at hn;show (L.foldl (fun t p=>t.set D p.1 p.2) (t.set D q.1 q.2)).get p.1=_;rcases List.mem_cons.1 h with rfl | h
  ·rw[qP8 fun r hr e=>hn.1 (by rw[←e];exact List.mem_map_of_mem hr),T.get_set,if_pos rfl]
  ·exact qU4 hn.2 h
structure Ends (S Z:ASt) (L:List (Nat×AO)):Prop where
 at_:∀p,p∈L→Z.h.get p.1=some p.2
 good:∀p,p∈L→Go.Ax.Good S p.1∧qHB (Go.Ax.Good S) p.2
 old:∀k,k<S.next→(∀p,p∈L→p.1≠k)→Z.h.get k=S.h.get k
structure After (S S':ASt) (L:List (Nat×AO)):Prop where
 at_:∀p,p∈L→S'.h.get p.1=some p.2
 old:∀k,(∀p,p∈L→p.1≠k)→S'.h.get k=S.h.get k
 tidy:Tidy S'
 next:S.next≤S'.next
theorem qAE.ends {P:Program} {E:Env} (hE:E.Ok P) {f:Nat} {fn:Func} {c:Code} (hfn:E.fn.get f=some fn) (hc:fn.body=some c) {args:List AV} (hb:Nat.ble args.length fn.ntmps=true) {N M:Nat} (hN:fn.ntmps=N) {v:AV} (ht:Tidy S) (hnd:(L.map (·.1)).Nodup) (hM:S.next≤M) (hlt:∀p,p∈L→p.1<M) (hgd:∀p,p∈L→Go.Ax.Good S p.1∧qHB (Go.Ax.Good S) p.2) (hv:qCH (Go.Ax.Good S) v)
  (h:Trip P S.next none c {m:=qAM args 0 .e,n:=N,defs:=[]} S (fun r=>(r.1=.normal∨r.1=.ret)∧∃Z,leaveA E fn r.2.1 r.2.2=some (v,Z)∧Ends S Z L∧Z.next≤M)):∃S',qAE P f args S (v,S')∧After S S' L∧S'.next=M:=by
 subst hN;have at':∀p,p∈L→(upS S L M).h.get p.1=some p.2:=fun p hp=>qU4 hnd hp;have ne':∀k,(∀p,p∈L→p.1≠k)→(upS S L M).h.get k=S.h.get k:=fun k hk=>qP8 hk;have hcase:∀k x,(upS S L M).h.get k=some x→(∃p,p∈L∧p.1=k∧p.2=x)∨((∀p,p∈L→p.1≠k)∧S.h.get k=some x):=fun k x hx=>by
  by_cases e:∃p,p∈L∧p.1=k
  ·obtain⟨p,hp,rfl⟩:=e;rw[at' p hp] at hx;exact .inl ⟨p,hp,rfl,Option.some.inj hx⟩
  ·have e':∀p,p∈L→p.1≠k:=fun p hp q=>e ⟨p,hp,q⟩;rw[ne' k e'] at hx;exact .inr ⟨e',hx⟩
 refine⟨upS S L M,qL3.up (fun B w0 ι w args' hB hsr hva=>?_) hM (fun i a hi _=>?_) hv,⟨at',ne',fun k hk=>?_,hM⟩,rfl⟩
 ·obtain⟨h1,h2⟩:=Trip.call hE hfn hc hb (R:=fun q=>q.1=v∧Ends S q.2 L∧q.2.next≤M) (h.mono fun r ⟨q1,Z,q2,q3,q4⟩=>⟨q1,(v,Z),q2,rfl,q3,q4⟩) B hB w0 ι w args' hsr hva;refine⟨h1,h2.mono fun e w' ⟨q,⟨hq1,hq2,hq3⟩,x,ι',g1,g2,g3,g4⟩=>?_⟩;obtain⟨v',Z⟩:=q;simp only at hq1 hq2 hq3;subst hq1;refine⟨x,ι',g1,g2,SR.sub g3 (fun k x hx=>?_) hq3,g4⟩;rcases hcase k x hx with⟨p,hp,rfl,rfl⟩ | ⟨hk,hs⟩
  ·exact hq2.at_ p hp
  ·have:=hq2.old k (ht.lt hs) hk;show Z.h.get k=some x;rw[this];exact hs
 ·rcases hcase i a hi with⟨p,hp,rfl,rfl⟩ | ⟨_,hs⟩
  ·exact .inr (hgd p hp)
  ·exact .inl hs
 ·have hk:M≤k:=hk;rw[ne' k (fun p hp e=>by have:=hlt p hp;omega)];exact ht k (by omega)
end
def qBf (L:List Nat):List AV:=L.map fun e=>.int .i64 (.ofNat e)
theorem qBy (L:List Nat):(qBf L).length=L.length:=by unfold qBf;rw[List.length_map]
theorem qDS (A B:List Nat):qBf (A++B)=qBf A++qBf B:=List.map_append
theorem qH5 {L:List Nat} {i:Nat} (h:i<L.length):(qBf L)[i*1]? = some (.int .i64 (.ofNat (L.getD i 0))):=by
 unfold qBf;rw[Nat.mul_one,List.getElem?_map,List.getD_eq_getElem?_getD,List.getElem?_eq_getElem h];rfl
theorem qUc {D:Nat→Prop} (L:List Nat):qBp D (qBf L):=qAk.2 fun v hv=>by
 unfold qBf at hv;obtain⟨e,_,rfl⟩:=List.mem_map.1 hv;trivial
def qD9 (base:Nat) (X:ASt) (P:AV) (L:List Nat):Prop:=(P=.slice none 0 (.known 0)∧L=[])∨∃r,0<L.length∧P=.slice (some (r,0)) L.length (.rest 1)∧base≤r∧X.h.get r=some (.cells (qBf L) true)
theorem qD9.keep {base:Nat} {X X':ASt} {P:AV} {L:List Nat} (h:qD9 base X P L) (hk:∀k,base≤k→k<X.next→X'.h.get k=X.h.get k) (ht:Tidy X):qD9 base X' P L:=by
 rcases h with h | ⟨r,h0,h1,h2,h3⟩
 ·exact .inl h
 ·exact .inr ⟨r,h0,h1,h2,by rw[hk r h2 (ht.lt h3)];exact h3⟩
end atc
namespace atc
open oo cd cd2 cd3 cd4 cd5 cd9 my
theorem qD9.len {E:Env} {base:Nat} {X:ASt} {P:AV} {L:List Nat} (h:qD9 base X P L) (h0:qAU E .len [69] [.slice none 0 (.known 0)] X=some (.int .i64 (.ofNat 0),X):=by kernel_rfl) (h1:∀r n,qAU E .len [69] [.slice (some (r,0)) n (.rest 1)] X=some (.int .i64 (.ofNat n),X):=by intro _ _;kernel_rfl):qAU E .len [69] [P] X=some (.int .i64 (.ofNat L.length),X):=by
 rcases h with⟨rfl,rfl⟩ | ⟨r,_,rfl,_,_⟩
 ·exact h0
 ·exact h1 _ _
section
variable {S:ASt} {ho room:Nat}
end
end atc
namespace atc
open oo cd cd2 cd3 cd4 cd5 cd9
def has (s j:Nat):Bool:=decide (s / 2 ^ j % 2=1)
def mrk (k s j:Nat):Nat:=if j<k∧has s j=false then Nat.xor s (2 ^ j) else s
theorem qZb {k s j n:Nat} (hs:s<2 ^ n) (hk:k≤n):mrk k s j<2 ^ n:=by
 unfold mrk
 split
 ·rename_i h;exact Nat.xor_lt_two_pow hs (Nat.pow_lt_pow_right (by decide) (by omega))
 ·exact hs
theorem fits {s k:Nat} (hs:s<18446744073709551616) (hk:k≤64):qRl s k=false↔s<2 ^ k:=by
 unfold qRl;rcases Nat.lt_or_ge k 64 with h | h
 ·rw[decide_eq_true h,Bool.true_and];have hp:=Nat.two_pow_pos k
  constructor
  ·intro q;have q':s / 2 ^ k=0:=by simpa using q
   exact (Nat.div_eq_zero_iff_lt hp).1 q'
  ·intro q;rw[(Nat.div_eq_zero_iff_lt hp).2 q];rfl
 ·obtain rfl:k=64:=by omega
  rw[decide_eq_false (by omega),Bool.false_and];exact⟨fun _=>hs,fun _=>rfl⟩
section
variable {E:Env} {Y:ASt} {a b k:Nat} {x y:Operand} {t:TypeId}
theorem wU {n:Nat} (h:n<18446744073709551616):qAH .u64 (.ofNat n)=.ofNat n:=qGy h
theorem mU {n:Nat} (h:n<18446744073709551616):qB5 (.ofNat n) (big .u64)=n:=Nat.mod_eq_of_lt h
theorem qUo (ha:a<18446744073709551616):still Y (qAD E .and t x y (.int .u64 (.ofNat a)) (.int .u64 (.ofNat 1)))=some (.int .u64 (.ofNat (a % 2)),Y):=by
 have e:qAD E .and t x y (.int .u64 (.ofNat a)) (.int .u64 (.ofNat 1))=some (.int .u64 (qAH .u64 (.ofNat (Nat.land (qB5 (.ofNat a) (big .u64)) (qB5 (.ofNat 1) (big .u64)))))):=rfl;rw[mU ha,mU (by decide)] at e;have e2:Nat.land a 1=a % 2:=Nat.and_one_is_mod a;rw[e2,wU (by omega)] at e;exact qAF e
theorem q2K (ha:a<18446744073709551616) (hb:b<18446744073709551616):still Y (qAD E .xor t x y (.int .u64 (.ofNat a)) (.int .u64 (.ofNat b)))=some (.int .u64 (.ofNat (Nat.xor a b)),Y):=by
 have e:qAD E .xor t x y (.int .u64 (.ofNat a)) (.int .u64 (.ofNat b))=some (.int .u64 (qAH .u64 (.ofNat (Nat.xor (qB5 (.ofNat a) (big .u64)) (qB5 (.ofNat b) (big .u64)))))):=rfl;have h2:Nat.xor a b<18446744073709551616:=Nat.xor_lt_two_pow (n:=64) ha hb;rw[mU ha,mU hb,wU h2] at e;exact qAF e
theorem qUk {k2:IntKind} (hb:b<64):still Y (qAD E .shl t x y (.int .u64 (.ofNat 1)) (.int k2 (.ofNat b)))=some (.int .u64 (.ofNat (2 ^ b)),Y):=by
 have h:=qW8 (E:=E) (Y:=Y) (t:=t) (k:=.u64) (k2:=k2) (a:=1) (b:=b) (x:=x) (y:=y) (show b≤64 by omega);have h2:2 ^ b<18446744073709551616:=Nat.pow_lt_pow_right (a:=2) (m:=b) (n:=64) (by decide) hb;rw[Nat.one_mul,wU h2] at h;exact h
theorem q2P (hk:k≤64):∃u:Int,still Y (qAD E .shl t x y (.int .u64 (.ofNat 1)) (.int .i64 (.ofNat k)))=some (.int .u64 u,Y)∧∀(t:TypeId) (x y:Operand),still Y (qAD E .sub t x y (.int .u64 u) (.int .u64 (.ofNat 1)))=some (.int .u64 (.ofNat (2 ^ k - 1)),Y):=by
 rcases Nat.lt_or_ge k 64 with h | h
 ·refine⟨_,qUk h,fun t x y=>?_⟩;have e:qAD E .sub t x y (.int .u64 (.ofNat (2 ^ k))) (.int .u64 (.ofNat 1))=some (.int .u64 (qAH .u64 (.ofNat (2 ^ k) - .ofNat 1))):=rfl;have hp:=Nat.two_pow_pos k;have h2:2 ^ k<18446744073709551616:=Nat.pow_lt_pow_right (a:=2) (m:=k) (n:=64) (by decide) h;rw[show (Int.ofNat (2 ^ k) - Int.ofNat 1)=Int.ofNat (2 ^ k - 1) by simp only[Int.ofNat_eq_natCast];omega,wU (by omega)] at e;exact qAF e
 ·obtain rfl:k=64:=by omega
  refine⟨.ofNat 0,?_,fun t x y=>qAF (by kernel_rfl)⟩;have h:=qW8 (E:=E) (Y:=Y) (t:=t) (k:=.u64) (k2:=.i64) (a:=1) (b:=64) (x:=x) (y:=y) (show 64≤64 by omega);have e:qAH .u64 (.ofNat (1*2 ^ 64))=.ofNat 0:=by kernel_rfl
  rw[e] at h;exact h
theorem q2M (ha:a<18446744073709551616) (hk:k≤64):∃u:Nat,still Y (qAD E .andNot t x y (.int .u64 (.ofNat a)) (.int .u64 (.ofNat (2 ^ k - 1))))=some (.int .u64 (.ofNat u),Y)∧(u=0↔a<2 ^ k):=by
 have hp:=Nat.two_pow_pos k;have h2:2 ^ k≤18446744073709551616:=Nat.pow_le_pow_right (n:=2) (by decide) hk;have e:qAD E .andNot t x y (.int .u64 (.ofNat a)) (.int .u64 (.ofNat (2 ^ k - 1)))=some (.int .u64 (qAH .u64 (.ofNat (Nat.land (qB5 (.ofNat a) (big .u64)) (big .u64 - 1 - qB5 (.ofNat (2 ^ k - 1)) (big .u64)))))):=rfl;rw[mU ha,mU (by omega)] at e;obtain⟨u,hu⟩:∃u,u=Nat.land a (big .u64 - 1 - (2 ^ k - 1)):=⟨_,rfl⟩;rw[←hu] at e;have hbit:∀i,u.testBit i=(a.testBit i && !decide (i<k)):=fun i=>by
  rw[hu];show (a &&& (18446744073709551616 - 1 - (2 ^ k - 1))).testBit i=_;rw[Nat.testBit_and];rcases Nat.lt_or_ge i 64 with h | h
  ·congr 1
   rw[show 18446744073709551616 - 1 - (2 ^ k - 1)=2 ^ 64 - ((2 ^ k - 1)+1) by omega,Nat.testBit_two_pow_sub_succ (show 2 ^ k - 1<2 ^ 64 by omega),Nat.testBit_two_pow_sub_one,decide_eq_true h,Bool.true_and]
  ·rw[Nat.testBit_lt_two_pow (Nat.lt_of_lt_of_le ha (show 18446744073709551616≤2 ^ i from Nat.pow_le_pow_right (n:=2) (by decide) h)),Bool.false_and,Bool.false_and]
 have hlt:u<18446744073709551616:=by
  rw[hu];exact Nat.lt_of_le_of_lt Nat.and_le_left ha
 rw[wU hlt] at e;refine⟨u,qAF e,?_⟩
 constructor
 ·intro h0;refine Nat.lt_pow_two_of_testBit a fun i hi=>?_;have:=hbit i;rw[h0,Nat.zero_testBit,decide_eq_false (by omega)] at this;simpa using this.symm
 ·intro hlt2;refine Nat.eq_of_testBit_eq fun i=>?_;rw[hbit,Nat.zero_testBit];rcases Nat.lt_or_ge i k with h | h
  ·rw[decide_eq_true h];simp
  ·rw[Nat.testBit_lt_two_pow (Nat.lt_of_lt_of_le hlt2 (Nat.pow_le_pow_right (by decide) h)),Bool.false_and]
end
end atc
end Go.Proofs.YtiafochainjglaaGreatDoor.drp
