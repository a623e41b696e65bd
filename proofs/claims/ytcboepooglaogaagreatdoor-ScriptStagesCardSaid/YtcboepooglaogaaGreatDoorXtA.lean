/-
  OWN WORK, A PART: an abstract machine for the program's text that the kernel can run, and the proof that it is sound: what it answers is what the program answers; contracts of functions by it. No condition.
-/
import Derived.Test.YtcboepooglaogaaGreatDoorXsE
import Derived.Test.YtcboepooglaogaaGreatDoorWaJ
import Derived.Test.YtcboepooglaogaaGreatDoorRows
import Derived.Test.YtcboepooglaogaaGreatDoorWaF
import Derived.KernelRfl
section
open Go Go.Ax Go.Proofs
namespace Go.Proofs.YtcboepooglaogaaGreatDoor.scr
set_option linter.unusedVariables false
open spt
def isD (c:Nat):Bool:=Nat.ble 48 c && Nat.ble c 57
def foldD (most:Nat):List Nat→Nat→Option Nat
 | [],n=>some n
 | c::r,n=>if c - 48≤most∧n≤(most - (c - 48)) / 10 then foldD most r (10*n+(c - 48)) else none
def decF (s:List Nat) (most:Nat):Nat×Nat :=
 if s=[]∨(1<s.length∧s.head? = some 48) then (0,4) else
 if s.all isD=false then (0,4) else
 match foldD most s 0 with
 | some n=>(n,0)
 | none=>(0,5)
def numV (most:Nat) (s:List Nat):Nat:=(decF s most).1
def numB (most:Nat) (s:List Nat):Bool:=!decide ((decF s most).2=0)
theorem decL_lt {n:Nat} (h:n<10):decL n=[48+n]:=by
 unfold decL
 rw[Lib.decDigits_one h]
 simp only[List.map_cons,List.map_nil,UInt8.toNat_ofNat']
 rw[Nat.mod_eq_of_lt (by omega)]
theorem decL_ge {n:Nat} (h:10≤n):decL n=decL (n / 10)++[48+n % 10]:=by
 unfold decL
 rw[Lib.decDigits,dif_neg (by omega),List.map_append]
 simp only[List.map_cons,List.map_nil,UInt8.toNat_ofNat']
 rw[Nat.mod_eq_of_lt (a:=48+n % 10) (by omega)]
theorem decL_D:∀(n:Nat) (c:Nat),c∈decL n→48≤c∧c≤57:=by
 intro n
 induction n using Nat.strongRecOn with
 | ind n ih =>
  intro c hc
  by_cases h:n<10
  ·rw[decL_lt h,List.mem_singleton] at hc;omega
  ·rw[decL_ge (by omega),List.mem_append,List.mem_singleton] at hc
   rcases hc with hc | hc
   ·exact ih (n / 10) (by omega) c hc
   ·omega
theorem decL_ne (n:Nat):decL n≠[]:=by
 by_cases h:n<10
 ·rw[decL_lt h];simp
 ·rw[decL_ge (by omega)];simp
theorem decL_hd:∀n:Nat,1≤n→(decL n).head?≠some 48:=by
 intro n
 induction n using Nat.strongRecOn with
 | ind n ih =>
  intro h1
  by_cases h:n<10
  ·rw[decL_lt h];simp;omega
  ·rw[decL_ge (by omega)]
   have:=ih (n / 10) (by omega) (by omega)
   cases e:decL (n / 10) with
   | nil=>exact absurd e (decL_ne _)
   | cons a l=>rw[e] at this;simpa using this
theorem foldD_app {most:Nat} {b:List Nat}:∀{a:List Nat} {n:Nat},foldD most (a++b) n=(foldD most a n).bind (foldD most b)
 | [],n=>rfl
 | c::a,n=>by
  simp only[List.cons_append,foldD]
  split
  ·exact foldD_app
  ·rfl
theorem dec_fold {most:Nat}:∀n:Nat,n≤most→foldD most (decL n) 0=some n:=by
 intro n
 induction n using Nat.strongRecOn with
 | ind n ih =>
  intro hm
  by_cases h:n<10
  ·rw[decL_lt h]
   simp only[foldD]
   rw[if_pos (by omega)]
   simp
  ·rw[decL_ge (by omega),foldD_app,ih (n / 10) (by omega) (by omega)]
   simp only[Option.bind_some,foldD]
   rw[if_pos (by omega)]
   congr 1;omega
theorem decF_dec {n most:Nat} (h:n≤most):decF (decL n) most=(n,0):=by
 have h2:(decL n).all isD=true:=List.all_eq_true.2 fun c hc=>by
  obtain⟨a,b⟩:=decL_D n c hc
  unfold isD
  rw[Nat.ble_eq_true_of_le a,Nat.ble_eq_true_of_le b];rfl
 have h1:¬(decL n=[]∨(1<(decL n).length∧(decL n).head? = some 48)):=by
  rintro (e | ⟨e1,e2⟩)
  ·exact decL_ne _ e
  ·by_cases hn:n<10
   ·rw[decL_lt hn] at e1;simp at e1
   ·exact decL_hd n (by omega) e2
 unfold decF
 rw[if_neg h1,h2,dec_fold n h]
 rfl
theorem numV_dec {n most:Nat} (h:n≤most):numV most (decL n)=n:=by unfold numV;rw[decF_dec h]
theorem numB_dec {n most:Nat} (h:n≤most):numB most (decL n)=false:=by unfold numB;rw[decF_dec h];rfl
theorem foldD_le {most:Nat}:∀{s:List Nat} {n m:Nat},n≤most→foldD most s n=some m→m≤most
 | [],n,m,hn,h=>by simp only[foldD,Option.some.injEq] at h;omega
 | c::s,n,m,hn,h=>by
  simp only[foldD] at h
  split at h
  ·exact foldD_le (by omega) h
  ·cases h
theorem numV_le (most:Nat) (s:List Nat):numV most s≤most:=by
 unfold numV decF
 split
 ·exact Nat.zero_le _
 ·split
  ·exact Nat.zero_le _
  ·split
   ·rename_i n hn;exact foldD_le (Nat.zero_le _) hn
   ·exact Nat.zero_le _
def plF:List (List Nat)→List Nat→Nat
 | [],_=>0
 | k::ks,s=>if k=s then 1 else match plF ks s with
  | 0=>0
  | m+1=>m+2
theorem plF_at:∀{ks:List (List Nat)} {s:List Nat} {n:Nat},ks[n]? = some s→(∀i,i<n→ks[i]?≠some s)→plF ks s=n+1
 | [],s,n,h,_=>by simp at h
 | k::ks,s,0,h,_=>by simp only[List.getElem?_cons_zero,Option.some.injEq] at h;simp only[plF,h,if_true]
 | k::ks,s,n+1,h,h2=>by
  have h0:=h2 0 (by omega)
  simp only[List.getElem?_cons_zero,ne_eq,Option.some.injEq] at h0
  rw[List.getElem?_cons_succ] at h
  have ih:=plF_at (ks:=ks) (n:=n) h fun i hi=>by have:=h2 (i+1) (by omega);rwa [List.getElem?_cons_succ] at this
  simp only[plF,h0,if_false,ih]
theorem plF_no:∀{ks:List (List Nat)} {s:List Nat},s ∉ ks→plF ks s=0
 | [],s,_=>rfl
 | k::ks,s,h=>by
  simp only[List.mem_cons,not_or] at h
  simp only[plF,Ne.symm h.1,if_false,plF_no h.2]
theorem plF_le:∀(ks:List (List Nat)) (s:List Nat),plF ks s≤ks.length
 | [],s=>Nat.le_refl _
 | k::ks,s=>by
  have:=plF_le ks s
  simp only[plF,List.length_cons]
  split
  ·omega
  ·split<;>omega
theorem splitC_one {c:Nat}:∀{a:List Nat},c ∉ a→splitC c a=[a]
 | [],_=>rfl
 | x::a,h=>by
  simp only[List.mem_cons,not_or] at h
  have:Nat.beq x c=false:=by cases e:Nat.beq x c with | false=>rfl | true=>exact absurd (Nat.eq_of_beq_eq_true e).symm h.1
  simp only[splitC,this,cond_false,splitC_one h.2]
theorem splitC_app {c:Nat} {b:List Nat}:∀{a:List Nat},c ∉ a→splitC c (a++c::b)=a::splitC c b
 | [],_=>by simp[splitC]
 | x::a,h=>by
  simp only[List.mem_cons,not_or] at h
  have:Nat.beq x c=false:=by cases e:Nat.beq x c with | false=>rfl | true=>exact absurd (Nat.eq_of_beq_eq_true e).symm h.1
  simp only[List.cons_append,splitC,this,cond_false,splitC_app h.2]
theorem splitC_join {c:Nat}:∀{ws:List (List Nat)},ws≠[]→(∀w,w∈ws→c ∉ w)→splitC c (joinL [c] ws)=ws
 | [],h,_=>absurd rfl h
 | [w],_,h=>by
  show splitC c (w++jnTail [c] [])=_
  simp only[jnTail,List.append_nil]
  exact splitC_one (h w List.mem_cons_self)
 | w::v::ws,_,h=>by
  have e:joinL [c] (w::v::ws)=w++c::joinL [c] (v::ws):=by
   simp only[joinL,jnTail,List.cons_append,List.nil_append]
  rw[e,splitC_app (h w List.mem_cons_self),splitC_join (by simp) fun x hx=>h x (List.mem_cons_of_mem _ hx)]
def rowT (L:List Nat):List Nat:=if L=[] then [45] else joinL [44] (L.map decL)
def rowV (most:Nat) (s:List Nat):List Nat:=if s=[45] then [] else (splitC 44 s).map (numV most)
def rowB (most:Nat) (s:List Nat):Bool:=if s=[45] then false else (splitC 44 s).any (numB most)
theorem rowT_not (L:List Nat) (h:L≠[]):rowT L≠[45]:=by
 unfold rowT
 rw[if_neg h]
 intro e
 cases L with
 | nil=>exact h rfl
 | cons n L =>
  have:(45:Nat)∈decL n:=by
   have e2:decL n++jnTail [44] (L.map decL)=[45]:=e
   cases hd:decL n with
   | nil=>exact absurd hd (decL_ne n)
   | cons a l=>rw[hd] at e2;simp only[List.cons_append,List.cons.injEq] at e2;rw[e2.1];exact List.mem_cons_self
  have:=decL_D n 45 this
  omega
theorem dec_no {c n:Nat} (h:c<48):c ∉ decL n:=fun hc=>by have:=decL_D n c hc;omega
theorem row_split {L:List Nat} (h:L≠[]):splitC 44 (rowT L)=L.map decL:=by
 unfold rowT
 rw[if_neg h]
 exact splitC_join (by simpa using h) fun w hw=>by
  obtain⟨n,_,rfl⟩:=List.mem_map.1 hw
  exact dec_no (by omega)
theorem rowV_row {most:Nat} {L:List Nat} (h:∀n,n∈L→n≤most):rowV most (rowT L)=L:=by
 by_cases e:L=[]
 ·subst e;rfl
 ·unfold rowV
  rw[if_neg (rowT_not L e),row_split e,List.map_map]
  have:∀(l:List Nat),(∀n,n∈l→n≤most)→l.map (numV most∘decL)=l:=fun l=>by
   induction l with
   | nil=>intro _;rfl
   | cons a l ih=>intro hl;rw[List.map_cons,ih fun n hn=>hl n (List.mem_cons_of_mem _ hn)];simp only[Function.comp_apply];rw[numV_dec (hl a List.mem_cons_self)]
  exact this L h
theorem rowB_row {most:Nat} {L:List Nat} (h:∀n,n∈L→n≤most):rowB most (rowT L)=false:=by
 by_cases e:L=[]
 ·subst e;rfl
 ·unfold rowB
  rw[if_neg (rowT_not L e),row_split e,List.any_map]
  exact List.any_eq_false.2 fun n hn=>by simp only[Function.comp_apply];rw[numB_dec (h n hn)];simp
theorem rowT_no {c:Nat} {L:List Nat} (h:c<44):c ∉ rowT L:=by
 unfold rowT
 split
 ·simp only[List.mem_singleton];omega
 ·have hj:∀ws:List (List Nat),(∀w,w∈ws→c ∉ w)→c ∉ jnTail [44] ws:=fun ws=>by
   induction ws with
   | nil=>intro _;simp[jnTail]
   | cons w ws ih=>intro hw;simp only[jnTail,List.mem_append,List.mem_singleton,not_or];exact⟨by omega,hw w List.mem_cons_self,ih fun x hx=>hw x (List.mem_cons_of_mem _ hx)⟩
  cases L with
  | nil=>simp[joinL]
  | cons n L =>
   simp only[List.map_cons,joinL,List.mem_append,not_or]
   exact⟨dec_no (by omega),hj _ fun w hw=>by obtain⟨x,_,rfl⟩:=List.mem_map.1 hw;exact dec_no (by omega)⟩
def wStage:List (List Nat):=[[115,116,97,103,101]]
def wHow:List (List Nat):=[[112,108,97,105,110],[100,105,103,101,115,116,115]]
def wProt:List (List Nat):=[[97],[98],[99]]
def wFenc:List (List Nat):=[[102,114,101,101],[114,101,115,111,117,114,99,101],[115,116,111,110,105,116,104]]
def wChoi:List (List Nat):=[[100,105,115,99,111,110,110,101,99,116],[121,111,117,110,103,101,114],[111,108,100,101,114],[108,101,97,115,116],[122,101,114,111],[111,110,101],[115,101,99,111,110,100,97,114,121],[99,111,110,115,101,110,115,117,115]]
structure St where
 b:Int
 h:Int
 c:Int
 w:Int
 dig:Bool
 p:Int
 f:Int
 z:Int
 o:Int
 t:Int
 dr:List Nat
def u64m:Nat:=18446744073709551615
def stW (x:St):List (List Nat) :=
 [[115,116,97,103,101],decL x.b.toNat,decL x.h.toNat,decL x.c.toNat,decL x.w.toNat,bif x.dig then [100,105,103,101,115,116,115] else [112,108,97,105,110],wProt.getD (x.p.toNat - 1) [],wFenc.getD (x.f.toNat - 1) [],
  wChoi.getD (x.z.toNat - 1) [],wChoi.getD (x.o.toNat - 1) [],wChoi.getD (x.t.toNat - 1) [],rowT x.dr]
def stT (x:St):List Nat:=joinL [32] (stW x)
def stX (ws:List (List Nat)):St :=
 ⟨numV 1000000 (ws.getD 1 []),numV 1000000 (ws.getD 2 []),numV 1000000 (ws.getD 3 []),numV 1000000 (ws.getD 4 []),decide (plF wHow (ws.getD 5 [])=2),plF wProt (ws.getD 6 []),plF wFenc (ws.getD 7 []),
  plF wChoi (ws.getD 8 []),plF wChoi (ws.getD 9 []),plF wChoi (ws.getD 10 []),rowV u64m (ws.getD 11 [])⟩
def stBad (ws:List (List Nat)):Bool :=
 !decide (ws.length=12) || (decide (plF wStage (ws.getD 0 [])=0) || numB 1000000 (ws.getD 1 []) || numB 1000000 (ws.getD 2 []) || numB 1000000 (ws.getD 3 []) || numB 1000000 (ws.getD 4 []) ||
  decide (plF wHow (ws.getD 5 [])=0) || decide (plF wProt (ws.getD 6 [])=0) || decide (plF wFenc (ws.getD 7 [])=0) || decide (plF wChoi (ws.getD 8 [])=0) || decide (plF wChoi (ws.getD 9 [])=0) ||
  decide (plF wChoi (ws.getD 10 [])=0) || rowB u64m (ws.getD 11 []))
structure MayS (x:St):Prop where
 b:1≤x.b∧x.b≤64
 h:1≤x.h∧x.h≤16
 c:1≤x.c∧x.c≤1000
 w:1≤x.w∧x.w≤16
 p:1≤x.p∧x.p≤3
 f:1≤x.f∧x.f≤3
 z:1≤x.z∧x.z≤6
 o:x.o=1∨x.o=7∨x.o=8
 t:x.t=1
 n:x.dr.length≤1000
theorem words_no {ks:List (List Nat)} (h:(ks.all fun k=>!k.contains 32)=true) {i:Nat}:32 ∉ ks.getD i []:=by
 rw[List.getD_eq_getElem?_getD]
 cases e:ks[i]? with
 | none=>simp
 | some k =>
  have:=List.all_eq_true.1 h k (List.mem_of_getElem? e)
  simpa using this
theorem stW_no (x:St):∀w,w∈stW x→32 ∉ w:=fun w hw=>by
 unfold stW at hw
 simp only[List.mem_cons,List.not_mem_nil,or_false] at hw
 rcases hw with rfl | rfl | rfl | rfl | rfl | rfl | rfl | rfl | rfl | rfl | rfl | rfl
 ·decide
 ·exact dec_no (by omega)
 ·exact dec_no (by omega)
 ·exact dec_no (by omega)
 ·exact dec_no (by omega)
 ·cases x.dig<;>decide
 ·exact words_no (by decide)
 ·exact words_no (by decide)
 ·exact words_no (by decide)
 ·exact words_no (by decide)
 ·exact words_no (by decide)
 ·exact rowT_no (by omega)
theorem stT_split (x:St):splitC 32 (stT x)=stW x:=splitC_join (by simp[stW]) (stW_no x)
theorem pl3 {ks:List (List Nat)} (h:((List.range ks.length).all fun i=>plF ks (ks.getD i []) == i+1)=true) {z:Int} (h1:1≤z) (h2:z≤ks.length):(plF ks (ks.getD (z.toNat - 1) []):Int)=z:=by
 have:=List.all_eq_true.1 h (z.toNat - 1) (List.mem_range.2 (by omega))
 have e:=eq_of_beq this
 rw[e];omega
theorem comp {x:St} (h:MayS x) (hd:∀n,n∈x.dr→n≤u64m):stBad (stW x)=false∧stX (stW x)=x:=by
 obtain⟨b,hh,c,w,dig,p,f,z,o,t,dr⟩:=x
 obtain⟨h1,h2,h3,h4,h5,h6,h7,h8,h9,h10⟩:=h
 simp only at h1 h2 h3 h4 h5 h6 h7 h8 h9 h10 hd
 have e1:(plF wProt (wProt.getD (p.toNat - 1) []):Int)=p:=pl3 (by decide) h5.1 h5.2
 have e2:(plF wFenc (wFenc.getD (f.toNat - 1) []):Int)=f:=pl3 (by decide) h6.1 h6.2
 have e3:(plF wChoi (wChoi.getD (z.toNat - 1) []):Int)=z:=pl3 (by decide) h7.1 (Int.le_trans h7.2 (by decide))
 have ho:1≤o∧o≤8:=by omega
 have e4:(plF wChoi (wChoi.getD (o.toNat - 1) []):Int)=o:=pl3 (by decide) ho.1 ho.2
 have e5:(plF wChoi (wChoi.getD (t.toNat - 1) []):Int)=t:=pl3 (by decide) (by omega) (Int.le_trans (Int.le_of_eq h9) (by decide))
 have n1:∀y:Int,1≤y→y≤1000→numB 1000000 (decL y.toNat)=false∧(numV 1000000 (decL y.toNat):Int)=y:=fun y a b =>
  ⟨numB_dec (by omega),by rw[numV_dec (by omega)];omega⟩
 have d1:plF wHow (bif dig then [100,105,103,101,115,116,115] else [112,108,97,105,110])=bif dig then 2 else 1:=by cases dig<;>decide
 refine⟨?_,?_⟩
 ·unfold stBad stW
  simp only[List.length_cons,List.length_nil,List.getD_cons_zero,List.getD_cons_succ]
  rw[(n1 b h1.1 (by omega)).1,(n1 hh h2.1 (by omega)).1,(n1 c h3.1 h3.2).1,(n1 w h4.1 (by omega)).1,d1,rowB_row hd]
  have q1:decide (plF wProt (wProt.getD (p.toNat - 1) [])=0)=false:=decide_eq_false (by omega)
  have q2:decide (plF wFenc (wFenc.getD (f.toNat - 1) [])=0)=false:=decide_eq_false (by omega)
  have q3:decide (plF wChoi (wChoi.getD (z.toNat - 1) [])=0)=false:=decide_eq_false (by omega)
  have q4:decide (plF wChoi (wChoi.getD (o.toNat - 1) [])=0)=false:=decide_eq_false (by omega)
  have q5:decide (plF wChoi (wChoi.getD (t.toNat - 1) [])=0)=false:=decide_eq_false (by omega)
  have q0:decide (plF wStage [115,116,97,103,101]=0)=false:=by decide
  rw[q0,q1,q2,q3,q4,q5]
  cases dig<;>rfl
 ·unfold stX stW
  simp only[List.getD_cons_zero,List.getD_cons_succ]
  rw[(n1 b h1.1 (by omega)).2,(n1 hh h2.1 (by omega)).2,(n1 c h3.1 h3.2).2,(n1 w h4.1 (by omega)).2,d1,rowV_row hd,e1,e2,e3,e4,e5]
  cases dig<;>rfl
def isStage (s:List Nat) (x:St):Prop:=MayS x∧stT x=s
theorem stage_reads {s:List Nat} {x:St} (h:isStage s x) (hd:∀n,n∈x.dr→n≤u64m):stBad (splitC 32 s)=false∧stX (splitC 32 s)=x:=by
 rw[←h.2,stT_split];exact comp h.1 hd
theorem stX_dr (ws:List (List Nat)):∀n,n∈(stX ws).dr→n≤u64m:=fun n hn=>by
 unfold stX rowV at hn
 simp only at hn
 split at hn
 ·cases hn
 ·obtain⟨w,_,rfl⟩:=List.mem_map.1 hn
  exact numV_le _ _
theorem stage_both {s:List Nat}:(MayS (stX (splitC 32 s))∧stT (stX (splitC 32 s))=s)↔(stBad (splitC 32 s)=false∧MayS (stX (splitC 32 s))∧stT (stX (splitC 32 s))=s) :=
 ⟨fun h=>⟨(stage_reads h (stX_dr _)).1,h⟩,fun h=>h.2⟩
end Go.Proofs.YtcboepooglaogaaGreatDoor.scr
end

section
open Go Go.Ax Go.Proofs
namespace Go.Proofs.YtcboepooglaogaaGreatDoor.scr
open Go.Shelf
set_option linter.unusedVariables false
def ren146:Go.Shelf.Ren:=⟨fun | 146=>55 | 221=>111 | 268=>164 | 138=>165 | 143=>166 | 195=>194 | 197=>195 | 218=>196 | 219=>169 | 260=>223 | 217=>197 | 225=>198 | 224=>199 | 267=>200 | 266=>224 | 314=>225 | n=>n,fun | 9=>9 | 31=>86 | 3=>3 | 4=>4 | 0=>0 | 105=>297 | 21=>21 | 5=>5 | 46=>216 | 119=>24 | 139=>327 | 138=>326 | 146=>318 | 51=>284 | n=>n,fun | 1=>0 | 3=>2 | 4=>3 | n=>n⟩
theorem lays146:Lays.n146 Tryz.prog ren146 :=
 {mixed:=by kernel_rfl,
  f138:=Tryz.func165.trans (congrArg some (by kernel_rfl)),
  f143:=Tryz.func166.trans (congrArg some (by kernel_rfl)),
  f146:=Tryz.func55.trans (congrArg some (by kernel_rfl)),
  f195:=Tryz.func194.trans (congrArg some (by kernel_rfl)),
  f197:=Tryz.func195.trans (congrArg some (by kernel_rfl)),
  f217:=Tryz.func197.trans (congrArg some (by kernel_rfl)),
  f218:=Tryz.func196.trans (congrArg some (by kernel_rfl)),
  f219:=Tryz.func169.trans (congrArg some (by kernel_rfl)),
  f221:=Tryz.func111.trans (congrArg some (by kernel_rfl)),
  f224:=Tryz.func199.trans (congrArg some (by kernel_rfl)),
  f225:=Tryz.func198.trans (congrArg some (by kernel_rfl)),
  f260:=Tryz.func223.trans (congrArg some (by kernel_rfl)),
  f266:=Tryz.func224.trans (congrArg some (by kernel_rfl)),
  f267:=Tryz.func200.trans (congrArg some (by kernel_rfl)),
  f268:=Tryz.func164.trans (congrArg some (by kernel_rfl)),
  f314:=Tryz.func225.trans (congrArg some (by kernel_rfl)),
  t0:=Tryz.underlying0,
  a0:=Tryz.isAgg0,
  z0:=Tryz.sizeOf0,
  v0:=Tryz.zeroValue0,
  t3:=Tryz.underlying3,
  a3:=Tryz.isAgg3,
  z3:=Tryz.sizeOf3,
  v3:=Tryz.zeroValue3,
  t4:=Tryz.underlying4,
  a4:=Tryz.isAgg4,
  z4:=Tryz.sizeOf4,
  v4:=Tryz.zeroValue4,
  t5:=Tryz.underlying5,
  a5:=Tryz.isAgg5,
  z5:=Tryz.sizeOf5,
  v5:=Tryz.zeroValue5,
  t9:=Tryz.underlying9,
  a9:=Tryz.isAgg9,
  z9:=Tryz.sizeOf9,
  v9:=Tryz.zeroValue9,
  t21:=Tryz.underlying21,
  a21:=Tryz.isAgg21,
  z21:=Tryz.sizeOf21,
  v21:=Tryz.zeroValue21,
  t31:=Tryz.underlying86,
  a31:=Tryz.isAgg86,
  z31:=Tryz.sizeOf86,
  v31:=Tryz.zeroValue86,
  t46:=Tryz.underlying216,
  a46:=Tryz.isAgg216,
  z46:=Tryz.sizeOf216,
  v46:=Tryz.zeroValue216,
  t51:=Tryz.underlying284,
  a51:=Tryz.isAgg284,
  z51:=Tryz.sizeOf284,
  v51:=Tryz.zeroValue284,
  t105:=Tryz.underlying297,
  a105:=Tryz.isAgg297,
  z105:=Tryz.sizeOf297,
  v105:=Tryz.zeroValue297,
  t119:=Tryz.underlying24,
  a119:=Tryz.isAgg24,
  z119:=Tryz.sizeOf24,
  t138:=Tryz.underlying326,
  a138:=Tryz.isAgg326,
  z138:=Tryz.sizeOf326,
  v138:=Tryz.zeroValue326,
  t139:=Tryz.underlying327,
  a139:=Tryz.isAgg327,
  z139:=Tryz.sizeOf327,
  v139:=Tryz.zeroValue327,
  t146:=Tryz.underlying318,
  a146:=Tryz.isAgg318,
  z146:=Tryz.sizeOf318,
  v146:=Tryz.zeroValue318,
  g1:=by kernel_rfl,
  g3:=by kernel_rfl,
  g4:=by kernel_rfl}
theorem split_ok:CallsOK Tryz.prog (sumSplit 55):=sumSplit_ok lays146 (by kernel_rfl)
end Go.Proofs.YtcboepooglaogaaGreatDoor.scr
end

section
open Go Go.Ax Go.Proofs
namespace Go.Proofs.YtcboepooglaogaaGreatDoor.scr
set_option linter.unusedVariables false
open spt
noncomputable def fnsSq:List (Nat×Func):=[(17,Tryz.f17),(18,Tryz.f18),(19,Tryz.f19),(20,Tryz.f20),(21,Tryz.f21),(22,Tryz.f22),(23,Tryz.f23),(51,Tryz.f51),(54,Tryz.f54),(56,Tryz.f56),(57,Tryz.f57),(58,Tryz.f58),(59,Tryz.f59),(60,Tryz.f60),(61,Tryz.f61),(62,Tryz.f62),(63,Tryz.f63),(64,Tryz.f64),(65,Tryz.f65),(66,Tryz.f66),(67,Tryz.f67),(110,Tryz.f110),(112,Tryz.f112),(113,Tryz.f113),(114,Tryz.f114),(115,Tryz.f115),(116,Tryz.f116),(117,Tryz.f117),(167,Tryz.f167)]
noncomputable def ESq:Env:=envEx Tryz.prog [0,3,4,5,9,20,21,22,32,33,42,43,44,45,46,47,48,49,50,51,53,55,63,86,118,120,121,123,124,125,127,128,218,220,269] fnsSq []
noncomputable def c114:Code:=Option.getD Tryz.f114.body .skip
noncomputable def c167:Code:=Option.getD Tryz.f167.body .skip
noncomputable def c112:Code:=Option.getD Tryz.f112.body .skip
noncomputable def c62:Code:=Option.getD Tryz.f62.body .skip
noncomputable def c59:Code:=Option.getD Tryz.f59.body .skip
noncomputable def c60:Code:=Option.getD Tryz.f60.body .skip
noncomputable def c64:Code:=Option.getD Tryz.f64.body .skip
noncomputable def c110:Code:=Option.getD Tryz.f110.body .skip
noncomputable def c67:Code:=Option.getD Tryz.f67.body .skip
noncomputable def L114:Code:=lopB (blkB (seqR (seqL (dropC 2 c114))))
noncomputable def L167a:Code:=lopB (blkB (seqR (seqL (dropC 1 c167))))
noncomputable def L167b:Code:=lopB (blkB (seqR (seqL (dropC 3 c167))))
noncomputable def L112:Code:=lopB (blkB (seqR (seqL (dropC 0 c112))))
noncomputable def L62:Code:=lopB (blkB (seqR (seqL (dropC 0 c62))))
noncomputable def L59:Code:=lopB (blkB (seqL (dropC 4 c59)))
noncomputable def L60:Code:=lopB (blkB (seqR (seqL (dropC 2 c60))))
noncomputable def L64:Code:=lopB (blkB (seqR (seqL (dropC 3 c64))))
noncomputable def L110:Code:=lopB (blkB (seqR (seqL (dropC 2 c110))))
noncomputable def L67:Code:=lopB (blkB (seqR (seqL (dropC 2 c67))))
noncomputable def sqo0:Oper:=Oper.mk (some 18) (Op.buildSlice 86 1 #[(0,Operand.tmp 17)]) 86 "script.go:81" #[Edge.mk 2 Ground.data] none
noncomputable def sqo1:Oper:=Oper.mk (some 24) (Op.buildSlice 86 1 #[(0,Operand.tmp 23)]) 86 "ref.go:55" #[Edge.mk 4 Ground.data] none
noncomputable def sqo2:Oper:=Oper.mk (some 25) (Op.buildSlice 49 1 #[(0,Operand.tmp 24)]) 49 "ref.go:100" #[Edge.mk 6 Ground.data] none
noncomputable def sqo3:Oper:=Oper.mk (some 26) (Op.buildSlice 49 1 #[(0,Operand.tmp 25)]) 49 "script.go:56" #[Edge.mk 3 Ground.data] none
noncomputable def sqo4:Oper:=Oper.mk (some 32) (Op.buildSlice 86 1 #[(0,Operand.tmp 31)]) 86 "ref.go:59" #[Edge.mk 3 Ground.data] none
noncomputable def sqb0 (q:CallT) (fr:AFr) (st:ASt):Option (AV×ASt):=aOp ESq (M ESq (drawA ESq) (onlyC [113,55,57] q) 57).call (M ESq (drawA ESq) (onlyC [113,55,57] q) 57).round sqo3 fr st
noncomputable def sqb1 (fr:AFr) (st:ASt):Option (AV×ASt):=aOp ESq (M ESq (drawA ESq) noSum 53).call (M ESq (drawA ESq) noSum 53).round sqo1 fr st
noncomputable def sqb2 (fr:AFr) (st:ASt):Option (AV×ASt):=aOp ESq (M ESq (drawA ESq) noSum 58).call (M ESq (drawA ESq) noSum 58).round sqo4 fr st
noncomputable def sqb3 (q:CallT) (fr:AFr) (st:ASt):Option (AV×ASt):=aOp ESq (M ESq (drawA ESq) (onlyC [60,115] q) 56).call (M ESq (drawA ESq) (onlyC [60,115] q) 56).round sqo2 fr st
noncomputable def sqb4 (q:CallT) (fr:AFr) (st:ASt):Option (AV×ASt):=aOp ESq (M ESq (drawA ESq) (onlyC [106,107] q) 54).call (M ESq (drawA ESq) (onlyC [106,107] q) 54).round sqo0 fr st
noncomputable abbrev kSqB_3:=TM ESq noSum [] fl0 60
noncomputable def tDa (s:List Nat) (m n:Nat) (S:ASt):Tr (Exit×AFr×ASt):=kSqB_3.ex ⟨[12,15,16,19,20,24,25,29,32,35,36,41,47,48,49,52,54],[],[],[]⟩ none (preC 1 c114) {m:=putArgs [.str s,.int .u64 (.ofNat m)] 0 .e,n:=58,defs:=[]} S
noncomputable def tDb (s:List Nat) (m n:Nat) (S:ASt):Tr (Exit×AFr×ASt):=kSqB_3.ex ⟨[12,15,16,19,20,24,25,29,32,35,36,41,47,48,49,52,54],[],[],[]⟩ none (preC 2 c114) {m:=putArgs [.str s,.int .u64 (.ofNat m)] 0 .e,n:=58,defs:=[]} S
noncomputable def tDc (s:List Nat) (m n c:Nat) (S:ASt):Tr (Exit×AFr×ASt):=kSqB_3.ex ⟨[12,15,16,19,20,24,25,29,32,35,36,41,47,48,49,52,54],[],[],[]⟩ none (preC 2 c114) {m:=putArgs [.str s,.int .u64 (.ofNat m)] 0 .e,n:=58,defs:=[]} S
noncomputable def tDe (s:List Nat) (m:Nat) (k0:Nat) (S S1:ASt):Tr (Exit×AFr×ASt):=kSqB_3.ex ⟨[12,15,16,19,20,24,25,29,32,35,36,41,47,48,49,52,54],[],[],[]⟩ none (seqL (seqL (dropC 2 c114))) (xFr [(0,.str s),(1,.int .u64 (.ofNat m)),(6,.int .u64 (.ofNat 0)),(7,.bool true)] 58) S
noncomputable def tDg (s:List Nat) (m n i j r d k a n1 n2:Nat) (b:Bool) (k0:Nat) (S S1:ASt):Tr (Exit×AFr×ASt):=kSqB_3.ex ⟨[12,15,16,19,20,24,25,29,32,35,36,41,47,48,49,52,54],[],[],[]⟩ none L114 (xFr [(1,.int .u64 (.ofNat m)),(6,.int .u64 (.ofNat n)),(7,.bool true),(24,.ptr (some (k0,0)))] 58) S
noncomputable def tDh (s:List Nat) (m n i j r d n1 n2:Nat) (k0:Nat) (S S1:ASt):Tr (Exit×AFr×ASt):=kSqB_3.ex ⟨[12,15,16,19,20,24,25,29,32,35,36,41,47,48,49,52,54],[],[],[]⟩ none L114 (xFr [(1,.int .u64 (.ofNat m)),(6,.int .u64 (.ofNat n)),(7,.bool true),(24,.ptr (some (k0,0)))] 58) S
noncomputable def tDi (s:List Nat) (m n i j r d n1 n2:Nat) (k0:Nat) (S S1:ASt):Tr (Exit×AFr×ASt):=kSqB_3.ex ⟨[12,15,16,19,20,24,25,29,32,35,36,41,47,48,49,52,54],[],[],[]⟩ none L114 (xFr [(1,.int .u64 (.ofNat m)),(6,.int .u64 (.ofNat n)),(7,.bool false),(24,.ptr (some (k0,0)))] 58) S
noncomputable abbrev kSqB_25 (a b:Nat) (c:Bool) (d:Nat):=xFr [(1,.int .u64 (.ofNat a)),(6,.int .u64 (.ofNat b)),(7,.bool c),(24,.ptr (some (d,0)))] 58
noncomputable def tDj (s:List Nat) (m n i j r:Nat) (g:Bool) (k0:Nat) (S S1:ASt):Tr (Exit×AFr×ASt):=kSqB_3.ex ⟨[12,15,16,19,20,24,25,29,32,35,36,41,47,48,49,52,54],[],[],[]⟩ none L114 (kSqB_25 m n g k0) S
noncomputable def tDk (s:List Nat) (m n i j r:Nat) (g:Bool) (k0:Nat) (S S1:ASt):Tr (Exit×AFr×ASt):=kSqB_3.ex ⟨[12,15,16,19,20,24,25,29,32,35,36,41,47,48,49,52,54],[],[],[]⟩ none L114 (kSqB_25 m n g k0) S
noncomputable def tDl (s:List Nat) (m n i:Nat) (g:Bool) (k0:Nat) (S:ASt):Tr (Exit×AFr×ASt):=kSqB_3.ex ⟨[12,15,16,19,20,24,25,29,32,35,36,41,47,48,49,52,54],[],[],[]⟩ none L114 (kSqB_25 m n g k0) S
noncomputable def tDm (s:List Nat) (n i:Nat) (S:ASt):Tr (Exit×AFr×ASt):=kSqB_3.ex ⟨[12,15,16,19,20,24,25,29,32,35,36,41,47,48,49,52,54],[],[],[]⟩ none (dropC 3 c114) (xFr [(6,.int .u64 (.ofNat n)),(7,.bool true)] 58) S
noncomputable def tDn (s:List Nat) (n i:Nat) (S:ASt):Tr (Exit×AFr×ASt):=kSqB_3.ex ⟨[12,15,16,19,20,24,25,29,32,35,36,41,47,48,49,52,54],[],[],[]⟩ none (dropC 3 c114) (xFr [(6,.int .u64 (.ofNat n)),(7,.bool false)] 58) S
noncomputable def tDz (m:Nat) (S:ASt):Tr (AV×ASt):=kSqB_3.call 114 [.str [],.int .u64 (.ofNat m)] S
noncomputable def tEa (s:List Nat) (m n:Nat) (S:ASt):Tr (Exit×AFr×ASt):=kSqB_3.ex ⟨[11,14,15,18,19,24,25,30,31,35,36,27,40,41,46,47,48,51,56,57,58,61,63,43],[],[],[]⟩ none (preC 1 c167) {m:=putArgs [.str s,.int .u64 (.ofNat m)] 0 .e,n:=65,defs:=[]} S
noncomputable def tEb (s:List Nat) (m n:Nat) (S:ASt):Tr (Exit×AFr×ASt):=kSqB_3.ex ⟨[11,14,15,18,19,24,25,30,31,35,36,27,40,41,46,47,48,51,56,57,58,61,63,43],[],[],[]⟩ none (preC 1 c167) {m:=putArgs [.str s,.int .u64 (.ofNat m)] 0 .e,n:=65,defs:=[]} S
noncomputable def tEc (s:List Nat) (m n c:Nat) (S:ASt):Tr (Exit×AFr×ASt):=kSqB_3.ex ⟨[11,14,15,18,19,24,25,30,31,35,36,27,40,41,46,47,48,51,56,57,58,61,63,43],[],[],[]⟩ none (preC 1 c167) {m:=putArgs [.str s,.int .u64 (.ofNat m)] 0 .e,n:=65,defs:=[]} S
noncomputable def tEd (s:List Nat) (m:Nat) (S:ASt):Tr (Exit×AFr×ASt):=kSqB_3.ex ⟨[11,14,15,18,19,24,25,30,31,35,36,27,40,41,46,47,48,51,56,57,58,61,63,43],[],[],[]⟩ none (seqL (seqL (dropC 1 c167))) (xFr [(0,.str s),(1,.int .u64 (.ofNat m))] 65) S
noncomputable abbrev kSqB_23 (a:List Nat) (b c:Nat):=xFr [(0,.str a),(1,.int .u64 (.ofNat b)),(6,.int .i64 (.ofNat c))] 65
noncomputable def tEe (s:List Nat) (m n i c:Nat) (S:ASt):Tr (Exit×AFr×ASt):=kSqB_3.ex ⟨[11,14,15,18,19,24,25,30,31,35,36,27,40,41,46,47,48,51,56,57,58,61,63,43],[],[],[]⟩ none L167a (kSqB_23 s m i) S
noncomputable def tEf (s:List Nat) (m n i c:Nat) (S:ASt):Tr (Exit×AFr×ASt):=kSqB_3.ex ⟨[11,14,15,18,19,24,25,30,31,35,36,27,40,41,46,47,48,51,56,57,58,61,63,43],[],[],[]⟩ none L167a (kSqB_23 s m i) S
noncomputable def tEg (s:List Nat) (m n i c:Nat) (S:ASt):Tr (Exit×AFr×ASt):=kSqB_3.ex ⟨[11,14,15,18,19,24,25,30,31,35,36,27,40,41,46,47,48,51,56,57,58,61,63,43],[],[],[]⟩ none L167a (kSqB_23 s m i) S
noncomputable def tEh (s:List Nat) (m n i:Nat) (S:ASt):Tr (Exit×AFr×ASt):=kSqB_3.ex ⟨[11,14,15,18,19,24,25,30,31,35,36,27,40,41,46,47,48,51,56,57,58,61,63,43],[],[],[]⟩ none L167a (kSqB_23 s m i) S
noncomputable def tEi (s:List Nat) (m:Nat) (S:ASt):Tr (Exit×AFr×ASt):=kSqB_3.ex ⟨[11,14,15,18,19,24,25,30,31,35,36,27,40,41,46,47,48,51,56,57,58,61,63,43],[],[],[]⟩ none (seqL (dropC 2 c167)) (xFr [(0,.str s),(1,.int .u64 (.ofNat m))] 65) S
noncomputable def tEj (s:List Nat) (m:Nat) (S:ASt):Tr (Exit×AFr×ASt):=kSqB_3.ex ⟨[11,14,15,18,19,24,25,30,31,35,36,27,40,41,46,47,48,51,56,57,58,61,63,43],[],[],[]⟩ none (seqL (seqL (dropC 3 c167))) (xFr [(0,.str s),(1,.int .u64 (.ofNat m)),(7,.int .u64 (.ofNat 0))] 65) S
noncomputable abbrev kSqB_15 (a:List Nat) (b c d:Nat):=xFr [(0,.str a),(1,.int .u64 (.ofNat b)),(7,.int .u64 (.ofNat c)),(8,.int .i64 (.ofNat d))] 65
noncomputable def tEk (s:List Nat) (m n l i c d a k n1 n2:Nat) (S:ASt):Tr (Exit×AFr×ASt):=kSqB_3.ex ⟨[11,14,15,18,19,24,25,30,31,35,36,27,40,41,46,47,48,51,56,57,58,61,63,43],[],[],[]⟩ none L167b (kSqB_15 s m n i) S
noncomputable def tEl (s:List Nat) (m n l i c d:Nat) (S:ASt):Tr (Exit×AFr×ASt):=kSqB_3.ex ⟨[11,14,15,18,19,24,25,30,31,35,36,27,40,41,46,47,48,51,56,57,58,61,63,43],[],[],[]⟩ none L167b (kSqB_15 s m n i) S
noncomputable def tEm (s:List Nat) (m n l i c d a k:Nat) (S:ASt):Tr (Exit×AFr×ASt):=kSqB_3.ex ⟨[11,14,15,18,19,24,25,30,31,35,36,27,40,41,46,47,48,51,56,57,58,61,63,43],[],[],[]⟩ none L167b (kSqB_15 s m n i) S
noncomputable def tEn (s:List Nat) (m n l i:Nat) (S:ASt):Tr (Exit×AFr×ASt):=kSqB_3.ex ⟨[11,14,15,18,19,24,25,30,31,35,36,27,40,41,46,47,48,51,56,57,58,61,63,43],[],[],[]⟩ none L167b (kSqB_15 s m n i) S
noncomputable def tEo (n:Nat) (S:ASt):Tr (Exit×AFr×ASt):=kSqB_3.ex ⟨[11,14,15,18,19,24,25,30,31,35,36,27,40,41,46,47,48,51,56,57,58,61,63,43],[],[],[]⟩ none (dropC 4 c167) (xFr [(7,.int .u64 (.ofNat n))] 65) S
noncomputable def tEz (m:Nat) (S:ASt):Tr (AV×ASt):=kSqB_3.call 167 [.str [],.int .u64 (.ofNat m)] S
noncomputable def tWa (w r o:Nat) (S S1:ASt):Tr (AV×ASt):=(TM ESq noSum [(113,⟨[7,16,17,18,23,24,4095],[],[],[]⟩)] fl0 60).call 113 [.ptr (some (w,0))] S
noncomputable def tWb (w r o o2 n:Nat) (s:List Nat) (S S1:ASt):Tr (AV×ASt):=(TM ESq noSum [(113,⟨[7,16,17,18,23,24,4095],[],[],[]⟩)] fl0 60).call 113 [.ptr (some (w,0))] S
noncomputable def tNa (q:CallT) (w m n e:Nat) (s:List Nat) (S S1 S2:ASt):Tr (AV×ASt):=(TM ESq (onlyC [113,114] q) [(57,⟨[9,11,18,21,4095],[],[],[]⟩)] fl0 60).call 57 [.ptr (some (w,0)),.int .u64 (.ofNat m)] S
noncomputable def tNb (q:CallT) (w m n e:Nat) (b:Bool) (s:List Nat) (S S1 S2:ASt):Tr (AV×ASt):=(TM ESq (onlyC [113,114] q) [(57,⟨[9,11,18,21,4095],[],[],[]⟩)] fl0 60).call 57 [.ptr (some (w,0)),.int .u64 (.ofNat m)] S
noncomputable def tOa (q:CallT) (w p:Nat) (z:Int) (s:List Nat) (A:AV) (S S1 S2:ASt):Tr (AV×ASt):=(TM ESq (onlyC [113,112] q) [(56,⟨[8,9,14,17,22,4095],[],[],[]⟩)] fl0 60).call 56 [.ptr (some (w,0)),A] S
noncomputable def tOb (q:CallT) (w p:Nat) (z:Int) (b:Bool) (s:List Nat) (A:AV) (S S1 S2:ASt):Tr (AV×ASt):=(TM ESq (onlyC [113,112] q) [(56,⟨[8,9,14,17,22,4095],[],[],[]⟩)] fl0 60).call 56 [.ptr (some (w,0)),A] S
noncomputable def tIa (r n:Nat) (s:List Nat) (S:ASt):Tr (Exit×AFr×ASt):=kSqB_3.ex ⟨[9,14,15,16,18],[],[],[]⟩ none (preC 0 c112) {m:=putArgs [.slice (some (r,0)) n (.known n),.str s] 0 .e,n:=19,defs:=[]} S
noncomputable def tIg (r n:Nat) (s:List Nat) (S:ASt):Tr (Exit×AFr×ASt):=kSqB_3.ex ⟨[9,14,15,16,18],[],[],[]⟩ none (seqL (seqL (dropC 0 c112))) (xFr [(0,.slice (some (r,0)) n (.known n)),(1,.str s)] 19) S
noncomputable abbrev kSqB_22 (a b:Nat) (c:List Nat) (d:Nat):=xFr [(0,.slice (some (a,0)) b (.known b)),(1,.str c),(7,.int .i64 (.ofNat b)),(8,.int .i64 (.ofNat d))] 19
noncomputable def tIb (r n i:Nat) (s k:List Nat) (S:ASt):Tr (Exit×AFr×ASt):=kSqB_3.ex ⟨[9,14,15,16,18],[],[],[]⟩ none L112 (kSqB_22 r n s i) S
noncomputable def tIc (r n i:Nat) (s k:List Nat) (S:ASt):Tr (Exit×AFr×ASt):=kSqB_3.ex ⟨[9,14,15,16,18],[],[],[]⟩ none L112 (kSqB_22 r n s i) S
noncomputable def tId (r n i:Nat) (s:List Nat) (S:ASt):Tr (Exit×AFr×ASt):=kSqB_3.ex ⟨[9,14,15,16,18],[],[],[]⟩ none L112 (kSqB_22 r n s i) S
noncomputable def tIe (S:ASt):Tr (Exit×AFr×ASt):=kSqB_3.ex ⟨[9,14,15,16,18],[],[],[]⟩ none (dropC 1 c112) (xFr [] 19) S
noncomputable def tPa (r n:Nat) (s:List Nat) (S:ASt):Tr (Exit×AFr×ASt):=kSqB_3.ex ⟨[9,14,15,17,19,11],[],[],[]⟩ none (preC 0 c62) {m:=putArgs [.slice (some (r,0)) n (.known n),.str s] 0 .e,n:=20,defs:=[]} S
noncomputable def tPg (r n:Nat) (s:List Nat) (S:ASt):Tr (Exit×AFr×ASt):=kSqB_3.ex ⟨[9,14,15,17,19,11],[],[],[]⟩ none (seqL (seqL (dropC 0 c62))) (xFr [(0,.slice (some (r,0)) n (.known n)),(1,.str s)] 20) S
noncomputable def tPb (r n i:Nat) (s k:List Nat) (S:ASt):Tr (Exit×AFr×ASt):=kSqB_3.ex ⟨[9,14,15,17,19,11],[],[],[]⟩ none L62 (xFr [(0,.slice (some (r,0)) n (.known n)),(1,.str s),(5,.int .i64 (.ofNat i))] 20) S
noncomputable def tPc (r n i:Nat) (s k:List Nat) (S:ASt):Tr (Exit×AFr×ASt):=kSqB_3.ex ⟨[9,14,15,17,19,11],[],[],[]⟩ none L62 (xFr [(0,.slice (some (r,0)) n (.known n)),(1,.str s),(5,.int .i64 (.ofNat i))] 20) S
noncomputable def tPd (r n i:Nat) (s:List Nat) (S:ASt):Tr (Exit×AFr×ASt):=kSqB_3.ex ⟨[9,14,15,17,19,11],[],[],[]⟩ none L62 (xFr [(0,.slice (some (r,0)) n (.known n)),(1,.str s),(5,.int .i64 (.ofNat i))] 20) S
noncomputable def tPe (S:ASt):Tr (Exit×AFr×ASt):=kSqB_3.ex ⟨[9,14,15,17,19,11],[],[],[]⟩ none (dropC 1 c62) (xFr [] 20) S
noncomputable def tRa (q:CallT) (w m:Nat) (s:List Nat) (S S1:ASt):Tr (Exit×AFr×ASt):=(TM ESq (onlyC [113,55,57] q) [] fl0 60).ex ⟨[9,11,13,15,19,21,25,26,27,32,37,4095],[],[],[]⟩ none (preC 2 c59) {m:=putArgs [.ptr (some (w,0)),.int .u64 (.ofNat m)] 0 .e,n:=42,defs:=[]} S
noncomputable def tRb (q:CallT) (w m k r n:Nat) (s:List Nat) (S S1 S2 S3:ASt):Tr (Exit×AFr×ASt):=(TM ESq (onlyC [113,55,57] q) [] fl0 60).ex ⟨[9,11,13,15,19,21,25,26,27,32,37,4095],[],[],[]⟩ none (preC 4 c59) {m:=putArgs [.ptr (some (w,0)),.int .u64 (.ofNat m)] 0 .e,n:=42,defs:=[]} S
noncomputable def tRc (q:CallT) (w m k r o n x:Nat) (A W B:AV) (S S1 S2 S3:ASt):Tr (Exit×AFr×ASt):=(TM ESq (onlyC [113,55,57] q) [] fl0 60).ex ⟨[9,11,13,15,19,21,25,26,27,32,37,4095],[],[],[]⟩ none L59 (xFr [(0,.ptr (some (w,0))),(1,.int .u64 (.ofNat m)),(6,.ptr (some (k,0))),(7,A)] 42) S
noncomputable def tRd (w m k r o n:Nat) (A:AV) (S:ASt):Tr (Exit×AFr×ASt):=kSqB_3.ex ⟨[9,11,13,15,19,21,25,26,27,32,37,4095],[],[],[]⟩ none L59 (xFr [(0,.ptr (some (w,0))),(1,.int .u64 (.ofNat m)),(6,.ptr (some (k,0))),(7,A)] 42) S
noncomputable def tRe (w k:Nat) (A:AV) (S S1:ASt):Tr (Exit×AFr×ASt):=kSqB_3.ex ⟨[9,11,13,15,19,21,25,26,27,32,37,4095],[],[],[]⟩ none (dropC 5 c59) (xFr [(0,.ptr (some (w,0))),(6,.ptr (some (k,0))),(7,A)] 42) S
noncomputable def tRf (w k:Nat) (b:Bool) (A:AV) (S S1:ASt):Tr (Exit×AFr×ASt):=kSqB_3.ex ⟨[9,11,13,15,19,21,25,26,27,32,37,4095],[],[],[]⟩ none (dropC 5 c59) (xFr [(0,.ptr (some (w,0))),(6,.ptr (some (k,0))),(7,A)] 42) S
noncomputable def tUa (c:Nat) (s:List Nat) (S:ASt):Tr (Exit×AFr×ASt):=kSqB_3.ex ⟨[10,11,16,18,13,23,24,25,27,31,32,33],[],[],[]⟩ none (preC 2 c60) {m:=putArgs [.str s,.int .u8 (.ofNat c)] 0 .e,n:=34,defs:=[]} S
noncomputable def tUb (c:Nat) (s:List Nat) (S:ASt):Tr (Exit×AFr×ASt):=kSqB_3.ex ⟨[10,11,16,18,13,23,24,25,27,31,32,33],[],[],[]⟩ none (seqL (seqL (dropC 2 c60))) (xFr [(0,.str s),(1,.int .u8 (.ofNat c)),(5,.slice none 0 (.known 0)),(6,.int .i64 (.ofNat 0))] 34) S
noncomputable abbrev kSqB_26 (a:List Nat) (b:Nat) (c:AV) (d e:Nat):=xFr [(0,.str a),(1,.int .u8 (.ofNat b)),(5,c),(6,.int .i64 (.ofNat d)),(7,.int .i64 (.ofNat e))] 34
noncomputable def tUc (c f i n x:Nat) (s:List Nat) (A:AV) (S:ASt):Tr (Exit×AFr×ASt):=kSqB_3.ex ⟨[10,11,16,18,13,23,24,25,27,31,32,33],[],[],[]⟩ none L60 (kSqB_26 s c A f i) S
noncomputable def tUd (c f i n x:Nat) (s p:List Nat) (A W B:AV) (S S1 S2:ASt):Tr (Exit×AFr×ASt):=kSqB_3.ex ⟨[10,11,16,18,13,23,24,25,27,31,32,33],[],[],[]⟩ none L60 (kSqB_26 s c A f i) S
noncomputable def tUe (c f i n:Nat) (s:List Nat) (A:AV) (S:ASt):Tr (Exit×AFr×ASt):=kSqB_3.ex ⟨[10,11,16,18,13,23,24,25,27,31,32,33],[],[],[]⟩ none L60 (kSqB_26 s c A f i) S
noncomputable def tUf (f:Nat) (s p:List Nat) (A W B:AV) (S S1 S2:ASt):Tr (Exit×AFr×ASt):=kSqB_3.ex ⟨[10,11,16,18,13,23,24,25,27,31,32,33],[],[],[]⟩ none (dropC 3 c60) (xFr [(0,.str s),(5,A),(6,.int .i64 (.ofNat f))] 34) S
noncomputable def tGa (q:CallT) (m n:Nat) (s:List Nat) (S:ASt):Tr (AV×ASt):=(TM ESq (onlyC [167] q) [(115,⟨[10,14],[],[],[]⟩)] fl0 60).call 115 [.str s,.int .u64 (.ofNat m)] S
noncomputable def tGb (q:CallT) (m n e:Nat) (s:List Nat) (S:ASt):Tr (AV×ASt):=(TM ESq (onlyC [167] q) [(115,⟨[10,14],[],[],[]⟩)] fl0 60).call 115 [.str s,.int .u64 (.ofNat m)] S
noncomputable def tGc (q:CallT) (n:Nat) (s:List Nat) (S:ASt):Tr (AV×ASt):=(TM ESq (onlyC [115] q) [(61,⟨[7,8,9],[],[],[]⟩)] fl0 60).call 61 [.str s,.int .i64 (.ofNat 1000000)] S
noncomputable def tHa (s:List Nat) (m:Nat) (S:ASt):Tr (Exit×AFr×ASt):=kSqB_3.ex ⟨[9,11,15,21,22,24,25,26,17],[],[],[]⟩ none (preC 1 c64) {m:=putArgs [.str s,.int .u64 (.ofNat m)] 0 .e,n:=28,defs:=[]} S
noncomputable def tHb (q:CallT) (r n m:Nat) (s:List Nat) (S S1:ASt):Tr (Exit×AFr×ASt):=(TM ESq (onlyC [60,115] q) [] fl0 60).ex ⟨[9,11,15,21,22,24,25,26,17],[],[],[]⟩ none (preC 3 c64) {m:=putArgs [.str s,.int .u64 (.ofNat m)] 0 .e,n:=28,defs:=[]} S
noncomputable def tHc (r n m:Nat) (S:ASt):Tr (Exit×AFr×ASt):=kSqB_3.ex ⟨[9,11,15,21,22,24,25,26,17],[],[],[]⟩ none (seqL (seqL (dropC 3 c64))) (xFr [(1,.int .u64 (.ofNat m)),(5,.slice none 0 (.known 0)),(6,.slice (some (r,0)) n (.rest 1))] 28) S
noncomputable def tHd (q:CallT) (r n m i x:Nat) (s:List Nat) (A W B:AV) (S S1 S2:ASt):Tr (Exit×AFr×ASt):=(TM ESq (onlyC [60,115] q) [] fl0 60).ex ⟨[9,11,15,21,22,24,25,26,17],[],[],[]⟩ none L64 (xFr [(1,.int .u64 (.ofNat m)),(5,A),(6,.slice (some (r,0)) n (.rest 1)),(7,.int .i64 (.ofNat i))] 28) S
noncomputable def tHe (r n m i:Nat) (A:AV) (S:ASt):Tr (Exit×AFr×ASt):=kSqB_3.ex ⟨[9,11,15,21,22,24,25,26,17],[],[],[]⟩ none L64 (xFr [(1,.int .u64 (.ofNat m)),(5,A),(6,.slice (some (r,0)) n (.rest 1)),(7,.int .i64 (.ofNat i))] 28) S
noncomputable def tHf (A:AV) (S:ASt):Tr (Exit×AFr×ASt):=kSqB_3.ex ⟨[9,11,15,21,22,24,25,26,17],[],[],[]⟩ none (dropC 4 c64) (xFr [(5,A)] 28) S
noncomputable def tJa (D:AV) (S:ASt):Tr (Exit×AFr×ASt):=kSqB_3.ex ⟨[7,8,10,12,13,14,17,18,19,20,22],[],[],[]⟩ none (preC 1 c110) {m:=putArgs [D] 0 .e,n:=23,defs:=[]} S
noncomputable def tJb (D:AV) (n:Nat) (S:ASt):Tr (Exit×AFr×ASt):=kSqB_3.ex ⟨[7,8,10,12,13,14,17,18,19,20,22],[],[],[]⟩ none (preC 2 c110) {m:=putArgs [D] 0 .e,n:=23,defs:=[]} S
noncomputable def tJc (D:AV) (n:Nat) (S:ASt):Tr (Exit×AFr×ASt):=kSqB_3.ex ⟨[7,8,10,12,13,14,17,18,19,20,22],[],[],[]⟩ none (seqL (seqL (dropC 2 c110))) (xFr [(0,D),(3,.slice none 0 (.known 0))] 23) S
noncomputable def tJd (q:CallT) (n i x r o:Nat) (t:List Nat) (D A W B:AV) (S S1 S2:ASt):Tr (Exit×AFr×ASt):=(TM ESq (onlyC [106,107] q) [] fl0 60).ex ⟨[7,8,10,12,13,14,17,18,19,20,22],[],[],[]⟩ none L110 (xFr [(3,A),(9,D),(10,.int .i64 (.ofNat n)),(11,.int .i64 (.ofNat i))] 23) S
noncomputable def tJe (n i:Nat) (D A:AV) (S:ASt):Tr (Exit×AFr×ASt):=kSqB_3.ex ⟨[7,8,10,12,13,14,17,18,19,20,22],[],[],[]⟩ none L110 (xFr [(3,A),(9,D),(10,.int .i64 (.ofNat n)),(11,.int .i64 (.ofNat i))] 23) S
noncomputable def tJf (q:CallT) (t:List Nat) (A:AV) (S:ASt):Tr (Exit×AFr×ASt):=(TM ESq (onlyC [106,107] q) [] fl0 60).ex ⟨[7,8,10,12,13,14,17,18,19,20,22],[],[],[]⟩ none (dropC 3 c110) (xFr [(3,A)] 23) S
noncomputable def tKa (D:AV) (S:ASt):Tr (Exit×AFr×ASt):=kSqB_3.ex ⟨[6,7,10,11,15,17,21,22,23,24,13],[],[],[]⟩ none (preC 1 c67) {m:=putArgs [D] 0 .e,n:=26,defs:=[]} S
noncomputable def tKb (D:AV) (n:Nat) (S:ASt):Tr (Exit×AFr×ASt):=kSqB_3.ex ⟨[6,7,10,11,15,17,21,22,23,24,13],[],[],[]⟩ none (preC 2 c67) {m:=putArgs [D] 0 .e,n:=26,defs:=[]} S
noncomputable def tKc (D:AV) (S:ASt):Tr (Exit×AFr×ASt):=kSqB_3.ex ⟨[6,7,10,11,15,17,21,22,23,24,13],[],[],[]⟩ none (seqL (seqL (dropC 2 c67))) (xFr [(0,D),(3,.str [])] 26) S
noncomputable def tKd (q:CallT) (n i x r o:Nat) (a a1 a2 t:List Nat) (D:AV) (S:ASt):Tr (Exit×AFr×ASt):=(TM ESq (onlyC [53] q) [] fl0 60).ex ⟨[6,7,10,11,15,17,21,22,23,24,13],[],[],[]⟩ none L67 (xFr [(0,D),(3,.str a),(4,.int .i64 (.ofNat i))] 26) S
noncomputable def tKe (q:CallT) (n i x r o:Nat) (a a2 t:List Nat) (D:AV) (S:ASt):Tr (Exit×AFr×ASt):=(TM ESq (onlyC [53] q) [] fl0 60).ex ⟨[6,7,10,11,15,17,21,22,23,24,13],[],[],[]⟩ none L67 (xFr [(0,D),(3,.str a),(4,.int .i64 (.ofNat i))] 26) S
noncomputable def tKf (n i:Nat) (a:List Nat) (D:AV) (S:ASt):Tr (Exit×AFr×ASt):=kSqB_3.ex ⟨[6,7,10,11,15,17,21,22,23,24,13],[],[],[]⟩ none L67 (xFr [(0,D),(3,.str a),(4,.int .i64 (.ofNat i))] 26) S
noncomputable def tKg (a:List Nat) (S:ASt):Tr (Exit×AFr×ASt):=kSqB_3.ex ⟨[6,7,10,11,15,17,21,22,23,24,13],[],[],[]⟩ none (dropC 3 c67) (xFr [(3,.str a)] 26) S
noncomputable abbrev kSqB_0 (a:Nat):=AV.int IntKind.i64 (Int.ofNat a)
noncomputable abbrev kSqB_2 (a:Nat):=AV.int IntKind.u8 (Int.ofNat a)
noncomputable abbrev kSqB_5:=Operand.const (Value.int IntKind.i64 1)
noncomputable abbrev kSqB_6 (a:List Nat):=aBuiltinM ESq Builtin.len [9] [AV.str a]
noncomputable abbrev kSqB_11:=Operand.const (Value.int IntKind.u8 48)
noncomputable abbrev kSqB_12 (a:List Nat) (b:Nat):=aIndex ESq 9 (AV.str a) (kSqB_0 b)
noncomputable abbrev kSqB_18:=Operand.const (Value.string (ByteArray.mk #[]))
theorem vcDa (s:List Nat) (m:Nat) (n:Nat) (S:ASt) (Q:Exit×AFr×ASt→Prop) :
 Vq (tDa s m n S) (fun r=>Q (rawR [4,5] r)) (as_ S (aBin ESq BinOp.eql 9 (Operand.tmp 11) kSqB_18 (AV.str s) (AV.str [])) (AV.bool false) (al (kSqB_6 s) S (kSqB_0 n) (as_ S (aBin ESq BinOp.gtr 3 (Operand.tmp 15) kSqB_5 (kSqB_0 n) (kSqB_0 1)) (AV.bool true) (as_ S (kSqB_12 s 0) (kSqB_2 48) (as_ S (aBin ESq BinOp.eql 5 (Operand.tmp 19) kSqB_11 (kSqB_2 48) (kSqB_2 48)) (AV.bool true) (aq (Q (Exit.ret,xFr [(4,AV.int IntKind.u64 (Int.ofNat 0)),(5,AV.int IntKind.i64 (Int.ofNat 4))] 58,S)))))))):=vq (by kernel_rfl)
theorem vcDb (s:List Nat) (m:Nat) (n:Nat) (S:ASt) (Q:Exit×AFr×ASt→Prop) :
 Vq (tDb s m n S) (fun r=>Q (rawR [0,1,6,7] r)) (as_ S (aBin ESq BinOp.eql 9 (Operand.tmp 11) kSqB_18 (AV.str s) (AV.str [])) (AV.bool false) (al (kSqB_6 s) S (kSqB_0 n) (as_ S (aBin ESq BinOp.gtr 3 (Operand.tmp 15) kSqB_5 (kSqB_0 n) (kSqB_0 1)) (AV.bool false) (aq (Q (Exit.normal,xFr [(0,AV.str s),(1,AV.int IntKind.u64 (Int.ofNat m)),(6,AV.int IntKind.u64 (Int.ofNat 0)),(7,AV.bool true)] 58,S)))))):=vq (by kernel_rfl)
theorem vcDc (s:List Nat) (m:Nat) (n:Nat) (c:Nat) (S:ASt) (Q:Exit×AFr×ASt→Prop) :
 Vq (tDc s m n c S) (fun r=>Q (rawR [0,1,6,7] r)) (as_ S (aBin ESq BinOp.eql 9 (Operand.tmp 11) kSqB_18 (AV.str s) (AV.str [])) (AV.bool false) (al (kSqB_6 s) S (kSqB_0 n) (as_ S (aBin ESq BinOp.gtr 3 (Operand.tmp 15) kSqB_5 (kSqB_0 n) (kSqB_0 1)) (AV.bool true) (as_ S (kSqB_12 s 0) (kSqB_2 c) (as_ S (aBin ESq BinOp.eql 5 (Operand.tmp 19) kSqB_11 (kSqB_2 c) (kSqB_2 48)) (AV.bool false) (aq (Q (Exit.normal,xFr [(0,AV.str s),(1,AV.int IntKind.u64 (Int.ofNat m)),(6,AV.int IntKind.u64 (Int.ofNat 0)),(7,AV.bool true)] 58,S)))))))):=vq (by kernel_rfl)
theorem vcDe (s:List Nat) (m:Nat) (k0:Nat) (S:ASt) (S1:ASt) (Q:Exit×AFr×ASt→Prop) :
 Vq (tDe s m k0 S S1) (fun r=>Q (rawR [1,6,7,24] r)) (aa (aRange ESq 9 (AV.str s) S) (AV.ptr (some (k0,0)),S1) (aq (Q (Exit.normal,xFr [(1,AV.int IntKind.u64 (Int.ofNat m)),(6,AV.int IntKind.u64 (Int.ofNat 0)),(7,AV.bool true),(24,AV.ptr (some (k0,0)))] 58,S1)))):=vq (by kernel_rfl)
noncomputable abbrev kSqB_1 (a:Nat):=AV.int IntKind.u64 (Int.ofNat a)
noncomputable abbrev kSqB_4 (a:Nat):=AV.int IntKind.i32 (Int.ofNat a)
noncomputable abbrev kSqB_13 (a b:Nat):List AV:=[AV.bool true,AV.int IntKind.i64 (Int.ofNat a),AV.int IntKind.i32 (Int.ofNat b)]
noncomputable abbrev kSqB_14:=Operand.const (Value.int IntKind.i32 48)
noncomputable abbrev kSqB_17:=Operand.const (Value.int IntKind.u64 10)
noncomputable abbrev kSqB_30:=Operand.const (Value.int IntKind.i32 57)
theorem vcDg (s:List Nat) (m:Nat) (n:Nat) (i:Nat) (j:Nat) (r:Nat) (d:Nat) (k:Nat) (a:Nat) (n1:Nat) (n2:Nat) (b:Bool) (k0:Nat) (S:ASt) (S1:ASt) (Q:Exit×AFr×ASt→Prop) :
 Vq (tDg s m n i j r d k a n1 n2 b k0 S S1) (fun r=>Q (rawR [1,6,7,24] r)) (aa (aNext (AV.ptr (some (k0,0))) true S) (AV.tuple (kSqB_13 i r),S1) (as_ S1 (aBin ESq BinOp.lss 21 (Operand.tmp 28) kSqB_14 (kSqB_4 r) (kSqB_4 48)) (AV.bool false) (as_ S1 (aBin ESq BinOp.gtr 21 (Operand.tmp 31) kSqB_30 (kSqB_4 r) (kSqB_4 57)) (AV.bool false) (as_ S1 (aBin ESq BinOp.sub 21 (Operand.tmp 34) kSqB_14 (kSqB_4 r) (kSqB_4 48)) (kSqB_4 d) (al (aConvert ESq 21 22 (kSqB_4 d)) S1 (kSqB_1 d) (as_ S1 (aBin ESq BinOp.leq 22 (Operand.tmp 39) (Operand.tmp 40) (kSqB_1 d) (kSqB_1 m)) (AV.bool true) (as_ S1 (aBin ESq BinOp.sub 22 (Operand.tmp 45) (Operand.tmp 46) (kSqB_1 m) (kSqB_1 d)) (kSqB_1 a) (as_ S1 (aBin ESq BinOp.quo 22 (Operand.tmp 47) kSqB_17 (kSqB_1 a) (kSqB_1 10)) (kSqB_1 k) (as_ S1 (aBin ESq BinOp.leq 22 (Operand.tmp 44) (Operand.tmp 48) (kSqB_1 n) (kSqB_1 k)) (AV.bool b) (as_ S1 (aBin ESq BinOp.mul 22 (Operand.tmp 51) kSqB_17 (kSqB_1 n) (kSqB_1 10)) (kSqB_1 n1) (as_ S1 (aBin ESq BinOp.add 22 (Operand.tmp 52) (Operand.tmp 53) (kSqB_1 n1) (kSqB_1 d)) (kSqB_1 n2) (aq (Q (Exit.normal,xFr [(1,AV.int IntKind.u64 (Int.ofNat m)),(6,AV.int IntKind.u64 (Int.ofNat n2)),(7,AV.bool b),(24,AV.ptr (some (k0,0)))] 58,S1)))))))))))))):=vq (by kernel_rfl)
theorem vcDh (s:List Nat) (m:Nat) (n:Nat) (i:Nat) (j:Nat) (r:Nat) (d:Nat) (n1:Nat) (n2:Nat) (k0:Nat) (S:ASt) (S1:ASt) (Q:Exit×AFr×ASt→Prop) :
 Vq (tDh s m n i j r d n1 n2 k0 S S1) (fun r=>Q (rawR [1,6,7,24] r)) (aa (aNext (AV.ptr (some (k0,0))) true S) (AV.tuple (kSqB_13 i r),S1) (as_ S1 (aBin ESq BinOp.lss 21 (Operand.tmp 28) kSqB_14 (kSqB_4 r) (kSqB_4 48)) (AV.bool false) (as_ S1 (aBin ESq BinOp.gtr 21 (Operand.tmp 31) kSqB_30 (kSqB_4 r) (kSqB_4 57)) (AV.bool false) (as_ S1 (aBin ESq BinOp.sub 21 (Operand.tmp 34) kSqB_14 (kSqB_4 r) (kSqB_4 48)) (kSqB_4 d) (al (aConvert ESq 21 22 (kSqB_4 d)) S1 (kSqB_1 d) (as_ S1 (aBin ESq BinOp.leq 22 (Operand.tmp 39) (Operand.tmp 40) (kSqB_1 d) (kSqB_1 m)) (AV.bool false) (as_ S1 (aBin ESq BinOp.mul 22 (Operand.tmp 51) kSqB_17 (kSqB_1 n) (kSqB_1 10)) (kSqB_1 n1) (as_ S1 (aBin ESq BinOp.add 22 (Operand.tmp 52) (Operand.tmp 53) (kSqB_1 n1) (kSqB_1 d)) (kSqB_1 n2) (aq (Q (Exit.normal,xFr [(1,AV.int IntKind.u64 (Int.ofNat m)),(6,AV.int IntKind.u64 (Int.ofNat n2)),(7,AV.bool false),(24,AV.ptr (some (k0,0)))] 58,S1))))))))))):=vq (by kernel_rfl)
theorem vcDi (s:List Nat) (m:Nat) (n:Nat) (i:Nat) (j:Nat) (r:Nat) (d:Nat) (n1:Nat) (n2:Nat) (k0:Nat) (S:ASt) (S1:ASt) (Q:Exit×AFr×ASt→Prop) :
 Vq (tDi s m n i j r d n1 n2 k0 S S1) (fun r=>Q (rawR [1,6,7,24] r)) (aa (aNext (AV.ptr (some (k0,0))) true S) (AV.tuple (kSqB_13 i r),S1) (as_ S1 (aBin ESq BinOp.lss 21 (Operand.tmp 28) kSqB_14 (kSqB_4 r) (kSqB_4 48)) (AV.bool false) (as_ S1 (aBin ESq BinOp.gtr 21 (Operand.tmp 31) kSqB_30 (kSqB_4 r) (kSqB_4 57)) (AV.bool false) (as_ S1 (aBin ESq BinOp.sub 21 (Operand.tmp 34) kSqB_14 (kSqB_4 r) (kSqB_4 48)) (kSqB_4 d) (al (aConvert ESq 21 22 (kSqB_4 d)) S1 (kSqB_1 d) (as_ S1 (aBin ESq BinOp.mul 22 (Operand.tmp 51) kSqB_17 (kSqB_1 n) (kSqB_1 10)) (kSqB_1 n1) (as_ S1 (aBin ESq BinOp.add 22 (Operand.tmp 52) (Operand.tmp 53) (kSqB_1 n1) (kSqB_1 d)) (kSqB_1 n2) (aq (Q (Exit.normal,xFr [(1,AV.int IntKind.u64 (Int.ofNat m)),(6,AV.int IntKind.u64 (Int.ofNat n2)),(7,AV.bool false),(24,AV.ptr (some (k0,0)))] 58,S1)))))))))):=vq (by kernel_rfl)
theorem vcDj (s:List Nat) (m:Nat) (n:Nat) (i:Nat) (j:Nat) (r:Nat) (g:Bool) (k0:Nat) (S:ASt) (S1:ASt) (Q:Exit×AFr×ASt→Prop) :
 Vq (tDj s m n i j r g k0 S S1) (fun r=>Q (rawR [4,5] r)) (aa (aNext (AV.ptr (some (k0,0))) true S) (AV.tuple (kSqB_13 i r),S1) (as_ S1 (aBin ESq BinOp.lss 21 (Operand.tmp 28) kSqB_14 (kSqB_4 r) (kSqB_4 48)) (AV.bool true) (aq (Q (Exit.ret,xFr [(4,AV.int IntKind.u64 (Int.ofNat 0)),(5,AV.int IntKind.i64 (Int.ofNat 4))] 58,S1))))):=vq (by kernel_rfl)
theorem vcDk (s:List Nat) (m:Nat) (n:Nat) (i:Nat) (j:Nat) (r:Nat) (g:Bool) (k0:Nat) (S:ASt) (S1:ASt) (Q:Exit×AFr×ASt→Prop) :
 Vq (tDk s m n i j r g k0 S S1) (fun r=>Q (rawR [4,5] r)) (aa (aNext (AV.ptr (some (k0,0))) true S) (AV.tuple (kSqB_13 i r),S1) (as_ S1 (aBin ESq BinOp.lss 21 (Operand.tmp 28) kSqB_14 (kSqB_4 r) (kSqB_4 48)) (AV.bool false) (as_ S1 (aBin ESq BinOp.gtr 21 (Operand.tmp 31) kSqB_30 (kSqB_4 r) (kSqB_4 57)) (AV.bool true) (aq (Q (Exit.ret,xFr [(4,AV.int IntKind.u64 (Int.ofNat 0)),(5,AV.int IntKind.i64 (Int.ofNat 4))] 58,S1)))))):=vq (by kernel_rfl)
theorem vcDl (s:List Nat) (m:Nat) (n:Nat) (i:Nat) (g:Bool) (k0:Nat) (S:ASt) (Q:Exit×AFr×ASt→Prop) :
 Vq (tDl s m n i g k0 S) (fun r=>Q (rawR [6,7] r)) (al (aNext (AV.ptr (some (k0,0))) true) S (AV.tuple [AV.bool false]) (aq (Q (Exit.exit 0,xFr [(6,AV.int IntKind.u64 (Int.ofNat n)),(7,AV.bool g)] 58,S)))):=vq (by kernel_rfl)
theorem vcDm (s:List Nat) (n:Nat) (i:Nat) (S:ASt) (Q:Exit×AFr×ASt→Prop) :
 Vq (tDm s n i S) (fun r=>Q (rawR [4,5] r)) (aq (Q (Exit.ret,xFr [(4,AV.int IntKind.u64 (Int.ofNat n)),(5,AV.int IntKind.i64 (Int.ofNat 0))] 58,S))):=vq (by kernel_rfl)
theorem vcDn (s:List Nat) (n:Nat) (i:Nat) (S:ASt) (Q:Exit×AFr×ASt→Prop) :
 Vq (tDn s n i S) (fun r=>Q (rawR [4,5] r)) (aq (Q (Exit.ret,xFr [(4,AV.int IntKind.u64 (Int.ofNat 0)),(5,AV.int IntKind.i64 (Int.ofNat 5))] 58,S))):=vq (by kernel_rfl)
noncomputable abbrev kSqB_10 (a b:Nat):List AV:=[AV.int IntKind.u64 (Int.ofNat a),AV.int IntKind.i64 (Int.ofNat b)]
theorem vcDz (m:Nat) (S:ASt) (Q:AV×ASt→Prop) :
 Vq (tDz m S) Q (aq (Q (AV.tuple (kSqB_10 0 4),S))):=vq (by kernel_rfl)
theorem vcEa (s:List Nat) (m:Nat) (n:Nat) (S:ASt) (Q:Exit×AFr×ASt→Prop) :
 Vq (tEa s m n S) (fun r=>Q (rawR [4,5] r)) (as_ S (aBin ESq BinOp.eql 9 (Operand.tmp 10) kSqB_18 (AV.str s) (AV.str [])) (AV.bool false) (al (kSqB_6 s) S (kSqB_0 n) (as_ S (aBin ESq BinOp.gtr 3 (Operand.tmp 14) kSqB_5 (kSqB_0 n) (kSqB_0 1)) (AV.bool true) (as_ S (kSqB_12 s 0) (kSqB_2 48) (as_ S (aBin ESq BinOp.eql 5 (Operand.tmp 18) kSqB_11 (kSqB_2 48) (kSqB_2 48)) (AV.bool true) (aq (Q (Exit.ret,xFr [(4,AV.int IntKind.u64 (Int.ofNat 0)),(5,AV.int IntKind.i64 (Int.ofNat 4))] 65,S)))))))):=vq (by kernel_rfl)
theorem vcEb (s:List Nat) (m:Nat) (n:Nat) (S:ASt) (Q:Exit×AFr×ASt→Prop) :
 Vq (tEb s m n S) (fun r=>Q (rawR [0,1] r)) (as_ S (aBin ESq BinOp.eql 9 (Operand.tmp 10) kSqB_18 (AV.str s) (AV.str [])) (AV.bool false) (al (kSqB_6 s) S (kSqB_0 n) (as_ S (aBin ESq BinOp.gtr 3 (Operand.tmp 14) kSqB_5 (kSqB_0 n) (kSqB_0 1)) (AV.bool false) (aq (Q (Exit.normal,xFr [(0,AV.str s),(1,AV.int IntKind.u64 (Int.ofNat m))] 65,S)))))):=vq (by kernel_rfl)
theorem vcEc (s:List Nat) (m:Nat) (n:Nat) (c:Nat) (S:ASt) (Q:Exit×AFr×ASt→Prop) :
 Vq (tEc s m n c S) (fun r=>Q (rawR [0,1] r)) (as_ S (aBin ESq BinOp.eql 9 (Operand.tmp 10) kSqB_18 (AV.str s) (AV.str [])) (AV.bool false) (al (kSqB_6 s) S (kSqB_0 n) (as_ S (aBin ESq BinOp.gtr 3 (Operand.tmp 14) kSqB_5 (kSqB_0 n) (kSqB_0 1)) (AV.bool true) (as_ S (kSqB_12 s 0) (kSqB_2 c) (as_ S (aBin ESq BinOp.eql 5 (Operand.tmp 18) kSqB_11 (kSqB_2 c) (kSqB_2 48)) (AV.bool false) (aq (Q (Exit.normal,xFr [(0,AV.str s),(1,AV.int IntKind.u64 (Int.ofNat m))] 65,S)))))))):=vq (by kernel_rfl)
theorem vcEd (s:List Nat) (m:Nat) (S:ASt) (Q:Exit×AFr×ASt→Prop) :
 Vq (tEd s m S) (fun r=>Q (rawR [0,1,6] r)) (aq (Q (Exit.normal,xFr [(0,AV.str s),(1,AV.int IntKind.u64 (Int.ofNat m)),(6,AV.int IntKind.i64 (Int.ofNat 0))] 65,S))):=vq (by kernel_rfl)
noncomputable abbrev kSqB_8 (a:Nat):=AV.int IntKind.i64 (Int.ofNat (a+1))
theorem vcEe (s:List Nat) (m:Nat) (n:Nat) (i:Nat) (c:Nat) (S:ASt) (Q:Exit×AFr×ASt→Prop) :
 Vq (tEe s m n i c S) (fun r=>Q (rawR [0,1,6] r)) (al (kSqB_6 s) S (kSqB_0 n) (as_ S (aBin ESq BinOp.lss 3 (Operand.tmp 22) (Operand.tmp 24) (kSqB_0 i) (kSqB_0 n)) (AV.bool true) (as_ S (kSqB_12 s i) (kSqB_2 c) (as_ S (aBin ESq BinOp.lss 5 (Operand.tmp 30) kSqB_11 (kSqB_2 c) (kSqB_2 48)) (AV.bool false) (as_ S (kSqB_12 s i) (kSqB_2 c) (as_ S (aBin ESq BinOp.gtr 5 (Operand.tmp 35) (Operand.const (Value.int IntKind.u8 57)) (kSqB_2 c) (kSqB_2 57)) (AV.bool false) (as_ S (aBin ESq BinOp.add 3 (Operand.tmp 26) kSqB_5 (kSqB_0 i) (kSqB_0 1)) (kSqB_8 i) (aq (Q (Exit.normal,xFr [(0,AV.str s),(1,AV.int IntKind.u64 (Int.ofNat m)),(6,AV.int IntKind.i64 (Int.ofNat (i+1)))] 65,S)))))))))):=vq (by kernel_rfl)
theorem vcEf (s:List Nat) (m:Nat) (n:Nat) (i:Nat) (c:Nat) (S:ASt) (Q:Exit×AFr×ASt→Prop) :
 Vq (tEf s m n i c S) (fun r=>Q (rawR [4,5] r)) (al (kSqB_6 s) S (kSqB_0 n) (as_ S (aBin ESq BinOp.lss 3 (Operand.tmp 22) (Operand.tmp 24) (kSqB_0 i) (kSqB_0 n)) (AV.bool true) (as_ S (kSqB_12 s i) (kSqB_2 c) (as_ S (aBin ESq BinOp.lss 5 (Operand.tmp 30) kSqB_11 (kSqB_2 c) (kSqB_2 48)) (AV.bool true) (aq (Q (Exit.ret,xFr [(4,AV.int IntKind.u64 (Int.ofNat 0)),(5,AV.int IntKind.i64 (Int.ofNat 4))] 65,S))))))):=vq (by kernel_rfl)
theorem vcEg (s:List Nat) (m:Nat) (n:Nat) (i:Nat) (c:Nat) (S:ASt) (Q:Exit×AFr×ASt→Prop) :
 Vq (tEg s m n i c S) (fun r=>Q (rawR [4,5] r)) (al (kSqB_6 s) S (kSqB_0 n) (as_ S (aBin ESq BinOp.lss 3 (Operand.tmp 22) (Operand.tmp 24) (kSqB_0 i) (kSqB_0 n)) (AV.bool true) (as_ S (kSqB_12 s i) (kSqB_2 c) (as_ S (aBin ESq BinOp.lss 5 (Operand.tmp 30) kSqB_11 (kSqB_2 c) (kSqB_2 48)) (AV.bool false) (as_ S (kSqB_12 s i) (kSqB_2 c) (as_ S (aBin ESq BinOp.gtr 5 (Operand.tmp 35) (Operand.const (Value.int IntKind.u8 57)) (kSqB_2 c) (kSqB_2 57)) (AV.bool true) (aq (Q (Exit.ret,xFr [(4,AV.int IntKind.u64 (Int.ofNat 0)),(5,AV.int IntKind.i64 (Int.ofNat 4))] 65,S))))))))):=vq (by kernel_rfl)
theorem vcEh (s:List Nat) (m:Nat) (n:Nat) (i:Nat) (S:ASt) (Q:Exit×AFr×ASt→Prop) :
 Vq (tEh s m n i S) (fun r=>Q (rawR [0,1] r)) (al (kSqB_6 s) S (kSqB_0 n) (as_ S (aBin ESq BinOp.lss 3 (Operand.tmp 22) (Operand.tmp 24) (kSqB_0 i) (kSqB_0 n)) (AV.bool false) (aq (Q (Exit.exit 0,xFr [(0,AV.str s),(1,AV.int IntKind.u64 (Int.ofNat m))] 65,S))))):=vq (by kernel_rfl)
theorem vcEi (s:List Nat) (m:Nat) (S:ASt) (Q:Exit×AFr×ASt→Prop) :
 Vq (tEi s m S) (fun r=>Q (rawR [0,1,7] r)) (aq (Q (Exit.normal,xFr [(0,AV.str s),(1,AV.int IntKind.u64 (Int.ofNat m)),(7,AV.int IntKind.u64 (Int.ofNat 0))] 65,S))):=vq (by kernel_rfl)
theorem vcEj (s:List Nat) (m:Nat) (S:ASt) (Q:Exit×AFr×ASt→Prop) :
 Vq (tEj s m S) (fun r=>Q (rawR [0,1,7,8] r)) (aq (Q (Exit.normal,xFr [(0,AV.str s),(1,AV.int IntKind.u64 (Int.ofNat m)),(7,AV.int IntKind.u64 (Int.ofNat 0)),(8,AV.int IntKind.i64 (Int.ofNat 0))] 65,S))):=vq (by kernel_rfl)
theorem vcEk (s:List Nat) (m:Nat) (n:Nat) (l:Nat) (i:Nat) (c:Nat) (d:Nat) (a:Nat) (k:Nat) (n1:Nat) (n2:Nat) (S:ASt) (Q:Exit×AFr×ASt→Prop) :
 Vq (tEk s m n l i c d a k n1 n2 S) (fun r=>Q (rawR [0,1,7,8] r)) (al (kSqB_6 s) S (kSqB_0 l) (as_ S (aBin ESq BinOp.lss 3 (Operand.tmp 38) (Operand.tmp 40) (kSqB_0 i) (kSqB_0 l)) (AV.bool true) (as_ S (kSqB_12 s i) (kSqB_2 c) (as_ S (aBin ESq BinOp.sub 5 (Operand.tmp 46) kSqB_11 (kSqB_2 c) (kSqB_2 48)) (kSqB_2 d) (al (aConvert ESq 5 22 (kSqB_2 d)) S (kSqB_1 d) (as_ S (aBin ESq BinOp.gtr 22 (Operand.tmp 49) (Operand.tmp 50) (kSqB_1 d) (kSqB_1 m)) (AV.bool false) (as_ S (aBin ESq BinOp.sub 22 (Operand.tmp 54) (Operand.tmp 55) (kSqB_1 m) (kSqB_1 d)) (kSqB_1 a) (as_ S (aBin ESq BinOp.quo 22 (Operand.tmp 56) kSqB_17 (kSqB_1 a) (kSqB_1 10)) (kSqB_1 k) (as_ S (aBin ESq BinOp.gtr 22 (Operand.tmp 53) (Operand.tmp 57) (kSqB_1 n) (kSqB_1 k)) (AV.bool false) (as_ S (aBin ESq BinOp.mul 22 kSqB_17 (Operand.tmp 60) (kSqB_1 10) (kSqB_1 n)) (kSqB_1 n1) (as_ S (aBin ESq BinOp.add 22 (Operand.tmp 61) (Operand.tmp 62) (kSqB_1 n1) (kSqB_1 d)) (kSqB_1 n2) (as_ S (aBin ESq BinOp.add 3 (Operand.tmp 42) kSqB_5 (kSqB_0 i) (kSqB_0 1)) (kSqB_8 i) (aq (Q (Exit.normal,xFr [(0,AV.str s),(1,AV.int IntKind.u64 (Int.ofNat m)),(7,AV.int IntKind.u64 (Int.ofNat n2)),(8,AV.int IntKind.i64 (Int.ofNat (i+1)))] 65,S))))))))))))))):=vq (by kernel_rfl)
theorem vcEl (s:List Nat) (m:Nat) (n:Nat) (l:Nat) (i:Nat) (c:Nat) (d:Nat) (S:ASt) (Q:Exit×AFr×ASt→Prop) :
 Vq (tEl s m n l i c d S) (fun r=>Q (rawR [4,5] r)) (al (kSqB_6 s) S (kSqB_0 l) (as_ S (aBin ESq BinOp.lss 3 (Operand.tmp 38) (Operand.tmp 40) (kSqB_0 i) (kSqB_0 l)) (AV.bool true) (as_ S (kSqB_12 s i) (kSqB_2 c) (as_ S (aBin ESq BinOp.sub 5 (Operand.tmp 46) kSqB_11 (kSqB_2 c) (kSqB_2 48)) (kSqB_2 d) (al (aConvert ESq 5 22 (kSqB_2 d)) S (kSqB_1 d) (as_ S (aBin ESq BinOp.gtr 22 (Operand.tmp 49) (Operand.tmp 50) (kSqB_1 d) (kSqB_1 m)) (AV.bool true) (aq (Q (Exit.ret,xFr [(4,AV.int IntKind.u64 (Int.ofNat 0)),(5,AV.int IntKind.i64 (Int.ofNat 5))] 65,S))))))))):=vq (by kernel_rfl)
theorem vcEm (s:List Nat) (m:Nat) (n:Nat) (l:Nat) (i:Nat) (c:Nat) (d:Nat) (a:Nat) (k:Nat) (S:ASt) (Q:Exit×AFr×ASt→Prop) :
 Vq (tEm s m n l i c d a k S) (fun r=>Q (rawR [4,5] r)) (al (kSqB_6 s) S (kSqB_0 l) (as_ S (aBin ESq BinOp.lss 3 (Operand.tmp 38) (Operand.tmp 40) (kSqB_0 i) (kSqB_0 l)) (AV.bool true) (as_ S (kSqB_12 s i) (kSqB_2 c) (as_ S (aBin ESq BinOp.sub 5 (Operand.tmp 46) kSqB_11 (kSqB_2 c) (kSqB_2 48)) (kSqB_2 d) (al (aConvert ESq 5 22 (kSqB_2 d)) S (kSqB_1 d) (as_ S (aBin ESq BinOp.gtr 22 (Operand.tmp 49) (Operand.tmp 50) (kSqB_1 d) (kSqB_1 m)) (AV.bool false) (as_ S (aBin ESq BinOp.sub 22 (Operand.tmp 54) (Operand.tmp 55) (kSqB_1 m) (kSqB_1 d)) (kSqB_1 a) (as_ S (aBin ESq BinOp.quo 22 (Operand.tmp 56) kSqB_17 (kSqB_1 a) (kSqB_1 10)) (kSqB_1 k) (as_ S (aBin ESq BinOp.gtr 22 (Operand.tmp 53) (Operand.tmp 57) (kSqB_1 n) (kSqB_1 k)) (AV.bool true) (aq (Q (Exit.ret,xFr [(4,AV.int IntKind.u64 (Int.ofNat 0)),(5,AV.int IntKind.i64 (Int.ofNat 5))] 65,S)))))))))))):=vq (by kernel_rfl)
theorem vcEn (s:List Nat) (m:Nat) (n:Nat) (l:Nat) (i:Nat) (S:ASt) (Q:Exit×AFr×ASt→Prop) :
 Vq (tEn s m n l i S) (fun r=>Q (rawR [7] r)) (al (kSqB_6 s) S (kSqB_0 l) (as_ S (aBin ESq BinOp.lss 3 (Operand.tmp 38) (Operand.tmp 40) (kSqB_0 i) (kSqB_0 l)) (AV.bool false) (aq (Q (Exit.exit 2,xFr [(7,AV.int IntKind.u64 (Int.ofNat n))] 65,S))))):=vq (by kernel_rfl)
theorem vcEo (n:Nat) (S:ASt) (Q:Exit×AFr×ASt→Prop) :
 Vq (tEo n S) (fun r=>Q (rawR [4,5] r)) (aq (Q (Exit.ret,xFr [(4,AV.int IntKind.u64 (Int.ofNat n)),(5,AV.int IntKind.i64 (Int.ofNat 0))] 65,S))):=vq (by kernel_rfl)
theorem vcEz (m:Nat) (S:ASt) (Q:AV×ASt→Prop) :
 Vq (tEz m S) Q (aq (Q (AV.tuple (kSqB_10 0 4),S))):=vq (by kernel_rfl)
noncomputable abbrev kSqB_9 (a b c:Nat):=aLoad ESq a (AV.ptr (some (b,c)))
noncomputable abbrev kSqB_19 (a b c:Nat):=AV.slice (some (a,b)) c (Cap.known c)
noncomputable abbrev kSqB_29 (a:Nat) (b:ASt):=aStore ESq 4 (AV.ptr (some (a,1))) (AV.bool true) b
theorem vcWa (w:Nat) (r:Nat) (o:Nat) (S:ASt) (S1:ASt) (Q:AV×ASt→Prop) :
 Vq (tWa w r o S S1) Q (al (kSqB_9 86 w 0) S (kSqB_19 r o 0) (aa (Option.map (fun s=>(undefA,s)) (kSqB_29 w S)) (AV.tuple [],S1) (aq (Q (AV.str [],S1))))):=vq (by kernel_rfl)
noncomputable abbrev kSqB_27 (a b c:Nat):=AV.slice (some (a,b)) (c+1) (Cap.known (c+1))
theorem vcWb (w:Nat) (r:Nat) (o:Nat) (o2:Nat) (n:Nat) (s:List Nat) (S:ASt) (S1:ASt) (Q:AV×ASt→Prop) :
 Vq (tWb w r o o2 n s S S1) Q (al (kSqB_9 86 w 0) S (kSqB_27 r o n) (al (kSqB_9 86 w 0) S (kSqB_27 r o n) (as_ S (aIndexAddr ESq 86 (kSqB_27 r o n) (kSqB_0 0)) (AV.ptr (some (r,o+0))) (al (aLoad ESq 9 (AV.ptr (some (r,o+0)))) S (AV.str s) (al (kSqB_9 86 w 0) S (kSqB_27 r o n) (as_ S (aSlice ESq 86 (kSqB_27 r o n) (some (kSqB_0 1)) none none S) (kSqB_19 r o2 n) (aa (Option.map (fun s=>(undefA,s)) (aStore ESq 86 (AV.ptr (some (w,0))) (kSqB_19 r o2 n) S)) (AV.tuple [],S1) (aq (Q (AV.str s,S1)))))))))):=vq (by kernel_rfl)
noncomputable abbrev kSqB_16 (a b:Nat) (c:CallT) (d:Nat):=M ESq (drawA ESq) (onlyC [a,b] c) d
noncomputable abbrev kSqB_24 (a:List Nat) (b:Nat):List AV:=[AV.str a,AV.int IntKind.u64 (Int.ofNat b)]
theorem vcNa (q:CallT) (w:Nat) (m:Nat) (n:Nat) (e:Nat) (s:List Nat) (S:ASt) (S1:ASt) (S2:ASt) (Q:AV×ASt→Prop) :
 Vq (tNa q w m n e s S S1 S2) Q (aa ((kSqB_16 113 114 q 56).call 113 [AV.ptr (some (w,0))] S) (AV.str s,S1) (al ((kSqB_16 113 114 q 56).call 114 (kSqB_24 s m)) S1 (AV.tuple (kSqB_10 n e)) (al (kSqB_9 4 w 1) S1 (AV.bool true) (aa (Option.map (fun s=>(undefA,s)) (kSqB_29 w S1)) (AV.tuple [],S2) (aq (Q (AV.int IntKind.u64 (Int.ofNat n),S2))))))):=vq (by kernel_rfl)
noncomputable abbrev kSqB_7:=Operand.const (Value.int IntKind.i64 0)
theorem vcNb (q:CallT) (w:Nat) (m:Nat) (n:Nat) (e:Nat) (b:Bool) (s:List Nat) (S:ASt) (S1:ASt) (S2:ASt) (Q:AV×ASt→Prop) :
 Vq (tNb q w m n e b s S S1 S2) Q (aa ((kSqB_16 113 114 q 56).call 113 [AV.ptr (some (w,0))] S) (AV.str s,S1) (al ((kSqB_16 113 114 q 56).call 114 (kSqB_24 s m)) S1 (AV.tuple (kSqB_10 n e)) (al (kSqB_9 4 w 1) S1 (AV.bool false) (as_ S1 (aBin ESq BinOp.neq 32 (Operand.tmp 20) kSqB_7 (kSqB_0 e) (kSqB_0 0)) (AV.bool b) (aa (Option.map (fun s=>(undefA,s)) (aStore ESq 4 (AV.ptr (some (w,1))) (AV.bool b) S1)) (AV.tuple [],S2) (aq (Q (AV.int IntKind.u64 (Int.ofNat n),S2)))))))):=vq (by kernel_rfl)
theorem vcOa (q:CallT) (w:Nat) (p:Nat) (z:Int) (s:List Nat) (A:AV) (S:ASt) (S1:ASt) (S2:ASt) (Q:AV×ASt→Prop) :
 Vq (tOa q w p z s A S S1 S2) Q (aa ((kSqB_16 113 112 q 56).call 113 [AV.ptr (some (w,0))] S) (AV.str s,S1) (al ((kSqB_16 113 112 q 56).call 112 [A,AV.str s]) S1 (AV.int IntKind.i64 z) (al (kSqB_9 4 w 1) S1 (AV.bool true) (aa (Option.map (fun s=>(undefA,s)) (kSqB_29 w S1)) (AV.tuple [],S2) (as_ S2 (aBin ESq BinOp.add 3 (Operand.tmp 21) kSqB_5 (AV.int IntKind.i64 z) (kSqB_0 1)) (kSqB_0 p) (aq (Q (AV.int IntKind.i64 (Int.ofNat p),S2)))))))):=vq (by kernel_rfl)
theorem vcOb (q:CallT) (w:Nat) (p:Nat) (z:Int) (b:Bool) (s:List Nat) (A:AV) (S:ASt) (S1:ASt) (S2:ASt) (Q:AV×ASt→Prop) :
 Vq (tOb q w p z b s A S S1 S2) Q (aa ((kSqB_16 113 112 q 56).call 113 [AV.ptr (some (w,0))] S) (AV.str s,S1) (al ((kSqB_16 113 112 q 56).call 112 [A,AV.str s]) S1 (AV.int IntKind.i64 z) (al (kSqB_9 4 w 1) S1 (AV.bool false) (as_ S1 (aBin ESq BinOp.lss 3 (Operand.tmp 16) kSqB_7 (AV.int IntKind.i64 z) (kSqB_0 0)) (AV.bool b) (aa (Option.map (fun s=>(undefA,s)) (aStore ESq 4 (AV.ptr (some (w,1))) (AV.bool b) S1)) (AV.tuple [],S2) (as_ S2 (aBin ESq BinOp.add 3 (Operand.tmp 21) kSqB_5 (AV.int IntKind.i64 z) (kSqB_0 1)) (kSqB_0 p) (aq (Q (AV.int IntKind.i64 (Int.ofNat p),S2))))))))):=vq (by kernel_rfl)
theorem vcIa (r:Nat) (n:Nat) (s:List Nat) (S:ASt) (Q:Exit×AFr×ASt→Prop) :
 Vq (tIa r n s S) (fun r=>Q (rawR [0,1] r)) (aq (Q (Exit.normal,xFr [(0,AV.slice (some (r,0)) n (Cap.known n)),(1,AV.str s)] 19,S))):=vq (by kernel_rfl)
theorem vcIg (r:Nat) (n:Nat) (s:List Nat) (S:ASt) (Q:Exit×AFr×ASt→Prop) :
 Vq (tIg r n s S) (fun r=>Q (rawR [0,1,7,8] r)) (aq (Q (Exit.normal,xFr [(0,AV.slice (some (r,0)) n (Cap.known n)),(1,AV.str s),(7,AV.int IntKind.i64 (Int.ofNat n)),(8,AV.int IntKind.i64 (Int.ofNat 0))] 19,S))):=vq (by kernel_rfl)
noncomputable abbrev kSqB_28 (a b:Nat):=AV.ptr (some (a,b*1))
theorem vcIb (r:Nat) (n:Nat) (i:Nat) (s:List Nat) (k:List Nat) (S:ASt) (Q:Exit×AFr×ASt→Prop) :
 Vq (tIb r n i s k S) (fun r=>Q (rawR [0,1,7,8] r)) (as_ S (aBin ESq BinOp.lss 3 (Operand.tmp 8) (Operand.tmp 7) (kSqB_0 i) (kSqB_0 n)) (AV.bool true) (as_ S (aIndexAddr ESq 86 (kSqB_19 r 0 n) (kSqB_0 i)) (kSqB_28 r i) (al (aLoad ESq 9 (kSqB_28 r i)) S (AV.str k) (as_ S (aBin ESq BinOp.eql 9 (Operand.tmp 11) (Operand.tmp 15) (AV.str s) (AV.str k)) (AV.bool false) (as_ S (aBin ESq BinOp.add 3 (Operand.tmp 8) kSqB_5 (kSqB_0 i) (kSqB_0 1)) (kSqB_8 i) (aq (Q (Exit.normal,xFr [(0,AV.slice (some (r,0)) n (Cap.known n)),(1,AV.str s),(7,AV.int IntKind.i64 (Int.ofNat n)),(8,AV.int IntKind.i64 (Int.ofNat (i+1)))] 19,S)))))))):=vq (by kernel_rfl)
theorem vcIc (r:Nat) (n:Nat) (i:Nat) (s:List Nat) (k:List Nat) (S:ASt) (Q:Exit×AFr×ASt→Prop) :
 Vq (tIc r n i s k S) (fun r=>Q (rawR [4] r)) (as_ S (aBin ESq BinOp.lss 3 (Operand.tmp 8) (Operand.tmp 7) (kSqB_0 i) (kSqB_0 n)) (AV.bool true) (as_ S (aIndexAddr ESq 86 (kSqB_19 r 0 n) (kSqB_0 i)) (kSqB_28 r i) (al (aLoad ESq 9 (kSqB_28 r i)) S (AV.str k) (as_ S (aBin ESq BinOp.eql 9 (Operand.tmp 11) (Operand.tmp 15) (AV.str s) (AV.str k)) (AV.bool true) (aq (Q (Exit.ret,xFr [(4,AV.int IntKind.i64 (Int.ofNat i))] 19,S))))))):=vq (by kernel_rfl)
theorem vcId (r:Nat) (n:Nat) (i:Nat) (s:List Nat) (S:ASt) (Q:Exit×AFr×ASt→Prop) :
 Vq (tId r n i s S) (fun r=>Q (rawR [] r)) (as_ S (aBin ESq BinOp.lss 3 (Operand.tmp 8) (Operand.tmp 7) (kSqB_0 i) (kSqB_0 n)) (AV.bool false) (aq (Q (Exit.exit 0,xFr [] 19,S)))):=vq (by kernel_rfl)
theorem vcIe (S:ASt) (Q:Exit×AFr×ASt→Prop) :
 Vq (tIe S) (fun r=>Q (rawR [4] r)) (aq (Q (Exit.ret,xFr [(4,AV.int IntKind.i64 (Int.negSucc 0))] 19,S))):=vq (by kernel_rfl)
theorem vcPa (r:Nat) (n:Nat) (s:List Nat) (S:ASt) (Q:Exit×AFr×ASt→Prop) :
 Vq (tPa r n s S) (fun r=>Q (rawR [0,1] r)) (aq (Q (Exit.normal,xFr [(0,AV.slice (some (r,0)) n (Cap.known n)),(1,AV.str s)] 20,S))):=vq (by kernel_rfl)
theorem vcPg (r:Nat) (n:Nat) (s:List Nat) (S:ASt) (Q:Exit×AFr×ASt→Prop) :
 Vq (tPg r n s S) (fun r=>Q (rawR [0,1,5] r)) (aq (Q (Exit.normal,xFr [(0,AV.slice (some (r,0)) n (Cap.known n)),(1,AV.str s),(5,AV.int IntKind.i64 (Int.ofNat 0))] 20,S))):=vq (by kernel_rfl)
theorem vcPb (r:Nat) (n:Nat) (i:Nat) (s:List Nat) (k:List Nat) (S:ASt) (Q:Exit×AFr×ASt→Prop) :
 Vq (tPb r n i s k S) (fun r=>Q (rawR [0,1,5] r)) (as_ S (aBin ESq BinOp.lss 3 (Operand.tmp 6) (Operand.tmp 8) (kSqB_0 i) (kSqB_0 n)) (AV.bool true) (as_ S (aIndexAddr ESq 86 (kSqB_19 r 0 n) (kSqB_0 i)) (kSqB_28 r i) (al (aLoad ESq 9 (kSqB_28 r i)) S (AV.str k) (as_ S (aBin ESq BinOp.eql 9 (Operand.tmp 15) (Operand.tmp 16) (AV.str k) (AV.str s)) (AV.bool false) (as_ S (aBin ESq BinOp.add 3 (Operand.tmp 10) kSqB_5 (kSqB_0 i) (kSqB_0 1)) (kSqB_8 i) (aq (Q (Exit.normal,xFr [(0,AV.slice (some (r,0)) n (Cap.known n)),(1,AV.str s),(5,AV.int IntKind.i64 (Int.ofNat (i+1)))] 20,S)))))))):=vq (by kernel_rfl)
theorem vcPc (r:Nat) (n:Nat) (i:Nat) (s:List Nat) (k:List Nat) (S:ASt) (Q:Exit×AFr×ASt→Prop) :
 Vq (tPc r n i s k S) (fun r=>Q (rawR [4] r)) (as_ S (aBin ESq BinOp.lss 3 (Operand.tmp 6) (Operand.tmp 8) (kSqB_0 i) (kSqB_0 n)) (AV.bool true) (as_ S (aIndexAddr ESq 86 (kSqB_19 r 0 n) (kSqB_0 i)) (kSqB_28 r i) (al (aLoad ESq 9 (kSqB_28 r i)) S (AV.str k) (as_ S (aBin ESq BinOp.eql 9 (Operand.tmp 15) (Operand.tmp 16) (AV.str k) (AV.str s)) (AV.bool true) (as_ S (aBin ESq BinOp.add 3 (Operand.tmp 18) kSqB_5 (kSqB_0 i) (kSqB_0 1)) (kSqB_8 i) (aq (Q (Exit.ret,xFr [(4,AV.int IntKind.i64 (Int.ofNat (i+1)))] 20,S)))))))):=vq (by kernel_rfl)
theorem vcPd (r:Nat) (n:Nat) (i:Nat) (s:List Nat) (S:ASt) (Q:Exit×AFr×ASt→Prop) :
 Vq (tPd r n i s S) (fun r=>Q (rawR [] r)) (as_ S (aBin ESq BinOp.lss 3 (Operand.tmp 6) (Operand.tmp 8) (kSqB_0 i) (kSqB_0 n)) (AV.bool false) (aq (Q (Exit.exit 0,xFr [] 20,S)))):=vq (by kernel_rfl)
theorem vcPe (S:ASt) (Q:Exit×AFr×ASt→Prop) :
 Vq (tPe S) (fun r=>Q (rawR [4] r)) (aq (Q (Exit.ret,xFr [(4,AV.int IntKind.i64 (Int.ofNat 0))] 20,S))):=vq (by kernel_rfl)
noncomputable abbrev kSqB_21 (a:UInt8):=Operand.const (Value.string (ByteArray.mk #[a]))
theorem vcRa (q:CallT) (w:Nat) (m:Nat) (s:List Nat) (S:ASt) (S1:ASt) (Q:Exit×AFr×ASt→Prop) :
 Vq (tRa q w m s S S1) (fun r=>Q (rawR [4] r)) (aa ((M ESq (drawA ESq) (onlyC [113,55,57] q) 57).call 113 [AV.ptr (some (w,0))] S) (AV.str s,S1) (as_ S1 (aBin ESq BinOp.eql 9 (Operand.tmp 10) (kSqB_21 45) (AV.str s) (AV.str [45])) (AV.bool true) (aq (Q (Exit.ret,xFr [(4,AV.slice none 0 (Cap.known 0))] 42,S1))))):=vq (by kernel_rfl)
theorem vcRb (q:CallT) (w:Nat) (m:Nat) (k:Nat) (r:Nat) (n:Nat) (s:List Nat) (S:ASt) (S1:ASt) (S2:ASt) (S3:ASt) (Q:Exit×AFr×ASt→Prop) :
 Vq (tRb q w m k r n s S S1 S2 S3) (fun r=>Q (rawR [0,1,6,7] r)) (aa ((M ESq (drawA ESq) (onlyC [113,55,57] q) 57).call 113 [AV.ptr (some (w,0))] S) (AV.str s,S1) (as_ S1 (aBin ESq BinOp.eql 9 (Operand.tmp 10) (kSqB_21 45) (AV.str s) (AV.str [45])) (AV.bool false) (aa ((M ESq (drawA ESq) (onlyC [113,55,57] q) 55).call 55 [AV.str s,AV.str [44]] S1) (AV.slice (some (r,0)) n (Cap.known n),S2) (aa (aBox (AV.agg [AV.slice (some (r,0)) n (Cap.known n),AV.bool false]) S2) (AV.ptr (some (k,0)),S3) (aq (Q (Exit.normal,xFr [(0,AV.ptr (some (w,0))),(1,AV.int IntKind.u64 (Int.ofNat m)),(6,AV.ptr (some (k,0))),(7,AV.slice none 0 (Cap.known 0))] 42,S3))))))):=vq (by kernel_rfl)
theorem vcRc (q:CallT) (w:Nat) (m:Nat) (k:Nat) (r:Nat) (o:Nat) (n:Nat) (x:Nat) (A:AV) (W:AV) (B:AV) (S:ASt) (S1:ASt) (S2:ASt) (S3:ASt) (Q:Exit×AFr×ASt→Prop) :
 Vq (tRc q w m k r o n x A W B S S1 S2 S3) (fun r=>Q (rawR [0,1,6,7] r)) (al (kSqB_9 86 k 0) S (kSqB_19 r o n) (as_ S (aBin ESq BinOp.gtr 3 (Operand.tmp 20) kSqB_7 (kSqB_0 n) (kSqB_0 0)) (AV.bool true) (aa ((M ESq (drawA ESq) (onlyC [113,55,57] q) 57).call 57 [AV.ptr (some (k,0)),AV.int IntKind.u64 (Int.ofNat m)] S) (AV.int IntKind.u64 (Int.ofNat x),S1) (aa (sqb0 q (xFr [(25,AV.int IntKind.u64 (Int.ofNat x))] 42) S1) (W,S2) (aa (aBuiltinM ESq Builtin.append [49,49] [A,W] S2) (B,S3) (aq (Q (Exit.normal,xFr [(0,AV.ptr (some (w,0))),(1,AV.int IntKind.u64 (Int.ofNat m)),(6,AV.ptr (some (k,0))),(7,B)] 42,S3)))))))):=vq (by kernel_rfl)
theorem vcRd (w:Nat) (m:Nat) (k:Nat) (r:Nat) (o:Nat) (n:Nat) (A:AV) (S:ASt) (Q:Exit×AFr×ASt→Prop) :
 Vq (tRd w m k r o n A S) (fun r=>Q (rawR [0,6,7] r)) (al (kSqB_9 86 k 0) S (kSqB_19 r o n) (as_ S (aBin ESq BinOp.gtr 3 (Operand.tmp 20) kSqB_7 (kSqB_0 n) (kSqB_0 0)) (AV.bool false) (aq (Q (Exit.exit 0,xFr [(0,AV.ptr (some (w,0))),(6,AV.ptr (some (k,0))),(7,A)] 42,S))))):=vq (by kernel_rfl)
theorem vcRe (w:Nat) (k:Nat) (A:AV) (S:ASt) (S1:ASt) (Q:Exit×AFr×ASt→Prop) :
 Vq (tRe w k A S S1) (fun r=>Q (rawR [4] r)) (al (kSqB_9 4 w 1) S (AV.bool true) (aa (Option.map (fun s=>(undefA,s)) (kSqB_29 w S)) (AV.tuple [],S1) (aq (Q (Exit.ret,xFr [(4,A)] 42,S1))))):=vq (by kernel_rfl)
theorem vcRf (w:Nat) (k:Nat) (b:Bool) (A:AV) (S:ASt) (S1:ASt) (Q:Exit×AFr×ASt→Prop) :
 Vq (tRf w k b A S S1) (fun r=>Q (rawR [4] r)) (al (kSqB_9 4 w 1) S (AV.bool false) (al (kSqB_9 4 k 1) S (AV.bool b) (aa (Option.map (fun s=>(undefA,s)) (aStore ESq 4 (AV.ptr (some (w,1))) (AV.bool b) S)) (AV.tuple [],S1) (aq (Q (Exit.ret,xFr [(4,A)] 42,S1)))))):=vq (by kernel_rfl)
theorem vcUa (c:Nat) (s:List Nat) (S:ASt) (Q:Exit×AFr×ASt→Prop) :
 Vq (tUa c s S) (fun r=>Q (rawR [0,1,5,6] r)) (aq (Q (Exit.normal,xFr [(0,AV.str s),(1,AV.int IntKind.u8 (Int.ofNat c)),(5,AV.slice none 0 (Cap.known 0)),(6,AV.int IntKind.i64 (Int.ofNat 0))] 34,S))):=vq (by kernel_rfl)
theorem vcUb (c:Nat) (s:List Nat) (S:ASt) (Q:Exit×AFr×ASt→Prop) :
 Vq (tUb c s S) (fun r=>Q (rawR [0,1,5,6,7] r)) (aq (Q (Exit.normal,xFr [(0,AV.str s),(1,AV.int IntKind.u8 (Int.ofNat c)),(5,AV.slice none 0 (Cap.known 0)),(6,AV.int IntKind.i64 (Int.ofNat 0)),(7,AV.int IntKind.i64 (Int.ofNat 0))] 34,S))):=vq (by kernel_rfl)
theorem vcUc (c:Nat) (f:Nat) (i:Nat) (n:Nat) (x:Nat) (s:List Nat) (A:AV) (S:ASt) (Q:Exit×AFr×ASt→Prop) :
 Vq (tUc c f i n x s A S) (fun r=>Q (rawR [0,1,5,6,7] r)) (al (kSqB_6 s) S (kSqB_0 n) (as_ S (aBin ESq BinOp.lss 3 (Operand.tmp 8) (Operand.tmp 10) (kSqB_0 i) (kSqB_0 n)) (AV.bool true) (as_ S (kSqB_12 s i) (kSqB_2 x) (as_ S (aBin ESq BinOp.eql 5 (Operand.tmp 16) (Operand.tmp 17) (kSqB_2 x) (kSqB_2 c)) (AV.bool false) (as_ S (aBin ESq BinOp.add 3 (Operand.tmp 12) kSqB_5 (kSqB_0 i) (kSqB_0 1)) (kSqB_8 i) (aq (Q (Exit.normal,xFr [(0,AV.str s),(1,AV.int IntKind.u8 (Int.ofNat c)),(5,A),(6,AV.int IntKind.i64 (Int.ofNat f)),(7,AV.int IntKind.i64 (Int.ofNat (i+1)))] 34,S)))))))):=vq (by kernel_rfl)
theorem vcUd (c:Nat) (f:Nat) (i:Nat) (n:Nat) (x:Nat) (s:List Nat) (p:List Nat) (A:AV) (W:AV) (B:AV) (S:ASt) (S1:ASt) (S2:ASt) (Q:Exit×AFr×ASt→Prop) :
 Vq (tUd c f i n x s p A W B S S1 S2) (fun r=>Q (rawR [0,1,5,6,7] r)) (al (kSqB_6 s) S (kSqB_0 n) (as_ S (aBin ESq BinOp.lss 3 (Operand.tmp 8) (Operand.tmp 10) (kSqB_0 i) (kSqB_0 n)) (AV.bool true) (as_ S (kSqB_12 s i) (kSqB_2 x) (as_ S (aBin ESq BinOp.eql 5 (Operand.tmp 16) (Operand.tmp 17) (kSqB_2 x) (kSqB_2 c)) (AV.bool true) (as_ S (aSlice ESq 9 (AV.str s) (some (kSqB_0 f)) (some (kSqB_0 i)) none S) (AV.str p) (aa (sqb1 (xFr [(23,AV.str p)] 34) S) (W,S1) (aa (aBuiltinM ESq Builtin.append [86,86] [A,W] S1) (B,S2) (as_ S2 (aBin ESq BinOp.add 3 (Operand.tmp 26) kSqB_5 (kSqB_0 i) (kSqB_0 1)) (kSqB_8 i) (as_ S2 (aBin ESq BinOp.add 3 (Operand.tmp 12) kSqB_5 (kSqB_0 i) (kSqB_0 1)) (kSqB_8 i) (aq (Q (Exit.normal,xFr [(0,AV.str s),(1,AV.int IntKind.u8 (Int.ofNat c)),(5,B),(6,AV.int IntKind.i64 (Int.ofNat (i+1))),(7,AV.int IntKind.i64 (Int.ofNat (i+1)))] 34,S2)))))))))))):=vq (by kernel_rfl)
theorem vcUe (c:Nat) (f:Nat) (i:Nat) (n:Nat) (s:List Nat) (A:AV) (S:ASt) (Q:Exit×AFr×ASt→Prop) :
 Vq (tUe c f i n s A S) (fun r=>Q (rawR [0,5,6] r)) (al (kSqB_6 s) S (kSqB_0 n) (as_ S (aBin ESq BinOp.lss 3 (Operand.tmp 8) (Operand.tmp 10) (kSqB_0 i) (kSqB_0 n)) (AV.bool false) (aq (Q (Exit.exit 0,xFr [(0,AV.str s),(5,A),(6,AV.int IntKind.i64 (Int.ofNat f))] 34,S))))):=vq (by kernel_rfl)
theorem vcUf (f:Nat) (s:List Nat) (p:List Nat) (A:AV) (W:AV) (B:AV) (S:ASt) (S1:ASt) (S2:ASt) (Q:Exit×AFr×ASt→Prop) :
 Vq (tUf f s p A W B S S1 S2) (fun r=>Q (rawR [4] r)) (as_ S (aSlice ESq 9 (AV.str s) (some (kSqB_0 f)) none none S) (AV.str p) (aa (sqb2 (xFr [(31,AV.str p)] 34) S) (W,S1) (aa (aBuiltinM ESq Builtin.append [86,86] [A,W] S1) (B,S2) (aq (Q (Exit.ret,xFr [(4,B)] 34,S2)))))):=vq (by kernel_rfl)
theorem vcGa (q:CallT) (m:Nat) (n:Nat) (s:List Nat) (S:ASt) (Q:AV×ASt→Prop) :
 Vq (tGa q m n s S) Q (al ((M ESq (drawA ESq) (onlyC [167] q) 56).call 167 (kSqB_24 s m)) S (AV.tuple (kSqB_10 n 0)) (as_ S (aBin ESq BinOp.neq 3 (Operand.tmp 13) kSqB_7 (kSqB_0 0) (kSqB_0 0)) (AV.bool false) (aq (Q (AV.int IntKind.u64 (Int.ofNat n),S))))):=vq (by kernel_rfl)
theorem vcGb (q:CallT) (m:Nat) (n:Nat) (e:Nat) (s:List Nat) (S:ASt) (Q:AV×ASt→Prop) :
 Vq (tGb q m n e s S) Q (al ((M ESq (drawA ESq) (onlyC [167] q) 56).call 167 (kSqB_24 s m)) S (AV.tuple (kSqB_10 n e)) (as_ S (aBin ESq BinOp.neq 3 (Operand.tmp 13) kSqB_7 (kSqB_0 e) (kSqB_0 0)) (AV.bool true) (aq (Q (AV.int IntKind.u64 (Int.ofNat 0),S))))):=vq (by kernel_rfl)
theorem vcGc (q:CallT) (n:Nat) (s:List Nat) (S:ASt) (Q:AV×ASt→Prop) :
 Vq (tGc q n s S) Q (al (aConvert ESq 3 22 (kSqB_0 1000000)) S (kSqB_1 1000000) (al ((M ESq (drawA ESq) (onlyC [115] q) 56).call 115 (kSqB_24 s 1000000)) S (kSqB_1 n) (al (aConvert ESq 22 3 (kSqB_1 n)) S (kSqB_0 n) (aq (Q (AV.int IntKind.i64 (Int.ofNat n),S)))))):=vq (by kernel_rfl)
theorem vcHa (s:List Nat) (m:Nat) (S:ASt) (Q:Exit×AFr×ASt→Prop) :
 Vq (tHa s m S) (fun r=>Q (rawR [4] r)) (as_ S (aBin ESq BinOp.eql 9 (Operand.tmp 8) (kSqB_21 45) (AV.str s) (AV.str [45])) (AV.bool true) (aq (Q (Exit.ret,xFr [(4,AV.slice none 0 (Cap.known 0))] 28,S)))):=vq (by kernel_rfl)
theorem vcHb (q:CallT) (r:Nat) (n:Nat) (m:Nat) (s:List Nat) (S:ASt) (S1:ASt) (Q:Exit×AFr×ASt→Prop) :
 Vq (tHb q r n m s S S1) (fun r=>Q (rawR [1,5,6] r)) (as_ S (aBin ESq BinOp.eql 9 (Operand.tmp 8) (kSqB_21 45) (AV.str s) (AV.str [45])) (AV.bool false) (aa ((kSqB_16 60 115 q 56).call 60 [AV.str s,AV.int IntKind.u8 (Int.ofNat 44)] S) (AV.slice (some (r,0)) n (Cap.rest 1),S1) (aq (Q (Exit.normal,xFr [(1,AV.int IntKind.u64 (Int.ofNat m)),(5,AV.slice none 0 (Cap.known 0)),(6,AV.slice (some (r,0)) n (Cap.rest 1))] 28,S1))))):=vq (by kernel_rfl)
theorem vcHc (r:Nat) (n:Nat) (m:Nat) (S:ASt) (Q:Exit×AFr×ASt→Prop) :
 Vq (tHc r n m S) (fun r=>Q (rawR [1,5,6,7] r)) (aq (Q (Exit.normal,xFr [(1,AV.int IntKind.u64 (Int.ofNat m)),(5,AV.slice none 0 (Cap.known 0)),(6,AV.slice (some (r,0)) n (Cap.rest 1)),(7,AV.int IntKind.i64 (Int.ofNat 0))] 28,S))):=vq (by kernel_rfl)
theorem vcHd (q:CallT) (r:Nat) (n:Nat) (m:Nat) (i:Nat) (x:Nat) (s:List Nat) (A:AV) (W:AV) (B:AV) (S:ASt) (S1:ASt) (S2:ASt) (Q:Exit×AFr×ASt→Prop) :
 Vq (tHd q r n m i x s A W B S S1 S2) (fun r=>Q (rawR [1,5,6,7] r)) (as_ S (aBin ESq BinOp.lss 3 (Operand.tmp 12) (Operand.tmp 14) (kSqB_0 i) (kSqB_0 n)) (AV.bool true) (as_ S (aIndexAddr ESq 86 (AV.slice (some (r,0)) n (Cap.rest 1)) (kSqB_0 i)) (kSqB_28 r i) (al (aLoad ESq 9 (kSqB_28 r i)) S (AV.str s) (al ((kSqB_16 60 115 q 56).call 115 (kSqB_24 s m)) S (kSqB_1 x) (aa (sqb3 q (xFr [(24,AV.int IntKind.u64 (Int.ofNat x))] 28) S) (W,S1) (aa (aBuiltinM ESq Builtin.append [49,49] [A,W] S1) (B,S2) (as_ S2 (aBin ESq BinOp.add 3 (Operand.tmp 16) kSqB_5 (kSqB_0 i) (kSqB_0 1)) (kSqB_8 i) (aq (Q (Exit.normal,xFr [(1,AV.int IntKind.u64 (Int.ofNat m)),(5,B),(6,AV.slice (some (r,0)) n (Cap.rest 1)),(7,AV.int IntKind.i64 (Int.ofNat (i+1)))] 28,S2)))))))))):=vq (by kernel_rfl)
theorem vcHe (r:Nat) (n:Nat) (m:Nat) (i:Nat) (A:AV) (S:ASt) (Q:Exit×AFr×ASt→Prop) :
 Vq (tHe r n m i A S) (fun r=>Q (rawR [5] r)) (as_ S (aBin ESq BinOp.lss 3 (Operand.tmp 12) (Operand.tmp 14) (kSqB_0 i) (kSqB_0 n)) (AV.bool false) (aq (Q (Exit.exit 0,xFr [(5,A)] 28,S)))):=vq (by kernel_rfl)
theorem vcHf (A:AV) (S:ASt) (Q:Exit×AFr×ASt→Prop) :
 Vq (tHf A S) (fun r=>Q (rawR [4] r)) (aq (Q (Exit.ret,xFr [(4,A)] 28,S))):=vq (by kernel_rfl)
noncomputable abbrev kSqB_20 (a:AV):=aBuiltinM ESq Builtin.len [49] [a]
theorem vcJa (D:AV) (S:ASt) (Q:Exit×AFr×ASt→Prop) :
 Vq (tJa D S) (fun r=>Q (rawR [2] r)) (al (kSqB_20 D) S (kSqB_0 0) (as_ S (aBin ESq BinOp.eql 3 (Operand.tmp 7) kSqB_7 (kSqB_0 0) (kSqB_0 0)) (AV.bool true) (aq (Q (Exit.ret,xFr [(2,AV.str [45])] 23,S))))):=vq (by kernel_rfl)
theorem vcJb (D:AV) (n:Nat) (S:ASt) (Q:Exit×AFr×ASt→Prop) :
 Vq (tJb D n S) (fun r=>Q (rawR [0,3] r)) (al (kSqB_20 D) S (kSqB_0 n) (as_ S (aBin ESq BinOp.eql 3 (Operand.tmp 7) kSqB_7 (kSqB_0 n) (kSqB_0 0)) (AV.bool false) (aq (Q (Exit.normal,xFr [(0,D),(3,AV.slice none 0 (Cap.known 0))] 23,S))))):=vq (by kernel_rfl)
theorem vcJc (D:AV) (n:Nat) (S:ASt) (Q:Exit×AFr×ASt→Prop) :
 Vq (tJc D n S) (fun r=>Q (rawR [3,9,10,11] r)) (al (kSqB_20 D) S (kSqB_0 n) (aq (Q (Exit.normal,xFr [(3,AV.slice none 0 (Cap.known 0)),(9,D),(10,AV.int IntKind.i64 (Int.ofNat n)),(11,AV.int IntKind.i64 (Int.ofNat 0))] 23,S)))):=vq (by kernel_rfl)
theorem vcJd (q:CallT) (n:Nat) (i:Nat) (x:Nat) (r:Nat) (o:Nat) (t:List Nat) (D:AV) (A:AV) (W:AV) (B:AV) (S:ASt) (S1:ASt) (S2:ASt) (Q:Exit×AFr×ASt→Prop) :
 Vq (tJd q n i x r o t D A W B S S1 S2) (fun r=>Q (rawR [3,9,10,11] r)) (as_ S (aBin ESq BinOp.lss 3 (Operand.tmp 11) (Operand.tmp 10) (kSqB_0 i) (kSqB_0 n)) (AV.bool true) (as_ S (aIndexAddr ESq 49 D (kSqB_0 i)) (AV.ptr (some (r,o))) (al (kSqB_9 22 r o) S (kSqB_1 x) (al ((kSqB_16 106 107 q 54).call 106 (kSqB_10 x 10)) S (AV.str t) (aa (sqb4 q (xFr [(17,AV.str t)] 23) S) (W,S1) (aa (aBuiltinM ESq Builtin.append [86,86] [A,W] S1) (B,S2) (as_ S2 (aBin ESq BinOp.add 3 (Operand.tmp 11) kSqB_5 (kSqB_0 i) (kSqB_0 1)) (kSqB_8 i) (aq (Q (Exit.normal,xFr [(3,B),(9,D),(10,AV.int IntKind.i64 (Int.ofNat n)),(11,AV.int IntKind.i64 (Int.ofNat (i+1)))] 23,S2)))))))))):=vq (by kernel_rfl)
theorem vcJe (n:Nat) (i:Nat) (D:AV) (A:AV) (S:ASt) (Q:Exit×AFr×ASt→Prop) :
 Vq (tJe n i D A S) (fun r=>Q (rawR [3] r)) (as_ S (aBin ESq BinOp.lss 3 (Operand.tmp 11) (Operand.tmp 10) (kSqB_0 i) (kSqB_0 n)) (AV.bool false) (aq (Q (Exit.exit 0,xFr [(3,A)] 23,S)))):=vq (by kernel_rfl)
theorem vcJf (q:CallT) (t:List Nat) (A:AV) (S:ASt) (Q:Exit×AFr×ASt→Prop) :
 Vq (tJf q t A S) (fun r=>Q (rawR [2] r)) (al ((kSqB_16 106 107 q 58).call 107 [A,AV.str [44]]) S (AV.str t) (aq (Q (Exit.ret,xFr [(2,AV.str t)] 23,S)))):=vq (by kernel_rfl)
theorem vcKa (D:AV) (S:ASt) (Q:Exit×AFr×ASt→Prop) :
 Vq (tKa D S) (fun r=>Q (rawR [2] r)) (al (kSqB_20 D) S (kSqB_0 0) (as_ S (aBin ESq BinOp.eql 3 (Operand.tmp 6) kSqB_7 (kSqB_0 0) (kSqB_0 0)) (AV.bool true) (aq (Q (Exit.ret,xFr [(2,AV.str [45])] 26,S))))):=vq (by kernel_rfl)
theorem vcKb (D:AV) (n:Nat) (S:ASt) (Q:Exit×AFr×ASt→Prop) :
 Vq (tKb D n S) (fun r=>Q (rawR [0,3] r)) (al (kSqB_20 D) S (kSqB_0 n) (as_ S (aBin ESq BinOp.eql 3 (Operand.tmp 6) kSqB_7 (kSqB_0 n) (kSqB_0 0)) (AV.bool false) (aq (Q (Exit.normal,xFr [(0,D),(3,AV.str [])] 26,S))))):=vq (by kernel_rfl)
theorem vcKc (D:AV) (S:ASt) (Q:Exit×AFr×ASt→Prop) :
 Vq (tKc D S) (fun r=>Q (rawR [0,3,4] r)) (aq (Q (Exit.normal,xFr [(0,D),(3,AV.str []),(4,AV.int IntKind.i64 (Int.ofNat 0))] 26,S))):=vq (by kernel_rfl)
theorem vcKd (q:CallT) (n:Nat) (i:Nat) (x:Nat) (r:Nat) (o:Nat) (a:List Nat) (a1:List Nat) (a2:List Nat) (t:List Nat) (D:AV) (S:ASt) (Q:Exit×AFr×ASt→Prop) :
 Vq (tKd q n i x r o a a1 a2 t D S) (fun r=>Q (rawR [0,3,4] r)) (al (kSqB_20 D) S (kSqB_0 n) (as_ S (aBin ESq BinOp.lss 3 (Operand.tmp 8) (Operand.tmp 10) (kSqB_0 i) (kSqB_0 n)) (AV.bool true) (as_ S (aBin ESq BinOp.gtr 3 (Operand.tmp 14) kSqB_7 (kSqB_0 i) (kSqB_0 0)) (AV.bool true) (as_ S (aBin ESq BinOp.add 9 (Operand.tmp 16) (kSqB_21 44) (AV.str a) (AV.str [44])) (AV.str a1) (as_ S (aIndexAddr ESq 49 D (kSqB_0 i)) (AV.ptr (some (r,o))) (al (kSqB_9 22 r o) S (kSqB_1 x) (al ((M ESq (drawA ESq) (onlyC [53] q) 55).call 53 [AV.int IntKind.u64 (Int.ofNat x)]) S (AV.str t) (as_ S (aBin ESq BinOp.add 9 (Operand.tmp 18) (Operand.tmp 23) (AV.str a1) (AV.str t)) (AV.str a2) (as_ S (aBin ESq BinOp.add 3 (Operand.tmp 12) kSqB_5 (kSqB_0 i) (kSqB_0 1)) (kSqB_8 i) (aq (Q (Exit.normal,xFr [(0,D),(3,AV.str a2),(4,AV.int IntKind.i64 (Int.ofNat (i+1)))] 26,S)))))))))))):=vq (by kernel_rfl)
theorem vcKe (q:CallT) (n:Nat) (i:Nat) (x:Nat) (r:Nat) (o:Nat) (a:List Nat) (a2:List Nat) (t:List Nat) (D:AV) (S:ASt) (Q:Exit×AFr×ASt→Prop) :
 Vq (tKe q n i x r o a a2 t D S) (fun r=>Q (rawR [0,3,4] r)) (al (kSqB_20 D) S (kSqB_0 n) (as_ S (aBin ESq BinOp.lss 3 (Operand.tmp 8) (Operand.tmp 10) (kSqB_0 i) (kSqB_0 n)) (AV.bool true) (as_ S (aBin ESq BinOp.gtr 3 (Operand.tmp 14) kSqB_7 (kSqB_0 i) (kSqB_0 0)) (AV.bool false) (as_ S (aIndexAddr ESq 49 D (kSqB_0 i)) (AV.ptr (some (r,o))) (al (kSqB_9 22 r o) S (kSqB_1 x) (al ((M ESq (drawA ESq) (onlyC [53] q) 55).call 53 [AV.int IntKind.u64 (Int.ofNat x)]) S (AV.str t) (as_ S (aBin ESq BinOp.add 9 (Operand.tmp 18) (Operand.tmp 23) (AV.str a) (AV.str t)) (AV.str a2) (as_ S (aBin ESq BinOp.add 3 (Operand.tmp 12) kSqB_5 (kSqB_0 i) (kSqB_0 1)) (kSqB_8 i) (aq (Q (Exit.normal,xFr [(0,D),(3,AV.str a2),(4,AV.int IntKind.i64 (Int.ofNat (i+1)))] 26,S))))))))))):=vq (by kernel_rfl)
theorem vcKf (n:Nat) (i:Nat) (a:List Nat) (D:AV) (S:ASt) (Q:Exit×AFr×ASt→Prop) :
 Vq (tKf n i a D S) (fun r=>Q (rawR [3] r)) (al (kSqB_20 D) S (kSqB_0 n) (as_ S (aBin ESq BinOp.lss 3 (Operand.tmp 8) (Operand.tmp 10) (kSqB_0 i) (kSqB_0 n)) (AV.bool false) (aq (Q (Exit.exit 0,xFr [(3,AV.str a)] 26,S))))):=vq (by kernel_rfl)
theorem vcKg (a:List Nat) (S:ASt) (Q:Exit×AFr×ASt→Prop) :
 Vq (tKg a S) (fun r=>Q (rawR [2] r)) (aq (Q (Exit.ret,xFr [(2,AV.str a)] 26,S))):=vq (by kernel_rfl)
end Go.Proofs.YtcboepooglaogaaGreatDoor.scr
end
