/-
  OWN WORK, A PART: an abstract machine for the program's text that the kernel can run, and the proof that it is sound: what it answers is what the program answers; contracts of functions by it. No condition.
-/
import Derived.Test.YtiafochainjglaaGreatDoorMtA
import Derived.Test.YtiafochainjglaaGreatDoorRows
import Derived.Test.YtiafochainjglaaGreatDoorWaF
import Derived.KernelRfl
section
open Go Go.Ax Go.Proofs
namespace Go.Proofs.YtiafochainjglaaGreatDoor.dsk
set_option linter.unusedVariables false
def fl0:Fl:=⟨[],[],[],[]⟩
noncomputable def EK:Env:=envEx Tryz.prog [0,3,4,5,37,43,44,53,54,60,102,103,104,111] [(13,Tryz.f13),(19,Tryz.f19),(64,Tryz.f64),(65,Tryz.f65),(75,Tryz.f75),(66,Tryz.f66),(56,Tryz.f56),(40,Tryz.f40),(67,Tryz.f67)] []
def dK (l m n:Nat):AO:=.cells [.slice (some (l,0)) n (.known n),.map (some m),.int .i64 (.ofNat 0),.bool false,.bool false,.bool false] true
def nI (n:Nat):AV:=.int .i64 (.ofNat n)
def pO (i:Nat):AV:=.ptr (some (i,0))
def sB (r k:Nat):AV:=.slice (some (r,0)) k (.rest 256)
noncomputable def flK:List (Nat×Fl):=[(19,⟨[5,20,25,27,29,31,4095,4094],[10,14,28],[],[]⟩),(65,⟨[11,17,19,25],[7],[],[]⟩),(64,⟨[9],[],[],[]⟩),(66,⟨[7,12,26,30,4095],[],[],[]⟩),(67,⟨[7],[],[],[]⟩)]
-- Write
-- now
noncomputable def cN:Code:=Option.getD Tryz.f75.body .skip
noncomputable def flN:Fl:=⟨[4,9,11,14,18,19,20,24,26,27,4095],[],[],[]⟩
theorem vcWn (d:Nat) (l:Nat) (m:Nat) (n:Nat) (i:Nat) (B:List Nat) (V:AV) (S:ASt) (S1:ASt) (S2:ASt) (S3:ASt) (S4:ASt) (Q:AV×ASt→Prop) :
 Vq ((TM EK qAa flK fl0 60).call 19 [pO d,nI i,.agg (bl B)] S) Q (aa (qFi (AV.agg (bl B)) S) (AV.ptr (some (S.next,0)),S1) (al (qAQ EK 102 (AV.ptr (some (d,1)))) S1 (AV.map (some m)) (as_ S1 (qAD EK BinOp.lss 3 (Operand.tmp 10) (Operand.const (Value.int IntKind.i64 0)) (AV.int IntKind.i64 (Int.ofNat i)) (AV.int IntKind.i64 (Int.ofNat 0))) (AV.bool false) (al (qAQ EK 60 (AV.ptr (some (d,0)))) S1 (AV.slice (some (l,0)) n (Cap.known n)) (as_ S1 (qAD EK BinOp.geq 3 (Operand.tmp 13) (Operand.tmp 18) (AV.int IntKind.i64 (Int.ofNat i)) (AV.int IntKind.i64 (Int.ofNat n))) (AV.bool false) (al (qAQ EK 4 (AV.ptr (some (d,5)))) S1 (AV.bool false) (al (qAQ EK 4 (AV.ptr (some (d,4)))) S1 (AV.bool false) (al (qAQ EK 4 (AV.ptr (some (d,3)))) S1 (AV.bool false) (aa (Option.map (fun s=>(qAC,s)) (qAL EK 4 (AV.ptr (some (d,4))) (AV.bool false) S1)) (AV.tuple [],S2) (al (qAQ EK 4 (AV.ptr (some (d,4)))) S2 (AV.bool false) (al (qAQ EK 4 (AV.ptr (some (d,3)))) S2 (AV.bool false) (al (qAQ EK 102 (AV.ptr (some (d,1)))) (ASt.mk S2.h (S2.next+16)) (AV.map (some m)) (al (qAQ EK 102 (AV.ptr (some (d,1)))) (ASt.mk S2.h (S2.next+16)) (AV.map (some m)) (as_ (ASt.mk S2.h (S2.next+16)) (qDL EK 102 (AV.map (some m)) (AV.int IntKind.i64 (Int.ofNat i)) false (ASt.mk S2.h (S2.next+16))) (AV.slice none 0 (Cap.known 0)) (al (qAQ EK 54 (AV.ptr (some (S.next,0)))) (ASt.mk S2.h (S2.next+16)) (AV.agg (bl B)) (aa (qAU EK Builtin.append [60,60] [AV.slice none 0 (Cap.known 0),AV.slice (some (S2.next+13,0)) 1 (Cap.known 1)] (ASt.put (ASt.mk S2.h (S2.next+16)) (S2.next+13) (AO.cells (bl B) true))) (V,S3) (aa (Option.map (fun s=>(qAC,s)) (qB6 EK 102 (AV.map (some m)) (AV.int IntKind.i64 (Int.ofNat i)) V S3)) (AV.tuple [],S4) (ah ((T.get (ASt.mk S2.h (S2.next+16)).h (S2.next+13)=none∧True)∧(True∧True)∧(True∧True)∧True) (ah (qAh [(qHC (qAQ EK 102 (AV.ptr (some (d,1))) (ASt.mk S2.h (S2.next+16))),AV.map (some m)),(qHC (qAQ EK 102 (AV.ptr (some (d,1))) S3),AV.map (some m)),(qHC (qAQ EK 54 (AV.ptr (some (S.next,0))) (ASt.mk S2.h (S2.next+16))),AV.agg (bl B))]) (aq (Q (AV.int IntKind.i64 (Int.ofNat 0),S4)))))))))))))))))))))):=vq (by kernel_rfl)
theorem vcWo (d:Nat) (l:Nat) (m:Nat) (n:Nat) (i:Nat) (r:Nat) (k:Nat) (B:List Nat) (V:AV) (W:AV) (S:ASt) (S1:ASt) (S2:ASt) (S3:ASt) (S4:ASt) (S5:ASt) (Q:AV×ASt→Prop) :
 Vq ((TM EK qAa flK fl0 60).call 19 [pO d,nI i,.agg (bl B)] S) Q (aa (qFi (AV.agg (bl B)) S) (AV.ptr (some (S.next,0)),S1) (al (qAQ EK 102 (AV.ptr (some (d,1)))) S1 (AV.map (some m)) (as_ S1 (qAD EK BinOp.lss 3 (Operand.tmp 10) (Operand.const (Value.int IntKind.i64 0)) (AV.int IntKind.i64 (Int.ofNat i)) (AV.int IntKind.i64 (Int.ofNat 0))) (AV.bool false) (al (qAQ EK 60 (AV.ptr (some (d,0)))) S1 (AV.slice (some (l,0)) n (Cap.known n)) (as_ S1 (qAD EK BinOp.geq 3 (Operand.tmp 13) (Operand.tmp 18) (AV.int IntKind.i64 (Int.ofNat i)) (AV.int IntKind.i64 (Int.ofNat n))) (AV.bool false) (al (qAQ EK 4 (AV.ptr (some (d,5)))) S1 (AV.bool false) (al (qAQ EK 4 (AV.ptr (some (d,4)))) S1 (AV.bool false) (al (qAQ EK 4 (AV.ptr (some (d,3)))) S1 (AV.bool false) (aa (Option.map (fun s=>(qAC,s)) (qAL EK 4 (AV.ptr (some (d,4))) (AV.bool false) S1)) (AV.tuple [],S2) (al (qAQ EK 4 (AV.ptr (some (d,4)))) S2 (AV.bool false) (al (qAQ EK 4 (AV.ptr (some (d,3)))) S2 (AV.bool false) (al (qAQ EK 102 (AV.ptr (some (d,1)))) (ASt.mk S2.h (S2.next+16)) (AV.map (some m)) (al (qAQ EK 102 (AV.ptr (some (d,1)))) (ASt.mk S2.h (S2.next+16)) (AV.map (some m)) (as_ (ASt.mk S2.h (S2.next+16)) (qDL EK 102 (AV.map (some m)) (AV.int IntKind.i64 (Int.ofNat i)) false (ASt.mk S2.h (S2.next+16))) (AV.slice (some (r,0)) k (Cap.rest 256)) (aa (qAU EK Builtin.append [60,60] [AV.slice (some (S2.next+16,0)) 0 (Cap.known 0),AV.slice (some (r,0)) k (Cap.rest 256)] (ASt.put (ASt.mk S2.h (S2.next+16+1)) (S2.next+16) (AO.cells [] true))) (W,S3) (al (qAQ EK 54 (AV.ptr (some (S.next,0)))) S3 (AV.agg (bl B)) (aa (qAU EK Builtin.append [60,60] [W,AV.slice (some (S2.next+13,0)) 1 (Cap.known 1)] (ASt.put S3 (S2.next+13) (AO.cells (bl B) true))) (V,S4) (aa (Option.map (fun s=>(qAC,s)) (qB6 EK 102 (AV.map (some m)) (AV.int IntKind.i64 (Int.ofNat i)) V S4)) (AV.tuple [],S5) (ah ((T.get S3.h (S2.next+13)=none∧True)∧(True∧True)∧(True∧True)∧True) (ah (qAh [(qHC (qAQ EK 102 (AV.ptr (some (d,1))) S3),AV.map (some m)),(qHC (qAQ EK 102 (AV.ptr (some (d,1))) S4),AV.map (some m)),(qHC (qAQ EK 54 (AV.ptr (some (S.next,0))) (ASt.mk S2.h (S2.next+16))),AV.agg (bl B))]) (aq (Q (AV.int IntKind.i64 (Int.ofNat 0),S5))))))))))))))))))))))):=vq (by kernel_rfl)
theorem vcNn (d:Nat) (l:Nat) (m:Nat) (n:Nat) (i:Nat) (B:List Nat) (S:ASt) (S1:ASt) (S2:ASt) (Q:qz2) :
 Vq ((TM EK qAa [] fl0 60).ex flN none cN {m:=qAM [pO d,nI i] 0 .e,n:=28,defs:=[]} S) (fun r=>Q (qAx [4] r)) (aa (qAY EK 54 S) (AV.ptr (some (S.next,0)),S1) (al (qAQ EK 102 (AV.ptr (some (d,1)))) S1 (AV.map (some m)) (as_ S1 (qDL EK 102 (AV.map (some m)) (AV.int IntKind.i64 (Int.ofNat i)) false S1) (AV.slice none 0 (Cap.known 0)) (as_ S1 (qAD EK BinOp.gtr 3 (Operand.tmp 13) (Operand.const (Value.int IntKind.i64 0)) (AV.int IntKind.i64 (Int.ofNat 0)) (AV.int IntKind.i64 (Int.ofNat 0))) (AV.bool false) (al (qAQ EK 60 (AV.ptr (some (d,0)))) S1 (AV.slice (some (l,0)) n (Cap.known n)) (as_ S1 (qA4 EK 60 (AV.slice (some (l,0)) n (Cap.known n)) (AV.int IntKind.i64 (Int.ofNat i))) (AV.ptr (some (l,i*256))) (al (qAQ EK 54 (AV.ptr (some (l,i*256)))) S1 (AV.agg (bl B)) (aa (Option.map (fun s=>(qAC,s)) (qAL EK 54 (AV.ptr (some (S.next,0))) (AV.agg (bl B)) S1)) (AV.tuple [],S2) (aq (Q (Exit.ret,xFr [(4,AV.ptr (some (S.next,0)))] 28,S2))))))))))):=vq (by kernel_rfl)
theorem vcNo (d:Nat) (l:Nat) (m:Nat) (n:Nat) (i:Nat) (r:Nat) (k:Nat) (B:List Nat) (S:ASt) (S1:ASt) (S2:ASt) (Q:qz2) :
 Vq ((TM EK qAa [] fl0 60).ex flN none cN {m:=qAM [pO d,nI i] 0 .e,n:=28,defs:=[]} S) (fun r=>Q (qAx [4] r)) (aa (qAY EK 54 S) (AV.ptr (some (S.next,0)),S1) (al (qAQ EK 102 (AV.ptr (some (d,1)))) S1 (AV.map (some m)) (as_ S1 (qDL EK 102 (AV.map (some m)) (AV.int IntKind.i64 (Int.ofNat i)) false S1) (AV.slice (some (r,0)) (k+1) (Cap.rest 256)) (as_ S1 (qAD EK BinOp.gtr 3 (Operand.tmp 13) (Operand.const (Value.int IntKind.i64 0)) (AV.int IntKind.i64 (Int.ofNat (k+1))) (AV.int IntKind.i64 (Int.ofNat 0))) (AV.bool true) (as_ S1 (qAD EK BinOp.sub 3 (Operand.tmp 17) (Operand.const (Value.int IntKind.i64 1)) (AV.int IntKind.i64 (Int.ofNat (k+1))) (AV.int IntKind.i64 (Int.ofNat 1))) (AV.int IntKind.i64 (Int.ofNat k)) (as_ S1 (qA4 EK 60 (AV.slice (some (r,0)) (k+1) (Cap.rest 256)) (AV.int IntKind.i64 (Int.ofNat k))) (AV.ptr (some (r,k*256))) (al (qAQ EK 54 (AV.ptr (some (r,k*256)))) S1 (AV.agg (bl B)) (aa (Option.map (fun s=>(qAC,s)) (qAL EK 54 (AV.ptr (some (S.next,0))) (AV.agg (bl B)) S1)) (AV.tuple [],S2) (aq (Q (Exit.ret,xFr [(4,AV.ptr (some (S.next,0)))] 28,S2))))))))))):=vq (by kernel_rfl)
theorem qL2:Env.Ok Tryz.prog EK:=envEx_ok (xs:=[]) ⟨⟨Tryz.func13,Tryz.call13⟩,⟨Tryz.func19,Tryz.call19⟩,⟨Tryz.func64,Tryz.call64⟩,⟨Tryz.func65,Tryz.call65⟩,⟨Tryz.func75,Tryz.call75⟩,⟨Tryz.func66,Tryz.call66⟩,⟨Tryz.func56,Tryz.call56⟩,⟨Tryz.func40,Tryz.call40⟩,⟨Tryz.func67,Tryz.call67⟩,trivial⟩ trivial (by kernel_rfl)
def qD2 (l:List (List Nat)):List AV:=l.flatMap bl
structure En where
 k:Nat
 r:Nat
 vs:List (List Nat)
 b:Nat
def qTl (e:En):AV×AV×Nat:=(nI e.k,sB e.r e.vs.length,e.b)
def qCo (es:List En):qHE:=es.map qTl
def qDo (es:List En) (i:Nat):List (List Nat):=es.flatMap fun e=>if e.k=i then e.vs else []
structure Disk (S:ASt) (d l m:Nat) (las:List (List Nat)) (es:List En) (ck:Nat):Prop where
 hd:S.h.get d=some (dK l m las.length)
 hl:S.h.get l=some (.cells (qD2 las) true)
 hm:S.h.get m=some (.map (qCo es) ck)
 row:∀e,e∈es→S.h.get e.r=some (.cells (qD2 e.vs) true)∧e.vs≠[]∧e.k<las.length∧e.b<ck∧e.r≠l
 keys:(es.map (·.k)).Nodup
 borns:(es.map (·.b)).Nodup
 most:las.length<100000
theorem qHJ (l:List (List Nat)):(qD2 l).length=l.length*256:=qIt qBI l
theorem qJ4 (a b:List (List Nat)):qD2 (a++b)=qD2 a++qD2 b:=List.flatMap_append
theorem qMz (b:List Nat):qD2 [b]=bl b:=by unfold qD2;simp
theorem qCI {es:List En} {i:Nat} (h:∀e,e∈es→e.k≠i):qDo es i=[]:=by
 unfold qDo;rw[List.flatMap_eq_nil_iff];intro e he;rw[if_neg (h e he)]
theorem qEu (a b:List En) (i:Nat):qDo (a++b) i=qDo a i++qDo b i:=List.flatMap_append
theorem qS3 (e:En) (i:Nat):qDo [e] i=if e.k=i then e.vs else []:=by unfold qDo;simp
theorem qES (e:En) (es:List En) (i:Nat):qDo (e::es) i=(if e.k=i then e.vs else [])++qDo es i:=rfl
theorem ce_m:qLO EK 102=true:=by kernel_rfl
theorem ce_s:qLO EK 60=true:=by kernel_rfl
theorem q2w:qLO EK 4=true:=by kernel_rfl
theorem ag_b:q0h EK 54=some 256:=by kernel_rfl
theorem sl_s:qDR EK 60=some 256:=by kernel_rfl
theorem ap_s:qSZ EK 60 60=some (256,256):=by kernel_rfl
theorem on_b:qZ1 EK 4=true:=by kernel_rfl
theorem q1r:qYZ EK 54=some 256:=by kernel_rfl
noncomputable def q2Y (E:Env) (t:TypeId):Bool :=
 match E.ty.get t with
 | some ti=>(match ti.desc with
  | .map key elem=>(match E.ty.get key with
   | some tk=>(match tk.desc with
    | .int _=>(match E.ty.get elem with | some te=>(match te.zero with | some (.slice none 0 (.known 0))=>true | _=>false) | none=>false)
    | _=>false)
   | none=>false)
  | _=>false)
 | none=>false
theorem qJl {E:Env} {t:TypeId} (h:q2Y E t=true):∃ti key elem tk kt te,E.ty.get t=some ti∧ti.desc=.map key elem∧E.ty.get key=some tk∧tk.desc=.int kt∧E.ty.get elem=some te∧te.zero=some (.slice none 0 (.known 0)):=by
 unfold q2Y at h
 split at h
 ·rename_i ti h1
  split at h
  ·rename_i key elem h2
   split at h
   ·rename_i tk h3
    split at h
    ·rename_i kt h4
     split at h
     ·rename_i te h5
      split at h
      ·rename_i h6;exact⟨ti,key,elem,tk,kt,te,h1,h2,h3,h4,h5,h6⟩
      ·cases h
     ·cases h
    ·cases h
   ·cases h
  ·cases h
 ·cases h
theorem mS:q2Y EK 102=true:=by kernel_rfl
theorem qMH {kt:IntKind} {a b:Nat}:qFH (.int kt) (nI a) (nI b)=some (decide (a=b)):=by
 show (bif kEq .i64 .i64 then some (eqF (.ofNat a) (.ofNat b)) else none)=_;have h:eqF (.ofNat a) (.ofNat b)=decide (a=b):=by
  rw[qCG]
  by_cases e:a=b
  ·subst e;simp
  ·have:¬(Int.ofNat a=Int.ofNat b):=fun x=>e (Int.ofNat.inj x);rw[decide_eq_false e];simp only[Int.ofNat_eq_natCast] at this ⊢;simpa using this
 rw[h];rfl
theorem qG5 {kt:IntKind} {i:Nat}:∀{es:List En} {j:Nat},(∀e,e∈es→e.k≠i)→qHD (.int kt) (nI i) (qCo es) j=some none
 | [],_,_=>rfl
 | e::es,j,h=>by
  show (match qFH (.int kt) (nI i) (nI e.k) with | some true=>some (some (j,sB e.r e.vs.length)) | some false=>qHD (.int kt) (nI i) (qCo es) (j+1) | none=>none)=_;rw[qMH,decide_eq_false (fun x=>h e List.mem_cons_self x.symm)];exact qG5 fun a ha=>h a (List.mem_cons_of_mem _ ha)
theorem qG4 {kt:IntKind} {i:Nat} {e:En} {C:List En} (he:e.k=i):∀{A:List En} {j:Nat},(∀e,e∈A→e.k≠i)→qHD (.int kt) (nI i) (qCo (A++e::C)) j=some (some (j+A.length,sB e.r e.vs.length))
 | [],j,_=>by
  show (match qFH (.int kt) (nI i) (nI e.k) with | some true=>some (some (j,sB e.r e.vs.length)) | some false=>qHD (.int kt) (nI i) (qCo C) (j+1) | none=>none)=_;rw[qMH,decide_eq_true he.symm];rfl
 | a::A,j,h=>by
  show (match qFH (.int kt) (nI i) (nI a.k) with | some true=>some (some (j,sB a.r a.vs.length)) | some false=>qHD (.int kt) (nI i) (qCo (A++e::C)) (j+1) | none=>none)=_;rw[qMH,decide_eq_false (fun x=>h a List.mem_cons_self x.symm)];have:=qG4 (kt:=kt) (C:=C) he (A:=A) (j:=j+1) fun a ha=>h a (List.mem_cons_of_mem _ ha);rw[show j+(a::A).length=j+1+A.length by simp;omega];exact this
section
variable {S:ASt} {d l m n i ck:Nat} {es:List En}
theorem qJp (hS:S.h.get m=some (.map (qCo es) ck)) (h:∀e,e∈es→e.k≠i):still S (qDL EK 102 (.map (some m)) (nI i) false S)=some (.slice none 0 (.known 0),S):=by
 obtain⟨ti,key,elem,tk,kt,te,h1,h2,h3,h4,h5,h6⟩:=qJl mS;refine qAF ?_;simp only[qDL,h1,h2,h3,qMD,hS,h4,qG5 h,h5,h6,plainKey,cond_true,cond_false]
theorem qJo {A C:List En} {e:En} (hS:S.h.get m=some (.map (qCo (A++e::C)) ck)) (he:e.k=i) (h:∀e,e∈A→e.k≠i):still S (qDL EK 102 (.map (some m)) (nI i) false S)=some (sB e.r e.vs.length,S):=by
 obtain⟨ti,key,elem,tk,kt,te,h1,h2,h3,h4,h5,h6⟩:=qJl mS;refine qAF ?_;simp only[qDL,h1,h2,h3,qMD,hS,h4,qG4 he h,plainKey,cond_true,cond_false]
theorem qVo {v:AV} (hS:S.h.get m=some (.map (qCo es) ck)) (h:∀e,e∈es→e.k≠i):qB6 EK 102 (.map (some m)) (nI i) v S=some (S.put m (.map (qCo es++[(nI i,v,ck)]) (ck+1))):=by
 obtain⟨ti,key,elem,tk,kt,te,h1,h2,h3,h4,h5,h6⟩:=qJl mS;simp only[qB6,h1,h2,h3,h4,plainKey,cond_true,hS,qG5 h]
theorem qIi {α:Type} {x:α} {C:List α} {f:α→α}:∀A:List α,(A++x::C).modify A.length f=A++f x::C
 | []=>rfl
 | a::A=>by
  show a::(A++x::C).modify A.length f=_;rw[qIi A];rfl
theorem qOH {A C:List En} {e:En} {k v:AV}:qIa (qCo (A++e::C)) (0+A.length) k v=qCo A++(k,v,e.b)::qCo C:=by
 unfold qIa qCo;rw[List.map_append,List.map_cons,Nat.zero_add];have:A.length=(A.map qTl).length:=by simp
 rw[this,qIi];rfl
theorem qVn {A C:List En} {e:En} {v:AV} (hS:S.h.get m=some (.map (qCo (A++e::C)) ck)) (he:e.k=i) (h:∀e,e∈A→e.k≠i):qB6 EK 102 (.map (some m)) (nI i) v S=some (S.put m (.map (qCo A++(nI i,v,e.b)::qCo C) ck)):=by
 obtain⟨ti,key,elem,tk,kt,te,h1,h2,h3,h4,h5,h6⟩:=qJl mS;simp only[qB6,h1,h2,h3,h4,plainKey,cond_true,hS,qG4 he h,qOH]
theorem qKq (h:S.h.get d=some (dK l m n)):qAQ EK 102 (.ptr (some (d,1))) S=some (.map (some m),S):=qAZ ce_m h rfl
theorem qWu (h:S.h.get d=some (dK l m n)):qAQ EK 60 (.ptr (some (d,0))) S=some (.slice (some (l,0)) n (.known n),S):=qAZ ce_s h rfl
theorem qY4 (h:S.h.get d=some (dK l m n)):qAQ EK 4 (.ptr (some (d,3))) S=some (.bool false,S):=qAZ q2w h rfl
theorem qY3 (h:S.h.get d=some (dK l m n)):qAQ EK 4 (.ptr (some (d,4))) S=some (.bool false,S):=qAZ q2w h rfl
theorem q1D (h:S.h.get d=some (dK l m n)):qAQ EK 4 (.ptr (some (d,5))) S=some (.bool false,S):=qAZ q2w h rfl
theorem q1u (h:S.h.get d=some (dK l m n)):qAL EK 4 (.ptr (some (d,4))) (.bool false) S=some (S.put d (dK l m n)):=qBk (j:=4) on_b h (by show 4<6;decide) rfl
theorem qIl {k:Nat} {b:List Nat} {rw:Bool} (h:S.h.get k=some (.cells (bl b) rw)):qAQ EK 54 (pO k) S=some (.agg (bl b),S):=qAp ag_b h qBx
theorem qQj {k j:Nat} {L:List (List Nat)} {b:List Nat} {rw:Bool} (h:S.h.get k=some (.cells (qD2 L) rw)) (hj:L[j]? = some b):qAQ EK 54 (.ptr (some (k,j*256))) S=some (.agg (bl b),S):=qAp ag_b h (qZx qBI hj)
theorem lssI {z:Int}:still S (qAD EK .lss 3 (.tmp 10) (.const (.int .i64 0)) (.int .i64 z) (.int .i64 (.ofNat 0)))=some (.bool (ltF z (.ofNat 0)),S):=qAF (by kernel_rfl)
theorem geqI {z:Int}:still S (qAD EK .geq 3 (.tmp 13) (.tmp 18) (.int .i64 z) (.int .i64 (.ofNat n)))=some (.bool (!ltF z (.ofNat n)),S):=qAF (by kernel_rfl)
theorem q1B:still S (qAD EK .lss 3 (.tmp 10) (.const (.int .i64 0)) (.int .i64 (.ofNat i)) (.int .i64 (.ofNat 0)))=some (.bool false,S):=by rw[lssI,qBN];rfl
theorem q1G (h:i<n):still S (qAD EK .geq 3 (.tmp 13) (.tmp 18) (.int .i64 (.ofNat i)) (.int .i64 (.ofNat n)))=some (.bool false,S):=by rw[geqI,qBN,decide_eq_true h];rfl
end
theorem qMg {S:ASt} {d l m ck i:Nat} {las:List (List Nat)} {es:List En} {b:List Nat} (hD:Disk S d l m las es ck) (ht:Tidy S) (hi:i<las.length) (hv:(qDo es i).length<1000000) :
  ∃S' es' ck',qAE Tryz.prog 19 [pO d,nI i,.agg (bl b)] S (nI 0,S')∧Disk S' d l m las es' ck'∧Tidy S'∧S.next≤S'.next∧(∀k,k<S.next→k≠m→S'.h.get k=S.h.get k)∧(∀j,qDo es' j=if j=i then qDo es i++[b] else qDo es j)∧∀a,a∈es'→(∃e,e∈es∧e.r=a.r)∨S.next≤a.r:=by
 have hdl:=ht.lt hD.hd;have hll:=ht.lt hD.hl;have hml:=ht.lt hD.hm;have hdm:d≠m:=qAu hD.hd hD.hm (by simp[dK]);have hlm:l≠m:=qAu hD.hl hD.hm (by simp);obtain⟨S1,e1⟩:∃X,X=S.add (.cells (bl b) true):=⟨_,rfl⟩;have g1:∀k,k≠S.next→S1.h.get k=S.h.get k:=fun k hk=>by rw[e1,qAj hk]
 have a1:S1.h.get S.next=some (.cells (bl b) true):=by rw[e1];exact qBM
 have n1:S1.next=S.next+1:=by rw[e1];rfl
 have t1:Tidy S1:=by rw[e1];exact ht.add
 have d1:S1.h.get d=some (dK l m las.length):=by rw[g1 d (by omega)];exact hD.hd
 obtain⟨S2,e2⟩:∃X,X=S1.put d (dK l m las.length):=⟨_,rfl⟩;have g2:∀k,S2.h.get k=S1.h.get k:=fun k=>by
  by_cases e:k=d
  ·subst e;rw[e2,qAl,d1]
  ·rw[e2,qA3 e]
 have n2:S2.next=S.next+1:=by rw[e2];exact n1
 have t2:Tidy S2:=by rw[e2];exact t1.put (by omega)
 have d2:S2.h.get d=some (dK l m las.length):=by rw[g2];exact d1
 have q2:∀k,k<S.next→S2.h.get k=S.h.get k:=fun k hk=>by rw[g2,g1 k (by omega)]
 have a2:S2.h.get S.next=some (.cells (bl b) true):=by rw[g2];exact a1
 obtain⟨R,eR⟩:∃X,X=ASt.mk S2.h (S2.next+16):=⟨_,rfl⟩;have gR:∀k,R.h.get k=S2.h.get k:=fun k=>by rw[eR]
 have nR:R.next=S.next+17:=by rw[eR];show S2.next+16=_;omega
 have tR:Tidy R:=by rw[eR];exact t2.mk (by omega)
 have dR:R.h.get d=some (dK l m las.length):=by rw[gR];exact d2
 have slot:R.h.get (S2.next+13)=none:=by rw[gR];exact t2 _ (by omega)
 by_cases hex:∃e,e∈es∧e.k=i
 ·obtain⟨e,he,hek⟩:=hex;obtain⟨A,C,hes⟩:=List.append_of_mem he;have hnd:=hD.keys;rw[hes,List.map_append,List.map_cons,List.nodup_append] at hnd;have hA:∀a,a∈A→a.k≠i:=fun a ha x=>hnd.2.2 a.k (List.mem_map_of_mem ha) e.k List.mem_cons_self (by rw[x,hek]);have hC:∀a,a∈C→a.k≠i:=fun a ha x=>(List.nodup_cons.1 hnd.2.1).1 (by rw[hek,←x];exact List.mem_map_of_mem ha);obtain⟨r1,r2,r3,r4,r5⟩:=hD.row e he;have hrl:=ht.lt r1;have hver:qDo es i=e.vs:=by rw[hes,qEu,qES,qCI hA,qCI hC,if_pos hek];simp
  rw[hver] at hv;have h0:0<e.vs.length:=List.length_pos_iff.2 r2
  -- the copy
  obtain⟨R1,eR1⟩:∃X,X=ASt.put (ASt.mk S2.h (S2.next+16+1)) (S2.next+16) (.cells [] true):=⟨_,rfl⟩;have gR1:∀k,k≠S2.next+16→R1.h.get k=S2.h.get k:=fun k hk=>by rw[eR1,qA3 hk]
  have aR1:R1.h.get (S2.next+16)=some (.cells [] true):=by rw[eR1];exact qAl
  have nR1:R1.next=S.next+18:=by rw[eR1];show S2.next+16+1=_;omega
  have tR1:Tidy R1:=by rw[eR1];exact (t2.mk (by omega)).put (by show _<S2.next+16+1;omega)
  have hf1:qAw R1 256 e.vs.length (sB e.r e.vs.length)=some (qD2 e.vs):=qCv (by rw[gR1 e.r (by omega),q2 e.r hrl];exact r1) (qZy qBI);have ap1:=qD7 (sT:=60) (xT:=60) (o:=0) ap_s (x:=sB e.r e.vs.length) rfl hf1 aR1 h0 (by omega) (by omega);obtain⟨S3,e3⟩:∃X,X=R1.add (.cells (qD2 e.vs) true):=⟨_,rfl⟩;rw[←e3] at ap1;have g3:∀k,k≠R1.next→S3.h.get k=R1.h.get k:=fun k hk=>by rw[e3,qAj hk]
  have a3:S3.h.get R1.next=some (.cells (qD2 e.vs) true):=by rw[e3];exact qBM
  have n3:S3.next=S.next+19:=by rw[e3,qBe];omega
  have t3:Tidy S3:=by rw[e3];exact tR1.add
  have q3:∀k,k<S.next+1→S3.h.get k=S2.h.get k:=fun k hk=>by rw[g3 k (by omega),gR1 k (by omega)]
  -- one more
  obtain⟨X,eX⟩:∃X,X=ASt.put S3 (S2.next+13) (.cells (bl b) true):=⟨_,rfl⟩;have gX:∀k,k≠S2.next+13→X.h.get k=S3.h.get k:=fun k hk=>by rw[eX,qA3 hk]
  have aX:X.h.get (S2.next+13)=some (.cells (bl b) true):=by rw[eX];exact qAl
  have nX:X.next=S.next+19:=by rw[eX];exact n3
  have tX:Tidy X:=by rw[eX];exact t3.put (by omega)
  have hf2:qAw X 256 1 (.slice (some (S2.next+13,0)) 1 (.known 1))=some (bl b):=qCv aX qBx;have ap2:=qFQ (sT:=60) (xT:=60) (l:=e.vs.length) ap_s (x:=.slice (some (S2.next+13,0)) 1 (.known 1)) rfl hf2 (i:=R1.next) (cs:=qD2 e.vs) (by rw[gX _ (by omega)];exact a3) (qHJ _) (by decide) (by decide) (by omega) (by omega);obtain⟨S4,e4⟩:∃Y,Y=(X.put R1.next .dead).add (.cells (qD2 e.vs++bl b) true):=⟨_,rfl⟩;rw[←e4] at ap2;have g4:∀k,k≠X.next→k≠R1.next→S4.h.get k=X.h.get k:=fun k hk hk2=>by rw[e4,qAj (S:=X.put R1.next .dead) hk,qA3 hk2]
  have a4:S4.h.get X.next=some (.cells (qD2 e.vs++bl b) true):=by rw[e4];exact qBM
  have n4:S4.next=S.next+20:=by rw[e4,qBe,qBz];omega
  have t4:Tidy S4:=by rw[e4];exact (tX.put (by omega)).add
  have q4:∀k,k<S.next+1→S4.h.get k=S2.h.get k:=fun k hk=>by rw[g4 k (by omega) (by omega),gX k (by omega),q3 k hk]
  have hm4:S4.h.get m=some (.map (qCo (A++e::C)) ck):=by rw[q4 m (by omega),q2 m hml,←hes];exact hD.hm
  have hm2:S2.h.get m=some (.map (qCo (A++e::C)) ck):=by rw[q2 m hml,←hes];exact hD.hm
  obtain⟨S5,e5⟩:∃Y,Y=S4.put m (.map (qCo A++(nI i,sB X.next (e.vs.length+1),e.b)::qCo C) ck):=⟨_,rfl⟩;have g5:∀k,k≠m→S5.h.get k=S4.h.get k:=fun k hk=>by rw[e5,qA3 hk]
  have up:=qVn (v:=sB X.next (e.vs.length+1)) hm4 hek hA;rw[←e5] at up;have d3:S3.h.get d=some (dK l m las.length):=by rw[q3 d (by omega)];exact d2
  have d4:S4.h.get d=some (dK l m las.length):=by rw[q4 d (by omega)];exact d2
  have fr:∀k,k<S.next→k≠m→S5.h.get k=S.h.get k:=fun k hk hkm=>by rw[g5 k hkm,q4 k (by omega),q2 k hk]
  refine⟨S5,A++⟨i,X.next,e.vs++[b],e.b⟩::C,ck,?_,⟨by rw[fr d hdl hdm];exact hD.hd,by rw[fr l hll hlm];exact hD.hl,?_,fun a ha=>?_,?_,?_,hD.most⟩,by rw[e5];exact t4.put (by omega),by rw[e5,qBz];omega,fr,fun j=>?_,fun a ha=>?_⟩
  ·refine qAE.of_tm qL2 qAB (Eq.mp (vcWo d l m las.length i e.r e.vs.length b (sB X.next (e.vs.length+1)) (sB R1.next e.vs.length) S S1 S2 S3 S4 S5 (fun q=>q=(nI 0,S5))) ?_);refine⟨by rw[e1];rfl,qKq d1,q1B,qWu d1,q1G hi,q1D d1,qY3 d1,qY4 d1,qAz (by rw[e2];exact q1u d1),qY3 d2,qY4 d2,?_⟩;rw[←eR,←eX,←eR1];exact⟨qKq dR,qKq dR,qJo (by rw[gR];exact hm2) hek hA,ap1,qIl (by rw[q3 _ (by omega)];exact a2),ap2,qAz up,⟨⟨by rw[g3 _ (by omega),gR1 _ (by omega)];exact t2 _ (by omega),trivial⟩,⟨trivial,trivial⟩,⟨trivial,trivial⟩,trivial⟩,
    qA1 (qCD (qKq d3)) (qA1 (qCD (qKq d4)) (qA1 (qCD (qIl (by rw[gR];exact a2))) trivial)),rfl⟩
  ·rw[e5,qAl]
   congr 2
   simp[qCo,qTl]
  ·have old:∀a,a∈es→a.k≠i→S5.h.get a.r=some (.cells (qD2 a.vs) true)∧a.vs≠[]∧a.k<las.length∧a.b<ck∧a.r≠l:=fun a ha _=>by
    obtain⟨p1,p2,p3,p4,p5⟩:=hD.row a ha;exact⟨by rw[fr a.r (ht.lt p1) (qAu p1 hD.hm (by simp))];exact p1,p2,p3,p4,p5⟩
   rcases List.mem_append.1 ha with h | h
   ·exact old a (by rw[hes];exact List.mem_append_left _ h) (hA a h)
   ·rcases List.mem_cons.1 h with rfl | h
    ·refine⟨?_,by simp,hi,r4,by show X.next≠l;omega⟩;show S5.h.get X.next=some (.cells (qD2 (e.vs++[b])) true);rw[g5 _ (by omega),a4,qJ4,qMz]
    ·exact old a (by rw[hes];exact List.mem_append_right _ (List.mem_cons_of_mem _ h)) (hC a h)
  ·have:=hD.keys;rw[hes] at this;simpa [hek] using this
  ·have:=hD.borns;rw[hes] at this;simpa using this
  ·rw[qEu,qES,hes,qEu,qEu,qES,qES,hek]
   by_cases hj:j=i
   ·subst hj;rw[qCI hA,qCI hC];simp
   ·rw[if_neg hj,if_neg (fun x=>hj x.symm),if_neg (fun x=>hj x.symm)]
  ·rcases List.mem_append.1 ha with h | h
   ·exact .inl ⟨a,by rw[hes];exact List.mem_append_left _ h,rfl⟩
   ·rcases List.mem_cons.1 h with rfl | h
    ·exact .inr (by show S.next≤X.next;omega)
    ·exact .inl ⟨a,by rw[hes];exact List.mem_append_right _ (List.mem_cons_of_mem _ h),rfl⟩
 ·have hno:∀e,e∈es→e.k≠i:=fun e he x=>hex ⟨e,he,x⟩;obtain⟨X,eX⟩:∃X,X=R.put (S2.next+13) (.cells (bl b) true):=⟨_,rfl⟩;have gX:∀k,k≠S2.next+13→X.h.get k=S2.h.get k:=fun k hk=>by rw[eX,qA3 hk,gR]
  have aX:X.h.get (S2.next+13)=some (.cells (bl b) true):=by rw[eX];exact qAl
  have nX:X.next=S.next+17:=by rw[eX];exact nR
  have tX:Tidy X:=by rw[eX];exact tR.put (by omega)
  have hf2:qAw X 256 1 (.slice (some (S2.next+13,0)) 1 (.known 1))=some (bl b):=qCv aX qBx;have ap2:=qGA (sT:=60) (xT:=60) ap_s (x:=.slice (some (S2.next+13,0)) 1 (.known 1)) rfl hf2 (by decide) (by decide) (by decide);obtain⟨S3,e3⟩:∃Y,Y=X.add (.cells (bl b) true):=⟨_,rfl⟩;rw[←e3] at ap2;have g3:∀k,k≠X.next→S3.h.get k=X.h.get k:=fun k hk=>by rw[e3,qAj hk]
  have a3:S3.h.get X.next=some (.cells (bl b) true):=by rw[e3];exact qBM
  have n3:S3.next=S.next+18:=by rw[e3,qBe];omega
  have t3:Tidy S3:=by rw[e3];exact tX.add
  have q3:∀k,k<S.next+1→S3.h.get k=S2.h.get k:=fun k hk=>by rw[g3 k (by omega),gX k (by omega)]
  have hm2:S2.h.get m=some (.map (qCo es) ck):=by rw[q2 m hml];exact hD.hm
  have hm3:S3.h.get m=some (.map (qCo es) ck):=by rw[q3 m (by omega)];exact hm2
  obtain⟨S4,e4⟩:∃Y,Y=S3.put m (.map (qCo es++[(nI i,sB X.next 1,ck)]) (ck+1)):=⟨_,rfl⟩;have up:=qVo (i:=i) (v:=sB X.next 1) hm3 hno;rw[←e4] at up;have g4:∀k,k≠m→S4.h.get k=S3.h.get k:=fun k hk=>by rw[e4,qA3 hk]
  have d3:S3.h.get d=some (dK l m las.length):=by rw[q3 d (by omega)];exact d2
  have fr:∀k,k<S.next→k≠m→S4.h.get k=S.h.get k:=fun k hk hkm=>by rw[g4 k hkm,q3 k (by omega),q2 k hk]
  refine⟨S4,es++[⟨i,X.next,[b],ck⟩],ck+1,?_,⟨by rw[fr d hdl hdm];exact hD.hd,by rw[fr l hll hlm];exact hD.hl,?_,fun a ha=>?_,?_,?_,hD.most⟩,by rw[e4];exact t3.put (by omega),by rw[e4,qBz];omega,fr,fun j=>?_,fun a ha=>?_⟩
  ·refine qAE.of_tm qL2 qAB (Eq.mp (vcWn d l m las.length i b (sB X.next 1) S S1 S2 S3 S4 (fun q=>q=(nI 0,S4))) ?_);refine⟨by rw[e1];rfl,qKq d1,q1B,qWu d1,q1G hi,q1D d1,qY3 d1,qY4 d1,qAz (by rw[e2];exact q1u d1),qY3 d2,qY4 d2,?_⟩;rw[←eR,←eX];exact⟨qKq dR,qKq dR,qJp (by rw[gR];exact hm2) hno,qIl (by rw[gR];exact a2),ap2,qAz up,⟨⟨slot,trivial⟩,⟨trivial,trivial⟩,⟨trivial,trivial⟩,trivial⟩,
    qA1 (qCD (qKq dR)) (qA1 (qCD (qKq d3)) (qA1 (qCD (qIl (by rw[gR];exact a2))) trivial)),rfl⟩
  ·rw[e4,qAl]
   congr 2
   simp[qCo,qTl]
  ·rcases List.mem_append.1 ha with h | h
   ·obtain⟨p1,p2,p3,p4,p5⟩:=hD.row a h;exact⟨by rw[fr a.r (ht.lt p1) (qAu p1 hD.hm (by simp))];exact p1,p2,p3,by omega,p5⟩
   ·simp only[List.mem_cons,List.not_mem_nil,or_false] at h;subst h;refine⟨?_,by simp,hi,by show ck<ck+1;omega,by show X.next≠l;omega⟩;show S4.h.get X.next=some (.cells (qD2 [b]) true);rw[g4 _ (by omega),a3,qMz]
  ·rw[List.map_append,List.nodup_append];refine⟨hD.keys,by simp,fun x hx y hy=>?_⟩;simp at hy;obtain⟨a,ha,rfl⟩:=List.mem_map.1 hx;subst hy;exact hno a ha
  ·rw[List.map_append,List.nodup_append];refine⟨hD.borns,by simp,fun x hx y hy=>?_⟩;simp at hy;obtain⟨a,ha,rfl⟩:=List.mem_map.1 hx;subst hy;have:=(hD.row a ha).2.2.2.1;omega
  ·rw[qEu,qS3]
   by_cases hj:j=i
   ·subst hj;rw[qCI hno];simp
   ·rw[if_neg (fun x=>hj x.symm),if_neg hj,List.append_nil]
  ·rcases List.mem_append.1 ha with h | h
   ·exact .inl ⟨a,h,rfl⟩
   ·simp only[List.mem_cons,List.not_mem_nil,or_false] at h;subst h;exact .inr (by show S.next≤X.next;omega)
def cnT:Code→Code
 | .cond _ t _=>t
 | _=>.skip
-- Read
noncomputable def cRd:Code:=Option.getD Tryz.f56.body .skip
-- New
-- Flush
noncomputable def cF:Code:=Option.getD Tryz.f40.body .skip
noncomputable def P3:Code:=seqL (qAg 2 cF)
noncomputable def BG:Code:=cnT (seqR P3)
noncomputable def LB:Code:=qSX (qSY (seqR (seqL BG)))
noncomputable def frF (d i:Nat):AFr:=xFr [(0,pO d),(3,nI 0),(17,pO i)] 36
theorem q1W (q:CallT) (d:Nat) (l:Nat) (m:Nat) (n:Nat) (i:Nat) (B:List Nat) (S:ASt) (S1:ASt) (S2:ASt) (S3:ASt) (Q:qz2) :
 Vq ((TM EK (qA0 [75] q) flK fl0 60).ex ⟨[4,16,4095],[9],[],[]⟩ none cRd {m:=qAM [pO d,nI i] 0 .e,n:=17,defs:=[]} S) (fun r=>Q (qAx [4,5] r)) (aa (qAY EK 54 S) (AV.ptr (some (S.next,0)),S1) (al (qAQ EK 102 (AV.ptr (some (d,1)))) S1 (AV.map (some m)) (as_ S1 (qAD EK BinOp.lss 3 (Operand.tmp 10) (Operand.const (Value.int IntKind.i64 0)) (AV.int IntKind.i64 (Int.ofNat i)) (AV.int IntKind.i64 (Int.ofNat 0))) (AV.bool false) (al (qAQ EK 60 (AV.ptr (some (d,0)))) S1 (AV.slice (some (l,0)) n (Cap.known n)) (as_ S1 (qAD EK BinOp.geq 3 (Operand.tmp 13) (Operand.tmp 18) (AV.int IntKind.i64 (Int.ofNat i)) (AV.int IntKind.i64 (Int.ofNat n))) (AV.bool false) (al (qAQ EK 4 (AV.ptr (some (d,5)))) S1 (AV.bool false) (aa ((M EK (drawA EK) (qA0 [75] q) 56).call 75 [AV.ptr (some (d,0)),AV.int IntKind.i64 (Int.ofNat i)] S1) (AV.agg (bl B),S2) (aa (Option.map (fun s=>(qAC,s)) (qAL EK 54 (AV.ptr (some (S.next,0))) (AV.agg (bl B)) S2)) (AV.tuple [],S3) (aq (Q (Exit.ret,xFr [(4,AV.ptr (some (S.next,0))),(5,AV.int IntKind.i64 (Int.ofNat 0))] 17,S3))))))))))):=vq (by kernel_rfl)
theorem vcNw (n:Nat) (R:AV) (S:ASt) (S1:ASt) (S2:ASt) (S3:ASt) (Q:AV×ASt→Prop) :
 Vq ((TM EK qAa [(13,⟨[5,8,11,12,14],[],[],[]⟩)] fl0 60).call 13 [nI n] S) Q (as_ S (qAD EK BinOp.lss 3 (Operand.tmp 4) (Operand.const (Value.int IntKind.i64 1)) (AV.int IntKind.i64 (Int.ofNat n)) (AV.int IntKind.i64 (Int.ofNat 1))) (AV.bool false) (as_ S (qAD EK BinOp.gtr 3 (Operand.tmp 7) (Operand.const (Value.int IntKind.i64 1000)) (AV.int IntKind.i64 (Int.ofNat n)) (AV.int IntKind.i64 (Int.ofNat 1000))) (AV.bool false) (aa (qOa EK 60 (AV.int IntKind.i64 (Int.ofNat n)) (AV.int IntKind.i64 (Int.ofNat n)) S) (AV.slice (some (S.next,0)) n (Cap.known n),S1) (aa (some (qKT S1)) (AV.map (some S1.next),S2) (aa (qFi (AV.agg [AV.slice (some (S.next,0)) n (Cap.known n),AV.map (some S1.next),AV.int IntKind.i64 (Int.ofNat 0),AV.bool false,AV.bool false,AV.bool false]) S2) (AV.ptr (some (S2.next,0)),S3) (aq (Q (AV.tuple [AV.ptr (some (S2.next,0)),AV.int IntKind.i64 (Int.ofNat 0)],S3)))))))):=vq (by kernel_rfl)
theorem vcF1 (d:Nat) (l:Nat) (m:Nat) (n:Nat) (S:ASt) (S2:ASt) (Q:qz2) :
 Vq ((TM EK qAa flK fl0 60).ex ⟨[],[6,10],[],[]⟩ none (qL5 2 cF) {m:=qAM [pO d] 0 .e,n:=36,defs:=[]} S) (fun r=>Q (qAx [0,3] r)) (al (qAQ EK 102 (AV.ptr (some (d,1)))) S (AV.map (some m)) (as_ S (qAD EK BinOp.lss 3 (Operand.tmp 10) (Operand.const (Value.int IntKind.i64 0)) (AV.int IntKind.i64 (Int.ofNat 0)) (AV.int IntKind.i64 (Int.ofNat 0))) (AV.bool false) (al (qAQ EK 60 (AV.ptr (some (d,0)))) S (AV.slice (some (l,0)) n (Cap.known n)) (as_ S (qAD EK BinOp.geq 3 (Operand.tmp 13) (Operand.tmp 18) (AV.int IntKind.i64 (Int.ofNat 0)) (AV.int IntKind.i64 (Int.ofNat n))) (AV.bool false) (al (qAQ EK 4 (AV.ptr (some (d,5)))) S (AV.bool false) (al (qAQ EK 4 (AV.ptr (some (d,4)))) S (AV.bool false) (al (qAQ EK 4 (AV.ptr (some (d,3)))) S (AV.bool false) (aa (Option.map (fun s=>(qAC,s)) (qAL EK 4 (AV.ptr (some (d,4))) (AV.bool false) S)) (AV.tuple [],S2) (al (qAQ EK 4 (AV.ptr (some (d,4)))) S2 (AV.bool false) (al (qAQ EK 4 (AV.ptr (some (d,3)))) S2 (AV.bool false) (aq (Q (Exit.normal,xFr [(0,AV.ptr (some (d,0))),(3,AV.int IntKind.i64 (Int.ofNat 0))] 36,S2))))))))))))):=vq (by kernel_rfl)
theorem vcF2 (d:Nat) (S:ASt) (Q:qz2) :
 Vq ((TM EK qAa flK fl0 60).ex fl0 none (seqL P3) (xFr [(0,pO d),(3,nI 0)] 36) S) (fun r=>Q (qAx [0,3,12] r)) (aq (Q (Exit.normal,xFr [(0,AV.ptr (some (d,0))),(3,AV.int IntKind.i64 (Int.ofNat 0)),(12,AV.bool true)] 36,S))):=vq (by kernel_rfl)
theorem vcF3 (d:Nat) (m:Nat) (S:ASt) (S1:ASt) (Q:qz2) :
 Vq ((TM EK qAa flK fl0 60).ex ⟨[16,17],[],[],[]⟩ none (seqL (seqL BG)) (xFr [(0,pO d),(3,nI 0),(12,.bool true)] 36) S) (fun r=>Q (qAx [0,3,17] r)) (al (qAQ EK 102 (AV.ptr (some (d,1)))) S (AV.map (some m)) (aa (qJD EK 102 (AV.map (some m)) S) (AV.ptr (some (S.next,0)),S1) (aq (Q (Exit.normal,xFr [(0,AV.ptr (some (d,0))),(3,AV.int IntKind.i64 (Int.ofNat 0)),(17,AV.ptr (some (S.next,0)))] 36,S1))))):=vq (by kernel_rfl)
theorem vcFx (d:Nat) (i:Nat) (S:ASt) (Q:qz2) :
 Vq ((TM EK qAa flK fl0 60).ex ⟨[18],[],[],[]⟩ none LB (frF d i) S) (fun r=>Q (qAx [0,3,17] r)) (al (qO9 (AV.ptr (some (i,0))) false) S (AV.tuple [AV.bool false]) (aq (Q (Exit.exit 0,xFr [(0,AV.ptr (some (d,0))),(3,AV.int IntKind.i64 (Int.ofNat 0)),(17,AV.ptr (some (i,0)))] 36,S)))):=vq (by kernel_rfl)
theorem vcFr (q:CallT) (d:Nat) (l:Nat) (n:Nat) (i:Nat) (k:Nat) (V:AV) (B:List Nat) (S:ASt) (S1:ASt) (S2:ASt) (Q:qz2) :
 Vq ((TM EK (qA0 [75] q) flK fl0 60).ex ⟨[20,25,29,30,4095,4094],[],[],[]⟩ none (seqR LB) (xFr [(0,pO d),(3,nI 0),(17,pO i),(19,.bool true)] 36) S) (fun r=>Q (qAx [0,3,17] r)) (as_ S (qJF (AV.ptr (some (i,0))) S) (AV.tuple [AV.int IntKind.i64 (Int.ofNat k),V]) (al (qAQ EK 60 (AV.ptr (some (d,0)))) (ASt.mk S.h (S.next+10)) (AV.slice (some (l,0)) n (Cap.known n)) (aa ((M EK (drawA EK) (qA0 [75] q) 56).call 75 [AV.ptr (some (d,0)),AV.int IntKind.i64 (Int.ofNat k)] (ASt.mk S.h (S.next+10))) (AV.agg (bl B),S1) (as_ S1 (qA4 EK 60 (AV.slice (some (l,0)) n (Cap.known n)) (AV.int IntKind.i64 (Int.ofNat k))) (AV.ptr (some (l,k*256))) (aa (Option.map (fun s=>(qAC,s)) (qAL EK 54 (AV.ptr (some (l,k*256))) (AV.agg (bl B)) S1)) (AV.tuple [],S2) (ah (qAh [(qHC (qAQ EK 60 (AV.ptr (some (d,0))) S1),AV.slice (some (l,0)) n (Cap.known n))]) (aq (Q (Exit.normal,xFr [(0,AV.ptr (some (d,0))),(3,AV.int IntKind.i64 (Int.ofNat 0)),(17,AV.ptr (some (i,0)))] 36,S2))))))))):=vq (by kernel_rfl)
theorem q1a (d:Nat) (i:Nat) (m:Nat) (S:ASt) (S1:ASt) (Q:qz2) :
 Vq ((TM EK qAa flK fl0 60).ex ⟨[34,4095],[],[],[]⟩ none (seqR BG) (frF d i) S) (fun r=>Q (qAx [3] r)) (al (qAQ EK 102 (AV.ptr (some (d,1)))) S (AV.map (some m)) (aa (qAU EK Builtin.clear [102] [AV.map (some m)] S) (AV.tuple [],S1) (aq (Q (Exit.normal,xFr [(3,AV.int IntKind.i64 (Int.ofNat 0))] 36,S1))))):=vq (by kernel_rfl)
theorem vcFz (S:ASt) (Q:Exit×Option (AV×ASt)→Prop) :
 Vq ((TM EK qAa flK fl0 60).ex fl0 none (qAg 3 cF) (xFr [(3,nI 0)] 36) S) (fun r=>Q (r.1,leaveA EK Tryz.f40 r.2.1 r.2.2)) (aq (Q (Exit.ret,some (AV.int IntKind.i64 (Int.ofNat 0),S)))):=vq (by kernel_rfl)
def qDN (las:List (List Nat)) (es:List En) (i:Nat):List Nat:=((qDo es i).getLast?).getD (las.getD i [])
theorem q1L {S:ASt}:qAY EK 54 S=some (pO S.next,S.add (.cells (bl []) true)):=by kernel_rfl
theorem Disk.keep {S S':ASt} {d l m ck:Nat} {las:List (List Nat)} {es:List En} (hD:Disk S d l m las es ck) (ht:Tidy S) (h:∀k,k<S.next→S'.h.get k=S.h.get k):Disk S' d l m las es ck :=
 ⟨by rw[h _ (ht.lt hD.hd)];exact hD.hd,by rw[h _ (ht.lt hD.hl)];exact hD.hl,by rw[h _ (ht.lt hD.hm)];exact hD.hm,fun e he=>by
  obtain⟨p1,p2⟩:=hD.row e he;exact⟨by rw[h _ (ht.lt p1)];exact p1,p2⟩,hD.keys,hD.borns,hD.most⟩
theorem qDp {es:List En} {i:Nat} (hk:(es.map (·.k)).Nodup) (h:∃e,e∈es∧e.k=i):∃A e C,es=A++e::C∧e.k=i∧(∀a,a∈A→a.k≠i)∧(∀a,a∈C→a.k≠i)∧qDo es i=e.vs:=by
 obtain⟨e,he,hek⟩:=h;obtain⟨A,C,hes⟩:=List.append_of_mem he;have hnd:=hk;rw[hes,List.map_append,List.map_cons,List.nodup_append] at hnd;have hA:∀a,a∈A→a.k≠i:=fun a ha x=>hnd.2.2 a.k (List.mem_map_of_mem ha) e.k List.mem_cons_self (by rw[x,hek]);have hC:∀a,a∈C→a.k≠i:=fun a ha x=>(List.nodup_cons.1 hnd.2.1).1 (by rw[hek,←x];exact List.mem_map_of_mem ha);exact⟨A,e,C,hes,hek,hA,hC,by rw[hes,qEu,qES,qCI hA,qCI hC,if_pos hek];simp⟩
section
variable {S:ASt} {d l m ck i k n:Nat} {las:List (List Nat)} {es:List En}
theorem q2k {k:Nat}:still S (qAD EK .gtr 3 (.tmp 13) (.const (.int .i64 0)) (.int .i64 (.ofNat k)) (.int .i64 (.ofNat 0)))=some (.bool (decide (0<k)),S):=by
 have e:qAD EK .gtr 3 (.tmp 13) (.const (.int .i64 0)) (.int .i64 (.ofNat k)) (.int .i64 (.ofNat 0))=some (.bool (ltF (.ofNat 0) (.ofNat k))):=by kernel_rfl
 rw[qBN] at e;exact qAF e
theorem sub1 {k:Nat} (h:k<4611686018427387904):still S (qAD EK .sub 3 (.tmp 17) (.const (.int .i64 1)) (.int .i64 (.ofNat (k+1))) (.int .i64 (.ofNat 1)))=some (nI k,S):=by
 have e:qAD EK .sub 3 (.tmp 17) (.const (.int .i64 1)) (.int .i64 (.ofNat (k+1))) (.int .i64 (.ofNat 1))=some (.int .i64 (qAH .i64 (.ofNat (k+1) - .ofNat 1))):=by kernel_rfl
 have e2:(Int.ofNat (k+1) - Int.ofNat 1)=Int.ofNat k:=by
  show ((k+1:Nat):Int) - 1=(k:Int);omega
 refine qAF ?_;rw[e,e2,qBW (by omega)];rfl
theorem q2c {c:Cap} (h:k<n):still S (qA4 EK 60 (.slice (some (l,0)) n c) (.int .i64 (.ofNat k)))=some (.ptr (some (l,k*256)),S):=by
 have:=qDc (st:=S) (i:=l) (o:=0) (c:=c) (kd:=.i64) sl_s h;rw[Nat.zero_add] at this;exact this
theorem qQh {S:ASt} {b:List Nat} {j:Nat} (h:S.h.get j=some (.cells (bl b) true)):leaveA EK Tryz.f75 (xFr [(4,pO j)] 28) S=some (.agg (bl b),S) :=
 qOS (a:=4) (t:=54) (x:=pO j) (by kernel_rfl) rfl (by kernel_rfl) (qIl h)
theorem qUq (hD:Disk S d l m las es ck) (ht:Tidy S) (hi:i<las.length) (hv:(qDo es i).length<1000000) :
  ∃S',qAE Tryz.prog 75 [pO d,nI i] S (.agg (bl (qDN las es i)),S')∧Tidy S'∧S'.next=S.next+1∧∀k,k<S.next→S'.h.get k=S.h.get k:=by
 obtain⟨S1,e1⟩:∃X,X=S.add (.cells (bl []) true):=⟨_,rfl⟩;have g1:∀k,k<S.next→S1.h.get k=S.h.get k:=fun k hk=>by rw[e1,qAj (by omega)]
 have a1:S1.h.get S.next=some (.cells (bl []) true):=by rw[e1];exact qBM
 have n1:S1.next=S.next+1:=by rw[e1];rfl
 have t1:Tidy S1:=by rw[e1];exact ht.add
 have D1:=hD.keep ht g1;obtain⟨S2,e2⟩:∃X,X=S1.put S.next (.cells (bl (qDN las es i)) true):=⟨_,rfl⟩;have st:qAL EK 54 (pO S.next) (.agg (bl (qDN las es i))) S1=some S2:=by rw[e2];exact qCJ q1r (qBI _) (qBI _) a1
 have a2:S2.h.get S.next=some (.cells (bl (qDN las es i)) true):=by rw[e2];exact qAl
 have fin:∀(e:Exit) (F:AFr) (S':ASt),(e,F,S')=(.ret,xFr [(4,pO S.next)] 28,S2)→(e=.normal∨e=.ret)∧F.n=28∧leaveA EK Tryz.f75 F S'=some (.agg (bl (qDN las es i)),S2):=fun e F S' h=>by
  cases h;exact⟨.inr rfl,rfl,qQh a2⟩
 refine⟨S2,?_,by rw[e2];exact t1.put (by omega),by rw[e2,qBz];exact n1,fun k hk=>by rw[e2,qA3 (by omega)];exact g1 k hk⟩
 by_cases hex:∃e,e∈es∧e.k=i
 ·obtain⟨A,e,C,hes,hek,hA,hC,hver⟩:=qDp hD.keys hex;obtain⟨p1,p2,p3,p4,p5⟩:=D1.row e (by rw[hes];simp);obtain⟨k,hk⟩:∃k,e.vs.length=k+1:=⟨e.vs.length - 1,by have:=List.length_pos_iff.2 p2;omega⟩;have hlast:e.vs[k]? = some (qDN las es i):=by
   unfold qDN;rw[hver,List.getLast?_eq_getElem?,hk,Nat.add_sub_cancel,List.getElem?_eq_getElem (by omega)];rfl
  have hm1:=D1.hm;rw[hes] at hm1;refine qAE.of_exR qL2 qAB (fn:=Tryz.f75) (c:=cN) (by kernel_rfl) (by kernel_rfl) (by kernel_rfl) (N:=28) (by kernel_rfl) rfl (kf:=[4]) (by kernel_rfl) (Q:=fun q=>q=(.ret,xFr [(4,pO S.next)] 28,S2)) (Eq.mp (vcNo d l m las.length i e.r k (qDN las es i) S S1 S2 (fun q=>q=(.ret,xFr [(4,pO S.next)] 28,S2))) ?_) fin;have lo:=qJo hm1 hek hA;rw[hk] at lo;exact⟨by rw[e1];exact q1L,qKq D1.hd,lo,by rw[q2k];simp,sub1 (by rw[hver] at hv;omega),q2c (by omega),qQj p1 hlast,qAz st,rfl⟩
 ·have hno:∀e,e∈es→e.k≠i:=fun e he x=>hex ⟨e,he,x⟩;have hcur:las[i]? = some (qDN las es i):=by
   unfold qDN;rw[qCI hno];simp[hi]
  refine qAE.of_exR qL2 qAB (fn:=Tryz.f75) (c:=cN) (by kernel_rfl) (by kernel_rfl) (by kernel_rfl) (N:=28) (by kernel_rfl) rfl (kf:=[4]) (by kernel_rfl) (Q:=fun q=>q=(.ret,xFr [(4,pO S.next)] 28,S2)) (Eq.mp (vcNn d l m las.length i (qDN las es i) S S1 S2 (fun q=>q=(.ret,xFr [(4,pO S.next)] 28,S2))) ?_) fin;exact⟨by rw[e1];exact q1L,qKq D1.hd,qJp D1.hm hno,by rw[q2k];rfl,qWu D1.hd,q2c hi,qQj D1.hl hcur,qAz st,rfl⟩
theorem qWV (hD:Disk S d l m las es ck) (ht:Tidy S) (hi:i<las.length) (hv:(qDo es i).length<1000000) :
  ∃S',qAE Tryz.prog 56 [pO d,nI i] S (.tuple [.agg (bl (qDN las es i)),nI 0],S')∧Tidy S'∧S'.next=S.next+2∧∀k,k<S.next→S'.h.get k=S.h.get k:=by
 obtain⟨S1,e1⟩:∃X,X=S.add (.cells (bl []) true):=⟨_,rfl⟩;have g1:∀k,k<S.next→S1.h.get k=S.h.get k:=fun k hk=>by rw[e1,qAj (by omega)]
 have a1:S1.h.get S.next=some (.cells (bl []) true):=by rw[e1];exact qBM
 have n1:S1.next=S.next+1:=by rw[e1];rfl
 have t1:Tidy S1:=by rw[e1];exact ht.add
 have D1:=hD.keep ht g1;obtain⟨S2,hc,t2,n2,g2⟩:=qUq D1 t1 hi hv;obtain⟨S3,e3⟩:∃X,X=S2.put S.next (.cells (bl (qDN las es i)) true):=⟨_,rfl⟩;have st:qAL EK 54 (pO S.next) (.agg (bl (qDN las es i))) S2=some S3:=by rw[e3];exact qCJ q1r (qBI _) (qBI _) (by rw[g2 _ (by omega)];exact a1)
 have a3:S3.h.get S.next=some (.cells (bl (qDN las es i)) true):=by rw[e3];exact qAl
 refine⟨S3,?_,by rw[e3];exact t2.put (by omega),by rw[e3,qBz];omega,fun k hk=>by rw[e3,qA3 (by omega),g2 k (by omega)];exact g1 k hk⟩;refine qAE.of_exR qL2 (qAG (qDB (tab:=[(75,[pO d,nI i],S1,(.agg (bl (qDN las es i)),S2))]) fun e he=>by
   simp only[List.mem_cons,List.not_mem_nil,or_false] at he;subst he;exact hc)) (fn:=Tryz.f56) (c:=cRd) (by kernel_rfl) (by kernel_rfl) (by kernel_rfl) (N:=17) (by kernel_rfl) rfl (kf:=[4,5]) (by kernel_rfl) (Q:=fun q=>q=(.ret,xFr [(4,pO S.next),(5,nI 0)] 17,S3))
  (Eq.mp (q1W (qIZ [(75,[pO d,nI i],S1,(.agg (bl (qDN las es i)),S2))]) d l m las.length i (qDN las es i) S S1 S2 S3 (fun q=>q=(.ret,xFr [(4,pO S.next),(5,nI 0)] 17,S3))) ?_) (fun e F S' h=>?_)
 ·exact⟨by rw[e1];exact q1L,qKq D1.hd,q1B,qWu D1.hd,q1G hi,q1D D1.hd,ca (qCB ..),qAz st,rfl⟩
 ·cases h;refine⟨.inr rfl,rfl,?_⟩;exact qI3 (a:=4) (b:=5) (t:=54) (x:=pO S.next) (by kernel_rfl) rfl (by kernel_rfl) (qIl a3) (by kernel_rfl)
theorem qZ8 (ht:Tidy S) (h1:1≤n) (h2:n≤1000):∃S' d l m,qAE Tryz.prog 13 [nI n] S (.tuple [pO d,nI 0],S')∧Disk S' d l m (List.replicate n []) [] 0∧Tidy S'∧S.next≤S'.next∧S.next≤d∧S.next≤l∧S.next≤m∧∀k,k<S.next→S'.h.get k=S.h.get k:=by
 have hz:qGO (bl []) n=qD2 (List.replicate n []):=by
  clear h1 h2
  induction n with
  | zero=>rfl
  | succ k ih =>
   show bl []++qGO (bl []) k=_;rw[ih];rfl
 obtain⟨S1,e1⟩:∃X,X=S.add (.cells (qD2 (List.replicate n [])) true):=⟨_,rfl⟩;obtain⟨S2,e2⟩:∃X,X=S1.add (.map [] 0):=⟨_,rfl⟩;have n1:S1.next=S.next+1:=by rw[e1];rfl
 have n2:S2.next=S.next+2:=by rw[e2,qBe,n1]
 obtain⟨S3,e3⟩:∃X,X=S2.add (dK S.next S1.next n):=⟨_,rfl⟩;have n3:S3.next=S.next+3:=by rw[e3,qBe,n2]
 have mk:qOa EK 60 (nI n) (nI n) S=some (.slice (some (S.next,0)) n (.known n),S1):=by
  have e:qOa EK 60 (nI n) (nI n) S=(bif Nat.ble (256*n) 281474976710656 then bif Nat.ble n n then bif Nat.blt n 9223372036854775808 then some (.slice (some (S.next,0)) n (.known n),S.add (.cells (qGO (bl []) n) true)) else none else none else none):=by kernel_rfl
  rw[e,qEC (show 256*n≤281474976710656 by omega),qEC (Nat.le_refl n),qFa (show n<9223372036854775808 by omega),hz,←e1];rfl
 refine⟨S3,S2.next,S.next,S1.next,?_,⟨by rw[e3,qBM,List.length_replicate],?_,?_,(fun e he=>by cases he),List.nodup_nil,List.nodup_nil,by rw[List.length_replicate];omega⟩,by rw[e3,e2,e1];exact ht.add.add.add,by omega,by omega,by omega,by omega,fun k hk=>by rw[e3,qAj (by omega),e2,qAj (by omega),e1,qAj (by omega)]⟩
 ·refine qAE.of_tm qL2 qAB (Eq.mp (vcNw n .any S S1 S2 S3 (fun q=>q=(.tuple [pO S2.next,nI 0],S3))) ⟨?_,?_,mk,by rw[e2];rfl,by rw[e3];rfl,rfl⟩)
  ·have e:qAD EK .lss 3 (.tmp 4) (.const (.int .i64 1)) (.int .i64 (.ofNat n)) (.int .i64 (.ofNat 1))=some (.bool (ltF (.ofNat n) (.ofNat 1))):=by kernel_rfl
   rw[qBN,decide_eq_false (by omega)] at e;exact qAF e
  ·have e:qAD EK .gtr 3 (.tmp 7) (.const (.int .i64 1000)) (.int .i64 (.ofNat n)) (.int .i64 (.ofNat 1000))=some (.bool (ltF (.ofNat 1000) (.ofNat n))):=by kernel_rfl
   rw[qBN,decide_eq_false (by omega)] at e;exact qAF e
 ·rw[e3,qAj (by omega),e2,qAj (by omega),e1,qBM]
 ·rw[e3,qAj (by omega),e2,qBM];rfl
end
theorem qEn (p:Nat→Bool):∀es:List En,qKG p (qCo es)=qCo (es.filter fun e=>p e.b)
 | []=>rfl
 | e::es=>by
  show (bif p e.b then qTl e::qKG p (qCo es) else qKG p (qCo es))=_;rw[qEn p es,List.filter_cons];cases p e.b<;>rfl
def qDP (es:List En) (seen:List Nat):List En:=es.filter fun e=>!qCY e.b seen
section
variable {S:ASt} {m it ck:Nat} {es:List En} {seen:List Nat}
theorem qNb (hb:∀e,e∈es→e.b<ck) (hs:∀b,b∈seen→∃e,e∈es∧e.b=b):(bif isNil seen then false else bif isNil (qCo es) then false else qOo (fun b=>Nat.ble ck b) (qCo es))=false:=by
 cases seen with
 | nil=>rfl
 | cons b r =>
  obtain⟨e,he,_⟩:=hs b List.mem_cons_self;cases es with
  | nil=>cases he
  | cons a tl =>
   have:Nat.ble ck a.b=false:=qTx (hb a List.mem_cons_self);show (bif Nat.ble ck a.b then _ else false)=false;rw[this];rfl
theorem qQl (hb:∀e,e∈es→e.b<ck):qKG (fun b=>Nat.ble ck b) (qCo (qDP es seen))=[]:=by
 rw[qEn];have:(qDP es seen).filter (fun e=>Nat.ble ck e.b)=[]:=by
  rw[List.filter_eq_nil_iff];intro a ha;rw[qTx (hb a (List.mem_filter.1 ha).1)];simp
 rw[this];rfl
theorem qR6 (hb:∀e,e∈es→e.b<ck):qKG (fun b=>Nat.blt b ck) (qCo (qDP es seen))=qCo (qDP es seen):=by
 rw[qEn]
 congr 1
 rw[List.filter_eq_self];intro a ha;exact qFa (hb a (List.mem_filter.1 ha).1)
theorem qNp (hi:S.h.get it=some (.miter (some m) ck seen ck)) (hm:S.h.get m=some (.map (qCo es) ck)) (hb:∀e,e∈es→e.b<ck) (hs:∀b,b∈seen→∃e,e∈es∧e.b=b) :
  qEB (pO it) S=some (it,m,ck,seen,ck,qCo (qDP es seen)):=by
 have e:qKG (fun b=>Bool.not (qCY b seen)) (qCo es)=qCo (qDP es seen):=qEn _ es;unfold qEB pO;simp only[hi,hm];rw[qNb hb hs];simp only[cond_false,e,qQl hb,qR6 hb]
theorem qQT (hi:S.h.get it=some (.miter (some m) ck seen ck)) (hm:S.h.get m=some (.map (qCo es) ck)) (hb:∀e,e∈es→e.b<ck) (hs:∀b,b∈seen→∃e,e∈es∧e.b=b) (hn:qDP es seen=[]) :
  qO9 (pO it) false S=some (.tuple [.bool false],S):=by
 have e:qKG (fun b=>Bool.not (qCY b seen)) (qCo es)=qCo (qDP es seen):=qEn _ es;unfold qO9 pO;simp only[hi,hm,cond_false];rw[qNb hb hs];simp only[cond_false,e,hn];rfl
theorem qNg {e:En}:∀{es:List En},(es.map (·.b)).Nodup→e∈es→qMZ e.b (qCo es)=some (nI e.k,sB e.r e.vs.length)
 | a::tl,hn,he=>by
  show (bif Nat.beq a.b e.b then some (nI a.k,sB a.r a.vs.length) else qMZ e.b (qCo tl))=_;rw[List.map_cons,List.nodup_cons] at hn;rcases List.mem_cons.1 he with rfl | he
  ·rw[Nat.beq_refl];rfl
  ·have:a.b≠e.b:=fun x=>hn.1 (by rw[x];exact List.mem_map_of_mem he);rw[qO6 this,cond_false];exact qNg hn.2 he
theorem qTk {e:En} (hi:S.h.get it=some (.miter (some m) ck (seen++[e.b]) ck)) (hm:S.h.get m=some (.map (qCo es) ck)) (hn:(es.map (·.b)).Nodup) (he:e∈es):still S (qJF (pO it) S)=some (.tuple [nI e.k,sB e.r e.vs.length],S):=by
 refine qAF ?_;unfold qJF pO;simp only[hi,hm,List.getLast?_append,List.getLast?_singleton,Option.some_or,Nat.beq_refl,cond_true,qNg hn he]
end
theorem mem_left {es:List En} {seen:List Nat} {e:En}:e∈qDP es seen↔e∈es∧e.b ∉ seen:=by
 unfold qDP;rw[List.mem_filter,qJk];simp
theorem qNT {es:List En} {seen:List Nat} {e:En} (hn:(es.map (·.b)).Nodup) (he:e∈qDP es seen):(qDP es (seen++[e.b])).length<(qDP es seen).length:=by
 unfold qDP;have h1:es.filter (fun a=>!qCY a.b (seen++[e.b]))=(es.filter fun a=>!qCY a.b seen).filter fun a=>!decide (a.b=e.b):=by
  rw[List.filter_filter]
  congr 1
  funext a
  rw[qJk,qJk];simp[Bool.and_comm]
 rw[h1];exact List.length_filter_lt_length_iff_exists.2 ⟨e,he,by simp⟩
noncomputable def r6o:Array Oper:=match seqL LB with | .region _ o _=>o | _=>#[]
theorem r6s:seqL LB=.region 6 r6o false:=by kernel_rfl
theorem LBs:LB=.seq (seqL LB) (seqR LB):=by kernel_rfl
theorem qQV {α:Type} {l:List α} (h:l.isEmpty=false):l≠[]:=by intro e;rw[e] at h;cases h
theorem r6n:r6o.toList≠[]:=qQV (by kernel_rfl)
noncomputable def fr2 (d it:Nat) (u:AV):AFr:={m:=((frF d it).m.set 11 18 u).set 11 19 (.bool true),n:=36,defs:=[]}
theorem q21 {d it c:Nat} {S S1:ASt} {k v:AV} {call round:CallT} {ex:qCy} (h:qIT c (pO it) S=some (.tuple [.bool true,k,v],S1)):qCN EK call round ex none c (seqL LB) (frF d it) S=some (.normal,fr2 d it (.tuple [.bool true,k,v]),S1):=by
 rw[r6s];exact qQg (o:=r6o.toList.head r6n) (os:=r6o.toList.tail) (List.cons_head_tail r6n).symm (x:=.tmp 17) (isS:=false) (by kernel_rfl) (by kernel_rfl) h (fr1:={m:=(frF d it).m.set 11 18 (.tuple [.bool true,k,v]),n:=36,defs:=[]}) (by kernel_rfl) (by kernel_rfl)
theorem can6 {d it:Nat} {k v:AV}:canF [0,3,17,19] (fr2 d it (.tuple [.bool true,k,v]))=xFr [(0,pO d),(3,nI 0),(17,pO it),(19,.bool true)] 36:=by kernel_rfl
noncomputable def qCS (las:List (List Nat)) (es:List En):List (List Nat):=(List.range las.length).map (qDN las es)
open Classical in
structure FI (S0:ASt) (d l m it ck:Nat) (las:List (List Nat)) (es:List En) (seen:List Nat) (lasK:List (List Nat)) (S:ASt):Prop where
 dk:Disk S d l m lasK es ck
 iti:S.h.get it=some (.miter (some m) ck seen ck)
 tid:Tidy S
 len:lasK.length=las.length
 val:∀j,j<las.length→lasK.getD j []=if (∃e,e∈es∧e.k=j∧e.b∈seen) then qDN las es j else las.getD j []
 sub:∀b,b∈seen→∃e,e∈es∧e.b=b
 fr:∀k,k<S0.next→k≠l→S.h.get k=S0.h.get k
 nx:S.next≤S0.next+40*((es.length - (qDP es seen).length)+1)
 lo:S0.next≤it
section
variable {S0:ASt} {d l m it ck:Nat} {las:List (List Nat)} {es:List En}
theorem shF3:P3=.seq (seqL P3) (.cond (.tmp 12) BG .skip):=by kernel_rfl
theorem shF2:qAg 2 cF=.seq P3 (qAg 3 cF):=by kernel_rfl
theorem shBG:BG=.seq (.seq (seqL (seqL BG)) (.block 0 (.loop LB))) (seqR BG):=by kernel_rfl
open Classical in
theorem qH6 (hE:∀e,e∈es→e.vs.length<1000000) {seen:List Nat} {lasK:List (List Nat)} {S:ASt} (hI:FI S0 d l m it ck las es seen lasK S) :
  Trip Tryz.prog S0.next none LB (frF d it) S fun r=>(∃seen' lasK' S',(qDP es seen').length<(qDP es seen).length∧FI S0 d l m it ck las es seen' lasK' S'∧qD8 S0.next .normal (frF d it) S' r)∨(qDP es seen=[]∧qD8 S0.next (.exit 0) (frF d it) S r):=by
 have hb:∀e,e∈es→e.b<ck:=fun e he=>(hI.dk.row e he).2.2.2.1
 by_cases hn:qDP es seen=[]
 ·refine (Trip.runY qL2 qAB (Eq.mp (vcFx d it S (fun r=>r=(.exit 0,frF d it,S))) ⟨qQT hI.iti hI.dk.hm hb hI.sub hn,rfl⟩)).mono fun r hr=>.inr ⟨hn,qD8.rawE hr⟩
 ·rw[LBs];refine Trip.seqAny qL2 (sum:=qA0 [75] (qIZ [])) (qAG (qDB fun e he=>by cases he)) (n:=60) (x:=.tmp 17) (v:=pO it) (by kernel_rfl) (qNp hI.iti hI.dk.hm hb hI.sub) (by
   intro e;exact hn (by unfold qCo at e;exact List.map_eq_nil_iff.1 e)) (by rw[r6s];kernel_rfl) fun c x hx=>?_
  unfold qCo at hx;rw[List.getElem?_map,Option.map_eq_some_iff] at hx;obtain⟨e,he,rfl⟩:=hx;have heL:=List.mem_of_getElem? he;obtain⟨hee,hes⟩:=mem_left.1 heL;obtain⟨S1,e1⟩:∃X,X=S.put it (.miter (some m) ck (seen++[e.b]) ck):=⟨_,rfl⟩;have hnx:qIT c (pO it) S=some (.tuple [.bool true,nI e.k,sB e.r e.vs.length],S1):=by
   unfold qIT;rw[qNp hI.iti hI.dk.hm hb hI.sub];simp only[qCo,List.getElem?_map,he,Option.map_some,qTl,e1]
  refine⟨fr2 d it (.tuple [.bool true,nI e.k,sB e.r e.vs.length]),S1,q21 hnx,?_⟩;refine Trip.less (Wk.canF S0.next [0,3,17,19] _ S1) ?_;rw[can6];have hil:=hI.tid.lt hI.iti;have g1:∀k,k≠it→S1.h.get k=S.h.get k:=fun k hk=>by rw[e1,qA3 hk]
  have a1:S1.h.get it=some (.miter (some m) ck (seen++[e.b]) ck):=by rw[e1];exact qAl
  have t1:Tidy S1:=by rw[e1];exact hI.tid.put hil
  have n1:S1.next=S.next:=by rw[e1];rfl
  have D1:Disk S1 d l m lasK es ck:=⟨by rw[g1 _ (qAu hI.dk.hd hI.iti (by simp[dK]))];exact hI.dk.hd,by rw[g1 _ (qAu hI.dk.hl hI.iti (by simp))];exact hI.dk.hl,by rw[g1 _ (qAu hI.dk.hm hI.iti (by simp))];exact hI.dk.hm,fun a ha=>by
   obtain⟨p1,p2⟩:=hI.dk.row a ha;exact⟨by rw[g1 _ (qAu p1 hI.iti (by simp))];exact p1,p2⟩,hI.dk.keys,hI.dk.borns,hI.dk.most⟩
  obtain⟨R,eR⟩:∃X,X=ASt.mk S1.h (S1.next+10):=⟨_,rfl⟩;have tR:Tidy R:=by rw[eR];exact t1.mk (by omega)
  have DR:Disk R d l m lasK es ck:=by rw[eR];exact D1.keep t1 fun k _=>rfl
  obtain⟨p1,p2,p3,p4,p5⟩:=D1.row e hee;obtain⟨A,e',C,hsp,hek,hA,hC,hver⟩:=qDp D1.keys ⟨e,hee,rfl⟩;have hee':e'=e:=by
   have:e∈A++e'::C:=by rw[←hsp];exact hee
   rcases List.mem_append.1 this with h | h
   ·exact absurd rfl (hA e h)
   ·rcases List.mem_cons.1 h with h | h
    ·exact h.symm
    ·exact absurd rfl (hC e h)
  subst hee';obtain⟨S2,hc,t2,n2,g2⟩:=qUq DR tR (i:=e'.k) p3 (by rw[hver];exact hE e' hee);have hcur:qDN lasK es e'.k=qDN las es e'.k:=by
   unfold qDN;rw[hver,List.getLast?_eq_some_getLast p2];rfl
  rw[hcur] at hc;have D2:=DR.keep tR g2;obtain⟨U,W,hU,hUl⟩:∃U W,lasK=U++lasK.getD e'.k []::W∧U.length=e'.k:=by
   refine⟨lasK.take e'.k,lasK.drop (e'.k+1),?_,by rw[List.length_take];omega⟩;have:=List.take_append_drop e'.k lasK;rw[List.drop_eq_getElem_cons p3] at this;rw[List.getD_eq_getElem?_getD,List.getElem?_eq_getElem p3];exact this.symm
  have hrow:qD2 lasK=qD2 U++(bl (lasK.getD e'.k [])++qD2 W):=by
   conv=>lhs;rw[hU]
   rw[qJ4];rfl
  obtain⟨S3,e3⟩:∃X,X=S2.put l (.cells (qD2 U++(bl (qDN las es e'.k)++qD2 W)) true):=⟨_,rfl⟩;have st:qAL EK 54 (.ptr (some (l,e'.k*256))) (.agg (bl (qDN las es e'.k))) S2=some S3:=by
   rw[e3];refine qDC q1r (qBI _) (qBI (lasK.getD e'.k [])) (by rw[qHJ,hUl]) ?_;rw[←hrow];exact D2.hl
  have g3:∀k,k≠l→S3.h.get k=S2.h.get k:=fun k hk=>by rw[e3,qA3 hk]
  have hset:∀j,(U++qDN las es e'.k::W).getD j []=if j=e'.k then qDN las es e'.k else lasK.getD j []:=fun j=>by
   conv=>rhs;rw[hU]
   simp only[List.getD_eq_getElem?_getD]
   by_cases h1:j<e'.k
   ·rw[if_neg (by omega),List.getElem?_append_left (by omega),List.getElem?_append_left (by omega)]
   ·by_cases h2:j=e'.k
    ·subst h2;rw[if_pos rfl,List.getElem?_append_right (by omega),hUl,Nat.sub_self];rfl
    ·rw[if_neg h2,List.getElem?_append_right (by omega),List.getElem?_append_right (by omega)];obtain⟨x,hx⟩:∃x,j - U.length=x+1:=⟨j - U.length - 1,by omega⟩;rw[hx,List.getElem?_cons_succ,List.getElem?_cons_succ]
  have hlen:(U++qDN las es e'.k::W).length=lasK.length:=by
   conv=>rhs;rw[hU]
   simp
  refine (Trip.runY qL2 (sum:=qA0 [75] (qIZ [(75,[pO d,nI e'.k],R,(.agg (bl (qDN las es e'.k)),S2))])) (qAG (qDB fun w hw=>by
    simp only[List.mem_cons,List.not_mem_nil,or_false] at hw;subst hw;exact hc)) (Eq.mp (vcFr (qIZ [(75,[pO d,nI e'.k],R,(.agg (bl (qDN las es e'.k)),S2))]) d l lasK.length it e'.k (sB e'.r e'.vs.length) (qDN las es e'.k) S1 S2 S3 (fun r=>r=(.normal,frF d it,S3))) ?_)).mono fun r hr=>.inl ⟨seen++[e'.b],U++qDN las es e'.k::W,S3,qNT hI.dk.borns heL,?_,qD8.rawE hr⟩
  ·rw[←eR];exact⟨qTk a1 D1.hm D1.borns hee,qWu DR.hd,ca (qCB ..),q2c p3,qAz st,qA1 (qCD (qWu D2.hd)) trivial,rfl⟩
  ·have hlm:l≠m:=qAu D2.hl D2.hm (by simp);have hdl:d≠l:=fun x=>by
    have h1:=D2.hd;have h2:=D2.hl;rw[x,h2] at h1;have:=congrArg (fun o=>match o with | some (AO.cells (AV.slice _ _ _::_) _)=>true | _=>false) h1;simp[dK] at this;have hne:(qD2 lasK)[0]? = some (qAn ((lasK.getD 0 []).getD 0 0)):=by
     cases hc0:lasK with
     | nil=>rw[hc0] at p3;simp at p3
     | cons x xs =>
      show (bl x++qD2 xs)[0]? = _;rw[List.getElem?_append_left (by rw[qBI];decide),qLR (by decide)];rfl
    injection h1 with h1;injection h1 with h1;rw[h1] at hne;cases hne
   have hi2:it<R.next:=by rw[eR];show it<S1.next+10;omega
   have hitl:it≠l:=fun x=>qAu (S:=S1) D1.hl a1 (by simp) x.symm;refine⟨⟨by rw[g3 d hdl,hlen];exact D2.hd,by rw[e3,qAl,qJ4];rfl,by rw[g3 m (fun x=>hlm x.symm)];exact D2.hm,fun a ha=>?_,D1.keys,D1.borns,by rw[hlen];exact D1.most⟩,?_,by rw[e3];exact t2.put (t2.lt D2.hl),by rw[hlen];exact hI.len,fun j hj=>?_,fun b hb'=>?_,fun k hk hkl=>?_,?_,hI.lo⟩
   ·obtain⟨q1,q2,q3,q4,q5⟩:=D2.row a ha;exact⟨by rw[g3 _ q5];exact q1,q2,by rw[hlen];exact q3,q4,q5⟩
   ·rw[g3 it hitl,g2 it hi2,eR];exact a1
   ·rw[hset j]
    by_cases hjk:j=e'.k
    ·subst hjk;rw[if_pos rfl,if_pos ⟨e',hee,rfl,by simp⟩]
    ·rw[if_neg hjk,hI.val j hj];have:(∃a,a∈es∧a.k=j∧a.b∈seen++[e'.b])↔(∃a,a∈es∧a.k=j∧a.b∈seen):=by
      constructor
      ·rintro ⟨a,h1,h2,h3⟩;rcases List.mem_append.1 h3 with h3 | h3
       ·exact⟨a,h1,h2,h3⟩
       ·simp at h3;have:a=e':=by
         by_cases hae:a=e'
         ·exact hae
         ·exfalso;have hp:=hI.dk.borns;rw[List.nodup_iff_pairwise_ne,List.pairwise_map] at hp;obtain⟨i1,hi1,q1⟩:=List.getElem_of_mem h1;obtain⟨i2,hi2',q2⟩:=List.getElem_of_mem hee;have hne:i1≠i2:=fun x=>hae (by subst x;rw[←q1,←q2]);rcases Nat.lt_or_gt_of_ne hne with hlt | hlt
          ·exact List.pairwise_iff_getElem.1 hp i1 i2 hi1 hi2' hlt (by rw[q1,q2,h3])
          ·exact List.pairwise_iff_getElem.1 hp i2 i1 hi2' hi1 hlt (by rw[q1,q2,h3])
        exact absurd (by rw[←h2,this]) hjk
      ·rintro ⟨a,h1,h2,h3⟩;exact⟨a,h1,h2,List.mem_append_left _ h3⟩
     simp only[this]
   ·rcases List.mem_append.1 hb' with h | h
    ·exact hI.sub b h
    ·simp at h;subst h;exact⟨e',hee,rfl⟩
   ·have h1:k<R.next:=by rw[eR];show k<S1.next+10;have:=hI.lo;omega
    rw[g3 k hkl,g2 k h1,eR];show S1.h.get k=_;rw[g1 k (by have:=hI.lo;omega)];exact hI.fr k hk hkl
   ·have h1:=qNT (seen:=seen) hI.dk.borns heL;have h2:(qDP es seen).length≤es.length:=List.length_filter_le _ _;have h3:=hI.nx;rw[e3,qBz,n2,eR];show S1.next+10+1≤_;omega
theorem evT {d:Nat} {b:Bool}:evA (xFr [(0,pO d),(3,nI 0),(12,.bool b)] 36) (.tmp 12)=some (.bool b):=by kernel_rfl
theorem qRa {i:Nat} (h:∀e,e∈es→e.k≠i):qDN las es i=las.getD i []:=by unfold qDN;rw[qCI h];rfl
theorem qF4:(qCS las es).length=las.length:=by unfold qCS;simp
theorem qMY {j:Nat} (hj:j<las.length):(qCS las es).getD j []=qDN las es j:=by
 unfold qCS;rw[List.getD_eq_getElem?_getD,List.getElem?_map,List.getElem?_range hj];rfl
theorem qTs {S:ASt} {e:qHE} {m c:Nat} (h:S.h.get m=some (.map e c)):qAU EK .clear [102] [.map (some m)] S=some (.tuple [],S.put m (.map [] c)):=by
 have e1:qAU EK .clear [102] [.map (some m)] S=(match (match S.h.get m with | some (.map _ c)=>some (S.put m (.map [] c)) | _=>none) with | some s=>some (.tuple [],s) | none=>none):=by kernel_rfl
 rw[e1,h]
theorem qTe (hD:Disk S0 d l m las es ck) (ht:Tidy S0) (hn:0<las.length) (hE:∀e,e∈es→e.vs.length<1000000) :
  ∃S',qAE Tryz.prog 40 [pO d] S0 (nI 0,S')∧Disk S' d l m (qCS las es) [] ck∧Tidy S'∧S0.next≤S'.next∧∀k,k<S0.next→k≠l→k≠m→S'.h.get k=S0.h.get k:=by
 have hdl:=ht.lt hD.hd;have hll:=ht.lt hD.hl;have hml:=ht.lt hD.hm;have hdm:d≠m:=qAu hD.hd hD.hm (by simp[dK]);have hlm:l≠m:=qAu hD.hl hD.hm (by simp);have hdle:d≠l:=qAu hD.hd hD.hl (fun h=>by
  unfold dK at h;injection h with h;have hne:(qD2 las)[0]? = some (qAn ((las.getD 0 []).getD 0 0)):=by
   cases hc0:las with
   | nil=>rw[hc0] at hn;simp at hn
   | cons x xs =>
    show (bl x++qD2 xs)[0]? = _;rw[List.getElem?_append_left (by rw[qBI];decide),qLR (by decide)];rfl
  rw[←h] at hne;cases hne)
 obtain⟨S2,e2⟩:∃X,X=S0.put d (dK l m las.length):=⟨_,rfl⟩;have g2:∀k,S2.h.get k=S0.h.get k:=fun k=>by
  by_cases e:k=d
  ·subst e;rw[e2,qAl,hD.hd]
  ·rw[e2,qA3 e]
 have n2:S2.next=S0.next:=by rw[e2];rfl
 have t2:Tidy S2:=by rw[e2];exact ht.put hdl
 have D2:Disk S2 d l m las es ck:=hD.keep ht fun k _=>g2 k;obtain⟨S3,e3⟩:∃X,X=S2.add (.miter (some m) ck [] ck):=⟨_,rfl⟩;have n3:S3.next=S0.next+1:=by rw[e3,qBe,n2]
 have g3:∀k,k<S2.next→S3.h.get k=S2.h.get k:=fun k hk=>by rw[e3,qAj (by omega)]
 have D3:Disk S3 d l m las es ck:=D2.keep t2 g3;have rg:qJD EK 102 (.map (some m)) S2=some (pO S2.next,S3):=by
  have e1:qJD EK 102 (.map (some m)) S2=(match S2.h.get m with | some (.map _ c)=>some (pO S2.next,S2.add (.miter (some m) c [] c)) | _=>none):=by kernel_rfl
  rw[e1,D2.hm,e3]
 have I0:FI S0 d l m S2.next ck las es [] las S3:=⟨D3,by rw[e3];exact qBM,by rw[e3];exact t2.add,rfl,(fun j _=>by rw[if_neg (fun⟨e,_,_,h⟩=>by cases h)]),(fun b h=>by cases h),(fun k hk _=>by rw[g3 k (by omega),g2]),(by omega),(by omega)⟩;obtain⟨Sl,eL⟩:∃X,X=ASt.mk (S0.put l (.cells (qD2 (qCS las es)) true)).h (S0.next+40*(es.length+1)):=⟨_,rfl⟩;have gL:∀k,k≠l→Sl.h.get k=S0.h.get k:=fun k hk=>by rw[eL];exact qA3 hk
 have aL:Sl.h.get l=some (.cells (qD2 (qCS las es)) true):=by rw[eL];exact qAl
 have nL:Sl.next=S0.next+40*(es.length+1):=by rw[eL]
 have tL:Tidy Sl:=by rw[eL];exact (ht.put hll).mk (by show S0.next≤_;omega)
 obtain⟨Sf,eF⟩:∃X,X=Sl.put m (.map [] ck):=⟨_,rfl⟩;have gF:∀k,k≠m→Sf.h.get k=Sl.h.get k:=fun k hk=>by rw[eF,qA3 hk]
 have nF:Sf.next=S0.next+40*(es.length+1):=by rw[eF,qBz,nL]
 have tF:Tidy Sf:=by rw[eF];exact tL.put (by omega)
 have fr:∀k,k<S0.next→k≠l→k≠m→Sf.h.get k=S0.h.get k:=fun k _ h1 h2=>by rw[gF k h2,gL k h1]
 refine⟨Sf,?_,⟨by rw[fr d hdl hdle hdm,qF4];exact hD.hd,by rw[gF l hlm];exact aL,by rw[eF,qAl];rfl,(fun e he=>by cases he),List.nodup_nil,List.nodup_nil,by rw[qF4];exact hD.most⟩,tF,by omega,fr⟩;refine qL3.up ?_ (by omega) (fun i a hi hd=>?_) (by simp[nI,qCH])
 ·refine qL3.of_trip qL2 (fn:=Tryz.f40) (c:=cF) (by kernel_rfl) (by kernel_rfl) (by kernel_rfl) ?_;refine Trip.preR qL2 qAB (k:=2) (kf:=[0,3]) (by kernel_rfl) (Q1:=fun q=>q=(.normal,xFr [(0,pO d),(3,nI 0)] 36,S2)) (Eq.mp (vcF1 d l m las.length S0 S2 (fun q=>q=(.normal,xFr [(0,pO d),(3,nI 0)] 36,S2)))
   ⟨qKq hD.hd,q1B,qWu hD.hd,q1G hn,q1D hD.hd,qY3 hD.hd,qY4 hD.hd,qAz (by rw[e2];exact q1u hD.hd),qY3 D2.hd,qY4 D2.hd,rfl⟩) ?_ (fun q h1 h2=>absurd (congrArg Prod.fst h2) h1)
  rintro F' S' hq;cases hq;rw[shF2];refine Trip.seq (R:=qD8 S0.next .normal (xFr [(3,nI 0)] 36) Sf) ?_ (fun fr' st' hq=>?_) (fun e fr' st' hne hq=>absurd hq.1 hne)
  ·rw[shF3];refine Trip.seq (R:=qD8 S0.next .normal (xFr [(0,pO d),(3,nI 0),(12,.bool true)] 36) S2) ((Trip.runY qL2 qAB (Eq.mp (vcF2 d S2 (fun r=>r=(.normal,xFr [(0,pO d),(3,nI 0),(12,.bool true)] 36,S2))) rfl)).mono fun r hr=>qD8.rawE hr) (fun fr' st' hq=>?_) (fun e fr' st' hne hq=>absurd hq.1 hne);refine Trip.less hq.2 (Trip.cond (b:=true) evT ?_);show Trip _ _ _ BG _ _ _;rw[shBG];refine Trip.seq (R:=qD8 S0.next .normal (frF d S2.next) Sl) (Trip.seq (R:=qD8 S0.next .normal (frF d S2.next) S3)
    ((Trip.runY qL2 qAB (Eq.mp (vcF3 d m S2 S3 (fun r=>r=(.normal,frF d S2.next,S3))) ⟨qKq D2.hd,rg,rfl⟩)).mono fun r hr=>qD8.rawE hr) (fun fr' st' hq=>Trip.less hq.2 ?_) (fun e fr' st' hne hq=>absurd hq.1 hne)) (fun fr' st' hq=>?_) (fun e fr' st' hne hq=>absurd hq.1 hne)
   ·refine Trip.block (Trip.loop (fun μ fr st=>∃seen lasK,μ=(qDP es seen).length∧fr=frF d S2.next∧FI S0 d l m S2.next ck las es seen lasK st) ?_ (qDP es []).length ⟨[],las,rfl,rfl,I0⟩);rintro μ F S ⟨seen,lasK,rfl,rfl,hI⟩;refine (qH6 hE hI).mono ?_;rintro ⟨e,F',S'⟩ (⟨seen',lasK',S4,h1,h2,h3,h4⟩ | ⟨h1,h3,h4⟩)
    ·simp only at h3;subst h3;exact⟨_,_,_,h1,h4,seen',lasK',rfl,rfl,h2⟩
    ·simp only at h3;subst h3;refine⟨fun _=>⟨rfl,Wk.trans h4 (Wk.mem (fun k x hx=>?_) ?_)⟩,fun h=>absurd rfl h⟩
     ·by_cases hk:k=l
      ·subst hk;rw[aL] at hx;have:lasK=qCS las es:=by
        apply List.ext_getElem
        ·rw[qF4,hI.len]
        ·intro j h5 h6;have hj:j<las.length:=by rw[←hI.len];exact h5
         have v1:=hI.val j hj;have v2:=qMY (es:=es) hj;rw[List.getD_eq_getElem?_getD,List.getElem?_eq_getElem h5] at v1;rw[List.getD_eq_getElem?_getD,List.getElem?_eq_getElem h6] at v2;simp only[Option.getD_some] at v1 v2;rw[v1,v2]
         by_cases hex:∃a,a∈es∧a.k=j
         ·obtain⟨a,ha,hak⟩:=hex;have:a.b∈seen:=by
           by_cases hb:a.b∈seen
           ·exact hb
           ·have:=mem_left.2 ⟨ha,hb⟩;rw[h1] at this;cases this
          rw[if_pos ⟨a,ha,hak,this⟩]
         ·rw[if_neg (fun⟨a,ha,hak,_⟩=>hex ⟨a,ha,hak⟩),qRa fun a ha hak=>hex ⟨a,ha,hak⟩]
       rw[←this] at hx;rw[hI.dk.hl];exact hx
      ·rw[gL k hk] at hx;rw[hI.fr k (ht.lt hx) hk];exact hx
     ·have:=hI.nx;rw[nL];omega
   ·refine Trip.less hq.2 ((Trip.runY qL2 qAB (Eq.mp (q1a d S2.next m Sl Sf (fun r=>r=(.normal,xFr [(3,nI 0)] 36,Sf))) ⟨qKq (l:=l) (n:=las.length) (by rw[gL d hdle];exact hD.hd),by rw[eF];exact qTs (by rw[gL m (fun x=>hlm x.symm)];exact hD.hm),rfl⟩)).mono fun r hr=>qD8.rawE hr)
  ·refine Trip.less hq.2 ((Trip.runY qL2 qAB (Eq.mp (vcFz Sf (fun q=>q=(.ret,some (nI 0,Sf)))) rfl)).mono fun r hr=>?_);exact⟨.inr (congrArg Prod.fst hr),congrArg Prod.snd hr⟩
 ·by_cases h1:i=m
  ·subst h1;rw[eF,qAl] at hi;cases hi;exact .inr ⟨.inr ⟨_,hD.hm,by simp⟩,fun e he=>by cases he⟩
  ·by_cases h2:i=l
   ·subst h2;rw[gF i h1,aL] at hi;cases hi;refine .inr ⟨.inr ⟨_,hD.hl,by simp⟩,qAk.2 fun v hv=>?_⟩;unfold qD2 at hv;obtain⟨x,_,hx⟩:=List.mem_flatMap.1 hv;unfold bl at hx;obtain⟨y,_,rfl⟩:=List.mem_map.1 hx;trivial
   ·rw[gF i h1,gL i h2] at hi;exact .inl hi
end
end Go.Proofs.YtiafochainjglaaGreatDoor.dsk
end
namespace Go.Proofs.YtiafochainjglaaGreatDoor.drp
set_option linter.unusedVariables false
section
open Go Go.Ax
theorem VR.refs {k:Nat} {ι:Ren} (hd:∀i L,ι i=some L→i<k) {v:AV} {x:Value} (h:VR ι v x):qAP k v:=by
 have hm:∀{cs:List AV} {cs':Array Value},cs.length=cs'.size→(∀(i:Nat) v v',cs[i]? = some v→cs'[i]? = some v'→qAP k v)→∀c,c∈cs→qAP k c:=fun {cs cs'} hs ih c hc=>by
  obtain⟨i,hi,rfl⟩:=List.mem_iff_getElem.1 hc;exact ih i _ (cs'[i]'(by omega)) (List.getElem?_eq_getElem hi) (Array.getElem?_eq_getElem (by omega))
 induction h with
 | ptr i o L h=>simp only[qAP];exact hd _ _ h
 | slice i o l c' L c h hcap hl=>simp only[qAP];exact hd _ _ h
 | clos f cs cs' hs h ih=>simp only[qAP];exact hm hs ih
 | bound f fs cs fs' cs' hs hf h g ih ig=>simp only[qAP];exact⟨hm hf ig,hm hs ih⟩
 | yield i L h=>simp only[qAP];exact hd _ _ h
 | iface t v v' h ih=>simp only[qAP];exact ih
 | agg cs cs' hs hcell h ih=>simp only[qAP];exact hm hs ih
 | tuple cs cs' hs h ih=>simp only[qAP];exact hm hs ih
 | map i L h=>simp only[qAP];exact hd _ _ h
 | bool b=>simp[qAP]
 | int k n=>simp[qAP]
 | str l s h=>simp[qAP]
 | ptrN=>simp[qAP]
 | sliceN=>simp[qAP]
 | nilFunc=>simp[qAP]
 | nilIface=>simp[qAP]
 | mapN=>simp[qAP]
 | slice0 a c=>simp[qAP]
 | gptr g o=>simp[qAP]
 | any v=>simp[qAP]
theorem OR.cutD {k:Nat} {ι κ:Ren} (hd:∀i L,ι i=some L→i<k) {a:AO} {L L':Ax.Loc} {o o':Obj} (h:OR ι L a o) (h':OR κ L' a o'):OR (qIx k κ) L' a o':=by
 have hc:∀{i D},κ i=some D→i<k→qIx k κ i=some D:=fun {i D} hi hk=>by simp[qIx,hk,hi]
 cases a with
 | cells cs rw =>
  obtain⟨c,e,lo,hi,q1,q2,q3,q4,q5,q6⟩:=h;obtain⟨c',e',lo',hi',p1,p2,p3,p4,p5,p6⟩:=h';exact⟨c',e',lo',hi',p1,p2,p3,p4,fun j v v' hv hv'=>(p5 j v v' hv hv').cut (by
   have hj:=(List.getElem?_eq_some_iff.1 hv).1;exact VR.refs hd (q5 j v _ hv (Array.getElem?_eq_getElem (by omega)))),p6⟩
 | dead=>trivial
 | loop st pe tm ps ak bo de =>
  obtain⟨r,h1,h2,h3,h4,h5,h6,h7,D,h8,h9⟩:=h;obtain⟨r',p1,p2,p3,p4,p5,p6,p7,D',p8,p9⟩:=h';exact⟨r',p1,p2,p3,⟨p4.1,fun t=>(p4.2 t).cut (VR.refs hd (h4.2 t))⟩,p5,p6,p7,D',hc p8 (hd _ _ h8),p9⟩
 | defd=>exact h'
 | map es clock =>
  obtain⟨es',h1,h2,h3⟩:=h;obtain⟨es'',p1,p2,p3⟩:=h';exact⟨es'',p1,p2,fun i x e ha hb=>by
   have hi:=(List.getElem?_eq_some_iff.1 ha).1;obtain⟨r1,r2,r3⟩:=h3 i x _ ha (Array.getElem?_eq_getElem (by omega));exact⟨(p3 i x e ha hb).1.cut (VR.refs hd r1),(p3 i x e ha hb).2.1.cut (VR.refs hd r2),(p3 i x e ha hb).2.2⟩⟩
 | siter s pos=>exact h'
 | miter m since seen last =>
  obtain⟨h1,m',h2,h3⟩:=h;obtain⟨p1,m'',p2,p3⟩:=h';refine⟨p1,m'',p2,?_⟩;cases m with
  | none=>exact p3
  | some i =>
   obtain⟨D,h4,h5⟩:=h3;obtain⟨D',p4,p5⟩:=p3;exact⟨D',hc p4 (hd _ _ h4),p5⟩
theorem qAE.drop {P:Program} {f:Nat} {args:List AV} {S S':ASt} {v:AV} (h:qAE P f args S (v,S')) (hk:∀k,k<S.next→S'.h.get k=S.h.get k) (hv:qAP S.next v):qAE P f args S (v,S):=fun B w0 ι w args' hsr hva=>by
 obtain⟨he,hc⟩:=h B w0 ι w args' hsr hva;refine⟨he,hc.mono fun e w' ⟨v',κ,h1,h2,h3,h4⟩=>?_⟩;have hin:∀{i a},S.h.get i=some a→i<S.next∧S'.h.get i=some a:=fun {i a} hi=>⟨hsr.hdom i a hi,by rw[hk i (hsr.hdom i a hi)];exact hi⟩;have hcut:∀{i L},qIx S.next κ i=some L→i<S.next∧κ i=some L:=fun {i L} hi=>by
  unfold qIx at hi
  by_cases e:i<S.next
  ·simp only[e,if_true] at hi;exact⟨e,hi⟩
  ·simp[e] at hi
 have hcut':∀{i L},i<S.next→κ i=some L→qIx S.next κ i=some L:=fun {i L} hi hL=>by simp[qIx,hi,hL]
 refine⟨v',qIx S.next κ,h1,fun i L hi=>hcut' (hsr.dom i L hi) (h2 i L hi),⟨h3.below,h3.base,fun i a hi hne=>?_,fun i a L hi ho hL=>?_,fun i L hi=>(hcut hi).1,hsr.hdom,fun i a L hi hne ho hL=>h3.ro i a L (hin hi).2 hne ho (hcut hL).2,fun i hi=>⟨(hsr.res i hi).1,?_⟩,h3.glob⟩,h4.cut hv⟩
 ·obtain⟨L0,o0,a1,a2,a3⟩:=hsr.obj i a hi hne;obtain⟨L1,o1,b1,b2,b3⟩:=h3.obj i a (hin hi).2 hne;exact⟨L1,o1,hcut' (hin hi).1 b1,b2,OR.cutD hsr.dom a3 b3⟩
 ·obtain⟨n1,n2⟩:=h3.own i a L (hin hi).2 ho (hcut hL).2;exact⟨n1,fun j a' L' hj hne hL' hb=>n2 j a' L' (hin hj).2 hne (hcut hL').2 hb⟩
 ·have:=(h3.res i hi).2;unfold qIx;split
  ·exact this
  ·rfl
end
section
open Go Go.Ax Go.Proofs
structure Ov (S X:ASt) (l:List (Nat×AO)):Prop where
 next:S.next≤X.next
 loc:∀(i:Nat) (p:Nat×AO),l[i]? = some p→S.next≤p.1∧X.h.get p.1=some p.2
 dist:∀(i j:Nat) (p r:Nat×AO),l[i]? = some p→l[j]? = some r→p.1=r.1→i=j
 old:∀k,k<S.next→X.h.get k=S.h.get k
 tidy:Tidy X
theorem Ov.nil {S:ASt} (h:Tidy S):Ov S S []:=⟨Nat.le_refl _,fun i a hi=>by simp at hi,fun i j p r hi=>by simp at hi,fun k _=>rfl,h⟩
theorem qFe {l:List (Nat×AO)} {x p:Nat×AO} {i:Nat} (h:(l++[x])[i]? = some p):(i<l.length∧l[i]? = some p)∨(i=l.length∧p=x):=by
 rcases Nat.lt_or_ge i l.length with hl | hl
 ·rw[List.getElem?_append_left hl] at h;exact .inl ⟨hl,h⟩
 ·rw[List.getElem?_append_right hl] at h;rcases Nat.eq_zero_or_pos (i - l.length) with e | e
  ·rw[e] at h;simp only[List.getElem?_cons_zero,qz1] at h;exact .inr ⟨by omega,h.symm⟩
  ·rw[List.getElem?_eq_none (by simp only[List.length_singleton];omega)] at h;cases h
theorem Ov.lt {S X:ASt} {l:List (Nat×AO)} (h:Ov S X l) {i:Nat} {p:Nat×AO} (hi:l[i]? = some p):p.1<X.next:=h.tidy.lt (h.loc i p hi).2
theorem Ov.add {S X:ASt} {l:List (Nat×AO)} (h:Ov S X l) (a:AO):∃X',X'=X.add a∧Ov S X' (l++[(X.next,a)]):=by
 refine⟨_,rfl,by rw[qBe];have:=h.next;omega,fun i p hi=>?_,fun i j p r hi hj e=>?_,fun k hk=>by rw[qAj (by have:=h.next;omega)];exact h.old k hk,h.tidy.add⟩
 ·rcases qFe hi with⟨_,hp⟩ | ⟨_,rfl⟩
  ·have:=h.lt hp;rw[qAj (by omega)];exact h.loc i p hp
  ·exact⟨h.next,qBM⟩
 ·rcases qFe hi with⟨_,hp⟩ | ⟨hil,rfl⟩
  ·rcases qFe hj with⟨_,hr⟩ | ⟨hjl,rfl⟩
   ·exact h.dist i j p r hp hr e
   ·have:=h.lt hp;simp only at e;omega
  ·rcases qFe hj with⟨_,hr⟩ | ⟨hjl,rfl⟩
   ·have:=h.lt hr;simp only at e;omega
   ·omega
theorem Ov.put {S X:ASt} {l:List (Nat×AO)} (h:Ov S X l) (i k:Nat) (a b:AO) (hi:l[i]? = some (k,b)):Ov S (X.put k a) (l.set i (k,a)):=by
 have hlen:i<l.length:=(List.getElem?_eq_some_iff.1 hi).1;have key:∀(j:Nat) (p:Nat×AO),(l.set i (k,a))[j]? = some p→(j=i∧p=(k,a))∨(j≠i∧l[j]? = some p):=fun j p hj=>by
  by_cases e:j=i
  ·subst e;rw[List.getElem?_set_self hlen] at hj;exact .inl ⟨rfl,by simpa using hj.symm⟩
  ·rw[List.getElem?_set_ne (fun x=>e x.symm)] at hj;exact .inr ⟨e,hj⟩
 refine⟨by rw[qBz];exact h.next,fun j p hj=>?_,fun j j' p r hj hj' e=>?_,fun k' hk=>by rw[qA3 (by have:=(h.loc i _ hi).1;simp only at this;omega)];exact h.old k' hk,h.tidy.put (h.lt hi)⟩
 ·rcases key j p hj with⟨_,rfl⟩ | ⟨hne,hp⟩
  ·exact⟨(h.loc i _ hi).1,qAl⟩
  ·rw[qA3 (fun x=>hne (h.dist j i p _ hp hi x))];exact h.loc j p hp
 ·rcases key j p hj with⟨ej,rfl⟩ | ⟨hne,hp⟩
  ·rcases key j' r hj' with⟨ej',rfl⟩ | ⟨hne',hr⟩
   ·omega
   ·exact absurd (h.dist j' i r _ hr hi e.symm) hne'
  ·rcases key j' r hj' with⟨ej',rfl⟩ | ⟨hne',hr⟩
   ·exact absurd (h.dist j i p _ hp hi e) hne
   ·exact h.dist j j' p r hp hr e
theorem Ov.bump {S X:ASt} {l:List (Nat×AO)} (h:Ov S X l) (n:Nat):Ov S (ASt.mk X.h (X.next+n)) l :=
 ⟨Nat.le_trans h.next (Nat.le_add_right _ _),h.loc,h.dist,h.old,h.tidy.mk (Nat.le_add_right _ _)⟩
theorem Ov.alloc {E:Env} {t:TypeId} {S X X':ASt} {l:List (Nat×AO)} {a:AO} (h:Ov S X l) (ha:∀Y,qAY E t Y=some (.ptr (some (Y.next,0)),Y.add a)) (e:X'=X.add a):qAY E t X=some (.ptr (some (X.next,0)),X'):=by
 rw[ha,e]
theorem Ov.al {E:Env} {t:TypeId} {S X X':ASt} {l:List (Nat×AO)} {a:AO} (h:Ov S X l) (e:X'=X.add a) (ha:∀Y,qAY E t Y=some (.ptr (some (Y.next,0)),Y.add a):=by intro _;kernel_rfl):qAY E t X=some (.ptr (some (X.next,0)),X'):=h.alloc ha e
theorem Ov.ld1 {E:Env} {t:TypeId} {S X:ASt} {l:List (Nat×AO)} {i k o:Nat} {cs:List AV} {v:AV} (h:Ov S X l) (hi:l[i]? = some (k,.cells cs true):=by kernel_rfl) (hT:qLO E t=true:=by kernel_rfl) (hv:cs[o]? = some v:=by kernel_rfl):qAQ E t (.ptr (some (k,o))) X=some (v,X):=qAZ hT (h.loc _ _ hi).2 hv
theorem Ov.ldA {E:Env} {t:TypeId} {S X:ASt} {l:List (Nat×AO)} {i k o z:Nat} {cs vs:List AV} (h:Ov S X l) (hi:l[i]? = some (k,.cells cs true):=by kernel_rfl) (hT:q0h E t=some z:=by kernel_rfl) (hv:qAy cs o z=some vs:=by kernel_rfl):qAQ E t (.ptr (some (k,o))) X=some (.agg vs,X):=qAp hT (h.loc _ _ hi).2 hv
theorem Ov.st1 {E:Env} {t:TypeId} {S X:ASt} {l:List (Nat×AO)} {i k o:Nat} {v:AV} (cs:List AV) (h:Ov S X l) (hi:l[i]? = some (k,.cells cs true):=by kernel_rfl) (hT:qZ1 E t=true:=by kernel_rfl) (ho:Nat.blt o cs.length=true:=by kernel_rfl) (hv:v.isCell=true:=by kernel_rfl) :
  ∃X',Option.map (fun s=>(qAC,s)) (qAL E t (.ptr (some (k,o))) v X)=some (.tuple [],X')∧Ov S X' (l.set i (k,.cells (cs.set o v) true)) :=
 ⟨_,qAz (qBk hT (h.loc _ _ hi).2 (by rw[Nat.blt_eq] at ho;exact ho) hv),h.put i k _ _ hi⟩
theorem Ov.stA {E:Env} {t:TypeId} {S X:ASt} {l:List (Nat×AO)} {i k o z:Nat} {vs:List AV} (A B C:List AV) (h:Ov S X l) (hi:l[i]? = some (k,.cells (A++(B++C)) true):=by kernel_rfl) (hT:qYZ E t=some z:=by kernel_rfl) (hA:A.length=o:=by kernel_rfl) (hB:B.length=z:=by kernel_rfl) (hv:vs.length=z:=by kernel_rfl) :
  ∃X',Option.map (fun s=>(qAC,s)) (qAL E t (.ptr (some (k,o))) (.agg vs) X)=some (.tuple [],X')∧Ov S X' (l.set i (k,.cells (A++(vs++C)) true)) :=
 ⟨_,qAz (qDC hT hv hB hA (h.loc _ _ hi).2),h.put i k _ _ hi⟩
theorem qA9 {E:Env} {F:AFr} {S:ASt}:qHA E F S []=some []:=rfl
theorem qAb {E:Env} {F:AFr} {S:ASt} {a:Nat} {t:TypeId} {x v:AV} {rs:List ResultVar} {vs:List AV} (hx:(F.m.get a).getD qAC=x) (h:qAQ E t x S=some (v,S)) (hr:qHA E F S rs=some vs):qHA E F S (.cell a t::rs)=some (v::vs):=by
 simp only[qHA,hx,h,hr]
theorem qAV {E:Env} {F:AFr} {S:ASt} {a:Nat} {v:AV} {rs:List ResultVar} {vs:List AV} (h:(F.m.get a).getD qAC=v) (hr:qHA E F S rs=some vs):qHA E F S (.tmp a::rs)=some (v::vs):=by
 simp only[qHA,h,hr]
theorem qBY {E:Env} {fn:Func} {F:AFr} {S:ASt} {rs:List ResultVar} {vs:List AV} {v:AV} (hr:fn.results.toList=rs) (hd:F.defs=[]) (h:qHA E F S rs=some vs) (hv:qUd vs=v):leaveA E fn F S=some (v,S):=by
 unfold leaveA;rw[hd,hr];simp only[qD4,h,hv]
def Left (E:Env) (fn:Func) (N:Nat) (S:ASt) (v:AV) (q:Exit×AFr×ASt):Prop :=
 (q.1=.normal∨q.1=.ret)∧q.2.1.n=N∧leaveA E fn q.2.1 q.2.2=some (v,q.2.2)∧∀k,k<S.next→q.2.2.h.get k=S.h.get k
theorem Left.of {E:Env} {fn:Func} {N:Nat} {S X:ASt} {l:List (Nat×AO)} {v:AV} {F:AFr} {rs:List ResultVar} {vs:List AV} (h:Ov S X l) (hN:F.n=N) (hr:fn.results.toList=rs) (hd:F.defs=[]) (hrs:qHA E F X rs=some vs) (hv:qUd vs=v):Left E fn N S v (.ret,F,X) :=
 ⟨.inr rfl,hN,qBY hr hd hrs hv,h.old⟩
theorem qAE.exDrop {P:Program} {E:Env} (hE:E.Ok P) {sum:CallT} (hs:CallsOK P sum) {f:Nat} {fn:Func} {c:Code} (hfn:E.fn.get f=some fn) (hc:fn.body=some c) {args:List AV} (hb:Nat.ble args.length fn.ntmps=true) {N:Nat} (hN:fn.ntmps=N)
  {st:ASt} (hsum:sum f args st=none) {v:AV} {kf:List Nat} (hk:qQD kf fn=true) (hv:qAP st.next v) {fls:List (Nat×Fl)} {rf fl:Fl} {n:Nat} {y:An}
  (h:((TM E sum fls rf n).ex fl none c {m:=qAM args 0 .e,n:=N,defs:=[]} st).allY (fun r=>Left E fn N st v (qAx kf r)) y):qAE P f args st (v,st):=by
 subst hN;obtain⟨⟨e,fr',st'⟩,h1,q1,q2,q3,q5⟩:=qSO (Tr.allY_all _ y h);have q2:fr'.n=fn.ntmps:=q2;have q4:leaveA E fn (canF kf fr') st'=some (v,st'):=q3;clear q3;rw[qHm fun r hr=>by rw[q2];exact qNB hk r hr] at q4;have hcall:(M E (drawA E) sum (n+1)).call f args st=some (v,st'):=by
  show (match sum f args st with | some r=>some r | none=>qFy E (M E (drawA E) sum n).ex f args st)=some (v,st');rw[hsum];unfold qFy;simp only[hfn,hc,hb,cond_true,h1];rcases q1 with q1 | q1<;>(have q1:e=_:=q1;subst q1;exact q4)
 exact qAE.drop (fun B w0 ι w args' hsr hv=>(qSQ hE (qCa hE) hs (n+1)).call B w0 f args st (v,st') hcall ι w args' hsr hv) q5 hv
theorem exD {P:Program} {E:Env} (fn:Func) (c:Code) (N:Nat) (kf:List Nat) (hE:E.Ok P) {sum:CallT} (hs:CallsOK P sum) {f:Nat} {args:List AV} {st:ASt} {v:AV} (hv:qAP st.next v) {fls:List (Nat×Fl)} {rf fl:Fl} {n:Nat} {y:An}
  (h:((TM E sum fls rf n).ex fl none c {m:=qAM args 0 .e,n:=N,defs:=[]} st).allY (fun r=>Left E fn N st v (qAx kf r)) y) (a:E.fn.get f=some fn:=by kernel_rfl) (b:fn.body=some c:=by kernel_rfl) (d:Nat.ble args.length fn.ntmps=true:=by kernel_rfl) (e:fn.ntmps=N:=by kernel_rfl) (g:sum f args st=none:=by rfl) (k:qQD kf fn=true:=by kernel_rfl):qAE P f args st (v,st) :=
 qAE.exDrop hE hs a b d e g k hv h
end
section
open Go Go.Ax
theorem qGw.drop {P:Program} {B:Prot} {w0:World} {ι:Go.Ax.Ren} {S S':ASt} {v:AV} {w w':World} {e:Ending} (hsr:SR B w0 ι S w) (hp:qGw B w0 ι (v,S') e w') (hk:∀k,k<S.next→S'.h.get k=S.h.get k) (hv:qAP S.next v):qGw B w0 ι (v,S) e w':=by
 obtain⟨v',κ,h1,h2,h3,h4⟩:=hp;have hin:∀{i a},S.h.get i=some a→i<S.next∧S'.h.get i=some a:=fun {i a} hi=>⟨hsr.hdom i a hi,by rw[hk i (hsr.hdom i a hi)];exact hi⟩;have hcut:∀{i L},qIx S.next κ i=some L→i<S.next∧κ i=some L:=fun {i L} hi=>by
  unfold qIx at hi
  by_cases e:i<S.next
  ·simp only[e,if_true] at hi;exact⟨e,hi⟩
  ·simp[e] at hi
 have hcut':∀{i L},i<S.next→κ i=some L→qIx S.next κ i=some L:=fun {i L} hi hL=>by simp[qIx,hi,hL]
 refine⟨v',qIx S.next κ,h1,fun i L hi=>hcut' (hsr.dom i L hi) (h2 i L hi),⟨h3.below,h3.base,fun i a hi hne=>?_,fun i a L hi ho hL=>?_,fun i L hi=>(hcut hi).1,hsr.hdom,fun i a L hi hne ho hL=>h3.ro i a L (hin hi).2 hne ho (hcut hL).2,fun i hi=>⟨(hsr.res i hi).1,?_⟩,h3.glob⟩,h4.cut hv⟩
 ·obtain⟨L0,o0,a1,a2,a3⟩:=hsr.obj i a hi hne;obtain⟨L1,o1,b1,b2,b3⟩:=h3.obj i a (hin hi).2 hne;exact⟨L1,o1,hcut' (hin hi).1 b1,b2,OR.cutD hsr.dom a3 b3⟩
 ·obtain⟨n1,n2⟩:=h3.own i a L (hin hi).2 ho (hcut hL).2;exact⟨n1,fun j a' L' hj hne hL' hb=>n2 j a' L' (hin hj).2 hne (hcut hL').2 hb⟩
 ·have:=(h3.res i hi).2;unfold qIx;split
  ·exact this
  ·rfl
theorem qAE.tripDrop {P:Program} {E:Env} (hE:E.Ok P) {f:Nat} {fn:Func} {c:Code} (hfn:E.fn.get f=some fn) (hc:fn.body=some c) {args:List AV} (hb:Nat.ble args.length fn.ntmps=true) {N:Nat} (hN:fn.ntmps=N) {st:ASt} {v:AV} (hv:qAP st.next v) (hv2:qCH (Go.Ax.Good st) v)
  (h:Trip P st.next none c {m:=qAM args 0 .e,n:=N,defs:=[]} st (fun r=>Left E fn N st v r)):qAE P f args st (v,st):=by
 subst hN;refine qL3.up (fun B w0 ι w args' hB hsr hva=>?_) (Nat.le_refl _) (fun i a hi _=>.inl hi) hv2;obtain⟨h1,h2⟩:=Trip.call hE hfn hc hb (R:=fun q=>q.1=v∧∀k,k<st.next→q.2.h.get k=st.h.get k) (h.mono fun r ⟨q1,q2,q3,q4⟩=>⟨q1,_,q3,rfl,q4⟩) B hB w0 ι w args' hsr hva;refine⟨h1,h2.mono fun e w' ⟨q,⟨hq1,hq2⟩,hp⟩=>?_⟩;obtain⟨v',S'⟩:=q;simp only at hq1 hq2;subst hq1;exact qGw.drop (P:=P) hsr hp hq2 hv
theorem Trip.ofR {P:Program} {kb:Nat} {ro:Option Nat} {E:Env} (hE:E.Ok P) {sum:CallT} (hs:CallsOK P sum) {c:Code} {n:Nat} {fls:List (Nat×Fl)} {rf fl:Fl} {fr:AFr} {st:ASt} {y:An} {kf:List Nat} {Q1 Q:Exit×AFr×ASt→Prop}
  (h:((TM E sum fls rf n).ex fl ro c fr st).allY (fun r=>Q1 (qAx kf r)) y) (hq:∀e F S,Q1 (e,F,S)→Q (e,F,S)):Trip P kb ro c fr st Q :=
 Trip.weak (Trip.runY hE hs h) fun r hr=>⟨canF kf r.2.1,r.2.2,Wk.canF _ _ _ _,hq _ _ _ hr⟩
end
end Go.Proofs.YtiafochainjglaaGreatDoor.drp
