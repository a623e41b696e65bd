/-
  OWN WORK, A PART: an abstract machine for the program's text that the kernel can run, and the proof that it is sound: what it answers is what the program answers; contracts of functions by it. No condition.
-/
import Derived.Shelf.SlMaps.Clone
import Derived.Test.YtiafochainjglaaGreatDoorWaF
import Derived.Test.YtiafochainjglaaGreatDoorMtA
import Derived.Test.YtiafochainjglaaGreatDoorMtH
import Derived.KernelRfl
import Derived.Test.YtiafochainjglaaGreatDoorKaK
namespace Go.Proofs.YtiafochainjglaaGreatDoor.drp
open Go Go.Ax Go.Proofs
set_option linter.unusedVariables false
namespace cp
open dsk (EK qL2 pO qD2 En qCo qTl qDo qDN Disk dK sB qHJ)
section
open Go.Shelf Go.RowKit
end
section
variable {base d l m n c:Nat} {S0 S:ASt} {las:List (List Nat)} {es:List En}
theorem bl_d {D:Nat→Prop} (b:List Nat):qBp D (bl b):=qAk.2 fun v hv=>by
 unfold bl at hv;obtain⟨y,_,rfl⟩:=List.mem_map.1 hv;simp[qAn,qCH]
theorem qZM {D:Nat→Prop} (L:List (List Nat)):qBp D (qD2 L):=qAk.2 fun v hv=>by
 unfold qD2 at hv;obtain⟨b,_,hb⟩:=List.mem_flatMap.1 hv;exact qAk.1 (bl_d b) v hb
end
end cp
namespace lw
noncomputable def fnsW:List (Nat×Func):=[(5,Tryz.f5),(14,Tryz.f14)]
noncomputable def EWl:Env:=envEx Tryz.prog [0,3,4,5,23,24,25,27,28,29,30,31,32,33,34,35,36,37,43,51,54,55,56,60,103,104,111] fnsW []
noncomputable abbrev qQo (a:Nat):=AV.int .i64 (.ofNat a)
theorem vcG1 (z:Int) (S:ASt) (Q:AV×ASt→Prop) :
 Vq ((TM EWl qAa [(14,⟨[6,9],[],[],[]⟩)] fl0 60).call 14 [.int .i64 z] S) Q (as_ S (qAD EWl .lss 3 (.tmp 5) (.const (.int .i64 1)) (.int .i64 z) (qQo 1)) (.bool true) (aq (Q (.ptr none,S)))):=vq (by kernel_rfl)
theorem vcG2 (z:Int) (S:ASt) (Q:AV×ASt→Prop) :
 Vq ((TM EWl qAa [(14,⟨[6,9],[],[],[]⟩)] fl0 60).call 14 [.int .i64 z] S) Q (as_ S (qAD EWl .lss 3 (.tmp 5) (.const (.int .i64 1)) (.int .i64 z) (qQo 1)) (.bool false) (as_ S (qAD EWl .gtr 3 (.tmp 8) (.const (.int .i64 64)) (.int .i64 z) (qQo 64)) (.bool true) (aq (Q (.ptr none,S))))):=vq (by kernel_rfl)
end lw
namespace lw
open cd9 (qCd qAi qAc qA8)
open cp sh my fm
theorem EWok:Env.Ok Tryz.prog EWl:=envEx_ok (xs:=[]) ⟨⟨Tryz.func5,Tryz.call5⟩,⟨Tryz.func14,Tryz.call14⟩,trivial⟩ trivial (by kernel_rfl)
def s0:TypeDesc→AV→Bool
 | .bool,.bool _=>true
 | .int _,.int _ _=>true
 | _,_=>false
def sLs (d:TypeDesc):Nat→List AV→Bool
 | 0,_=>true
 | n+1,x::xs=>s0 d x && sLs d n xs
 | _+1,_=>false
noncomputable def sFs (E:Env) (eq:TypeId→AV→Bool) (xs:List AV):List (TypeId×Nat)→Bool
 | []=>true
 | f::fs=>match qKS E f.1 xs f.2 with
  | some a=>eq f.1 a && sFs E eq xs fs
  | none=>false
noncomputable def sEq (E:Env):Nat→TypeId→AV→Bool
 | 0=>fun _ _=>false
 | d+1=>fun t x =>
  match E.ty.get t with
  | none=>false
  | some ti =>
   match x with
   | .agg xs=>(match ti.desc with
    | .struct _=>bif ti.held then false else sFs E (sEq E d) xs ti.fl
    | .array n e=>(match E.ty.get e with
     | some ei=>bif qC0 ei.desc then false else bif Nat.beq ei.size 1 then sLs ei.desc n xs else false
     | none=>false)
    | _=>false)
   | x=>s0 ti.desc x
theorem qZK {d:TypeDesc} {x:AV} (h:s0 d x=true):qMb d x x=some true:=by
 cases d<;>cases x<;>simp only[s0,Bool.false_eq_true] at h
 ·rename_i b;cases b<;>rfl
 ·rename_i k z;simp only[qMb];rw[show kEq k k=true by cases k<;>rfl,qTj];rfl
theorem qUa {d:TypeDesc} {e:TypeId}:∀(n:Nat) (xs:List AV),sLs d n xs=true→qLL (fun _ x y=>qMb d x y) e n xs xs=some true
 | 0,xs,h=>rfl
 | n+1,[],h=>by simp[sLs] at h
 | n+1,x::xs,h=>by
  simp only[sLs,Bool.and_eq_true] at h;simp only[qLL,qZK h.1];exact qUa n xs h.2
theorem qUb {E:Env} {eq:TypeId→AV→Bool} {eq2:TypeId→AV→AV→Option Bool} (he:∀t x,eq t x=true→eq2 t x x=some true) (xs:List AV):∀fs,sFs E eq xs fs=true→qXR E eq2 xs xs fs=some true
 | [],h=>rfl
 | f::fs,h=>by
  simp only[sFs] at h;simp only[qXR]
  split at h
  ·rename_i a ha;rw[Bool.and_eq_true] at h;rw[ha];simp only[he _ _ h.1];exact qUb he xs fs h.2
  ·cases h
theorem qPr {E:Env}:∀(d:Nat) (t:TypeId) (x:AV),sEq E d t x=true→aEq E d t x x=some true
 | 0,t,x,h=>by simp[sEq] at h
 | d+1,t,x,h=>by
  unfold sEq at h;unfold aEq;cases hti:E.ty.get t with
  | none=>rw[hti] at h;cases h
  | some ti =>
  rw[hti] at h;cases x with
  | agg xs =>
   simp only at h ⊢;cases hd:ti.desc with
   | struct fs =>
    rw[hd] at h;simp only at h ⊢;cases hh:ti.held
    ·rw[hh,cond_false] at h;rw[cond_false];exact qUb (qPr d) xs _ h
    ·rw[hh,cond_true] at h;cases h
   | array n e =>
    rw[hd] at h;simp only at h ⊢;cases hei:E.ty.get e with
    | none=>rw[hei] at h;cases h
    | some ei =>
     rw[hei] at h;simp only at h ⊢;cases ha:qC0 ei.desc
     ·rw[ha,cond_false] at h;rw[cond_false];cases hb:Nat.beq ei.size 1
      ·rw[hb,cond_false] at h;cases h
      ·rw[hb,cond_true] at h;rw[cond_true];exact qUa n xs h
     ·rw[ha,cond_true] at h;cases h
   | _=>rw[hd] at h;cases h
  | _=>exact qZK h
section
variable {Y:ASt} {a b:Nat} {z:Int} {x y:Operand}
theorem qZg:still Y (qAD EWl .lss 3 x y (.int .i64 z) (.int .i64 (.ofNat 1)))=some (.bool (decide (z<1)),Y):=by
 have e:qAD EWl .lss 3 x y (.int .i64 z) (.int .i64 (.ofNat 1))=some (.bool (ltF z (.ofNat 1))):=by kernel_rfl
 rw[qDH] at e;exact qAF e
theorem q2i:still Y (qAD EWl .gtr 3 x y (.int .i64 z) (.int .i64 (.ofNat 64)))=some (.bool (decide ((64:Int)<z)),Y):=by
 have e:qAD EWl .gtr 3 x y (.int .i64 z) (.int .i64 (.ofNat 64))=some (.bool (ltF (.ofNat 64) z)):=by kernel_rfl
 rw[qDH] at e;exact qAF e
end
theorem qFk {A B C:List AV} {o n:Nat} (h1:A.length=o) (h2:B.length=n):qAy (A++(B++C)) o n=some B:=by
 unfold qAy;have e:((A++(B++C)).drop o).take n=B:=by
  rw[←h1,List.drop_left,←h2,List.take_left]
 rw[e];show (bif Nat.beq B.length n then some B else none)=some B;rw[h2,show Nat.beq n n=true from Nat.beq_refl n];rfl
theorem qC9 (S:ASt):qAE Tryz.prog 9 [] S (.bool true,S):=qAE.of (qHZ (l:=[⟨9,[],.bool true⟩]) ⟨metaNil.memo9,trivial⟩) (by kernel_rfl)
theorem qBU {z:Int} (h:z<1∨64<z) (S:ASt):qAE Tryz.prog 14 [.int .i64 z] S (.ptr none,S):=by
 by_cases h1:z<1
 ·exact qAE.of_tm EWok qAB (Eq.mp (vcG1 z S (fun q=>q=(.ptr none,S))) ⟨by rw[qZg,decide_eq_true h1],rfl⟩)
 ·exact qAE.of_tm EWok qAB (Eq.mp (vcG2 z S (fun q=>q=(.ptr none,S))) ⟨by rw[qZg,decide_eq_false h1],by rw[q2i,decide_eq_true (by omega)],rfl⟩)
end lw
end Go.Proofs.YtiafochainjglaaGreatDoor.drp
