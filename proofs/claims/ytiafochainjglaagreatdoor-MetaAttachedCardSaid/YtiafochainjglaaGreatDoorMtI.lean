/-
  OWN WORK, A PART: an abstract machine for the program's text that the kernel can run, and the proof that it is sound: what it answers is what the program answers; contracts of functions by it. No condition.
-/
import Derived.Shelf.SlMaps.Clone
import Derived.Test.YtiafochainjglaaGreatDoorWaF
import Derived.Test.YtiafochainjglaaGreatDoorMtA
import Derived.Test.YtiafochainjglaaGreatDoorMtH
import Derived.KernelRfl
import Derived.Test.YtiafochainjglaaGreatDoorKaK
section
open Go Go.Ax Go.Proofs Go.RowKit
namespace Go.Proofs.YtiafochainjglaaGreatDoor.mpc
end Go.Proofs.YtiafochainjglaaGreatDoor.mpc
end

section
open Go Go.Ax Go.Proofs
namespace Go.Proofs.YtiafochainjglaaGreatDoor.drp.cp
open dsk (EK)
set_option linter.unusedVariables false
end Go.Proofs.YtiafochainjglaaGreatDoor.drp.cp
end

section
open Go Go.Ax Go.Proofs
namespace Go.Proofs.YtiafochainjglaaGreatDoor.drp.cp
open dsk (EK EKok pO rowB En ents entO vers curB Disk dK sB al_b look_old look_new ld_m gtr0 sub1 sl_s ld_row split_at vers_nil rowB_len)
set_option linter.unusedVariables false
section
variable {S:ASt} {d l m ck i:Nat} {C:Cap} {las:List (List Nat)} {es:List En}
end
section
variable {Y:ASt} {a b:Nat} {x y:Operand}
end
section
variable {S:ASt} {l l2 n:Nat} {C C2:Cap} {L:List (List Nat)}
end
section
variable {S:ASt} {d o l l2 m m2 n ck ck2:Nat} {C C2:Cap} {las:List (List Nat)} {es:List En}
end
end Go.Proofs.YtiafochainjglaaGreatDoor.drp.cp
end

section
open Go Go.Ax Go.Proofs
namespace Go.Proofs.YtiafochainjglaaGreatDoor.drp.cp
open dsk (EK EKok pO rowB En ents entO vers curB Disk dK sB rowB_len)
set_option linter.unusedVariables false
section
open Go.Shelf Go.RowKit
end
section
variable {base d l m n c:Nat} {S0 S:ASt} {las:List (List Nat)} {es:List En}
theorem bl_d {D:Nat→Prop} (b:List Nat):refsDs D (bl b):=refsDs_all.2 fun v hv=>by
 unfold bl at hv
 obtain⟨y,_,rfl⟩:=List.mem_map.1 hv
 simp[cellU,refsD]
theorem rowB_d {D:Nat→Prop} (L:List (List Nat)):refsDs D (rowB L):=refsDs_all.2 fun v hv=>by
 unfold rowB at hv
 obtain⟨b,_,hb⟩:=List.mem_flatMap.1 hv
 exact refsDs_all.1 (bl_d b) v hb
end
end Go.Proofs.YtiafochainjglaaGreatDoor.drp.cp
end

section
open Go Go.Ax Go.Proofs
namespace Go.Proofs.YtiafochainjglaaGreatDoor.drp.lw
set_option linter.unusedVariables false
end Go.Proofs.YtiafochainjglaaGreatDoor.drp.lw
end

section
open Go Go.Ax Go.Proofs
namespace Go.Proofs.YtiafochainjglaaGreatDoor.drp.lw
open cd9 (pureC pureC_ok pureC_at pureC_no)
open cp sh rt my fm
set_option linter.unusedVariables false
def s0:TypeDesc→AV→Bool
 | .bool,.bool _=>true
 | .int _,.int _ _=>true
 | _,_=>false
def sLs (d:TypeDesc):Nat→List AV→Bool
 | 0,_=>true
 | n+1,x::xs=>s0 d x && sLs d n xs
 | _+1,_=>false
noncomputable def sFs (E:Env) (eq:TypeId→AV→Bool) (xs:List AV):List (TypeId×Nat)→Bool
 | []=>true
 | f::fs=>match aPart E f.1 xs f.2 with
  | some a=>eq f.1 a && sFs E eq xs fs
  | none=>false
noncomputable def sEq (E:Env):Nat→TypeId→AV→Bool
 | 0=>fun _ _=>false
 | d+1=>fun t x =>
  match E.ty.get t with
  | none=>false
  | some ti =>
   match x with
   | .agg xs=>(match ti.desc with
    | .struct _=>bif ti.held then false else sFs E (sEq E d) xs ti.fl
    | .array n e=>(match E.ty.get e with
     | some ei=>bif isAggD ei.desc then false else bif Nat.beq ei.size 1 then sLs ei.desc n xs else false
     | none=>false)
    | _=>false)
   | x=>s0 ti.desc x
theorem s0_ok {d:TypeDesc} {x:AV} (h:s0 d x=true):aEq0 d x x=some true:=by
 cases d<;>cases x<;>simp only[s0,Bool.false_eq_true] at h
 ·rename_i b;cases b<;>rfl
 ·rename_i k z
  simp only[aEq0]
  rw[show kEq k k=true by cases k<;>rfl,eqF_self];rfl
theorem sLs_ok {d:TypeDesc} {e:TypeId}:∀(n:Nat) (xs:List AV),sLs d n xs=true→eqLs (fun _ x y=>aEq0 d x y) e n xs xs=some true
 | 0,xs,h=>rfl
 | n+1,[],h=>by simp[sLs] at h
 | n+1,x::xs,h=>by
  simp only[sLs,Bool.and_eq_true] at h
  simp only[eqLs,s0_ok h.1]
  exact sLs_ok n xs h.2
theorem sFs_ok {E:Env} {eq:TypeId→AV→Bool} {eq2:TypeId→AV→AV→Option Bool} (he:∀t x,eq t x=true→eq2 t x x=some true) (xs:List AV):∀fs,sFs E eq xs fs=true→eqFs E eq2 xs xs fs=some true
 | [],h=>rfl
 | f::fs,h=>by
  simp only[sFs] at h
  simp only[eqFs]
  split at h
  ·rename_i a ha
   rw[Bool.and_eq_true] at h
   rw[ha]
   simp only[he _ _ h.1]
   exact sFs_ok he xs fs h.2
  ·cases h
theorem sEq_ok {E:Env}:∀(d:Nat) (t:TypeId) (x:AV),sEq E d t x=true→aEq E d t x x=some true
 | 0,t,x,h=>by simp[sEq] at h
 | d+1,t,x,h=>by
  unfold sEq at h
  unfold aEq
  cases hti:E.ty.get t with
  | none=>rw[hti] at h;cases h
  | some ti =>
  rw[hti] at h
  cases x with
  | agg xs =>
   simp only at h ⊢
   cases hd:ti.desc with
   | struct fs =>
    rw[hd] at h
    simp only at h ⊢
    cases hh:ti.held
    ·rw[hh,cond_false] at h
     rw[cond_false]
     exact sFs_ok (sEq_ok d) xs _ h
    ·rw[hh,cond_true] at h;cases h
   | array n e =>
    rw[hd] at h
    simp only at h ⊢
    cases hei:E.ty.get e with
    | none=>rw[hei] at h;cases h
    | some ei =>
     rw[hei] at h
     simp only at h ⊢
     cases ha:isAggD ei.desc
     ·rw[ha,cond_false] at h
      rw[cond_false]
      cases hb:Nat.beq ei.size 1
      ·rw[hb,cond_false] at h;cases h
      ·rw[hb,cond_true] at h
       rw[cond_true]
       exact sLs_ok n xs h
     ·rw[ha,cond_true] at h;cases h
   | _=>rw[hd] at h;cases h
  | _=>exact s0_ok h
section
variable {Y:ASt} {a b:Nat} {z:Int} {x y:Operand}
end
theorem known_at (S:ASt):Call1 Tryz.prog 9 [] S (.bool true,S):=Call1.of (sumC_ok (l:=[⟨9,[],.bool true⟩]) ⟨metaNil.memo9,trivial⟩) (by kernel_rfl)
end Go.Proofs.YtiafochainjglaaGreatDoor.drp.lw
end

section
open Go Go.Ax Go.Proofs
namespace Go.Proofs.YtiafochainjglaaGreatDoor.drp.lw
open cd9 (pureC pureC_ok pureC_at pureC_no)
open cp sh rt my fm
set_option linter.unusedVariables false
section
variable {S X:ASt} {d l m k c:Nat} {P:AV}
end
section
variable {S:ASt} {P:AV} {ps:List (Int×List Nat)} {pi:Nat} {o:AO}
end
end Go.Proofs.YtiafochainjglaaGreatDoor.drp.lw
end
