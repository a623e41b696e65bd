/-
  OWN WORK, A PART: an abstract machine for the program's text that the kernel can run, and the proof that it is sound: what it answers is what the program answers; contracts of functions by it. No condition.
-/
import Derived.Test.YtiafochainjglaaGreatDoorNtA
import Derived.Test.YtiafochainjglaaGreatDoorMtH
import Derived.Test.YtiafochainjglaaGreatDoorMtI
namespace Go.Proofs.YtiafochainjglaaGreatDoor.drp
open Go Go.Ax Go.Proofs
set_option linter.unusedVariables false
namespace pu
open cd cd2 cd3 cd4 cd5 cd9 oo my
section
variable {base d l m n c:Nat} {S0 S:ASt} {las:List (List Nat)} {es:List dsk.En}
theorem Dv.writeV {b:List Nat} {i:Nat} (h:Dv base S0 S d l m n c las es) (hc:c<1000000) (hi:i<n) (hb:byL b):∃S' es',qAE Tryz.prog 19 [dsk.pO d,dsk.nI i,.agg (bl b)] S (dsk.nI 0,S')∧Dv base S0 S' d l m n (c+1) las es'∧S.next≤S'.next∧(∀k,k<S.next→k≠m→S'.h.get k=S.h.get k)∧∀j,nb las es' j=if j=i then blV b else nb las es j:=by
 obtain⟨ck,hd⟩:=h.dk;have hl:=h.llo;have hm:=h.mlo;obtain⟨S',es',ck',hcall,hd',ht',hn',hk',hv',hr'⟩:=dsk.qMg (b:=b) hd h.tidy (show i<las.length by rw[h.len];exact hi) (Nat.lt_of_le_of_lt (h.few i) hc);refine⟨S',es',hcall,⟨⟨ck',hd'⟩,hl,hm,h.dlo,h.len,fun a ha=>?_,fun j=>?_,h.lby,fun j x hx=>?_,ht',Nat.le_trans h.next hn',fun k hk=>?_⟩,hn',fun k hk hkm=>hk' k hk hkm,fun j=>?_⟩
 ·rcases hr' a ha with⟨e,he,hea⟩ | hge
  ·rw[←hea];exact h.rlo e he
  ·exact Nat.le_trans h.next hge
 ·rw[hv']
  split
  ·rw[List.length_append];have:=h.few i;simp only[List.length_singleton];omega
  ·exact Nat.le_succ_of_le (h.few j)
 ·rw[hv'] at hx
  split at hx
  ·rcases List.mem_append.1 hx with hx | hx
   ·exact h.vby i x hx
   ·rw[List.mem_singleton.1 hx];exact hb
  ·exact h.vby j x hx
 ·rw[hk' k (Nat.lt_of_lt_of_le hk h.next) (by omega)];exact h.same k hk
 ·unfold nb dsk.qDN;rw[hv']
  split
  ·rename_i e;rw[List.getLast?_append];rfl
  ·rfl
theorem Dv.flushV (h:Dv base S0 S d l m n c las es) (hc:c<1000000) (hn0:0<n):∃S' las' ck,qAE Tryz.prog 40 [dsk.pO d] S (dsk.nI 0,S')∧Dv base S0 S' d l m n c las' []∧S.next≤S'.next∧(∀k,k<S.next→k≠l→k≠m→S'.h.get k=S.h.get k)∧(∀j,j<n→nb las' [] j=nb las es j)∧S'.h.get l=some (.cells (dsk.qD2 las') true)∧S'.h.get m=some (.map [] ck):=by
 obtain⟨ck,hd⟩:=h.dk;have hl:=h.llo;have hm:=h.mlo;obtain⟨S',hcall,hd',ht',hn',hk'⟩:=dsk.qTe hd h.tidy (by rw[h.len];exact hn0) (fun e he=>by
  have:=h.few e.k;rw[qOv hd.keys he] at this;omega)
 refine⟨S',dsk.qCS las es,ck,hcall,⟨⟨ck,hd'⟩,hl,hm,h.dlo,by unfold dsk.qCS;rw[List.length_map,List.length_range,h.len],fun e he=>(by cases he),fun i=>by simp[dsk.qDo],fun b hb=>?_,fun i b hb=>by simp[dsk.qDo] at hb,ht',Nat.le_trans h.next hn',fun k hk=>?_⟩,hn',fun k hk h1 h2=>hk' k hk h1 h2,fun j hj=>?_,hd'.hl,hd'.hm⟩
 ·unfold dsk.qCS at hb;obtain⟨i,_,rfl⟩:=List.mem_map.1 hb;exact qRb h.lby h.vby i
 ·rw[hk' k (Nat.lt_of_lt_of_le hk h.next) (by omega) (by omega)];exact h.same k hk
 ·unfold nb;have e:dsk.qDN (dsk.qCS las es) [] j=dsk.qDN las es j:=by
   show (dsk.qCS las es).getD j []=_;unfold dsk.qCS;rw[h.len,List.getD_eq_getElem?_getD,List.getElem?_map,List.getElem?_range hj];rfl
  rw[e]
end
theorem qYq {A B C:List AV} {o n:Nat} (h1:A.length=o) (h2:B.length=n):qAy (A++(B++C)) o n=some B:=by
 unfold qAy;have e:((A++(B++C)).drop o).take n=B:=by
  rw[←h1,List.drop_left,←h2,List.take_left]
 rw[e];show (bif Nat.beq B.length n then some B else none)=some B;rw[h2,show Nat.beq n n=true from Nat.beq_refl n];rfl
end pu
end Go.Proofs.YtiafochainjglaaGreatDoor.drp
