/-
  OWN WORK, A PART: an abstract machine for the program's text that the kernel can run, and the proof that it is sound: what it answers is what the program answers; contracts of functions by it. No condition.
-/
import Derived.Test.YtiafochainjglaaGreatDoorNtB
import Derived.Test.YtiafochainjglaaGreatDoorMtI
import Derived.Test.YtiafochainjglaaGreatDoorNtA
import Derived.Test.YtiafochainjglaaGreatDoorMtD
import Derived.KernelRfl
namespace Go.Proofs.YtiafochainjglaaGreatDoor.drp
open Go Go.Ax Go.Proofs
set_option linter.unusedVariables false
namespace pu
open cd cd2 cd3 cd4 cd5 cd9 oo my
theorem q2J {B:List Nat} {o n:Nat} (hn:n<256 ^ 8) (h:∀j,j<8→B.getD (o+j) 0=be (7 - j) n):pn B o 8=n:=by
 have key:∀k,k≤8→pn B o k=n / 256 ^ (8 - k):=by
  intro k
  induction k with
  | zero=>intro _;show 0=n / 256 ^ 8;rw[Nat.div_eq_of_lt hn]
  | succ k ih =>
   intro hk;show pn B o k*256+B.getD (o+k) 0=_;rw[ih (by omega),h k (by omega)];unfold be;have e1:8 - k=(8 - (k+1))+1:=by omega
   have e2:7 - k=8 - (k+1):=by omega
   rw[e1,e2,Nat.pow_succ,←Nat.div_div_eq_div_mul];have:=Nat.div_add_mod (n / 256 ^ (8 - (k+1))) 256;omega
 have:=key 8 (Nat.le_refl 8);rw[Nat.sub_self,Nat.pow_zero,Nat.div_one] at this;exact this
section
variable {l tl:List Nat}
def blk (l tl:List Nat):List Nat:=blV (hd8 l++tl)
theorem qJA (hl:l.length≤248) {j:Nat} (hj:j<l.length):(blk l tl).getD j 0=l.getD j 0:=by
 unfold blk;rw[qRi _ (by omega)];unfold hd8;rw[List.getD_eq_getElem?_getD,List.getD_eq_getElem?_getD,List.getElem?_append_left (by simp;omega),List.getElem?_append_left hj]
theorem qI5 (hl:l.length≤248) {o n:Nat} (ho:o+8≤l.length) (h:(l.drop o).take 8=be8 n) (hn:n<18446744073709551616):pn (blk l tl) o 8=n:=by
 refine q2J hn fun j hj=>?_;rw[qJA hl (by omega)];have e:l.getD (o+j) 0=((l.drop o).take 8).getD j 0:=by
  rw[List.getD_eq_getElem?_getD,List.getD_eq_getElem?_getD,List.getElem?_take,if_pos hj,List.getElem?_drop]
 rw[e,h]
 match j,hj with
 | 0,_=>rfl
 | 1,_=>rfl
 | 2,_=>rfl
 | 3,_=>rfl
 | 4,_=>rfl
 | 5,_=>rfl
 | 6,_=>rfl
 | 7,_=>rfl
theorem qYB (hl:l.length≤248) {o:Nat} (ho:o<l.length):pn (blk l tl) o 1=l.getD o 0:=by rw[pn1,qJA hl ho]
end
theorem be0 {n:Nat} (h:n<256):be 0 n=n:=by unfold be;rw[Nat.pow_zero,Nat.div_one,Nat.mod_eq_of_lt h]
theorem qOs (j:Nat):(blV []).getD j 0=0:=by
 unfold blV;rw[List.getD_eq_getElem?_getD,List.getElem?_map];cases (List.range 256)[j]?<;>rfl
theorem qOr (o:Nat):∀k,pn (blV []) o k=0
 | 0=>rfl
 | k+1=>by show pn (blV []) o k*256+(blV []).getD (o+k) 0=0;rw[qOr o k,qOs]
section
variable {H:List Nat→Nat→Nat} {X:List Nat→Nat}
theorem qXC:iS H (blV [])=false:=by
 unfold iS;rw[qOr];rfl
section
variable {x:Nat→Nat} {c:Bool}
def sB (H:List Nat→Nat→Nat) (x:Nat→Nat) (c:Bool):List Nat:=qAm H (qGI (x 0) (if c then 1 else 0) (x 5) (x 1) (x 2) (x 3) (x 4))
theorem sB_r (U:U6 (x 0) (x 1) (x 2) (x 3) (x 4) (x 5)) (h0:x 0<256):pn (blV (sB H x c)) 4 1=x 0∧pn (blV (sB H x c)) 14 8=x 1∧pn (blV (sB H x c)) 22 8=x 2∧pn (blV (sB H x c)) 30 8=x 3∧pn (blV (sB H x c)) 38 8=x 4∧pn (blV (sB H x c)) 6 8=x 5∧qHG (blV (sB H x c))=c:=by
 have hl:(qGI (x 0) (if c then 1 else 0) (x 5) (x 1) (x 2) (x 3) (x 4)).length=46:=rfl;have e:blV (sB H x c)=blk (qGI (x 0) (if c then 1 else 0) (x 5) (x 1) (x 2) (x 3) (x 4)) (qIu (H (hd8 (qGI (x 0) (if c then 1 else 0) (x 5) (x 1) (x 2) (x 3) (x 4))))):=rfl;rw[e];refine⟨?_,qI5 (by omega) (by omega) rfl U.a,qI5 (by omega) (by omega) rfl U.b,qI5 (by omega) (by omega) rfl U.h,qI5 (by omega) (by omega) rfl U.k,qI5 (by omega) (by omega) rfl U.n,?_⟩
 ·rw[qYB (by omega) (by omega)];exact be0 h0
 ·unfold qHG;rw[qJA (by omega) (by omega)];cases c<;>rfl
theorem qZI (U:U6 (x 0) (x 1) (x 2) (x 3) (x 4) (x 5)) (hm:qDa (x 0) (x 1) (x 2)=true):iS H (blV (sB H x c))=true∧(∀i,i<6→sX H (blV (sB H x c)) i=x i)∧sC H (blV (sB H x c))=c:=by
 have h0:x 0<256:=by
  unfold qDa at hm;simp only[Bool.and_eq_true,decide_eq_true_eq] at hm;omega
 obtain⟨r0,r1,r2,r3,r4,r5,rc⟩:=sB_r (H:=H) (c:=c) U h0;have hi:iS H (blV (sB H x c))=true:=by
  unfold iS qWB;rw[r0,r1,r2,r3,r4,r5,rc,hm,Bool.true_and];exact decide_eq_true (show blV (sB H x c)=_ by rw[qED])
 refine⟨hi,fun i hi6=>?_,?_⟩
 ·unfold sX;rw[hi]
  match i,hi6 with
  | 0,_=>exact r0
  | 1,_=>exact r1
  | 2,_=>exact r2
  | 3,_=>exact r3
  | 4,_=>exact r4
  | 5,_=>exact r5
 ·unfold sC;rw[hi,rc];rfl
end
theorem head_ne {l tl:List Nat} (hl:l.length≤248) (hp:0<l.length) (ha:l.getD 0 0≠0):decide (blV (hd8 l++tl)=blV (blV []))=false:=by
 refine decide_eq_false fun e=>ha ?_;have h1:(blk l tl).getD 0 0=l.getD 0 0:=qJA hl hp;have h2:(blk l tl).getD 0 0=0:=by
  show (blV (hd8 l++tl)).getD 0 0=0;rw[e,qED,qOs]
 rw[←h1,h2]
theorem qXD:iL H (blV [])=false:=head_ne (l:=qFB _ _) (by show 14≤248;decide) (by show 0<14;decide) (by show (71:Nat)≠0;decide)
theorem qZq {se:Nat} (h:se<18446744073709551616):iM H (blV (qAm H (qFh se)))=true∧mX H (blV (qAm H (qFh se)))=se:=by
 have e:pn (blV (qAm H (qFh se))) 4 8=se:=qI5 (l:=qFh se) (by show 12≤248;decide) (by show 12≤12;decide) rfl h;have hi:iM H (blV (qAm H (qFh se)))=true:=by
  unfold iM;rw[e];exact decide_eq_true (by rw[qED])
 refine⟨hi,?_⟩;unfold mX;rw[hi];exact e
theorem q2e {nu ho:Nat} (h:nu<18446744073709551616) (h2:ho<65536):iL H (blV (qAm H (qFB nu ho)))=true∧lN H (blV (qAm H (qFB nu ho)))=nu∧lS H (blV (qAm H (qFB nu ho)))=ho:=by
 have e:pn (blV (qAm H (qFB nu ho))) 4 8=nu:=qI5 (l:=qFB nu ho) (by show 14≤248;decide) (by show 12≤14;decide) rfl h;have e2:qKn (blV (qAm H (qFB nu ho)))=ho:=by
  unfold qKn;have a1:(blV (qAm H (qFB nu ho))).getD 12 0=be 1 ho:=qJA (l:=qFB nu ho) (by show 14≤248;decide) (by show 12<14;decide);have a2:(blV (qAm H (qFB nu ho))).getD 13 0=be 0 ho:=qJA (l:=qFB nu ho) (by show 14≤248;decide) (by show 13<14;decide);rw[a1,a2];unfold be;omega
 have hi:iL H (blV (qAm H (qFB nu ho)))=true:=by
  unfold iL;rw[e,e2];exact decide_eq_true (by rw[qED])
 refine⟨hi,?_,?_⟩
 ·unfold lN;rw[hi];exact e
 ·unfold lS;rw[hi];exact e2
theorem qJ6 (n g t h:Nat) (ys:Nat→Nat):(qHK n g t h ys).length=150:=by kernel_rfl
theorem qXE:iK X (blV [])=false:=by
 unfold iK qFV;have:decide (blV (qUf X (blV []))=blV (blV []))=false:=head_ne (l:=qHK _ _ _ _ _) (tl:=be8 _) (by rw[qJ6];decide) (by rw[qJ6];decide) (by show (71:Nat)≠0;decide);rw[this,Bool.and_false]
def kB (X:List Nat→Nat) (t:Nat) (y:Nat→Nat):List Nat:=qQE X t (y 0) (y 17) (y 18) (fun i=>y (i+1))
theorem qZm {t:Nat} {y:Nat→Nat} (ht:t<18446744073709551616) (hy:∀i,i<17→y i<18446744073709551616) (h17:y 17<256) (h18:y 18<256) (hm:qLu (y 0) (y 17) (y 18) (fun i=>y (i+1))=true) :
  iK X (blV (kB X t y))=true∧(∀i,i<19→rX X (blV (kB X t y)) i=y i)∧rQ X (blV (kB X t y))=t:=by
 have hl:(qHK t (y 0) (y 17) (y 18) (fun i=>y (i+1))).length=150:=qJ6 ..;have e:blV (kB X t y)=blk (qHK t (y 0) (y 17) (y 18) (fun i=>y (i+1))) (be8 (X (hd8 (qHK t (y 0) (y 17) (y 18) (fun i=>y (i+1)))))):=rfl;have r0:pn (blV (kB X t y)) 4 8=t:=by rw[e];exact qI5 (by omega) (by omega) rfl ht
 have r1:pn (blV (kB X t y)) 12 8=y 0:=by rw[e];exact qI5 (by omega) (by omega) rfl (hy 0 (by omega))
 have r2:pn (blV (kB X t y)) 20 1=y 17:=by rw[e,qYB (by omega) (by omega)];exact be0 h17
 have r3:pn (blV (kB X t y)) 21 1=y 18:=by rw[e,qYB (by omega) (by omega)];exact be0 h18
 have r4:∀i,i<16→rY (blV (kB X t y)) i=y (i+1):=fun i hi=>by
  unfold rY;rw[e];refine qI5 (by omega) (by omega) ?_ (hy (i+1) (by omega))
  match i,hi with
  | 0,_=>rfl
  | 1,_=>rfl
  | 2,_=>rfl
  | 3,_=>rfl
  | 4,_=>rfl
  | 5,_=>rfl
  | 6,_=>rfl
  | 7,_=>rfl
  | 8,_=>rfl
  | 9,_=>rfl
  | 10,_=>rfl
  | 11,_=>rfl
  | 12,_=>rfl
  | 13,_=>rfl
  | 14,_=>rfl
  | 15,_=>rfl
  | n+16,h=>exact absurd h (by omega)
 have hk:∀n g a h,qHK n g a h (rY (blV (kB X t y)))=qHK n g a h (fun i=>y (i+1)):=fun n g a h=>by
  have:qQm (rY (blV (kB X t y)))=qQm (fun i=>y (i+1)):=by
   unfold qQm;rw[List.flatMap_def,List.flatMap_def,List.map_congr_left fun i hi=>by rw[r4 i (List.mem_range.1 hi)]]
  unfold qHK;rw[this]
 have hz:qLu (y 0) (y 17) (y 18) (rY (blV (kB X t y)))=qLu (y 0) (y 17) (y 18) (fun i=>y (i+1)):=by
  have:cd6.tL (zOf (y 0) (y 17) (y 18) (rY (blV (kB X t y))))=cd6.tL (zOf (y 0) (y 17) (y 18) (fun i=>y (i+1))):=by
   have hm:((List.range 16).map fun i=>AV.int .u64 (zOf (y 0) (y 17) (y 18) (rY (blV (kB X t y))) (i+1)))=(List.range 16).map fun i=>AV.int .u64 (zOf (y 0) (y 17) (y 18) (fun i=>y (i+1)) (i+1)):=List.map_congr_left fun i hi=>by
    have hi:=List.mem_range.1 hi;unfold zOf;rw[if_neg (by omega),if_neg (by omega),if_neg (by omega),if_neg (by omega),if_neg (by omega),if_neg (by omega),Nat.add_sub_cancel,r4 i hi]
   have z0:zOf (y 0) (y 17) (y 18) (rY (blV (kB X t y))) 0=zOf (y 0) (y 17) (y 18) (fun i=>y (i+1)) 0:=by kernel_rfl
   have z1:zOf (y 0) (y 17) (y 18) (rY (blV (kB X t y))) 17=zOf (y 0) (y 17) (y 18) (fun i=>y (i+1)) 17:=by kernel_rfl
   have z2:zOf (y 0) (y 17) (y 18) (rY (blV (kB X t y))) 18=zOf (y 0) (y 17) (y 18) (fun i=>y (i+1)) 18:=by kernel_rfl
   unfold cd6.tL;rw[hm,z0,z1,z2]
  unfold qLu;rw[this]
 have hi:iK X (blV (kB X t y))=true:=by
  unfold iK qFV qI1 qUf;rw[r0,r1,r2,r3,hz,hm,Bool.true_and];refine decide_eq_true ?_;unfold qQE;rw[hk,qED];rfl
 refine⟨hi,fun i h19=>?_,?_⟩
 ·unfold rX;rw[hi];show rF (blV (kB X t y)) i=y i;unfold rF
  by_cases e0:i=0
  ·rw[if_pos e0,e0];exact r1
  ·rw[if_neg e0]
   by_cases e1:i=17
   ·rw[if_pos e1,e1];exact r2
   ·rw[if_neg e1]
    by_cases e2:i=18
    ·rw[if_pos e2,e2];exact r3
    ·rw[if_neg e2,r4 (i - 1) (by omega),show i - 1+1=i by omega]
 ·unfold rQ;rw[hi];exact r0
end
section
variable {H:List Nat→Nat→Nat} {X:List Nat→Nat} {b:Nat→List Nat} {k t se nu ho:Nat} {x y:Nat→Nat} {c mk:Bool}
end
end pu
end Go.Proofs.YtiafochainjglaaGreatDoor.drp
