/-
  OWN WORK, A PART: an abstract machine for the program's text that the kernel can run, and the proof that it is sound: what it answers is what the program answers; contracts of functions by it. No condition.
-/
import Derived.Test.YtiafochainjglaaGreatDoorNtB
import Derived.Test.YtiafochainjglaaGreatDoorMtI
import Derived.Test.YtiafochainjglaaGreatDoorNtA
import Derived.Test.YtiafochainjglaaGreatDoorMtD
import Derived.KernelRfl
section
open Go Go.Ax Go.Proofs
namespace Go.Proofs.YtiafochainjglaaGreatDoor.drp.pu
open cd cd2 cd3 cd4 cd5 cd9 oo my
set_option linter.unusedVariables false
section
variable {S X:ASt} {k t se nu ho:Nat} {x y:Nat→Nat} {c mk:Bool} {B0 B2 B4 BL:List Nat}
end
end Go.Proofs.YtiafochainjglaaGreatDoor.drp.pu
end

section
open Go Go.Ax Go.Proofs
namespace Go.Proofs.YtiafochainjglaaGreatDoor.drp.pu
set_option linter.unusedVariables false
end Go.Proofs.YtiafochainjglaaGreatDoor.drp.pu
end

section
open Go Go.Ax Go.Proofs
namespace Go.Proofs.YtiafochainjglaaGreatDoor.drp.pu
open cd cd2 cd3 cd4 cd5 cd9 oo my
set_option linter.unusedVariables false
theorem pn_of {B:List Nat} {o n:Nat} (hn:n<256 ^ 8) (h:∀j,j<8→B.getD (o+j) 0=be (7 - j) n):pn B o 8=n:=by
 have key:∀k,k≤8→pn B o k=n / 256 ^ (8 - k):=by
  intro k
  induction k with
  | zero=>intro _;show 0=n / 256 ^ 8;rw[Nat.div_eq_of_lt hn]
  | succ k ih =>
   intro hk
   show pn B o k*256+B.getD (o+k) 0=_
   rw[ih (by omega),h k (by omega)]
   unfold be
   have e1:8 - k=(8 - (k+1))+1:=by omega
   have e2:7 - k=8 - (k+1):=by omega
   rw[e1,e2,Nat.pow_succ,←Nat.div_div_eq_div_mul]
   have:=Nat.div_add_mod (n / 256 ^ (8 - (k+1))) 256
   omega
 have:=key 8 (Nat.le_refl 8)
 rw[Nat.sub_self,Nat.pow_zero,Nat.div_one] at this
 exact this
section
variable {l tl:List Nat}
def blk (l tl:List Nat):List Nat:=blV (hd8 l++tl)
theorem blk_at (hl:l.length≤248) {j:Nat} (hj:j<l.length):(blk l tl).getD j 0=l.getD j 0:=by
 unfold blk
 rw[blV_get _ (by omega)]
 unfold hd8
 rw[List.getD_eq_getElem?_getD,List.getD_eq_getElem?_getD,List.getElem?_append_left (by simp;omega),List.getElem?_append_left hj]
theorem blk_n (hl:l.length≤248) {o n:Nat} (ho:o+8≤l.length) (h:(l.drop o).take 8=be8 n) (hn:n<18446744073709551616):pn (blk l tl) o 8=n:=by
 refine pn_of hn fun j hj=>?_
 rw[blk_at hl (by omega)]
 have e:l.getD (o+j) 0=((l.drop o).take 8).getD j 0:=by
  rw[List.getD_eq_getElem?_getD,List.getD_eq_getElem?_getD,List.getElem?_take,if_pos hj,List.getElem?_drop]
 rw[e,h]
 match j,hj with
 | 0,_=>rfl
 | 1,_=>rfl
 | 2,_=>rfl
 | 3,_=>rfl
 | 4,_=>rfl
 | 5,_=>rfl
 | 6,_=>rfl
 | 7,_=>rfl
theorem blk_1 (hl:l.length≤248) {o:Nat} (ho:o<l.length):pn (blk l tl) o 1=l.getD o 0:=by rw[pn1,blk_at hl ho]
end
theorem be0 {n:Nat} (h:n<256):be 0 n=n:=by unfold be;rw[Nat.pow_zero,Nat.div_one,Nat.mod_eq_of_lt h]
theorem zero_at (j:Nat):(blV []).getD j 0=0:=by
 unfold blV
 rw[List.getD_eq_getElem?_getD,List.getElem?_map]
 cases (List.range 256)[j]?<;>rfl
theorem zero_pn (o:Nat):∀k,pn (blV []) o k=0
 | 0=>rfl
 | k+1=>by show pn (blV []) o k*256+(blV []).getD (o+k) 0=0;rw[zero_pn o k,zero_at]
section
variable {H:List Nat→Nat→Nat} {X:List Nat→Nat}
theorem iS_zero:iS H (blV [])=false:=by
 unfold iS
 rw[zero_pn];rfl
section
variable {x:Nat→Nat} {c:Bool}
def sB (H:List Nat→Nat→Nat) (x:Nat→Nat) (c:Bool):List Nat:=sealN H (supL (x 0) (if c then 1 else 0) (x 5) (x 1) (x 2) (x 3) (x 4))
theorem sB_r (U:U6 (x 0) (x 1) (x 2) (x 3) (x 4) (x 5)) (h0:x 0<256):pn (blV (sB H x c)) 4 1=x 0∧pn (blV (sB H x c)) 14 8=x 1∧pn (blV (sB H x c)) 22 8=x 2∧pn (blV (sB H x c)) 30 8=x 3∧pn (blV (sB H x c)) 38 8=x 4∧pn (blV (sB H x c)) 6 8=x 5∧supC (blV (sB H x c))=c:=by
 have hl:(supL (x 0) (if c then 1 else 0) (x 5) (x 1) (x 2) (x 3) (x 4)).length=46:=rfl
 have e:blV (sB H x c)=blk (supL (x 0) (if c then 1 else 0) (x 5) (x 1) (x 2) (x 3) (x 4)) (first8 (H (hd8 (supL (x 0) (if c then 1 else 0) (x 5) (x 1) (x 2) (x 3) (x 4))))):=rfl
 rw[e]
 refine⟨?_,blk_n (by omega) (by omega) rfl U.a,blk_n (by omega) (by omega) rfl U.b,blk_n (by omega) (by omega) rfl U.h,blk_n (by omega) (by omega) rfl U.k,blk_n (by omega) (by omega) rfl U.n,?_⟩
 ·rw[blk_1 (by omega) (by omega)]
  exact be0 h0
 ·unfold supC
  rw[blk_at (by omega) (by omega)]
  cases c<;>rfl
theorem sB_is (U:U6 (x 0) (x 1) (x 2) (x 3) (x 4) (x 5)) (hm:supM (x 0) (x 1) (x 2)=true):iS H (blV (sB H x c))=true∧(∀i,i<6→sX H (blV (sB H x c)) i=x i)∧sC H (blV (sB H x c))=c:=by
 have h0:x 0<256:=by
  unfold supM at hm
  simp only[Bool.and_eq_true,decide_eq_true_eq] at hm
  omega
 obtain⟨r0,r1,r2,r3,r4,r5,rc⟩:=sB_r (H:=H) (c:=c) U h0
 have hi:iS H (blV (sB H x c))=true:=by
  unfold iS supR
  rw[r0,r1,r2,r3,r4,r5,rc,hm,Bool.true_and]
  exact decide_eq_true (show blV (sB H x c)=_ by rw[blV_idem])
 refine⟨hi,fun i hi6=>?_,?_⟩
 ·unfold sX
  rw[hi]
  match i,hi6 with
  | 0,_=>exact r0
  | 1,_=>exact r1
  | 2,_=>exact r2
  | 3,_=>exact r3
  | 4,_=>exact r4
  | 5,_=>exact r5
 ·unfold sC
  rw[hi,rc];rfl
end
theorem head_ne {l tl:List Nat} (hl:l.length≤248) (hp:0<l.length) (ha:l.getD 0 0≠0):decide (blV (hd8 l++tl)=blV (blV []))=false:=by
 refine decide_eq_false fun e=>ha ?_
 have h1:(blk l tl).getD 0 0=l.getD 0 0:=blk_at hl hp
 have h2:(blk l tl).getD 0 0=0:=by
  show (blV (hd8 l++tl)).getD 0 0=0
  rw[e,blV_idem,zero_at]
 rw[←h1,h2]
theorem iM_zero:iM H (blV [])=false:=head_ne (l:=mapL _) (by show 12≤248;decide) (by show 0<12;decide) (by show (71:Nat)≠0;decide)
theorem iL_zero:iL H (blV [])=false:=head_ne (l:=logL _ _) (by show 14≤248;decide) (by show 0<14;decide) (by show (71:Nat)≠0;decide)
theorem iM_is {se:Nat} (h:se<18446744073709551616):iM H (blV (sealN H (mapL se)))=true∧mX H (blV (sealN H (mapL se)))=se:=by
 have e:pn (blV (sealN H (mapL se))) 4 8=se:=blk_n (l:=mapL se) (by show 12≤248;decide) (by show 12≤12;decide) rfl h
 have hi:iM H (blV (sealN H (mapL se)))=true:=by
  unfold iM
  rw[e]
  exact decide_eq_true (by rw[blV_idem])
 refine⟨hi,?_⟩
 unfold mX
 rw[hi];exact e
theorem iL_is {nu ho:Nat} (h:nu<18446744073709551616) (h2:ho<65536):iL H (blV (sealN H (logL nu ho)))=true∧lN H (blV (sealN H (logL nu ho)))=nu∧lS H (blV (sealN H (logL nu ho)))=ho:=by
 have e:pn (blV (sealN H (logL nu ho))) 4 8=nu:=blk_n (l:=logL nu ho) (by show 14≤248;decide) (by show 12≤14;decide) rfl h
 have e2:logS (blV (sealN H (logL nu ho)))=ho:=by
  unfold logS
  have a1:(blV (sealN H (logL nu ho))).getD 12 0=be 1 ho:=blk_at (l:=logL nu ho) (by show 14≤248;decide) (by show 12<14;decide)
  have a2:(blV (sealN H (logL nu ho))).getD 13 0=be 0 ho:=blk_at (l:=logL nu ho) (by show 14≤248;decide) (by show 13<14;decide)
  rw[a1,a2]
  unfold be
  omega
 have hi:iL H (blV (sealN H (logL nu ho)))=true:=by
  unfold iL
  rw[e,e2]
  exact decide_eq_true (by rw[blV_idem])
 refine⟨hi,?_,?_⟩
 ·unfold lN;rw[hi];exact e
 ·unfold lS;rw[hi];exact e2
theorem resL_len (n g t h:Nat) (ys:Nat→Nat):(resL n g t h ys).length=150:=by kernel_rfl
theorem iK_zero:iK X (blV [])=false:=by
 unfold iK resOk
 have:decide (blV (resC X (blV []))=blV (blV []))=false:=head_ne (l:=resL _ _ _ _ _) (tl:=be8 _) (by rw[resL_len];decide) (by rw[resL_len];decide) (by show (71:Nat)≠0;decide)
 rw[this,Bool.and_false]
def kB (X:List Nat→Nat) (t:Nat) (y:Nat→Nat):List Nat:=resB X t (y 0) (y 17) (y 18) (fun i=>y (i+1))
theorem kB_is {t:Nat} {y:Nat→Nat} (ht:t<18446744073709551616) (hy:∀i,i<17→y i<18446744073709551616) (h17:y 17<256) (h18:y 18<256) (hm:resM (y 0) (y 17) (y 18) (fun i=>y (i+1))=true) :
  iK X (blV (kB X t y))=true∧(∀i,i<19→rX X (blV (kB X t y)) i=y i)∧rQ X (blV (kB X t y))=t:=by
 have hl:(resL t (y 0) (y 17) (y 18) (fun i=>y (i+1))).length=150:=resL_len ..
 have e:blV (kB X t y)=blk (resL t (y 0) (y 17) (y 18) (fun i=>y (i+1))) (be8 (X (hd8 (resL t (y 0) (y 17) (y 18) (fun i=>y (i+1)))))):=rfl
 have r0:pn (blV (kB X t y)) 4 8=t:=by rw[e];exact blk_n (by omega) (by omega) rfl ht
 have r1:pn (blV (kB X t y)) 12 8=y 0:=by rw[e];exact blk_n (by omega) (by omega) rfl (hy 0 (by omega))
 have r2:pn (blV (kB X t y)) 20 1=y 17:=by rw[e,blk_1 (by omega) (by omega)];exact be0 h17
 have r3:pn (blV (kB X t y)) 21 1=y 18:=by rw[e,blk_1 (by omega) (by omega)];exact be0 h18
 have r4:∀i,i<16→rY (blV (kB X t y)) i=y (i+1):=fun i hi=>by
  unfold rY
  rw[e]
  refine blk_n (by omega) (by omega) ?_ (hy (i+1) (by omega))
  match i,hi with
  | 0,_=>rfl
  | 1,_=>rfl
  | 2,_=>rfl
  | 3,_=>rfl
  | 4,_=>rfl
  | 5,_=>rfl
  | 6,_=>rfl
  | 7,_=>rfl
  | 8,_=>rfl
  | 9,_=>rfl
  | 10,_=>rfl
  | 11,_=>rfl
  | 12,_=>rfl
  | 13,_=>rfl
  | 14,_=>rfl
  | 15,_=>rfl
  | n+16,h=>exact absurd h (by omega)
 have hk:∀n g a h,resL n g a h (rY (blV (kB X t y)))=resL n g a h (fun i=>y (i+1)):=fun n g a h=>by
  have:keysL (rY (blV (kB X t y)))=keysL (fun i=>y (i+1)):=by
   unfold keysL
   rw[List.flatMap_def,List.flatMap_def,List.map_congr_left fun i hi=>by rw[r4 i (List.mem_range.1 hi)]]
  unfold resL
  rw[this]
 have hz:resM (y 0) (y 17) (y 18) (rY (blV (kB X t y)))=resM (y 0) (y 17) (y 18) (fun i=>y (i+1)):=by
  have:cd6.tL (zOf (y 0) (y 17) (y 18) (rY (blV (kB X t y))))=cd6.tL (zOf (y 0) (y 17) (y 18) (fun i=>y (i+1))):=by
   have hm:((List.range 16).map fun i=>AV.int .u64 (zOf (y 0) (y 17) (y 18) (rY (blV (kB X t y))) (i+1)))=(List.range 16).map fun i=>AV.int .u64 (zOf (y 0) (y 17) (y 18) (fun i=>y (i+1)) (i+1)):=List.map_congr_left fun i hi=>by
    have hi:=List.mem_range.1 hi
    unfold zOf
    rw[if_neg (by omega),if_neg (by omega),if_neg (by omega),if_neg (by omega),if_neg (by omega),if_neg (by omega),Nat.add_sub_cancel,r4 i hi]
   have z0:zOf (y 0) (y 17) (y 18) (rY (blV (kB X t y))) 0=zOf (y 0) (y 17) (y 18) (fun i=>y (i+1)) 0:=by kernel_rfl
   have z1:zOf (y 0) (y 17) (y 18) (rY (blV (kB X t y))) 17=zOf (y 0) (y 17) (y 18) (fun i=>y (i+1)) 17:=by kernel_rfl
   have z2:zOf (y 0) (y 17) (y 18) (rY (blV (kB X t y))) 18=zOf (y 0) (y 17) (y 18) (fun i=>y (i+1)) 18:=by kernel_rfl
   unfold cd6.tL
   rw[hm,z0,z1,z2]
  unfold resM
  rw[this]
 have hi:iK X (blV (kB X t y))=true:=by
  unfold iK resOk resMB resC
  rw[r0,r1,r2,r3,hz,hm,Bool.true_and]
  refine decide_eq_true ?_
  unfold resB
  rw[hk,blV_idem]
  rfl
 refine⟨hi,fun i h19=>?_,?_⟩
 ·unfold rX
  rw[hi]
  show rF (blV (kB X t y)) i=y i
  unfold rF
  by_cases e0:i=0
  ·rw[if_pos e0,e0];exact r1
  ·rw[if_neg e0]
   by_cases e1:i=17
   ·rw[if_pos e1,e1];exact r2
   ·rw[if_neg e1]
    by_cases e2:i=18
    ·rw[if_pos e2,e2];exact r3
    ·rw[if_neg e2,r4 (i - 1) (by omega),show i - 1+1=i by omega]
 ·unfold rQ
  rw[hi];exact r0
end
section
variable {H:List Nat→Nat→Nat} {X:List Nat→Nat} {b:Nat→List Nat} {k t se nu ho:Nat} {x y:Nat→Nat} {c mk:Bool}
theorem take_put (hb:∀i,i<9→b i=blV ((putL mk nu (sB H x c) (kB X t y) (sealN H (mapL se)) (sealN H (logL nu ho))).getD i []))
  (U:U6 (x 0) (x 1) (x 2) (x 3) (x 4) (x 5)) (hsm:supM (x 0) (x 1) (x 2)=true) (ht:t<18446744073709551616) (hy:∀i,i<17→y i<18446744073709551616) (h17:y 17<256) (h18:y 18<256) (hrm:resM (y 0) (y 17) (y 18) (fun i=>y (i+1))=true)
  (hse:se<18446744073709551616) (hnu:nu<18446744073709551616) (hho:ho<65536) (hbey:beyS se k=false) (hms:(mk || decide (se=0))=true) (hnh:(!decide (nu=0) || decide (ho=0))=true) :
  takeV H X b k=.tuple [.agg (mL k x c y t mk se nu ho),.int .i64 (.ofNat 0)]:=by
 have g:∀i,i<4→(putL mk nu (sB H x c) (kB X t y) (sealN H (mapL se)) (sealN H (logL nu ho))).getD i []=(putL2 (sB H x c) (kB X t y)).getD i []:=fun i hi=>by
  unfold putL
  have h4:(putL4 mk (sB H x c) (kB X t y) (sealN H (mapL se))).getD i []=(putL2 (sB H x c) (kB X t y)).getD i []:=by
   cases mk with
   | true =>
    show ((putL2 (sB H x c) (kB X t y)).set 4 _).getD i []=_
    rw[List.getD_eq_getElem?_getD,List.getElem?_set_ne (by omega),←List.getD_eq_getElem?_getD]
   | false=>rfl
  split
  ·exact h4
  ·rw[List.getD_eq_getElem?_getD,List.getElem?_set_ne (by omega),←List.getD_eq_getElem?_getD];exact h4
 have g4:(putL mk nu (sB H x c) (kB X t y) (sealN H (mapL se)) (sealN H (logL nu ho))).getD 4 []=bif mk then sealN H (mapL se) else []:=by
  unfold putL
  have h4:(putL4 mk (sB H x c) (kB X t y) (sealN H (mapL se))).getD 4 []=bif mk then sealN H (mapL se) else []:=by cases mk<;>rfl
  split
  ·exact h4
  ·rw[List.getD_eq_getElem?_getD,List.getElem?_set_ne (by omega),←List.getD_eq_getElem?_getD];exact h4
 have g5:∀i,i<4→(putL mk nu (sB H x c) (kB X t y) (sealN H (mapL se)) (sealN H (logL nu ho))).getD (5+i) []=if nu≠0∧nu % 4=i then sealN H (logL nu ho) else []:=fun i hi=>by
  unfold putL
  have h4:(putL4 mk (sB H x c) (kB X t y) (sealN H (mapL se))).getD (5+i) []=[]:=by
   match i,hi with
   | 0,_=>cases mk<;>rfl
   | 1,_=>cases mk<;>rfl
   | 2,_=>cases mk<;>rfl
   | 3,_=>cases mk<;>rfl
  by_cases h0:nu=0
  ·rw[if_pos h0,if_neg (fun h=>h.1 h0)];exact h4
  ·rw[if_neg h0]
   by_cases h1:nu % 4=i
   ·rw[if_pos ⟨h0,h1⟩,h1,List.getD_eq_getElem?_getD,List.getElem?_set_self (by rw[putL4_len];omega)];rfl
   ·rw[if_neg (fun h=>h1 h.2),List.getD_eq_getElem?_getD,List.getElem?_set_ne (by omega),←List.getD_eq_getElem?_getD];exact h4
 have b0:b 0=blV (sB H x c):=by rw[hb 0 (by decide),g 0 (by decide)];rfl
 have b1:b 1=blV []:=by rw[hb 1 (by decide),g 1 (by decide)];rfl
 have b2:b 2=blV (kB X t y):=by rw[hb 2 (by decide),g 2 (by decide)];rfl
 have b3:b 3=blV []:=by rw[hb 3 (by decide),g 3 (by decide)];rfl
 obtain⟨s1,s2,s3⟩:=sB_is (H:=H) (c:=c) U hsm
 obtain⟨k1,k2,k3⟩:=kB_is (X:=X) ht hy h17 h18 hrm
 have hnS:nS H b=0:=by unfold nS;rw[b0,b1,s1,iS_zero];rfl
 have hnK:nK X b=0:=by unfold nK;rw[b2,b3,k1,iK_zero];rfl
 have e1:sL (LSx H b) (LSc H b)=sL x c:=by
  have q:∀i,i<6→LSx H b i=x i:=fun i hi=>by unfold LSx;rw[hnS,b0];exact s2 i hi
  have q2:LSc H b=c:=by unfold LSc;rw[hnS,b0];exact s3
  unfold sL
  rw[q 0 (by decide),q 1 (by decide),q 2 (by decide),q 3 (by decide),q 4 (by decide),q 5 (by decide),q2]
 have e2:rL (LKx X b)=rL y:=by
  have q:∀i,i<19→LKx X b i=y i:=fun i hi=>by unfold LKx;rw[hnK,b2];exact k2 i hi
  unfold rL
  simp only[q 0 (by decide),q 1 (by decide),q 2 (by decide),q 3 (by decide),q 4 (by decide),q 5 (by decide),q 6 (by decide),q 7 (by decide),q 8 (by decide),q 9 (by decide),q 10 (by decide),q 11 (by decide),q 12 (by decide),q 13 (by decide),q 14 (by decide),q 15 (by decide),q 16 (by decide),q 17 (by decide),q 18 (by decide)]
 have e3:LKq X b=t:=by unfold LKq;rw[hnK,b2];exact k3
 have e4:mkM H b k=mk∧seM H b k=se:=by
  have b4:b 4=blV (bif mk then sealN H (mapL se) else []):=by rw[hb 4 (by decide),g4]
  cases mk with
  | true =>
   obtain⟨m1,m2⟩:=iM_is (H:=H) hse
   have b4:b 4=blV (sealN H (mapL se)):=b4
   have e:mkM H b k=true:=by unfold mkM;rw[b4,m1,m2,hbey];rfl
   refine⟨e,?_⟩
   unfold seM
   rw[e,b4];exact m2
  | false =>
   have b4:b 4=blV []:=b4
   have e:mkM H b k=false:=by unfold mkM;rw[b4,iM_zero];rfl
   refine⟨e,?_⟩
   unfold seM
   rw[e]
   simp only[Bool.false_or,decide_eq_true_eq] at hms
   exact hms.symm
 have e5:hotF H b 4=(nu,ho):=by
  obtain⟨l1,l2,l3⟩:=iL_is (H:=H) hnu hho
  by_cases h0:nu=0
  ·have hz:∀i,i<4→b (5+i)=blV []:=fun i hi=>by rw[hb (5+i) (by omega),g5 i hi,if_neg (fun h=>h.1 h0)]
   have key:∀i,i≤4→hotF H b i=(0,0):=by
    intro i
    induction i with
    | zero=>intro _;rfl
    | succ i ih =>
     intro hi
     simp only[hotF]
     unfold stepN
     rw[hz i (by omega),iL_zero,ih (by omega)];rfl
   have hh:ho=0:=by simpa [h0] using hnh
   rw[key 4 (Nat.le_refl 4),h0,hh]
  ·have hz:∀i,i<4→nu % 4≠i→b (5+i)=blV []:=fun i hi hne=>by rw[hb (5+i) (by omega),g5 i hi,if_neg (fun h=>hne h.2)]
   have hs:b (5+nu % 4)=blV (sealN H (logL nu ho)):=by rw[hb _ (by omega),g5 _ (by omega),if_pos ⟨h0,rfl⟩]
   have key:∀i,i≤4→hotF H b i=if nu % 4<i then (nu,ho) else (0,0):=by
    intro i
    induction i with
    | zero=>intro _;rfl
    | succ i ih =>
     intro hi
     simp only[hotF]
     unfold stepN
     by_cases hq:nu % 4=i
     ·have hs':=hs
      rw[hq] at hs'
      rw[hs',l1,l2,l3,ih (by omega),if_neg (by omega),decide_eq_true hq,decide_eq_true (show (0,0).1<nu by show 0<nu;omega),if_pos (by omega)];rfl
     ·rw[hz i (by omega) hq,iL_zero,ih (by omega)]
      by_cases hlt:nu % 4<i
      ·rw[if_pos hlt,if_pos (by omega)];rfl
      ·rw[if_neg hlt,if_neg (by omega)];rfl
   rw[key 4 (Nat.le_refl 4),if_pos (by omega)]
 have hsays:says H X b=true:=by
  unfold says LSe LKe
  rw[hnS,hnK];rfl
 unfold takeV
 rw[hsays]
 show AV.tuple [.agg (metaL H X b k),_]=_
 unfold metaL mL
 rw[e1,e2,e3,e4.1,e4.2,e5]
end
end Go.Proofs.YtiafochainjglaaGreatDoor.drp.pu
end
