/-
  OWN WORK, A PART: an abstract machine for the program's text that the kernel can run, and the proof that it is sound: what it answers is what the program answers; contracts of functions by it. No condition.
-/
import Derived.Test.YtiafochainjglaaGreatDoorMtC
import Derived.Test.YtiafochainjglaaGreatDoorMtD
import Derived.Test.YtiafochainjglaaGreatDoorMtB
import Derived.Test.YtiafochainjglaaGreatDoorMtA
import Derived.KernelRfl
section
open Go Go.Ax Go.Proofs
namespace Go.Proofs.YtiafochainjglaaGreatDoor.drp
open cd cd2 cd3 cd4 cd5 cd9
set_option linter.unusedVariables false
def unC:AV→Nat
 | .int _ (.ofNat n)=>n
 | _=>0
theorem un_bl (B:List Nat):(bl B).map unC=blV B:=by
 rw[bl_V,List.map_map]
 have:(unC∘cellU)=id:=by funext x;rfl
 rw[this,List.map_id]
theorem blV_get (B:List Nat) {i:Nat} (h:i<256):(blV B).getD i 0=B.getD i 0:=by
 unfold blV;simp[h]
theorem blV_out (B:List Nat) {i:Nat} (h:256≤i):(blV B).getD i 0=0:=by
 rw[List.getD_eq_getElem?_getD,List.getElem?_eq_none (by rw[blV_len];exact h)];rfl
theorem blV_idem (B:List Nat):blV (blV B)=blV B:=blV_full (blV_len B)
theorem bl_blV (B:List Nat):bl (blV B)=bl B:=by rw[bl_V,blV_idem,←bl_V]
theorem blV_by {B:List Nat} (h:∀i,B.getD i 0<256) (i:Nat):(blV B).getD i 0<256:=by
 rcases Nat.lt_or_ge i 256 with hi | hi
 ·rw[blV_get B hi];exact h i
 ·rw[blV_out B hi];decide
structure Bk (B:List Nat):Prop where
 full:blV B=B
 byt:∀i,B.getD i 0<256
noncomputable def blkC (k:Nat) (out:List Nat→AV):CallT:=fun f args st=>open Classical in match args with
 | [.agg l]=>if f=k∧Bk (l.map unC)∧l=bl (l.map unC) then some (out (l.map unC),st) else none
 | _=>none
theorem blkC_ok {k:Nat} {out:List Nat→AV} (h:∀B,(∀i,B.getD i 0<256)→∀S,Call1 Tryz.prog k [.agg (bl B)] S (out B,S)):CallsOK Tryz.prog (blkC k out):=fun B0 w0 f args st r hr ι w args' hsr hv=>by
 unfold blkC at hr
 split at hr
 ·rename_i l
  split at hr
  ·rename_i hh
   obtain⟨rfl,hb,hl⟩:=hh
   simp only[Option.some.injEq] at hr
   subst hr
   have:=h _ hb.byt st
   rw[←hl] at this
   exact this B0 w0 ι w args' hsr hv
  ·cases hr
 ·cases hr
theorem blkC_at {k:Nat} {out:List Nat→AV} {B:List Nat} (hB:Bk B) (S:ASt):blkC k out k [.agg (bl B)] S=some (out B,S):=by
 have e:(bl B).map unC=B:=(un_bl B).trans hB.full
 show (open Classical in if k=k∧Bk ((bl B).map unC)∧bl B=bl ((bl B).map unC) then some (out ((bl B).map unC),S) else none)=_
 rw[if_pos ⟨rfl,by rw[e];exact hB,by rw[e]⟩,e]
section
variable (H:List Nat→Nat→Nat) (X:List Nat→Nat) (B:List Nat)
def sL (x:Nat→Nat) (c:Bool):List AV:=[.int .i64 (.ofNat (x 0)),.bool c,.int .u64 (.ofNat (x 1)),.int .u64 (.ofNat (x 2)),.int .u64 (.ofNat (x 3)),.int .u64 (.ofNat (x 4)),.int .u64 (.ofNat (x 5))]
def rL (y:Nat→Nat):List AV:=[.int .u64 (.ofNat (y 0)),.int .u64 (.ofNat (y 1)),.int .u64 (.ofNat (y 2)),.int .u64 (.ofNat (y 3)),.int .u64 (.ofNat (y 4)),.int .u64 (.ofNat (y 5)),.int .u64 (.ofNat (y 6)),.int .u64 (.ofNat (y 7)),.int .u64 (.ofNat (y 8)),.int .u64 (.ofNat (y 9)),.int .u64 (.ofNat (y 10)),.int .u64 (.ofNat (y 11)),.int .u64 (.ofNat (y 12)),.int .u64 (.ofNat (y 13)),.int .u64 (.ofNat (y 14)),.int .u64 (.ofNat (y 15)),.int .u64 (.ofNat (y 16)),.int .i64 (.ofNat (y 17)),.int .i64 (.ofNat (y 18))]
def iS:Bool:=supM (pn B 4 1) (pn B 14 8) (pn B 22 8) && decide (blV (sealN H (supR B))=blV B)
def iK:Bool:=resOk X B
def iM:Bool:=decide (blV (sealN H (mapL (pn B 4 8)))=blV B)
def iL:Bool:=decide (blV (sealN H (logL (pn B 4 8) (logS B)))=blV B)
def sF:Nat→Nat
 | 0=>pn B 4 1
 | 1=>pn B 14 8
 | 2=>pn B 22 8
 | 3=>pn B 30 8
 | 4=>pn B 38 8
 | _=>pn B 6 8
def sX (k:Nat):Nat:=cond (iS H B) (sF B k) 0
def sC:Bool:=iS H B && supC B
def rF (k:Nat):Nat:=if k=0 then pn B 12 8 else if k=17 then pn B 20 1 else if k=18 then pn B 21 1 else rY B (k - 1)
def rX (k:Nat):Nat:=cond (iK X B) (rF B k) 0
def rQ:Nat:=cond (iK X B) (pn B 4 8) 0
def mX:Nat:=cond (iM H B) (pn B 4 8) 0
def lN:Nat:=cond (iL H B) (pn B 4 8) 0
def lS:Nat:=cond (iL H B) (logS B) 0
def er (b:Bool):AV:=.int .i64 (.ofNat (cond b 0 4))
def outSo:AV:=.tuple [.agg (sL (sX H B) (sC H B)),er (iS H B)]
def outKo:AV:=.tuple [.agg (rL (rX X B)),.int .u64 (.ofNat (rQ X B)),er (iK X B)]
def outMo:AV:=.tuple [.int .u64 (.ofNat (mX H B)),er (iM H B)]
def outLo:AV:=.tuple [.int .u64 (.ofNat (lN H B)),.int .u16 (.ofNat (lS H B)),er (iL H B)]
end
section
variable {q q2:CallT} {H:List Nat→Nat→Nat} {X:List Nat→Nat}
theorem so_at (hS:Sums q H) (B:List Nat) (hB:∀i,B.getD i 0<256) (S:ASt):Call1 Tryz.prog 169 [.agg (bl B)] S (outSo H B,S):=by
 unfold outSo sX sC
 cases h:iS H B
 ·unfold iS at h
  cases hm:supM (pn B 4 1) (pn B 14 8) (pn B 22 8)
  ·exact ofSn hS (supOwn hS) eqB_ok hB hm S
  ·rw[hm,Bool.true_and] at h
   exact ofSf hS (supOwn hS) eqB_ok hB hm h S
 ·unfold iS at h
  rw[Bool.and_eq_true] at h
  exact ofSt hS (supOwn hS) eqB_ok hB h.1 h.2 S
theorem ko_at (hS:Shorts q X) (B:List Nat) (hB:∀i,B.getD i 0<256) (S:ASt):Call1 Tryz.prog 200 [.agg (bl B)] S (outKo X B,S):=by
 have h0:=ofKO hS hB S
 unfold outO at h0
 unfold outKo rX rQ iK
 cases h:resOk X B
 ·rw[if_neg (by rw[h];decide)] at h0;exact h0
 ·rw[if_pos h] at h0;exact h0
theorem mo_at (hS:Sums q H) (B:List Nat) (hB:∀i,B.getD i 0<256) (S:ASt):Call1 Tryz.prog 57 [.agg (bl B)] S (outMo H B,S):=by
 haveI:Decidable (mapIs H B):=Classical.propDecidable _
 have h0:=ofMap_own hS eqB_ok hB S
 unfold outMo mX
 cases h:iM H B
 ·rw[if_neg (show ¬mapIs H B from (of_decide_eq_false h:¬(blV (sealN H (mapL (pn B 4 8)))=blV B)))] at h0;exact h0
 ·rw[if_pos (show mapIs H B from (of_decide_eq_true h:blV (sealN H (mapL (pn B 4 8)))=blV B))] at h0;exact h0
theorem lo_at (hS:Sums q H) (B:List Nat) (hB:∀i,B.getD i 0<256) (S:ASt):Call1 Tryz.prog 59 [.agg (bl B)] S (outLo H B,S):=by
 haveI:Decidable (logIs H B):=Classical.propDecidable _
 have h0:=ofLog_own hS eqB_ok hB S
 unfold outLo lN lS
 cases h:iL H B
 ·rw[if_neg (show ¬logIs H B from (of_decide_eq_false h:¬(blV (sealN H (logL (pn B 4 8) (logS B)))=blV B)))] at h0;exact h0
 ·rw[if_pos (show logIs H B from (of_decide_eq_true h:blV (sealN H (logL (pn B 4 8) (logS B)))=blV B))] at h0;exact h0
end
open dsk in
structure Dsk (S:ASt) (d:Nat) (las:List (List Nat)) (es:List En):Prop where
 ex:∃l m ck,Disk S d l m las es ck
 tidy:Tidy S
 few:∀i,(vers es i).length<1000000
 byt:∀i j,(curB las es i).getD j 0<256
theorem Dsk.over {S X:ASt} {d:Nat} {las:List (List Nat)} {es:List dsk.En} {l:List (Nat×AO)} (h:Dsk S d las es) (o:Ov S X l):Dsk X d las es:=by
 obtain⟨⟨a,b,c,hd⟩,ht,hf,hb⟩:=h
 exact⟨⟨a,b,c,hd.keep ht o.old⟩,o.tidy,hf,hb⟩
def nb (las:List (List Nat)) (es:List dsk.En) (i:Nat):List Nat:=blV (dsk.curB las es i)
theorem Dsk.bk {S:ASt} {d:Nat} {las:List (List Nat)} {es:List dsk.En} (h:Dsk S d las es) (i:Nat):Bk (nb las es i):=⟨blV_idem _,blV_by (h.byt i)⟩
theorem read_p {S:ASt} {d i:Nat} {las:List (List Nat)} {es:List dsk.En} (h:Dsk S d las es) (hi:i<las.length):Call1 Tryz.prog 56 [.ptr (some (d,0)),.int .i64 (.ofNat i)] S (.tuple [.agg (bl (nb las es i)),.int .i64 (.ofNat 0)],S):=by
 obtain⟨l,m,ck,hd⟩:=h.ex
 obtain⟨S',hc,_,_,hk⟩:=dsk.read_at hd h.tidy hi (h.few i)
 unfold nb
 rw[bl_blV]
 refine Call1.drop hc hk ?_
 have:=tup2 (a:=.agg (bl (dsk.curB las es i))) (b:=.int .i64 (.ofNat 0)) (blP _) (by simp[refsV])
 simp only[refsV] at this ⊢
 intro c hcc
 simp only[List.mem_cons,List.not_mem_nil,or_false] at hcc
 rcases hcc with rfl | rfl
 ·simp only[refsV];intro x hx
  have:=bl_refs _ x hx
  unfold bl at hx
  obtain⟨y,_,rfl⟩:=List.mem_map.1 hx
  simp[cellU,refsV]
 ·simp[refsV]
end Go.Proofs.YtiafochainjglaaGreatDoor.drp
end

section
open Go Go.Ax Go.Proofs
namespace Go.Proofs.YtiafochainjglaaGreatDoor.drp
open dsk
set_option linter.unusedVariables false
noncomputable def fnsQ:List (Nat×Func):=[(121,Tryz.f121),(54,Tryz.f54),(170,Tryz.f170),(122,Tryz.f122),(55,Tryz.f55),(53,Tryz.f53),(120,Tryz.f120),(73,Tryz.f73),(64,Tryz.f64)]
noncomputable def EQ:Env:=envEx Tryz.prog [0,3,4,5,23,24,25,27,28,29,30,31,32,33,35,36,37,43,54,60,102,103,104,111,170,173] fnsQ []
def fl0:Fl:=⟨[],[],[],[]⟩
def zS:List AV:=sL (fun _=>0) false
def zR:List AV:=rL (fun _=>0)
def zU:List AV:=[.int .u64 (.ofNat 0)]
noncomputable def cSl:Code:=Option.getD Tryz.f121.body .skip
noncomputable def tSl (q:CallT) (d n k0 k1 k2 k3 k4 k5 k6:Nat) (B0 B1:List Nat) (x0 x1:Nat→Nat) (c0 c1:Bool) (e0 e1:Int) (g:Bool) (S S1 S2 S3 S4 S5 S6 S8 S9 S10 S11 S12 S14 S15 S16 S17 S18 S19 S20 S21 S23 S24:ASt):Tr (Exit×AFr×ASt):=(TM EQ (onlyC [56,73,169] q) [] fl0 60).ex ⟨[2,11,12,26,6,34,35,8,39,48,52,53,58,4095,4094],[],[42,53],[]⟩ none cSl {m:=putArgs [pO d] 0 .e,n:=60,defs:=[]} S
noncomputable def cL0:Code:=Option.getD Tryz.f54.body .skip
noncomputable def tL0 (q:CallT) (d k0 k1:Nat) (x0 x1:Nat→Nat) (c0 c1:Bool) (S S1 S2 S3 S4:ASt):Tr (Exit×AFr×ASt):=(TM EQ (onlyC [121] q) [] fl0 60).ex ⟨[2,9,4,24,4095,4094],[],[],[]⟩ none cL0 {m:=putArgs [pO d] 0 .e,n:=25,defs:=[]} S
noncomputable def cL1:Code:=Option.getD Tryz.f54.body .skip
noncomputable def tL1 (q:CallT) (d k0 k1:Nat) (x0 x1:Nat→Nat) (c0 c1:Bool) (S S1 S2 S3 S4:ASt):Tr (Exit×AFr×ASt):=(TM EQ (onlyC [121] q) [] fl0 60).ex ⟨[2,9,4,24,4095,4094],[],[],[]⟩ none cL1 {m:=putArgs [pO d] 0 .e,n:=25,defs:=[]} S
noncomputable def cLn:Code:=Option.getD Tryz.f54.body .skip
noncomputable def tLn (q:CallT) (d k0 k1:Nat) (x0 x1:Nat→Nat) (c0 c1:Bool) (S S1 S2 S3 S4:ASt):Tr (Exit×AFr×ASt):=(TM EQ (onlyC [121] q) [] fl0 60).ex ⟨[2,9,4,24,4095,4094],[],[],[]⟩ none cLn {m:=putArgs [pO d] 0 .e,n:=25,defs:=[]} S
noncomputable def cSo:Code:=Option.getD Tryz.f170.body .skip
noncomputable def tSo (q:CallT) (d i k0 k1 k2 q0:Nat) (B0:List Nat) (x0:Nat→Nat) (e0:Int) (i0:Bool) (S S1 S2 S3 S4 S5 S6:ASt):Tr (Exit×AFr×ASt):=(TM EQ (onlyC [56,200] q) [] fl0 60).ex ⟨[4,15,8,23,24,10,28,31,4095,4094],[],[],[]⟩ none cSo {m:=putArgs [pO d,nI i] 0 .e,n:=32,defs:=[]} S
noncomputable def cBo:Code:=Option.getD Tryz.f122.body .skip
noncomputable def tBo (q:CallT) (d n k0 k1 q0 q1:Nat) (x0 x1:Nat→Nat) (i0 i1 g:Bool) (S S1 S2 S3 S4 S6 S7 S10 S11 S13 S14 S15 S16 S19 S20 S21 S22 S24 S25 S28 S29 S30 S31 S34 S35:ASt):Tr (Exit×AFr×ASt):=(TM EQ (onlyC [73,170] q) [] fl0 60).ex ⟨[4,5,12,13,23,24,25,40,59,62,63,68,69,4095,4094],[],[43,63],[]⟩ none cBo {m:=putArgs [pO d,nI 2] 0 .e,n:=71,defs:=[]} S
noncomputable def cK0:Code:=Option.getD Tryz.f55.body .skip
noncomputable def tK0 (q:CallT) (d k0 k1 k2 q0 q1:Nat) (x0 x1:Nat→Nat) (S S1 S2 S3 S4 S5 S7:ASt):Tr (Exit×AFr×ASt):=(TM EQ (onlyC [122] q) [] fl0 60).ex ⟨[4,14,7,8,31,34,4095,4094],[],[],[]⟩ none cK0 {m:=putArgs [pO d,nI 2] 0 .e,n:=35,defs:=[]} S
noncomputable def cK1:Code:=Option.getD Tryz.f55.body .skip
noncomputable def tK1 (q:CallT) (d k0 k1 k2 q0 q1:Nat) (x0 x1:Nat→Nat) (S S1 S2 S3 S4 S5 S7:ASt):Tr (Exit×AFr×ASt):=(TM EQ (onlyC [122] q) [] fl0 60).ex ⟨[4,14,7,8,31,34,4095,4094],[],[],[]⟩ none cK1 {m:=putArgs [pO d,nI 2] 0 .e,n:=35,defs:=[]} S
noncomputable def cKn:Code:=Option.getD Tryz.f55.body .skip
noncomputable def tKn (q:CallT) (d k0 k1 k2 q0 q1:Nat) (x0 x1:Nat→Nat) (S S1 S2 S3 S4 S5 S6:ASt):Tr (Exit×AFr×ASt):=(TM EQ (onlyC [122] q) [] fl0 60).ex ⟨[4,14,7,8,31,34,4095,4094],[],[],[]⟩ none cKn {m:=putArgs [pO d,nI 2] 0 .e,n:=35,defs:=[]} S
noncomputable abbrev kCeG_1 (a b c:Nat):=aLoad EQ a (AV.ptr (some (b,c)))
noncomputable abbrev kCeG_2 (a:ASt) (b:Nat):=ASt.mk a.h (a.next+b)
noncomputable abbrev kCeG_3 (a b:Nat):List AV:=[.ptr (some (a,0)),.int .i64 (.ofNat b)]
noncomputable abbrev kCeG_4 (a:Nat):=AV.int .u64 (.ofNat a)
noncomputable abbrev kCeG_7 (a:Nat):=AV.int .i64 (.ofNat a)
noncomputable abbrev kCeG_8 (a b:Nat) (c:Nat→Nat) (d:Bool) (e:ASt):=aStore EQ 29 (AV.ptr (some (a,b))) (AV.agg (sL c d)) e
noncomputable abbrev kCeG_11 (a:CallT) (b:Nat):=M EQ (drawA EQ) (onlyC [56,73,169] a) b
noncomputable abbrev kCeG_12 (a:Nat) (b:Nat→Nat) (c:Bool) (d:Nat→Nat) (e:Bool) (f:ASt):=aStore EQ 170 (AV.ptr (some (a,0))) (AV.agg (sL b c++sL d e)) (kCeG_2 f 15)
noncomputable abbrev kCeG_14 (a:List Nat):=AV.tuple [AV.agg (bl a),AV.int .i64 (.ofNat 0)]
theorem vcSl (q:CallT) (d n k0 k1 k2 k3 k4 k5 k6:Nat) (B0 B1:List Nat) (x0 x1:Nat→Nat) (c0 c1:Bool) (e0 e1:Int) (g:Bool) (S S1 S2 S3 S4 S5 S6 S8 S9 S10 S11 S12 S14 S15 S16 S17 S18 S19 S20 S21 S23 S24:ASt) (Q:Exit×AFr×ASt→Prop) :
 Vq (tSl q d n k0 k1 k2 k3 k4 k5 k6 B0 B1 x0 x1 c0 c1 e0 e1 g S S1 S2 S3 S4 S5 S6 S8 S9 S10 S11 S12 S14 S15 S16 S17 S18 S19 S20 S21 S23 S24) (fun r=>Q (rawR [2,3,4] r)) (aa (aAlloc EQ 170 S) (.ptr (some (k0,0)),S1) (al ((kCeG_11 q 55).call 73 [.ptr (some (d,0))]) S1 (kCeG_7 n) (as_ S1 (aBin EQ .lss 3 (.tmp 11) (.const (.int .i64 2)) (kCeG_7 n) (kCeG_7 2)) (.bool false) (al ((kCeG_11 q 46).call 56 (kCeG_3 d 0)) S1 (kCeG_14 B0) (aa (aAlloc EQ 54 S1) (.ptr (some (k1,0)),S2) (aa (Option.map (fun s=>(undefA,s)) (aStore EQ 54 (.ptr (some (k1,0))) (.agg (bl B0)) S2)) (.tuple [],S3) (al (kCeG_1 54 k1 0) S3 (.agg (bl B0)) (al ((kCeG_11 q 44).call 169 [.agg (bl B0)]) S3 (.tuple [.agg (sL x0 c0),.int .i64 e0]) (aa (aAlloc EQ 29 S3) (.ptr (some (k2,0)),S4) (aa (Option.map (fun s=>(undefA,s)) (kCeG_8 k2 0 x0 c0 S4)) (.tuple [],S5) (al (kCeG_1 29 k2 0) S5 (.agg (sL x0 c0)) (aa (Option.map (fun s=>(undefA,s)) (kCeG_8 k0 0 x0 c0 S5)) (.tuple [],S6) (ai (eqF e0 (.ofNat 0)) (al ((kCeG_11 q 46).call 56 (kCeG_3 d 1)) (kCeG_2 S6 15) (kCeG_14 B1) (aa (aAlloc EQ 54 (kCeG_2 S6 15)) (.ptr (some (k3,0)),S8) (aa (Option.map (fun s=>(undefA,s)) (aStore EQ 54 (.ptr (some (k3,0))) (.agg (bl B1)) S8)) (.tuple [],S9) (al (kCeG_1 54 k3 0) S9 (.agg (bl B1)) (al ((kCeG_11 q 44).call 169 [.agg (bl B1)]) S9 (.tuple [.agg (sL x1 c1),.int .i64 e1]) (aa (aAlloc EQ 29 S9) (.ptr (some (k4,0)),S10) (aa (Option.map (fun s=>(undefA,s)) (kCeG_8 k4 0 x1 c1 S10)) (.tuple [],S11) (al (kCeG_1 29 k4 0) S11 (.agg (sL x1 c1)) (aa (Option.map (fun s=>(undefA,s)) (kCeG_8 k0 7 x1 c1 S11)) (.tuple [],S12) (ai (eqF e1 (.ofNat 0)) (al (kCeG_1 24 k4 6) (kCeG_2 S12 15) (kCeG_4 (x1 5)) (al (kCeG_1 24 k0 6) (kCeG_2 S12 15) (kCeG_4 (x0 5)) (as_ (kCeG_2 S12 15) (aBin EQ .gtr 24 (.tmp 48) (.tmp 52) (kCeG_4 (x1 5)) (kCeG_4 (x0 5))) (.bool g) (ai g (al (kCeG_1 170 k0 0) (kCeG_2 S12 15) (.agg (sL x0 c0++sL x1 c1)) (aa (Option.map (fun s=>(undefA,s)) (kCeG_12 k0 x0 c0 x1 c1 S12)) (.tuple [],S14) (aq (Q (.ret,xFr [(2,.ptr (some (k0,0))),(3,.int .i64 (.ofNat 1)),(4,.int .i64 (.ofNat 0))] 60,S14))))) (al (kCeG_1 170 k0 0) (kCeG_2 S12 15) (.agg (sL x0 c0++sL x1 c1)) (aa (Option.map (fun s=>(undefA,s)) (kCeG_12 k0 x0 c0 x1 c1 S12)) (.tuple [],S15) (aq (Q (.ret,xFr [(2,.ptr (some (k0,0))),(3,.int .i64 (.ofNat 0)),(4,.int .i64 (.ofNat 0))] 60,S15))))))))) (al (kCeG_1 170 k0 0) (kCeG_2 S12 15) (.agg (sL x0 c0++sL x1 c1)) (aa (Option.map (fun s=>(undefA,s)) (kCeG_12 k0 x0 c0 x1 c1 S12)) (.tuple [],S16) (aq (Q (.ret,xFr [(2,.ptr (some (k0,0))),(3,.int .i64 (.ofNat 0)),(4,.int .i64 (.ofNat 0))] 60,S16))))))))))))))) (al ((kCeG_11 q 46).call 56 (kCeG_3 d 1)) (kCeG_2 S6 15) (kCeG_14 B1) (aa (aAlloc EQ 54 (kCeG_2 S6 15)) (.ptr (some (k5,0)),S17) (aa (Option.map (fun s=>(undefA,s)) (aStore EQ 54 (.ptr (some (k5,0))) (.agg (bl B1)) S17)) (.tuple [],S18) (al (kCeG_1 54 k5 0) S18 (.agg (bl B1)) (al ((kCeG_11 q 44).call 169 [.agg (bl B1)]) S18 (.tuple [.agg (sL x1 c1),.int .i64 e1]) (aa (aAlloc EQ 29 S18) (.ptr (some (k6,0)),S19) (aa (Option.map (fun s=>(undefA,s)) (kCeG_8 k6 0 x1 c1 S19)) (.tuple [],S20) (al (kCeG_1 29 k6 0) S20 (.agg (sL x1 c1)) (aa (Option.map (fun s=>(undefA,s)) (kCeG_8 k0 7 x1 c1 S20)) (.tuple [],S21) (ai (eqF e1 (.ofNat 0)) (al (kCeG_1 170 k0 0) (kCeG_2 S21 15) (.agg (sL x0 c0++sL x1 c1)) (aa (Option.map (fun s=>(undefA,s)) (kCeG_12 k0 x0 c0 x1 c1 S21)) (.tuple [],S23) (aq (Q (.ret,xFr [(2,.ptr (some (k0,0))),(3,.int .i64 (.ofNat 1)),(4,.int .i64 (.ofNat 0))] 60,S23))))) (al (kCeG_1 170 k0 0) (kCeG_2 S21 15) (.agg (sL x0 c0++sL x1 c1)) (aa (Option.map (fun s=>(undefA,s)) (kCeG_12 k0 x0 c0 x1 c1 S21)) (.tuple [],S24) (aq (Q (.ret,xFr [(2,.ptr (some (k0,0))),(3,.int .i64 (Int.negSucc 0)),(4,.int .i64 (.ofNat 0))] 60,S24)))))))))))))))))))))))))))):=vq (by kernel_rfl)
theorem vcL0 (q:CallT) (d k0 k1:Nat) (x0 x1:Nat→Nat) (c0 c1:Bool) (S S1 S2 S3 S4:ASt) (Q:Exit×AFr×ASt→Prop) :
 Vq (tL0 q d k0 k1 x0 x1 c0 c1 S S1 S2 S3 S4) (fun r=>Q (rawR [2,3] r)) (aa (aAlloc EQ 29 S) (.ptr (some (k0,0)),S1) (al ((M EQ (drawA EQ) (onlyC [121] q) 57).call 121 [.ptr (some (d,0))]) S1 (.tuple [.agg (sL x0 c0++sL x1 c1),.int .i64 (.ofNat 0),.int .i64 (.ofNat 0)]) (aa (aAlloc EQ 170 S1) (.ptr (some (k1,0)),S2) (aa (Option.map (fun s=>(undefA,s)) (aStore EQ 170 (.ptr (some (k1,0))) (.agg (sL x0 c0++sL x1 c1)) S2)) (.tuple [],S3) (al (kCeG_1 29 k1 0) S3 (.agg (sL x0 c0)) (aa (Option.map (fun s=>(undefA,s)) (kCeG_8 k0 0 x0 c0 S3)) (.tuple [],S4) (aq (Q (.ret,xFr [(2,.ptr (some (k0,0))),(3,.int .i64 (.ofNat 0))] 25,S4))))))))):=vq (by kernel_rfl)
theorem vcL1 (q:CallT) (d k0 k1:Nat) (x0 x1:Nat→Nat) (c0 c1:Bool) (S S1 S2 S3 S4:ASt) (Q:Exit×AFr×ASt→Prop) :
 Vq (tL1 q d k0 k1 x0 x1 c0 c1 S S1 S2 S3 S4) (fun r=>Q (rawR [2,3] r)) (aa (aAlloc EQ 29 S) (.ptr (some (k0,0)),S1) (al ((M EQ (drawA EQ) (onlyC [121] q) 57).call 121 [.ptr (some (d,0))]) S1 (.tuple [.agg (sL x0 c0++sL x1 c1),.int .i64 (.ofNat 1),.int .i64 (.ofNat 0)]) (aa (aAlloc EQ 170 S1) (.ptr (some (k1,0)),S2) (aa (Option.map (fun s=>(undefA,s)) (aStore EQ 170 (.ptr (some (k1,0))) (.agg (sL x0 c0++sL x1 c1)) S2)) (.tuple [],S3) (al (kCeG_1 29 k1 7) S3 (.agg (sL x1 c1)) (aa (Option.map (fun s=>(undefA,s)) (kCeG_8 k0 0 x1 c1 S3)) (.tuple [],S4) (aq (Q (.ret,xFr [(2,.ptr (some (k0,0))),(3,.int .i64 (.ofNat 0))] 25,S4))))))))):=vq (by kernel_rfl)
theorem vcLn (q:CallT) (d k0 k1:Nat) (x0 x1:Nat→Nat) (c0 c1:Bool) (S S1 S2 S3 S4:ASt) (Q:Exit×AFr×ASt→Prop) :
 Vq (tLn q d k0 k1 x0 x1 c0 c1 S S1 S2 S3 S4) (fun r=>Q (rawR [2,3] r)) (aa (aAlloc EQ 29 S) (.ptr (some (k0,0)),S1) (al ((M EQ (drawA EQ) (onlyC [121] q) 57).call 121 [.ptr (some (d,0))]) S1 (.tuple [.agg (sL x0 c0++sL x1 c1),.int .i64 (Int.negSucc 0),.int .i64 (.ofNat 0)]) (aa (aAlloc EQ 170 S1) (.ptr (some (k1,0)),S2) (aa (Option.map (fun s=>(undefA,s)) (aStore EQ 170 (.ptr (some (k1,0))) (.agg (sL x0 c0++sL x1 c1)) S2)) (.tuple [],S3) (aa (Option.map (fun s=>(undefA,s)) (aStore EQ 29 (.ptr (some (k0,0))) (.agg [.int .i64 (.ofNat 0),.bool false,.int .u64 (.ofNat 0),.int .u64 (.ofNat 0),.int .u64 (.ofNat 0),.int .u64 (.ofNat 0),.int .u64 (.ofNat 0)]) S3)) (.tuple [],S4) (aq (Q (.ret,xFr [(2,.ptr (some (k0,0))),(3,.int .i64 (.ofNat 6))] 25,S4)))))))):=vq (by kernel_rfl)
theorem vcSo (q:CallT) (d i k0 k1 k2 q0:Nat) (B0:List Nat) (x0:Nat→Nat) (e0:Int) (i0:Bool) (S S1 S2 S3 S4 S5 S6:ASt) (Q:Exit×AFr×ASt→Prop) :
 Vq (tSo q d i k0 k1 k2 q0 B0 x0 e0 i0 S S1 S2 S3 S4 S5 S6) (fun r=>Q (rawR [4,5,6,7] r)) (aa (aAlloc EQ 33 S) (.ptr (some (k0,0)),S1) (al ((M EQ (drawA EQ) (onlyC [56,200] q) 57).call 56 (kCeG_3 d i)) S1 (kCeG_14 B0) (aa (aAlloc EQ 54 S1) (.ptr (some (k1,0)),S2) (aa (Option.map (fun s=>(undefA,s)) (aStore EQ 54 (.ptr (some (k1,0))) (.agg (bl B0)) S2)) (.tuple [],S3) (al (kCeG_1 54 k1 0) S3 (.agg (bl B0)) (al ((M EQ (drawA EQ) (onlyC [56,200] q) 55).call 200 [.agg (bl B0)]) S3 (.tuple [.agg (rL x0),.int .u64 (.ofNat q0),.int .i64 e0]) (aa (aAlloc EQ 33 S3) (.ptr (some (k2,0)),S4) (aa (Option.map (fun s=>(undefA,s)) (aStore EQ 33 (.ptr (some (k2,0))) (.agg (rL x0)) S4)) (.tuple [],S5) (al (kCeG_1 33 k2 0) S5 (.agg (rL x0)) (as_ S5 (aBin EQ .eql 37 (.tmp 30) (.const (.int .i64 0)) (.int .i64 e0) (kCeG_7 0)) (.bool i0) (aa (Option.map (fun s=>(undefA,s)) (aStore EQ 33 (.ptr (some (k0,0))) (.agg (rL x0)) S5)) (.tuple [],S6) (aq (Q (.ret,xFr [(4,.ptr (some (k0,0))),(5,.int .u64 (.ofNat q0)),(6,.bool i0),(7,.int .i64 (.ofNat 0))] 32,S6)))))))))))))):=vq (by kernel_rfl)
noncomputable abbrev kCeG_0 (a b:Nat):List AV:=[.int .u64 (.ofNat a),.int .u64 (.ofNat b)]
noncomputable abbrev kCeG_5 (a:ASt):=ASt.mk a.h (a.next+14+7)
noncomputable abbrev kCeG_6 (a b c:Nat) (d:ASt):=aStore EQ 25 (AV.ptr (some (a,0))) (AV.agg (kCeG_0 b c)) d
noncomputable abbrev kCeG_9 (a b:Nat) (c:Nat→Nat) (d:ASt) (e:Nat):=aStore EQ 33 (AV.ptr (some (a,b))) (AV.agg (rL c)) (kCeG_2 d e)
noncomputable abbrev kCeG_10 (a:Nat) (b c:Nat→Nat) (d:ASt):=aStore EQ 173 (AV.ptr (some (a,0))) (AV.agg (rL b++rL c)) (kCeG_5 d)
noncomputable abbrev kCeG_13 (a:Nat→Nat) (b:Nat) (c:Bool):=AV.tuple [AV.agg (rL a),AV.int .u64 (.ofNat b),AV.bool c,AV.int .i64 (.ofNat 0)]
noncomputable abbrev kCeG_15 (a b c:Nat) (d:ASt):=aStore EQ 24 (AV.ptr (some (a,b))) (kCeG_4 c) d
theorem vcBo (q:CallT) (d n k0 k1 q0 q1:Nat) (x0 x1:Nat→Nat) (i0 i1 g:Bool) (S S1 S2 S3 S4 S6 S7 S10 S11 S13 S14 S16 S17 S19 S20 S22 S23 S25 S26 S28 S29 S31 S32 S34 S35:ASt) (Q:Exit×AFr×ASt→Prop) :
 Vq (tBo q d n k0 k1 q0 q1 x0 x1 i0 i1 g S S1 S2 S3 S4 S6 S7 S10 S11 S13 S14 S16 S17 S19 S20 S22 S23 S25 S26 S28 S29 S31 S32 S34 S35) (fun r=>Q (rawR [4,5,6,7] r)) (aa (aAlloc EQ 173 S) (.ptr (some (k0,0)),S1) (aa (aAlloc EQ 25 S1) (.ptr (some (k1,0)),S2) (al ((M EQ (drawA EQ) (onlyC [73,170] q) 54).call 73 [.ptr (some (d,0))]) S2 (kCeG_7 n) (as_ S2 (aBin EQ .eql 3 (.tmp 12) (.const (.int .i64 0)) (kCeG_7 n) (kCeG_7 0)) (.bool false) (al ((M EQ (drawA EQ) (onlyC [73,170] q) 52).call 73 [.ptr (some (d,0))]) S2 (kCeG_7 n) (as_ S2 (aBin EQ .sub 3 (.tmp 23) (.const (.int .i64 1)) (kCeG_7 n) (kCeG_7 1)) (.int .i64 (.ofNat (n - 1))) (as_ S2 (aBin EQ .geq 3 (.tmp 21) (.tmp 24) (kCeG_7 2) (.int .i64 (.ofNat (n - 1)))) (.bool false) (al ((M EQ (drawA EQ) (onlyC [73,170] q) 44).call 170 (kCeG_3 d 2)) S2 (kCeG_13 x0 q0 i0) (ai i0 (aa (Option.map (fun s=>(undefA,s)) (aStore EQ 33 (.ptr (some (k0,0))) (.agg (rL x0)) S2)) (.tuple [],S3) (aa (Option.map (fun s=>(undefA,s)) (kCeG_15 k1 0 q0 S3)) (.tuple [],S4) (al ((M EQ (drawA EQ) (onlyC [73,170] q) 44).call 170 (kCeG_3 d 3)) (kCeG_2 S4 14) (kCeG_13 x1 q1 i1) (ai i1 (aa (Option.map (fun s=>(undefA,s)) (kCeG_9 k0 19 x1 S4 14)) (.tuple [],S6) (aa (Option.map (fun s=>(undefA,s)) (kCeG_15 k1 1 q1 S6)) (.tuple [],S7) (al (kCeG_1 24 k1 1) (kCeG_2 S7 14) (kCeG_4 q1) (al (kCeG_1 24 k1 0) (kCeG_2 S7 14) (kCeG_4 q0) (as_ (kCeG_2 S7 14) (aBin EQ .gtr 24 (.tmp 59) (.tmp 62) (kCeG_4 q1) (kCeG_4 q0)) (.bool g) (ai g (al (kCeG_1 173 k0 0) (kCeG_5 S7) (.agg (rL x0++rL x1)) (al (kCeG_1 25 k1 0) (kCeG_5 S7) (.agg (kCeG_0 q0 q1)) (aa (Option.map (fun s=>(undefA,s)) (kCeG_10 k0 x0 x1 S7)) (.tuple [],S10) (aa (Option.map (fun s=>(undefA,s)) (kCeG_6 k1 q0 q1 S10)) (.tuple [],S11) (ah (holdsO [(fstO (aLoad EQ 25 (.ptr (some (k1,0))) S10),.agg (kCeG_0 q0 q1))]) (aq (Q (.ret,xFr [(4,.ptr (some (k0,0))),(5,.ptr (some (k1,0))),(6,.int .i64 (.ofNat 1)),(7,.int .i64 (.ofNat 0))] 71,S11)))))))) (al (kCeG_1 173 k0 0) (kCeG_5 S7) (.agg (rL x0++rL x1)) (al (kCeG_1 25 k1 0) (kCeG_5 S7) (.agg (kCeG_0 q0 q1)) (aa (Option.map (fun s=>(undefA,s)) (kCeG_10 k0 x0 x1 S7)) (.tuple [],S13) (aa (Option.map (fun s=>(undefA,s)) (kCeG_6 k1 q0 q1 S13)) (.tuple [],S14) (ah (holdsO [(fstO (aLoad EQ 25 (.ptr (some (k1,0))) S13),.agg (kCeG_0 q0 q1))]) (aq (Q (.ret,xFr [(4,.ptr (some (k0,0))),(5,.ptr (some (k1,0))),(6,.int .i64 (.ofNat 0)),(7,.int .i64 (.ofNat 0))] 71,S14)))))))))))))) (aa (Option.map (fun s=>(undefA,s)) (kCeG_9 k0 19 x1 S4 14)) (.tuple [],S16) (aa (Option.map (fun s=>(undefA,s)) (kCeG_15 k1 1 q1 S16)) (.tuple [],S17) (al (kCeG_1 173 k0 0) (kCeG_5 S17) (.agg (rL x0++rL x1)) (al (kCeG_1 25 k1 0) (kCeG_5 S17) (.agg (kCeG_0 q0 q1)) (aa (Option.map (fun s=>(undefA,s)) (kCeG_10 k0 x0 x1 S17)) (.tuple [],S19) (aa (Option.map (fun s=>(undefA,s)) (kCeG_6 k1 q0 q1 S19)) (.tuple [],S20) (ah (holdsO [(fstO (aLoad EQ 25 (.ptr (some (k1,0))) S19),.agg (kCeG_0 q0 q1))]) (aq (Q (.ret,xFr [(4,.ptr (some (k0,0))),(5,.ptr (some (k1,0))),(6,.int .i64 (.ofNat 0)),(7,.int .i64 (.ofNat 0))] 71,S20)))))))))))))) (aa (Option.map (fun s=>(undefA,s)) (aStore EQ 33 (.ptr (some (k0,0))) (.agg (rL x0)) S2)) (.tuple [],S22) (aa (Option.map (fun s=>(undefA,s)) (kCeG_15 k1 0 q0 S22)) (.tuple [],S23) (al ((M EQ (drawA EQ) (onlyC [73,170] q) 44).call 170 (kCeG_3 d 3)) (kCeG_2 S23 14) (kCeG_13 x1 q1 i1) (ai i1 (aa (Option.map (fun s=>(undefA,s)) (kCeG_9 k0 19 x1 S23 14)) (.tuple [],S25) (aa (Option.map (fun s=>(undefA,s)) (kCeG_15 k1 1 q1 S25)) (.tuple [],S26) (al (kCeG_1 173 k0 0) (kCeG_5 S26) (.agg (rL x0++rL x1)) (al (kCeG_1 25 k1 0) (kCeG_5 S26) (.agg (kCeG_0 q0 q1)) (aa (Option.map (fun s=>(undefA,s)) (kCeG_10 k0 x0 x1 S26)) (.tuple [],S28) (aa (Option.map (fun s=>(undefA,s)) (kCeG_6 k1 q0 q1 S28)) (.tuple [],S29) (ah (holdsO [(fstO (aLoad EQ 25 (.ptr (some (k1,0))) S28),.agg (kCeG_0 q0 q1))]) (aq (Q (.ret,xFr [(4,.ptr (some (k0,0))),(5,.ptr (some (k1,0))),(6,.int .i64 (.ofNat 1)),(7,.int .i64 (.ofNat 0))] 71,S29)))))))))) (aa (Option.map (fun s=>(undefA,s)) (kCeG_9 k0 19 x1 S23 14)) (.tuple [],S31) (aa (Option.map (fun s=>(undefA,s)) (kCeG_15 k1 1 q1 S31)) (.tuple [],S32) (al (kCeG_1 173 k0 0) (kCeG_5 S32) (.agg (rL x0++rL x1)) (al (kCeG_1 25 k1 0) (kCeG_5 S32) (.agg (kCeG_0 q0 q1)) (aa (Option.map (fun s=>(undefA,s)) (kCeG_10 k0 x0 x1 S32)) (.tuple [],S34) (aa (Option.map (fun s=>(undefA,s)) (kCeG_6 k1 q0 q1 S34)) (.tuple [],S35) (ah (holdsO [(fstO (aLoad EQ 25 (.ptr (some (k1,0))) S34),.agg (kCeG_0 q0 q1))]) (aq (Q (.ret,xFr [(4,.ptr (some (k0,0))),(5,.ptr (some (k1,0))),(6,.int .i64 (Int.negSucc 0)),(7,.int .i64 (.ofNat 0))] 71,S35))))))))))))))))))))))):=vq (by kernel_rfl)
theorem vcK0 (q:CallT) (d k0 k1 k2 q0 q1:Nat) (x0 x1:Nat→Nat) (S S1 S2 S3 S4 S5 S6:ASt) (Q:Exit×AFr×ASt→Prop) :
 Vq (tK0 q d k0 k1 k2 q0 q1 x0 x1 S S1 S2 S3 S4 S5 S6) (fun r=>Q (rawR [4,5,6] r)) (aa (aAlloc EQ 33 S) (.ptr (some (k0,0)),S1) (al ((M EQ (drawA EQ) (onlyC [122] q) 57).call 122 (kCeG_3 d 2)) S1 (.tuple [.agg (rL x0++rL x1),.agg (kCeG_0 q0 q1),.int .i64 (.ofNat 0),.int .i64 (.ofNat 0)]) (aa (aAlloc EQ 173 S1) (.ptr (some (k1,0)),S2) (aa (aAlloc EQ 25 S2) (.ptr (some (k2,0)),S3) (aa (Option.map (fun s=>(undefA,s)) (aStore EQ 173 (.ptr (some (k1,0))) (.agg (rL x0++rL x1)) S3)) (.tuple [],S4) (aa (Option.map (fun s=>(undefA,s)) (kCeG_6 k2 q0 q1 S4)) (.tuple [],S5) (al (kCeG_1 33 k1 0) (kCeG_2 S5 9) (.agg (rL x0)) (al (kCeG_1 24 k2 0) (kCeG_2 S5 9) (kCeG_4 q0) (aa (Option.map (fun s=>(undefA,s)) (kCeG_9 k0 0 x0 S5 9)) (.tuple [],S6) (ah (holdsO [(fstO (aLoad EQ 24 (.ptr (some (k2,0))) S6),.int .u64 (.ofNat q0))]) (aq (Q (.ret,xFr [(4,.ptr (some (k0,0))),(5,.int .u64 (.ofNat q0)),(6,.int .i64 (.ofNat 0))] 35,S6))))))))))))):=vq (by kernel_rfl)
theorem vcK1 (q:CallT) (d k0 k1 k2 q0 q1:Nat) (x0 x1:Nat→Nat) (S S1 S2 S3 S4 S5 S6:ASt) (Q:Exit×AFr×ASt→Prop) :
 Vq (tK1 q d k0 k1 k2 q0 q1 x0 x1 S S1 S2 S3 S4 S5 S6) (fun r=>Q (rawR [4,5,6] r)) (aa (aAlloc EQ 33 S) (.ptr (some (k0,0)),S1) (al ((M EQ (drawA EQ) (onlyC [122] q) 57).call 122 (kCeG_3 d 2)) S1 (.tuple [.agg (rL x0++rL x1),.agg (kCeG_0 q0 q1),.int .i64 (.ofNat 1),.int .i64 (.ofNat 0)]) (aa (aAlloc EQ 173 S1) (.ptr (some (k1,0)),S2) (aa (aAlloc EQ 25 S2) (.ptr (some (k2,0)),S3) (aa (Option.map (fun s=>(undefA,s)) (aStore EQ 173 (.ptr (some (k1,0))) (.agg (rL x0++rL x1)) S3)) (.tuple [],S4) (aa (Option.map (fun s=>(undefA,s)) (kCeG_6 k2 q0 q1 S4)) (.tuple [],S5) (al (kCeG_1 33 k1 19) (kCeG_2 S5 9) (.agg (rL x1)) (al (kCeG_1 24 k2 1) (kCeG_2 S5 9) (kCeG_4 q1) (aa (Option.map (fun s=>(undefA,s)) (kCeG_9 k0 0 x1 S5 9)) (.tuple [],S6) (ah (holdsO [(fstO (aLoad EQ 24 (.ptr (some (k2,1))) S6),.int .u64 (.ofNat q1))]) (aq (Q (.ret,xFr [(4,.ptr (some (k0,0))),(5,.int .u64 (.ofNat q1)),(6,.int .i64 (.ofNat 0))] 35,S6))))))))))))):=vq (by kernel_rfl)
theorem vcKn (q:CallT) (d k0 k1 k2 q0 q1:Nat) (x0 x1:Nat→Nat) (S S1 S2 S3 S4 S5 S6:ASt) (Q:Exit×AFr×ASt→Prop) :
 Vq (tKn q d k0 k1 k2 q0 q1 x0 x1 S S1 S2 S3 S4 S5 S6) (fun r=>Q (rawR [4,5,6] r)) (aa (aAlloc EQ 33 S) (.ptr (some (k0,0)),S1) (al ((M EQ (drawA EQ) (onlyC [122] q) 57).call 122 (kCeG_3 d 2)) S1 (.tuple [.agg (rL x0++rL x1),.agg (kCeG_0 q0 q1),.int .i64 (Int.negSucc 0),.int .i64 (.ofNat 0)]) (aa (aAlloc EQ 173 S1) (.ptr (some (k1,0)),S2) (aa (aAlloc EQ 25 S2) (.ptr (some (k2,0)),S3) (aa (Option.map (fun s=>(undefA,s)) (aStore EQ 173 (.ptr (some (k1,0))) (.agg (rL x0++rL x1)) S3)) (.tuple [],S4) (aa (Option.map (fun s=>(undefA,s)) (kCeG_6 k2 q0 q1 S4)) (.tuple [],S5) (aa (Option.map (fun s=>(undefA,s)) (aStore EQ 33 (.ptr (some (k0,0))) (.agg [.int .u64 (.ofNat 0),.int .u64 (.ofNat 0),.int .u64 (.ofNat 0),.int .u64 (.ofNat 0),.int .u64 (.ofNat 0),.int .u64 (.ofNat 0),.int .u64 (.ofNat 0),.int .u64 (.ofNat 0),.int .u64 (.ofNat 0),.int .u64 (.ofNat 0),.int .u64 (.ofNat 0),.int .u64 (.ofNat 0),.int .u64 (.ofNat 0),.int .u64 (.ofNat 0),.int .u64 (.ofNat 0),.int .u64 (.ofNat 0),.int .u64 (.ofNat 0),.int .i64 (.ofNat 0),.int .i64 (.ofNat 0)]) S5)) (.tuple [],S6) (aq (Q (.ret,xFr [(4,.ptr (some (k0,0))),(5,.int .u64 (.ofNat 0)),(6,.int .i64 (.ofNat 6))] 35,S6)))))))))):=vq (by kernel_rfl)
end Go.Proofs.YtiafochainjglaaGreatDoor.drp
end

section
open Go Go.Ax Go.Proofs
namespace Go.Proofs.YtiafochainjglaaGreatDoor.drp
open cd cd2 cd3 cd4 cd5 cd9 dsk
set_option linter.unusedVariables false
theorem EQok:Env.Ok Tryz.prog EQ:=envEx_ok (xs:=[]) ⟨⟨Tryz.func121,Tryz.call121⟩,⟨Tryz.func54,Tryz.call54⟩,⟨Tryz.func170,Tryz.call170⟩,⟨Tryz.func122,Tryz.call122⟩,⟨Tryz.func55,Tryz.call55⟩,⟨Tryz.func53,Tryz.call53⟩,⟨Tryz.func120,Tryz.call120⟩,⟨Tryz.func73,Tryz.call73⟩,⟨Tryz.func64,Tryz.call64⟩,trivial⟩ trivial (by kernel_rfl)
theorem fst_of {x:Option (AV×ASt)} {v:AV} {S:ASt} (h:x=some (v,S)):fstO x=some v:=by rw[h];rfl
theorem er_eq (b:Bool):eqF (.ofNat (cond b 0 4)) (.ofNat 0)=b:=by cases b<;>rfl
noncomputable def tBk (d l m n:Nat) (S:ASt):Tr (AV×ASt):=(TM EQ noSum [(73,⟨[9],[4],[],[]⟩),(64,⟨[9],[],[],[]⟩)] fl0 60).call 73 [.ptr (some (d,0))] S
theorem vcBk (d l m n:Nat) (S:ASt) (Q:AV×ASt→Prop) :
 Vq (tBk d l m n S) Q (al (aLoad EQ 102 (.ptr (some (d,1)))) S (.map (some m)) (al (aLoad EQ 60 (.ptr (some (d,0)))) S (.slice (some (l,0)) n (.known n)) (aq (Q (.int .i64 (.ofNat n),S))))):=vq (by kernel_rfl)
theorem blocks_p {S:ASt} {d:Nat} {las:List (List Nat)} {es:List dsk.En} (h:Dsk S d las es):Call1 Tryz.prog 73 [.ptr (some (d,0))] S (.int .i64 (.ofNat las.length),S):=by
 obtain⟨l,m,ck,hd⟩:=h.ex
 exact Call1.of_tm EQok noSum_ok (Eq.mp (vcBk d l m las.length S (fun q=>q=(.int .i64 (.ofNat las.length),S))) ⟨load_at (by kernel_rfl) hd.hd rfl,load_at (by kernel_rfl) hd.hd rfl,rfl⟩)
noncomputable def diskC (d:Nat) (las:List (List Nat)) (es:List dsk.En):CallT:=fun f args st=>open Classical in if Dsk st d las es then (match args with
 | [p]=>if f=73∧p=.ptr (some (d,0)) then some (.int .i64 (.ofNat las.length),st) else none
 | [p,.int .i64 (.ofNat i)]=>if f=56∧p=.ptr (some (d,0))∧i<las.length then some (.tuple [.agg (bl (nb las es i)),.int .i64 (.ofNat 0)],st) else none
 | _=>none) else none
theorem diskC_ok {d:Nat} {las:List (List Nat)} {es:List dsk.En}:CallsOK Tryz.prog (diskC d las es):=fun B0 w0 f args st r hr ι w args' hsr hv=>by
 unfold diskC at hr
 split at hr
 ·rename_i hD
  split at hr
  ·split at hr
   ·rename_i hh
    obtain⟨rfl,rfl⟩:=hh
    simp only[Option.some.injEq] at hr
    subst hr
    exact blocks_p hD B0 w0 ι w args' hsr hv
   ·cases hr
  ·split at hr
   ·rename_i hh
    obtain⟨rfl,rfl,hi⟩:=hh
    simp only[Option.some.injEq] at hr
    subst hr
    exact read_p hD hi B0 w0 ι w args' hsr hv
   ·cases hr
  ·cases hr
 ·cases hr
theorem diskC_b {S:ASt} {d:Nat} {las:List (List Nat)} {es:List dsk.En} (h:Dsk S d las es):diskC d las es 73 [.ptr (some (d,0))] S=some (.int .i64 (.ofNat las.length),S):=by
 unfold diskC
 rw[if_pos h]
 simp
theorem diskC_r {S:ASt} {d i:Nat} {las:List (List Nat)} {es:List dsk.En} (h:Dsk S d las es) (hi:i<las.length):diskC d las es 56 [.ptr (some (d,0)),.int .i64 (.ofNat i)] S=some (.tuple [.agg (bl (nb las es i)),.int .i64 (.ofNat 0)],S):=by
 unfold diskC
 rw[if_pos h]
 simp[hi]
theorem diskC_no {S:ASt} {d f:Nat} {las:List (List Nat)} {es:List dsk.En} {args:List AV} (h1:f≠73) (h2:f≠56):diskC d las es f args S=none:=by
 unfold diskC
 split
 ·split
  ·simp[h1]
  ·simp[h2]
  ·rfl
 ·rfl
section
variable {S:ASt} {x y:Operand}
theorem lssQ {n:Nat} (h:2≤n):still S (aBin EQ .lss 3 x y (.int .i64 (.ofNat n)) (.int .i64 (.ofNat 2)))=some (.bool false,S):=by
 have e:aBin EQ .lss 3 x y (.int .i64 (.ofNat n)) (.int .i64 (.ofNat 2))=some (.bool (ltF (.ofNat n) (.ofNat 2))):=by kernel_rfl
 rw[ltF_nn,decide_eq_false (by omega)] at e
 exact still_of e
theorem eqQ {n:Nat} (h:4≤n):still S (aBin EQ .eql 3 x y (.int .i64 (.ofNat n)) (.int .i64 (.ofNat 0)))=some (.bool false,S):=by
 have e:aBin EQ .eql 3 x y (.int .i64 (.ofNat n)) (.int .i64 (.ofNat 0))=some (.bool (eqF (.ofNat n) (.ofNat 0))):=by kernel_rfl
 have h0:eqF (.ofNat n) (.ofNat 0)=false:=by
  rw[eqF_eq]
  cases hb:(Int.ofNat n == Int.ofNat 0)
  ·rfl
  ·have h2:=eq_of_beq hb
   have:=Int.ofNat.inj h2
   omega
 rw[h0] at e
 exact still_of e
theorem subQ {n:Nat} (h:4≤n) (h2:n<100000):still S (aBin EQ .sub 3 x y (.int .i64 (.ofNat n)) (.int .i64 (.ofNat 1)))=some (.int .i64 (.ofNat (n - 1)),S):=by
 have e:aBin EQ .sub 3 x y (.int .i64 (.ofNat n)) (.int .i64 (.ofNat 1))=some (.int .i64 (wrapF .i64 (.ofNat n - .ofNat 1))):=by kernel_rfl
 have e2:(Int.ofNat n - Int.ofNat 1)=Int.ofNat (n - 1):=by
  show (n:Int) - 1=((n - 1:Nat):Int)
  omega
 rw[e2,wrap_nat (by omega)] at e
 exact still_of e
theorem geqQ {n:Nat} (h:4≤n):still S (aBin EQ .geq 3 x y (.int .i64 (.ofNat 2)) (.int .i64 (.ofNat (n - 1))))=some (.bool false,S):=by
 have e:aBin EQ .geq 3 x y (.int .i64 (.ofNat 2)) (.int .i64 (.ofNat (n - 1)))=some (.bool (!ltF (.ofNat 2) (.ofNat (n - 1)))):=by kernel_rfl
 rw[ltF_nn,decide_eq_true (by omega)] at e
 exact still_of e
theorem gtrQ {a b:Nat}:still S (aBin EQ .gtr 24 x y (.int .u64 (.ofNat a)) (.int .u64 (.ofNat b)))=some (.bool (decide (b<a)),S):=by
 have e:aBin EQ .gtr 24 x y (.int .u64 (.ofNat a)) (.int .u64 (.ofNat b))=some (.bool (ltF (.ofNat b) (.ofNat a))):=by kernel_rfl
 rw[ltF_nn] at e
 exact still_of e
theorem eqlQ {b:Bool}:still S (aBin EQ .eql 37 x y (.int .i64 (.ofNat (cond b 0 4))) (.int .i64 (.ofNat 0)))=some (.bool b,S):=by
 have e:aBin EQ .eql 37 x y (.int .i64 (.ofNat (cond b 0 4))) (.int .i64 (.ofNat 0))=some (.bool (eqF (.ofNat (cond b 0 4)) (.ofNat 0))):=by kernel_rfl
 rw[er_eq] at e
 exact still_of e
end
theorem sL_p (x:Nat→Nat) (c:Bool):∀v,v∈sL x c→∀k,refsV k v:=fun v hv k=>by
 simp only[sL,List.mem_cons,List.not_mem_nil,or_false] at hv
 rcases hv with rfl | rfl | rfl | rfl | rfl | rfl | rfl<;>simp[refsV]
theorem rL_p (x:Nat→Nat):∀v,v∈rL x→∀k,refsV k v:=fun v hv k=>by
 simp only[rL,List.mem_cons,List.not_mem_nil,or_false] at hv
 rcases hv with rfl | rfl | rfl | rfl | rfl | rfl | rfl | rfl | rfl | rfl | rfl | rfl | rfl | rfl | rfl | rfl | rfl | rfl | rfl<;>simp[refsV]
theorem int_p (k:Nat) (t:IntKind) (z:Int):refsV k (.int t z):=by simp[refsV]
theorem bool_p (k:Nat) (b:Bool):refsV k (.bool b):=by simp[refsV]
theorem agg_p {k:Nat} {l:List AV} (h:∀v,v∈l→refsV k v):refsV k (.agg l):=by simp only[refsV];exact h
theorem tup_p {k:Nat} {l:List AV} (h:∀v,v∈l→refsV k v):refsV k (.tuple l):=by simp only[refsV];exact h
theorem two_p {k:Nat} {a b:AV} (ha:refsV k a) (hb:refsV k b):∀v,v∈[a,b]→refsV k v:=fun v hv=>by
 simp only[List.mem_cons,List.not_mem_nil,or_false] at hv
 rcases hv with rfl | rfl<;>assumption
theorem three_p {k:Nat} {a b c:AV} (ha:refsV k a) (hb:refsV k b) (hc:refsV k c):∀v,v∈[a,b,c]→refsV k v:=fun v hv=>by
 simp only[List.mem_cons,List.not_mem_nil,or_false] at hv
 rcases hv with rfl | rfl | rfl<;>assumption
theorem four_p {k:Nat} {a b c d:AV} (ha:refsV k a) (hb:refsV k b) (hc:refsV k c) (hd:refsV k d):∀v,v∈[a,b,c,d]→refsV k v:=fun v hv=>by
 simp only[List.mem_cons,List.not_mem_nil,or_false] at hv
 rcases hv with rfl | rfl | rfl | rfl<;>assumption
theorem app_p {k:Nat} {a b:List AV} (ha:∀v,v∈a→refsV k v) (hb:∀v,v∈b→refsV k v):∀v,v∈a++b→refsV k v:=fun v hv=>by
 rcases List.mem_append.1 hv with h | h
 ·exact ha v h
 ·exact hb v h
def slotN (a b g:Bool):Int:=if a=true then (if (b && g)=true then 1 else 0) else if b=true then 1 else -1
section
variable {a b g:Bool}
theorem sN1 (h0:a=true) (h1:b=true) (h2:g=true):slotN a b g=1:=by subst h0 h1 h2;rfl
theorem sN2 (h0:a=true) (h1:b=true) (h2:g=false):slotN a b g=0:=by subst h0 h1 h2;rfl
theorem sN3 (h0:a=true) (h1:b=false):slotN a b g=0:=by subst h0 h1;rfl
theorem sN4 (h0:a=false) (h1:b=true):slotN a b g=1:=by subst h0 h1;rfl
theorem sN5 (h0:a=false) (h1:b=false):slotN a b g=-1:=by subst h0 h1;rfl
end
section
variable {q:CallT} {H:List Nat→Nat→Nat} {X:List Nat→Nat} {S:ASt} {d:Nat} {las:List (List Nat)} {es:List dsk.En}
theorem slots_g {q:CallT} {d n i q0 q1:Nat} {B0 B1:List Nat} {x0 x1:Nat→Nat} {c0 c1 i0 i1:Bool} (hq0:CallsOK Tryz.prog q) (ht:Tidy S) (hq1:∀{l:List (Nat×AO)} (Y:ASt),Ov S Y l→q 73 [.ptr (some (d,0))] Y=some (.int .i64 (.ofNat n),Y)) (hr0:∀{l:List (Nat×AO)} (Y:ASt),Ov S Y l→q 56 [.ptr (some (d,0)),.int .i64 (.ofNat 0)] Y=some (.tuple [.agg (bl B0),.int .i64 (.ofNat 0)],Y)) (hr1:∀{l:List (Nat×AO)} (Y:ASt),Ov S Y l→q 56 [.ptr (some (d,0)),.int .i64 (.ofNat 1)] Y=some (.tuple [.agg (bl B1),.int .i64 (.ofNat 0)],Y)) (hs0:∀Y,q 169 [.agg (bl B0)] Y=some (.tuple [.agg (sL x0 c0),.int .i64 (.ofNat (cond i0 0 4))],Y)) (hs1:∀Y,q 169 [.agg (bl B1)] Y=some (.tuple [.agg (sL x1 c1),.int .i64 (.ofNat (cond i1 0 4))],Y)) (hn:2≤n):Call1 Tryz.prog 121 [.ptr (some (d,0))] S (.tuple [.agg (sL x0 c0++sL x1 c1),.int .i64 (slotN i0 i1 (decide (x0 5<x1 5))),.int .i64 (.ofNat 0)],S):=by
 obtain⟨cnt,hcn⟩:∃c,c=slotN i0 i1 (decide (x0 5<x1 5)):=⟨_,rfl⟩
 rw[←hcn]
 have o0:=Ov.nil ht
 obtain⟨S1,e1,o1⟩:=o0.add (.cells (zS++zS) true)
 obtain⟨S2,e2,o2⟩:=o1.add (.cells (bl []) true)
 obtain⟨S3,e3,o3⟩:=o2.stA (E:=EQ) (t:=54) (i:=1) (k:=S1.next) (o:=0) (z:=256) (vs:=(bl B0)) ([]) ((bl [])) ([])
 obtain⟨S4,e4,o4⟩:=o3.add (.cells zS true)
 obtain⟨S5,e5,o5⟩:=o4.stA (E:=EQ) (t:=29) (i:=2) (k:=S3.next) (o:=0) (z:=7) (vs:=(sL x0 c0)) ([]) (zS) ([])
 obtain⟨S6,e6,o6⟩:=o5.stA (E:=EQ) (t:=29) (i:=0) (k:=S.next) (o:=0) (z:=7) (vs:=(sL x0 c0)) ([]) (zS) (zS)
 have o7:=o6.bump 15
 obtain⟨S8,e8,o8⟩:=o7.add (.cells (bl []) true)
 obtain⟨S9,e9,o9⟩:=o8.stA (E:=EQ) (t:=54) (i:=3) (k:=(ASt.mk S6.h (S6.next+15)).next) (o:=0) (z:=256) (vs:=(bl B1)) ([]) ((bl [])) ([])
 obtain⟨S10,e10,o10⟩:=o9.add (.cells zS true)
 obtain⟨S11,e11,o11⟩:=o10.stA (E:=EQ) (t:=29) (i:=4) (k:=S9.next) (o:=0) (z:=7) (vs:=(sL x1 c1)) ([]) (zS) ([])
 obtain⟨S12,e12,o12⟩:=o11.stA (E:=EQ) (t:=29) (i:=0) (k:=S.next) (o:=7) (z:=7) (vs:=(sL x1 c1)) ((sL x0 c0)) (zS) ([])
 have o13:=o12.bump 15
 obtain⟨S14,e14,o14⟩:=o13.stA (E:=EQ) (t:=170) (i:=0) (k:=S.next) (o:=0) (z:=14) (vs:=(sL x0 c0++(sL x1 c1))) ([]) ((sL x0 c0++(sL x1 c1))) ([])
 obtain⟨S15,e15,o15⟩:=o13.stA (E:=EQ) (t:=170) (i:=0) (k:=S.next) (o:=0) (z:=14) (vs:=(sL x0 c0++(sL x1 c1))) ([]) ((sL x0 c0++(sL x1 c1))) ([])
 obtain⟨S16,e16,o16⟩:=o13.stA (E:=EQ) (t:=170) (i:=0) (k:=S.next) (o:=0) (z:=14) (vs:=(sL x0 c0++(sL x1 c1))) ([]) ((sL x0 c0++(sL x1 c1))) ([])
 obtain⟨S17,e17,o17⟩:=o7.add (.cells (bl []) true)
 obtain⟨S18,e18,o18⟩:=o17.stA (E:=EQ) (t:=54) (i:=3) (k:=(ASt.mk S6.h (S6.next+15)).next) (o:=0) (z:=256) (vs:=(bl B1)) ([]) ((bl [])) ([])
 obtain⟨S19,e19,o19⟩:=o18.add (.cells zS true)
 obtain⟨S20,e20,o20⟩:=o19.stA (E:=EQ) (t:=29) (i:=4) (k:=S18.next) (o:=0) (z:=7) (vs:=(sL x1 c1)) ([]) (zS) ([])
 obtain⟨S21,e21,o21⟩:=o20.stA (E:=EQ) (t:=29) (i:=0) (k:=S.next) (o:=7) (z:=7) (vs:=(sL x1 c1)) ((sL x0 c0)) (zS) ([])
 have o22:=o21.bump 15
 obtain⟨S23,e23,o23⟩:=o22.stA (E:=EQ) (t:=170) (i:=0) (k:=S.next) (o:=0) (z:=14) (vs:=(sL x0 c0++(sL x1 c1))) ([]) ((sL x0 c0++(sL x1 c1))) ([])
 obtain⟨S24,e24,o24⟩:=o22.stA (E:=EQ) (t:=170) (i:=0) (k:=S.next) (o:=0) (z:=14) (vs:=(sL x0 c0++(sL x1 c1))) ([]) ((sL x0 c0++(sL x1 c1))) ([])
 refine exD Tryz.f121 cSl 60 [2,3,4] EQok (onlyC_ok hq0) (tup_p (three_p (agg_p (app_p (fun v h=>sL_p _ _ v h _) (fun v h=>sL_p _ _ v h _))) (int_p ..) (int_p ..))) (Eq.mp (vcSl q d n (S.next) (S1.next) (S3.next) ((ASt.mk S6.h (S6.next+15)).next) (S9.next) ((ASt.mk S6.h (S6.next+15)).next) (S18.next) B0 B1 x0 x1 c0 c1 (.ofNat (cond i0 0 4)) (.ofNat (cond i1 0 4)) (decide (x0 5<x1 5)) S S1 S2 S3 S4 S5 S6 S8 S9 S10 S11 S12 S14 S15 S16 S17 S18 S19 S20 S21 S23 S24 (Left EQ Tryz.f121 60 S (.tuple [.agg (sL x0 c0++sL x1 c1),.int .i64 cnt,.int .i64 (.ofNat 0)]))) ?_)
 exact⟨o0.al e1,ca (hq1 _ o1),lssQ hn,ca (hr0 _ o1),o1.al e2,e3,o3.ldA (i:=1) (z:=256) (cs:=(bl B0)),ca (hs0 _),o3.al e4,e5,o5.ldA (i:=2) (z:=7) (cs:=(sL x0 c0)),e6,ifB_mk (fun h0=>⟨ca (hr1 _ o7),o7.al e8,e9,o9.ldA (i:=3) (z:=256) (cs:=(bl B1)),ca (hs1 _),o9.al e10,e11,o11.ldA (i:=4) (z:=7) (cs:=(sL x1 c1)),e12,ifB_mk (fun h1=>⟨o13.ld1 (i:=4) (cs:=(sL x1 c1)),o13.ld1 (i:=0) (cs:=(sL x0 c0++(sL x1 c1))),gtrQ,ifB_mk (fun h2=>⟨o13.ldA (i:=0) (z:=14) (cs:=(sL x0 c0++(sL x1 c1))),e14,(by rw[show cnt=1 from hcn.trans (sN1 ((er_eq _).symm.trans h0) ((er_eq _).symm.trans h1) h2)];exact Left.of (rs:=[.cell 2 170,.tmp 3,.tmp 4]) o14 rfl (by kernel_rfl) rfl (res_cell (x:=.ptr (some (S.next,0))) (by kernel_rfl) (o14.ldA (i:=0) (z:=14) (o:=0) (k:=S.next) (cs:=(sL x0 c0++sL x1 c1))) (res_tmp (by kernel_rfl) (res_tmp (by kernel_rfl) res_nil))) rfl)⟩) (fun h2=>⟨o13.ldA (i:=0) (z:=14) (cs:=(sL x0 c0++(sL x1 c1))),e15,(by rw[show cnt=0 from hcn.trans (sN2 ((er_eq _).symm.trans h0) ((er_eq _).symm.trans h1) h2)];exact Left.of (rs:=[.cell 2 170,.tmp 3,.tmp 4]) o15 rfl (by kernel_rfl) rfl (res_cell (x:=.ptr (some (S.next,0))) (by kernel_rfl) (o15.ldA (i:=0) (z:=14) (o:=0) (k:=S.next) (cs:=(sL x0 c0++sL x1 c1))) (res_tmp (by kernel_rfl) (res_tmp (by kernel_rfl) res_nil))) rfl)⟩)⟩) (fun h1=>⟨o13.ldA (i:=0) (z:=14) (cs:=(sL x0 c0++(sL x1 c1))),e16,(by rw[show cnt=0 from hcn.trans (sN3 ((er_eq _).symm.trans h0) ((er_eq _).symm.trans h1))];exact Left.of (rs:=[.cell 2 170,.tmp 3,.tmp 4]) o16 rfl (by kernel_rfl) rfl (res_cell (x:=.ptr (some (S.next,0))) (by kernel_rfl) (o16.ldA (i:=0) (z:=14) (o:=0) (k:=S.next) (cs:=(sL x0 c0++sL x1 c1))) (res_tmp (by kernel_rfl) (res_tmp (by kernel_rfl) res_nil))) rfl)⟩)⟩) (fun h0=>⟨ca (hr1 _ o7),o7.al e17,e18,o18.ldA (i:=3) (z:=256) (cs:=(bl B1)),ca (hs1 _),o18.al e19,e20,o20.ldA (i:=4) (z:=7) (cs:=(sL x1 c1)),e21,ifB_mk (fun h1=>⟨o22.ldA (i:=0) (z:=14) (cs:=(sL x0 c0++(sL x1 c1))),e23,(by rw[show cnt=1 from hcn.trans (sN4 ((er_eq _).symm.trans h0) ((er_eq _).symm.trans h1))];exact Left.of (rs:=[.cell 2 170,.tmp 3,.tmp 4]) o23 rfl (by kernel_rfl) rfl (res_cell (x:=.ptr (some (S.next,0))) (by kernel_rfl) (o23.ldA (i:=0) (z:=14) (o:=0) (k:=S.next) (cs:=(sL x0 c0++sL x1 c1))) (res_tmp (by kernel_rfl) (res_tmp (by kernel_rfl) res_nil))) rfl)⟩) (fun h1=>⟨o22.ldA (i:=0) (z:=14) (cs:=(sL x0 c0++(sL x1 c1))),e24,(by rw[show cnt=(-1) from hcn.trans (sN5 ((er_eq _).symm.trans h0) ((er_eq _).symm.trans h1))];exact Left.of (rs:=[.cell 2 170,.tmp 3,.tmp 4]) o24 rfl (by kernel_rfl) rfl (res_cell (x:=.ptr (some (S.next,0))) (by kernel_rfl) (o24.ldA (i:=0) (z:=14) (o:=0) (k:=S.next) (cs:=(sL x0 c0++sL x1 c1))) (res_tmp (by kernel_rfl) (res_tmp (by kernel_rfl) res_nil))) rfl)⟩)⟩)⟩
theorem load0_g {q:CallT} {d n i q0 q1:Nat} {B0 B1:List Nat} {x0 x1:Nat→Nat} {c0 c1 i0 i1:Bool} (hq0:CallsOK Tryz.prog q) (ht:Tidy S) (hq:∀{l:List (Nat×AO)} (Y:ASt),Ov S Y l→q 121 [.ptr (some (d,0))] Y=some (.tuple [.agg (sL x0 c0++sL x1 c1),.int .i64 (.ofNat 0),.int .i64 (.ofNat 0)],Y)):Call1 Tryz.prog 54 [.ptr (some (d,0))] S (.tuple [.agg (sL x0 c0),.int .i64 (.ofNat 0)],S):=by
 have o0:=Ov.nil ht
 obtain⟨S1,e1,o1⟩:=o0.add (.cells zS true)
 obtain⟨S2,e2,o2⟩:=o1.add (.cells (zS++zS) true)
 obtain⟨S3,e3,o3⟩:=o2.stA (E:=EQ) (t:=170) (i:=1) (k:=S1.next) (o:=0) (z:=14) (vs:=(sL x0 c0++(sL x1 c1))) ([]) ((zS++zS)) ([])
 obtain⟨S4,e4,o4⟩:=o3.stA (E:=EQ) (t:=29) (i:=0) (k:=S.next) (o:=0) (z:=7) (vs:=(sL x0 c0)) ([]) (zS) ([])
 refine exD Tryz.f54 cL0 25 [2,3] EQok (onlyC_ok hq0) (tup_p (two_p (agg_p (fun v h=>sL_p _ _ v h _)) (int_p ..))) (Eq.mp (vcL0 q d (S.next) (S1.next) x0 x1 c0 c1 S S1 S2 S3 S4 (Left EQ Tryz.f54 25 S (.tuple [.agg (sL x0 c0),.int .i64 (.ofNat 0)]))) ?_)
 exact⟨o0.al e1,ca (hq _ o1),o1.al e2,e3,o3.ldA (i:=1) (z:=7) (cs:=(sL x0 c0++(sL x1 c1))),e4,(Left.of (rs:=[.cell 2 29,.tmp 3]) o4 rfl (by kernel_rfl) rfl (res_cell (x:=.ptr (some (S.next,0))) (by kernel_rfl) (o4.ldA (i:=0) (z:=7) (o:=0) (k:=S.next) (cs:=sL x0 c0)) (res_tmp (by kernel_rfl) res_nil)) rfl)⟩
theorem load1_g {q:CallT} {d n i q0 q1:Nat} {B0 B1:List Nat} {x0 x1:Nat→Nat} {c0 c1 i0 i1:Bool} (hq0:CallsOK Tryz.prog q) (ht:Tidy S) (hq:∀{l:List (Nat×AO)} (Y:ASt),Ov S Y l→q 121 [.ptr (some (d,0))] Y=some (.tuple [.agg (sL x0 c0++sL x1 c1),.int .i64 (.ofNat 1),.int .i64 (.ofNat 0)],Y)):Call1 Tryz.prog 54 [.ptr (some (d,0))] S (.tuple [.agg (sL x1 c1),.int .i64 (.ofNat 0)],S):=by
 have o0:=Ov.nil ht
 obtain⟨S1,e1,o1⟩:=o0.add (.cells zS true)
 obtain⟨S2,e2,o2⟩:=o1.add (.cells (zS++zS) true)
 obtain⟨S3,e3,o3⟩:=o2.stA (E:=EQ) (t:=170) (i:=1) (k:=S1.next) (o:=0) (z:=14) (vs:=(sL x0 c0++(sL x1 c1))) ([]) ((zS++zS)) ([])
 obtain⟨S4,e4,o4⟩:=o3.stA (E:=EQ) (t:=29) (i:=0) (k:=S.next) (o:=0) (z:=7) (vs:=(sL x1 c1)) ([]) (zS) ([])
 refine exD Tryz.f54 cL1 25 [2,3] EQok (onlyC_ok hq0) (tup_p (two_p (agg_p (fun v h=>sL_p _ _ v h _)) (int_p ..))) (Eq.mp (vcL1 q d (S.next) (S1.next) x0 x1 c0 c1 S S1 S2 S3 S4 (Left EQ Tryz.f54 25 S (.tuple [.agg (sL x1 c1),.int .i64 (.ofNat 0)]))) ?_)
 exact⟨o0.al e1,ca (hq _ o1),o1.al e2,e3,o3.ldA (i:=1) (z:=7) (cs:=(sL x0 c0++(sL x1 c1))),e4,(Left.of (rs:=[.cell 2 29,.tmp 3]) o4 rfl (by kernel_rfl) rfl (res_cell (x:=.ptr (some (S.next,0))) (by kernel_rfl) (o4.ldA (i:=0) (z:=7) (o:=0) (k:=S.next) (cs:=sL x1 c1)) (res_tmp (by kernel_rfl) res_nil)) rfl)⟩
theorem loadn_g {q:CallT} {d n i q0 q1:Nat} {B0 B1:List Nat} {x0 x1:Nat→Nat} {c0 c1 i0 i1:Bool} (hq0:CallsOK Tryz.prog q) (ht:Tidy S) (hq:∀{l:List (Nat×AO)} (Y:ASt),Ov S Y l→q 121 [.ptr (some (d,0))] Y=some (.tuple [.agg (sL x0 c0++sL x1 c1),.int .i64 (-1),.int .i64 (.ofNat 0)],Y)):Call1 Tryz.prog 54 [.ptr (some (d,0))] S (.tuple [.agg zS,.int .i64 (.ofNat 6)],S):=by
 have o0:=Ov.nil ht
 obtain⟨S1,e1,o1⟩:=o0.add (.cells zS true)
 obtain⟨S2,e2,o2⟩:=o1.add (.cells (zS++zS) true)
 obtain⟨S3,e3,o3⟩:=o2.stA (E:=EQ) (t:=170) (i:=1) (k:=S1.next) (o:=0) (z:=14) (vs:=(sL x0 c0++(sL x1 c1))) ([]) ((zS++zS)) ([])
 obtain⟨S4,e4,o4⟩:=o3.stA (E:=EQ) (t:=29) (i:=0) (k:=S.next) (o:=0) (z:=7) (vs:=zS) ([]) (zS) ([])
 refine exD Tryz.f54 cLn 25 [2,3] EQok (onlyC_ok hq0) (tup_p (two_p (agg_p (fun v h=>sL_p _ _ v h _)) (int_p ..))) (Eq.mp (vcLn q d (S.next) (S1.next) x0 x1 c0 c1 S S1 S2 S3 S4 (Left EQ Tryz.f54 25 S (.tuple [.agg zS,.int .i64 (.ofNat 6)]))) ?_)
 exact⟨o0.al e1,ca (hq _ o1),o1.al e2,e3,e4,(Left.of (rs:=[.cell 2 29,.tmp 3]) o4 rfl (by kernel_rfl) rfl (res_cell (x:=.ptr (some (S.next,0))) (by kernel_rfl) (o4.ldA (i:=0) (z:=7) (o:=0) (k:=S.next) (cs:=zS)) (res_tmp (by kernel_rfl) res_nil)) rfl)⟩
theorem slot_g {q:CallT} {d n i q0 q1:Nat} {B0 B1:List Nat} {x0 x1:Nat→Nat} {c0 c1 i0 i1:Bool} (hq0:CallsOK Tryz.prog q) (ht:Tidy S) (hr0:∀{l:List (Nat×AO)} (Y:ASt),Ov S Y l→q 56 [.ptr (some (d,0)),.int .i64 (.ofNat i)] Y=some (.tuple [.agg (bl B0),.int .i64 (.ofNat 0)],Y)) (hs0:∀Y,q 200 [.agg (bl B0)] Y=some (.tuple [.agg (rL x0),.int .u64 (.ofNat q0),.int .i64 (.ofNat (cond i0 0 4))],Y)):Call1 Tryz.prog 170 [.ptr (some (d,0)),.int .i64 (.ofNat i)] S (.tuple [.agg (rL x0),.int .u64 (.ofNat q0),.bool i0,.int .i64 (.ofNat 0)],S):=by
 have o0:=Ov.nil ht
 obtain⟨S1,e1,o1⟩:=o0.add (.cells zR true)
 obtain⟨S2,e2,o2⟩:=o1.add (.cells (bl []) true)
 obtain⟨S3,e3,o3⟩:=o2.stA (E:=EQ) (t:=54) (i:=1) (k:=S1.next) (o:=0) (z:=256) (vs:=(bl B0)) ([]) ((bl [])) ([])
 obtain⟨S4,e4,o4⟩:=o3.add (.cells zR true)
 obtain⟨S5,e5,o5⟩:=o4.stA (E:=EQ) (t:=33) (i:=2) (k:=S3.next) (o:=0) (z:=19) (vs:=(rL x0)) ([]) (zR) ([])
 obtain⟨S6,e6,o6⟩:=o5.stA (E:=EQ) (t:=33) (i:=0) (k:=S.next) (o:=0) (z:=19) (vs:=(rL x0)) ([]) (zR) ([])
 refine exD Tryz.f170 cSo 32 [4,5,6,7] EQok (onlyC_ok hq0) (tup_p (four_p (agg_p (fun v h=>rL_p _ v h _)) (int_p ..) (bool_p ..) (int_p ..))) (Eq.mp (vcSo q d i (S.next) (S1.next) (S3.next) q0 B0 x0 (.ofNat (cond i0 0 4)) i0 S S1 S2 S3 S4 S5 S6 (Left EQ Tryz.f170 32 S (.tuple [.agg (rL x0),.int .u64 (.ofNat q0),.bool i0,.int .i64 (.ofNat 0)]))) ?_)
 exact⟨o0.al e1,ca (hr0 _ o1),o1.al e2,e3,o3.ldA (i:=1) (z:=256) (cs:=(bl B0)),ca (hs0 _),o3.al e4,e5,o5.ldA (i:=2) (z:=19) (cs:=(rL x0)),eqlQ,e6,(Left.of (rs:=[.cell 4 33,.tmp 5,.tmp 6,.tmp 7]) o6 rfl (by kernel_rfl) rfl (res_cell (x:=.ptr (some (S.next,0))) (by kernel_rfl) (o6.ldA (i:=0) (z:=19) (o:=0) (k:=S.next) (cs:=rL x0)) (res_tmp (by kernel_rfl) (res_tmp (by kernel_rfl) (res_tmp (by kernel_rfl) res_nil)))) rfl)⟩
theorem both_g {q:CallT} {d n i q0 q1:Nat} {B0 B1:List Nat} {x0 x1:Nat→Nat} {c0 c1 i0 i1:Bool} (hq0:CallsOK Tryz.prog q) (ht:Tidy S) (hq1:∀{l:List (Nat×AO)} (Y:ASt),Ov S Y l→q 73 [.ptr (some (d,0))] Y=some (.int .i64 (.ofNat n),Y)) (hs0:∀{l:List (Nat×AO)} (Y:ASt),Ov S Y l→q 170 [.ptr (some (d,0)),.int .i64 (.ofNat 2)] Y=some (.tuple [.agg (rL x0),.int .u64 (.ofNat q0),.bool i0,.int .i64 (.ofNat 0)],Y)) (hs1:∀{l:List (Nat×AO)} (Y:ASt),Ov S Y l→q 170 [.ptr (some (d,0)),.int .i64 (.ofNat 3)] Y=some (.tuple [.agg (rL x1),.int .u64 (.ofNat q1),.bool i1,.int .i64 (.ofNat 0)],Y)) (hn:4≤n) (hn2:n<100000):Call1 Tryz.prog 122 [.ptr (some (d,0)),.int .i64 (.ofNat 2)] S (.tuple [.agg (rL x0++rL x1),.agg [.int .u64 (.ofNat q0),.int .u64 (.ofNat q1)],.int .i64 (slotN i0 i1 (decide (q0<q1))),.int .i64 (.ofNat 0)],S):=by
 obtain⟨cnt,hcn⟩:∃c,c=slotN i0 i1 (decide (q0<q1)):=⟨_,rfl⟩
 rw[←hcn]
 have o0:=Ov.nil ht
 obtain⟨S1,e1,o1⟩:=o0.add (.cells (zR++zR) true)
 obtain⟨S2,e2,o2⟩:=o1.add (.cells (zU++zU) true)
 obtain⟨S3,e3,o3⟩:=o2.stA (E:=EQ) (t:=33) (i:=0) (k:=S.next) (o:=0) (z:=19) (vs:=(rL x0)) ([]) (zR) (zR)
 obtain⟨S4,e4,o4⟩:=o3.st1 (E:=EQ) (t:=24) (i:=1) (k:=S1.next) (o:=0) (v:=.int .u64 (.ofNat q0)) ((zU++zU)) (by kernel_rfl) (by kernel_rfl) (by kernel_rfl) rfl
 have o5:=o4.bump 14
 obtain⟨S6,e6,o6⟩:=o5.stA (E:=EQ) (t:=33) (i:=0) (k:=S.next) (o:=19) (z:=19) (vs:=(rL x1)) ((rL x0)) (zR) ([])
 obtain⟨S7,e7,o7⟩:=o6.st1 (E:=EQ) (t:=24) (i:=1) (k:=S1.next) (o:=1) (v:=.int .u64 (.ofNat q1)) (([.int .u64 (.ofNat q0)]++zU)) (by kernel_rfl) (by kernel_rfl) (by kernel_rfl) rfl
 have o8:=o7.bump 14
 have o9:=o8.bump 7
 obtain⟨S10,e10,o10⟩:=o9.stA (E:=EQ) (t:=173) (i:=0) (k:=S.next) (o:=0) (z:=38) (vs:=(rL x0++(rL x1))) ([]) ((rL x0++(rL x1))) ([])
 obtain⟨S11,e11,o11⟩:=o10.stA (E:=EQ) (t:=25) (i:=1) (k:=S1.next) (o:=0) (z:=2) (vs:=[.int .u64 (.ofNat q0),.int .u64 (.ofNat q1)]) ([]) (([.int .u64 (.ofNat q0)]++[.int .u64 (.ofNat q1)])) ([])
 have o12:=o8.bump 7
 obtain⟨S13,e13,o13⟩:=o12.stA (E:=EQ) (t:=173) (i:=0) (k:=S.next) (o:=0) (z:=38) (vs:=(rL x0++(rL x1))) ([]) ((rL x0++(rL x1))) ([])
 obtain⟨S14,e14,o14⟩:=o13.stA (E:=EQ) (t:=25) (i:=1) (k:=S1.next) (o:=0) (z:=2) (vs:=[.int .u64 (.ofNat q0),.int .u64 (.ofNat q1)]) ([]) (([.int .u64 (.ofNat q0)]++[.int .u64 (.ofNat q1)])) ([])
 obtain⟨S15,e15,o15⟩:=o5.stA (E:=EQ) (t:=33) (i:=0) (k:=S.next) (o:=19) (z:=19) (vs:=(rL x1)) ((rL x0)) (zR) ([])
 obtain⟨S16,e16,o16⟩:=o15.st1 (E:=EQ) (t:=24) (i:=1) (k:=S1.next) (o:=1) (v:=.int .u64 (.ofNat q1)) (([.int .u64 (.ofNat q0)]++zU)) (by kernel_rfl) (by kernel_rfl) (by kernel_rfl) rfl
 have o17:=o16.bump 14
 have o18:=o17.bump 7
 obtain⟨S19,e19,o19⟩:=o18.stA (E:=EQ) (t:=173) (i:=0) (k:=S.next) (o:=0) (z:=38) (vs:=(rL x0++(rL x1))) ([]) ((rL x0++(rL x1))) ([])
 obtain⟨S20,e20,o20⟩:=o19.stA (E:=EQ) (t:=25) (i:=1) (k:=S1.next) (o:=0) (z:=2) (vs:=[.int .u64 (.ofNat q0),.int .u64 (.ofNat q1)]) ([]) (([.int .u64 (.ofNat q0)]++[.int .u64 (.ofNat q1)])) ([])
 obtain⟨S21,e21,o21⟩:=o2.stA (E:=EQ) (t:=33) (i:=0) (k:=S.next) (o:=0) (z:=19) (vs:=(rL x0)) ([]) (zR) (zR)
 obtain⟨S22,e22,o22⟩:=o21.st1 (E:=EQ) (t:=24) (i:=1) (k:=S1.next) (o:=0) (v:=.int .u64 (.ofNat q0)) ((zU++zU)) (by kernel_rfl) (by kernel_rfl) (by kernel_rfl) rfl
 have o23:=o22.bump 14
 obtain⟨S24,e24,o24⟩:=o23.stA (E:=EQ) (t:=33) (i:=0) (k:=S.next) (o:=19) (z:=19) (vs:=(rL x1)) ((rL x0)) (zR) ([])
 obtain⟨S25,e25,o25⟩:=o24.st1 (E:=EQ) (t:=24) (i:=1) (k:=S1.next) (o:=1) (v:=.int .u64 (.ofNat q1)) (([.int .u64 (.ofNat q0)]++zU)) (by kernel_rfl) (by kernel_rfl) (by kernel_rfl) rfl
 have o26:=o25.bump 14
 have o27:=o26.bump 7
 obtain⟨S28,e28,o28⟩:=o27.stA (E:=EQ) (t:=173) (i:=0) (k:=S.next) (o:=0) (z:=38) (vs:=(rL x0++(rL x1))) ([]) ((rL x0++(rL x1))) ([])
 obtain⟨S29,e29,o29⟩:=o28.stA (E:=EQ) (t:=25) (i:=1) (k:=S1.next) (o:=0) (z:=2) (vs:=[.int .u64 (.ofNat q0),.int .u64 (.ofNat q1)]) ([]) (([.int .u64 (.ofNat q0)]++[.int .u64 (.ofNat q1)])) ([])
 obtain⟨S30,e30,o30⟩:=o23.stA (E:=EQ) (t:=33) (i:=0) (k:=S.next) (o:=19) (z:=19) (vs:=(rL x1)) ((rL x0)) (zR) ([])
 obtain⟨S31,e31,o31⟩:=o30.st1 (E:=EQ) (t:=24) (i:=1) (k:=S1.next) (o:=1) (v:=.int .u64 (.ofNat q1)) (([.int .u64 (.ofNat q0)]++zU)) (by kernel_rfl) (by kernel_rfl) (by kernel_rfl) rfl
 have o32:=o31.bump 14
 have o33:=o32.bump 7
 obtain⟨S34,e34,o34⟩:=o33.stA (E:=EQ) (t:=173) (i:=0) (k:=S.next) (o:=0) (z:=38) (vs:=(rL x0++(rL x1))) ([]) ((rL x0++(rL x1))) ([])
 obtain⟨S35,e35,o35⟩:=o34.stA (E:=EQ) (t:=25) (i:=1) (k:=S1.next) (o:=0) (z:=2) (vs:=[.int .u64 (.ofNat q0),.int .u64 (.ofNat q1)]) ([]) (([.int .u64 (.ofNat q0)]++[.int .u64 (.ofNat q1)])) ([])
 refine exD Tryz.f122 cBo 71 [4,5,6,7] EQok (onlyC_ok hq0) (tup_p (four_p (agg_p (app_p (fun v h=>rL_p _ v h _) (fun v h=>rL_p _ v h _))) (agg_p (two_p (int_p ..) (int_p ..))) (int_p ..) (int_p ..))) (Eq.mp (vcBo q d n (S.next) (S1.next) q0 q1 x0 x1 i0 i1 (decide (q0<q1)) S S1 S2 S3 S4 S6 S7 S10 S11 S13 S14 S15 S16 S19 S20 S21 S22 S24 S25 S28 S29 S30 S31 S34 S35 (Left EQ Tryz.f122 71 S (.tuple [.agg (rL x0++rL x1),.agg [.int .u64 (.ofNat q0),.int .u64 (.ofNat q1)],.int .i64 cnt,.int .i64 (.ofNat 0)]))) ?_)
 exact⟨o0.al e1,o1.al e2,ca (hq1 _ o2),eqQ hn,ca (hq1 _ o2),subQ hn hn2,geqQ hn,ca (hs0 _ o2),ifB_mk (fun h0=>⟨e3,e4,ca (hs1 _ o5),ifB_mk (fun h1=>⟨e6,e7,o8.ld1 (i:=1) (cs:=([.int .u64 (.ofNat q0)]++[.int .u64 (.ofNat q1)])),o8.ld1 (i:=1) (cs:=([.int .u64 (.ofNat q0)]++[.int .u64 (.ofNat q1)])),gtrQ,ifB_mk (fun h2=>⟨o9.ldA (i:=0) (z:=38) (cs:=(rL x0++(rL x1))),o9.ldA (i:=1) (z:=2) (cs:=([.int .u64 (.ofNat q0)]++[.int .u64 (.ofNat q1)])),e10,e11,holds_cons (fst_of (o10.ldA (i:=1) (z:=2) (cs:=([.int .u64 (.ofNat q0)]++[.int .u64 (.ofNat q1)])))) trivial,(by rw[show cnt=1 from hcn.trans (sN1 h0 h1 h2)];exact Left.of (rs:=[.cell 4 173,.cell 5 25,.tmp 6,.tmp 7]) o11 rfl (by kernel_rfl) rfl (res_cell (x:=.ptr (some (S.next,0))) (by kernel_rfl) (o11.ldA (i:=0) (z:=38) (o:=0) (k:=S.next) (cs:=(rL x0++rL x1))) (res_cell (x:=.ptr (some (S1.next,0))) (by kernel_rfl) (o11.ldA (i:=1) (z:=2) (o:=0) (k:=S1.next) (cs:=[.int .u64 (.ofNat q0),.int .u64 (.ofNat q1)])) (res_tmp (by kernel_rfl) (res_tmp (by kernel_rfl) res_nil)))) rfl)⟩) (fun h2=>⟨o12.ldA (i:=0) (z:=38) (cs:=(rL x0++(rL x1))),o12.ldA (i:=1) (z:=2) (cs:=([.int .u64 (.ofNat q0)]++[.int .u64 (.ofNat q1)])),e13,e14,holds_cons (fst_of (o13.ldA (i:=1) (z:=2) (cs:=([.int .u64 (.ofNat q0)]++[.int .u64 (.ofNat q1)])))) trivial,(by rw[show cnt=0 from hcn.trans (sN2 h0 h1 h2)];exact Left.of (rs:=[.cell 4 173,.cell 5 25,.tmp 6,.tmp 7]) o14 rfl (by kernel_rfl) rfl (res_cell (x:=.ptr (some (S.next,0))) (by kernel_rfl) (o14.ldA (i:=0) (z:=38) (o:=0) (k:=S.next) (cs:=(rL x0++rL x1))) (res_cell (x:=.ptr (some (S1.next,0))) (by kernel_rfl) (o14.ldA (i:=1) (z:=2) (o:=0) (k:=S1.next) (cs:=[.int .u64 (.ofNat q0),.int .u64 (.ofNat q1)])) (res_tmp (by kernel_rfl) (res_tmp (by kernel_rfl) res_nil)))) rfl)⟩)⟩) (fun h1=>⟨e15,e16,o18.ldA (i:=0) (z:=38) (cs:=(rL x0++(rL x1))),o18.ldA (i:=1) (z:=2) (cs:=([.int .u64 (.ofNat q0)]++[.int .u64 (.ofNat q1)])),e19,e20,holds_cons (fst_of (o19.ldA (i:=1) (z:=2) (cs:=([.int .u64 (.ofNat q0)]++[.int .u64 (.ofNat q1)])))) trivial,(by rw[show cnt=0 from hcn.trans (sN3 h0 h1)];exact Left.of (rs:=[.cell 4 173,.cell 5 25,.tmp 6,.tmp 7]) o20 rfl (by kernel_rfl) rfl (res_cell (x:=.ptr (some (S.next,0))) (by kernel_rfl) (o20.ldA (i:=0) (z:=38) (o:=0) (k:=S.next) (cs:=(rL x0++rL x1))) (res_cell (x:=.ptr (some (S1.next,0))) (by kernel_rfl) (o20.ldA (i:=1) (z:=2) (o:=0) (k:=S1.next) (cs:=[.int .u64 (.ofNat q0),.int .u64 (.ofNat q1)])) (res_tmp (by kernel_rfl) (res_tmp (by kernel_rfl) res_nil)))) rfl)⟩)⟩) (fun h0=>⟨e21,e22,ca (hs1 _ o23),ifB_mk (fun h1=>⟨e24,e25,o27.ldA (i:=0) (z:=38) (cs:=(rL x0++(rL x1))),o27.ldA (i:=1) (z:=2) (cs:=([.int .u64 (.ofNat q0)]++[.int .u64 (.ofNat q1)])),e28,e29,holds_cons (fst_of (o28.ldA (i:=1) (z:=2) (cs:=([.int .u64 (.ofNat q0)]++[.int .u64 (.ofNat q1)])))) trivial,(by rw[show cnt=1 from hcn.trans (sN4 h0 h1)];exact Left.of (rs:=[.cell 4 173,.cell 5 25,.tmp 6,.tmp 7]) o29 rfl (by kernel_rfl) rfl (res_cell (x:=.ptr (some (S.next,0))) (by kernel_rfl) (o29.ldA (i:=0) (z:=38) (o:=0) (k:=S.next) (cs:=(rL x0++rL x1))) (res_cell (x:=.ptr (some (S1.next,0))) (by kernel_rfl) (o29.ldA (i:=1) (z:=2) (o:=0) (k:=S1.next) (cs:=[.int .u64 (.ofNat q0),.int .u64 (.ofNat q1)])) (res_tmp (by kernel_rfl) (res_tmp (by kernel_rfl) res_nil)))) rfl)⟩) (fun h1=>⟨e30,e31,o33.ldA (i:=0) (z:=38) (cs:=(rL x0++(rL x1))),o33.ldA (i:=1) (z:=2) (cs:=([.int .u64 (.ofNat q0)]++[.int .u64 (.ofNat q1)])),e34,e35,holds_cons (fst_of (o34.ldA (i:=1) (z:=2) (cs:=([.int .u64 (.ofNat q0)]++[.int .u64 (.ofNat q1)])))) trivial,(by rw[show cnt=(-1) from hcn.trans (sN5 h0 h1)];exact Left.of (rs:=[.cell 4 173,.cell 5 25,.tmp 6,.tmp 7]) o35 rfl (by kernel_rfl) rfl (res_cell (x:=.ptr (some (S.next,0))) (by kernel_rfl) (o35.ldA (i:=0) (z:=38) (o:=0) (k:=S.next) (cs:=(rL x0++rL x1))) (res_cell (x:=.ptr (some (S1.next,0))) (by kernel_rfl) (o35.ldA (i:=1) (z:=2) (o:=0) (k:=S1.next) (cs:=[.int .u64 (.ofNat q0),.int .u64 (.ofNat q1)])) (res_tmp (by kernel_rfl) (res_tmp (by kernel_rfl) res_nil)))) rfl)⟩)⟩)⟩
theorem tab0_g {q:CallT} {d n i q0 q1:Nat} {B0 B1:List Nat} {x0 x1:Nat→Nat} {c0 c1 i0 i1:Bool} (hq0:CallsOK Tryz.prog q) (ht:Tidy S) (hq:∀{l:List (Nat×AO)} (Y:ASt),Ov S Y l→q 122 [.ptr (some (d,0)),.int .i64 (.ofNat 2)] Y=some (.tuple [.agg (rL x0++rL x1),.agg [.int .u64 (.ofNat q0),.int .u64 (.ofNat q1)],.int .i64 (.ofNat 0),.int .i64 (.ofNat 0)],Y)):Call1 Tryz.prog 55 [.ptr (some (d,0)),.int .i64 (.ofNat 2)] S (.tuple [.agg (rL x0),.int .u64 (.ofNat q0),.int .i64 (.ofNat 0)],S):=by
 have o0:=Ov.nil ht
 obtain⟨S1,e1,o1⟩:=o0.add (.cells zR true)
 obtain⟨S2,e2,o2⟩:=o1.add (.cells (zR++zR) true)
 obtain⟨S3,e3,o3⟩:=o2.add (.cells (zU++zU) true)
 obtain⟨S4,e4,o4⟩:=o3.stA (E:=EQ) (t:=173) (i:=1) (k:=S1.next) (o:=0) (z:=38) (vs:=(rL x0++(rL x1))) ([]) ((zR++zR)) ([])
 obtain⟨S5,e5,o5⟩:=o4.stA (E:=EQ) (t:=25) (i:=2) (k:=S2.next) (o:=0) (z:=2) (vs:=[.int .u64 (.ofNat q0),.int .u64 (.ofNat q1)]) ([]) ((zU++zU)) ([])
 have o6:=o5.bump 9
 obtain⟨S7,e7,o7⟩:=o6.stA (E:=EQ) (t:=33) (i:=0) (k:=S.next) (o:=0) (z:=19) (vs:=(rL x0)) ([]) (zR) ([])
 refine exD Tryz.f55 cK0 35 [4,5,6] EQok (onlyC_ok hq0) (tup_p (three_p (agg_p (fun v h=>rL_p _ v h _)) (int_p ..) (int_p ..))) (Eq.mp (vcK0 q d (S.next) (S1.next) (S2.next) q0 q1 x0 x1 S S1 S2 S3 S4 S5 S7 (Left EQ Tryz.f55 35 S (.tuple [.agg (rL x0),.int .u64 (.ofNat q0),.int .i64 (.ofNat 0)]))) ?_)
 exact⟨o0.al e1,ca (hq _ o1),o1.al e2,o2.al e3,e4,e5,o6.ldA (i:=1) (z:=19) (cs:=(rL x0++(rL x1))),o6.ld1 (i:=2) (cs:=[.int .u64 (.ofNat q0),.int .u64 (.ofNat q1)]),e7,holds_cons (fst_of (o7.ld1 (i:=2) (cs:=[.int .u64 (.ofNat q0),.int .u64 (.ofNat q1)]))) trivial,(Left.of (rs:=[.cell 4 33,.tmp 5,.tmp 6]) o7 rfl (by kernel_rfl) rfl (res_cell (x:=.ptr (some (S.next,0))) (by kernel_rfl) (o7.ldA (i:=0) (z:=19) (o:=0) (k:=S.next) (cs:=rL x0)) (res_tmp (by kernel_rfl) (res_tmp (by kernel_rfl) res_nil))) rfl)⟩
theorem tab1_g {q:CallT} {d n i q0 q1:Nat} {B0 B1:List Nat} {x0 x1:Nat→Nat} {c0 c1 i0 i1:Bool} (hq0:CallsOK Tryz.prog q) (ht:Tidy S) (hq:∀{l:List (Nat×AO)} (Y:ASt),Ov S Y l→q 122 [.ptr (some (d,0)),.int .i64 (.ofNat 2)] Y=some (.tuple [.agg (rL x0++rL x1),.agg [.int .u64 (.ofNat q0),.int .u64 (.ofNat q1)],.int .i64 (.ofNat 1),.int .i64 (.ofNat 0)],Y)):Call1 Tryz.prog 55 [.ptr (some (d,0)),.int .i64 (.ofNat 2)] S (.tuple [.agg (rL x1),.int .u64 (.ofNat q1),.int .i64 (.ofNat 0)],S):=by
 have o0:=Ov.nil ht
 obtain⟨S1,e1,o1⟩:=o0.add (.cells zR true)
 obtain⟨S2,e2,o2⟩:=o1.add (.cells (zR++zR) true)
 obtain⟨S3,e3,o3⟩:=o2.add (.cells (zU++zU) true)
 obtain⟨S4,e4,o4⟩:=o3.stA (E:=EQ) (t:=173) (i:=1) (k:=S1.next) (o:=0) (z:=38) (vs:=(rL x0++(rL x1))) ([]) ((zR++zR)) ([])
 obtain⟨S5,e5,o5⟩:=o4.stA (E:=EQ) (t:=25) (i:=2) (k:=S2.next) (o:=0) (z:=2) (vs:=[.int .u64 (.ofNat q0),.int .u64 (.ofNat q1)]) ([]) ((zU++zU)) ([])
 have o6:=o5.bump 9
 obtain⟨S7,e7,o7⟩:=o6.stA (E:=EQ) (t:=33) (i:=0) (k:=S.next) (o:=0) (z:=19) (vs:=(rL x1)) ([]) (zR) ([])
 refine exD Tryz.f55 cK1 35 [4,5,6] EQok (onlyC_ok hq0) (tup_p (three_p (agg_p (fun v h=>rL_p _ v h _)) (int_p ..) (int_p ..))) (Eq.mp (vcK1 q d (S.next) (S1.next) (S2.next) q0 q1 x0 x1 S S1 S2 S3 S4 S5 S7 (Left EQ Tryz.f55 35 S (.tuple [.agg (rL x1),.int .u64 (.ofNat q1),.int .i64 (.ofNat 0)]))) ?_)
 exact⟨o0.al e1,ca (hq _ o1),o1.al e2,o2.al e3,e4,e5,o6.ldA (i:=1) (z:=19) (cs:=(rL x0++(rL x1))),o6.ld1 (i:=2) (cs:=[.int .u64 (.ofNat q0),.int .u64 (.ofNat q1)]),e7,holds_cons (fst_of (o7.ld1 (i:=2) (cs:=[.int .u64 (.ofNat q0),.int .u64 (.ofNat q1)]))) trivial,(Left.of (rs:=[.cell 4 33,.tmp 5,.tmp 6]) o7 rfl (by kernel_rfl) rfl (res_cell (x:=.ptr (some (S.next,0))) (by kernel_rfl) (o7.ldA (i:=0) (z:=19) (o:=0) (k:=S.next) (cs:=rL x1)) (res_tmp (by kernel_rfl) (res_tmp (by kernel_rfl) res_nil))) rfl)⟩
theorem tabn_g {q:CallT} {d n i q0 q1:Nat} {B0 B1:List Nat} {x0 x1:Nat→Nat} {c0 c1 i0 i1:Bool} (hq0:CallsOK Tryz.prog q) (ht:Tidy S) (hq:∀{l:List (Nat×AO)} (Y:ASt),Ov S Y l→q 122 [.ptr (some (d,0)),.int .i64 (.ofNat 2)] Y=some (.tuple [.agg (rL x0++rL x1),.agg [.int .u64 (.ofNat q0),.int .u64 (.ofNat q1)],.int .i64 (-1),.int .i64 (.ofNat 0)],Y)):Call1 Tryz.prog 55 [.ptr (some (d,0)),.int .i64 (.ofNat 2)] S (.tuple [.agg zR,.int .u64 (.ofNat 0),.int .i64 (.ofNat 6)],S):=by
 have o0:=Ov.nil ht
 obtain⟨S1,e1,o1⟩:=o0.add (.cells zR true)
 obtain⟨S2,e2,o2⟩:=o1.add (.cells (zR++zR) true)
 obtain⟨S3,e3,o3⟩:=o2.add (.cells (zU++zU) true)
 obtain⟨S4,e4,o4⟩:=o3.stA (E:=EQ) (t:=173) (i:=1) (k:=S1.next) (o:=0) (z:=38) (vs:=(rL x0++(rL x1))) ([]) ((zR++zR)) ([])
 obtain⟨S5,e5,o5⟩:=o4.stA (E:=EQ) (t:=25) (i:=2) (k:=S2.next) (o:=0) (z:=2) (vs:=[.int .u64 (.ofNat q0),.int .u64 (.ofNat q1)]) ([]) ((zU++zU)) ([])
 obtain⟨S6,e6,o6⟩:=o5.stA (E:=EQ) (t:=33) (i:=0) (k:=S.next) (o:=0) (z:=19) (vs:=zR) ([]) (zR) ([])
 refine exD Tryz.f55 cKn 35 [4,5,6] EQok (onlyC_ok hq0) (tup_p (three_p (agg_p (fun v h=>rL_p _ v h _)) (int_p ..) (int_p ..))) (Eq.mp (vcKn q d (S.next) (S1.next) (S2.next) q0 q1 x0 x1 S S1 S2 S3 S4 S5 S6 (Left EQ Tryz.f55 35 S (.tuple [.agg zR,.int .u64 (.ofNat 0),.int .i64 (.ofNat 6)]))) ?_)
 exact⟨o0.al e1,ca (hq _ o1),o1.al e2,o2.al e3,e4,e5,e6,(Left.of (rs:=[.cell 4 33,.tmp 5,.tmp 6]) o6 rfl (by kernel_rfl) rfl (res_cell (x:=.ptr (some (S.next,0))) (by kernel_rfl) (o6.ldA (i:=0) (z:=19) (o:=0) (k:=S.next) (cs:=zR)) (res_tmp (by kernel_rfl) (res_tmp (by kernel_rfl) res_nil))) rfl)⟩
end
end Go.Proofs.YtiafochainjglaaGreatDoor.drp
end

section
open Go Go.Ax Go.Proofs
namespace Go.Proofs.YtiafochainjglaaGreatDoor.drp
open cd cd2 cd3 cd4 cd5 cd9
set_option linter.unusedVariables false
noncomputable def dskC (d:Nat) (las:List (List Nat)) (es:List dsk.En) (k:Nat) (ar:List AV) (v:AV):CallT:=fun f args st=>open Classical in if f=k∧args=ar∧Dsk st d las es then some (v,st) else none
theorem dskC_ok {d:Nat} {las:List (List Nat)} {es:List dsk.En} {k:Nat} {ar:List AV} {v:AV} (h:∀S,Dsk S d las es→Call1 Tryz.prog k ar S (v,S)):CallsOK Tryz.prog (dskC d las es k ar v):=fun B w0 f args st r hr ι w args' hsr hv=>by
 unfold dskC at hr
 split at hr
 ·rename_i hh
  obtain⟨rfl,rfl,hD⟩:=hh
  simp only[Option.some.injEq] at hr
  subst hr
  exact h st hD B w0 ι w args' hsr hv
 ·cases hr
theorem dskC_at {d:Nat} {las:List (List Nat)} {es:List dsk.En} {k:Nat} {ar:List AV} {v:AV} {S:ASt} (h:Dsk S d las es):dskC d las es k ar v k ar S=some (v,S):=by unfold dskC;rw[if_pos ⟨rfl,rfl,h⟩]
theorem dskC_na {d:Nat} {las:List (List Nat)} {es:List dsk.En} {k f:Nat} {ar args:List AV} {v:AV} {S:ASt} (h:args≠ar):dskC d las es k ar v f args S=none:=by unfold dskC;rw[if_neg (fun x=>h x.2.1)]
theorem slotN_cases (a b g:Bool):slotN a b g=0∨slotN a b g=1∨slotN a b g=-1:=by
 cases a<;>cases b<;>cases g<;>simp[slotN]
def selN {α:Type} (n:Int) (v0 v1 vn:α):α:=if n=0 then v0 else if n=1 then v1 else vn
section
variable (H:List Nat→Nat→Nat) (X:List Nat→Nat) (b:Nat→List Nat)
def nS:Int:=slotN (iS H (b 0)) (iS H (b 1)) (decide (sX H (b 0) 5<sX H (b 1) 5))
def LSx:Nat→Nat:=selN (nS H b) (sX H (b 0)) (sX H (b 1)) (fun _=>0)
def LSc:Bool:=selN (nS H b) (sC H (b 0)) (sC H (b 1)) false
def LSe:Nat:=selN (nS H b) 0 0 6
def nK:Int:=slotN (iK X (b 2)) (iK X (b 3)) (decide (rQ X (b 2)<rQ X (b 3)))
def LKx:Nat→Nat:=selN (nK X b) (rX X (b 2)) (rX X (b 3)) (fun _=>0)
def LKq:Nat:=selN (nK X b) (rQ X (b 2)) (rQ X (b 3)) 0
def LKe:Nat:=selN (nK X b) 0 0 6
end
section
variable {q q2:CallT} {H:List Nat→Nat→Nat} {X:List Nat→Nat} {S:ASt} {d:Nat} {las:List (List Nat)} {es:List dsk.En}
theorem slots_p (hS:Sums q H) (hD:Dsk S d las es) (hn:2≤las.length):Call1 Tryz.prog 121 [.ptr (some (d,0))] S (.tuple [.agg (sL (sX H (nb las es 0)) (sC H (nb las es 0))++sL (sX H (nb las es 1)) (sC H (nb las es 1))),.int .i64 (nS H (nb las es)),.int .i64 (.ofNat 0)],S) :=
 slots_g (i:=0) (q0:=0) (q1:=0) (orC_ok diskC_ok (blkC_ok (so_at hS))) hD.tidy (fun Y o=>orC_l (diskC_b (hD.over o))) (fun Y o=>orC_l (diskC_r (hD.over o) (by omega))) (fun Y o=>orC_l (diskC_r (hD.over o) (by omega)))
  (fun Y=>orC_r (diskC_no (by decide) (by decide)) (blkC_at (hD.bk 0) Y)) (fun Y=>orC_r (diskC_no (by decide) (by decide)) (blkC_at (hD.bk 1) Y)) hn
theorem loadS_p (hS:Sums q H) (hD:Dsk S d las es) (hn:2≤las.length):Call1 Tryz.prog 54 [.ptr (some (d,0))] S (.tuple [.agg (sL (LSx H (nb las es)) (LSc H (nb las es))),.int .i64 (.ofNat (LSe H (nb las es)))],S):=by
 have hok:=dskC_ok (fun S (hD:Dsk S d las es)=>slots_p hS hD hn)
 have hat:∀{l:List (Nat×AO)} (Y:ASt),Ov S Y l→_:=fun Y o=>dskC_at (k:=121) (ar:=[.ptr (some (d,0))]) (v:=.tuple [.agg (sL (sX H (nb las es 0)) (sC H (nb las es 0))++sL (sX H (nb las es 1)) (sC H (nb las es 1))),.int .i64 (nS H (nb las es)),.int .i64 (.ofNat 0)]) (hD.over o)
 unfold LSx LSc LSe
 rcases slotN_cases (iS H (nb las es 0)) (iS H (nb las es 1)) (decide (sX H (nb las es 0) 5<sX H (nb las es 1) 5)) with h | h | h
 ·rw[show nS H (nb las es)=0 from h] at hok hat ⊢
  exact load0_g (n:=0) (i:=0) (q0:=0) (q1:=0) (B0:=[]) (B1:=[]) (i0:=true) (i1:=true) hok hD.tidy (fun Y o=>hat Y o)
 ·rw[show nS H (nb las es)=1 from h] at hok hat ⊢
  exact load1_g (n:=0) (i:=0) (q0:=0) (q1:=0) (B0:=[]) (B1:=[]) (i0:=true) (i1:=true) hok hD.tidy (fun Y o=>hat Y o)
 ·rw[show nS H (nb las es)=-1 from h] at hok hat ⊢
  exact loadn_g (n:=0) (i:=0) (q0:=0) (q1:=0) (B0:=[]) (B1:=[]) (i0:=true) (i1:=true) hok hD.tidy (fun Y o=>hat Y o)
theorem slot_p (hX:Shorts q X) (hD:Dsk S d las es) {i:Nat} (hn:i<las.length):Call1 Tryz.prog 170 [.ptr (some (d,0)),.int .i64 (.ofNat i)] S (.tuple [.agg (rL (rX X (nb las es i))),.int .u64 (.ofNat (rQ X (nb las es i))),.bool (iK X (nb las es i)),.int .i64 (.ofNat 0)],S) :=
 slot_g (n:=0) (q1:=0) (B1:=[]) (x1:=fun _=>0) (c0:=true) (c1:=true) (i1:=true) (orC_ok diskC_ok (blkC_ok (ko_at hX))) hD.tidy (fun Y o=>orC_l (diskC_r (hD.over o) hn))
  (fun Y=>orC_r (diskC_no (by decide) (by decide)) (blkC_at (hD.bk i) Y))
theorem both_p (hX:Shorts q X) (hD:Dsk S d las es) (hn:4≤las.length) (hn2:las.length<100000):Call1 Tryz.prog 122 [.ptr (some (d,0)),.int .i64 (.ofNat 2)] S (.tuple [.agg (rL (rX X (nb las es 2))++rL (rX X (nb las es 3))),.agg [.int .u64 (.ofNat (rQ X (nb las es 2))),.int .u64 (.ofNat (rQ X (nb las es 3)))],.int .i64 (nK X (nb las es)),.int .i64 (.ofNat 0)],S) :=
 both_g (i:=0) (B0:=[]) (B1:=[]) (c0:=true) (c1:=true) (orC_ok diskC_ok (orC_ok (dskC_ok (fun S hD=>slot_p hX hD (show 2<las.length by omega))) (dskC_ok (fun S hD=>slot_p hX hD (show 3<las.length by omega))))) hD.tidy (fun Y o=>orC_l (diskC_b (hD.over o)))
  (fun Y o=>orC_r (diskC_no (by decide) (by decide)) (orC_l (dskC_at (hD.over o)))) (fun Y o=>orC_r (diskC_no (by decide) (by decide)) (orC_r (dskC_na (by simp)) (dskC_at (hD.over o)))) hn hn2
theorem tab_p (hX:Shorts q X) (hD:Dsk S d las es) (hn:4≤las.length) (hn2:las.length<100000):Call1 Tryz.prog 55 [.ptr (some (d,0)),.int .i64 (.ofNat 2)] S (.tuple [.agg (rL (LKx X (nb las es))),.int .u64 (.ofNat (LKq X (nb las es))),.int .i64 (.ofNat (LKe X (nb las es)))],S):=by
 have hok:=dskC_ok (fun S (hD:Dsk S d las es)=>both_p hX hD hn hn2)
 have hat:∀{l:List (Nat×AO)} (Y:ASt),Ov S Y l→_:=fun Y o=>dskC_at (k:=122) (ar:=[.ptr (some (d,0)),.int .i64 (.ofNat 2)]) (v:=.tuple [.agg (rL (rX X (nb las es 2))++rL (rX X (nb las es 3))),.agg [.int .u64 (.ofNat (rQ X (nb las es 2))),.int .u64 (.ofNat (rQ X (nb las es 3)))],.int .i64 (nK X (nb las es)),.int .i64 (.ofNat 0)]) (hD.over o)
 unfold LKx LKq LKe
 rcases slotN_cases (iK X (nb las es 2)) (iK X (nb las es 3)) (decide (rQ X (nb las es 2)<rQ X (nb las es 3))) with h | h | h
 ·rw[show nK X (nb las es)=0 from h] at hok hat ⊢
  exact tab0_g (n:=0) (i:=0) (B0:=[]) (B1:=[]) (c0:=true) (c1:=true) (i0:=true) (i1:=true) hok hD.tidy (fun Y o=>hat Y o)
 ·rw[show nK X (nb las es)=1 from h] at hok hat ⊢
  exact tab1_g (n:=0) (i:=0) (B0:=[]) (B1:=[]) (c0:=true) (c1:=true) (i0:=true) (i1:=true) hok hD.tidy (fun Y o=>hat Y o)
 ·rw[show nK X (nb las es)=-1 from h] at hok hat ⊢
  exact tabn_g (n:=0) (i:=0) (B0:=[]) (B1:=[]) (c0:=true) (c1:=true) (i0:=true) (i1:=true) hok hD.tidy (fun Y o=>hat Y o)
end
end Go.Proofs.YtiafochainjglaaGreatDoor.drp
end

section
open Go Go.Ax Go.Proofs
namespace Go.Proofs.YtiafochainjglaaGreatDoor.drp
set_option linter.unusedVariables false
def zM:List AV:=.int .i64 (.ofNat 0)::(zS++(zR++[.int .u64 (.ofNat 0),.bool false,.int .u64 (.ofNat 0),.int .u64 (.ofNat 0),.int .u16 (.ofNat 0)]))
def mL (k:Nat) (x:Nat→Nat) (c:Bool) (y:Nat→Nat) (t:Nat) (mk:Bool) (se nu ho:Nat):List AV:=.int .i64 (.ofNat k)::(sL x c++(rL y++[.int .u64 (.ofNat t),.bool mk,.int .u64 (.ofNat se),.int .u64 (.ofNat nu),.int .u16 (.ofNat ho)]))
end Go.Proofs.YtiafochainjglaaGreatDoor.drp
end

section
open Go Go.Ax Go.Proofs
namespace Go.Proofs.YtiafochainjglaaGreatDoor.drp.oo
set_option linter.unusedVariables false
noncomputable def fnsO:List (Nat×Func):=[(58,Tryz.f58),(53,Tryz.f53),(120,Tryz.f120),(110,Tryz.f110),(50,Tryz.f50)]
noncomputable def EO:Env:=envEx Tryz.prog [0,3,4,5,24,37,43] fnsO []
noncomputable def cI:Code:=Option.getD Tryz.f110.body .skip
noncomputable def LI:Code:=lopB (blkB (seqR (seqL (dropC 0 cI))))
noncomputable def cB:Code:=Option.getD Tryz.f50.body .skip
noncomputable def LB:Code:=lopB (blkB (seqR (seqL (dropC 0 cB))))
noncomputable abbrev kCeO_1 (a:CallT):=TM EO (onlyC [73,110] a) [(58,⟨[6,10,11],[],[],[]⟩),(53,⟨[7,8,12,17,18],[11,15],[],[]⟩),(120,⟨[4,7,10],[],[],[]⟩)] fl0 60
noncomputable def tNa (q:CallT) (s k v:Nat) (g:Bool) (S:ASt):Tr (AV×ASt):=(kCeO_1 q).call 58 [.int .u64 (.ofNat s),.int .i64 (.ofNat k)] S
noncomputable def tNb (q:CallT) (s k v:Nat) (g:Bool) (S:ASt):Tr (AV×ASt):=(kCeO_1 q).call 58 [.int .u64 (.ofNat s),.int .i64 (.ofNat k)] S
noncomputable def tCa (q:CallT) (d n k:Nat) (S:ASt):Tr (AV×ASt):=(kCeO_1 q).call 53 [.ptr (some (d,0)),.int .i64 (.ofNat k)] S
noncomputable def tI0 (s i:Nat) (S:ASt):Tr (Exit×AFr×ASt):=(TM EO noSum [] fl0 60).ex ⟨[],[],[],[]⟩ none (preC 0 cI) {m:=putArgs [.int .u64 (.ofNat s),.int .i64 (.ofNat i)] 0 .e,n:=16,defs:=[]} S
noncomputable def tI1 (s i:Nat) (S:ASt):Tr (Exit×AFr×ASt):=(TM EO noSum [] fl0 60).ex ⟨[],[],[],[]⟩ none (seqL (seqL (dropC 0 cI))) (xFr [(0,.int .u64 (.ofNat s)),(1,.int .i64 (.ofNat i))] 16) S
noncomputable def tIb (s i j:Nat) (S:ASt):Tr (Exit×AFr×ASt):=(TM EO noSum [] fl0 60).ex ⟨[8,12,10],[],[],[]⟩ none LI (xFr [(0,.int .u64 (.ofNat s)),(1,.int .i64 (.ofNat i)),(5,.int .i64 (.ofNat j))] 16) S
noncomputable def tIx (s i j:Nat) (S:ASt):Tr (Exit×AFr×ASt):=(TM EO noSum [] fl0 60).ex ⟨[8,12,10],[],[],[]⟩ none LI (xFr [(0,.int .u64 (.ofNat s)),(1,.int .i64 (.ofNat i)),(5,.int .i64 (.ofNat j))] 16) S
noncomputable def tI9 (s:Nat) (g:Bool) (S:ASt):Tr (Exit×AFr×ASt):=(TM EO noSum [] fl0 60).ex ⟨[14,15],[],[],[]⟩ none (dropC 1 cI) (xFr [(0,.int .u64 (.ofNat s))] 16) S
noncomputable def tB0 (s i:Nat) (S:ASt):Tr (Exit×AFr×ASt):=(TM EO noSum [] fl0 60).ex ⟨[],[],[],[]⟩ none (preC 0 cB) {m:=putArgs [.int .u64 (.ofNat s),.int .i64 (.ofNat i)] 0 .e,n:=14,defs:=[]} S
noncomputable def tB1 (s i:Nat) (S:ASt):Tr (Exit×AFr×ASt):=(TM EO noSum [] fl0 60).ex ⟨[],[],[],[]⟩ none (seqL (seqL (dropC 0 cB))) (xFr [(0,.int .u64 (.ofNat s)),(1,.int .i64 (.ofNat i))] 14) S
noncomputable def tBb (q:CallT) (s j:Nat) (g:Bool) (S:ASt):Tr (Exit×AFr×ASt):=(TM EO (onlyC [73,110] q) [] fl0 60).ex ⟨[8,13,10],[],[13],[]⟩ none LB (xFr [(0,.int .u64 (.ofNat s)),(5,.int .i64 (.ofNat j))] 14) S
noncomputable def tBx (q:CallT) (s j:Nat) (g:Bool) (S:ASt):Tr (Exit×AFr×ASt):=(TM EO (onlyC [73,110] q) [] fl0 60).ex ⟨[8,13,10],[],[13],[]⟩ none LB (xFr [(0,.int .u64 (.ofNat s)),(5,.int .i64 (.ofNat j))] 14) S
noncomputable def tB9 (s:Nat) (S:ASt):Tr (Exit×AFr×ASt):=(TM EO noSum [] fl0 60).ex ⟨[],[],[],[]⟩ none (dropC 1 cB) (xFr [(0,.int .u64 (.ofNat s))] 14) S
noncomputable abbrev kCeO_0 (a:Nat):=AV.int .i64 (.ofNat a)
noncomputable abbrev kCeO_2:=Operand.const (Value.int .i64 64)
noncomputable abbrev kCeO_5 (a:Nat):=AV.int .u64 (.ofNat a)
theorem vcNa (q:CallT) (s k v:Nat) (g:Bool) (S:ASt) (Q:AV×ASt→Prop) :
 Vq (tNa q s k v g S) Q (as_ S (aBin EO .lss 3 (.tmp 5) kCeO_2 (kCeO_0 k) (kCeO_0 64)) (.bool true) (as_ S (aBin EO .shr 24 (.tmp 8) (.tmp 9) (kCeO_5 s) (kCeO_0 k)) (kCeO_5 v) (as_ S (aBin EO .neq 24 (.tmp 10) (.const (.int .u64 0)) (kCeO_5 v) (kCeO_5 0)) (.bool g) (aq (Q (.bool g,S)))))):=vq (by kernel_rfl)
theorem vcNb (q:CallT) (s k v:Nat) (g:Bool) (S:ASt) (Q:AV×ASt→Prop) :
 Vq (tNb q s k v g S) Q (as_ S (aBin EO .lss 3 (.tmp 5) kCeO_2 (kCeO_0 k) (kCeO_0 64)) (.bool false) (aq (Q (.bool false,S)))):=vq (by kernel_rfl)
noncomputable abbrev kCeO_3 (a b:Nat):=AV.int .i64 (.ofNat (a+b))
noncomputable abbrev kCeO_4:=Operand.const (Value.int .i64 1)
noncomputable abbrev kCeO_6:=Operand.const (Value.int .i64 0)
noncomputable abbrev kCeO_7 (a:CallT) (b:Nat):=M EO (drawA EO) (onlyC [73,110] a) b
theorem vcCa (q:CallT) (d n k:Nat) (S:ASt) (Q:AV×ASt→Prop) :
 Vq (tCa q d n k S) Q (al ((kCeO_7 q 54).call 73 [.ptr (some (d,0))]) S (kCeO_0 n) (as_ S (aBin EO .eql 3 (.tmp 7) kCeO_6 (kCeO_0 n) (kCeO_0 0)) (.bool false) (as_ S (aBin EO .lss 3 (.tmp 3) kCeO_4 (kCeO_0 k) (kCeO_0 1)) (.bool false) (as_ S (aBin EO .gtr 3 (.tmp 6) kCeO_2 (kCeO_0 k) (kCeO_0 64)) (.bool false) (as_ S (aBin EO .add 3 (.const (.int .i64 9)) (.tmp 9) (kCeO_0 9) (kCeO_0 k)) (kCeO_3 9 k) (as_ S (aBin EO .eql 3 (.tmp 11) kCeO_6 (kCeO_3 9 k) (kCeO_0 0)) (.bool false) (as_ S (aBin EO .lss 3 (.tmp 3) kCeO_4 (kCeO_0 k) (kCeO_0 1)) (.bool false) (as_ S (aBin EO .gtr 3 (.tmp 6) kCeO_2 (kCeO_0 k) (kCeO_0 64)) (.bool false) (as_ S (aBin EO .add 3 (.const (.int .i64 9)) (.tmp 9) (kCeO_0 9) (kCeO_0 k)) (kCeO_3 9 k) (al ((kCeO_7 q 52).call 73 [.ptr (some (d,0))]) S (kCeO_0 n) (as_ S (aBin EO .neq 3 (.tmp 15) (.tmp 17) (kCeO_3 9 k) (kCeO_0 n)) (.bool false) (aq (Q (.int .i64 (.ofNat 0),S)))))))))))))):=vq (by kernel_rfl)
theorem vcI0 (s i:Nat) (S:ASt) (Q:Exit×AFr×ASt→Prop) :
 Vq (tI0 s i S) (fun r=>Q (rawR [0,1] r)) (aq (Q (.normal,xFr [(0,.int .u64 (.ofNat s)),(1,.int .i64 (.ofNat i))] 16,S))):=vq (by kernel_rfl)
theorem vcI1 (s i:Nat) (S:ASt) (Q:Exit×AFr×ASt→Prop) :
 Vq (tI1 s i S) (fun r=>Q (rawR [0,1,5] r)) (aq (Q (.normal,xFr [(0,.int .u64 (.ofNat s)),(1,.int .i64 (.ofNat i)),(5,.int .i64 (.ofNat 0))] 16,S))):=vq (by kernel_rfl)
theorem vcIb (s i j:Nat) (S:ASt) (Q:Exit×AFr×ASt→Prop) :
 Vq (tIb s i j S) (fun r=>Q (rawR [0,1,5] r)) (as_ S (aBin EO .lss 3 (.tmp 6) (.tmp 7) (kCeO_0 j) (kCeO_0 i)) (.bool true) (as_ S (aBin EO .quo 24 (.tmp 11) (.const (.int .u64 2)) (kCeO_5 s) (kCeO_5 2)) (.int .u64 (.ofNat (s / 2))) (as_ S (aBin EO .add 3 (.tmp 9) kCeO_4 (kCeO_0 j) (kCeO_0 1)) (kCeO_3 j 1) (aq (Q (.normal,xFr [(0,.int .u64 (.ofNat (s / 2))),(1,.int .i64 (.ofNat i)),(5,.int .i64 (.ofNat (j+1)))] 16,S)))))):=vq (by kernel_rfl)
theorem vcIx (s i j:Nat) (S:ASt) (Q:Exit×AFr×ASt→Prop) :
 Vq (tIx s i j S) (fun r=>Q (rawR [0] r)) (as_ S (aBin EO .lss 3 (.tmp 6) (.tmp 7) (kCeO_0 j) (kCeO_0 i)) (.bool false) (aq (Q (.exit 0,xFr [(0,.int .u64 (.ofNat s))] 16,S)))):=vq (by kernel_rfl)
theorem vcI9 (s:Nat) (g:Bool) (S:ASt) (Q:Exit×AFr×ASt→Prop) :
 Vq (tI9 s g S) (fun r=>Q (rawR [4] r)) (as_ S (aBin EO .rem 24 (.tmp 13) (.const (.int .u64 2)) (kCeO_5 s) (kCeO_5 2)) (.int .u64 (.ofNat (s % 2))) (as_ S (aBin EO .eql 24 (.tmp 14) (.const (.int .u64 1)) (.int .u64 (.ofNat (s % 2))) (kCeO_5 1)) (.bool g) (aq (Q (.ret,xFr [(4,.bool g)] 16,S))))):=vq (by kernel_rfl)
theorem vcB0 (s i:Nat) (S:ASt) (Q:Exit×AFr×ASt→Prop) :
 Vq (tB0 s i S) (fun r=>Q (rawR [0,1] r)) (aq (Q (.normal,xFr [(0,.int .u64 (.ofNat s)),(1,.int .i64 (.ofNat i))] 14,S))):=vq (by kernel_rfl)
theorem vcB1 (s i:Nat) (S:ASt) (Q:Exit×AFr×ASt→Prop) :
 Vq (tB1 s i S) (fun r=>Q (rawR [0,5] r)) (aq (Q (.normal,xFr [(0,.int .u64 (.ofNat s)),(5,.int .i64 (.ofNat i))] 14,S))):=vq (by kernel_rfl)
theorem vcBb (q:CallT) (s j:Nat) (g:Bool) (S:ASt) (Q:Exit×AFr×ASt→Prop) :
 Vq (tBb q s j g S) (fun r=>Q (rawR [0,4,5] r)) (as_ S (aBin EO .lss 3 (.tmp 7) kCeO_2 (kCeO_0 j) (kCeO_0 64)) (.bool true) (al ((kCeO_7 q 55).call 110 [.int .u64 (.ofNat s),.int .i64 (.ofNat j)]) S (.bool g) (ai g (aq (Q (.ret,xFr [(0,.int .u64 (.ofNat s)),(4,.bool true),(5,.int .i64 (.ofNat j))] 14,S))) (as_ S (aBin EO .add 3 (.tmp 9) kCeO_4 (kCeO_0 j) (kCeO_0 1)) (kCeO_3 j 1) (aq (Q (.normal,xFr [(0,.int .u64 (.ofNat s)),(4,.any),(5,.int .i64 (.ofNat (j+1)))] 14,S))))))):=vq (by kernel_rfl)
theorem vcBx (q:CallT) (s j:Nat) (g:Bool) (S:ASt) (Q:Exit×AFr×ASt→Prop) :
 Vq (tBx q s j g S) (fun r=>Q (rawR [0] r)) (as_ S (aBin EO .lss 3 (.tmp 7) kCeO_2 (kCeO_0 j) (kCeO_0 64)) (.bool false) (aq (Q (.exit 0,xFr [(0,.int .u64 (.ofNat s))] 14,S)))):=vq (by kernel_rfl)
theorem vcB9 (s:Nat) (S:ASt) (Q:Exit×AFr×ASt→Prop) :
 Vq (tB9 s S) (fun r=>Q (rawR [4] r)) (aq (Q (.ret,xFr [(4,.bool false)] 14,S))):=vq (by kernel_rfl)
end Go.Proofs.YtiafochainjglaaGreatDoor.drp.oo
end

section
open Go Go.Ax Go.Proofs
namespace Go.Proofs.YtiafochainjglaaGreatDoor.drp.oo
open cd cd2 cd3 cd4 cd5 cd9
set_option linter.unusedVariables false
theorem EOok:Env.Ok Tryz.prog EO:=envEx_ok (xs:=[]) ⟨⟨Tryz.func58,Tryz.call58⟩,⟨Tryz.func53,Tryz.call53⟩,⟨Tryz.func120,Tryz.call120⟩,⟨Tryz.func110,Tryz.call110⟩,⟨Tryz.func50,Tryz.call50⟩,trivial⟩ trivial (by kernel_rfl)
section
variable {S:ASt} {x y:Operand} {a b:Nat}
theorem lssO:still S (aBin EO .lss 3 x y (.int .i64 (.ofNat a)) (.int .i64 (.ofNat b)))=some (.bool (decide (a<b)),S):=by
 have e:aBin EO .lss 3 x y (.int .i64 (.ofNat a)) (.int .i64 (.ofNat b))=some (.bool (ltF (.ofNat a) (.ofNat b))):=by kernel_rfl
 rw[ltF_nn] at e
 exact still_of e
theorem gtrO:still S (aBin EO .gtr 3 x y (.int .i64 (.ofNat a)) (.int .i64 (.ofNat b)))=some (.bool (decide (b<a)),S):=by
 have e:aBin EO .gtr 3 x y (.int .i64 (.ofNat a)) (.int .i64 (.ofNat b))=some (.bool (ltF (.ofNat b) (.ofNat a))):=by kernel_rfl
 rw[ltF_nn] at e
 exact still_of e
theorem eqF_nn (a b:Nat):eqF (.ofNat a) (.ofNat b)=decide (a=b):=by
 rw[eqF_eq]
 cases h:(Int.ofNat a == Int.ofNat b)
 ·have h2:=ne_of_beq_false h
  exact (decide_eq_false fun e=>h2 (by rw[e])).symm
 ·exact (decide_eq_true (Int.ofNat.inj (eq_of_beq h))).symm
theorem eqlO:still S (aBin EO .eql 3 x y (.int .i64 (.ofNat a)) (.int .i64 (.ofNat b)))=some (.bool (decide (a=b)),S):=by
 have e:aBin EO .eql 3 x y (.int .i64 (.ofNat a)) (.int .i64 (.ofNat b))=some (.bool (eqF (.ofNat a) (.ofNat b))):=by kernel_rfl
 rw[eqF_nn] at e
 exact still_of e
theorem neqO:still S (aBin EO .neq 3 x y (.int .i64 (.ofNat a)) (.int .i64 (.ofNat b)))=some (.bool (!decide (a=b)),S):=by
 have e:aBin EO .neq 3 x y (.int .i64 (.ofNat a)) (.int .i64 (.ofNat b))=some (.bool (!eqF (.ofNat a) (.ofNat b))):=by kernel_rfl
 rw[eqF_nn] at e
 exact still_of e
theorem eqlU:still S (aBin EO .eql 24 x y (.int .u64 (.ofNat a)) (.int .u64 (.ofNat b)))=some (.bool (decide (a=b)),S):=by
 have e:aBin EO .eql 24 x y (.int .u64 (.ofNat a)) (.int .u64 (.ofNat b))=some (.bool (eqF (.ofNat a) (.ofNat b))):=by kernel_rfl
 rw[eqF_nn] at e
 exact still_of e
theorem neqU:still S (aBin EO .neq 24 x y (.int .u64 (.ofNat a)) (.int .u64 (.ofNat b)))=some (.bool (!decide (a=b)),S):=by
 have e:aBin EO .neq 24 x y (.int .u64 (.ofNat a)) (.int .u64 (.ofNat b))=some (.bool (!eqF (.ofNat a) (.ofNat b))):=by kernel_rfl
 rw[eqF_nn] at e
 exact still_of e
theorem addO (h:a+b<1000000):still S (aBin EO .add 3 x y (.int .i64 (.ofNat a)) (.int .i64 (.ofNat b)))=some (.int .i64 (.ofNat (a+b)),S):=by
 have e:aBin EO .add 3 x y (.int .i64 (.ofNat a)) (.int .i64 (.ofNat b))=some (.int .i64 (wrapF .i64 (.ofNat a+.ofNat b))):=by kernel_rfl
 rw[show (Int.ofNat a+Int.ofNat b)=Int.ofNat (a+b) from rfl,wrap_nat (by omega)] at e
 exact still_of e
theorem quoU (h:a<18446744073709551616):still S (aBin EO .quo 24 x y (.int .u64 (.ofNat a)) (.int .u64 (.ofNat 2)))=some (.int .u64 (.ofNat (a / 2)),S):=by
 have e:aBin EO .quo 24 x y (.int .u64 (.ofNat a)) (.int .u64 (.ofNat 2))=some (.int .u64 (wrapF .u64 (Int.tdiv (.ofNat a) (.ofNat 2)))):=by kernel_rfl
 rw[td,wrapU (by omega)] at e
 exact still_of e
theorem remU:still S (aBin EO .rem 24 x y (.int .u64 (.ofNat a)) (.int .u64 (.ofNat 2)))=some (.int .u64 (.ofNat (a % 2)),S):=by
 have e:aBin EO .rem 24 x y (.int .u64 (.ofNat a)) (.int .u64 (.ofNat 2))=some (.int .u64 (Int.tmod (.ofNat a) (.ofNat 2))):=by kernel_rfl
 rw[tm] at e
 exact still_of e
theorem shrU (hk:b<64):still S (aBin EO .shr 24 x y (.int .u64 (.ofNat a)) (.int .i64 (.ofNat b)))=some (.int .u64 (.ofNat (a / 2 ^ b)),S):=by
 have e:aBin EO .shr 24 x y (.int .u64 (.ofNat a)) (.int .i64 (.ofNat b))=(match aShift .shr .u64 (.ofNat a) (.ofNat b) with | some r=>some (.int .u64 r) | none=>none):=by kernel_rfl
 have e2:aShift .shr .u64 (.ofNat a) (.ofNat b)=some (shrF (.ofNat a) b):=by
  show some (shrF (.ofNat a) (bif Nat.ble b 64 then b else 64))=_
  rw[ble_t (show b≤64 by omega)];rfl
 rw[e2] at e
 exact still_of e
end
def beyS (s k:Nat):Bool:=decide (k<64) && !decide (s / 2 ^ k=0)
theorem none_p (S:ASt) (s k:Nat):Call1 Tryz.prog 58 [.int .u64 (.ofNat s),.int .i64 (.ofNat k)] S (.bool (beyS s k),S):=by
 unfold beyS
 by_cases h:k<64
 ·rw[decide_eq_true h,Bool.true_and]
  exact Call1.of_tm EOok (onlyC_ok noSum_ok) (Eq.mp (vcNa noSum s k (s / 2 ^ k) (!decide (s / 2 ^ k=0)) S (fun q=>q=(.bool (!decide (s / 2 ^ k=0)),S))) ⟨by rw[lssO,decide_eq_true h],shrU h,neqU,rfl⟩)
 ·rw[decide_eq_false h,Bool.false_and]
  exact Call1.of_tm EOok (onlyC_ok noSum_ok) (Eq.mp (vcNb noSum s k 0 false S (fun q=>q=(.bool false,S))) ⟨by rw[lssO,decide_eq_false h],rfl⟩)
section
variable {S:ASt} {d:Nat} {las:List (List Nat)} {es:List dsk.En}
theorem check_ok (hD:Dsk S d las es) {k:Nat} (hn:las.length=9+k) (h1:1≤k) (h2:k≤64):Call1 Tryz.prog 53 [.ptr (some (d,0)),.int .i64 (.ofNat k)] S (.int .i64 (.ofNat 0),S) :=
 Call1.of_tm EOok (onlyC_ok (diskC_ok (d:=d) (las:=las) (es:=es))) (Eq.mp (vcCa (diskC d las es) d las.length k S (fun q=>q=(.int .i64 (.ofNat 0),S))) ⟨ca (diskC_b hD),by rw[eqlO,decide_eq_false (by omega)],by rw[lssO,decide_eq_false (by omega)],by rw[gtrO,decide_eq_false (by omega)],addO (by omega),by rw[eqlO,decide_eq_false (by omega)],
  by rw[lssO,decide_eq_false (by omega)],by rw[gtrO,decide_eq_false (by omega)],addO (by omega),ca (diskC_b hD),by rw[neqO,decide_eq_true (by omega)];rfl,rfl⟩)
end
theorem shI:dropC 0 cI=.seq (.seq (seqL (seqL (dropC 0 cI))) (.block 0 (.loop LI))) (dropC 1 cI):=by kernel_rfl
theorem shB:dropC 0 cB=.seq (.seq (seqL (seqL (dropC 0 cB))) (.block 0 (.loop LB))) (dropC 1 cB):=by kernel_rfl
noncomputable def fI (s i j:Nat):AFr:=xFr [(0,.int .u64 (.ofNat s)),(1,.int .i64 (.ofNat i)),(5,.int .i64 (.ofNat j))] 16
noncomputable def fB (s j:Nat):AFr:=xFr [(0,.int .u64 (.ofNat s)),(5,.int .i64 (.ofNat j))] 14
theorem in_p (S:ASt) {s i:Nat} (hs:s<18446744073709551616) (hi:i≤64):Call1 Tryz.prog 110 [.int .u64 (.ofNat s),.int .i64 (.ofNat i)] S (.bool (decide (s / 2 ^ i % 2=1)),S):=by
 refine Call1.tripDrop EOok (fn:=Tryz.f110) (c:=cI) (by kernel_rfl) (by kernel_rfl) (by kernel_rfl) (N:=16) (by kernel_rfl) (bool_p ..) (by simp[refsD]) ?_
 refine Trip.preR EOok noSum_ok (k:=0) (kf:=[0,1]) (by kernel_rfl) (Q1:=fun q=>q=(.normal,xFr [(0,.int .u64 (.ofNat s)),(1,.int .i64 (.ofNat i))] 16,S)) (Eq.mp (vcI0 s i S (fun q=>q=(.normal,xFr [(0,.int .u64 (.ofNat s)),(1,.int .i64 (.ofNat i))] 16,S))) rfl) ?_ (fun q h1 h2=>absurd (congrArg (·.1) h2) h1)
 rintro F X hX
 cases hX
 rw[shI]
 refine Trip.seq (R:=fun r=>r=(.normal,xFr [(0,.int .u64 (.ofNat (s / 2 ^ i)))] 16,S)) ?_ (fun F X hX=>?_) (fun e F X he hX=>by cases hX;exact absurd rfl he)
 ·refine Trip.seq (R:=fun r=>r=(.normal,fI s i 0,S)) (Trip.ofR EOok noSum_ok (kf:=[0,1,5]) (Q1:=fun q=>q=(.normal,fI s i 0,S)) (Eq.mp (vcI1 s i S (fun q=>q=(.normal,fI s i 0,S))) rfl) (fun e F X h=>h)) (fun F X hX=>?_) (fun e F X he hX=>by cases hX;exact absurd rfl he)
  cases hX
  refine Trip.block (Trip.loop (fun m fr st=>∃j,j≤i∧m=i - j∧fr=fI (s / 2 ^ j) i j∧st=S) ?_ i ⟨0,Nat.zero_le _,rfl,by rw[Nat.pow_zero,Nat.div_one],rfl⟩)
  rintro m fr st ⟨j,hj,rfl,rfl,rfl⟩
  by_cases h:j<i
  ·refine Trip.ofR EOok noSum_ok (kf:=[0,1,5]) (Q1:=fun q=>q=(.normal,fI (s / 2 ^ j / 2) i (j+1),st)) (Eq.mp (vcIb (s / 2 ^ j) i j st (fun q=>q=(.normal,fI (s / 2 ^ j / 2) i (j+1),st))) ⟨by rw[lssO,decide_eq_true h],quoU (Nat.lt_of_le_of_lt (Nat.div_le_self _ _) hs),addO (by omega),rfl⟩) (fun e F X hq=>?_)
   cases hq
   exact⟨i - (j+1),fI (s / 2 ^ j / 2) i (j+1),st,by omega,Wk.refl _ _ _,j+1,h,rfl,by rw[Nat.div_div_eq_div_mul,←Nat.pow_succ],rfl⟩
  ·have:j=i:=by omega
   subst this
   refine Trip.ofR EOok noSum_ok (kf:=[0]) (Q1:=fun q=>q=(.exit 0,xFr [(0,.int .u64 (.ofNat (s / 2 ^ j)))] 16,st)) (Eq.mp (vcIx (s / 2 ^ j) j j st (fun q=>q=(.exit 0,xFr [(0,.int .u64 (.ofNat (s / 2 ^ j)))] 16,st))) ⟨by rw[lssO,decide_eq_false h],rfl⟩) (fun e F X hq=>?_)
   cases hq
   exact⟨fun _=>rfl,fun h=>absurd rfl h⟩
 ·cases hX
  refine Trip.ofR EOok noSum_ok (kf:=[4]) (Eq.mp (vcI9 (s / 2 ^ i) (decide (s / 2 ^ i % 2=1)) S (Left EO Tryz.f110 16 S (.bool (decide (s / 2 ^ i % 2=1))))) ⟨remU,eqlU,⟨.inr rfl,rfl,leave_of (rs:=[.tmp 4]) (by kernel_rfl) rfl (res_tmp (by kernel_rfl) res_nil) rfl,fun _ _=>rfl⟩⟩) (fun e F X hq=>hq)
theorem beyS_iff {s:Nat} (hs:s<18446744073709551616) (k:Nat):beyS s k=true↔∃j,k≤j∧j<64∧s / 2 ^ j % 2=1:=by
 unfold beyS
 rw[Bool.and_eq_true,decide_eq_true_eq,Bool.not_eq_true',decide_eq_false_iff_not]
 constructor
 ·rintro ⟨h1,h2⟩
  have h64:s / 2 ^ 64=0:=Nat.div_eq_of_lt hs
  obtain⟨n,hn⟩:∃n,n=64 - k:=⟨_,rfl⟩
  clear h1
  induction n generalizing k with
  | zero =>
   have:s / 2 ^ k≤s / 2 ^ 64:=Nat.div_le_div_left (Nat.pow_le_pow_right (by decide) (by omega)) (by decide)
   rw[h64] at this
   exact absurd (Nat.le_zero.1 this) h2
  | succ n ih =>
   by_cases hb:s / 2 ^ k % 2=1
   ·exact⟨k,Nat.le_refl _,by omega,hb⟩
   ·have h3:s / 2 ^ (k+1)≠0:=by
     rw[Nat.pow_succ,←Nat.div_div_eq_div_mul];omega
    obtain⟨j,q1,q2,q3⟩:=ih (k+1) h3 (by omega)
    exact⟨j,by omega,q2,q3⟩
 ·rintro ⟨j,h1,h2,h3⟩
  refine⟨by omega,fun h0=>?_⟩
  have:s / 2 ^ j≤s / 2 ^ k:=Nat.div_le_div_left (Nat.pow_le_pow_right (by decide) h1) (Nat.pow_pos (by decide))
  rw[h0] at this
  rw[Nat.le_zero.1 this] at h3
  cases h3
theorem bey_p (S:ASt) {s k:Nat} (hs:s<18446744073709551616) (hk:k≤64):Call1 Tryz.prog 50 [.int .u64 (.ofNat s),.int .i64 (.ofNat k)] S (.bool (beyS s k),S):=by
 have hq:CallsOK Tryz.prog (onlyC [73,110] (fun f args st=>match args with
   | [.int .u64 (.ofNat z),.int .i64 (.ofNat i)]=>if f=110∧z=s∧i≤64 then some (.bool (decide (z / 2 ^ i % 2=1)),st) else none
   | _=>none)):=onlyC_ok (fun B w0 f args st r hr ι w args' hsr hv=>by
  split at hr
  ·split at hr
   ·rename_i hh
    obtain⟨rfl,rfl,hi⟩:=hh
    simp only[Option.some.injEq] at hr
    subst hr
    exact in_p st hs hi B w0 ι w args' hsr hv
   ·cases hr
  ·cases hr)
 obtain⟨q,hqe⟩:∃q:CallT,q=(fun f args st=>match args with
   | [.int .u64 (.ofNat z),.int .i64 (.ofNat i)]=>if f=110∧z=s∧i≤64 then some (.bool (decide (z / 2 ^ i % 2=1)),st) else none
   | _=>none):=⟨_,rfl⟩
 have hin:∀i,i≤64→∀Y,q 110 [.int .u64 (.ofNat s),.int .i64 (.ofNat i)] Y=some (.bool (decide (s / 2 ^ i % 2=1)),Y):=fun i hi Y=>by rw[hqe];simp[hi]
 rw[←hqe] at hq
 refine Call1.tripDrop EOok (fn:=Tryz.f50) (c:=cB) (by kernel_rfl) (by kernel_rfl) (by kernel_rfl) (N:=14) (by kernel_rfl) (bool_p ..) (by simp[refsD]) ?_
 refine Trip.preR EOok noSum_ok (k:=0) (kf:=[0,1]) (by kernel_rfl) (Q1:=fun q=>q=(.normal,xFr [(0,.int .u64 (.ofNat s)),(1,.int .i64 (.ofNat k))] 14,S)) (Eq.mp (vcB0 s k S (fun q=>q=(.normal,xFr [(0,.int .u64 (.ofNat s)),(1,.int .i64 (.ofNat k))] 14,S))) rfl) ?_ (fun q h1 h2=>absurd (congrArg (·.1) h2) h1)
 rintro F X hX
 cases hX
 rw[shB]
 refine Trip.seq (R:=fun r=>(r=(.normal,xFr [(0,.int .u64 (.ofNat s))] 14,S)∧beyS s k=false)∨Left EO Tryz.f50 14 S (.bool (beyS s k)) r∧r.1≠.normal) ?_ (fun F X hX=>?_) (fun e F X he hX=>?_)
 ·refine Trip.seq (R:=fun r=>r=(.normal,fB s k,S)) (Trip.ofR EOok noSum_ok (kf:=[0,5]) (Q1:=fun q=>q=(.normal,fB s k,S)) (Eq.mp (vcB1 s k S (fun q=>q=(.normal,fB s k,S))) rfl) (fun e F X h=>h)) (fun F X hX=>?_) (fun e F X he hX=>by cases hX;exact absurd rfl he)
  cases hX
  refine Trip.block (Trip.loop (fun m fr st=>∃j,k≤j∧j≤64∧m=64 - j∧fr=fB s j∧st=S∧∀i,k≤i→i<j→s / 2 ^ i % 2≠1) ?_ (64 - k) ⟨k,Nat.le_refl _,hk,rfl,rfl,rfl,fun i h1 h2=>by omega⟩)
  rintro m fr st ⟨j,hkj,hj,rfl,rfl,rfl,hno⟩
  by_cases h:j<64
  ·refine Trip.ofR EOok hq (kf:=[0,4,5]) (Q1:=fun r=>(s / 2 ^ j % 2=1∧r=(.ret,xFr [(0,.int .u64 (.ofNat s)),(4,.bool true),(5,.int .i64 (.ofNat j))] 14,st))∨(s / 2 ^ j % 2≠1∧r=(.normal,fB s (j+1),st)))
    (Eq.mp (vcBb q s j (decide (s / 2 ^ j % 2=1)) st (fun r=>(s / 2 ^ j % 2=1∧r=(.ret,xFr [(0,.int .u64 (.ofNat s)),(4,.bool true),(5,.int .i64 (.ofNat j))] 14,st))∨(s / 2 ^ j % 2≠1∧r=(.normal,fB s (j+1),st)))) ⟨by rw[lssO,decide_eq_true h],ca (hin j (by omega) st),ifB_mk (fun hg=>.inl ⟨of_decide_eq_true hg,rfl⟩) (fun hg=>⟨addO (by omega),.inr ⟨of_decide_eq_false hg,rfl⟩⟩)⟩) (fun e F X hq=>?_)
   rcases hq with⟨hb,hq⟩ | ⟨hb,hq⟩
   ·cases hq
    have:beyS s k=true:=(beyS_iff hs k).2 ⟨j,hkj,h,hb⟩
    refine .inr ⟨?_,by simp⟩
    rw[this]
    exact⟨.inr rfl,rfl,leave_of (rs:=[.tmp 4]) (by kernel_rfl) rfl (res_tmp (by kernel_rfl) res_nil) rfl,fun _ _=>rfl⟩
   ·cases hq
    exact⟨64 - (j+1),fB s (j+1),st,by omega,Wk.refl _ _ _,j+1,by omega,h,rfl,rfl,rfl,fun i h1 h2=>by
     rcases Nat.lt_or_ge i j with q1 | q1
     ·exact hno i h1 q1
     ·rw[show i=j by omega];exact hb⟩
  ·have:j=64:=by omega
   subst this
   refine Trip.ofR EOok (onlyC_ok noSum_ok) (kf:=[0]) (Q1:=fun q=>q=(.exit 0,xFr [(0,.int .u64 (.ofNat s))] 14,st)) (Eq.mp (vcBx noSum s 64 false st (fun q=>q=(.exit 0,xFr [(0,.int .u64 (.ofNat s))] 14,st))) ⟨by rw[lssO,decide_eq_false h],rfl⟩) (fun e F X hq=>?_)
   cases hq
   refine⟨fun _=>.inl ⟨rfl,?_⟩,fun h=>absurd rfl h⟩
   cases hb:beyS s k
   ·rfl
   ·obtain⟨i,q1,q2,q3⟩:=(beyS_iff hs k).1 hb
    exact absurd q3 (hno i q1 q2)
 ·rcases hX with⟨hX,hb⟩ | ⟨_,hX⟩
  ·cases hX
   rw[hb]
   exact Trip.ofR EOok noSum_ok (kf:=[4]) (Eq.mp (vcB9 s S (Left EO Tryz.f50 14 S (.bool false))) ⟨.inr rfl,rfl,leave_of (rs:=[.tmp 4]) (by kernel_rfl) rfl (res_tmp (by kernel_rfl) res_nil) rfl,fun _ _=>rfl⟩) (fun e F X hq=>hq)
  ·exact absurd rfl hX
 ·rcases hX with⟨hX,hb⟩ | ⟨hX,_⟩
  ·cases hX;exact absurd rfl he
  ·exact hX
end Go.Proofs.YtiafochainjglaaGreatDoor.drp.oo
end
