/-
  OWN WORK, A PART: an abstract machine for the program's text that the kernel can run, and the proof that it is sound: what it answers is what the program answers; contracts of functions by it. No condition.
-/
import Derived.Test.YtiafochainjglaaGreatDoorNtB
import Derived.Test.YtiafochainjglaaGreatDoorMtI
import Derived.Test.YtiafochainjglaaGreatDoorNtA
import Derived.Test.YtiafochainjglaaGreatDoorMtD
import Derived.KernelRfl
section
open Go Go.Ax Go.Proofs
namespace Go.Proofs.YtiafochainjglaaGreatDoor.drp.pu
open cd cd2 cd3 cd4 cd5 cd9 oo my
set_option linter.unusedVariables false
theorem put_no {S:ASt} {d k:Nat} {las:List (List Nat)} {es:List dsk.En} (hD:Dsk S d las es) (hn:las.length=9+k) (h1:1≤k) (h2:k≤64) {b s:Int} {c:Bool} {x:Nat→Nat} {Z:Nat→Int} {t:Nat} {mk:Bool} {se nu ho:Nat} (hse:se<18446744073709551616)
  (hno:b≠.ofNat k∨mayG b s x Z mk se nu ho=false):Call1 Tryz.prog 16 [.ptr (some (d,0)),.agg (mG b s c x Z t mk se nu ho)] S (.int .i64 (.ofNat 2),S):=by
 obtain⟨S1,e1,o1⟩:=(Ov.nil hD.tidy).add (.cells (mG b s c x Z t mk se nu ho) true)
 have D1:Dsk S1 d las es:=hD.over o1
 have g1:=(o1.loc 0 (S.next,.cells (mG b s c x Z t mk se nu ho) true) rfl).2
 have fin:Left EPu Tryz.f16 76 S (.int .i64 (.ofNat 2)) (.ret,xFr [(4,.int .i64 (.ofNat 2))] 76,S1):=Left.of (rs:=[.tmp 4]) o1 rfl (by kernel_rfl) rfl (res_tmp (by kernel_rfl) res_nil) rfl
 by_cases hb:b=.ofNat k
 ·subst hb
  have hm:mayG (.ofNat k) s x Z mk se nu ho=false:=hno.elim (fun h=>absurd rfl h) id
  have hok:=orC_ok (oneC_ok (check_ok D1 hn h1 h2)) (pureC_ok (fun S=>by have:=(may_any (.ofNat k) s c x Z t mk se nu ho hse S).1;rw[hm] at this;exact this))
  exact exD Tryz.f16 cPu 76 [4] EPuok (onlyC_ok hok) (int_p ..) (Eq.mp (vcPb _ (.ofNat k) s c x Z t mk se nu ho d S.next S S1 (Left EPu Tryz.f16 76 S (.int .i64 (.ofNat 2))))
   ⟨by rw[e1];rfl,load_at (by kernel_rfl) g1 (by kernel_rfl),ca (orC_l oneC_at),load_agg (z:=32) (by kernel_rfl) g1 (by kernel_rfl),ca (orC_r (oneC_no (by decide)) (pureC_at ..)),fin⟩)
 ·have hok:=oneC_ok (check_any D1 hn h1 h2 hb)
  exact exD Tryz.f16 cPu 76 [4] EPuok (onlyC_ok hok) (int_p ..) (Eq.mp (vcPa _ b s c x Z t mk se nu ho d S.next S S1 (Left EPu Tryz.f16 76 S (.int .i64 (.ofNat 2))))
   ⟨by rw[e1];rfl,load_at (by kernel_rfl) g1 (by kernel_rfl),ca oneC_at,fin⟩)
section
variable {S X:ASt} {k t se nu ho:Nat} {x y:Nat→Nat} {c mk:Bool} {B0 B2 B4 BL:List Nat}
theorem blk_mk (h:P1 S X (mL k x c y t mk se nu ho) (putL2 B0 B2)) (c97:∀S,Call1 Tryz.prog 97 [.int .u64 (.ofNat se)] S (.agg (bl B4),S)):∃X',P1 S X' (mL k x c y t mk se nu ho) (putL4 mk B0 B2 B4)∧Trip Tryz.prog S.next none (seqL (dropC 3 cBk)) (fBu S.next (S.next+1)) X (fun z=>z=(.normal,fBu S.next (S.next+1),X')):=by
 cases mk with
 | true =>
  refine⟨_,h.put _,Trip.ofR EPuok (onlyC_ok (pureC_ok c97)) (kf:=[1,3]) (Q1:=fun z=>z=(.normal,fBu S.next (S.next+1),X.put (S.next+1) (.cells (dsk.rowB (putL4 true B0 B2 B4)) true))) (Eq.mp (vcBb _ S.next (S.next+1) se B4 X _ (fun z=>z=(.normal,fBu S.next (S.next+1),X.put (S.next+1) (.cells (dsk.rowB (putL4 true B0 B2 B4)) true))))
   ⟨load_at (by kernel_rfl) h.g0 (by kernel_rfl),load_at (by kernel_rfl) h.g0 (by kernel_rfl),ca (pureC_at ..),st_blk (i:=4) h.g1 (show 4<9 by decide) rfl,rfl⟩) (fun e F Y hz=>hz)⟩
 | false =>
  exact⟨X,h,Trip.ofR EPuok noSum_ok (kf:=[1,3]) (Q1:=fun z=>z=(.normal,fBu S.next (S.next+1),X)) (Eq.mp (vcBc S.next (S.next+1) X (fun z=>z=(.normal,fBu S.next (S.next+1),X))) ⟨load_at (by kernel_rfl) h.g0 (by kernel_rfl),rfl⟩) (fun e F Y hz=>hz)⟩
theorem blk_nu (h:P1 S X (mL k x c y t mk se nu ho) (putL4 mk B0 B2 B4)) (c98:∀S,Call1 Tryz.prog 98 [.int .u64 (.ofNat nu),.int .u16 (.ofNat ho)] S (.agg (bl BL),S)):∃X',P1 S X' (mL k x c y t mk se nu ho) (putL mk nu B0 B2 B4 BL)∧Trip Tryz.prog S.next none (seqL (dropC 4 cBk)) (fBu S.next (S.next+1)) X (fun z=>z=(.normal,fBu S.next (S.next+1),X')):=by
 by_cases hn:nu=0
 ·have e:putL mk nu B0 B2 B4 BL=putL4 mk B0 B2 B4:=if_pos hn
  rw[e]
  exact⟨X,h,Trip.ofR EPuok noSum_ok (kf:=[1,3]) (Q1:=fun z=>z=(.normal,fBu S.next (S.next+1),X)) (Eq.mp (vcBe S.next (S.next+1) nu X (fun z=>z=(.normal,fBu S.next (S.next+1),X))) ⟨load_at (by kernel_rfl) h.g0 (by kernel_rfl),by rw[gtrPu,decide_eq_true hn];rfl,rfl⟩) (fun e F Y hz=>hz)⟩
 ·have e:putL mk nu B0 B2 B4 BL=(putL4 mk B0 B2 B4).set (5+nu % 4) BL:=if_neg hn
  have hb:=h.bump 13
  have hl:=putL4_len mk B0 B2 B4
  rw[e]
  exact⟨_,hb.put _,Trip.ofR EPuok (onlyC_ok (pureC_ok c98)) (kf:=[1,3]) (Q1:=fun z=>z=(.normal,fBu S.next (S.next+1),(ASt.mk X.h (X.next+13)).put (S.next+1) (.cells (dsk.rowB ((putL4 mk B0 B2 B4).set (5+nu % 4) BL)) true))) (Eq.mp (vcBd _ S.next (S.next+1) nu ho BL X _ (fun z=>z=(.normal,fBu S.next (S.next+1),(ASt.mk X.h (X.next+13)).put (S.next+1) (.cells (dsk.rowB ((putL4 mk B0 B2 B4).set (5+nu % 4) BL)) true))))
   ⟨load_at (by kernel_rfl) h.g0 (by kernel_rfl),by rw[gtrPu,decide_eq_false hn];rfl,load_at (by kernel_rfl) hb.g0 (by kernel_rfl),remPu,cvtPu,addP (by omega),load_at (by kernel_rfl) hb.g0 (by kernel_rfl),load_at (by kernel_rfl) hb.g0 (by kernel_rfl),ca (pureC_at ..),ixPs (by omega),st_blk hb.g1 (by omega) rfl,holds_cons (fst_of (load_at (by kernel_rfl) hb.g0 (by kernel_rfl))) trivial,rfl⟩) (fun e F Y hz=>hz)⟩
theorem mL_d (D:Nat→Prop) (k:Nat) (x:Nat→Nat) (c:Bool) (y:Nat→Nat) (t:Nat) (mk:Bool) (se nu ho:Nat):refsDs D (mL k x c y t mk se nu ho):=by
 unfold mL sL rL
 simp[refsDs,refsD]
theorem blk_ok (ht:Tidy S) (c95:∀S,Call1 Tryz.prog 95 [.agg (sL x c)] S (.agg (bl B0),S)) (c96:∀S,Call1 Tryz.prog 96 [.agg (rL y),.int .u64 (.ofNat t)] S (.agg (bl B2),S))
  (c97:∀S,Call1 Tryz.prog 97 [.int .u64 (.ofNat se)] S (.agg (bl B4),S)) (c98:∀S,Call1 Tryz.prog 98 [.int .u64 (.ofNat nu),.int .u16 (.ofNat ho)] S (.agg (bl BL),S)) :
  ∃S',Call1 Tryz.prog 43 [.agg (mL k x c y t mk se nu ho)] S (.slice (some (S.next+1,0)) 9 (.known 9),S')∧Tidy S'∧S.next+2≤S'.next∧S'.h.get (S.next+1)=some (.cells (dsk.rowB (putL mk nu B0 B2 B4 BL)) true)∧∀k,k<S.next→S'.h.get k=S.h.get k:=by
 obtain⟨S1,e1⟩:∃X,X=S.add (.cells (mL k x c y t mk se nu ho) true):=⟨_,rfl⟩
 have p2:=P1.new ht (mL k x c y t mk se nu ho) (List.replicate 9 [])
 rw[←e1] at p2
 obtain⟨S2,e2⟩:∃X,X=S1.add (.cells (dsk.rowB (List.replicate 9 [])) true):=⟨_,rfl⟩
 rw[←e2] at p2
 have n1:S1.next=S.next+1:=by rw[e1];rfl
 have p3:=p2.put ((List.replicate 9 []).set 0 B0)
 obtain⟨S3,e3⟩:∃X,X=S2.put (S.next+1) (.cells (dsk.rowB ((List.replicate 9 []).set 0 B0)) true):=⟨_,rfl⟩
 rw[←e3] at p3
 have p4:=p3.put (putL2 B0 B2)
 obtain⟨S4,e4⟩:∃X,X=S3.put (S.next+1) (.cells (dsk.rowB (putL2 B0 B2)) true):=⟨_,rfl⟩
 rw[←e4] at p4
 obtain⟨S5,p5,t5⟩:=blk_mk (B4:=B4) p4 c97
 obtain⟨S6,p6,t6⟩:=blk_nu (BL:=BL) p5 c98
 refine⟨S6,?_,p6.ty,p6.nx,p6.g1,p6.old⟩
 have hok:=orC_ok (pureC_ok c95) (pureC_ok c96)
 refine Call2.up (Call2.of_stops EPuok (fn:=Tryz.f43) (c:=cBk) (by kernel_rfl) (by kernel_rfl) (by kernel_rfl) (N:=40) (e:=.ret) (F:=xFr [(2,.slice (some (S.next+1,0)) 9 (.known 9))] 40) (S':=S6) ?_ (.inr rfl) (leave_of (rs:=[.tmp 2]) (vs:=[.slice (some (S.next+1,0)) 9 (.known 9)]) (by kernel_rfl) rfl (res_tmp (by kernel_rfl) res_nil) rfl) (by kernel_rfl)) (by have:=p6.nx;omega) (fun i a hg hd=>?_) (show Go.Ax.Good S _ from .inl (by omega))
 ·refine Trip.preR EPuok (onlyC_ok hok) (k:=3) (kf:=[1,3]) (by kernel_rfl) (Q1:=fun r=>r=(.normal,fBu S.next (S.next+1),S4)) (Eq.mp (vcBa _ k t se nu ho x y c mk S.next (S.next+1) B0 B2 S S1 S2 S3 S4 (fun r=>r=(.normal,fBu S.next (S.next+1),S4)))
   ⟨by rw[e1];rfl,by rw[e2,←n1];kernel_rfl,load_agg (z:=7) (by kernel_rfl) p2.g0 (by kernel_rfl),ca (orC_l (pureC_at ..)),by rw[e3];exact st_blk (i:=0) p2.g1 (by decide) rfl,load_agg (z:=19) (by kernel_rfl) p3.g0 (by kernel_rfl),load_at (by kernel_rfl) p3.g0 (by kernel_rfl),ca (orC_r (pureC_no (by decide)) (pureC_at ..)),
    by rw[e4];exact st_blk (i:=2) p3.g1 (show 2<9 by decide) rfl,rfl⟩) ?_ (fun r h1 h2=>absurd (congrArg (·.1) h2) h1)
  rintro F Y hY
  cases hY
  rw[sk3]
  refine Trip.seq t5 (fun F Y hz=>?_) (fun e F Y he hz=>by cases hz;exact absurd rfl he)
  cases hz
  rw[sk4]
  refine Trip.seq t6 (fun F Y hz=>?_) (fun e F Y he hz=>by cases hz;exact absurd rfl he)
  cases hz
  refine Trip.ofR EPuok noSum_ok (kf:=[2]) (Q1:=fun z=>z=(.ret,xFr [(2,.slice (some (S.next+1,0)) 9 (.known 9))] 40,S6)) (Eq.mp (vcBf S.next (S.next+1) S6 (fun z=>z=(.ret,xFr [(2,.slice (some (S.next+1,0)) 9 (.known 9))] 40,S6))) rfl) (fun e F Y hz=>?_)
  cases hz
  exact⟨rfl,Wk.refl _ _ _⟩
 ·rcases Nat.lt_or_ge i S.next with hi | hi
  ·rw[p6.old i hi] at hg;exact .inl hg
  ·by_cases e0:i=S.next
   ·subst e0
    rw[p6.g0] at hg;cases hg
    exact .inr ⟨.inl hi,mL_d ..⟩
   ·by_cases e1:i=S.next+1
    ·subst e1
     rw[p6.g1] at hg;cases hg
     exact .inr ⟨.inl hi,cp.rowB_d _⟩
    ·rw[p6.hi i (by omega)] at hg;cases hg
end
theorem neqB {S:ASt} {x y:Operand} (B:List Nat):still S (aBin EPu .neq 54 x y (.agg (bl B)) (.agg (bl B)))=some (.bool false,S):=by
 have e:aBin EPu .neq 54 x y (.agg (bl B)) (.agg (bl B))=(match aEq EPu 12 54 (.agg (bl B)) (.agg (bl B)) with | some r=>some (.bool (!r)) | none=>none):=by kernel_rfl
 rw[lw.sEq_ok 12 54 _ (by kernel_rfl)] at e
 exact still_of e
structure SlR (S:ASt) (r o n:Nat) (g:Nat→List Nat):Prop where
 ex:∃cs rw,S.h.get r=some (.cells cs rw)∧∀i,i<n→takeL cs (o+i*256) 256=some (bl (g i))
noncomputable def fSm (A B:AV) (i:Nat):AFr:=xFr [(0,A),(1,B),(5,.int .i64 (.ofNat i))] 26
theorem shS:dropC 1 cSm=.seq (.seq (seqL (seqL (dropC 1 cSm))) (.block 0 (.loop LSm))) (dropC 2 cSm):=by kernel_rfl
theorem same_ok {S:ASt} {r o r2 o2 n:Nat} {C C2:Cap} {g:Nat→List Nat} (ht:Tidy S) (h1:SlR S r o n g) (h2:SlR S r2 o2 n g) (hn:n<1000):Call1 Tryz.prog 41 [.slice (some (r,o)) n C,.slice (some (r2,o2)) n C2] S (.bool true,S):=by
 obtain⟨cs,rw1,q1,q2⟩:=h1.ex
 obtain⟨cs2,rw2,q3,q4⟩:=h2.ex
 have hold:∀j k,(ASt.mk S.h (S.next+j)).h.get k=S.h.get k:=fun _ _=>rfl
 refine Call1.tripDrop EPuok (fn:=Tryz.f41) (c:=cSm) (by kernel_rfl) (by kernel_rfl) (by kernel_rfl) (N:=26) (by kernel_rfl) (bool_p ..) (by simp[refsD]) ?_
 refine Trip.preR EPuok noSum_ok (k:=1) (kf:=[0,1]) (by kernel_rfl) (Q1:=fun z=>z=(.normal,xFr [(0,.slice (some (r,o)) n C),(1,.slice (some (r2,o2)) n C2)] 26,S)) (Eq.mp (vcSa r o r2 o2 n C C2 S (fun z=>z=(.normal,xFr [(0,.slice (some (r,o)) n C),(1,.slice (some (r2,o2)) n C2)] 26,S)))
  ⟨by kernel_rfl,by kernel_rfl,by rw[neqP,decide_eq_true rfl];rfl,rfl⟩) ?_ (fun z h1 h2=>absurd (congrArg (·.1) h2) h1)
 rintro F Y hY
 cases hY
 rw[shS]
 refine Trip.seq (R:=fun z=>z.1=.normal∧z.2.1=xFr [(0,.slice (some (r,o)) n C)] 26∧∃j,z.2.2=ASt.mk S.h (S.next+j)) ?_ (fun F Y hz=>?_) (fun e F Y he hz=>absurd hz.1 he)
 ·refine Trip.seq (R:=fun z=>z=(.normal,fSm (.slice (some (r,o)) n C) (.slice (some (r2,o2)) n C2) 0,S)) (Trip.ofR EPuok noSum_ok (kf:=[0,1,5]) (Q1:=fun z=>z=(.normal,fSm (.slice (some (r,o)) n C) (.slice (some (r2,o2)) n C2) 0,S)) (Eq.mp (vcSb r o r2 o2 n C C2 S (fun z=>z=(.normal,fSm (.slice (some (r,o)) n C) (.slice (some (r2,o2)) n C2) 0,S))) rfl) (fun e F Y hz=>hz)) (fun F Y hz=>?_) (fun e F Y he hz=>by cases hz;exact absurd rfl he)
  cases hz
  refine Trip.block (Trip.loop (fun mm fr st=>∃i,i≤n∧mm=n - i∧fr=fSm (.slice (some (r,o)) n C) (.slice (some (r2,o2)) n C2) i∧st=ASt.mk S.h (S.next+9*i)) ?_ n ⟨0,Nat.zero_le _,rfl,rfl,rfl⟩)
  rintro mm fr st ⟨i,hi,rfl,rfl,rfl⟩
  by_cases hin:i<n
  ·refine Trip.ofR EPuok noSum_ok (kf:=[0,1,5]) (Q1:=fun z=>z=(.normal,fSm (.slice (some (r,o)) n C) (.slice (some (r2,o2)) n C2) (i+1),ASt.mk S.h (S.next+9*(i+1)))) (Eq.mp (vcSc r o r2 o2 n i C C2 (g i) (ASt.mk S.h (S.next+9*i)) (fun z=>z=(.normal,fSm (.slice (some (r,o)) n C) (.slice (some (r2,o2)) n C2) (i+1),ASt.mk S.h (S.next+9*(i+1)))))
    ⟨by kernel_rfl,by rw[lssP,decide_eq_true hin],still_idx (show sliceT EPu 60=some 256 from by kernel_rfl) hin,load_agg (z:=256) (by kernel_rfl) q1 (q2 i hin),still_idx (show sliceT EPu 60=some 256 from by kernel_rfl) hin,load_agg (z:=256) (by kernel_rfl) q3 (q4 i hin),neqB _,addP (by omega),?_⟩) (fun e F Y hz=>?_)
   ·show (_,_,ASt.mk S.h (S.next+9*i+9))=_
    rw[show S.next+9*i+9=S.next+9*(i+1) by omega];rfl
   ·cases hz
    exact⟨n - (i+1),fSm (.slice (some (r,o)) n C) (.slice (some (r2,o2)) n C2) (i+1),ASt.mk S.h (S.next+9*(i+1)),by omega,Wk.refl _ _ _,i+1,hin,rfl,rfl,rfl⟩
  ·have:i=n:=by omega
   subst this
   refine Trip.ofR EPuok noSum_ok (kf:=[0]) (Q1:=fun z=>z=(.exit 0,xFr [(0,.slice (some (r,o)) i C)] 26,ASt.mk S.h (S.next+9*i))) (Eq.mp (vcSd r o r2 o2 i i C C2 (ASt.mk S.h (S.next+9*i)) (fun z=>z=(.exit 0,xFr [(0,.slice (some (r,o)) i C)] 26,ASt.mk S.h (S.next+9*i)))) ⟨by kernel_rfl,by rw[lssP,decide_eq_false (by omega)],rfl⟩) (fun e F Y hz=>?_)
   cases hz
   exact⟨fun _=>⟨rfl,rfl,_,rfl⟩,fun h=>absurd rfl h⟩
 ·obtain⟨_,g2,j,g3⟩:=hz
  simp only at g2 g3
  subst g2 g3
  refine Trip.ofR EPuok noSum_ok (kf:=[4]) (Q1:=fun z=>z=(.ret,xFr [(4,.bool true)] 26,ASt.mk S.h (S.next+j))) (Eq.mp (vcSe (.slice (some (r,o)) n C) (ASt.mk S.h (S.next+j)) (fun z=>z=(.ret,xFr [(4,.bool true)] 26,ASt.mk S.h (S.next+j)))) rfl) (fun e F Y hz=>?_)
  cases hz
  exact⟨.inr rfl,rfl,leave_of (rs:=[.tmp 4]) (by kernel_rfl) rfl (res_tmp (by kernel_rfl) res_nil) rfl,fun _ _=>rfl⟩
end Go.Proofs.YtiafochainjglaaGreatDoor.drp.pu
end

section
open Go Go.Ax Go.Proofs
namespace Go.Proofs.YtiafochainjglaaGreatDoor.drp.pu
set_option linter.unusedVariables false
noncomputable def fnsOp:List (Nat×Func):=[(42,Tryz.f42),(64,Tryz.f64),(93,Tryz.f93),(94,Tryz.f94),(150,Tryz.f150),(151,Tryz.f151),(152,Tryz.f152),(183,Tryz.f183),(184,Tryz.f184),(185,Tryz.f185),(204,Tryz.f204),(213,Tryz.f213),(214,Tryz.f214)]
noncomputable def EOp:Env:=envEx Tryz.prog [0,3,4,5,9,24,43,69,75,76,102,104,150,151,204,233,261,262,292,295,310,311] fnsOp []
theorem EOpok:Env.Ok Tryz.prog EOp:=envEx_ok (xs:=[]) ⟨⟨Tryz.func42,Tryz.call42⟩,⟨Tryz.func64,Tryz.call64⟩,⟨Tryz.func93,Tryz.call93⟩,⟨Tryz.func94,Tryz.call94⟩,⟨Tryz.func150,Tryz.call150⟩,⟨Tryz.func151,Tryz.call151⟩,⟨Tryz.func152,Tryz.call152⟩,⟨Tryz.func183,Tryz.call183⟩,⟨Tryz.func184,Tryz.call184⟩,⟨Tryz.func185,Tryz.call185⟩,⟨Tryz.func204,Tryz.call204⟩,⟨Tryz.func213,Tryz.call213⟩,⟨Tryz.func214,Tryz.call214⟩,trivial⟩ trivial (by kernel_rfl)
noncomputable def stO (n ck:Nat):ASt:=mkSt [(0,.cells [.slice (some (2,0)) n (.known n),.map (some 1),.int .i64 (.ofNat 0),.bool false,.bool false,.bool false] false),(1,.map [] ck)] 3
noncomputable def lookO:Option (AV×ASt)→Option (AV×Option AO×Nat)
 | some (v,st)=>some (v,st.h.get 1,st.next)
 | none=>none
theorem open_run (n ck:Nat):lookO ((M EOp (drawA EOp) noSum 60).call 42 [.ptr (some (0,0))] (stO n ck))=some (.slice none 0 (.known 0),some (.map [] ck),8):=by kernel_rfl
theorem stO_get (n ck j:Nat):(stO n ck).h.get j=if j=1 then some (.map [] ck) else if j=0 then some (.cells [.slice (some (2,0)) n (.known n),.map (some 1),.int .i64 (.ofNat 0),.bool false,.bool false,.bool false] false) else none:=by
 show (T.set Go.Ax.D (T.set Go.Ax.D .e 0 _) 1 _).get j=_
 rw[T.get_set,T.get_set,T.get_e]
theorem open_ok {S:ASt} {d l m ck:Nat} {las:List (List Nat)} (hD:dsk.Disk S d l m las [] ck):Call1 Tryz.prog 42 [.ptr (some (d,0))] S (.slice none 0 (.known 0),S):=by
 have hdm:d≠m:=ne_get hD.hd hD.hm (by intro e;cases e)
 have hlm:l≠m:=ne_get hD.hl hD.hm (by intro e;cases e)
 obtain⟨r,hr,q1,q2,q3⟩:∃r,(M EOp (drawA EOp) noSum 60).call 42 [.ptr (some (0,0))] (stO las.length ck)=some r∧r.1=.slice none 0 (.known 0)∧r.2.h.get 1=some (.map [] ck)∧r.2.next=8:=by
  have h:=open_run las.length ck
  cases e:(M EOp (drawA EOp) noSum 60).call 42 [.ptr (some (0,0))] (stO las.length ck) with
  | none=>rw[e] at h;cases h
  | some r =>
   rw[e] at h
   obtain⟨v,st⟩:=r
   simp only[lookO,Option.some.injEq,Prod.mk.injEq] at h
   exact⟨_,rfl,h.1,h.2.1,h.2.2⟩
 have hg1:gS [some (d,0,false),some (m,0,true),some (l,0,false)] S.next 1=m:=rfl
 have key:Call1 Tryz.prog 42 [.ptr (some (d,0))] S (.slice none 0 (.known 0),outS (gS [some (d,0,false),some (m,0,true),some (l,0,false)] S.next) [(1,.map [] ck)] S (S.next+m+9)):=by
  refine Call1.frame (S1:=stO las.length ck) (args1:=[.ptr (some (0,0))]) (Q1:=fun q=>q=r) (fun B w0 ι w args' _ hsr hv=>?_) (src:=[some (d,0,false),some (m,0,true),some (l,0,false)]) ⟨rfl,fun j i o w hj=>?_,fun j x hj=>?_,fun j x hj hd=>?_,fun j j' x i o w o' w' hj ho h1 h2=>?_⟩ (fun ι args' hv=>⟨by simpa using hv.size,fun i y y' hy hy'=>?_⟩) fun q hq=>?_
  ·obtain⟨k1,k2⟩:=(M_ok EOpok (drawA_ok EOpok) noSum_ok 60).call B w0 42 _ _ r hr ι w args' hsr hv
   exact⟨k1,k2.mono fun e w' hp=>⟨r,rfl,hp⟩⟩
  ·match j with
   | 0=>cases hj;exact⟨fun h=>(by cases h),_,hD.hd,by intro e;cases e⟩
   | 1=>cases hj;exact⟨fun _=>rfl,_,hD.hm,by intro e;cases e⟩
   | 2=>cases hj;exact⟨fun h=>(by cases h),_,hD.hl,by intro e;cases e⟩
   | j+3=>simp at hj
  ·rw[stO_get] at hj
   split at hj
   ·rename_i h;subst h;exact Nat.lt_of_lt_of_le (by decide) (Nat.le_refl 3)
   ·split at hj
    ·rename_i h;subst h;exact Nat.lt_of_lt_of_le (by decide) (Nat.le_refl 3)
    ·cases hj
  ·rw[stO_get] at hj
   split at hj
   ·rename_i h
    subst h
    cases hj
    exact⟨m,0,true,_,rfl,hD.hm,(by intro e;cases e),fun _=>⟨rfl,rfl⟩,fun ι L ob ⟨es',h1,h2,_⟩=>⟨es',h1,h2,fun i x e hx=>by simp at hx⟩⟩
   ·split at hj
    ·rename_i h
     subst h
     cases hj
     refine⟨d,0,false,_,rfl,hD.hd,(by intro e;cases e),fun h=>(by cases h),fun ι L ob ⟨c,e,lo,hi,h1,h2,h3,h4,h5,h6⟩=>⟨c,e,lo,hi,h1,h2,h3,fun v hv=>?_,fun k v v' hv hv'=>?_,fun h=>by cases h⟩⟩
     ·simp only[List.mem_cons,List.not_mem_nil,or_false] at hv
      rcases hv with rfl | rfl | rfl | rfl | rfl | rfl<;>rfl
     ·have hv':c[L.p+k]? = some v':=hv'
      match k with
      | 0 =>
       cases hv
       have:=h5 0 (.slice (some (l,0)) las.length (.known las.length)) v' rfl hv'
       cases this with
       | slice _ _ _ c' L0 _ hL hc hl=>exact .slice 2 0 _ c' (L0.sh 0) _ (by show (match ι l with | some L=>some (L.sh 0) | none=>none)=_;rw[hL]) hc hl
      | 1 =>
       cases hv
       have:=h5 1 (.map (some m)) v' rfl hv'
       cases this with
       | map _ L0 hL=>exact .map 1 (L0.sh 0) (by show (match ι m with | some L=>some (L.sh 0) | none=>none)=_;rw[hL])
      | 2=>cases hv;exact (h5 2 _ v' rfl hv').noRef (by simp[refsV])
      | 3=>cases hv;exact (h5 3 _ v' rfl hv').noRef (by simp[refsV])
      | 4=>cases hv;exact (h5 4 _ v' rfl hv').noRef (by simp[refsV])
      | 5=>cases hv;exact (h5 5 _ v' rfl hv').noRef (by simp[refsV])
      | k+6=>simp at hv
    ·cases hj
  ·rw[stO_get] at hj
   split at hj
   ·rename_i h
    subst h
    cases h1
    match j' with
    | 0=>cases h2;exact absurd rfl hdm
    | 1=>rfl
    | 2=>cases h2;exact absurd rfl hlm
    | j'+3=>simp at h2
   ·split at hj
    ·cases hj;cases ho
    ·cases hj
  ·match i with
   | 0 =>
    cases hy
    have:=hv.at_ 0 _ y' rfl hy'
    cases this with
    | ptr _ _ L hL=>exact .ptr 0 0 (L.sh 0) (by show (match ι d with | some L=>some (L.sh 0) | none=>none)=_;rw[hL])
   | i+1=>simp at hy
  ·subst hq
   refine⟨by rw[q1];exact BackV.keep (by simp[refsV]),⟨by rw[q3];omega,by show S.next+3≤_;omega⟩,fun p hp=>?_,fun j x hj ho=>?_⟩
   ·rw[List.mem_singleton.1 hp]
    exact⟨by show m<_;omega,fun _=>⟨_,by rw[stO_get];rfl,rfl⟩,.inr ⟨rfl,_,q2,BackO.map rfl⟩⟩
   ·rw[stO_get] at hj
    split at hj
    ·rename_i h;subst h;exact⟨_,List.mem_singleton.2 rfl,rfl⟩
    ·split at hj
     ·cases hj;cases ho
     ·cases hj
 refine Call1.drop key (fun k hk=>?_) (by simp[refsV])
 show (T.set Go.Ax.D S.h (gS [some (d,0,false),some (m,0,true),some (l,0,false)] S.next 1) (.map [] ck)).get k=_
 rw[T.get_set,hg1]
 split
 ·rename_i e;rw[e];exact hD.hm.symm
 ·rfl
end Go.Proofs.YtiafochainjglaaGreatDoor.drp.pu
end

section
open Go Go.Ax Go.Proofs
namespace Go.Proofs.YtiafochainjglaaGreatDoor.drp.pu
open cd cd2 cd3 cd4 cd5 cd9 oo my
set_option linter.unusedVariables false
theorem pn_of {B:List Nat} {o n:Nat} (hn:n<256 ^ 8) (h:∀j,j<8→B.getD (o+j) 0=be (7 - j) n):pn B o 8=n:=by
 have key:∀k,k≤8→pn B o k=n / 256 ^ (8 - k):=by
  intro k
  induction k with
  | zero=>intro _;show 0=n / 256 ^ 8;rw[Nat.div_eq_of_lt hn]
  | succ k ih =>
   intro hk
   show pn B o k*256+B.getD (o+k) 0=_
   rw[ih (by omega),h k (by omega)]
   unfold be
   have e1:8 - k=(8 - (k+1))+1:=by omega
   have e2:7 - k=8 - (k+1):=by omega
   rw[e1,e2,Nat.pow_succ,←Nat.div_div_eq_div_mul]
   have:=Nat.div_add_mod (n / 256 ^ (8 - (k+1))) 256
   omega
 have:=key 8 (Nat.le_refl 8)
 rw[Nat.sub_self,Nat.pow_zero,Nat.div_one] at this
 exact this
section
variable {l tl:List Nat}
def blk (l tl:List Nat):List Nat:=blV (hd8 l++tl)
theorem blk_at (hl:l.length≤248) {j:Nat} (hj:j<l.length):(blk l tl).getD j 0=l.getD j 0:=by
 unfold blk
 rw[blV_get _ (by omega)]
 unfold hd8
 rw[List.getD_eq_getElem?_getD,List.getD_eq_getElem?_getD,List.getElem?_append_left (by simp;omega),List.getElem?_append_left hj]
theorem blk_n (hl:l.length≤248) {o n:Nat} (ho:o+8≤l.length) (h:(l.drop o).take 8=be8 n) (hn:n<18446744073709551616):pn (blk l tl) o 8=n:=by
 refine pn_of hn fun j hj=>?_
 rw[blk_at hl (by omega)]
 have e:l.getD (o+j) 0=((l.drop o).take 8).getD j 0:=by
  rw[List.getD_eq_getElem?_getD,List.getD_eq_getElem?_getD,List.getElem?_take,if_pos hj,List.getElem?_drop]
 rw[e,h]
 match j,hj with
 | 0,_=>rfl
 | 1,_=>rfl
 | 2,_=>rfl
 | 3,_=>rfl
 | 4,_=>rfl
 | 5,_=>rfl
 | 6,_=>rfl
 | 7,_=>rfl
theorem blk_1 (hl:l.length≤248) {o:Nat} (ho:o<l.length):pn (blk l tl) o 1=l.getD o 0:=by rw[pn1,blk_at hl ho]
end
theorem be0 {n:Nat} (h:n<256):be 0 n=n:=by unfold be;rw[Nat.pow_zero,Nat.div_one,Nat.mod_eq_of_lt h]
theorem zero_at (j:Nat):(blV []).getD j 0=0:=by
 unfold blV
 rw[List.getD_eq_getElem?_getD,List.getElem?_map]
 cases (List.range 256)[j]?<;>rfl
theorem zero_pn (o:Nat):∀k,pn (blV []) o k=0
 | 0=>rfl
 | k+1=>by show pn (blV []) o k*256+(blV []).getD (o+k) 0=0;rw[zero_pn o k,zero_at]
section
variable {H:List Nat→Nat→Nat} {X:List Nat→Nat}
theorem iS_zero:iS H (blV [])=false:=by
 unfold iS
 rw[zero_pn];rfl
section
variable {x:Nat→Nat} {c:Bool}
def sB (H:List Nat→Nat→Nat) (x:Nat→Nat) (c:Bool):List Nat:=sealN H (supL (x 0) (if c then 1 else 0) (x 5) (x 1) (x 2) (x 3) (x 4))
theorem sB_r (U:U6 (x 0) (x 1) (x 2) (x 3) (x 4) (x 5)) (h0:x 0<256):pn (blV (sB H x c)) 4 1=x 0∧pn (blV (sB H x c)) 14 8=x 1∧pn (blV (sB H x c)) 22 8=x 2∧pn (blV (sB H x c)) 30 8=x 3∧pn (blV (sB H x c)) 38 8=x 4∧pn (blV (sB H x c)) 6 8=x 5∧supC (blV (sB H x c))=c:=by
 have hl:(supL (x 0) (if c then 1 else 0) (x 5) (x 1) (x 2) (x 3) (x 4)).length=46:=rfl
 have e:blV (sB H x c)=blk (supL (x 0) (if c then 1 else 0) (x 5) (x 1) (x 2) (x 3) (x 4)) (first8 (H (hd8 (supL (x 0) (if c then 1 else 0) (x 5) (x 1) (x 2) (x 3) (x 4))))):=rfl
 rw[e]
 refine⟨?_,blk_n (by omega) (by omega) rfl U.a,blk_n (by omega) (by omega) rfl U.b,blk_n (by omega) (by omega) rfl U.h,blk_n (by omega) (by omega) rfl U.k,blk_n (by omega) (by omega) rfl U.n,?_⟩
 ·rw[blk_1 (by omega) (by omega)]
  exact be0 h0
 ·unfold supC
  rw[blk_at (by omega) (by omega)]
  cases c<;>rfl
theorem sB_is (U:U6 (x 0) (x 1) (x 2) (x 3) (x 4) (x 5)) (hm:supM (x 0) (x 1) (x 2)=true):iS H (blV (sB H x c))=true∧(∀i,i<6→sX H (blV (sB H x c)) i=x i)∧sC H (blV (sB H x c))=c:=by
 have h0:x 0<256:=by
  unfold supM at hm
  simp only[Bool.and_eq_true,decide_eq_true_eq] at hm
  omega
 obtain⟨r0,r1,r2,r3,r4,r5,rc⟩:=sB_r (H:=H) (c:=c) U h0
 have hi:iS H (blV (sB H x c))=true:=by
  unfold iS supR
  rw[r0,r1,r2,r3,r4,r5,rc,hm,Bool.true_and]
  exact decide_eq_true (show blV (sB H x c)=_ by rw[blV_idem])
 refine⟨hi,fun i hi6=>?_,?_⟩
 ·unfold sX
  rw[hi]
  match i,hi6 with
  | 0,_=>exact r0
  | 1,_=>exact r1
  | 2,_=>exact r2
  | 3,_=>exact r3
  | 4,_=>exact r4
  | 5,_=>exact r5
 ·unfold sC
  rw[hi,rc];rfl
end
theorem head_ne {l tl:List Nat} (hl:l.length≤248) (hp:0<l.length) (ha:l.getD 0 0≠0):decide (blV (hd8 l++tl)=blV (blV []))=false:=by
 refine decide_eq_false fun e=>ha ?_
 have h1:(blk l tl).getD 0 0=l.getD 0 0:=blk_at hl hp
 have h2:(blk l tl).getD 0 0=0:=by
  show (blV (hd8 l++tl)).getD 0 0=0
  rw[e,blV_idem,zero_at]
 rw[←h1,h2]
theorem iM_zero:iM H (blV [])=false:=head_ne (l:=mapL _) (by show 12≤248;decide) (by show 0<12;decide) (by show (71:Nat)≠0;decide)
theorem iL_zero:iL H (blV [])=false:=head_ne (l:=logL _ _) (by show 14≤248;decide) (by show 0<14;decide) (by show (71:Nat)≠0;decide)
theorem iM_is {se:Nat} (h:se<18446744073709551616):iM H (blV (sealN H (mapL se)))=true∧mX H (blV (sealN H (mapL se)))=se:=by
 have e:pn (blV (sealN H (mapL se))) 4 8=se:=blk_n (l:=mapL se) (by show 12≤248;decide) (by show 12≤12;decide) rfl h
 have hi:iM H (blV (sealN H (mapL se)))=true:=by
  unfold iM
  rw[e]
  exact decide_eq_true (by rw[blV_idem])
 refine⟨hi,?_⟩
 unfold mX
 rw[hi];exact e
theorem iL_is {nu ho:Nat} (h:nu<18446744073709551616) (h2:ho<65536):iL H (blV (sealN H (logL nu ho)))=true∧lN H (blV (sealN H (logL nu ho)))=nu∧lS H (blV (sealN H (logL nu ho)))=ho:=by
 have e:pn (blV (sealN H (logL nu ho))) 4 8=nu:=blk_n (l:=logL nu ho) (by show 14≤248;decide) (by show 12≤14;decide) rfl h
 have e2:logS (blV (sealN H (logL nu ho)))=ho:=by
  unfold logS
  have a1:(blV (sealN H (logL nu ho))).getD 12 0=be 1 ho:=blk_at (l:=logL nu ho) (by show 14≤248;decide) (by show 12<14;decide)
  have a2:(blV (sealN H (logL nu ho))).getD 13 0=be 0 ho:=blk_at (l:=logL nu ho) (by show 14≤248;decide) (by show 13<14;decide)
  rw[a1,a2]
  unfold be
  omega
 have hi:iL H (blV (sealN H (logL nu ho)))=true:=by
  unfold iL
  rw[e,e2]
  exact decide_eq_true (by rw[blV_idem])
 refine⟨hi,?_,?_⟩
 ·unfold lN;rw[hi];exact e
 ·unfold lS;rw[hi];exact e2
theorem resL_len (n g t h:Nat) (ys:Nat→Nat):(resL n g t h ys).length=150:=by kernel_rfl
theorem iK_zero:iK X (blV [])=false:=by
 unfold iK resOk
 have:decide (blV (resC X (blV []))=blV (blV []))=false:=head_ne (l:=resL _ _ _ _ _) (tl:=be8 _) (by rw[resL_len];decide) (by rw[resL_len];decide) (by show (71:Nat)≠0;decide)
 rw[this,Bool.and_false]
def kB (X:List Nat→Nat) (t:Nat) (y:Nat→Nat):List Nat:=resB X t (y 0) (y 17) (y 18) (fun i=>y (i+1))
theorem kB_is {t:Nat} {y:Nat→Nat} (ht:t<18446744073709551616) (hy:∀i,i<17→y i<18446744073709551616) (h17:y 17<256) (h18:y 18<256) (hm:resM (y 0) (y 17) (y 18) (fun i=>y (i+1))=true) :
  iK X (blV (kB X t y))=true∧(∀i,i<19→rX X (blV (kB X t y)) i=y i)∧rQ X (blV (kB X t y))=t:=by
 have hl:(resL t (y 0) (y 17) (y 18) (fun i=>y (i+1))).length=150:=resL_len ..
 have e:blV (kB X t y)=blk (resL t (y 0) (y 17) (y 18) (fun i=>y (i+1))) (be8 (X (hd8 (resL t (y 0) (y 17) (y 18) (fun i=>y (i+1)))))):=rfl
 have r0:pn (blV (kB X t y)) 4 8=t:=by rw[e];exact blk_n (by omega) (by omega) rfl ht
 have r1:pn (blV (kB X t y)) 12 8=y 0:=by rw[e];exact blk_n (by omega) (by omega) rfl (hy 0 (by omega))
 have r2:pn (blV (kB X t y)) 20 1=y 17:=by rw[e,blk_1 (by omega) (by omega)];exact be0 h17
 have r3:pn (blV (kB X t y)) 21 1=y 18:=by rw[e,blk_1 (by omega) (by omega)];exact be0 h18
 have r4:∀i,i<16→rY (blV (kB X t y)) i=y (i+1):=fun i hi=>by
  unfold rY
  rw[e]
  refine blk_n (by omega) (by omega) ?_ (hy (i+1) (by omega))
  match i,hi with
  | 0,_=>rfl
  | 1,_=>rfl
  | 2,_=>rfl
  | 3,_=>rfl
  | 4,_=>rfl
  | 5,_=>rfl
  | 6,_=>rfl
  | 7,_=>rfl
  | 8,_=>rfl
  | 9,_=>rfl
  | 10,_=>rfl
  | 11,_=>rfl
  | 12,_=>rfl
  | 13,_=>rfl
  | 14,_=>rfl
  | 15,_=>rfl
  | n+16,h=>exact absurd h (by omega)
 have hk:∀n g a h,resL n g a h (rY (blV (kB X t y)))=resL n g a h (fun i=>y (i+1)):=fun n g a h=>by
  have:keysL (rY (blV (kB X t y)))=keysL (fun i=>y (i+1)):=by
   unfold keysL
   rw[List.flatMap_def,List.flatMap_def,List.map_congr_left fun i hi=>by rw[r4 i (List.mem_range.1 hi)]]
  unfold resL
  rw[this]
 have hz:resM (y 0) (y 17) (y 18) (rY (blV (kB X t y)))=resM (y 0) (y 17) (y 18) (fun i=>y (i+1)):=by
  have:cd6.tL (zOf (y 0) (y 17) (y 18) (rY (blV (kB X t y))))=cd6.tL (zOf (y 0) (y 17) (y 18) (fun i=>y (i+1))):=by
   have hm:((List.range 16).map fun i=>AV.int .u64 (zOf (y 0) (y 17) (y 18) (rY (blV (kB X t y))) (i+1)))=(List.range 16).map fun i=>AV.int .u64 (zOf (y 0) (y 17) (y 18) (fun i=>y (i+1)) (i+1)):=List.map_congr_left fun i hi=>by
    have hi:=List.mem_range.1 hi
    unfold zOf
    rw[if_neg (by omega),if_neg (by omega),if_neg (by omega),if_neg (by omega),if_neg (by omega),if_neg (by omega),Nat.add_sub_cancel,r4 i hi]
   have z0:zOf (y 0) (y 17) (y 18) (rY (blV (kB X t y))) 0=zOf (y 0) (y 17) (y 18) (fun i=>y (i+1)) 0:=by kernel_rfl
   have z1:zOf (y 0) (y 17) (y 18) (rY (blV (kB X t y))) 17=zOf (y 0) (y 17) (y 18) (fun i=>y (i+1)) 17:=by kernel_rfl
   have z2:zOf (y 0) (y 17) (y 18) (rY (blV (kB X t y))) 18=zOf (y 0) (y 17) (y 18) (fun i=>y (i+1)) 18:=by kernel_rfl
   unfold cd6.tL
   rw[hm,z0,z1,z2]
  unfold resM
  rw[this]
 have hi:iK X (blV (kB X t y))=true:=by
  unfold iK resOk resMB resC
  rw[r0,r1,r2,r3,hz,hm,Bool.true_and]
  refine decide_eq_true ?_
  unfold resB
  rw[hk,blV_idem]
  rfl
 refine⟨hi,fun i h19=>?_,?_⟩
 ·unfold rX
  rw[hi]
  show rF (blV (kB X t y)) i=y i
  unfold rF
  by_cases e0:i=0
  ·rw[if_pos e0,e0];exact r1
  ·rw[if_neg e0]
   by_cases e1:i=17
   ·rw[if_pos e1,e1];exact r2
   ·rw[if_neg e1]
    by_cases e2:i=18
    ·rw[if_pos e2,e2];exact r3
    ·rw[if_neg e2,r4 (i - 1) (by omega),show i - 1+1=i by omega]
 ·unfold rQ
  rw[hi];exact r0
end
section
variable {H:List Nat→Nat→Nat} {X:List Nat→Nat} {b:Nat→List Nat} {k t se nu ho:Nat} {x y:Nat→Nat} {c mk:Bool}
theorem take_put (hb:∀i,i<9→b i=blV ((putL mk nu (sB H x c) (kB X t y) (sealN H (mapL se)) (sealN H (logL nu ho))).getD i []))
  (U:U6 (x 0) (x 1) (x 2) (x 3) (x 4) (x 5)) (hsm:supM (x 0) (x 1) (x 2)=true) (ht:t<18446744073709551616) (hy:∀i,i<17→y i<18446744073709551616) (h17:y 17<256) (h18:y 18<256) (hrm:resM (y 0) (y 17) (y 18) (fun i=>y (i+1))=true)
  (hse:se<18446744073709551616) (hnu:nu<18446744073709551616) (hho:ho<65536) (hbey:beyS se k=false) (hms:(mk || decide (se=0))=true) (hnh:(!decide (nu=0) || decide (ho=0))=true) :
  takeV H X b k=.tuple [.agg (mL k x c y t mk se nu ho),.int .i64 (.ofNat 0)]:=by
 have g:∀i,i<4→(putL mk nu (sB H x c) (kB X t y) (sealN H (mapL se)) (sealN H (logL nu ho))).getD i []=(putL2 (sB H x c) (kB X t y)).getD i []:=fun i hi=>by
  unfold putL
  have h4:(putL4 mk (sB H x c) (kB X t y) (sealN H (mapL se))).getD i []=(putL2 (sB H x c) (kB X t y)).getD i []:=by
   cases mk with
   | true =>
    show ((putL2 (sB H x c) (kB X t y)).set 4 _).getD i []=_
    rw[List.getD_eq_getElem?_getD,List.getElem?_set_ne (by omega),←List.getD_eq_getElem?_getD]
   | false=>rfl
  split
  ·exact h4
  ·rw[List.getD_eq_getElem?_getD,List.getElem?_set_ne (by omega),←List.getD_eq_getElem?_getD];exact h4
 have g4:(putL mk nu (sB H x c) (kB X t y) (sealN H (mapL se)) (sealN H (logL nu ho))).getD 4 []=bif mk then sealN H (mapL se) else []:=by
  unfold putL
  have h4:(putL4 mk (sB H x c) (kB X t y) (sealN H (mapL se))).getD 4 []=bif mk then sealN H (mapL se) else []:=by cases mk<;>rfl
  split
  ·exact h4
  ·rw[List.getD_eq_getElem?_getD,List.getElem?_set_ne (by omega),←List.getD_eq_getElem?_getD];exact h4
 have g5:∀i,i<4→(putL mk nu (sB H x c) (kB X t y) (sealN H (mapL se)) (sealN H (logL nu ho))).getD (5+i) []=if nu≠0∧nu % 4=i then sealN H (logL nu ho) else []:=fun i hi=>by
  unfold putL
  have h4:(putL4 mk (sB H x c) (kB X t y) (sealN H (mapL se))).getD (5+i) []=[]:=by
   match i,hi with
   | 0,_=>cases mk<;>rfl
   | 1,_=>cases mk<;>rfl
   | 2,_=>cases mk<;>rfl
   | 3,_=>cases mk<;>rfl
  by_cases h0:nu=0
  ·rw[if_pos h0,if_neg (fun h=>h.1 h0)];exact h4
  ·rw[if_neg h0]
   by_cases h1:nu % 4=i
   ·rw[if_pos ⟨h0,h1⟩,h1,List.getD_eq_getElem?_getD,List.getElem?_set_self (by rw[putL4_len];omega)];rfl
   ·rw[if_neg (fun h=>h1 h.2),List.getD_eq_getElem?_getD,List.getElem?_set_ne (by omega),←List.getD_eq_getElem?_getD];exact h4
 have b0:b 0=blV (sB H x c):=by rw[hb 0 (by decide),g 0 (by decide)];rfl
 have b1:b 1=blV []:=by rw[hb 1 (by decide),g 1 (by decide)];rfl
 have b2:b 2=blV (kB X t y):=by rw[hb 2 (by decide),g 2 (by decide)];rfl
 have b3:b 3=blV []:=by rw[hb 3 (by decide),g 3 (by decide)];rfl
 obtain⟨s1,s2,s3⟩:=sB_is (H:=H) (c:=c) U hsm
 obtain⟨k1,k2,k3⟩:=kB_is (X:=X) ht hy h17 h18 hrm
 have hnS:nS H b=0:=by unfold nS;rw[b0,b1,s1,iS_zero];rfl
 have hnK:nK X b=0:=by unfold nK;rw[b2,b3,k1,iK_zero];rfl
 have e1:sL (LSx H b) (LSc H b)=sL x c:=by
  have q:∀i,i<6→LSx H b i=x i:=fun i hi=>by unfold LSx;rw[hnS,b0];exact s2 i hi
  have q2:LSc H b=c:=by unfold LSc;rw[hnS,b0];exact s3
  unfold sL
  rw[q 0 (by decide),q 1 (by decide),q 2 (by decide),q 3 (by decide),q 4 (by decide),q 5 (by decide),q2]
 have e2:rL (LKx X b)=rL y:=by
  have q:∀i,i<19→LKx X b i=y i:=fun i hi=>by unfold LKx;rw[hnK,b2];exact k2 i hi
  unfold rL
  simp only[q 0 (by decide),q 1 (by decide),q 2 (by decide),q 3 (by decide),q 4 (by decide),q 5 (by decide),q 6 (by decide),q 7 (by decide),q 8 (by decide),q 9 (by decide),q 10 (by decide),q 11 (by decide),q 12 (by decide),q 13 (by decide),q 14 (by decide),q 15 (by decide),q 16 (by decide),q 17 (by decide),q 18 (by decide)]
 have e3:LKq X b=t:=by unfold LKq;rw[hnK,b2];exact k3
 have e4:mkM H b k=mk∧seM H b k=se:=by
  have b4:b 4=blV (bif mk then sealN H (mapL se) else []):=by rw[hb 4 (by decide),g4]
  cases mk with
  | true =>
   obtain⟨m1,m2⟩:=iM_is (H:=H) hse
   have b4:b 4=blV (sealN H (mapL se)):=b4
   have e:mkM H b k=true:=by unfold mkM;rw[b4,m1,m2,hbey];rfl
   refine⟨e,?_⟩
   unfold seM
   rw[e,b4];exact m2
  | false =>
   have b4:b 4=blV []:=b4
   have e:mkM H b k=false:=by unfold mkM;rw[b4,iM_zero];rfl
   refine⟨e,?_⟩
   unfold seM
   rw[e]
   simp only[Bool.false_or,decide_eq_true_eq] at hms
   exact hms.symm
 have e5:hotF H b 4=(nu,ho):=by
  obtain⟨l1,l2,l3⟩:=iL_is (H:=H) hnu hho
  by_cases h0:nu=0
  ·have hz:∀i,i<4→b (5+i)=blV []:=fun i hi=>by rw[hb (5+i) (by omega),g5 i hi,if_neg (fun h=>h.1 h0)]
   have key:∀i,i≤4→hotF H b i=(0,0):=by
    intro i
    induction i with
    | zero=>intro _;rfl
    | succ i ih =>
     intro hi
     simp only[hotF]
     unfold stepN
     rw[hz i (by omega),iL_zero,ih (by omega)];rfl
   have hh:ho=0:=by simpa [h0] using hnh
   rw[key 4 (Nat.le_refl 4),h0,hh]
  ·have hz:∀i,i<4→nu % 4≠i→b (5+i)=blV []:=fun i hi hne=>by rw[hb (5+i) (by omega),g5 i hi,if_neg (fun h=>hne h.2)]
   have hs:b (5+nu % 4)=blV (sealN H (logL nu ho)):=by rw[hb _ (by omega),g5 _ (by omega),if_pos ⟨h0,rfl⟩]
   have key:∀i,i≤4→hotF H b i=if nu % 4<i then (nu,ho) else (0,0):=by
    intro i
    induction i with
    | zero=>intro _;rfl
    | succ i ih =>
     intro hi
     simp only[hotF]
     unfold stepN
     by_cases hq:nu % 4=i
     ·have hs':=hs
      rw[hq] at hs'
      rw[hs',l1,l2,l3,ih (by omega),if_neg (by omega),decide_eq_true hq,decide_eq_true (show (0,0).1<nu by show 0<nu;omega),if_pos (by omega)];rfl
     ·rw[hz i (by omega) hq,iL_zero,ih (by omega)]
      by_cases hlt:nu % 4<i
      ·rw[if_pos hlt,if_pos (by omega)];rfl
      ·rw[if_neg hlt,if_neg (by omega)];rfl
   rw[key 4 (Nat.le_refl 4),if_pos (by omega)]
 have hsays:says H X b=true:=by
  unfold says LSe LKe
  rw[hnS,hnK];rfl
 unfold takeV
 rw[hsays]
 show AV.tuple [.agg (metaL H X b k),_]=_
 unfold metaL mL
 rw[e1,e2,e3,e4.1,e4.2,e5]
end
end Go.Proofs.YtiafochainjglaaGreatDoor.drp.pu
end
