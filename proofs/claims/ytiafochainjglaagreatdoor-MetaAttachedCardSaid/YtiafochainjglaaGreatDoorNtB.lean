/-
  OWN WORK, A PART: an abstract machine for the program's text that the kernel can run, and the proof that it is sound: what it answers is what the program answers; contracts of functions by it. No condition.
-/
import Derived.Test.YtiafochainjglaaGreatDoorNtA
import Derived.Test.YtiafochainjglaaGreatDoorMtH
import Derived.Test.YtiafochainjglaaGreatDoorMtI
section
open Go Go.Ax Go.Proofs
namespace Go.Proofs.YtiafochainjglaaGreatDoor.drp.pu
open cd cd2 cd3 cd4 cd5 cd9 oo my
set_option linter.unusedVariables false
theorem EPuok:Env.Ok Tryz.prog EPu:=envEx_ok (xs:=[]) ⟨⟨Tryz.func16,Tryz.call16⟩,⟨Tryz.func41,Tryz.call41⟩,⟨Tryz.func43,Tryz.call43⟩,trivial⟩ trivial (by kernel_rfl)
section
variable {base d l m n c:Nat} {S0 S:ASt} {las:List (List Nat)} {es:List dsk.En}
theorem Dv.writeV {b:List Nat} {i:Nat} (h:Dv base S0 S d l m n c las es) (hc:c<1000000) (hi:i<n) (hb:byL b):∃S' es',Call1 Tryz.prog 19 [dsk.pO d,dsk.nI i,.agg (bl b)] S (dsk.nI 0,S')∧Dv base S0 S' d l m n (c+1) las es'∧S.next≤S'.next∧(∀k,k<S.next→k≠m→S'.h.get k=S.h.get k)∧∀j,nb las es' j=if j=i then blV b else nb las es j:=by
 obtain⟨ck,hd⟩:=h.dk
 have hl:=h.llo
 have hm:=h.mlo
 obtain⟨S',es',ck',hcall,hd',ht',hn',hk',hv',hr'⟩:=dsk.write_at (b:=b) hd h.tidy (show i<las.length by rw[h.len];exact hi) (Nat.lt_of_le_of_lt (h.few i) hc)
 refine⟨S',es',hcall,⟨⟨ck',hd'⟩,hl,hm,h.dlo,h.len,fun a ha=>?_,fun j=>?_,h.lby,fun j x hx=>?_,ht',Nat.le_trans h.next hn',fun k hk=>?_⟩,hn',fun k hk hkm=>hk' k hk hkm,fun j=>?_⟩
 ·rcases hr' a ha with⟨e,he,hea⟩ | hge
  ·rw[←hea];exact h.rlo e he
  ·exact Nat.le_trans h.next hge
 ·rw[hv']
  split
  ·rw[List.length_append]
   have:=h.few i
   simp only[List.length_singleton];omega
  ·exact Nat.le_succ_of_le (h.few j)
 ·rw[hv'] at hx
  split at hx
  ·rcases List.mem_append.1 hx with hx | hx
   ·exact h.vby i x hx
   ·rw[List.mem_singleton.1 hx];exact hb
  ·exact h.vby j x hx
 ·rw[hk' k (Nat.lt_of_lt_of_le hk h.next) (by omega)];exact h.same k hk
 ·unfold nb dsk.curB
  rw[hv']
  split
  ·rename_i e
   rw[List.getLast?_append];rfl
  ·rfl
theorem Dv.flushV (h:Dv base S0 S d l m n c las es) (hc:c<1000000) (hn0:0<n):∃S' las' ck,Call1 Tryz.prog 40 [dsk.pO d] S (dsk.nI 0,S')∧Dv base S0 S' d l m n c las' []∧S.next≤S'.next∧(∀k,k<S.next→k≠l→k≠m→S'.h.get k=S.h.get k)∧(∀j,j<n→nb las' [] j=nb las es j)∧S'.h.get l=some (.cells (dsk.rowB las') true)∧S'.h.get m=some (.map [] ck):=by
 obtain⟨ck,hd⟩:=h.dk
 have hl:=h.llo
 have hm:=h.mlo
 obtain⟨S',hcall,hd',ht',hn',hk'⟩:=dsk.flush_at hd h.tidy (by rw[h.len];exact hn0) (fun e he=>by
  have:=h.few e.k
  rw[vs_vers hd.keys he] at this
  omega)
 refine⟨S',dsk.flushed las es,ck,hcall,⟨⟨ck,hd'⟩,hl,hm,h.dlo,by unfold dsk.flushed;rw[List.length_map,List.length_range,h.len],fun e he=>(by cases he),fun i=>by simp[dsk.vers],fun b hb=>?_,fun i b hb=>by simp[dsk.vers] at hb,ht',Nat.le_trans h.next hn',fun k hk=>?_⟩,hn',fun k hk h1 h2=>hk' k hk h1 h2,fun j hj=>?_,hd'.hl,hd'.hm⟩
 ·unfold dsk.flushed at hb
  obtain⟨i,_,rfl⟩:=List.mem_map.1 hb
  exact curB_by h.lby h.vby i
 ·rw[hk' k (Nat.lt_of_lt_of_le hk h.next) (by omega) (by omega)];exact h.same k hk
 ·unfold nb
  have e:dsk.curB (dsk.flushed las es) [] j=dsk.curB las es j:=by
   show (dsk.flushed las es).getD j []=_
   unfold dsk.flushed
   rw[h.len,List.getD_eq_getElem?_getD,List.getElem?_map,List.getElem?_range hj]
   rfl
  rw[e]
end
theorem rowB_at {L:List (List Nat)} {i:Nat} (h:i<L.length):dsk.rowB L=dsk.rowB (L.take i)++(bl (L.getD i [])++dsk.rowB (L.drop (i+1))):=by
 have e:L=L.take i++L[i]::L.drop (i+1):=by rw[List.getElem_cons_drop,List.take_append_drop]
 conv=>lhs;rw[e]
 rw[dsk.rowB_app]
 congr 1
 rw[List.getD_eq_getElem?_getD,List.getElem?_eq_getElem h]
 rfl
theorem rowB_take {L:List (List Nat)} {i:Nat} (h:i<L.length):(dsk.rowB (L.take i)).length=i*256:=by rw[dsk.rowB_len,List.length_take,Nat.min_eq_left (by omega)]
theorem rowB_set {L:List (List Nat)} {i:Nat} {b:List Nat} (h:i<L.length):dsk.rowB (L.set i b)=dsk.rowB (L.take i)++(bl b++dsk.rowB (L.drop (i+1))):=by
 have h2:i<(L.set i b).length:=by rw[List.length_set];exact h
 rw[rowB_at h2,List.take_set_of_le (Nat.le_refl i),List.drop_set_of_lt (by omega)]
 congr 3
 rw[List.getD_eq_getElem?_getD,List.getElem?_eq_getElem h2,List.getElem_set_self];rfl
theorem st_blk {S:ASt} {r i o:Nat} {L:List (List Nat)} {b:List Nat} (hg:S.h.get r=some (.cells (dsk.rowB L) true)) (hi:i<L.length) (ho:o=i*256):Option.map (fun s=>(undefA,s)) (aStore EPu 54 (.ptr (some (r,o))) (.agg (bl b)) S)=some (.tuple [],S.put r (.cells (dsk.rowB (L.set i b)) true)):=by
 rw[rowB_set hi]
 exact okS_of (storeA_at (E:=EPu) (t:=54) (z:=256) (A:=dsk.rowB (L.take i)) (B:=bl (L.getD i [])) (C:=dsk.rowB (L.drop (i+1))) (by kernel_rfl) (bl_len _) (bl_len _) (by rw[rowB_take hi,ho]) (by rw[←rowB_at hi];exact hg))
theorem idx_blk {S:ASt}:∀{L:List (List Nat)} {i:Nat},L.length=9→i<9→still S (aIndex EPu 117 (.agg (dsk.rowB L)) (.int .i64 (.ofNat i)))=some (.agg (bl (L.getD i [])),S)
 | [b0,b1,b2,b3,b4,b5,b6,b7,b8],0,_,_=>still_of (by kernel_rfl)
 | [b0,b1,b2,b3,b4,b5,b6,b7,b8],1,_,_=>still_of (by kernel_rfl)
 | [b0,b1,b2,b3,b4,b5,b6,b7,b8],2,_,_=>still_of (by kernel_rfl)
 | [b0,b1,b2,b3,b4,b5,b6,b7,b8],3,_,_=>still_of (by kernel_rfl)
 | [b0,b1,b2,b3,b4,b5,b6,b7,b8],4,_,_=>still_of (by kernel_rfl)
 | [b0,b1,b2,b3,b4,b5,b6,b7,b8],5,_,_=>still_of (by kernel_rfl)
 | [b0,b1,b2,b3,b4,b5,b6,b7,b8],6,_,_=>still_of (by kernel_rfl)
 | [b0,b1,b2,b3,b4,b5,b6,b7,b8],7,_,_=>still_of (by kernel_rfl)
 | [b0,b1,b2,b3,b4,b5,b6,b7,b8],8,_,_=>still_of (by kernel_rfl)
theorem chain {Inv:Nat→ASt→Prop} {R:Nat→ASt→ASt→Prop} {X0:ASt} (h0:Inv 0 X0):∀n:Nat,(∀i X,i<n→Inv i X→∃X',R i X X'∧Inv (i+1) X')→∃T:Nat→ASt,T 0=X0∧∀i,i<n→Inv i (T i)∧R i (T i) (T (i+1))∧Inv (i+1) (T (i+1))
 | 0,_=>⟨fun _=>X0,rfl,fun i h=>absurd h (Nat.not_lt_zero i)⟩
 | n+1,hs=>by
  obtain⟨T,h1,h2⟩:=chain h0 n fun i X hi hI=>hs i X (by omega) hI
  have hn:Inv n (T n):=by
   cases n with
   | zero=>rw[h1];exact h0
   | succ k=>exact (h2 k (by omega)).2.2
  obtain⟨X',h3,h4⟩:=hs n (T n) (by omega) hn
  refine⟨fun j=>if j≤n then T j else X',by simp[h1],fun i hi=>?_⟩
  rcases Nat.lt_or_ge i n with hin | hin
  ·have:=h2 i hin
   simp only[show i≤n by omega,show i+1≤n by omega,if_true]
   exact this
  ·have:i=n:=by omega
   subst this
   simp only[Nat.le_refl,if_true,show ¬i+1≤i by omega,if_false]
   exact⟨hn,h3,h4⟩
end Go.Proofs.YtiafochainjglaaGreatDoor.drp.pu
end

section
open Go Go.Ax Go.Proofs
namespace Go.Proofs.YtiafochainjglaaGreatDoor.drp.pu
open cd cd2 cd3 cd4 cd5 cd9 oo my
set_option linter.unusedVariables false
section
variable {Y:ASt} {a b:Nat} {z:Int} {x y:Operand}
theorem lssP:still Y (aBin EPu .lss 3 x y (.int .i64 (.ofNat a)) (.int .i64 (.ofNat b)))=some (.bool (decide (a<b)),Y):=by
 have e:aBin EPu .lss 3 x y (.int .i64 (.ofNat a)) (.int .i64 (.ofNat b))=some (.bool (ltF (.ofNat a) (.ofNat b))):=by kernel_rfl
 rw[ltF_nn] at e
 exact still_of e
theorem neqPu:still Y (aBin EPu .neq 24 x y (.int .u64 (.ofNat a)) (.int .u64 (.ofNat 0)))=some (.bool (!decide (a=0)),Y):=by
 have e:aBin EPu .neq 24 x y (.int .u64 (.ofNat a)) (.int .u64 (.ofNat 0))=some (.bool (!eqF (.ofNat a) (.ofNat 0))):=by kernel_rfl
 rw[eqF_nn] at e
 exact still_of e
theorem addP (h:a+b<1000000):still Y (aBin EPu .add 3 x y (.int .i64 (.ofNat a)) (.int .i64 (.ofNat b)))=some (.int .i64 (.ofNat (a+b)),Y):=by
 have e:aBin EPu .add 3 x y (.int .i64 (.ofNat a)) (.int .i64 (.ofNat b))=some (.int .i64 (wrapF .i64 (.ofNat a+.ofNat b))):=by kernel_rfl
 rw[show (Int.ofNat a+Int.ofNat b)=Int.ofNat (a+b) from rfl,wrap_nat (by omega)] at e
 exact still_of e
theorem addPu (h:a+b<1000000):still Y (aBin EPu .add 24 x y (.int .u64 (.ofNat a)) (.int .u64 (.ofNat b)))=some (.int .u64 (.ofNat (a+b)),Y):=by
 have e:aBin EPu .add 24 x y (.int .u64 (.ofNat a)) (.int .u64 (.ofNat b))=some (.int .u64 (wrapF .u64 (.ofNat a+.ofNat b))):=by kernel_rfl
 rw[show (Int.ofNat a+Int.ofNat b)=Int.ofNat (a+b) from rfl,w64 (by omega)] at e
 exact still_of e
theorem remPu:still Y (aBin EPu .rem 24 x y (.int .u64 (.ofNat a)) (.int .u64 (.ofNat 4)))=some (.int .u64 (.ofNat (a % 4)),Y):=by
 have e:aBin EPu .rem 24 x y (.int .u64 (.ofNat a)) (.int .u64 (.ofNat 4))=some (.int .u64 (Int.tmod (.ofNat a) (.ofNat 4))):=by kernel_rfl
 rw[tm] at e
 exact still_of e
theorem ixPa {r:Nat}:∀{i:Nat},i<4→still Y (aIndexAddr EPu 117 (.ptr (some (r,0))) (.int .u64 (.ofNat (5+i))))=some (.ptr (some (r,(5+i)*256)),Y)
 | 0,_=>still_of (by kernel_rfl)
 | 1,_=>still_of (by kernel_rfl)
 | 2,_=>still_of (by kernel_rfl)
 | 3,_=>still_of (by kernel_rfl)
end
structure P1 (S X:ASt) (M:List AV) (L:List (List Nat)):Prop where
 ty:Tidy X
 nx:S.next+2≤X.next
 g0:X.h.get S.next=some (.cells M true)
 g1:X.h.get (S.next+1)=some (.cells (dsk.rowB L) true)
 old:∀k,k<S.next→X.h.get k=S.h.get k
 hi:∀k,S.next+2≤k→X.h.get k=none
section
variable {S X:ASt} {M:List AV} {L:List (List Nat)}
theorem P1.new (ht:Tidy S) (M:List AV) (L:List (List Nat)):P1 S ((S.add (.cells M true)).add (.cells (dsk.rowB L) true)) M L:=by
 refine⟨ht.add.add,Nat.le_refl _,?_,?_,fun k hk=>?_,fun k hk=>?_⟩
 ·rw[add_ne (by rw[add_next];omega)];exact add_at
 ·exact add_at
 ·rw[add_ne (by rw[add_next];omega),add_ne (by omega)]
 ·rw[add_ne (by rw[add_next];omega),add_ne (by omega)];exact ht k (by omega)
theorem P1.put (h:P1 S X M L) (L':List (List Nat)):P1 S (X.put (S.next+1) (.cells (dsk.rowB L') true)) M L':=by
 have:=h.nx
 exact⟨h.ty.put (by omega),h.nx,by rw[put_ne (by omega)];exact h.g0,put_at,fun k hk=>by rw[put_ne (by omega)];exact h.old k hk,fun k hk=>by rw[put_ne (by omega)];exact h.hi k hk⟩
theorem P1.bump (h:P1 S X M L) (j:Nat):P1 S (ASt.mk X.h (X.next+j)) M L:=⟨h.ty.mk (Nat.le_add_right _ _),Nat.le_trans h.nx (Nat.le_add_right _ _),h.g0,h.g1,h.old,h.hi⟩
end
theorem sh4:dropC 4 cPu=.seq (seqL (dropC 4 cPu)) (dropC 5 cPu):=by kernel_rfl
theorem sh5:dropC 5 cPu=.seq (seqL (dropC 5 cPu)) (dropC 6 cPu):=by kernel_rfl
theorem sh6:dropC 6 cPu=.seq (.seq (seqL (seqL (dropC 6 cPu))) (.block 1 (.loop LPu))) (dropC 7 cPu):=by kernel_rfl
noncomputable def fPu (d k0 k1:Nat):AFr:=xFr [(0,.ptr (some (d,0))),(3,.ptr (some (k0,0))),(6,.ptr (some (k1,0)))] 76
noncomputable def fRu (d:Nat) (R:List AV) (i:Nat):AFr:=xFr [(0,.ptr (some (d,0))),(61,.agg R),(62,.int .i64 (.ofNat i))] 76
def putL2 (B0 B2:List Nat):List (List Nat):=((List.replicate 9 []).set 0 B0).set 2 B2
def putL4 (mk:Bool) (B0 B2 B4:List Nat):List (List Nat):=bif mk then (putL2 B0 B2).set 4 B4 else putL2 B0 B2
def putL (mk:Bool) (nu:Nat) (B0 B2 B4 BL:List Nat):List (List Nat):=if nu=0 then putL4 mk B0 B2 B4 else (putL4 mk B0 B2 B4).set (5+nu % 4) BL
theorem putL4_len (mk:Bool) (B0 B2 B4:List Nat):(putL4 mk B0 B2 B4).length=9:=by cases mk<;>rfl
theorem putL_len (mk:Bool) (nu:Nat) (B0 B2 B4 BL:List Nat):(putL mk nu B0 B2 B4 BL).length=9:=by
 unfold putL
 split
 ·exact putL4_len ..
 ·rw[List.length_set];exact putL4_len ..
section
variable {S X:ASt} {d k t se nu ho:Nat} {x y:Nat→Nat} {c mk:Bool} {B0 B2 B4 BL:List Nat}
theorem put_mk (h:P1 S X (mL k x c y t mk se nu ho) (putL2 B0 B2)) (c62:∀S,Call1 Tryz.prog 62 [.int .u64 (.ofNat se)] S (.agg (bl B4),S)):∃X',P1 S X' (mL k x c y t mk se nu ho) (putL4 mk B0 B2 B4)∧Trip Tryz.prog S.next none (seqL (dropC 4 cPu)) (fPu d S.next (S.next+1)) X (fun z=>z=(.normal,fPu d S.next (S.next+1),X')):=by
 cases mk with
 | true =>
  refine⟨_,h.put _,Trip.ofR EPuok (onlyC_ok (pureC_ok c62)) (kf:=[0,3,6]) (Q1:=fun z=>z=(.normal,fPu d S.next (S.next+1),X.put (S.next+1) (.cells (dsk.rowB (putL4 true B0 B2 B4)) true))) (Eq.mp (vcPd _ d S.next (S.next+1) se B4 X _ (fun z=>z=(.normal,fPu d S.next (S.next+1),X.put (S.next+1) (.cells (dsk.rowB (putL4 true B0 B2 B4)) true))))
   ⟨load_at (by kernel_rfl) h.g0 (by kernel_rfl),load_at (by kernel_rfl) h.g0 (by kernel_rfl),ca (pureC_at ..),st_blk (i:=4) h.g1 (show 4<9 by decide) rfl,rfl⟩) (fun e F Y hz=>hz)⟩
 | false =>
  exact⟨X,h,Trip.ofR EPuok noSum_ok (kf:=[0,3,6]) (Q1:=fun z=>z=(.normal,fPu d S.next (S.next+1),X)) (Eq.mp (vcPe d S.next (S.next+1) X (fun z=>z=(.normal,fPu d S.next (S.next+1),X))) ⟨load_at (by kernel_rfl) h.g0 (by kernel_rfl),rfl⟩) (fun e F Y hz=>hz)⟩
theorem put_nu (h:P1 S X (mL k x c y t mk se nu ho) (putL4 mk B0 B2 B4)) (c63:∀S,Call1 Tryz.prog 63 [.int .u64 (.ofNat nu),.int .u16 (.ofNat ho)] S (.agg (bl BL),S)):∃X',P1 S X' (mL k x c y t mk se nu ho) (putL mk nu B0 B2 B4 BL)∧Trip Tryz.prog S.next none (seqL (dropC 5 cPu)) (fPu d S.next (S.next+1)) X (fun z=>z=(.normal,fPu d S.next (S.next+1),X')):=by
 by_cases hn:nu=0
 ·have e:putL mk nu B0 B2 B4 BL=putL4 mk B0 B2 B4:=if_pos hn
  rw[e]
  exact⟨X,h,Trip.ofR EPuok noSum_ok (kf:=[0,3,6]) (Q1:=fun z=>z=(.normal,fPu d S.next (S.next+1),X)) (Eq.mp (vcPg d S.next (S.next+1) nu X (fun z=>z=(.normal,fPu d S.next (S.next+1),X))) ⟨load_at (by kernel_rfl) h.g0 (by kernel_rfl),by rw[neqPu,decide_eq_true hn];rfl,rfl⟩) (fun e F Y hz=>hz)⟩
 ·have e:putL mk nu B0 B2 B4 BL=(putL4 mk B0 B2 B4).set (5+nu % 4) BL:=if_neg hn
  have hb:=h.bump 11
  have hl:=putL4_len mk B0 B2 B4
  rw[e]
  exact⟨_,hb.put _,Trip.ofR EPuok (onlyC_ok (pureC_ok c63)) (kf:=[0,3,6]) (Q1:=fun z=>z=(.normal,fPu d S.next (S.next+1),(ASt.mk X.h (X.next+11)).put (S.next+1) (.cells (dsk.rowB ((putL4 mk B0 B2 B4).set (5+nu % 4) BL)) true))) (Eq.mp (vcPf _ d S.next (S.next+1) nu ho BL X _ (fun z=>z=(.normal,fPu d S.next (S.next+1),(ASt.mk X.h (X.next+11)).put (S.next+1) (.cells (dsk.rowB ((putL4 mk B0 B2 B4).set (5+nu % 4) BL)) true))))
   ⟨load_at (by kernel_rfl) h.g0 (by kernel_rfl),by rw[neqPu,decide_eq_false hn];rfl,load_at (by kernel_rfl) hb.g0 (by kernel_rfl),remPu,addPu (by omega),load_at (by kernel_rfl) hb.g0 (by kernel_rfl),load_at (by kernel_rfl) hb.g0 (by kernel_rfl),ca (pureC_at ..),ixPa (by omega),st_blk hb.g1 (by omega) rfl,holds_cons (fst_of (load_at (by kernel_rfl) hb.g0 (by kernel_rfl))) trivial,rfl⟩) (fun e F Y hz=>hz)⟩
end
end Go.Proofs.YtiafochainjglaaGreatDoor.drp.pu
end

section
open Go Go.Ax Go.Proofs
namespace Go.Proofs.YtiafochainjglaaGreatDoor.drp.pu
open cd cd2 cd3 cd4 cd5 cd9 oo my
set_option linter.unusedVariables false
structure PI (base:Nat) (S0 S:ASt) (d l m n cc:Nat) (las:List (List Nat)) (f:Nat→List Nat) (L:List (List Nat)) (i:Nat) (X:ASt):Prop where
 dv:∃es,Dv base S0 X d l m n (cc+i) las es∧∀j,nb las es j=if j<i then blV (L.getD j []) else f j
 nx:S.next≤X.next
 old:∀k,k<S.next→k≠l→k≠m→X.h.get k=S.h.get k
structure PR (d:Nat) (L:List (List Nat)) (i:Nat) (X X' A B:ASt):Prop where
 al:A=X.add (.cells (bl []) true)
 st:Option.map (fun s=>(undefA,s)) (aStore EPu 54 (.ptr (some (X.next,0))) (.agg (bl (L.getD i []))) A)=some (.tuple [],B)
 ld:aLoad EPu 54 (.ptr (some (X.next,0))) B=some (.agg (bl (L.getD i [])),B)
 wr:Call1 Tryz.prog 19 [.ptr (some (d,0)),.int .i64 (.ofNat i),.agg (bl (L.getD i []))] B (.int .i64 (.ofNat 0),X')
section
variable {base d l m n cc:Nat} {S0 S:ASt} {las:List (List Nat)} {es:List dsk.En} {f:Nat→List Nat} {L:List (List Nat)}
theorem pu_round (hl:l<S.next) (hm:m<S.next) (hc:cc+9<1000000) (hn:9≤n) (hL:∀i,byL (L.getD i [])) {i:Nat} {X:ASt} (hi:i<9) (h:PI base S0 S d l m n cc las f L i X):∃X',(∃A B,PR d L i X X' A B)∧PI base S0 S d l m n cc las f L (i+1) X':=by
 obtain⟨es1,hd,hf⟩:=h.dv
 have ht:=hd.tidy
 have nx:=h.nx
 obtain⟨A,eA⟩:∃A,A=X.add (.cells (bl []) true):=⟨_,rfl⟩
 obtain⟨B,eB⟩:∃B,B=A.put X.next (.cells (bl (L.getD i [])) true):=⟨_,rfl⟩
 have gA:A.h.get X.next=some (.cells (bl []) true):=by rw[eA];exact add_at
 have gB:B.h.get X.next=some (.cells (bl (L.getD i [])) true):=by rw[eB];exact put_at
 have nA:A.next=X.next+1:=by rw[eA];rfl
 have nB:B.next=X.next+1:=by rw[eB,put_next,nA]
 have tB:Tidy B:=by rw[eB];exact (show Tidy A by rw[eA];exact ht.add).put (by omega)
 have oB:∀k,k<X.next→B.h.get k=X.h.get k:=fun k hk=>by rw[eB,put_ne (by omega),eA,add_ne (by omega)]
 have hdB:=hd.keep (S':=B) (by omega) tB oB
 obtain⟨X',es2,hcall,hd2,hn2,ho2,hb2⟩:=Dv.writeV hdB (by omega) (show i<n by omega) (hL i)
 refine⟨X',⟨A,B,eA,?_,?_,hcall⟩,⟨⟨es2,by have:=hd2;rw[Nat.add_assoc] at this;exact this,fun j=>?_⟩,by omega,fun k hk h1 h2=>?_⟩⟩
 ·rw[eB]
  exact okS_of (storeW_at (by kernel_rfl) (bl_len _) (bl_len _) gA)
 ·exact load_agg (z:=256) (by kernel_rfl) gB (by have:=takeL_all (X:=bl (L.getD i []));rw[bl_len] at this;exact this)
 ·rw[hb2 j,hf j]
  by_cases e:j=i
  ·subst e;rw[if_pos rfl,if_pos (by omega)]
  ·rw[if_neg e]
   by_cases e2:j<i
   ·rw[if_pos e2,if_pos (by omega)]
   ·rw[if_neg e2,if_neg (by omega)]
 ·rw[ho2 k (by omega) h2,oB k (by omega)];exact h.old k hk h1 h2
end
theorem putL_by {mk:Bool} {nu:Nat} {B0 B2 B4 BL:List Nat} (h0:byL B0) (h2:byL B2) (h4:byL B4) (hL:byL BL) (i:Nat):byL ((putL mk nu B0 B2 B4 BL).getD i []):=by
 have hall:∀b,b∈putL mk nu B0 B2 B4 BL→byL b:=fun b hb=>by
  have h4':∀b,b∈putL4 mk B0 B2 B4→byL b:=fun b hb=>by
   have h2':∀b,b∈putL2 B0 B2→byL b:=fun b hb=>by
    rcases List.mem_or_eq_of_mem_set hb with hb | rfl
    ·rcases List.mem_or_eq_of_mem_set hb with hb | rfl
     ·rw[(List.mem_replicate.1 hb).2];exact byL_nil
     ·exact h0
    ·exact h2
   cases mk with
   | true =>
    rcases List.mem_or_eq_of_mem_set (show b∈(putL2 B0 B2).set 4 B4 from hb) with hb | rfl
    ·exact h2' b hb
    ·exact h4
   | false=>exact h2' b hb
  unfold putL at hb
  split at hb
  ·exact h4' b hb
  ·rcases List.mem_or_eq_of_mem_set hb with hb | rfl
   ·exact h4' b hb
   ·exact hL
 rw[List.getD_eq_getElem?_getD]
 cases e:(putL mk nu B0 B2 B4 BL)[i]? with
 | none=>exact byL_nil
 | some b=>exact hall b (List.mem_of_getElem? e)
section
variable {base d l m n cc k t se nu ho:Nat} {S0 S:ASt} {las:List (List Nat)} {es:List dsk.En} {x y:Nat→Nat} {c mk:Bool} {B0 B2 B4 BL:List Nat}
theorem put_ok (h:Dv base S0 S d l m n cc las es) (hcc:cc<100000) (hn:n=9+k) (h1:1≤k) (h2:k≤64)
  (hmay:∀S,Call1 Tryz.prog 24 [.agg (mL k x c y t mk se nu ho)] S (.bool true,S)) (c60:∀S,Call1 Tryz.prog 60 [.agg (sL x c)] S (.tuple [.agg (bl B0),.int .i64 (.ofNat 0)],S)) (c61:∀S,Call1 Tryz.prog 61 [.agg (rL y),.int .u64 (.ofNat t)] S (.tuple [.agg (bl B2),.int .i64 (.ofNat 0)],S))
  (c62:∀S,Call1 Tryz.prog 62 [.int .u64 (.ofNat se)] S (.agg (bl B4),S)) (c63:∀S,Call1 Tryz.prog 63 [.int .u64 (.ofNat nu),.int .u16 (.ofNat ho)] S (.agg (bl BL),S)) (b0:byL B0) (b2:byL B2) (b4:byL B4) (bL:byL BL) :
  ∃S' las',Call1 Tryz.prog 16 [.ptr (some (d,0)),.agg (mL k x c y t mk se nu ho)] S (.int .i64 (.ofNat 0),S')∧Dv base S0 S' d l m n (cc+9) las' []∧(∀j,j<n→nb las' [] j=if j<9 then blV ((putL mk nu B0 B2 B4 BL).getD j []) else nb las es j)∧S.next≤S'.next∧∀k,k<S.next→k≠l→k≠m→S'.h.get k=S.h.get k:=by
 obtain⟨ck0,hdk⟩:=h.dk
 have hl:l<S.next:=h.tidy.lt hdk.hl
 have hm:m<S.next:=h.tidy.lt hdk.hm
 have hlm:l≠m:=ne_get hdk.hl hdk.hm (by intro e;cases e)
 have hdl:d≠l:=ne_get hdk.hd hdk.hl (fun hh=>by
  unfold dsk.dK at hh
  injection hh with hh
  have hne:(dsk.rowB las)[0]? = some (cellU ((las.getD 0 []).getD 0 0)):=by
   cases hc0:las with
   | nil=>have:=h.len;rw[hc0] at this;simp at this;omega
   | cons x xs =>
    show (bl x++dsk.rowB xs)[0]? = _
    rw[List.getElem?_append_left (by rw[bl_len];decide),bl_get (by decide)];rfl
  rw[←hh] at hne
  cases hne)
 have hdm:d≠m:=ne_get hdk.hd hdk.hm (by intro e;cases e)
 obtain⟨M,eM⟩:∃M,M=mL k x c y t mk se nu ho:=⟨_,rfl⟩
 obtain⟨S1,e1⟩:∃X,X=S.add (.cells (mL k x c y t mk se nu ho) true):=⟨_,rfl⟩
 have p2:=P1.new h.tidy (mL k x c y t mk se nu ho) (List.replicate 9 [])
 rw[←e1] at p2
 obtain⟨S2,e2⟩:∃X,X=S1.add (.cells (dsk.rowB (List.replicate 9 [])) true):=⟨_,rfl⟩
 rw[←e2] at p2
 have n1:S1.next=S.next+1:=by rw[e1];rfl
 have o1:∀k,k<S.next→S1.h.get k=S.h.get k:=fun k hk=>by rw[e1,add_ne (by omega)]
 have g1:S1.h.get S.next=some (.cells (mL k x c y t mk se nu ho) true):=by rw[e1];exact add_at
 have D1:=h.keep (S':=S1) (by omega) (by rw[e1];exact h.tidy.add) o1
 have p3:=p2.put ((List.replicate 9 []).set 0 B0)
 obtain⟨S3,e3⟩:∃X,X=S2.put (S.next+1) (.cells (dsk.rowB ((List.replicate 9 []).set 0 B0)) true):=⟨_,rfl⟩
 rw[←e3] at p3
 have p4:=p3.put (putL2 B0 B2)
 obtain⟨S4,e4⟩:∃X,X=S3.put (S.next+1) (.cells (dsk.rowB (putL2 B0 B2)) true):=⟨_,rfl⟩
 rw[←e4] at p4
 obtain⟨S5,p5,t5⟩:=put_mk (d:=d) (B4:=B4) p4 c62
 obtain⟨S6,p6,t6⟩:=put_nu (d:=d) (BL:=BL) p5 c63
 obtain⟨L,eL⟩:∃L,L=putL mk nu B0 B2 B4 BL:=⟨_,rfl⟩
 have hL9:L.length=9:=by rw[eL];exact putL_len ..
 have hLb:∀i,byL (L.getD i []):=fun i=>by rw[eL];exact putL_by b0 b2 b4 bL i
 rw[←eL] at p6 ⊢
 have D6:=h.keep (S':=S6) (by have:=p6.nx;omega) p6.ty p6.old
 have i0:PI base S0 S d l m n cc las (nb las es) L 0 S6:=⟨⟨es,D6,fun j=>by rw[if_neg (Nat.not_lt_zero j)]⟩,by have:=p6.nx;omega,fun k hk _ _=>p6.old k hk⟩
 obtain⟨T,hT0,hT⟩:=chain i0 9 fun i X hi hI=>pu_round hl hm (by omega) (by omega) hLb hi hI
 have i9:PI base S0 S d l m n cc las (nb las es) L 9 (T 9):=(hT 8 (by decide)).2.2
 obtain⟨es9,d9,f9⟩:=i9.dv
 obtain⟨Sg,las',ck,hfl,dg,ng,og,fg,gl,gm⟩:=Dv.flushV d9 (by omega) (by omega)
 have n9:=i9.nx
 obtain⟨Sf,eF⟩:∃X,X=((ASt.mk S.h Sg.next).put l (.cells (dsk.rowB las') true)).put m (.map [] ck):=⟨_,rfl⟩
 have nF:Sf.next=Sg.next:=by rw[eF];rfl
 have gF:∀k,k≠l→k≠m→Sf.h.get k=S.h.get k:=fun k h1 h2=>by rw[eF,put_ne h2,put_ne h1]
 have glF:Sf.h.get l=some (.cells (dsk.rowB las') true):=by rw[eF,put_ne hlm];exact put_at
 have gmF:Sf.h.get m=some (.map [] ck):=by rw[eF];exact put_at
 have oldG:∀k,k<S.next→k≠l→k≠m→Sg.h.get k=S.h.get k:=fun k hk h1 h2=>by rw[og k (by omega) h1 h2];exact i9.old k hk h1 h2
 have tF:Tidy Sf:=by
  rw[eF]
  exact ((h.tidy.mk (show S.next≤Sg.next by omega)).put (show l<Sg.next by omega)).put (show m<Sg.next by omega)
 have hll:las'.length=las.length:=by rw[dg.len,h.len]
 have DF:Dv base S0 Sf d l m n (cc+9) las' []:=by
  refine⟨⟨ck,⟨by rw[gF d hdl hdm,hll];exact hdk.hd,glF,gmF,fun e he=>(by cases he),List.nodup_nil,List.nodup_nil,by rw[hll];exact hdk.most⟩⟩,h.llo,h.mlo,h.dlo,dg.len,fun e he=>(by cases he),dg.few,dg.lby,dg.vby,tF,by have:=h.next;omega,fun k hk=>?_⟩
  have a1:=h.llo
  have a2:=h.mlo
  rw[gF k (by omega) (by omega)]
  exact h.same k hk
 refine⟨Sf,las',?_,DF,fun j hj=>?_,by omega,fun k hk h1 h2=>gF k h1 h2⟩
 ·have hok:=orC_ok (oneC_ok (check_ok (D1.dsk (by omega)) (by rw[h.len];exact hn) h1 h2)) (orC_ok (pureC_ok hmay) (orC_ok (pureC_ok c60) (pureC_ok c61)))
  refine Call2.up (Call2.of_stops EPuok (fn:=Tryz.f16) (c:=cPu) (by kernel_rfl) (by kernel_rfl) (by kernel_rfl) (N:=76) (e:=.ret) (F:=xFr [(4,.int .i64 (.ofNat 0))] 76) (S':=Sf) ?_ (.inr rfl) (leave_of (rs:=[.tmp 4]) (vs:=[.int .i64 (.ofNat 0)]) (by kernel_rfl) rfl (res_tmp (by kernel_rfl) res_nil) rfl) (by kernel_rfl)) (by omega) (fun i a hg hd=>?_) (by simp[refsD])
  ·refine Trip.preR EPuok (onlyC_ok hok) (k:=4) (kf:=[0,3,6]) (by kernel_rfl) (Q1:=fun r=>r=(.normal,fPu d S.next (S.next+1),S4)) (Eq.mp (vcPc _ k t se nu ho x y c mk d S.next (S.next+1) B0 B2 S S1 S2 S3 S4 (fun r=>r=(.normal,fPu d S.next (S.next+1),S4)))
    ⟨by rw[e1];rfl,load_at (by kernel_rfl) g1 (by kernel_rfl),ca (orC_l oneC_at),load_agg (z:=32) (by kernel_rfl) g1 (by kernel_rfl),ca (orC_r (oneC_no (by decide)) (orC_l (pureC_at ..))),by rw[e2,←n1];kernel_rfl,load_agg (z:=7) (by kernel_rfl) p2.g0 (by kernel_rfl),ca (orC_r (oneC_no (by decide)) (orC_r (pureC_no (by decide)) (orC_l (pureC_at ..)))),
     by rw[e3];exact st_blk (i:=0) p2.g1 (by decide) rfl,load_agg (z:=19) (by kernel_rfl) p3.g0 (by kernel_rfl),load_at (by kernel_rfl) p3.g0 (by kernel_rfl),ca (orC_r (oneC_no (by decide)) (orC_r (pureC_no (by decide)) (orC_r (pureC_no (by decide)) (pureC_at ..)))),by rw[e4];exact st_blk (i:=2) p3.g1 (show 2<9 by decide) rfl,rfl⟩) ?_ (fun r h1 h2=>absurd (congrArg (·.1) h2) h1)
   rintro F Y hY
   cases hY
   rw[sh4]
   refine Trip.seq t5 (fun F Y hz=>?_) (fun e F Y he hz=>by cases hz;exact absurd rfl he)
   cases hz
   rw[sh5]
   refine Trip.seq t6 (fun F Y hz=>?_) (fun e F Y he hz=>by cases hz;exact absurd rfl he)
   cases hz
   rw[sh6]
   refine Trip.seq (R:=fun z=>z=(.normal,xFr [(0,.ptr (some (d,0)))] 76,T 9)) ?_ (fun F Y hz=>?_) (fun e F Y he hz=>by cases hz;exact absurd rfl he)
   ·refine Trip.seq (R:=fun z=>z=(.normal,fRu d (dsk.rowB L) 0,S6)) (Trip.ofR EPuok noSum_ok (kf:=[0,61,62]) (Q1:=fun z=>z=(.normal,fRu d (dsk.rowB L) 0,S6)) (Eq.mp (vcPh d S.next (S.next+1) (dsk.rowB L) S6 (fun z=>z=(.normal,fRu d (dsk.rowB L) 0,S6)))
     ⟨load_agg (z:=2304) (by kernel_rfl) p6.g1 (by have:=takeL_all (X:=dsk.rowB L);rw[dsk.rowB_len,hL9] at this;exact this),rfl⟩) (fun e F Y hz=>hz)) (fun F Y hz=>?_) (fun e F Y he hz=>by cases hz;exact absurd rfl he)
    cases hz
    refine Trip.block (Trip.loop (fun mm fr st=>∃i,i≤9∧mm=9 - i∧fr=fRu d (dsk.rowB L) i∧st=T i) ?_ 9 ⟨0,Nat.zero_le _,rfl,rfl,hT0.symm⟩)
    rintro mm fr st ⟨i,hi,rfl,rfl,rfl⟩
    by_cases h9:i<9
    ·obtain⟨_,⟨A,B,hR⟩,_⟩:=hT i h9
     refine Trip.ofR EPuok (onlyC_ok (oneC_ok hR.wr)) (kf:=[0,61,62]) (Q1:=fun z=>z=(.normal,fRu d (dsk.rowB L) (i+1),T (i+1))) (Eq.mp (vcPi _ d i (T i).next (L.getD i []) (dsk.rowB L) (T i) A B (T (i+1)) (fun z=>z=(.normal,fRu d (dsk.rowB L) (i+1),T (i+1))))
      ⟨by rw[lssP,decide_eq_true h9],idx_blk hL9 h9,by rw[hR.al];kernel_rfl,hR.st,hR.ld,ca oneC_at,addP (by omega),rfl⟩) (fun e F Y hz=>?_)
     cases hz
     exact⟨9 - (i+1),fRu d (dsk.rowB L) (i+1),T (i+1),by omega,Wk.refl _ _ _,i+1,h9,rfl,rfl,rfl⟩
    ·have:i=9:=by omega
     subst this
     refine Trip.ofR EPuok noSum_ok (kf:=[0]) (Q1:=fun z=>z=(.exit 1,xFr [(0,.ptr (some (d,0)))] 76,T 9)) (Eq.mp (vcPj d (dsk.rowB L) (T 9) (fun z=>z=(.exit 1,xFr [(0,.ptr (some (d,0)))] 76,T 9))) ⟨by rw[lssP];rfl,rfl⟩) (fun e F Y hz=>?_)
     cases hz
     exact⟨fun _=>rfl,fun h=>absurd rfl h⟩
   ·cases hz
    refine Trip.ofR EPuok (onlyC_ok (oneC_ok hfl)) (kf:=[4]) (Q1:=fun z=>z=(.ret,xFr [(4,.int .i64 (.ofNat 0))] 76,Sg)) (Eq.mp (vcPk _ d (T 9) Sg (fun z=>z=(.ret,xFr [(4,.int .i64 (.ofNat 0))] 76,Sg))) ⟨ca oneC_at,rfl⟩) (fun e F Y hz=>?_)
    cases hz
    refine⟨rfl,Wk.mem (fun j a hj=>?_) (Nat.le_of_eq nF.symm)⟩
    by_cases e1:j=m
    ·subst e1;rw[gmF] at hj;rw[gm];exact hj
    ·by_cases e2:j=l
     ·subst e2;rw[glF] at hj;rw[gl];exact hj
     ·rw[gF j e2 e1] at hj
      rw[oldG j (h.tidy.lt hj) e2 e1];exact hj
  ·by_cases e1:i=m
   ·subst e1
    rw[gmF] at hg;cases hg
    exact .inr ⟨.inr ⟨_,hdk.hm,by intro e;cases e⟩,fun e he=>by cases he⟩
   ·by_cases e2:i=l
    ·subst e2
     rw[glF] at hg;cases hg
     exact .inr ⟨.inr ⟨_,hdk.hl,by intro e;cases e⟩,cp.rowB_d _⟩
    ·rw[gF i e2 e1] at hg;exact .inl hg
 ·rw[fg j hj,f9 j]
end
end Go.Proofs.YtiafochainjglaaGreatDoor.drp.pu
end
