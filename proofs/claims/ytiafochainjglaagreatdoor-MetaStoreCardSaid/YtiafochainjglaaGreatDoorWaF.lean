/-
  OWN WORK, A PART: an abstract machine for the program's text that the kernel can run, and the proof that it is sound: what it answers is what the program answers; contracts of functions by it. No condition.
-/
import Derived.Test.YtiafochainjglaaGreatDoorWaD
import Derived.KernelRfl
section
namespace Go.Ax
noncomputable section
open Go.RowKit
theorem qLF {α:Type} (d:Nat):∀(l:List (Nat×α)) (t:T α) (k:Nat) (v:α),(l.foldl (fun t p=>t.set d p.1 p.2) t).get k=some v→(∃p,p∈l∧p.1=k∧p.2=v)∨t.get k=some v
 | [],t,k,v,h=>.inr h
 | p::l,t,k,v,h=>by
  rcases qLF d l _ k v h with⟨q,h1,h2⟩ | h
  ·exact .inl ⟨q,List.mem_cons_of_mem _ h1,h2⟩
  ·rw[T.get_set] at h
   by_cases e:k=p.1
   ·simp only[e,if_true,qz1] at h;exact .inl ⟨p,List.mem_cons_self,e.symm,h⟩
   ·simp only[e,if_false] at h;exact .inr h
theorem qBW {n:Nat} (h:n<9223372036854775808):qAH .i64 (.ofNat n)=.ofNat n:=by
 rw[qBb];exact qCc h
theorem qWo (a b:Nat):ltF (.ofNat a) (.ofNat b)=decide (a<b):=by rw[qDH];congr 1;apply propext;exact Int.ofNat_lt
def ifB (b:Bool) (A B:Prop):Prop:=@Bool.rec (fun _=>Prop) B A b
theorem qBF {b:Bool} {A B:Prop} (h:b=true→A) (g:b=false→B):ifB b A B:=by
 cases b with
 | true=>exact h rfl
 | false=>exact g rfl
inductive An where
 | nil
 | v (y:AV×ASt) (k:An)
 | e (y:Exit×AFr×ASt) (k:An)
 | b (t f:An)
def Tr.allY {α:Type} (Q:α→Prop) (t:Tr α):An→Prop :=
 @Tr.rec α (fun _=>An→Prop) (fun a _=>match a with | some a=>Q a | none=>False)
  (fun b _ _ it jf y=>match y with | .b p q=>ifB b (it p) (jf q) | y=>ifB b (it y) (jf y))
  (fun x _ ih y=>match y with | .v y k=>x=some y∧ih y k | _=>False)
  (fun x _ ih y=>match y with | .e y k=>x=some y∧ih y k | _=>False)
  (fun _ p _ _ ih y=>p∧ih y) t
theorem Tr.allY_all {α:Type} {Q:α→Prop} (t:Tr α):∀y,t.allY Q y→t.all Q:=by
 induction t with
 | ret a=>intro y h;exact h
 | askB b t f it jf =>
  intro y h;cases y with
  | b p q =>
   refine⟨fun e=>it p ?_,fun e=>jf q ?_⟩
   ·subst e;exact h
   ·subst e;exact h
  | nil=>exact⟨fun e=>it .nil (by subst e;exact h),fun e=>jf .nil (by subst e;exact h)⟩
  | v y k=>exact⟨fun e=>it (.v y k) (by subst e;exact h),fun e=>jf (.v y k) (by subst e;exact h)⟩
  | e y k=>exact⟨fun e=>it (.e y k) (by subst e;exact h),fun e=>jf (.e y k) (by subst e;exact h)⟩
 | askV x k ih=>intro y h;cases y with
  | v y k=>exact⟨y,h.1,ih y k h.2⟩
  | _=>exact h.elim
 | askE x k ih=>intro y h;cases y with
  | e y k=>exact⟨y,h.1,ih y k h.2⟩
  | _=>exact h.elim
 | askC b p hp t ih=>intro y h;exact⟨h.1,ih y h.2⟩
theorem Trip.runY {P:Program} {kb:Nat} {ro:Option Nat} {fr:AFr} {st:ASt} {Q:qz2} {E:Env} (hE:E.Ok P) {sum:CallT} (hs:CallsOK P sum) {fls:List (Nat×Fl)} {rf:Fl} {n:Nat} {fl:Fl} {c:Code} {y:An}
  (h:((TM E sum fls rf n).ex fl ro c fr st).allY Q y):Trip P kb ro c fr st Q :=
 Trip.run hE hs (Tr.allY_all _ y h)
end
end Go.Ax
end
section
namespace Go.Ax
noncomputable section
open Go.RowKit
def qOk:List Nat→Nat→Nat→Option Nat
 | [],_,_=>none
 | x::xs,i,k=>bif Nat.beq x i then some k else qOk xs i (k+1)
theorem qRG:∀{xs:List Nat} {i k j:Nat},qOk xs i k=some j→k≤j∧xs[j - k]? = some i
 | [],i,k,j,h=>by simp[qOk] at h
 | x::xs,i,k,j,h=>by
  unfold qOk at h;cases hb:Nat.beq x i
  ·rw[hb,cond_false] at h;obtain⟨h1,h2⟩:=qRG h;refine⟨by omega,?_⟩;rw[show j - k=(j - (k+1))+1 by omega];simpa using h2
  ·rw[hb,cond_true] at h;simp only[qz1] at h;subst h;have:=qEQ hb;subst this;exact⟨by omega,by simp⟩
def qJ9 (ids:List Nat) (ι:Ren):Ren:=fun j=>match ids[j]? with | some i=>ι i | none=>none
theorem qJ8 {ids:List Nat} {ι:Ren} {i j:Nat} {L:Loc} (h:qOk ids i 0=some j) (hi:ι i=some L):qJ9 ids ι j=some L:=by
 obtain⟨_,h2⟩:=qRG h;simp only[Nat.sub_zero] at h2;simp only[qJ9,h2,hi]
mutual
def qCj (ids:List Nat):AV→Option AV
 | .ptr (some (i,o))=>match qOk ids i 0 with | some j=>some (.ptr (some (j,o))) | none=>none
 | .slice (some (i,o)) l c=>match qOk ids i 0 with | some j=>some (.slice (some (j,o)) l c) | none=>none
 | .clos f cs=>match qFW ids cs with | some l=>some (.clos f l) | none=>none
 | .bound _ _ _=>none
 | .yield i=>match qOk ids i 0 with | some j=>some (.yield j) | none=>none
 | .iface t v=>match qCj ids v with | some v'=>some (.iface t v') | none=>none
 | .agg cs=>match qFW ids cs with | some l=>some (.agg l) | none=>none
 | .tuple cs=>match qFW ids cs with | some l=>some (.tuple l) | none=>none
 | .map (some i)=>match qOk ids i 0 with | some j=>some (.map (some j)) | none=>none
 | v=>some v
def qFW (ids:List Nat):List AV→Option (List AV)
 | []=>some []
 | v::vs =>
  match qCj ids v with
  | some v'=>match qFW ids vs with | some l=>some (v'::l) | none=>none
  | none=>none
end
theorem qDE {ids:List Nat}:∀{l l':List AV},qFW ids l=some l'→l'.length=l.length∧∀(i:Nat) v',l'[i]? = some v'→∃v,l[i]? = some v∧qCj ids v=some v'
 | [],l',h=>by
  simp only[qFW,qz1] at h;subst h;exact⟨rfl,fun i v' h=>by simp at h⟩
 | x::xs,l',h=>by
  simp only[qFW] at h
  split at h
  ·rename_i x' hx
   split at h
   ·rename_i l hl;simp only[qz1] at h;subst h;obtain⟨h1,h2⟩:=qDE hl;refine⟨by simp[h1],fun i v' hv=>?_⟩;cases i with
    | zero=>simp at hv;subst hv;exact⟨x,rfl,hx⟩
    | succ i=>simp at hv;obtain⟨v,h3,h4⟩:=h2 i v' hv;exact⟨v,by simpa using h3,h4⟩
   ·simp at h
  ·simp at h
theorem qH8 {ids:List Nat} {v v':AV} (h:qCj ids v=some v') (hc:v.isCell=true):v'.isCell=true:=by
 cases v with
 | ptr a=>cases a with
  | none=>simp only[qCj,qz1] at h;subst h;rfl
  | some p=>obtain⟨i,o⟩:=p;simp only[qCj] at h;split at h<;>first | (simp only[qz1] at h;subst h;rfl) | simp at h
 | slice a l c=>cases a with
  | none=>simp only[qCj,qz1] at h;subst h;rfl
  | some p=>obtain⟨i,o⟩:=p;simp only[qCj] at h;split at h<;>first | (simp only[qz1] at h;subst h;rfl) | simp at h
 | map a=>cases a with
  | none=>simp only[qCj,qz1] at h;subst h;rfl
  | some p=>simp only[qCj] at h;split at h<;>first | (simp only[qz1] at h;subst h;rfl) | simp at h
 | yield i=>simp only[qCj] at h;split at h<;>first | (simp only[qz1] at h;subst h;rfl) | simp at h
 | clos f cs=>simp only[qCj] at h;split at h<;>first | (simp only[qz1] at h;subst h;rfl) | simp at h
 | iface t x=>simp only[qCj] at h;split at h<;>first | (simp only[qz1] at h;subst h;rfl) | simp at h
 | agg cs=>cases hc
 | tuple cs=>cases hc
 | any=>cases hc
 | bound _ _ _=>simp[qCj] at h
 | _=>simp only[qCj,qz1] at h;subst h;rfl
theorem VR.ren {ids:List Nat} {ι:Ren} {v:AV} {x:Value} (h:VR ι v x):∀v',qCj ids v=some v'→VR (qJ9 ids ι) v' x:=by
 induction h with
 | bool b=>intro v' h;simp only[qCj,qz1] at h;subst h;exact .bool b
 | int k n=>intro v' h;simp only[qCj,qz1] at h;subst h;exact .int k n
 | str l s hl=>intro v' h;simp only[qCj,qz1] at h;subst h;exact .str l s hl
 | ptrN=>intro v' h;simp only[qCj,qz1] at h;subst h;exact .ptrN
 | ptr i o L hi =>
  intro v' h;simp only[qCj] at h
  split at h
  ·rename_i j hj;simp only[qz1] at h;subst h;exact .ptr j o L (qJ8 hj hi)
  ·simp at h
 | sliceN=>intro v' h;simp only[qCj,qz1] at h;subst h;exact .sliceN
 | slice i o l c' L c hi hc hl =>
  intro v' h;simp only[qCj] at h
  split at h
  ·rename_i j hj;simp only[qz1] at h;subst h;exact .slice j o l c' L c (qJ8 hj hi) hc hl
  ·simp at h
 | clos f cs cs' hs h ih =>
  intro v' h;simp only[qCj] at h
  split at h
  ·rename_i l hl;simp only[qz1] at h;subst h;obtain⟨h1,h2⟩:=qDE hl;exact .clos f l cs' (h1.trans hs) fun i y y' hy hy'=>by obtain⟨z,h3,h4⟩:=h2 i y hy;exact ih i z y' h3 hy' y h4
  ·simp at h
 | bound f fs cs fs' cs' hs hf h g ih ig=>intro v' h;simp[qCj] at h
 | yield i L hi =>
  intro v' h;simp only[qCj] at h
  split at h
  ·rename_i j hj;simp only[qz1] at h;subst h;exact .yield j L (qJ8 hj hi)
  ·simp at h
 | nilFunc=>intro v' h;simp only[qCj,qz1] at h;subst h;exact .nilFunc
 | iface t v w h ih =>
  intro v' h;simp only[qCj] at h
  split at h
  ·rename_i u hu;simp only[qz1] at h;subst h;exact .iface t u w (ih u hu)
  ·simp at h
 | nilIface=>intro v' h;simp only[qCj,qz1] at h;subst h;exact .nilIface
 | agg cs cs' hs hcell h ih =>
  intro v' h;simp only[qCj] at h
  split at h
  ·rename_i l hl;simp only[qz1] at h;subst h;obtain⟨h1,h2⟩:=qDE hl;refine .agg l cs' (h1.trans hs) (fun y hy=>?_) fun i y y' hy hy'=>by obtain⟨z,h3,h4⟩:=h2 i y hy;exact ih i z y' h3 hy' y h4
   obtain⟨i,hi,e⟩:=List.getElem_of_mem hy;obtain⟨z,h3,h4⟩:=h2 i y (by simp[hi,e]);exact qH8 h4 (hcell z (List.mem_of_getElem? h3))
  ·simp at h
 | tuple cs cs' hs h ih =>
  intro v' h;simp only[qCj] at h
  split at h
  ·rename_i l hl;simp only[qz1] at h;subst h;obtain⟨h1,h2⟩:=qDE hl;exact .tuple l cs' (h1.trans hs) fun i y y' hy hy'=>by obtain⟨z,h3,h4⟩:=h2 i y hy;exact ih i z y' h3 hy' y h4
  ·simp at h
 | mapN=>intro v' h;simp only[qCj,qz1] at h;subst h;exact .mapN
 | map i L hi =>
  intro v' h;simp only[qCj] at h
  split at h
  ·rename_i j hj;simp only[qz1] at h;subst h;exact .map j L (qJ8 hj hi)
  ·simp at h
 | slice0 a c=>intro v' h;simp only[qCj,qz1] at h;subst h;exact .slice0 a c
 | gptr g o=>intro v' h;simp only[qCj,qz1] at h;subst h;exact .gptr g o
 | any v=>intro v' h;simp only[qCj,qz1] at h;subst h;exact .any v
def qZP (ids:List Nat):List (AV×AV×Nat)→Option (List (AV×AV×Nat))
 | []=>some []
 | (k,v,b)::es =>
  match qCj ids k with
  | some k'=>match qCj ids v with
   | some v'=>match qZP ids es with | some l=>some ((k',v',b)::l) | none=>none
   | none=>none
  | none=>none
theorem qND {ids:List Nat}:∀{l l':List (AV×AV×Nat)},qZP ids l=some l'→l'.length=l.length∧∀(i:Nat) y,l'[i]? = some y→∃x,l[i]? = some x∧qCj ids x.1=some y.1∧qCj ids x.2.1=some y.2.1∧x.2.2=y.2.2
 | [],l',h=>by
  simp only[qZP,qz1] at h;subst h;exact⟨rfl,fun i v' h=>by simp at h⟩
 | (k,v,b)::xs,l',h=>by
  simp only[qZP] at h
  split at h
  ·rename_i k' hk
   split at h
   ·rename_i v' hv
    split at h
    ·rename_i l hl;simp only[qz1] at h;subst h;obtain⟨h1,h2⟩:=qND hl;refine⟨by simp[h1],fun i y hy=>?_⟩;cases i with
     | zero=>simp at hy;subst hy;exact⟨_,rfl,hk,hv,rfl⟩
     | succ i=>simp at hy;obtain⟨x,h3,h4⟩:=h2 i y hy;exact⟨x,by simpa using h3,h4⟩
    ·simp at h
   ·simp at h
  ·simp at h
def q0g (ids:List Nat):List AV→Bool
 | []=>true
 | v::vs=>bif (match qCj ids v with | some _=>true | none=>false) then q0g ids vs else false
def renT (ids:List Nat) (v:AV):AV:=match qCj ids v with | some v'=>v' | none=>.tuple []
def q0w (ids:List Nat):List AV→List AV
 | []=>[]
 | v::vs=>renT ids v::q0w ids vs
theorem qRs {ids:List Nat}:∀{l:List AV},q0g ids l=true→qFW ids l=some (q0w ids l)
 | [],_=>rfl
 | v::vs,h=>by
  unfold q0g at h;cases hv:qCj ids v with
  | none=>rw[hv] at h;cases h
  | some v' =>
   rw[hv] at h;simp only[cond_true] at h;simp only[qFW,hv,qRs h,q0w,renT]
def qJa (ids:List Nat):AO→Option AO
 | .cells cs rw=>bif q0g ids cs then some (.cells (q0w ids cs) rw) else none
 | .map es c=>match qZP ids es with | some l=>some (.map l c) | none=>none
 | _=>none
theorem OR.ren {ids:List Nat} {ι:Ren} {L:Loc} {a a':AO} {o:Obj} (h:OR ι L a o) (hr:qJa ids a=some a'):OR (qJ9 ids ι) L a' o∧a'.own=a.own∧a≠.dead:=by
 cases a with
 | cells cs rw =>
  simp only[qJa] at hr;cases ha:q0g ids cs with
  | true =>
   rw[ha,cond_true] at hr;have hl:=qRs ha;simp only[qz1] at hr;subst hr;obtain⟨h1,h2⟩:=qDE hl;obtain⟨c,e,lo,hi,q1,q2,q3,q4,q5,q6⟩:=h;refine⟨⟨c,e,lo,hi,q1,q2,by rw[h1];exact q3,fun v hv=>?_,fun k v v' hv hv'=>?_,q6⟩,rfl,by simp⟩
   ·obtain⟨i,hi,e⟩:=List.getElem_of_mem hv;obtain⟨z,h3,h4⟩:=h2 i v (by simp[hi,e]);exact qH8 h4 (q4 z (List.mem_of_getElem? h3))
   ·obtain⟨z,h3,h4⟩:=h2 k v hv;exact (q5 k z v' h3 hv').ren v h4
  | false=>rw[ha] at hr;cases hr
 | map es c =>
  simp only[qJa] at hr
  split at hr
  ·rename_i l hl;simp only[qz1] at hr;subst hr;obtain⟨h1,h2⟩:=qND hl;obtain⟨es',q1,q2,q3⟩:=h;refine⟨⟨es',q1,h1.trans q2,fun i x e hx he=>?_⟩,rfl,by simp⟩;obtain⟨z,h3,h4,h5,h6⟩:=h2 i x hx;obtain⟨k1,k2,k3⟩:=q3 i z e h3 he;exact⟨k1.ren _ h4,k2.ren _ h5,h6▸k3⟩
  ·simp at hr
 | _=>simp[qJa] at hr
def gcL (ids:List Nat) (h:T AO):List Nat→Nat→T AO→T AO
 | [],_,t=>t
 | i::is,k,t=>match h.get i with | some a=>(match qJa ids a with | some a'=>gcL ids h is (k+1) (t.set D k a') | none=>gcL ids h is (k+1) t) | none=>gcL ids h is (k+1) t
def gcS (ids:List Nat) (st:ASt):ASt:={h:=gcL ids st.h ids 0 .e,next:=ids.length}
def gcF (kf ids:List Nat) (fr:AFr):AFr:={m:=(List.range fr.n).foldl (fun t k=>t.set 11 k (bif qCY k kf then (match qCj ids ((fr.m.get k).getD qAC) with | some v=>v | none=>.any) else .any)) .e,n:=fr.n,defs:=[]}
theorem qKE {ids:List Nat} {h:T AO}:∀(is:List Nat) (k:Nat) (t:T AO),(∀j a,t.get j=some a→∃i x,ids[j]? = some i∧h.get i=some x∧qJa ids x=some a)→(∀j i,is[j]? = some i→ids[k+j]? = some i) →
  ∀j a,(gcL ids h is k t).get j=some a→∃i x,ids[j]? = some i∧h.get i=some x∧qJa ids x=some a
 | [],k,t,ht,_,j,a,hj=>ht j a hj
 | i::is,k,t,ht,hk,j,a,hj=>by
  have hk':∀j i,is[j]? = some i→ids[k+1+j]? = some i:=fun j i' h=>by have:=hk (j+1) i' (by simpa using h);rw[←this];congr 1;omega
  unfold gcL at hj
  split at hj
  ·rename_i x hx
   split at hj
   ·rename_i a' ha;refine qKE is (k+1) _ (fun j b hb=>?_) hk' j a hj;rw[T.get_set] at hb
    by_cases e:j=k
    ·subst e;simp at hb;subst hb;exact⟨i,x,by have:=hk 0 i (by simp);simpa using this,hx,ha⟩
    ·simp only[e,if_false] at hb;exact ht j b hb
   ·exact qKE is (k+1) _ ht hk' j a hj
  ·exact qKE is (k+1) _ ht hk' j a hj
def qMB:List Nat→Bool
 | []=>true
 | x::xs=>bif qCY x xs then false else qMB xs
theorem qJh:∀{xs:List Nat},qMB xs=true→∀{i j:Nat} {x:Nat},xs[i]? = some x→xs[j]? = some x→i=j
 | [],_,i,j,x,h,_=>by simp at h
 | y::ys,hn,i,j,x,hi,hj=>by
  unfold qMB at hn;cases hm:qCY y ys
  ·rw[hm,cond_false] at hn;have hne:∀k,ys[k]?≠some y:=fun k hk=>by
    have:y∈ys:=List.mem_of_getElem? hk;rw[qEb] at hm;simp[this] at hm
   cases i with
   | zero =>
    cases j with
    | zero=>rfl
    | succ j=>simp at hi hj;subst hi;exact absurd hj (hne j)
   | succ i =>
    cases j with
    | zero=>simp at hi hj;subst hj;exact absurd hi (hne i)
    | succ j=>simp at hi hj;rw[qJh hn hi hj]
  ·rw[hm] at hn;cases hn
theorem Wk.gc (kf ids:List Nat) (hn:qMB ids=true) (fr:AFr) (st:ASt) (hd:fr.defs=[]):Wk 0 fr st (gcF kf ids fr) (gcS ids st):=fun B w0 κ hb ι w a hk h1 h2=>by
 have hget:∀{j a},(gcS ids st).h.get j=some a→∃i x,ids[j]? = some i∧st.h.get i=some x∧qJa ids x=some a:=fun {j a} hj =>
  qKE ids 0 .e (fun j a h=>by rw[T.get_e] at h;cases h) (fun j i h=>by simpa using h) j a hj
 have hren:∀{j L},qJ9 ids ι j=some L→∃i,ids[j]? = some i∧ι i=some L:=fun {j L} h=>by
  unfold qJ9 at h;cases hi:ids[j]? with
  | none=>rw[hi] at h;cases h
  | some i=>rw[hi] at h;exact⟨i,rfl,h⟩
 refine⟨qJ9 ids ι,fun i L hi=>absurd (hb.dom i L hi) (Nat.not_lt_zero _),?_,⟨⟨h2.hf.1,fun t=>?_⟩,?_⟩⟩
 ·refine⟨h1.below,h1.base,fun j a hj hd=>?_,fun j a L hj ho hL=>?_,fun j L hL=>?_,fun j a hj=>?_,fun j a L hj hd ho hL=>?_,fun i hi=>absurd hi (hb.rs i),h1.glob⟩
  ·obtain⟨i,x,g1,g2,g3⟩:=hget hj;have hx:x≠.dead:=by intro e;subst e;simp[qJa] at g3
   obtain⟨L,o,k1,k2,k3⟩:=h1.obj i x g2 hx;exact⟨L,o,by simp only[qJ9,g1,k1],k2,(k3.ren g3).1⟩
  ·obtain⟨i,x,g1,g2,g3⟩:=hget hj;obtain⟨i',g1',hL'⟩:=hren hL;rw[g1] at g1';cases g1';have hx:x≠.dead:=by intro e;subst e;simp[qJa] at g3
   obtain⟨L0,o,k1,k2,k3⟩:=h1.obj i x g2 hx;rw[hL'] at k1;cases k1;have hox:x.own=true:=by rw[←(k3.ren g3).2.1];exact ho
   obtain⟨m1,m2⟩:=h1.own i x L g2 hox hL';refine⟨m1,fun j' a' L' hj' hd' hL'' hbb=>?_⟩;obtain⟨i2,x2,p1,p2,p3⟩:=hget hj';obtain⟨i2',p1',hL2⟩:=hren hL'';rw[p1] at p1';cases p1';have hx2:x2≠.dead:=by intro e;subst e;simp[qJa] at p3
   have:=m2 i2 x2 L' p2 hx2 hL2 hbb;subst this;exact qJh hn p1 g1
  ·obtain⟨i,g1,_⟩:=hren hL;exact (List.getElem?_eq_some_iff.1 g1).1
  ·obtain⟨i,x,g1,_⟩:=hget hj;exact (List.getElem?_eq_some_iff.1 g1).1
  ·obtain⟨i,x,g1,g2,g3⟩:=hget hj;obtain⟨i',g1',hL'⟩:=hren hL;rw[g1] at g1';cases g1';have hx:x≠.dead:=by intro e;subst e;simp[qJa] at g3
   obtain⟨L0,o,k1,k2,k3⟩:=h1.obj i x g2 hx;exact h1.ro i x L g2 hx (by rw[←(k3.ren g3).2.1];exact ho) hL'
 ·have key:∀(n:Nat) (g:Nat→AV),(((List.range n).foldl (fun t k=>t.set 11 k (g k)) (.e:T AV)).get t)=if t<n then some (g t) else none:=by
   intro n g
   induction n with
   | zero=>simp[T.get_e]
   | succ n ih =>
    rw[List.range_succ,List.foldl_append];simp only[List.foldl_cons,List.foldl_nil,T.get_set,ih]
    by_cases h:t=n
    ·subst h;simp
    ·have:(t<n+1)=(t<n):=by apply propext;omega
     simp only[h,if_false,this]
  show VR _ (((gcF kf ids fr).m.get t).getD qAC) _;unfold gcF;simp only[key fr.n]
  by_cases ht:t<fr.n
  ·simp only[ht,if_true,Option.getD_some];cases qCY t kf
   ·exact .any _
   ·simp only[cond_true];cases hr:qCj ids ((fr.m.get t).getD qAC) with
    | none=>exact .any _
    | some v=>exact (h2.hf.2 t).ren v hr
  ·simp only[ht,if_false,Option.getD_none];have:a.tmps.getD t undef=undef:=by
    have:=h2.hf.1;simp[Array.getD];omega
   rw[this];exact .undef _
 ·have:=h2.hd;rw[hd] at this
  revert this;cases a.defers<;>exact id
def qTi:List AV→List AV→Bool
 | [],[]=>true
 | a::as,b::bs=>bif qCx a b then qTi as bs else false
 | _,_=>false
theorem qNk:∀{a b:List AV},qTi a b=true→a=b
 | [],[],_=>rfl
 | a::as,b::bs,h=>by
  unfold qTi at h;cases hb:qCx a b
  ·rw[hb] at h;cases h
  ·rw[hb,cond_true] at h;rw[qD6 _ _ hb,qNk h]
 | [],_::_,h=>by cases h
 | _::_,[],h=>by cases h
def aoB (a b:AO):Bool :=
 match a with
 | .cells cs rw=>match b with | .cells ds rw'=>bif qFP rw rw' then qTi cs ds else false | _=>false
 | a=>q0e a b
theorem q0f {a b:AO} (h:aoB a b=true):a=b:=by
 cases a with
 | cells cs rw =>
  cases b with
  | cells ds rw' =>
   simp only[aoB] at h;cases hb:qFP rw rw'
   ·rw[hb] at h;cases h
   ·rw[hb,cond_true] at h;rw[qIR hb,qNk h]
  | _=>cases h
 | _=>exact qRq h
def lkp:Nat→List (Nat×AV)→AV
 | _,[]=>.any
 | k,x::xs=>bif Nat.beq x.1 k then x.2 else lkp k xs
def xFr (l:List (Nat×AV)) (n:Nat):AFr:={m:=(List.range n).foldl (fun t k=>t.set 11 k (lkp k l)) .e,n:=n,defs:=[]}
theorem qV3 (l:List (Nat×AV)) (n t:Nat):((xFr l n).m.get t).getD qAC=if t<n then lkp t l else qAC:=by
 have key:∀(n:Nat) (g:Nat→AV),(((List.range n).foldl (fun t k=>t.set 11 k (g k)) (.e:T AV)).get t)=if t<n then some (g t) else none:=by
  intro n g
  induction n with
  | zero=>simp[T.get_e]
  | succ n ih =>
   rw[List.range_succ,List.foldl_append];simp only[List.foldl_cons,List.foldl_nil,T.get_set,ih]
   by_cases h:t=n
   ·subst h;simp
   ·have:(t<n+1)=(t<n):=by apply propext;omega
    simp only[h,if_false,this]
 unfold xFr;simp only[key n (fun k=>lkp k l)]
 by_cases h:t<n<;>simp[h]
def frC (ids:List Nat) (fr:AFr):List (Nat×AV)→Bool
 | []=>true
 | p::ps=>bif (match qCj ids ((fr.m.get p.1).getD qAC) with | some v=>qCx v p.2 | none=>false) then frC ids fr ps else false
theorem qVG {ids:List Nat} {fr:AFr}:∀{l:List (Nat×AV)},frC ids fr l=true→∀p,p∈l→qCj ids ((fr.m.get p.1).getD qAC)=some p.2
 | [],_,p,hp=>by cases hp
 | x::xs,h,p,hp=>by
  unfold frC at h;cases hv:qCj ids ((fr.m.get x.1).getD qAC) with
  | none=>rw[hv] at h;cases h
  | some v =>
   rw[hv] at h;simp only at h;cases hb:qCx v x.2
   ·rw[hb] at h;cases h
   ·rw[hb,cond_true] at h;rcases List.mem_cons.1 hp with e | hp
    ·subst e;rw[hv,qD6 _ _ hb]
    ·exact qVG h p hp
def stC (ids:List Nat) (st:ASt):List (Nat×AO)→Bool
 | []=>true
 | p::ps=>bif (match ids[p.1]? with | some i=>(match st.h.get i with | some x=>(match qJa ids x with | some a=>aoB a p.2 | none=>false) | none=>false) | none=>false) then stC ids st ps else false
theorem qU6 {ids:List Nat} {st:ASt}:∀{l:List (Nat×AO)},stC ids st l=true→∀p,p∈l→∃i x,ids[p.1]? = some i∧st.h.get i=some x∧qJa ids x=some p.2
 | [],_,p,hp=>by cases hp
 | x::xs,h,p,hp=>by
  unfold stC at h
  split at h
  ·rename_i i hi
   split at h
   ·rename_i y hy
    split at h
    ·rename_i a ha;cases hb:aoB a x.2
     ·rw[hb] at h;cases h
     ·rw[hb,cond_true] at h;rcases List.mem_cons.1 hp with e | hp
      ·subst e;exact⟨i,y,hi,hy,by rw[ha,q0f hb]⟩
      ·exact qU6 h p hp
    ·cases h
   ·cases h
  ·cases h
theorem qQe:∀{l:List (Nat×AV)} {t:Nat},lkp t l=.any∨∃p,p∈l∧p.1=t∧p.2=lkp t l
 | [],t=>.inl rfl
 | x::xs,t=>by
  unfold lkp;cases hb:Nat.beq x.1 t
  ·simp only[cond_false];rcases qQe (l:=xs) (t:=t) with h | ⟨p,h1,h2,h3⟩
   ·exact .inl h
   ·exact .inr ⟨p,List.mem_cons_of_mem _ h1,h2,h3⟩
  ·simp only[cond_true];exact .inr ⟨x,List.mem_cons_self,qEQ hb,rfl⟩
def preB:Nat→Nat→List Nat→Bool
 | 0,_,_=>true
 | _+1,_,[]=>false
 | n+1,i,x::xs=>bif Nat.beq x i then preB n (i+1) xs else false
theorem qQL:∀{n i:Nat} {xs:List Nat},preB n i xs=true→∀{j:Nat},j<n→xs[j]? = some (i+j)
 | 0,_,_,_,j,hj=>by omega
 | n+1,i,[],h,_,_=>by cases h
 | n+1,i,x::xs,h,j,hj=>by
  unfold preB at h;cases hb:Nat.beq x i
  ·rw[hb] at h;cases h
  ·rw[hb,cond_true] at h;have:=qEQ hb;subst this;cases j with
   | zero=>simp
   | succ j=>have:=qQL h (j:=j) (by omega);simp only[List.getElem?_cons_succ];rw[this];congr 1;omega
theorem Wk.held {kb:Nat} (ids:List Nat) (hp:preB kb 0 ids=true) (hn:qMB ids=true) (fr:AFr) (st:ASt) (hd:fr.defs=[]) (lf:List (Nat×AV)) (ls:List (Nat×AO)) (hf:frC ids fr lf=true) (hs:stC ids st ls=true) :
  Wk kb fr st (xFr lf fr.n) (mkSt ls ids.length):=fun B w0 κ hb ι w a hk h1 h2=>by
 have hget:∀{j a},(mkSt ls ids.length).h.get j=some a→∃i x,ids[j]? = some i∧st.h.get i=some x∧qJa ids x=some a:=fun {j a} hj=>by
  rcases qLF D ls .e j a hj with⟨p,p1,p2,p3⟩ | h
  ·subst p2;subst p3;exact qU6 hs p p1
  ·rw[T.get_e] at h;cases h
 have hren:∀{j L},qJ9 ids ι j=some L→∃i,ids[j]? = some i∧ι i=some L:=fun {j L} h=>by
  unfold qJ9 at h;cases hi:ids[j]? with
  | none=>rw[hi] at h;cases h
  | some i=>rw[hi] at h;exact⟨i,rfl,h⟩
 refine⟨qJ9 ids ι,fun i L hi=>by
  have h3:=qQL hp (hb.dom i L hi);rw[Nat.zero_add] at h3;simp only[qJ9,h3];exact hk i L hi,?_,⟨⟨h2.hf.1,fun t=>?_⟩,?_⟩⟩
 ·refine⟨h1.below,h1.base,fun j a hj hd=>?_,fun j a L hj ho hL=>?_,fun j L hL=>?_,fun j a hj=>?_,fun j a L hj hd ho hL=>?_,fun i hi=>absurd hi (hb.rs i),h1.glob⟩
  ·obtain⟨i,x,g1,g2,g3⟩:=hget hj;have hx:x≠.dead:=by intro e;subst e;simp[qJa] at g3
   obtain⟨L,o,k1,k2,k3⟩:=h1.obj i x g2 hx;exact⟨L,o,by simp only[qJ9,g1,k1],k2,(k3.ren g3).1⟩
  ·obtain⟨i,x,g1,g2,g3⟩:=hget hj;obtain⟨i',g1',hL'⟩:=hren hL;rw[g1] at g1';cases g1';have hx:x≠.dead:=by intro e;subst e;simp[qJa] at g3
   obtain⟨L0,o,k1,k2,k3⟩:=h1.obj i x g2 hx;rw[hL'] at k1;cases k1;have hox:x.own=true:=by rw[←(k3.ren g3).2.1];exact ho
   obtain⟨m1,m2⟩:=h1.own i x L g2 hox hL';refine⟨m1,fun j' a' L' hj' hd' hL'' hbb=>?_⟩;obtain⟨i2,x2,p1,p2,p3⟩:=hget hj';obtain⟨i2',p1',hL2⟩:=hren hL'';rw[p1] at p1';cases p1';have hx2:x2≠.dead:=by intro e;subst e;simp[qJa] at p3
   have:=m2 i2 x2 L' p2 hx2 hL2 hbb;subst this;exact qJh hn p1 g1
  ·obtain⟨i,g1,_⟩:=hren hL;exact (List.getElem?_eq_some_iff.1 g1).1
  ·obtain⟨i,x,g1,_⟩:=hget hj;exact (List.getElem?_eq_some_iff.1 g1).1
  ·obtain⟨i,x,g1,g2,g3⟩:=hget hj;obtain⟨i',g1',hL'⟩:=hren hL;rw[g1] at g1';cases g1';have hx:x≠.dead:=by intro e;subst e;simp[qJa] at g3
   obtain⟨L0,o,k1,k2,k3⟩:=h1.obj i x g2 hx;exact h1.ro i x L g2 hx (by rw[←(k3.ren g3).2.1];exact ho) hL'
 ·rw[qV3]
  by_cases ht:t<fr.n
  ·simp only[ht,if_true];rcases qQe (l:=lf) (t:=t) with e | ⟨p,p1,p2,p3⟩
   ·rw[e];exact .any _
   ·have:=qVG hf p p1;rw[p2,p3] at this;exact (h2.hf.2 t).ren _ this
  ·simp only[ht,if_false];have:a.tmps.getD t undef=undef:=by
    have:=h2.hf.1;simp[Array.getD];omega
   rw[this];exact .undef _
 ·have:=h2.hd;rw[hd] at this
  revert this;cases a.defers<;>exact id
def gcB (kb:Nat) (e:Exit) (ids:List Nat) (lf:List (Nat×AV)) (n:Nat) (ls:List (Nat×AO)) (nx:Nat):Option (Exit×AFr×ASt)→Bool
 | some (e',fr,st) =>
  bif qVO e' e then
   match fr.defs with
   | []=>bif qMB ids then bif Nat.beq fr.n n then bif Nat.beq ids.length nx then bif frC ids fr lf then bif preB kb 0 ids then stC ids st ls else false else false else false else false else false
   | _=>false
  else false
 | none=>false
theorem q0D {e:Exit} (h:qVO e .normal=true):e=.normal:=by cases e<;>first | rfl | cases h
theorem qZw {kb:Nat} {e:Exit} {ids:List Nat} {lf:List (Nat×AV)} {n nx:Nat} {ls:List (Nat×AO)} {q:Option (Exit×AFr×ASt)} (h:gcB kb e ids lf n ls nx q=true) :
  ∃e' fr st,q=some (e',fr,st)∧qVO e' e=true∧Wk kb fr st (xFr lf n) (mkSt ls nx):=by
 unfold gcB at h
 split at h
 rotate_left
 ·cases h
 rename_i e' fr st;cases h0:qVO e' e
 ·rw[h0] at h;cases h
 rw[h0,cond_true] at h
 split at h
 rotate_left
 ·cases h
 rename_i hd;cases h1:qMB ids
 ·rw[h1] at h;cases h
 cases h2:Nat.beq fr.n n
 ·rw[h1,h2] at h;cases h
 cases h3:Nat.beq ids.length nx
 ·rw[h1,h2,h3] at h;cases h
 cases h4:frC ids fr lf
 ·rw[h1,h2,h3,h4] at h;cases h
 cases h5:preB kb 0 ids
 ·rw[h1,h2,h3,h4,h5] at h;cases h
 rw[h1,h2,h3,h4,h5] at h;simp only[cond_true] at h;have:=qEQ h2;subst this;have:=qEQ h3;subst this;exact⟨e',fr,st,rfl,h0,Wk.held ids h5 h1 fr st hd lf ls h4 h⟩
theorem qXM {kb:Nat} {ids:List Nat} {lf:List (Nat×AV)} {n nx:Nat} {ls:List (Nat×AO)} {q:Option (Exit×AFr×ASt)} (h:gcB kb .normal ids lf n ls nx q=true) :
  ∃fr st,q=some (.normal,fr,st)∧Wk kb fr st (xFr lf n) (mkSt ls nx):=by
 obtain⟨e',fr,st,h1,h2,h3⟩:=qZw h;have:=q0D h2;subst this;exact⟨fr,st,h1,h3⟩
section
variable {P:Program} {E:Env} {sum:CallT} {n:Nat} {ro:Option Nat} {fr:AFr} {st:ASt} {Q:qz2}
end
def lastB (E:Env) (fn:Func):Option (Exit×AFr×ASt)→Bool
 | some (.ret,fr,st)=>isTrue (leaveA E fn fr st)
 | some (.normal,fr,st)=>isTrue (leaveA E fn fr st)
 | _=>false
section
variable {P:Program} {E:Env} {sum:CallT} {n:Nat} {ro:Option Nat} {fr:AFr} {st:ASt}
theorem Trip.lastB (hE:E.Ok P) (hs:CallsOK P sum) {x:Code} {fn:Func} (h:lastB E fn ((M E (drawA E) sum n).ex ro x fr st)=true) :
  Trip P 0 ro x fr st fun r=>(r.1=.normal∨r.1=.ret)∧isTrue (leaveA E fn r.2.1 r.2.2)=true:=by
 cases hq:(M E (drawA E) sum n).ex ro x fr st with
 | none=>rw[hq] at h;cases h
 | some r =>
  rw[hq] at h;obtain⟨e,fr1,st1⟩:=r;refine Trip.exec hE hs hq ?_;cases e with
  | ret=>exact⟨.inr rfl,h⟩
  | normal=>exact⟨.inl rfl,h⟩
  | _=>cases h
end
def rl:List (Nat×AV)→List AV
 | []=>[]
 | x::xs=>qGO [x.2] x.1++rl xs
theorem qYp {P:Program} {E:Env} (hE:E.Ok P) {f:Nat} {fn:Func} {c:Code} (hfn:E.fn.get f=some fn) (hc:fn.body=some c)
  (h:Trip P 0 none c {m:=.e,n:=fn.ntmps,defs:=[]} st0 fun r=>(r.1=.normal∨r.1=.ret)∧isTrue (leaveA E fn r.2.1 r.2.2)=true) (w:World) (hgl:qGG w:=by intro _ _ h;cases h) :
  Calls P f #[] w fun e w'=>e=.returned (.bool true)∧Below w.heap.size w w':=by
 have:=(Trip.call hE hfn hc (args:=[]) (st:=st0) (by cases fn.ntmps<;>rfl) (R:=fun v=>isTrue (some v)=true) (h.mono fun r ⟨h1,h2⟩=>⟨h1,by
  cases hl:leaveA E fn r.2.1 r.2.2 with
  | none=>rw[hl] at h2;cases h2
  | some v=>rw[hl] at h2;exact⟨v,rfl,h2⟩⟩) (Old w) (fun _ h=>h) w (fun _=>none) w #[] (qMr w hgl) ⟨rfl,fun i v v' h=>by simp at h⟩).2
 rw[callsIn_wide] at this;refine this.mono ?_;rintro e w' ⟨⟨v,st⟩,hv,x,ι',rfl,_,h2,h3⟩;cases v with
 | bool b =>
  simp only[isTrue] at hv;subst hv;simp only at h3;cases h3;exact⟨rfl,h2.below.os,h2.below.tape,h2.below.output,h2.below.size,fun k hk=>h2.below.block k (.inr hk)⟩
 | _=>cases hv
theorem trip_memo {P:Program} {E:Env} (hE:E.Ok P) {f:Nat} {fn:Func} {c:Code} (hfn:E.fn.get f=some fn) (hc:fn.body=some c) (henter:∀args w,(callFunc f args).run P w=.ok (.enter f args) w)
  (h:Trip P 0 none c {m:=.e,n:=fn.ntmps,defs:=[]} st0 fun r=>(r.1=.normal∨r.1=.ret)∧isTrue (leaveA E fn r.2.1 r.2.2)=true):MemoOK P ⟨f,[],.bool true⟩:=by
 refine⟨henter,rfl,rfl,fun w args' hgl hv=>?_⟩;have:=(Trip.call hE hfn hc (args:=[]) (st:=st0) (by cases fn.ntmps<;>rfl) (R:=fun v=>isTrue (some v)=true) (h.mono fun r ⟨h1,h2⟩=>⟨h1,by
  cases hl:leaveA E fn r.2.1 r.2.2 with
  | none=>rw[hl] at h2;cases h2
  | some v=>rw[hl] at h2;exact⟨v,rfl,h2⟩⟩) (Old w) (fun _ h=>h) w (fun _=>none) w args' (qMr w hgl) hv).2
 refine this.mono ?_;rintro e w' ⟨⟨v,st⟩,hv,x,ι',rfl,_,h2,h3⟩;cases v with
 | bool b =>
  simp only[isTrue] at hv;subst hv;simp only at h3;cases h3;exact⟨_,rfl,.bool true,h2.below.os,h2.below.tape,h2.below.output,h2.below.size,fun k hk=>h2.below.block k (.inr hk)⟩
 | _=>cases hv
end
end Go.Ax
namespace Go.Ax
noncomputable section
open Go.RowKit
section
variable {P:Program} {E:Env} {sum:CallT} {n kb:Nat} {ro:Option Nat} {fr:AFr} {st:ASt} {Q:qz2} {ops:Array Oper}
end
section
variable {P:Program} {E:Env} {sum:CallT} {n:Nat} {ro:Option Nat} {fr:AFr} {st:ASt} {Q:qz2} {ops:Array Oper}
end
section
variable {P:Program} {E:Env} {sum:CallT} {n N nx kb:Nat} {ro:Option Nat} {fr:AFr} {st:ASt} {Q:qz2} {ops:Array Oper} {lf:List (Nat×AV)} {ls:List (Nat×AO)}
theorem Trip.seqB (hE:E.Ok P) (hs:CallsOK P sum) {x y:Code} (ids:List Nat) (h:gcB kb .normal ids lf N ls nx ((M E (drawA E) sum n).ex ro x fr st)=true) (hy:Trip P kb ro y (xFr lf N) (mkSt ls nx) Q):Trip P kb ro (.seq x y) fr st Q:=by
 obtain⟨fr1,st1,h1,h2⟩:=qXM h;refine Trip.seq (R:=fun r=>r=(.normal,fr1,st1)) (Trip.exec hE hs h1 rfl) (fun fr' st' hr=>?_) (fun e fr' st' hne hr=>by cases hr;exact absurd rfl hne);cases hr;exact Trip.less h2 hy
end
end
end Go.Ax
end
section
namespace Go.Ax
noncomputable section
open Go.RowKit
theorem qTp (ι κ:Ren):(qIx 0 ι).le κ:=fun i L h=>by simp[qIx] at h
theorem VR.noRef {ι κ:Ren} {v:AV} {x:Value} (h:VR ι v x) (hr:qAP 0 v):VR κ v x:=(h.cut hr).mono (qTp ι κ)
section
variable {P:Program} {kb:Nat} {fr:AFr} {st:ASt} {Q:qz2}
end
def qDR (E:Env) (t:TypeId):Option Nat :=
 match E.ty.get t with
 | some ti=>(match ti.desc with | .slice e=>(match E.ty.get e with | some ei=>some ei.size | none=>none) | _=>none)
 | none=>none
def qLO (E:Env) (t:TypeId):Bool:=match E.ty.get t with | some ti=>!qC0 ti.desc | none=>false
def q0h (E:Env) (t:TypeId):Option Nat:=match E.ty.get t with | some ti=>(bif qC0 ti.desc then some ti.size else none) | none=>none
theorem qFa {a b:Nat} (h:a<b):Nat.blt a b=true:=by rw[Nat.blt_eq];exact h
theorem qEC {a b:Nat} (h:a≤b):Nat.ble a b=true:=by rw[Nat.ble_eq];exact h
theorem qTx {a b:Nat} (h:b<a):Nat.ble a b=false:=by cases e:Nat.ble a b with | false=>rfl | true=>rw[Nat.ble_eq] at e;omega
theorem qO6 {a b:Nat} (h:a≠b):Nat.beq a b=false:=by cases e:Nat.beq a b with | false=>rfl | true=>exact absurd (qEQ e) h
theorem q3B {a b:Nat} (h:a=b):Nat.beq a b=true:=by subst h;exact Nat.beq_refl a
theorem qLA {E:Env} {t:TypeId} {z i o n k:Nat} {c:Cap} {kd:IntKind} (hT:qDR E t=some z) (hk:k<n) :
  qA4 E t (.slice (some (i,o)) n c) (.int kd (.ofNat k))=some (.ptr (some (i,o+k*z))):=by
 unfold qDR at hT;unfold qA4
 split at hT
 ·rename_i ti hti
  split at hT
  ·rename_i e he
   split at hT
   ·rename_i ei hei;simp only[qz1] at hT;simp only[hti,he,hei,qFa hk,cond_true,hT]
   ·cases hT
  ·cases hT
 ·cases hT
theorem qAZ {E:Env} {t:TypeId} {i o:Nat} {cs:List AV} {rw:Bool} {v:AV} {st:ASt} (hT:qLO E t=true) (hi:st.h.get i=some (.cells cs rw)) (hv:cs[o]? = some v) :
  qAQ E t (.ptr (some (i,o))) st=some (v,st):=by
 unfold qLO at hT;unfold qAQ;simp only[hi]
 split at hT
 ·rename_i ti hti;have:qC0 ti.desc=false:=by simpa using hT
  simp only[hti,this,cond_false,hv]
 ·cases hT
theorem qAp {E:Env} {t:TypeId} {i o z:Nat} {cs l:List AV} {rw:Bool} {st:ASt} (hT:q0h E t=some z) (hi:st.h.get i=some (.cells cs rw)) (hv:qAy cs o z=some l) :
  qAQ E t (.ptr (some (i,o))) st=some (.agg l,st):=by
 unfold q0h at hT;unfold qAQ;simp only[hi]
 split at hT
 ·rename_i ti hti;cases hb:qC0 ti.desc
  ·rw[hb] at hT;cases hT
  ·rw[hb,cond_true,qz1] at hT;simp only[hti,hb,cond_true,hT,hv]
 ·cases hT
def qSZ (E:Env) (sT xT:TypeId):Option (Nat×Nat) :=
 match E.ty.get sT with
 | none=>none
 | some ti =>
  match E.ty.get xT with
  | none=>none
  | some tx =>
   bif qGq tx.desc then none else
   match ti.desc with
   | .slice e =>
    match E.ty.get e with
    | none=>none
    | some ei =>
     match ei.zero with
     | none=>none
     | some z =>
      match z with
      | .tuple _=>none
      | .any=>none
      | z=>bif Nat.beq (cellsOf z).length ei.size then some (ei.size,ei.bytes) else none
   | _=>none
theorem qFD {E:Env} {sT xT:TypeId} {z b n:Nat} {s x:AV} {st:ASt} {new:List AV} (hT:qSZ E sT xT=some (z,b)) (hn:qL7 x=some n) (hf:qAw st z n x=some new) :
  ∃ei:TI,ei.size=z∧ei.bytes=b∧qAU E .append [sT,xT] [s,x] st=qBT ei st s n new:=by
 show ∃ei:TI,ei.size=z∧ei.bytes=b∧qEr E sT xT s x st=qBT ei st s n new;unfold qSZ at hT;unfold qEr
 split at hT
 ·cases hT
 rename_i ti hti
 split at hT
 ·cases hT
 rename_i tx htx;cases hi:qGq tx.desc
 rotate_left
 ·rw[hi] at hT;cases hT
 rw[hi,cond_false] at hT
 split at hT
 rotate_left
 ·cases hT
 rename_i e he
 split at hT
 ·cases hT
 rename_i ei hei
 split at hT
 ·cases hT
 rename_i zv hz;have key:∀q:AV,ei.zero=some q→(bif Nat.beq (cellsOf q).length ei.size then some (ei.size,ei.bytes) else none)=some (z,b)→(match q with | .tuple _=>False | .any=>False | _=>True) →
   ∃ei':TI,ei'.size=z∧ei'.bytes=b∧qEr E sT xT s x st=qBT ei' st s n new:=fun q hq hb hnt=>by
  cases hc:Nat.beq (cellsOf q).length ei.size
  ·rw[hc] at hb;cases hb
  rw[hc,cond_true,qz1,Prod.mk.injEq] at hb;refine⟨ei,hb.1,hb.2,?_⟩;unfold qEr;simp only[hti,htx,hi,cond_false,he,hei,hq];rw[←hb.1] at hf;cases q<;>simp only[hc,cond_true,hn,hf]<;>first | rfl | exact hnt.elim
 unfold qEr at key;cases zv<;>simp only[reduceCtorEq] at hT<;>first | exact key _ hz hT trivial | skip
theorem qLU {ei:TI} {st:ASt} {n:Nat} {new:List AV} (h0:0<n) (hb:(2*n+200)*ei.bytes≤281474976710656) (hn:n<4611686018427387904) :
  qBT ei st (.slice none 0 (.known 0)) n new=some (.slice (some (st.next,0)) n (.rest ei.size),st.add (.cells new true)):=by
 simp only[qBT,qO6 (show n≠0 by omega),qEC hb,qFa hn,cond_true,cond_false]
theorem qKP {ei:TI} {st:ASt} {n k o:Nat} {new:List AV} {cs:List AV} {rw:Bool} (hk:st.h.get k=some (.cells cs rw)) (h0:0<n) (hb:(2*n+200)*ei.bytes≤281474976710656) (hn:n<4611686018427387904) :
  qBT ei st (.slice (some (k,o)) 0 (.known 0)) n new=some (.slice (some (st.next,0)) n (.rest ei.size),st.add (.cells new true)):=by
 have h1:qAy cs o (0*ei.size)=some []:=by simp[qAy]
 simp only[qBT,Nat.zero_add,qTx (show 0<n from h0),qEC hb,qFa hn,cond_true,cond_false,qAw,hk,h1,List.nil_append]
theorem qKQ {ei:TI} {st:ASt} {n l i:Nat} {new cs:List AV} (hi:st.h.get i=some (.cells cs true)) (hl:cs.length=l*ei.size) (hz:0<ei.size) (h0:0<n) (hb:(2*(l+n)+200)*ei.bytes≤281474976710656) (hn:l+n<4611686018427387904) :
  qBT ei st (.slice (some (i,0)) l (.rest ei.size)) n new=some (.slice (some (st.next,0)) (l+n) (.rest ei.size),(st.put i .dead).add (.cells (cs++new) true)):=by
 have h1:qAy cs 0 (l*ei.size)=some cs:=by
  unfold qAy;simp only[List.drop_zero,←hl,List.take_length,q3B,cond_true]
 have h2:qII st i (0+(l+n)*ei.size) ei.size=false:=by
  unfold qII;simp only[hi];rw[qTx]
  ·rfl
  ·rw[hl,Nat.zero_add];exact Nat.mul_lt_mul_of_pos_right (by omega) hz
 simp only[qBT,qO6 (show n≠0 by omega),cond_false,Nat.beq_refl,cond_true,h2,qEC hb,qFa hn,hi,h1]
theorem qGA {E:Env} {sT xT:TypeId} {z b n:Nat} {x:AV} {st:ASt} {new:List AV} (hT:qSZ E sT xT=some (z,b)) (hn:qL7 x=some n) (hf:qAw st z n x=some new)
  (h0:0<n) (hb:(2*n+200)*b≤281474976710656) (hn2:n<4611686018427387904) :
  qAU E .append [sT,xT] [.slice none 0 (.known 0),x] st=some (.slice (some (st.next,0)) n (.rest z),st.add (.cells new true)):=by
 obtain⟨ei,rfl,rfl,h⟩:=qFD (s:=.slice none 0 (.known 0)) hT hn hf;rw[h,qLU h0 hb hn2]
theorem qD7 {E:Env} {sT xT:TypeId} {z b n k o:Nat} {x:AV} {st:ASt} {new cs:List AV} {rw:Bool} (hT:qSZ E sT xT=some (z,b)) (hn:qL7 x=some n) (hf:qAw st z n x=some new) (hk:st.h.get k=some (.cells cs rw))
  (h0:0<n) (hb:(2*n+200)*b≤281474976710656) (hn2:n<4611686018427387904) :
  qAU E .append [sT,xT] [.slice (some (k,o)) 0 (.known 0),x] st=some (.slice (some (st.next,0)) n (.rest z),st.add (.cells new true)):=by
 obtain⟨ei,rfl,rfl,h⟩:=qFD (s:=.slice (some (k,o)) 0 (.known 0)) hT hn hf;rw[h,qKP hk h0 hb hn2]
theorem qFQ {E:Env} {sT xT:TypeId} {z b n l i:Nat} {x:AV} {st:ASt} {new cs:List AV} (hT:qSZ E sT xT=some (z,b)) (hn:qL7 x=some n) (hf:qAw st z n x=some new) (hi:st.h.get i=some (.cells cs true))
  (hl:cs.length=l*z) (hz:0<z) (h0:0<n) (hb:(2*(l+n)+200)*b≤281474976710656) (hn2:l+n<4611686018427387904) :
  qAU E .append [sT,xT] [.slice (some (i,0)) l (.rest z),x] st=some (.slice (some (st.next,0)) (l+n) (.rest z),(st.put i .dead).add (.cells (cs++new) true)):=by
 obtain⟨ei,rfl,rfl,h⟩:=qFD (s:=.slice (some (i,0)) l (.rest z)) hT hn hf;rw[h,qKQ hi hl hz h0 hb hn2]
theorem qCv {st:ASt} {z n i o:Nat} {c:Cap} {cs l:List AV} {rw:Bool} (hi:st.h.get i=some (.cells cs rw)) (hl:qAy cs o (n*z)=some l):qAw st z n (.slice (some (i,o)) n c)=some l:=by
 simp only[qAw,hi,hl]
section
variable {α:Type} {enc:α→List AV} {z:Nat}
theorem qIt (hz:∀x,(enc x).length=z):∀(l:List α),(l.flatMap enc).length=l.length*z
 | []=>by simp
 | x::l=>by simp only[List.flatMap_cons,List.length_append,qIt hz l,hz,List.length_cons];rw[Nat.add_mul,Nat.one_mul,Nat.add_comm]
theorem qMX (hz:∀x,(enc x).length=z):∀(l:List α) (a:Nat),(l.flatMap enc).drop (a*z)=(l.drop a).flatMap enc
 | l,0=>by simp
 | [],a+1=>by simp
 | x::l,a+1=>by
  rw[List.flatMap_cons,List.drop_succ_cons,←qMX hz l a,Nat.add_mul,Nat.one_mul,Nat.add_comm,←List.drop_drop]
  congr 1
  rw[←hz x];simp
theorem qRQ (hz:∀x,(enc x).length=z):∀(l:List α) (a:Nat),(l.flatMap enc).take (a*z)=(l.take a).flatMap enc
 | l,0=>by simp
 | [],a+1=>by simp
 | x::l,a+1=>by
  rw[List.flatMap_cons,List.take_succ_cons,List.flatMap_cons,←qRQ hz l a,Nat.add_mul,Nat.one_mul,Nat.add_comm,List.take_append,hz x];rw[List.take_of_length_le (by rw[hz x];omega)]
  congr 2
  omega
theorem qNd (hz:∀x,(enc x).length=z) {l:List α} {a n:Nat} (h:a+n≤l.length):qAy (l.flatMap enc) (a*z) (n*z)=some (((l.drop a).take n).flatMap enc):=by
 unfold qAy;simp only[qMX hz,qRQ hz,qIt hz,List.length_take,List.length_drop];rw[show min n (l.length - a)=n by omega];simp
theorem qZy (hz:∀x,(enc x).length=z) {l:List α}:qAy (l.flatMap enc) 0 (l.length*z)=some (l.flatMap enc):=by
 have:=qNd (l:=l) (a:=0) (n:=l.length) hz (by omega);simpa using this
theorem qZx (hz:∀x,(enc x).length=z) {l:List α} {k:Nat} {x:α} (h:l[k]? = some x):qAy (l.flatMap enc) (k*z) z=some (enc x):=by
 have hk:k<l.length:=(List.getElem?_eq_some_iff.1 h).1;have:=qNd (l:=l) (a:=k) (n:=1) hz (by omega);rw[Nat.one_mul] at this;rw[this];have e:(l.drop k).take 1=[x]:=by
  apply List.ext_getElem?;intro j;cases j with
  | zero=>simp[h]
  | succ j=>simp;omega
 rw[e];simp
theorem qRR (hz:∀x,(enc x).length=z) {l:List α} {k r:Nat} {x:α} {v:AV} (h:l[k]? = some x) (hr:(enc x)[r]? = some v):(l.flatMap enc)[k*z+r]? = some v:=by
 have hrz:r<z:=by rw[←hz x];exact (List.getElem?_eq_some_iff.1 hr).1
 have h2:((l.flatMap enc).drop (k*z))[r]? = some v:=by
  rw[qMX hz];have hk:k<l.length:=(List.getElem?_eq_some_iff.1 h).1;have e:l.drop k=x::l.drop (k+1):=by
   rw[List.drop_eq_getElem_cons hk];rw[List.getElem?_eq_getElem hk] at h;simp only[qz1] at h;rw[h]
  rw[e,List.flatMap_cons,List.getElem?_append_left (by rw[hz x];exact hrz)];exact hr
 rw[←h2];simp
end
def qL5:Nat→Code→Code
 | k+1,.seq a b=>.seq a (qL5 k b)
 | 0,.seq a _=>a
 | _,c=>c
def qAg:Nat→Code→Code
 | k+1,.seq _ b=>qAg k b
 | 0,.seq _ b=>b
 | _,_=>.skip
def qY5:Nat→Code→Bool
 | k+1,.seq _ b=>qY5 k b
 | 0,.seq _ _=>true
 | _,_=>false
section
variable {P:Program} {kb:Nat} {ro:Option Nat} {Q:qz2} {E:Env} {sum:CallT}
theorem Trip.preX (hE:E.Ok P) (hs:CallsOK P sum):∀(k:Nat) (c:Code) (n:Nat) (fr:AFr) (st:ASt) (r:Exit×AFr×ASt),qY5 k c=true→(M E (drawA E) sum n).ex ro (qL5 k c) fr st=some r →
  (r.1=.normal→Trip P kb ro (qAg k c) r.2.1 r.2.2 Q)→(r.1≠.normal→Q r)→Trip P kb ro c fr st Q
 | 0,c,n,fr,st,r,hc,h,hn,he=>by
  cases c<;>simp only[qY5,Bool.false_eq_true] at hc;rename_i a b;refine Trip.seq (R:=fun q=>q=r) (Trip.exec hE hs h rfl) (fun fr' st' hr=>?_) (fun e fr' st' hne hr=>?_)
  ·subst hr;exact hn rfl
  ·subst hr;exact he hne
 | k+1,c,n,fr,st,r,hc,h,hn,he=>by
  cases c<;>simp only[qY5,Bool.false_eq_true] at hc;rename_i a b;cases n with
  | zero=>cases h
  | succ n =>
   have h2:(match (M E (drawA E) sum n).ex ro a fr st with | some (.normal,fr',st')=>(M E (drawA E) sum n).ex ro (qL5 k b) fr' st' | r=>r)=some r:=h;cases hx:(M E (drawA E) sum n).ex ro a fr st with
   | none=>rw[hx] at h2;cases h2
   | some q =>
    obtain⟨e,fr1,st1⟩:=q;rw[hx] at h2;refine Trip.seq (R:=fun q=>q=(e,fr1,st1)) (Trip.exec hE hs hx rfl) (fun fr' st' hr=>?_) (fun e' fr' st' hne hr=>?_)
    ·cases hr;exact Trip.preX hE hs k b n fr1 st1 r hc h2 hn he
    ·cases hr;have:r=(e,fr1,st1):=by cases e<;>simp_all
     subst this;exact he hne
def qD8 (kb:Nat) (e:Exit) (F:AFr) (S:ASt) (r:Exit×AFr×ASt):Prop:=r.1=e∧Wk kb r.2.1 r.2.2 F S
theorem qD8.can {e:Exit} {F:AFr} {S:ASt} {kf ko:List Nat} {r:Exit×AFr×ASt} (h:qD8 kb e F S (qY7 kf ko r)):qD8 kb e F S r:=⟨h.1,Wk.trans (Wk.can kb kf ko r.2.1 r.2.2) h.2⟩
theorem Trip.preY (hE:E.Ok P) (hs:CallsOK P sum) {k:Nat} {c:Code} {n:Nat} {fls:List (Nat×Fl)} {rf fl:Fl} {fr:AFr} {st:ASt} {y:An} {kf ko:List Nat} (hc:qY5 k c=true)
  {Q1:qz2} (h:((TM E sum fls rf n).ex fl ro (qL5 k c) fr st).allY (fun r=>Q1 (qY7 kf ko r)) y)
  (hn:∀F S,Q1 (.normal,F,S)→Trip P kb ro (qAg k c) F S Q) (he:∀r,r.1≠.normal→Q1 (qY7 kf ko r)→Q r):Trip P kb ro c fr st Q:=by
 obtain⟨r,h1,h2⟩:=qSO (Tr.allY_all _ y h);refine Trip.preX hE hs k c n fr st r hc h1 (fun hr=>?_) (fun hr=>he r hr h2);obtain⟨e,fr',st'⟩:=r;simp only at hr;subst hr;exact Trip.less (Wk.can kb kf ko fr' st') (hn _ _ h2)
end
theorem qDc {E:Env} {t:TypeId} {z i o n k:Nat} {c:Cap} {kd:IntKind} {st:ASt} (hT:qDR E t=some z) (hk:k<n) :
 still st (qA4 E t (.slice (some (i,o)) n c) (.int kd (.ofNat k)))=some (.ptr (some (i,o+k*z)),st):=by rw[qLA hT hk];rfl
theorem qBN (a b:Nat):ltF (.ofNat a) (.ofNat b)=decide (a<b):=qWo a b
theorem qKZ {i:Nat} (h:i<4611686018427387904):qAH .i64 (.ofNat i+.ofNat 1)=.ofNat (i+1):=by
 have:(Int.ofNat i+Int.ofNat 1)=Int.ofNat (i+1):=rfl;rw[this];exact qBW (by omega)
theorem q0F {a b:Int} (h:eqF a b=true):a=b:=by rw[qCG] at h;simpa using h
theorem q0G {a b:Int} (h:eqF a b=false):a≠b:=by rw[qCG] at h;simpa using h
theorem qZ9 {a b:Int} (h:(!eqF a b)=true):a≠b:=q0G (by simpa using h)
def qL1 (W:World) (b off:Nat) (cs:List AV):Prop:=∀(k:Nat) v,cs[k]? = some v→v.isCell=true∧∃v',W.cell? ⟨b,off+k,none⟩=some v'∧∀ι,VR ι v v'
def qPx (W:World) (r:Nat×Nat×List AV):Option Loc :=
 match W.heap[r.1]? with
 | some (.cells c _ _)=>some ⟨r.1,r.2.1,c.size⟩
 | _=>none
theorem qL1.block {W:World} {b off:Nat} {cs:List AV} (h:qL1 W b off cs) (h0:cs≠[]):∃c e lo hi,W.heap[b]? = some (.cells c e (lo,hi))∧off+cs.length≤c.size∧∀(k:Nat) v v',cs[k]? = some v→c[off+k]? = some v'→∀ι,VR ι v v':=by
 have hl:cs.length - 1<cs.length:=by cases cs with | nil=>exact absurd rfl h0 | cons _ _=>simp
 obtain⟨_,v',hv',_⟩:=h (cs.length - 1) _ (List.getElem?_eq_getElem hl);unfold World.cell? at hv';cases hb:W.heap[b]? with
 | none=>rw[hb] at hv';cases hv'
 | some o =>
  rw[hb] at hv';cases o with
  | cells c e m =>
   obtain⟨lo,hi⟩:=m;simp only[Option.isSome_none,Bool.false_eq_true,if_false] at hv';have hs:=(Array.getElem?_eq_some_iff.1 hv').1;refine⟨c,e,lo,hi,rfl,by omega,fun k v v' hk hk' ι=>?_⟩;obtain⟨_,x,hx,hvr⟩:=h k v hk;unfold World.cell? at hx;rw[hb] at hx;simp only[Option.isSome_none,Bool.false_eq_true,if_false] at hx;rw[hk'] at hx;simp only[qz1] at hx;subst hx;exact hvr ι
  | _=>cases hv'
def qAf (P:Program) (f:Nat) (args:List AV) (st:ASt) (v:AV):Prop :=
 ∀(B:Prot) w0 ι w args',(∀i,¬B.rs i)→SR B w0 ι st w→VRs ι args args' →
  (callFunc f args').run P w=.ok (.enter f args') w∧CallsIn Fence.wide 0 P f args' w fun e w'=>∃r,r.1=v∧qGw B w0 ι r e w'
theorem qAf.of_trip {P:Program} {E:Env} (hE:E.Ok P) {f:Nat} {fn:Func} {c:Code} (hfn:E.fn.get f=some fn) (hc:fn.body=some c) {args:List AV} (hb:Nat.ble args.length fn.ntmps=true) {st:ASt} {v:AV}
  (h:Trip P st.next none c {m:=qAM args 0 .e,n:=fn.ntmps,defs:=[]} st fun r=>(r.1=.normal∨r.1=.ret)∧ans (leaveA E fn r.2.1 r.2.2)=some v):qAf P f args st v:=fun B w0 ι w args' hB hsr hv=>by
 obtain⟨h1,h2⟩:=Trip.call hE hfn hc hb (R:=fun q=>q.1=v) (h.mono fun r ⟨h1,h2⟩=>by
  obtain⟨st2,h3⟩:=qHO h2;exact⟨h1,_,h3,rfl⟩) B hB w0 ι w args' hsr hv
 exact⟨h1,h2⟩
structure View (ids:List Nat) (st st1:ASt):Prop where
 next:st1.next=ids.length
 obj:∀(j:Nat) x,st1.h.get j=some x→∃i a cs cs',ids[j]? = some i∧x=.cells cs' false∧st.h.get i=some (.cells cs a)∧qFW ids cs=some cs'
theorem qQc {P:Program} {f:Nat} {args args1:List AV} {st1:ASt} {v:AV} (hrun:qAf P f args1 st1 v) (hp:∀(ι κ:Ren) (x:Value),VR ι v x→VR κ v x) {ids:List Nat}
  {B:Prot} {w0:World} {ι:Ren} {st:ASt} {w:World} (hsr:SR B w0 ι st w) (hview:View ids st st1) (ha:qFW ids args=some args1) {args':Array Value} (hargs:VRs ι args args') :
  (callFunc f args').run P w=.ok (.enter f args') w∧CallsIn Fence.wide 0 P f args' w (qGw B w0 ι (v,st)):=by
 let B1:Prot:=⟨fun k=>k<w.heap.size,fun k=>k<w.heap.size,fun _=>False⟩
 have hren:∀{j L},qJ9 ids ι j=some L→∃i,ids[j]? = some i∧ι i=some L:=fun {j L} h=>by
  unfold qJ9 at h;cases hi:ids[j]? with
  | none=>rw[hi] at h;cases h
  | some i=>rw[hi] at h;exact⟨i,rfl,h⟩
 have hsr1:SR B1 w (qJ9 ids ι) st1 w:=by
  refine⟨Keeps.refl _ _,?_,fun j x hj hd=>?_,fun j x L hj ho hL=>?_,fun j L hL=>?_,fun j x hj=>?_,fun j x L hj hd ho hL=>?_,fun i hi=>hi.elim,fun g cs hg=>⟨.inr (hsr.globw g cs hg).lt,hsr.globw g cs hg⟩⟩
  ·rintro k (hk | hk)<;>exact hk
  ·obtain⟨i,a,cs,cs',h1,rfl,h2,h3⟩:=hview.obj j x hj;obtain⟨L,o,k1,k2,k3⟩:=hsr.obj i _ h2 (by simp);refine⟨L,o,by simp only[qJ9,h1,k1],k2,?_⟩;obtain⟨g1,g2⟩:=qDE h3;obtain⟨c,e,lo,hi,q1,q2,q3,q4,q5,q6⟩:=k3;refine⟨c,e,lo,hi,q1,q2,by rw[g1];exact q3,fun y hy=>?_,fun k y y' hy hy'=>?_,fun h=>by cases h⟩
   ·obtain⟨n,hn,en⟩:=List.getElem_of_mem hy;obtain⟨z,h5,h6⟩:=g2 n y (by simp[hn,en]);exact qH8 h6 (q4 z (List.mem_of_getElem? h5))
   ·obtain⟨z,h5,h6⟩:=g2 k y hy;exact (q5 k z y' h5 hy').ren y h6
  ·obtain⟨i,a,cs,cs',h1,rfl,h2,h3⟩:=hview.obj j x hj;cases ho
  ·obtain⟨i,h1,h2⟩:=hren hL;rw[hview.next];exact (List.getElem?_eq_some_iff.1 h1).1
  ·obtain⟨i,a,cs,cs',h1,_⟩:=hview.obj j x hj;rw[hview.next];exact (List.getElem?_eq_some_iff.1 h1).1
  ·obtain⟨i,a,cs,cs',h1,rfl,h2,h3⟩:=hview.obj j x hj;obtain⟨i',h1',hL'⟩:=hren hL;obtain⟨L0,o,k1,k2,k3⟩:=hsr.obj i' (.cells cs a) (by rw[h1] at h1';cases h1';exact h2) (by simp);rw[k1] at hL';cases hL';exact (Array.getElem?_eq_some_iff.1 k2).1
 have hv1:VRs (qJ9 ids ι) args1 args':=by
  obtain⟨g1,g2⟩:=qDE ha;refine⟨g1.trans hargs.size,fun k y y' hy hy'=>?_⟩;obtain⟨z,h5,h6⟩:=g2 k y hy;exact (hargs.at_ k z y' h5 hy').ren y h6
 obtain⟨k1,k2⟩:=hrun B1 w (qJ9 ids ι) w args' (fun _ h=>h) hsr1 hv1;refine⟨k1,k2.mono ?_⟩;rintro e w' ⟨r,rfl,x,ι',rfl,_,h9,h10⟩;exact⟨x,ι,rfl,ι.le_refl,hsr.later ⟨h9.below.os,h9.below.tape,h9.below.output,h9.below.size,fun k hk=>h9.below.block k (.inl hk)⟩,hp _ _ _ h10⟩
theorem qT0 {P:Program} {f:Nat} {args args1:List AV} {st1:ASt} {v:AV} (hrun:qAf P f args1 st1 v) (hp:qEO v=true) {ids:List Nat}
  {B:Prot} {w0:World} {ι:Ren} {st:ASt} {w:World} (hsr:SR B w0 ι st w) (hview:View ids st st1) (ha:qFW ids args=some args1) {args':Array Value} (hargs:VRs ι args args') :
  (callFunc f args').run P w=.ok (.enter f args') w∧CallsIn Fence.wide 0 P f args' w (qGw B w0 ι (v,st)) :=
 qQc hrun (fun _ _ _ h=>qDs hp h) hsr hview ha hargs
structure SlArg (E:Env) (t:TypeId) (z:Nat) (i n:Nat) (v:AV) (o:AO) (cs:List AV):Prop where
 len:∀st,qAU E .len [t] [v] st=some (.int .i64 (.ofNat n),st)
 idx:∀k kd,k<n→qA4 E t v (.int kd (.ofNat k))=some (.ptr (some (i,0+k*z)))
 obj:0<n→o=.cells cs false
theorem SlArg.row {E:Env} {t:TypeId} {z i n:Nat} {cs:List AV} (hT:qDR E t=some z):SlArg E t z i n (.slice (some (i,0)) n (.atl n)) (.cells cs false) cs:=by
 refine⟨fun st=>?_,fun k kd hk=>qLA hT hk,fun _=>rfl⟩;unfold qDR at hT
 split at hT
 ·rename_i ti hti
  split at hT
  ·rename_i e he;simp only[qAU,qCU,qOc,hti,he]
  ·cases hT
 ·cases hT
theorem SlArg.none {E:Env} {t:TypeId} {z i:Nat} (hT:qDR E t=some z):SlArg E t z i 0 (.slice none 0 (.known 0)) .dead []:=by
 refine⟨fun st=>?_,fun k kd hk=>by omega,fun h=>by omega⟩;unfold qDR at hT
 split at hT
 ·rename_i ti hti
  split at hT
  ·rename_i e he;simp only[qAU,qCU,qOc,hti,he]
  ·cases hT
 ·cases hT
theorem SlArg.zero {E:Env} {t:TypeId} {z i:Nat} (hT:qDR E t=some z):SlArg E t z i 0 .slice0 .dead []:=by
 refine⟨fun st=>?_,fun k kd hk=>by omega,fun h=>by omega⟩;unfold qDR at hT
 split at hT
 ·rename_i ti hti
  split at hT
  ·rename_i e he;simp only[qAU,qCU,qOc,hti,he]
  ·cases hT
 ·cases hT
def qI7 (k:Nat) (v:AV):Prop:=∀ids,preB k 0 ids=true→qCj ids v=some v
theorem qRF:∀{xs:List Nat} {k n i:Nat},preB n k xs=true→i<n→qOk xs (k+i) k=some (k+i)
 | [],k,n,i,h,hi=>by cases n with | zero=>omega | succ n=>cases h
 | x::xs,k,n,i,h,hi=>by
  cases n with
  | zero=>omega
  | succ n =>
   unfold preB at h;cases hb:Nat.beq x k
   ·rw[hb] at h;cases h
   ·rw[hb,cond_true] at h;have:=qEQ hb;subst this;cases i with
    | zero=>simp[qOk]
    | succ i =>
     have ih:=qRF (k:=x+1) (i:=i) h (by omega);have hne:Nat.beq x (x+(i+1))=false:=qO6 (by omega);simp only[qOk,hne,cond_false];rw[show x+(i+1)=x+1+i by omega];exact ih
theorem qI7.row {k i o n:Nat} {c:Cap} (h:i<k):qI7 k (.slice (some (i,o)) n c):=fun ids hp=>by
 have:=qRF (k:=0) (i:=i) hp h;rw[Nat.zero_add] at this;simp only[qCj,this]
theorem qI7.none {k n:Nat} {c:Cap}:qI7 k (.slice none n c):=fun _ _=>rfl
theorem qI7.zero {k:Nat}:qI7 k .slice0:=fun _ _=>rfl
def Came (o:AO):Prop:=o=.dead∨∃cs rw,o=.cells cs rw∧∀c,c∈cs→qAP 0 c
def qEa (W:World) (n:Nat) (rows:Nat→Option (Nat×Nat×List AV)):Ren:=fun i=>if i<n then (match rows i with | some r=>qPx W r | none=>none) else none
theorem qSw {W:World} (hgl:qGG W) {n:Nat} {rows:Nat→Option (Nat×Nat×List AV)} (hr:∀i r,rows i=some r→r.2.2≠[]∧qL1 W r.1 r.2.1 r.2.2) {st:ASt} (hn:st.next=n)
  (hst:∀i a,st.h.get i=some a→i<n∧(a≠.dead→∃r,rows i=some r∧a=.cells r.2.2 false)) :
  SR ⟨fun k=>∃i r,i<n∧rows i=some r∧r.1=k,fun k=>k<W.heap.size,fun _=>False⟩ W (qEa W n rows) st W:=by
 have hloc:∀{i:Nat} {r:Nat×Nat×List AV},i<n→rows i=some r→∃c e lo hi,W.heap[r.1]? = some (.cells c e (lo,hi))∧qEa W n rows i=some ⟨r.1,r.2.1,c.size⟩∧r.2.1+r.2.2.length≤c.size∧∀(k:Nat) v v',r.2.2[k]? = some v→c[r.2.1+k]? = some v'→∀ι,VR ι v v':=fun {i r} hi h=>by
  obtain⟨h0,h1⟩:=hr i r h;obtain⟨c,e,lo,hh,k1,k2,k3⟩:=h1.block h0;exact⟨c,e,lo,hh,k1,by simp only[qEa,hi,if_true,h,qPx,k1],k2,k3⟩
 refine⟨Keeps.refl _ _,?_,fun i a hi hd=>?_,fun i a L hi ho hL=>?_,fun i L hL=>?_,fun i a hi=>?_,fun i a L hi hd ho hL=>?_,fun i hi=>hi.elim,fun g cs hg=>⟨.inr (hgl g cs hg).lt,hgl g cs hg⟩⟩
 ·rintro k (⟨i,r,hi,h,rfl⟩ | hk)
  ·obtain⟨c,e,lo,hh,k1,_⟩:=hloc hi h;exact (Array.getElem?_eq_some_iff.1 k1).1
  ·exact hk
 ·obtain⟨hin,h2⟩:=hst i a hi;obtain⟨r,h1,rfl⟩:=h2 hd;obtain⟨c,e,lo,hh,k1,k2,k3,k4⟩:=hloc hin h1;obtain⟨_,hra⟩:=hr i r h1;exact⟨_,_,k2,k1,c,e,lo,hh,rfl,rfl,k3,fun v hv=>by
   obtain⟨j,hj,e⟩:=List.getElem_of_mem hv;exact (hra j v (by rw[←e];simp[hj])).1,fun k v v' hk hk'=>k4 k v v' hk hk' _,fun h=>by cases h⟩
 ·by_cases hd:a=.dead
  ·subst hd;cases ho
  ·obtain⟨r,_,rfl⟩:=(hst i a hi).2 hd;cases ho
 ·unfold qEa at hL
  by_cases e:i<n
  ·rw[hn];exact e
  ·simp[e] at hL
 ·rw[hn];exact (hst i a hi).1
 ·obtain⟨hin,h2⟩:=hst i a hi;obtain⟨r,h1,rfl⟩:=h2 hd;obtain⟨c,e,lo,hh,k1,k2,k3,k4⟩:=hloc hin h1;rw[k2] at hL;cases hL;exact⟨i,r,hin,h1,rfl⟩
structure ArgAt (E:Env) (W:World) (t:TypeId) (z i n:Nat) (v:Value) (cs:List AV) (vl:AV) (o:AO) (r:Option (Nat×Nat×List AV)):Prop where
 sl:SlArg E t z i n vl o cs
 came:(∀c,c∈cs→qAP 0 c)→Came o
 kept:∀k,i<k→qI7 k vl
 row:∀q,r=some q→q.2.2≠[]∧qL1 W q.1 q.2.1 q.2.2
 obj:o≠.dead→∃q,r=some q∧o=.cells q.2.2 false
 vr:∀ι:Ren,(∀q,r=some q→∃tot,ι i=some ⟨q.1,q.2.1,tot⟩)→VR ι vl v
theorem ArgAt.mk_nil {E:Env} {W:World} {t:TypeId} {z i:Nat} (hT:qDR E t=some z):ArgAt E W t z i 0 (.slice none 0 0) [] (.slice none 0 (.known 0)) .dead Option.none :=
 ⟨SlArg.none hT,fun _=>.inl rfl,fun _ _=>qI7.none,(fun _ h=>by cases h),fun h=>absurd rfl h,fun _ _=>VR.sliceN⟩
theorem ArgAt.mk_zero {E:Env} {W:World} {t:TypeId} {z i:Nat} {a:Addr} {c:Nat} (hT:qDR E t=some z):ArgAt E W t z i 0 (.slice (some a) 0 c) [] .slice0 .dead Option.none :=
 ⟨SlArg.zero hT,fun _=>.inl rfl,fun _ _=>qI7.zero,(fun _ h=>by cases h),fun h=>absurd rfl h,fun _ _=>VR.slice0 _ _⟩
theorem ArgAt.mk_row {E:Env} {W:World} {t:TypeId} {z i n b off cap:Nat} {cs:List AV} (hT:qDR E t=some z) (h0:cs≠[]) (hc:n≤cap) (hr:qL1 W b off cs) :
  ArgAt E W t z i n (.slice (some ⟨b,off,Option.none⟩) n cap) cs (.slice (some (i,0)) n (.atl n)) (.cells cs false) (some (b,off,cs)) :=
 ⟨SlArg.row hT,fun h=>.inr ⟨cs,false,rfl,h⟩,fun _ h=>qI7.row h,(fun q h=>by cases h;exact⟨h0,hr⟩),fun _=>⟨_,rfl,rfl⟩,fun ι h=>by
  obtain⟨tot,ht⟩:=h _ rfl;have:=VR.slice (ι:=ι) i 0 n cap ⟨b,off,tot⟩ (.atl n) ht hc hc;simpa using this⟩
theorem qOI {W:World} {n i:Nat} {rows:Nat→Option (Nat×Nat×List AV)} {r:Nat×Nat×List AV} (hi:i<n) (h:rows i=some r) (h0:r.2.2≠[]) (h1:qL1 W r.1 r.2.1 r.2.2):∃tot,qEa W n rows i=some ⟨r.1,r.2.1,tot⟩:=by
 obtain⟨c,e,lo,hh,k1,k2,k3⟩:=h1.block h0;exact⟨c.size,by simp only[qEa,hi,if_true,h,qPx,k1]⟩
theorem qAF {st:ASt} {x:Option AV} {v:AV} (h:x=some v):still st x=some (v,st):=by rw[h];rfl
def qAE (P:Program) (f:Nat) (args:List AV) (st:ASt) (r:AV×ASt):Prop :=
 ∀(B:Prot) w0 ι w args',SR B w0 ι st w→VRs ι args args' →
  (callFunc f args').run P w=.ok (.enter f args') w∧CallsIn Fence.wide 0 P f args' w (qGw B w0 ι r)
theorem qAE.of {P:Program} {sum:CallT} (hs:CallsOK P sum) {f:Nat} {args:List AV} {st:ASt} {r:AV×ASt} (h:sum f args st=some r):qAE P f args st r :=
 fun B w0 ι w args' hsr hv=>hs B w0 f args st r h ι w args' hsr hv
open Classical in
def qIZ:List (Nat×List AV×ASt×(AV×ASt))→CallT
 | [],_,_,_=>none
 | (g,a,s,r)::t,f,args,st=>if g=f∧a=args∧s=st then some r else qIZ t f args st
theorem qDB {P:Program}:∀{tab:List (Nat×List AV×ASt×(AV×ASt))},(∀e,e∈tab→qAE P e.1 e.2.1 e.2.2.1 e.2.2.2)→CallsOK P (qIZ tab)
 | [],_=>fun _ _ f args st r h=>by cases h
 | (g,a,s,r)::t,h=>fun B w0 f args st r' hr ι w args' hsr hv=>by
  unfold qIZ at hr
  split at hr
  ·rename_i e;obtain⟨rfl,rfl,rfl⟩:=e;simp only[qz1] at hr;subst hr;exact h _ List.mem_cons_self B w0 ι w args' hsr hv
  ·exact qDB (fun e he=>h e (List.mem_cons_of_mem _ he)) B w0 f args st r' hr ι w args' hsr hv
theorem qCB (f:Nat) (args:List AV) (st:ASt) (r:AV×ASt) (t:List (Nat×List AV×ASt×(AV×ASt))):qIZ ((f,args,st,r)::t) f args st=some r:=by
 simp[qIZ]
theorem qVx {g f:Nat} {a args:List AV} {s st:ASt} {r:AV×ASt} {t:List (Nat×List AV×ASt×(AV×ASt))} (h:¬(g=f∧a=args∧s=st)):qIZ ((g,a,s,r)::t) f args st=qIZ t f args st:=by
 simp only[qIZ,h,if_false]
theorem qEv {g f:Nat} {a args:List AV} {s st:ASt} {r:AV×ASt} {t:List (Nat×List AV×ASt×(AV×ASt))} (h:Nat.beq g f=false):qIZ ((g,a,s,r)::t) f args st=qIZ t f args st :=
 qVx fun e=>by rw[e.1,Nat.beq_refl] at h;cases h
def qA0 (fs:List Nat) (q:CallT):CallT:=fun f args st=>bif qCY f fs then q f args st else none
theorem qAG {P:Program} {fs:List Nat} {q:CallT} (h:CallsOK P q):CallsOK P (qA0 fs q):=fun B w0 f args st r hr ι w args' hsr hv=>by
 unfold qA0 at hr;cases hm:qCY f fs
 ·rw[hm] at hr;cases hr
 ·rw[hm] at hr;exact h B w0 f args st r hr ι w args' hsr hv
theorem qYA {E:Env} {draw:qI8} {sum:CallT} {n f:Nat} {args:List AV} {st:ASt} {r:AV×ASt} (h:sum f args st=some r):(M E draw sum (n+1)).call f args st=some r:=by
 show (match sum f args st with | some r=>some r | none=>qFy E (M E draw sum n).ex f args st)=_;rw[h]
abbrev Src:=List (Option (Nat×Nat×Bool))
def gS (src:Src) (nx:Nat) (j:Nat):Nat:=match src[j]? with | some (some (i,_,true))=>i | _=>nx+j
def Loc.sh (L:Loc) (o:Nat):Loc:=⟨L.b,L.p+o,L.tot⟩
def qWU (src:Src) (ι:Ren):Ren:=fun j=>match src[j]? with | some (some (i,o,_))=>(match ι i with | some L=>some (L.sh o) | none=>none) | _=>none
theorem qWP {ι κ:Ren} {L:Loc} {o:Nat} {cs cs':List AV} {rw:Bool} {ob:Obj} (h:OR ι L (.cells cs rw) ob) (h0:cs'≠[]) (ht:qAy cs o cs'.length=some cs') (hp:∀c,c∈cs'→qAP 0 c):OR κ (L.sh o) (.cells cs' false) ob:=by
 have hget:∀{k:Nat} {y:AV},cs'[k]? = some y→cs[o+k]? = some y:=fun {k y} hy=>by
  rw[←(qBQ ht).2 k (List.getElem?_eq_some_iff.1 hy).1];exact hy
 obtain⟨c,e,lo,hi,q1,q2,q3,q4,q5,q6⟩:=h;refine⟨c,e,lo,hi,q1,q2,?_,fun v hv=>?_,fun k y y' hy hy'=>?_,fun h=>by cases h⟩
 ·have h1:0<cs'.length:=List.length_pos_iff.2 h0;have:=hget (k:=cs'.length - 1) (y:=cs'[cs'.length - 1]) (List.getElem?_eq_getElem (by omega));have:=(List.getElem?_eq_some_iff.1 this).1;show L.p+o+cs'.length≤c.size;omega
 ·obtain⟨m,hm,em⟩:=List.getElem_of_mem hv;exact q4 v (List.mem_of_getElem? (hget (k:=m) (by simp[hm,em])))
 ·have:=q5 (o+k) y y' (hget hy) (by rw[←Nat.add_assoc];exact hy');exact this.noRef (hp y (List.mem_of_getElem? hy))
theorem qAf.of_tm {P:Program} {E:Env} (hE:E.Ok P) {sum:CallT} (hs:CallsOK P sum) {fls:List (Nat×Fl)} {rf:Fl} {n f:Nat} {args:List AV} {st:ASt} {v:AV} {y:An}
  (h:((TM E sum fls rf n).call f args st).allY (fun r=>r.1=v) y):qAf P f args st v:=by
 obtain⟨r,h1,h2⟩:=qSP (Tr.allY_all _ y h);intro B w0 ι w args' _ hsr hv;obtain⟨k1,k2⟩:=(qSQ hE (qCa hE) hs n).call B w0 f args st r h1 ι w args' hsr hv;exact⟨k1,k2.mono fun e w' hp=>⟨r,h2,hp⟩⟩
def qAn (n:Nat):AV:=.int .u8 (.ofNat n)
theorem qFx:∀{a b:List Nat},a.map qAn=b.map qAn→a=b
 | [],[],_=>rfl
 | [],_::_,h=>by simp at h
 | _::_,[],h=>by simp at h
 | x::a,y::b,h=>by
  simp only[List.map_cons,List.cons.injEq,qAn,AV.int.injEq,true_and] at h;have h1:x=y:=Int.ofNat_inj.1 h.1;rw[h1,qFx h.2]
theorem qTL {fs:List Nat} {q:CallT} {f:Nat} {args:List AV} {st:ASt} {r:AV×ASt} (hm:qCY f fs=true) (h:q f args st=some r):qA0 fs q f args st=some r:=by
 unfold qA0;rw[hm,cond_true,h]
theorem qAo {q p:CallT} {f:Nat} {args:List AV} {st:ASt} {r:AV×ASt} (h:q f args st=some r):orC q p f args st=some r:=by
 unfold orC;rw[h]
theorem qAW {q p:CallT} {f:Nat} {args:List AV} {st:ASt} {r:AV×ASt} (h0:q f args st=none) (h:p f args st=some r):orC q p f args st=some r:=by
 unfold orC;rw[h0,h]
theorem qTj (x:Int):eqF x x=true:=by rw[qCG];simp
end
end Go.Ax
end
section
namespace Go.Ax
open Go.RowKit
set_option linter.unusedVariables false
section
abbrev qUR:=List (Nat×Nat×List AV)
def qSr (l:qUR):Src:=l.map fun q=>some (q.1,q.2.1,false)
theorem qWE {l:qUR} {j:Nat} {q:Nat×Nat×List AV} (h:l[j]? = some q):(qSr l)[j]? = some (some (q.1,q.2.1,false)):=by
 unfold qSr;rw[List.getElem?_map,h];rfl
theorem qPh {l:qUR} {j i o:Nat} {w:Bool} (h:(qSr l)[j]? = some (some (i,o,w))):∃q,l[j]? = some q∧q.1=i∧q.2.1=o∧w=false:=by
 unfold qSr at h;rw[List.getElem?_map] at h;cases e:l[j]? with
 | none=>rw[e] at h;cases h
 | some q=>rw[e] at h;cases h;exact⟨q,rfl,rfl,rfl,rfl⟩
theorem renL {l:qUR} {ι:Ren} {j:Nat} {q:Nat×Nat×List AV} {L:Loc} (h:l[j]? = some q) (hL:ι q.1=some L):qWU (qSr l) ι j=some (L.sh q.2.1):=by
 unfold qWU;rw[qWE h];simp only[hL]
theorem qAE.read {P:Program} {f:Nat} {args args1:List AV} {S S1:ASt} {v:AV} (hrun:qAf P f args1 S1 v) (hp:qAP 0 v) {l:List (Nat×Nat×List AV)} (hn:S1.next=l.length)
  (ho:∀(j:Nat) x,S1.h.get j=some x→∃q:Nat×Nat×List AV,l[j]? = some q∧x=.cells q.2.2 false)
  (hl:∀(j:Nat) (q:Nat×Nat×List AV),l[j]? = some q→q.2.2≠[]∧(∀c,c∈q.2.2→qAP 0 c)∧∃cs rw,S.h.get q.1=some (.cells cs rw)∧qAy cs q.2.1 q.2.2.length=some q.2.2)
  (ha:∀ι args',VRs ι args args'→VRs (qWU (qSr l) ι) args1 args'):qAE P f args S (v,S):=by
 intro B w0 ι w args' hsr hargs
 let B1:Prot:=⟨fun k=>k<w.heap.size,fun k=>k<w.heap.size,fun _=>False⟩
 have hren:∀{j L},qWU (qSr l) ι j=some L→∃(q:Nat×Nat×List AV) (L0:Loc),l[j]? = some q∧ι q.1=some L0∧L=L0.sh q.2.1:=fun {j L} h=>by
  unfold qWU at h
  split at h
  ·rename_i i o w' hs;obtain⟨q,h1,rfl,rfl,_⟩:=qPh hs
   split at h
   ·rename_i L0 h0;cases h;exact⟨q,L0,h1,h0,rfl⟩
   ·cases h
  ·cases h
 have hsr1:SR B1 w (qWU (qSr l) ι) S1 w:=by
  refine⟨Keeps.refl _ _,fun k hk=>by rcases hk with h | h<;>exact h,fun j x hj hd=>?_,fun j x L hj ho' hL=>?_,fun j L hL=>?_,fun j x hj=>?_,fun j x L hj hd ho' hL=>?_,fun i hi=>hi.elim,fun g cs hg=>⟨.inl (hsr.globw g cs hg).lt,hsr.globw g cs hg⟩⟩
  ·obtain⟨q,h1,rfl⟩:=ho j x hj;obtain⟨h2,h3,cs,rw,h4,h5⟩:=hl j q h1;obtain⟨L,ob,g1,g2,g3⟩:=hsr.obj q.1 _ h4 (by simp);exact⟨L.sh q.2.1,ob,renL h1 g1,g2,qWP g3 h2 h5 h3⟩
  ·obtain⟨q,h1,rfl⟩:=ho j x hj;cases ho'
  ·obtain⟨q,L0,h1,_⟩:=hren hL;rw[hn];exact (List.getElem?_eq_some_iff.1 h1).1
  ·obtain⟨q,h1,_⟩:=ho j x hj;rw[hn];exact (List.getElem?_eq_some_iff.1 h1).1
  ·obtain⟨q,L0,h1,h2,rfl⟩:=hren hL;obtain⟨_,_,cs,rw,h4,_⟩:=hl j q h1;obtain⟨L,ob,g1,g2,_⟩:=hsr.obj q.1 _ h4 (by simp);rw[h2] at g1;cases g1;exact (Array.getElem?_eq_some_iff.1 g2).1
 obtain⟨k1,k2⟩:=hrun B1 w (qWU (qSr l) ι) w args' (fun _ h=>h) hsr1 (ha ι args' hargs);refine⟨k1,k2.mono ?_⟩;rintro e w' ⟨r,rfl,x,ι',rfl,_,h9,h10⟩;exact⟨x,ι,rfl,ι.le_refl,hsr.later ⟨h9.below.os,h9.below.tape,h9.below.output,h9.below.size,fun k hk=>h9.below.block k (.inl hk)⟩,h10.noRef hp⟩
end
section
theorem Trip.cond {P:Program} {kb:Nat} {ro:Option Nat} {fr:AFr} {st:ASt} {Q:qz2} {x:Operand} {t e:Code} {b:Bool} (hx:evA fr x=some (.bool b)) (h:Trip P kb ro (bif b then t else e) fr st Q):Trip P kb ro (.cond x t e) fr st Q:=fun B w0 κ hb ι w a rl hk h1 h2 h3=>by
 have hxv:=qEI h2.hf hx;generalize hxe:a.eval x=xv at hxv;cases hxv;refine wpIn_cond hxe ?_;have:=h B w0 κ hb ι w a rl hk h1 h2 h3;cases b
 ·exact this
 ·exact this
theorem Trip.weak {P:Program} {kb:Nat} {ro:Option Nat} {fr:AFr} {st:ASt} {c:Code} {Q R:Exit×AFr×ASt→Prop} (h:Trip P kb ro c fr st Q) (hw:∀r,Q r→∃F S,Wk kb r.2.1 r.2.2 F S∧R (r.1,F,S)):Trip P kb ro c fr st R:=fun B w0 κ hb ι w a rl hk h1 h2 h3 =>
 wpIn_mono (h B w0 κ hb ι w a rl hk h1 h2 h3) fun e a' w' ⟨r,hq,he,ι',g1,g2,g3⟩=>by
  obtain⟨F,S,h4,h5⟩:=hw r hq;obtain⟨ι2,k1,k2,k3⟩:=h4 B w0 κ hb ι' w' a' g1 g2 g3;exact⟨_,h5,he,ι2,k1,k2,k3⟩
end
section
theorem qNI:∀{B C N:List AV},B.length=N.length→over N (B++C)=some (N++C)
 | [],C,[],_=>by simp[over]
 | b::B,C,n::N,h=>by
  show (match over N (B++C) with | some r=>some (n::r) | none=>none)=_;rw[qNI (by simpa using h)];rfl
 | [],_,_::_,h=>by cases h
 | _::_,_,[],h=>by cases h
theorem qJ3 {A B C N:List AV} (h:B.length=N.length):qHH (A++(B++C)) A.length N=some (A++(N++C)):=by
 rw[qH2]
 induction A with
 | nil =>
  have e:∀cs:List AV,qDD cs 0 N=over N cs:=fun cs=>by cases cs<;>rfl
  rw[List.nil_append,List.nil_append];exact (e _).trans (qNI h)
 | cons a A ih =>
  show (match qDD (A++(B++C)) A.length N with | some r=>some (a::r) | none=>none)=_;rw[ih];rfl
theorem qSu:∀{cs:List AV} {o:Nat} {v:AV},o<cs.length→qHH cs o [v]=some (cs.set o v):=by
 intro cs o v h;rw[qH2]
 induction cs generalizing o with
 | nil=>simp at h
 | cons c cs ih =>
  cases o with
  | zero=>rfl
  | succ o =>
   show (match qDD cs o [v] with | some r=>some (c::r) | none=>none)=_;rw[ih (by simpa using h)];rfl
theorem qHX {X:List AV}:qAy X 0 X.length=some X:=by
 unfold qAy;simp
end
end Go.Ax
end
section
namespace Go.Ax
noncomputable section
open Go.RowKit
section
variable {S:ASt} {i k:Nat} {a:AO}
theorem qTF (S:ASt) (i:Nat) (a:AO) (k:Nat):(S.put i a).h.get k=if k=i then some a else S.h.get k:=T.get_set D S.h i a k
theorem qOA (S:ASt) (a:AO) (k:Nat):(S.add a).h.get k=if k=S.next then some a else S.h.get k:=T.get_set D S.h S.next a k
theorem qBz (S:ASt) (i:Nat) (a:AO):(S.put i a).next=S.next:=rfl
theorem qBe (S:ASt) (a:AO):(S.add a).next=S.next+1:=rfl
theorem qAl:(S.put i a).h.get i=some a:=qJc S i a
theorem qA3 (h:k≠i):(S.put i a).h.get k=S.h.get k:=by rw[qTF,if_neg h]
theorem qBM:(S.add a).h.get S.next=some a:=by rw[qOA];simp
theorem qAj (h:k≠S.next):(S.add a).h.get k=S.h.get k:=by rw[qOA,if_neg h]
end
def qAx (kf:List Nat) (r:Exit×AFr×ASt):Exit×AFr×ASt:=(r.1,canF kf r.2.1,r.2.2)
theorem Wk.canF (kb:Nat) (kf:List Nat) (fr:AFr) (st:ASt):Wk kb fr st (canF kf fr) st:=fun _ _ _ _ ι _ _ hk h g=>⟨ι,hk,h,(qVV kf [] fr st h g).2⟩
theorem qD8.rawE {kb:Nat} {e:Exit} {F:AFr} {S:ASt} {kf:List Nat} {r:Exit×AFr×ASt} (h:qAx kf r=(e,F,S)):qD8 kb e F S r:=by
 obtain⟨r1,r2,r3⟩:=r;simp only[qAx,Prod.mk.injEq] at h;obtain⟨rfl,rfl,rfl⟩:=h;exact⟨rfl,Wk.canF kb kf r2 r3⟩
section
variable {P:Program} {kb:Nat} {ro:Option Nat} {Q:qz2} {E:Env} {sum:CallT}
theorem Trip.preR (hE:E.Ok P) (hs:CallsOK P sum) {k:Nat} {c:Code} {n:Nat} {fls:List (Nat×Fl)} {rf fl:Fl} {fr:AFr} {st:ASt} {y:An} {kf:List Nat} (hc:qY5 k c=true)
  {Q1:qz2} (h:((TM E sum fls rf n).ex fl ro (qL5 k c) fr st).allY (fun r=>Q1 (qAx kf r)) y)
  (hn:∀F S,Q1 (.normal,F,S)→Trip P kb ro (qAg k c) F S Q) (he:∀r,r.1≠.normal→Q1 (qAx kf r)→Q r):Trip P kb ro c fr st Q:=by
 obtain⟨r,h1,h2⟩:=qSO (Tr.allY_all _ y h);refine Trip.preX hE hs k c n fr st r hc h1 (fun hr=>?_) (fun hr=>he r hr h2);obtain⟨e,fr',st'⟩:=r;simp only at hr;subst hr;exact Trip.less (Wk.canF kb kf fr' st') (hn _ _ h2)
theorem Wk.mem {kb:Nat} {fr:AFr} {st st':ASt} (h:∀k x,st'.h.get k=some x→st.h.get k=some x) (hn:st.next≤st'.next):Wk kb fr st fr st':=fun _ _ _ _ ι _ _ hk h1 h2=>⟨ι,hk,SR.sub h1 h hn,h2⟩
end
theorem qAE.of_tm {P:Program} {E:Env} (hE:E.Ok P) {sum:CallT} (hs:CallsOK P sum) {fls:List (Nat×Fl)} {rf:Fl} {n f:Nat} {args:List AV} {st:ASt} {r:AV×ASt} {y:An}
  (h:((TM E sum fls rf n).call f args st).allY (fun q=>q=r) y):qAE P f args st r:=by
 obtain⟨r',h1,rfl⟩:=qSP (Tr.allY_all _ y h);exact fun B w0 ι w args' hsr hv=>(qSQ hE (qCa hE) hs n).call B w0 f args st r' h1 ι w args' hsr hv
def qL3 (P:Program) (f:Nat) (args:List AV) (st:ASt) (r:AV×ASt):Prop :=
 ∀(B:Prot) w0 ι w args',(∀i,¬B.rs i)→SR B w0 ι st w→VRs ι args args' →
  (callFunc f args').run P w=.ok (.enter f args') w∧CallsIn Fence.wide 0 P f args' w (qGw B w0 ι r)
theorem qL3.of_trip {P:Program} {E:Env} (hE:E.Ok P) {f:Nat} {fn:Func} {c:Code} (hfn:E.fn.get f=some fn) (hc:fn.body=some c) {args:List AV} (hb:Nat.ble args.length fn.ntmps=true) {st:ASt} {v:AV×ASt}
  (h:Trip P st.next none c {m:=qAM args 0 .e,n:=fn.ntmps,defs:=[]} st fun r=>(r.1=.normal∨r.1=.ret)∧leaveA E fn r.2.1 r.2.2=some v):qL3 P f args st v:=fun B w0 ι w args' hB hsr hv=>by
 obtain⟨h1,h2⟩:=Trip.call hE hfn hc hb (R:=fun q=>q=v) (h.mono fun r ⟨h1,h2⟩=>⟨h1,_,h2,rfl⟩) B hB w0 ι w args' hsr hv;exact⟨h1,h2.mono fun e w' ⟨q,hq,hp⟩=>hq▸hp⟩
mutual
def qCH (D:Nat→Prop):AV→Prop
 | .ptr (some (i,_))=>D i
 | .slice (some (i,_)) _ _=>D i
 | .clos _ cs=>qBp D cs
 | .bound _ fs cs=>qBp D fs∧qBp D cs
 | .yield i=>D i
 | .iface _ v=>qCH D v
 | .agg cs=>qBp D cs
 | .tuple cs=>qBp D cs
 | .map (some i)=>D i
 | _=>True
def qBp (D:Nat→Prop):List AV→Prop
 | []=>True
 | v::vs=>qCH D v∧qBp D vs
end
theorem qAk {D:Nat→Prop}:∀{l:List AV},qBp D l↔∀v,v∈l→qCH D v
 | []=>by simp[qBp]
 | x::l=>by simp only[qBp,qAk (l:=l),List.mem_cons,forall_eq_or_imp]
theorem VR.refs {ι:Ren} {v:AV} {x:Value} (h:VR ι v x):qCH (fun i=>∃L,ι i=some L) v:=by
 have rows:∀{cs:List AV} {cs':Array Value},cs.length=cs'.size→(∀(i:Nat) v v',cs[i]? = some v→cs'[i]? = some v'→qCH (fun i=>∃L,ι i=some L) v)→qBp (fun i=>∃L,ι i=some L) cs:=fun {cs cs'} hs ih=>by
  rw[qAk];intro v hv;obtain⟨n,hn,rfl⟩:=List.getElem_of_mem hv;exact ih n _ (cs'[n]'(by omega)) (by simp[hn]) (by simp)
 induction h with
 | ptr i o L h=>exact⟨L,h⟩
 | slice i o l c' L c h hc hl=>exact⟨L,h⟩
 | clos f cs cs' hs h ih=>exact rows hs ih
 | bound f fs cs fs' cs' hs hf h g ih ig=>exact⟨rows hf ig,rows hs ih⟩
 | yield i L h=>exact⟨L,h⟩
 | iface t v v' h ih=>exact ih
 | agg cs cs' hs hc h ih=>exact rows hs ih
 | tuple cs cs' hs h ih=>exact rows hs ih
 | map i L h=>exact⟨L,h⟩
 | _=>trivial
theorem VR.fewer {ι κ:Ren} {D:Nat→Prop} (hk:∀i L,ι i=some L→D i→κ i=some L) {v:AV} {x:Value} (h:VR ι v x):qCH D v→VR κ v x:=by
 have rows:∀{cs:List AV} {cs':Array Value},qBp D cs→(∀(i:Nat) v v',cs[i]? = some v→cs'[i]? = some v'→qCH D v→VR κ v v')→∀(i:Nat) v v',cs[i]? = some v→cs'[i]? = some v'→VR κ v v':=fun {cs cs'} hr ih i v v' hv hv' =>
  ih i v v' hv hv' (qAk.1 hr v (List.mem_of_getElem? hv))
 induction h with
 | bool b=>intro _;exact .bool b
 | int k n=>intro _;exact .int k n
 | str l s h=>intro _;exact .str l s h
 | ptrN=>intro _;exact .ptrN
 | ptr i o L h=>intro hr;exact .ptr i o L (hk _ _ h hr)
 | sliceN=>intro _;exact .sliceN
 | slice i o l c' L c h hc hl=>intro hr;exact .slice i o l c' L c (hk _ _ h hr) hc hl
 | clos f cs cs' hs h ih=>intro hr;exact .clos f cs cs' hs (rows hr ih)
 | bound f fs cs fs' cs' hs hf h g ih ig=>intro hr;exact .bound f fs cs fs' cs' hs hf (rows hr.2 ih) (rows hr.1 ig)
 | yield i L h=>intro hr;exact .yield i L (hk _ _ h hr)
 | nilFunc=>intro _;exact .nilFunc
 | iface t v v' h ih=>intro hr;exact .iface t v v' (ih hr)
 | nilIface=>intro _;exact .nilIface
 | agg cs cs' hs hc h ih=>intro hr;exact .agg cs cs' hs hc (rows hr ih)
 | tuple cs cs' hs h ih=>intro hr;exact .tuple cs cs' hs (rows hr ih)
 | mapN=>intro _;exact .mapN
 | map i L h=>intro hr;exact .map i L (hk _ _ h hr)
 | slice0 a c=>intro _;exact .slice0 a c
 | gptr g o=>intro _;exact .gptr g o
 | any v=>intro _;exact .any v
def qHB (D:Nat→Prop):AO→Prop
 | .cells cs _=>qBp D cs
 | .map es _=>∀e,e∈es→qCH D e.1∧qCH D e.2.1
 | .miter (some j) _ _ _=>D j
 | .loop _ _ tm _ _ _ de=>(∀t,qCH D ((tm.m.get t).getD qAC))∧D de
 | _=>True
theorem qDh {D D':Nat→Prop} (h:∀i,D i→D' i):∀(v:AV),qCH D v→qCH D' v:=by
 intro v;refine AV.rec (motive_1:=fun v=>qCH D v→qCH D' v) (motive_2:=fun l=>qBp D l→qBp D' l) ?_ ?_ ?_ ?_ ?_ ?_ ?_ ?_ ?_ ?_ ?_ ?_ ?_ ?_ ?_ ?_ ?_ ?_ ?_ v
 all_goals intros
 all_goals first | trivial | skip
 ·rename_i a hr;cases a with | none=>trivial | some p=>exact h _ hr
 ·rename_i a l c hr;cases a with | none=>trivial | some p=>exact h _ hr
 ·rename_i ih hr;exact ih hr
 ·rename_i ih1 ih2 hr;exact⟨ih1 hr.1,ih2 hr.2⟩
 ·rename_i hr;exact h _ hr
 ·rename_i ih hr;exact ih hr
 ·rename_i ih hr;exact ih hr
 ·rename_i ih hr;exact ih hr
 ·rename_i a hr;cases a with | none=>trivial | some p=>exact h _ hr
 ·rename_i ih1 ih2 hr;exact⟨ih1 hr.1,ih2 hr.2⟩
theorem qIc {D D':Nat→Prop} (h:∀i,D i→D' i) {a:AO} (hr:qHB D a):qHB D' a:=by
 cases a with
 | cells cs rw=>exact qAk.2 fun v hv=>qDh h v (qAk.1 hr v hv)
 | map es c=>exact fun e he=>⟨qDh h _ (hr e he).1,qDh h _ (hr e he).2⟩
 | miter m a b c=>cases m with | none=>trivial | some j=>exact h _ hr
 | loop s pe tm ps as bo de=>exact⟨fun t=>qDh h _ (hr.1 t),h _ hr.2⟩
 | _=>trivial
theorem OR.refs {ι:Ren} {L:Loc} {a:AO} {o:Obj} (h:OR ι L a o):qHB (fun i=>∃L,ι i=some L) a:=by
 cases a with
 | cells cs rw =>
  obtain⟨c,e,lo,hi,rfl,q2,q3,q4,q5,q6⟩:=h;refine qAk.2 fun v hv=>?_;obtain⟨k,hk,rfl⟩:=List.getElem_of_mem hv;have hk2:L.p+k<c.size:=by omega
  exact (q5 k _ c[L.p+k] (by simp[hk]) (by simp[hk2])).refs
 | map es c =>
  obtain⟨es',rfl,q1,q2⟩:=h;intro e he;obtain⟨k,hk,rfl⟩:=List.getElem_of_mem he;obtain⟨g1,g2,_⟩:=q2 k es[k] (es'[k]'(by omega)) (by simp[hk]) (by simp);exact⟨g1.refs,g2.refs⟩
 | miter m a b c =>
  cases m with
  | none=>trivial
  | some j =>
   obtain⟨_,m',_,D,h1,_⟩:=h;exact⟨D,h1⟩
 | loop s pe tm ps as bo de =>
  obtain⟨r,rfl,_,_,hf,_,_,_,D,h1,_⟩:=h;exact⟨fun t=>(hf.2 t).refs,D,h1⟩
 | _=>trivial
theorem OR.fewer {ι κ:Ren} {D:Nat→Prop} (hk:∀i L,ι i=some L→D i→κ i=some L) {L:Loc} {a:AO} {o:Obj} (h:OR ι L a o) (hr:qHB D a):OR κ L a o:=by
 cases a with
 | cells cs rw =>
  obtain⟨c,e,lo,hi,rfl,q2,q3,q4,q5,q6⟩:=h;exact⟨c,e,lo,hi,rfl,q2,q3,q4,fun k v v' hv hv'=>(q5 k v v' hv hv').fewer hk (qAk.1 hr v (List.mem_of_getElem? hv)),q6⟩
 | map es c =>
  obtain⟨es',rfl,q1,q2⟩:=h;refine⟨es',rfl,q1,fun i x e hx he=>?_⟩;obtain⟨g1,g2,g3⟩:=q2 i x e hx he;have hm:=hr x (List.mem_of_getElem? hx);exact⟨g1.fewer hk hm.1,g2.fewer hk hm.2,g3⟩
 | miter m a b c =>
  obtain⟨h0,m',h1,h2⟩:=h;refine⟨h0,m',h1,?_⟩;cases m with
  | none=>exact h2
  | some j=>obtain⟨D',h3,h4⟩:=h2;exact⟨D',hk _ _ h3 hr,h4⟩
 | loop s pe tm ps as bo de =>
  obtain⟨r,rfl,h1,h2,hf,h4,h5,h6,D',h7,h8⟩:=h;exact⟨r,rfl,h1,h2,⟨hf.1,fun t=>(hf.2 t).fewer hk (hr.1 t)⟩,h4,h5,h6,D',hk _ _ h7 hr.2,h8⟩
 | dead=>trivial
 | defd=>exact h
 | siter s p=>exact h
def Good (S:ASt) (i:Nat):Prop:=S.next≤i∨∃b,S.h.get i=some b∧b≠.dead
theorem qL3.up {P:Program} {f:Nat} {args:List AV} {S S':ASt} {v:AV} (h:qL3 P f args S (v,S')) (hn:S.next≤S'.next)
  (hl:∀i a,S'.h.get i=some a→a≠.dead→S.h.get i=some a∨(Good S i∧qHB (Good S) a)) (hv:qCH (Good S) v):qAE P f args S (v,S'):=by
 intro B w0 ι w args' hsr hargs;obtain⟨k1,k2⟩:=h ⟨B.ro,B.ex,fun _=>False⟩ w0 ι w args' (fun _ h=>h) (hsr.lessrs (fun _ h=>h.elim)) hargs;refine⟨k1,k2.mono ?_⟩;rintro e w' ⟨x,ι',rfl,hle,g1,g2⟩;have hgood:∀i,Good S i→¬B.rs i:=fun i hg hr=>by
  obtain⟨r1,r2⟩:=hsr.res i hr;rcases hg with hg | ⟨b,hb,hd⟩
  ·omega
  ·obtain⟨L,o,q1,_⟩:=hsr.obj i b hb hd;rw[r2] at q1;cases q1
 have hdomι:∀i,(∃L,ι i=some L)→¬B.rs i:=fun i ⟨L,hL⟩ hr=>by
  rw[(hsr.res i hr).2] at hL;cases hL
 let κ:Ren:=fun i=>@ite _ (B.rs i) (Classical.propDecidable _) none (ι' i)
 have hκ:∀i L,ι' i=some L→¬B.rs i→κ i=some L:=fun i L hL hr=>by
  show (@ite _ (B.rs i) (Classical.propDecidable _) none (ι' i))=_;rw[if_neg hr];exact hL
 have hκ':∀i L,κ i=some L→ι' i=some L∧¬B.rs i:=fun i L hL=>by
  have hL:(@ite _ (B.rs i) (Classical.propDecidable _) none (ι' i))=some L:=hL
  by_cases hr:B.rs i
  ·rw[if_pos hr] at hL;cases hL
  ·rw[if_neg hr] at hL;exact⟨hL,hr⟩
 refine⟨x,κ,rfl,fun i L hL=>hκ i L (hle i L hL) (hdomι i ⟨L,hL⟩),?_,g2.fewer (D:=fun i=>¬B.rs i) hκ (qDh hgood v hv)⟩;refine⟨g1.below,g1.base,fun i a hi hd=>?_,fun i a L hi ho hL=>?_,fun i L hL=>g1.dom i L (hκ' i L hL).1,g1.hdom,fun i a L hi hd ho hL=>g1.ro i a L hi hd ho (hκ' i L hL).1,fun i hr=>⟨Nat.lt_of_lt_of_le (hsr.res i hr).1 hn,?_⟩,g1.glob⟩
 ·obtain⟨L,o,q1,q2,q3⟩:=g1.obj i a hi hd;rcases hl i a hi hd with hs | ⟨hg,hr⟩
  ·obtain⟨L0,o0,p1,p2,p3⟩:=hsr.obj i a hs hd;exact⟨L,o,hκ i L q1 (hdomι i ⟨L0,p1⟩),q2,q3.fewer (D:=fun i=>¬B.rs i) hκ (qIc hdomι p3.refs)⟩
  ·exact⟨L,o,hκ i L q1 (hgood i hg),q2,q3.fewer (D:=fun i=>¬B.rs i) hκ (qIc hgood hr)⟩
 ·obtain⟨q1,q2⟩:=g1.own i a L hi ho (hκ' i L hL).1;exact⟨q1,fun j a' L' hj hd' hL'=>q2 j a' L' hj hd' (hκ' j L' hL').1⟩
 ·show (@ite _ (B.rs i) (Classical.propDecidable _) none (ι' i))=none;rw[if_pos hr]
def qPu:ResultVar→Nat
 | .tmp t=>t
 | .cell a _=>a
theorem qKe {E:Env} {fr:AFr} {kf:List Nat} {st:ASt}:∀rs:List ResultVar,(∀r,r∈rs→qCY (qPu r) kf=true∧qPu r<fr.n)→qHA E (canF kf fr) st rs=qHA E fr st rs
 | [],_=>rfl
 | r::rs,h=>by
  have h1:=h r List.mem_cons_self;have e:((canF kf fr).m.get (qPu r)).getD qAC=(fr.m.get (qPu r)).getD qAC:=by rw[qNq,if_pos h1.2,h1.1,cond_true]
  have ih:=qKe (E:=E) (st:=st) rs fun q hq=>h q (List.mem_cons_of_mem _ hq);simp only[qHA,ih];cases r<;>(simp only[qPu] at e;simp only[e])
theorem qHm {E:Env} {fn:Func} {fr:AFr} {kf:List Nat} {st:ASt} (h:∀r,r∈fn.results.toList→qCY (qPu r) kf=true∧qPu r<fr.n):leaveA E fn (canF kf fr) st=leaveA E fn fr st:=by
 unfold leaveA;show (match qD4 fr.defs st with | some st'=>(match qHA E (canF kf fr) st' fn.results.toList with | some vs=>some (qUd vs,st') | none=>none) | none=>none)=_;cases qD4 fr.defs st with
 | none=>rfl
 | some st'=>simp only[qKe fn.results.toList h];rfl
def qQD (kf:List Nat) (fn:Func):Bool:=fn.results.toList.all fun r=>qCY (qPu r) kf && Nat.blt (qPu r) fn.ntmps
theorem qNB {kf:List Nat} {fn:Func} (h:qQD kf fn=true):∀r,r∈fn.results.toList→qCY (qPu r) kf=true∧qPu r<fn.ntmps:=fun r hr=>by
 have:=List.all_eq_true.1 h r hr;rw[Bool.and_eq_true,Nat.blt_eq] at this;exact this
theorem qAE.of_exR {P:Program} {E:Env} (hE:E.Ok P) {sum:CallT} (hs:CallsOK P sum) {f:Nat} {fn:Func} {c:Code} (hfn:E.fn.get f=some fn) (hc:fn.body=some c) {args:List AV} (hb:Nat.ble args.length fn.ntmps=true) {N:Nat} (hN:fn.ntmps=N)
  {st:ASt} (hsum:sum f args st=none) {v:AV×ASt} {kf:List Nat} (hk:qQD kf fn=true) {fls:List (Nat×Fl)} {rf fl:Fl} {n:Nat} {y:An} {Q:qz2}
  (h:((TM E sum fls rf n).ex fl none c {m:=qAM args 0 .e,n:=N,defs:=[]} st).allY (fun r=>Q (qAx kf r)) y)
  (hQ:∀e F S',Q (e,F,S')→(e=.normal∨e=.ret)∧F.n=N∧leaveA E fn F S'=some v):qAE P f args st v:=by
 subst hN;obtain⟨⟨e,fr',st'⟩,h1,h2⟩:=qSO (Tr.allY_all _ y h);obtain⟨q1,q2,q3⟩:=hQ _ _ _ h2;have q2:fr'.n=fn.ntmps:=q2;have q4:leaveA E fn (canF kf fr') st'=some v:=q3;clear q3;rw[qHm fun r hr=>by rw[q2];exact qNB hk r hr] at q4;have hcall:(M E (drawA E) sum (n+1)).call f args st=some v:=by
  show (match sum f args st with | some r=>some r | none=>qFy E (M E (drawA E) sum n).ex f args st)=some v;rw[hsum];unfold qFy;simp only[hfn,hc,hb,cond_true,h1];rcases q1 with rfl | rfl<;>exact q4
 exact fun B w0 ι w args' hsr hv=>(qSQ hE (qCa hE) hs (n+1)).call B w0 f args st v hcall ι w args' hsr hv
def bl (b:List Nat):List AV:=(List.range 256).map fun i=>qAn (b.getD i 0)
theorem qBI (b:List Nat):(bl b).length=256:=by unfold bl;simp
theorem qLR {b:List Nat} {i:Nat} (h:i<256):(bl b)[i]? = some (qAn (b.getD i 0)):=by unfold bl;rw[List.getElem?_map,List.getElem?_range h];rfl
theorem qRg (b:List Nat):∀c,c∈bl b→qAP 0 c:=fun c hc=>by unfold bl at hc;obtain⟨x,_,rfl⟩:=List.mem_map.1 hc;simp[qAn,qAP]
theorem qRn (v:AV):qCx v v=true:=by
 have loc:∀a:Option (Nat×Nat),qKo a a=true:=fun a=>by cases a<;>simp[qKo]
 have cap:∀c:Cap,qRd c c=true:=fun c=>by cases c<;>simp[qRd]
 refine AV.rec (motive_1:=fun v=>qCx v v=true) (motive_2:=fun l=>qFd l l=true) ?_ ?_ ?_ ?_ ?_ ?_ ?_ ?_ ?_ ?_ ?_ ?_ ?_ ?_ ?_ ?_ ?_ ?_ ?_ v
 ·intro b;cases b<;>rfl
 ·intro k n;simp[qCx]
 ·intro s;simp[qCx]
 ·intro a;simp[qCx,loc]
 ·intro a l c;simp[qCx,loc,cap]
 ·intro f cs ih;simp[qCx,ih]
 ·intro f fs cs ih1 ih2;simp[qCx,ih1,ih2]
 ·intro l;simp[qCx]
 ·rfl
 ·intro t v ih;simp[qCx,ih]
 ·rfl
 ·intro cs ih;simp[qCx,ih]
 ·intro cs ih;simp[qCx,ih]
 ·intro r;simp[qCx]
 ·rfl
 ·intro g o;simp[qCx]
 ·rfl
 ·rfl
 ·intro x l ih1 ih2;simp[qFd,ih1,ih2]
theorem qA1 {x:Option AV} {v:AV} {xs:List (Option AV×AV)} (h:x=some v) (hs:qAh xs):qAh ((x,v)::xs):=⟨⟨h,qRn v⟩,hs⟩
def qHC (x:Option (AV×ASt)):Option AV:=match x with | some (v,_)=>some v | none=>none
theorem qCD {x:Option (AV×ASt)} {v:AV} {S:ASt} (h:x=some (v,S)):qHC x=some v:=by rw[h];rfl
theorem qAz {x:Option ASt} {S':ASt} (h:x=some S'):Option.map (fun s=>(qAC,s)) x=some (.tuple [],S'):=by rw[h];rfl
theorem qOS {E:Env} {fn:Func} {F:AFr} {S:ASt} {a:Nat} {t:TypeId} {x v:AV} (hr:fn.results.toList=[.cell a t]) (hd:F.defs=[]) (hx:(F.m.get a).getD qAC=x) (h:qAQ E t x S=some (v,S)):leaveA E fn F S=some (v,S):=by
 unfold leaveA;rw[hd,hr];simp only[qD4,qHA,hx,h,qUd]
theorem qI3 {E:Env} {fn:Func} {F:AFr} {S:ASt} {a b:Nat} {t:TypeId} {x v y:AV} (hr:fn.results.toList=[.cell a t,.tmp b]) (hd:F.defs=[]) (hx:(F.m.get a).getD qAC=x) (h:qAQ E t x S=some (v,S)) (hy:(F.m.get b).getD qAC=y):leaveA E fn F S=some (.tuple [v,y],S):=by
 unfold leaveA;rw[hd,hr];simp only[qD4,qHA,hx,h,hy,qUd]
def Tidy (S:ASt):Prop:=∀k,S.next≤k→S.h.get k=none
theorem Tidy.lt {S:ASt} (h:Tidy S) {k:Nat} {a:AO} (hk:S.h.get k=some a):k<S.next:=by
 by_cases e:k<S.next
 ·exact e
 ·rw[h k (by omega)] at hk;cases hk
theorem Tidy.put {S:ASt} (h:Tidy S) {i:Nat} {a:AO} (hi:i<S.next):Tidy (S.put i a):=fun k hk=>by
 have hk:S.next≤k:=hk;rw[qA3 (by omega)];exact h k hk
theorem Tidy.add {S:ASt} (h:Tidy S) {a:AO}:Tidy (S.add a):=fun k hk=>by
 have hk:S.next+1≤k:=hk;rw[qAj (by omega)];exact h k (by omega)
theorem Tidy.mk {S:ASt} (h:Tidy S) {n:Nat} (hn:S.next≤n):Tidy (ASt.mk S.h n):=fun k hk=>h k (Nat.le_trans hn hk)
theorem qAu {S:ASt} {i j:Nat} {a b:AO} (h1:S.h.get i=some a) (h2:S.h.get j=some b) (h:a≠b):i≠j:=fun e=>by
 subst e;rw[h1] at h2;exact h (Option.some.inj h2)
theorem qBx {b:List Nat}:qAy (bl b) 0 256=some (bl b):=by
 have:=qHX (X:=bl b);rw[qBI] at this;exact this
def qZ1 (E:Env) (t:TypeId):Bool:=match E.ty.get t with | some ti=>Nat.beq 1 ti.size | none=>false
theorem qBk {E:Env} {t:TypeId} {S:ASt} {cs:List AV} {i j:Nat} {v:AV} (hE:qZ1 E t=true) (hS:S.h.get i=some (.cells cs true)) (hj:j<cs.length) (hv:v.isCell=true):qAL E t (.ptr (some (i,j))) v S=some (S.put i (.cells (cs.set j v) true)):=by
 obtain⟨ti,h1,h2⟩:∃ti,E.ty.get t=some ti∧Nat.beq 1 ti.size=true:=by
  unfold qZ1 at hE;cases e:E.ty.get t with
  | none=>rw[e] at hE;cases hE
  | some ti=>rw[e] at hE;exact⟨ti,rfl,hE⟩
 cases v<;>first | (simp[AV.isCell] at hv;done) | simp only[qAL,hS,h1,h2,cond_true,qSu hj]
def qYZ (E:Env) (t:TypeId):Option Nat:=match E.ty.get t with | some ti=>some ti.size | none=>none
theorem qDC {E:Env} {t:TypeId} {S:ASt} {A B C l:List AV} {i j z:Nat} (hE:qYZ E t=some z) (hl:l.length=z) (hb:B.length=z) (hj:A.length=j) (hS:S.h.get i=some (.cells (A++(B++C)) true)):qAL E t (.ptr (some (i,j))) (.agg l) S=some (S.put i (.cells (A++(l++C)) true)):=by
 obtain⟨ti,h1,h2⟩:∃ti,E.ty.get t=some ti∧ti.size=z:=by
  unfold qYZ at hE;cases e:E.ty.get t with
  | none=>rw[e] at hE;cases hE
  | some ti=>rw[e] at hE;exact⟨ti,rfl,by simpa using hE⟩
 have h3:Nat.beq l.length ti.size=true:=by rw[hl,h2];exact Nat.beq_refl z
 subst hj;simp only[qAL,hS,h1,h3,cond_true,qJ3 (show B.length=l.length by omega)]
theorem qCJ {E:Env} {t:TypeId} {S:ASt} {B l:List AV} {i z:Nat} (hE:qYZ E t=some z) (hl:l.length=z) (hb:B.length=z) (hS:S.h.get i=some (.cells B true)):qAL E t (.ptr (some (i,0))) (.agg l) S=some (S.put i (.cells l true)):=by
 have:=qDC (A:=[]) (C:=[]) (j:=0) hE hl hb rfl (by simpa using hS);simpa using this
theorem qAf.of_fst {P:Program} {E:Env} (hE:E.Ok P) {sum:CallT} (hs:CallsOK P sum) {n f:Nat} {args:List AV} {st:ASt} {v:AV} (h:qHC ((M E (drawA E) sum n).call f args st)=some v):qAf P f args st v:=by
 intro B w0 ι w args' _ hsr hv;cases hc:(M E (drawA E) sum n).call f args st with
 | none=>rw[hc] at h;cases h
 | some r =>
  rw[hc] at h;obtain⟨k1,k2⟩:=(qSQ hE (qCa hE) hs n).call B w0 f args st r hc ι w args' hsr hv;exact⟨k1,k2.mono fun e w' hp=>⟨r,Option.some.inj h,hp⟩⟩
theorem qQg {E:Env} {call round:CallT} {ex:qCy} {ro:Option Nat} {c id:Nat} {ops:Array Oper} {o:Oper} {os:List Oper} {fr fr1 fr2:AFr} {st st1:ASt} {x:Operand} {isS:Bool} {v u:AV} (h0:ops.toList=o::os) (h1:o.op=.next x isS) (hv:evA fr x=some v)
  (h2:qIT c v st=some (u,st1)) (h3:fr.put o.dst u=some fr1) (h4:qOi (step E call round (o::os)) os fr1 st1=some (fr2,st1)):qCN E call round ex ro c (.region id ops false) fr st=some (.normal,fr2,st1):=by
 simp only[qCN,h0,h1,hv,h2,h3,h4]
theorem qJk (n:Nat):∀l:List Nat,qCY n l=decide (n∈l)
 | []=>rfl
 | m::l=>by
  unfold qCY;rw[qJk n l]
  by_cases h:n=m
  ·subst h;simp
  ·rw[qO6 h];simp[h]
theorem Trip.seqAny {P:Program} {kb:Nat} {ro:Option Nat} {fr:AFr} {st:ASt} {Q:qz2} {E:Env} (hE:E.Ok P) {sum:CallT} (hs:CallsOK P sum) {n:Nat} {x:Operand} {v:AV} (hv:evA fr x=some v)
  {i j since ck:Nat} {seen:List Nat} {cs:qHE} (hcs:qEB v st=some (i,j,since,seen,ck,cs)) (hne:cs≠[]) {a b:Code} (hl:qCO a=some x)
  (h:∀c e,cs[c]? = some e→∃F S',qCN E (M E (drawA E) sum n).call (M E (drawA E) sum n).round (M E (drawA E) sum n).ex ro c a fr st=some (.normal,F,S')∧Trip P kb ro b F S' Q):Trip P kb ro (.seq a b) fr st Q:=fun B w0 κ hb ι w ac rl hk h1 h2 h3=>by
 have hm:=qSQ hE (qCa hE) hs n;have hall:∀c,c<cs.length→∃e,cs[c]? = some e:=fun c hc=>⟨cs[c],by simp[hc]⟩;refine wpIn_seq (wpIn_mono (qQf (B:=B) (w0:=w0) hE (hm.ex B w0) (hm.call B w0) (hm.round B w0) (h3.mono hk) hv hcs hne h1 h2 a hl (fun c hc=>?_)) ?_)
 ·obtain⟨e,he⟩:=hall c hc;obtain⟨F,S',q1,_⟩:=h c e he;exact⟨_,q1⟩
 ·rintro e a' w' ⟨c,r,hc,q1,he,ι',g1,g2,g3⟩;obtain⟨e0,he0⟩:=hall c hc;obtain⟨F,S',p1,p2⟩:=h c e0 he0;rw[p1] at q1;cases q1;simp only at he;subst he;exact p2 B w0 κ hb ι' w' a' rl (Ren.le_trans hk g1) g2 g3 h3
end
end Go.Ax
end
