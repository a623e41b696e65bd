/-
  OWN WORK, A PART: an abstract machine for the program's text that the kernel can run, and the proof that it is sound: what it answers is what the program answers; contracts of functions by it. No condition.
-/
import Derived.Test.YtiafochainjglaaGreatDoorWaF
import Derived.Test.YtiafochainjglaaGreatDoorMtH
import Derived.KernelRfl
section
namespace Go.Ax
noncomputable section
open Go.RowKit
def Through (g:Nat→Nat) (ι κ:Ren):Prop:=∀j L,ι j=some L→κ (g j)=some L
def BackV (g:Nat→Nat) (v v':AV):Prop:=∀ι κ x,Through g ι κ→VR ι v x→VR κ v' x
def BackO (g:Nat→Nat) (a a':AO):Prop:=a'.own=a.own∧∀ι κ L o,Through g ι κ→OR ι L a o→OR κ L a' o
mutual
def mapV (g:Nat→Nat):AV→AV
 | .ptr (some (i,o))=>.ptr (some (g i,o))
 | .slice (some (i,o)) l c=>.slice (some (g i,o)) l c
 | .clos f cs=>.clos f (mapVs g cs)
 | .bound f fs cs=>.bound f (mapVs g fs) (mapVs g cs)
 | .yield i=>.yield (g i)
 | .iface t v=>.iface t (mapV g v)
 | .agg cs=>.agg (mapVs g cs)
 | .tuple cs=>.tuple (mapVs g cs)
 | .map (some i)=>.map (some (g i))
 | v=>v
def mapVs (g:Nat→Nat):List AV→List AV
 | []=>[]
 | v::vs=>mapV g v::mapVs g vs
end
theorem mapVs_map (g:Nat→Nat):∀l:List AV,mapVs g l=l.map (mapV g)
 | []=>rfl
 | v::vs=>by rw[mapVs,mapVs_map g vs];rfl
theorem mapV_cell {g:Nat→Nat} {v:AV} (h:v.isCell=true):(mapV g v).isCell=true:=by
 cases v with
 | ptr a=>cases a with | none=>rfl | some p=>rfl
 | slice a l c=>cases a with | none=>rfl | some p=>rfl
 | map a=>cases a with | none=>rfl | some p=>rfl
 | agg _=>cases h
 | tuple _=>cases h
 | any=>cases h
 | _=>rfl
theorem VR.through {g:Nat→Nat} {ι κ:Ren} (ht:Through g ι κ) {v:AV} {x:Value} (h:VR ι v x):VR κ (mapV g v) x:=by
 have rows:∀{cs:List AV} {cs':Array Value},cs.length=cs'.size→(∀(i:Nat) v v',cs[i]? = some v→cs'[i]? = some v'→VR κ (mapV g v) v') →
   (mapVs g cs).length=cs'.size∧∀(i:Nat) v v',(mapVs g cs)[i]? = some v→cs'[i]? = some v'→VR κ v v':=fun {cs cs'} hs ih=>by
  rw[mapVs_map]
  refine⟨by rw[List.length_map];exact hs,fun i v v' hv hv'=>?_⟩
  rw[List.getElem?_map,Option.map_eq_some_iff] at hv
  obtain⟨a,h1,rfl⟩:=hv
  exact ih i a v' h1 hv'
 induction h with
 | bool b=>exact .bool b
 | int k n=>exact .int k n
 | str l s h=>exact .str l s h
 | ptrN=>exact .ptrN
 | ptr i o L h=>exact .ptr _ o L (ht _ _ h)
 | sliceN=>exact .sliceN
 | slice i o l c' L c h hc hl=>exact .slice _ o l c' L c (ht _ _ h) hc hl
 | clos f cs cs' hs h ih=>obtain⟨a,b⟩:=rows hs ih;exact .clos f _ cs' a b
 | bound f fs cs fs' cs' hs hf h g' ih ig=>obtain⟨a,b⟩:=rows hs ih;obtain⟨c,d⟩:=rows hf ig;exact .bound f _ _ fs' cs' a c b d
 | yield i L h=>exact .yield _ L (ht _ _ h)
 | nilFunc=>exact .nilFunc
 | iface t v v' h ih=>exact .iface t _ v' ih
 | nilIface=>exact .nilIface
 | agg cs cs' hs hc h ih =>
  obtain⟨a,b⟩:=rows hs ih
  refine .agg _ cs' a (fun v hv=>?_) b
  rw[mapVs_map] at hv
  obtain⟨y,hy,rfl⟩:=List.mem_map.1 hv
  exact mapV_cell (hc y hy)
 | tuple cs cs' hs h ih=>obtain⟨a,b⟩:=rows hs ih;exact .tuple _ cs' a b
 | mapN=>exact .mapN
 | map i L h=>exact .map _ L (ht _ _ h)
 | slice0 a c=>exact .slice0 a c
 | gptr g o=>exact .gptr g o
 | any v=>exact .any v
theorem BackV.keep {g:Nat→Nat} {v:AV} (h:refsV 0 v):BackV g v v:=fun _ _ _ _ hv=>hv.noRef h
theorem BackO.map {g:Nat→Nat} {es es':List (AV×AV×Nat)} {c:Nat} (h:es.map (fun x=>(mapV g x.1,mapV g x.2.1,x.2.2))=es'):BackO g (.map es c) (.map es' c):=by
 subst h
 refine⟨rfl,fun ι κ L o ht ⟨e,q1,q2,q3⟩=>⟨e,q1,by rw[List.length_map];exact q2,fun i x y hx hy=>?_⟩⟩
 rw[List.getElem?_map,Option.map_eq_some_iff] at hx
 obtain⟨a,h1,rfl⟩:=hx
 obtain⟨h2,h3,h4⟩:=q3 i a y h1 hy
 exact⟨h2.through ht,h3.through ht,h4⟩
structure View2 (src:Src) (S S1:ASt):Prop where
 next:S1.next=src.length
 live:∀(j:Nat) i o w,src[j]? = some (some (i,o,w))→(w=true→o=0)∧∃a,S.h.get i=some a∧a≠.dead
 dom:∀j x,S1.h.get j=some x→j<src.length
 obj:∀j x,S1.h.get j=some x→x≠.dead→∃i o w a,src[j]? = some (some (i,o,w))∧S.h.get i=some a∧a≠.dead∧(x.own=true→a.own=true∧w=true)∧∀ι L ob,OR ι L a ob→OR (renS src ι) (L.sh o) x ob
 uniq:∀j j' x i o w o' w',S1.h.get j=some x→x.own=true→src[j]? = some (some (i,o,w))→src[j']? = some (some (i,o',w'))→j'=j
def outS (g:Nat→Nat) (outs:List (Nat×AO)) (S:ASt) (n:Nat):ASt:={h:=outs.foldl (fun h p=>h.set D (g p.1) p.2) S.h,next:=n}
theorem outs_get {g:Nat→Nat}:∀(outs:List (Nat×AO)) (h:T AO) (i:Nat) (a:AO),(outs.foldl (fun h p=>h.set D (g p.1) p.2) h).get i=some a →
  (∃p,p∈outs∧g p.1=i∧p.2=a)∨(h.get i=some a∧∀p,p∈outs→g p.1≠i)
 | [],h,i,a,hi=>.inr ⟨hi,fun p hp=>by cases hp⟩
 | p::ps,h,i,a,hi=>by
  rcases outs_get ps _ i a hi with⟨q,h1,h2,h3⟩ | ⟨h1,h2⟩
  ·exact .inl ⟨q,List.mem_cons_of_mem _ h1,h2,h3⟩
  ·rw[T.get_set] at h1
   by_cases e:i=g p.1
   ·simp only[e,if_true,Option.some.injEq] at h1
    exact .inl ⟨p,List.mem_cons_self,e.symm,h1⟩
   ·simp only[e,if_false] at h1
    refine .inr ⟨h1,fun q hq=>?_⟩
    rcases List.mem_cons.1 hq with rfl | hq
    ·exact fun h=>e h.symm
    ·exact h2 q hq
structure Back (src:Src) (S S1:ASt) (outs:List (Nat×AO)) (n:Nat) (q:AV×ASt) (v:AV):Prop where
 val:BackV (gS src S.next) q.1 v
 next:S.next+q.2.next≤n∧S.next+src.length≤n
 out:∀p,p∈outs→gS src S.next p.1<n∧(p.1<src.length→∃x,S1.h.get p.1=some x∧x.own=true)∧(p.2=.dead∨p.2.own=true∧∃a,q.2.h.get p.1=some a∧BackO (gS src S.next) a p.2)
 all:∀j x,S1.h.get j=some x→x.own=true→∃p,p∈outs∧p.1=j
theorem own_nd {x:AO} (h:x.own=true):x≠.dead:=by intro e;subst e;cases h
theorem Call1.frame {P:Program} {f:Nat} {args args1:List AV} {S S1:ASt} {Q1:AV×ASt→Prop}
  (hrun:∀B w0 ι w args',(∀i,¬B.rs i)→SR B w0 ι S1 w→VRs ι args1 args'→(callFunc f args').run P w=.ok (.enter f args') w∧CallsIn Fence.wide 0 P f args' w fun e w'=>∃v,Q1 v∧Post B w0 ι v e w')
  {src:Src} (hview:View2 src S S1) (ha:∀ι args',VRs ι args args'→VRs (renS src ι) args1 args')
  {outs:List (Nat×AO)} {n:Nat} {v:AV} (hback:∀q,Q1 q→Back src S S1 outs n q v):Call1 P f args S (v,outS (gS src S.next) outs S n):=by
 intro B w0 ι w args' hsr hv
 let own1:Nat→Prop:=fun b=>∃j x i o w' L,S1.h.get j=some x∧x.own=true∧src[j]? = some (some (i,o,w'))∧ι i=some L∧L.b=b
 let B1:Prot:=⟨fun k=>k<w.heap.size∧¬own1 k,fun k=>k<w.heap.size∧¬own1 k,fun _=>False⟩
 have hall:∀k,B1.all k↔k<w.heap.size∧¬own1 k:=fun k=>⟨fun h=>by rcases h with h | h<;>exact h,.inl⟩
 have hren:∀{j L},renS src ι j=some L→∃i o w' L0,src[j]? = some (some (i,o,w'))∧ι i=some L0∧L=L0.sh o:=fun {j L} h=>by
  unfold renS at h
  split at h
  ·rename_i i o w' hs
   split at h
   ·rename_i L0 h0
    cases h
    exact⟨i,o,w',L0,hs,h0,rfl⟩
   ·cases h
  ·cases h
 have hat:∀{i:Nat} {a:AO},S.h.get i=some a→a≠.dead→∃L,ι i=some L∧L.b<w.heap.size:=fun {i a} hi hd=>by
  obtain⟨L,o,h1,h2,_⟩:=hsr.obj i a hi hd
  exact⟨L,h1,(Array.getElem?_eq_some_iff.1 h2).1⟩
 -- no object of the great memory but the one that is handed over lies in its block
 have apart:∀{i:Nat} {a:AO} {L:Loc},S.h.get i=some a→a≠.dead→ι i=some L→(∀j x o w',S1.h.get j=some x→x.own=true→src[j]?≠some (some (i,o,w')))→B1.all L.b:=fun {i a L} hi hd hL hne=>by
  obtain⟨L',h1,h2⟩:=hat hi hd
  rw[hL] at h1;cases h1
  refine (hall _).2 ⟨h2,?_⟩
  rintro ⟨j,x,i',o',w',L',g1,g2,g3,g4,g5⟩
  obtain⟨i2,o2,w2,a2,k1,k2,k3,k4,k5⟩:=hview.obj j x g1 (own_nd g2)
  rw[g3] at k1;cases k1
  exact hne j x o' w' g1 g2 (((hsr.own i' a2 L' k2 (k4 g2).1 g4).2 i a L hi hd hL g5.symm)▸g3)
 have hB:∀k,B.all k→B1.all k:=fun k hk=>(hall k).2 ⟨hsr.base k hk,by
  rintro ⟨j,x,i',o',w',L',g1,g2,g3,g4,g5⟩
  obtain⟨i2,o2,w2,a2,k1,k2,k3,k4,k5⟩:=hview.obj j x g1 (own_nd g2)
  rw[g3] at k1;cases k1
  exact (hsr.own i' a2 L' k2 (k4 g2).1 g4).1 (g5▸hk)⟩
 have hsr1:SR B1 w (renS src ι) S1 w:=by
  refine⟨Keeps.refl _ _,fun k hk=>((hall k).1 hk).1,fun j x hj hd=>?_,fun j x L hj ho hL=>?_,fun j L hL=>?_,fun j x hj=>?_,fun j x L hj hd ho hL=>?_,fun i hi=>hi.elim,fun g cs hg=>⟨hB g (hsr.glob g cs hg).1,hsr.globw g cs hg⟩⟩
  ·obtain⟨i,o,w',a,k1,k2,k3,k4,k5⟩:=hview.obj j x hj hd
   obtain⟨L,ob,q1,q2,q3⟩:=hsr.obj i a k2 k3
   exact⟨L.sh o,ob,by simp only[renS,k1,q1],q2,k5 ι L ob q3⟩
  ·obtain⟨i,o,w',a,k1,k2,k3,k4,k5⟩:=hview.obj j x hj (own_nd ho)
   obtain⟨i',o2,w2,L0,k1',hL',rfl⟩:=hren hL
   rw[k1] at k1';cases k1'
   refine⟨fun hk=>((hall _).1 hk).2 ⟨j,x,i,o,w',L0,hj,ho,k1,hL',rfl⟩,fun j' x' L' hj' hd' hL2 hb=>?_⟩
   obtain⟨i2,o3,w3,a2,m1,m2,m3,m4,m5⟩:=hview.obj j' x' hj' hd'
   obtain⟨i3,o4,w4,L3,m1',hL3,rfl⟩:=hren hL2
   rw[m1] at m1';cases m1'
   have:=(hsr.own i a L0 k2 (k4 ho).1 hL').2 i2 a2 L3 m2 m3 hL3 hb
   subst this
   exact hview.uniq j j' x _ _ _ _ _ hj ho k1 m1
  ·obtain⟨i,o,w',L0,h1,_⟩:=hren hL
   rw[hview.next];exact (List.getElem?_eq_some_iff.1 h1).1
  ·rw[hview.next];exact hview.dom j x hj
  ·obtain⟨i,o,w',a,k1,k2,k3,k4,k5⟩:=hview.obj j x hj hd
   obtain⟨i',o2,w2,L0,k1',hL',rfl⟩:=hren hL
   rw[k1] at k1';cases k1'
   obtain⟨L1,g1,g2⟩:=hat k2 k3
   rw[hL'] at g1;cases g1
   refine⟨g2,?_⟩
   rintro ⟨j2,x2,i2,o3,w3,L2,m1,m2,m3,m4,m5⟩
   obtain⟨i3,o4,w4,a3,p1,p2,p3,p4,p5⟩:=hview.obj j2 x2 m1 (own_nd m2)
   rw[m3] at p1;cases p1
   have:=(hsr.own i2 a3 L2 p2 (p4 m2).1 m4).2 i a L0 k2 k3 hL' m5.symm
   subst this
   have:=hview.uniq j2 j x2 _ _ _ _ _ m1 m2 m3 k1
   subst this
   rw[hj] at m1;cases m1
   rw[ho] at m2;cases m2
 obtain⟨k1,k2⟩:=hrun B1 w (renS src ι) w args' (fun _ h=>h) hsr1 (ha ι args' hv)
 refine⟨k1,k2.mono ?_⟩
 rintro e w' ⟨q,hq,x,ι1,rfl,hle,hs,hx⟩
 have hb:=hback q hq
 obtain⟨v1,T1⟩:=q
 simp only at hs hx
 have hn1:S.next+T1.next≤n:=hb.next.1
 let κ:Ren:=fun i=>if i<S.next then ι i else ι1 (i - S.next)
 have hκ:ι.le κ:=fun i L h=>by
  have:=hsr.dom i L h
  show (if i<S.next then ι i else _)=some L
  rw[if_pos this];exact h
 have through:Through (gS src S.next) ι1 κ:=fun j L hL=>by
  unfold gS
  split
  ·rename_i i o hs2
   obtain⟨h0,a,h1,h2⟩:=hview.live j i o true hs2
   obtain⟨L',h3,_⟩:=hat h1 h2
   have h4:renS src ι j=some (L'.sh o):=by simp only[renS,hs2,h3]
   have h5:=hle j _ h4
   rw[hL] at h5;cases h5
   rw[h0 rfl]
   exact hκ i L' h3
  ·show (if S.next+j<S.next then _ else ι1 (S.next+j - S.next))=some L
   rw[if_neg (by omega),Nat.add_sub_cancel_left]
   exact hL
 refine⟨x,κ,rfl,hκ,?_,hb.val ι1 κ x through hx⟩
 have hcase:∀i a,(outS (gS src S.next) outs S n).h.get i=some a→a≠.dead →
   (∃j a1 L o,gS src S.next j=i∧T1.h.get j=some a1∧a1≠.dead∧a.own=true∧a1.own=true∧ι1 j=some L∧κ i=some L∧w'.heap[L.b]? = some o∧OR κ L a o) ∨
   (S.h.get i=some a∧∃L,ι i=some L∧κ i=some L∧B1.all L.b):=fun i a hi hd=>by
  rcases outs_get outs S.h i a hi with⟨p,p1,p2,p3⟩ | ⟨h1,h2⟩
  ·subst p3
   obtain⟨_,_,hh | ⟨g1,a1,g2,g3,g4⟩⟩:=hb.out p p1
   ·exact absurd hh hd
   ·have hd1:a1≠.dead:=by intro e;subst e;rw[g1] at g3;cases g3
    obtain⟨L,o,q1,q2,q3⟩:=hs.obj p.1 a1 g2 hd1
    exact .inl ⟨p.1,a1,L,o,p2,g2,hd1,g1,g3.symm.trans g1,q1,p2▸through _ _ q1,q2,g4 ι1 κ L o through q3⟩
  ·obtain⟨L,q1,q2⟩:=hat h1 hd
   refine .inr ⟨h1,L,q1,hκ i L q1,apart h1 hd q1 fun j x o w' hj ho he=>?_⟩
   obtain⟨p,p1,rfl⟩:=hb.all j x hj ho
   obtain⟨i2,o2,w2,a2,m1,m2,m3,m4,m5⟩:=hview.obj p.1 x hj (own_nd ho)
   rw[he] at m1;cases m1
   have hw:=(m4 ho).2
   subst hw
   exact h2 p p1 (by simp only[gS,he])
 refine⟨?_,?_,fun i a hi hd=>?_,fun i a L hi ho hL=>?_,fun i L hL=>?_,fun i a hi=>?_,fun i a L hi hd ho hL=>?_,fun i hi=>?_,hsr.glob⟩
 ·exact hsr.below.trans ⟨hs.below.os,hs.below.tape,hs.below.output,hs.below.size,fun k hk=>hs.below.block k (hB k hk)⟩
 ·exact fun k hk=>Nat.lt_of_lt_of_le (hsr.base k hk) hs.below.size
 ·rcases hcase i a hi hd with⟨j,a1,L,o,_,_,_,_,_,_,q1,q2,q3⟩ | ⟨h1,L,q1,q2,q3⟩
  ·exact⟨L,o,q1,q2,q3⟩
  ·obtain⟨L',o,m1,m2,m3⟩:=hsr.obj i a h1 hd
   rw[q1] at m1;cases m1
   exact⟨L,o,q2,(hs.below.block _ q3).trans m2,m3.mono hκ⟩
 ·have hd:a≠.dead:=by intro e;subst e;cases ho
  rcases hcase i a hi hd with⟨j,a1,L',o,e1,g1,g2,g3,g4,g5,g6,g7,g8⟩ | ⟨h1,L',q1,q2,q3⟩
  ·rw[hL] at g6;cases g6
   obtain⟨n1,n2⟩:=hs.own j a1 L g1 g4 g5
   refine⟨fun hk=>n1 (hB _ hk),fun i' a' L2 hi' hd' hL' hbb=>?_⟩
   rcases hcase i' a' hi' hd' with⟨j',a1',L3,o',e1',g1',g2',g3',g4',g5',g6',g7',g8'⟩ | ⟨h1',L3,q1',q2',q3'⟩
   ·rw[hL'] at g6';cases g6'
    have:=n2 j' a1' L2 g1' g2' g5' hbb
    subst this
    rw[←e1',←e1]
   ·rw[hL'] at q2';cases q2'
    rw[hbb] at q3'
    exact absurd q3' n1
  ·rw[hL] at q2;cases q2
   obtain⟨n1,n2⟩:=hsr.own i a L h1 ho q1
   refine⟨n1,fun i' a' L2 hi' hd' hL' hbb=>?_⟩
   rcases hcase i' a' hi' hd' with⟨j',a1',L3,o',e1',g1',g2',g3',g4',g5',g6',g7',g8'⟩ | ⟨h1',L3,q1',q2',q3'⟩
   ·rw[hL'] at g6';cases g6'
    have:=(hs.own j' a1' L2 g1' g4' g5').1
    rw[hbb] at this
    exact absurd q3 this
   ·rw[hL'] at q2';cases q2'
    exact n2 i' a' L2 h1' hd' q1' hbb
 ·have hL:(if i<S.next then ι i else ι1 (i - S.next))=some L:=hL
  show i<n
  by_cases e:i<S.next
  ·omega
  ·rw[if_neg e] at hL
   have:=hs.dom _ _ hL
   omega
 ·show i<n
  rcases outs_get outs S.h i a hi with⟨p,p1,p2,p3⟩ | ⟨h1,_⟩
  ·have:=(hb.out p p1).1
   omega
  ·have:=hsr.hdom i a h1
   omega
 ·rcases hcase i a hi hd with⟨j,a1,L',o,e1,g1,g2,g3,_⟩ | ⟨h1,L',q1,q2,q3⟩
  ·rw[ho] at g3;cases g3
  ·rw[hL] at q2;cases q2
   exact hsr.ro i a L h1 hd ho q1
 ·obtain⟨h1,h2⟩:=hsr.res i hi
  refine⟨?_,?_⟩
  ·show i<n
   omega
  ·show (if i<S.next then ι i else _)=none
   rw[if_pos h1];exact h2
end
end Go.Ax
namespace Go.Ax
noncomputable section
open Go.RowKit
theorem Call2.of_stops {P:Program} {E:Env} (hE:E.Ok P) {f:Nat} {fn:Func} {c:Code} (hfn:E.fn.get f=some fn) (hc:fn.body=some c) {args:List AV} (hb:Nat.ble args.length fn.ntmps=true) {N:Nat} {st:ASt} {v:AV×ASt} {e:Exit} {F:AFr} {S':ASt}
  (h:Trip P st.next none c {m:=putArgs args 0 .e,n:=N,defs:=[]} st (Stops st.next e F S')) (he:e=.normal∨e=.ret) (hl:leaveA E fn F S'=some v) (hN:fn.ntmps=N):Call2 P f args st v:=by
 subst hN
 exact Call2.of_trip hE hfn hc hb (Trip.weak h fun r hr=>⟨F,S',hr.2,by rw[hr.1];exact he,hl⟩)
theorem AtMem.of_fst {P:Program} {E:Env} (hE:E.Ok P) {sum:CallT} (hs:CallsOK P sum) {n f:Nat} {args:List AV} {st:ASt} {v:AV} (h:fstO ((M E (drawA E) sum n).call f args st)=some v):AtMem P f args st v:=by
 intro B w0 ι w args' _ hsr hv
 cases hc:(M E (drawA E) sum n).call f args st with
 | none=>rw[hc] at h;cases h
 | some r =>
  rw[hc] at h
  obtain⟨k1,k2⟩:=(M_ok hE (drawA_ok hE) hs n).call B w0 f args st r hc ι w args' hsr hv
  exact⟨k1,k2.mono fun e w' hp=>⟨r,Option.some.inj h,hp⟩⟩
end
end Go.Ax
end

section
open Go Go.Ax Go.Proofs
namespace Go.Proofs.YtiafochainjglaaGreatDoor.drp.pu
set_option linter.unusedVariables false
noncomputable def fnsY2:List (Nat×Func):=[(24,Tryz.f24),(11,Tryz.f11),(53,Tryz.f53),(120,Tryz.f120)]
noncomputable def EY2:Env:=envEx Tryz.prog [0,3,4,5,23,24,25,27,28,29,30,31,32,33,34,35,36,37,43] fnsY2 []
noncomputable def fnsPu:List (Nat×Func):=[(16,Tryz.f16),(41,Tryz.f41),(43,Tryz.f43)]
noncomputable def EPu:Env:=envEx Tryz.prog [0,3,4,5,23,24,25,27,28,29,30,31,32,33,34,35,36,37,43,53,54,60,111,117] fnsPu []
def mG (b s:Int) (c:Bool) (x:Nat→Nat) (Z:Nat→Int) (t:Nat) (mk:Bool) (se nu ho:Nat):List AV:=.int .i64 b::([.int .i64 s,.bool c,.int .u64 (.ofNat (x 1)),.int .u64 (.ofNat (x 2)),.int .u64 (.ofNat (x 3)),.int .u64 (.ofNat (x 4)),.int .u64 (.ofNat (x 5))]++(cd6.tL Z++[.int .u64 (.ofNat t),.bool mk,.int .u64 (.ofNat se),.int .u64 (.ofNat nu),.int .u16 (.ofNat ho)]))
def sG (s:Int) (c:Bool) (x:Nat→Nat):List AV:=[.int .i64 s,.bool c,.int .u64 (.ofNat (x 1)),.int .u64 (.ofNat (x 2)),.int .u64 (.ofNat (x 3)),.int .u64 (.ofNat (x 4)),.int .u64 (.ofNat (x 5))]
noncomputable def cPu:Code:=Option.getD Tryz.f16.body .skip
noncomputable def LPu:Code:=lopB (blkB (seqR (seqL (dropC 6 cPu))))
noncomputable def cBk:Code:=Option.getD Tryz.f43.body .skip
noncomputable def cSm:Code:=Option.getD Tryz.f41.body .skip
noncomputable def LSm:Code:=lopB (blkB (seqR (seqL (dropC 1 cSm))))
noncomputable def tMO (q:CallT) (b s:Int) (c:Bool) (x:Nat→Nat) (Z:Nat→Int) (t:Nat) (mk:Bool) (se nu ho:Nat) (a1 a2 a3 a4 a5 a6 a7 a8:Bool):Tr (AV×ASt):=(TM EY2 (onlyC [76,77,58,48,49,50] q) [(24,⟨[6,10,15,20,28,36,41,45],[],[6,10,15,20,28,32,36,41],[]⟩)] fl0 60).call 24 [.agg (mG b s c x Z t mk se nu ho)] (mkSt [] 1)
noncomputable def tMR (q:CallT) (b s:Int) (c:Bool) (x:Nat→Nat) (Z:Nat→Int) (t:Nat) (mk:Bool) (se nu ho:Nat) (a1 a2 a3 a4 a5 a6 a7 a8:Bool):Tr (AV×ASt):=(TM EY2 (onlyC [76,77,58,48,49,50] q) [(11,⟨[5,9,14,20,28,35,40,44],[],[5,9,14,20,28,31,35,40],[]⟩)] fl0 60).call 11 [.agg (mG b s c x Z t mk se nu ho)] (mkSt [] 1)
noncomputable def tCa (q:CallT) (d n:Nat) (z:Int) (S:ASt):Tr (AV×ASt):=(TM EY2 (onlyC [73] q) [(53,⟨[7,8],[11,15],[],[]⟩),(120,⟨[4,7],[],[],[]⟩)] fl0 60).call 53 [.ptr (some (d,0)),.int .i64 z] S
noncomputable def tCb (q:CallT) (d n:Nat) (z:Int) (S:ASt):Tr (AV×ASt):=(TM EY2 (onlyC [73] q) [(53,⟨[7,8],[11,15],[],[]⟩),(120,⟨[4,7],[],[],[]⟩)] fl0 60).call 53 [.ptr (some (d,0)),.int .i64 z] S
noncomputable def tCc (q:CallT) (d n j:Nat) (S:ASt):Tr (AV×ASt):=(TM EY2 (onlyC [73] q) [(53,⟨[7,8,12,17,18],[11,15],[],[]⟩),(120,⟨[4,7,10],[],[],[]⟩)] fl0 60).call 53 [.ptr (some (d,0)),.int .i64 (.ofNat j)] S
noncomputable def tPa (q:CallT) (b s:Int) (c:Bool) (x:Nat→Nat) (Z:Nat→Int) (t:Nat) (mk:Bool) (se nu ho:Nat) (d k0:Nat) (S S1:ASt):Tr (Exit×AFr×ASt):=(TM EPu (onlyC [53,24,60,61,62,63,19,40] q) [] fl0 60).ex ⟨[3,12,13,22,23,6,28,29,35,37,38,43,45,46,49,50,52,53,54,56,58,59,60,61,63,65,8,68,73,69,75,4095,4094],[],[],[]⟩ none cPu {m:=putArgs [.ptr (some (d,0)),.agg (mG b s c x Z t mk se nu ho)] 0 .e,n:=76,defs:=[]} S
noncomputable def tPb (q:CallT) (b s:Int) (c:Bool) (x:Nat→Nat) (Z:Nat→Int) (t:Nat) (mk:Bool) (se nu ho:Nat) (d k0:Nat) (S S1:ASt):Tr (Exit×AFr×ASt):=(TM EPu (onlyC [53,24,60,61,62,63,19,40] q) [] fl0 60).ex ⟨[3,12,13,22,23,6,28,29,35,37,38,43,45,46,49,50,52,53,54,56,58,59,60,61,63,65,8,68,73,69,75,4095,4094],[],[],[]⟩ none cPu {m:=putArgs [.ptr (some (d,0)),.agg (mG b s c x Z t mk se nu ho)] 0 .e,n:=76,defs:=[]} S
noncomputable def tPc (q:CallT) (k t se nu ho:Nat) (x y:Nat→Nat) (c mk:Bool) (d k0 k1:Nat) (B0 B2:List Nat) (S S1 S2 S3 S4:ASt):Tr (Exit×AFr×ASt):=(TM EPu (onlyC [53,24,60,61,62,63,19,40] q) [] fl0 60).ex ⟨[3,12,13,22,23,6,28,29,35,37,38,43,45,46,49,50,52,53,54,56,58,59,60,61,63,65,8,68,73,69,75,4095,4094],[],[],[]⟩ none (preC 4 cPu) {m:=putArgs [.ptr (some (d,0)),.agg (mL k x c y t mk se nu ho)] 0 .e,n:=76,defs:=[]} S
noncomputable def tPd (q:CallT) (d k0 k1 se:Nat) (B4:List Nat) (S S1:ASt):Tr (Exit×AFr×ASt):=(TM EPu (onlyC [53,24,60,61,62,63,19,40] q) [] fl0 60).ex ⟨[3,12,13,22,23,6,28,29,35,37,38,43,45,46,49,50,52,53,54,56,58,59,60,61,63,65,8,68,73,69,75,4095,4094],[],[],[]⟩ none (seqL (dropC 4 cPu)) (xFr [(0,.ptr (some (d,0))),(3,.ptr (some (k0,0))),(6,.ptr (some (k1,0)))] 76) S
noncomputable def tPe (d k0 k1:Nat) (S:ASt):Tr (Exit×AFr×ASt):=(TM EPu noSum [] fl0 60).ex ⟨[3,12,13,22,23,6,28,29,35,37,38,43,45,46,49,50,52,53,54,56,58,59,60,61,63,65,8,68,73,69,75,4095,4094],[],[],[]⟩ none (seqL (dropC 4 cPu)) (xFr [(0,.ptr (some (d,0))),(3,.ptr (some (k0,0))),(6,.ptr (some (k1,0)))] 76) S
noncomputable def tPf (q:CallT) (d k0 k1 nu ho:Nat) (BL:List Nat) (S S1:ASt):Tr (Exit×AFr×ASt):=(TM EPu (onlyC [53,24,60,61,62,63,19,40] q) [] fl0 60).ex ⟨[3,12,13,22,23,6,28,29,35,37,38,43,45,46,49,50,52,53,54,56,58,59,60,61,63,65,8,68,73,69,75,4095,4094],[],[],[]⟩ none (seqL (dropC 5 cPu)) (xFr [(0,.ptr (some (d,0))),(3,.ptr (some (k0,0))),(6,.ptr (some (k1,0)))] 76) S
noncomputable def tPg (d k0 k1 nu:Nat) (S:ASt):Tr (Exit×AFr×ASt):=(TM EPu noSum [] fl0 60).ex ⟨[3,12,13,22,23,6,28,29,35,37,38,43,45,46,49,50,52,53,54,56,58,59,60,61,63,65,8,68,73,69,75,4095,4094],[],[],[]⟩ none (seqL (dropC 5 cPu)) (xFr [(0,.ptr (some (d,0))),(3,.ptr (some (k0,0))),(6,.ptr (some (k1,0)))] 76) S
noncomputable def tPh (d k0 k1:Nat) (R:List AV) (S:ASt):Tr (Exit×AFr×ASt):=(TM EPu noSum [] fl0 60).ex ⟨[3,12,13,22,23,6,28,29,35,37,38,43,45,46,49,50,52,53,54,56,58,59,60,61,63,65,8,68,73,69,75,4095,4094],[],[],[]⟩ none (seqL (seqL (dropC 6 cPu))) (xFr [(0,.ptr (some (d,0))),(3,.ptr (some (k0,0))),(6,.ptr (some (k1,0)))] 76) S
noncomputable def tPi (q:CallT) (d i k2:Nat) (B:List Nat) (R:List AV) (S S1 S2 S3:ASt):Tr (Exit×AFr×ASt):=(TM EPu (onlyC [53,24,60,61,62,63,19,40] q) [] fl0 60).ex ⟨[3,12,13,22,23,6,28,29,35,37,38,43,45,46,49,50,52,53,54,56,58,59,60,61,63,65,8,68,73,69,75,4095,4094],[],[],[]⟩ none LPu (xFr [(0,.ptr (some (d,0))),(61,.agg R),(62,.int .i64 (.ofNat i))] 76) S
noncomputable def tPj (d:Nat) (R:List AV) (S:ASt):Tr (Exit×AFr×ASt):=(TM EPu noSum [] fl0 60).ex ⟨[3,12,13,22,23,6,28,29,35,37,38,43,45,46,49,50,52,53,54,56,58,59,60,61,63,65,8,68,73,69,75,4095,4094],[],[],[]⟩ none LPu (xFr [(0,.ptr (some (d,0))),(61,.agg R),(62,.int .i64 (.ofNat 9))] 76) S
noncomputable def tPk (q:CallT) (d:Nat) (S S1:ASt):Tr (Exit×AFr×ASt):=(TM EPu (onlyC [53,24,60,61,62,63,19,40] q) [] fl0 60).ex ⟨[3,12,13,22,23,6,28,29,35,37,38,43,45,46,49,50,52,53,54,56,58,59,60,61,63,65,8,68,73,69,75,4095,4094],[],[],[]⟩ none (dropC 7 cPu) (xFr [(0,.ptr (some (d,0)))] 76) S
noncomputable def tBa (q:CallT) (k t se nu ho:Nat) (x y:Nat→Nat) (c mk:Bool) (k0 k1:Nat) (B0 B2:List Nat) (S S1 S2 S3 S4:ASt):Tr (Exit×AFr×ASt):=(TM EPu (onlyC [95,96,97,98] q) [] fl0 60).ex ⟨[1,4,7,8,12,14,15,18,21,22,25,26,29,30,31,32,34,36,37,38,4095,4094],[],[],[]⟩ none (preC 3 cBk) {m:=putArgs [.agg (mL k x c y t mk se nu ho)] 0 .e,n:=40,defs:=[]} S
noncomputable def tBb (q:CallT) (k0 k1 se:Nat) (B4:List Nat) (S S1:ASt):Tr (Exit×AFr×ASt):=(TM EPu (onlyC [95,96,97,98] q) [] fl0 60).ex ⟨[1,4,7,8,12,14,15,18,21,22,25,26,29,30,31,32,34,36,37,38,4095,4094],[],[],[]⟩ none (seqL (dropC 3 cBk)) (xFr [(1,.ptr (some (k0,0))),(3,.slice (some (k1,0)) 9 (.known 9))] 40) S
noncomputable def tBc (k0 k1:Nat) (S:ASt):Tr (Exit×AFr×ASt):=(TM EPu noSum [] fl0 60).ex ⟨[1,4,7,8,12,14,15,18,21,22,25,26,29,30,31,32,34,36,37,38,4095,4094],[],[],[]⟩ none (seqL (dropC 3 cBk)) (xFr [(1,.ptr (some (k0,0))),(3,.slice (some (k1,0)) 9 (.known 9))] 40) S
noncomputable def tBd (q:CallT) (k0 k1 nu ho:Nat) (BL:List Nat) (S S1:ASt):Tr (Exit×AFr×ASt):=(TM EPu (onlyC [95,96,97,98] q) [] fl0 60).ex ⟨[1,4,7,8,12,14,15,18,21,22,25,26,29,30,31,32,34,36,37,38,4095,4094],[],[],[]⟩ none (seqL (dropC 4 cBk)) (xFr [(1,.ptr (some (k0,0))),(3,.slice (some (k1,0)) 9 (.known 9))] 40) S
noncomputable def tBe (k0 k1 nu:Nat) (S:ASt):Tr (Exit×AFr×ASt):=(TM EPu noSum [] fl0 60).ex ⟨[1,4,7,8,12,14,15,18,21,22,25,26,29,30,31,32,34,36,37,38,4095,4094],[],[],[]⟩ none (seqL (dropC 4 cBk)) (xFr [(1,.ptr (some (k0,0))),(3,.slice (some (k1,0)) 9 (.known 9))] 40) S
noncomputable def tBf (k0 k1:Nat) (S:ASt):Tr (Exit×AFr×ASt):=(TM EPu noSum [] fl0 60).ex ⟨[1,4,7,8,12,14,15,18,21,22,25,26,29,30,31,32,34,36,37,38,4095,4094],[],[],[]⟩ none (dropC 5 cBk) (xFr [(1,.ptr (some (k0,0))),(3,.slice (some (k1,0)) 9 (.known 9))] 40) S
noncomputable def tSa (r o r2 o2 n:Nat) (C C2:Cap) (S:ASt):Tr (Exit×AFr×ASt):=(TM EPu noSum [] fl0 60).ex ⟨[7,9,10,13,14,16,19,20,23,24,25,4094],[],[],[]⟩ none (preC 1 cSm) {m:=putArgs [.slice (some (r,o)) n C,.slice (some (r2,o2)) n C2] 0 .e,n:=26,defs:=[]} S
noncomputable def tSb (r o r2 o2 n:Nat) (C C2:Cap) (S:ASt):Tr (Exit×AFr×ASt):=(TM EPu noSum [] fl0 60).ex ⟨[],[],[],[]⟩ none (seqL (seqL (dropC 1 cSm))) (xFr [(0,.slice (some (r,o)) n C),(1,.slice (some (r2,o2)) n C2)] 26) S
noncomputable def tSc (r o r2 o2 n i:Nat) (C C2:Cap) (B:List Nat) (S:ASt):Tr (Exit×AFr×ASt):=(TM EPu noSum [] fl0 60).ex ⟨[7,9,10,13,14,16,19,20,23,24,25,4094],[],[],[]⟩ none LSm (xFr [(0,.slice (some (r,o)) n C),(1,.slice (some (r2,o2)) n C2),(5,.int .i64 (.ofNat i))] 26) S
noncomputable def tSd (r o r2 o2 n i:Nat) (C C2:Cap) (S:ASt):Tr (Exit×AFr×ASt):=(TM EPu noSum [] fl0 60).ex ⟨[7,9,10,13,14,16,19,20,23,24,25,4094],[],[],[]⟩ none LSm (xFr [(0,.slice (some (r,o)) n C),(1,.slice (some (r2,o2)) n C2),(5,.int .i64 (.ofNat i))] 26) S
noncomputable def tSe (A:AV) (S:ASt):Tr (Exit×AFr×ASt):=(TM EPu noSum [] fl0 60).ex ⟨[],[],[],[]⟩ none (dropC 2 cSm) (xFr [(0,A)] 26) S
noncomputable def vcMO_s0 (q:CallT) (b:Int) (s:Int) (c:Bool) (x:Nat→Nat) (Z:Nat→Int) (t:Nat) (mk:Bool) (se:Nat) (nu:Nat) (ho:Nat) (a1:Bool) (a2:Bool) (a3:Bool) (a4:Bool) (a5:Bool) (a6:Bool) (a7:Bool) (a8:Bool):ASt:=mkSt [(1,AO.cells (mG b s c x Z t mk se nu ho) true)] 2
noncomputable def vcMO_s1 (q:CallT) (b:Int) (s:Int) (c:Bool) (x:Nat→Nat) (Z:Nat→Int) (t:Nat) (mk:Bool) (se:Nat) (nu:Nat) (ho:Nat) (a1:Bool) (a2:Bool) (a3:Bool) (a4:Bool) (a5:Bool) (a6:Bool) (a7:Bool) (a8:Bool):ASt:=mkSt [] 2
theorem vcMO (q:CallT) (b:Int) (s:Int) (c:Bool) (x:Nat→Nat) (Z:Nat→Int) (t:Nat) (mk:Bool) (se:Nat) (nu:Nat) (ho:Nat) (a1:Bool) (a2:Bool) (a3:Bool) (a4:Bool) (a5:Bool) (a6:Bool) (a7:Bool) (a8:Bool) (Q:AV×ASt→Prop) :
 (still (vcMO_s0 q b s c x Z t mk se nu ho a1 a2 a3 a4 a5 a6 a7 a8) (aBin EY2 BinOp.lss 3 (Operand.tmp 5) (Operand.const (Value.int IntKind.i64 1)) (AV.int IntKind.i64 b) (AV.int IntKind.i64 (Int.ofNat 1)))=some (AV.bool a1,vcMO_s0 q b s c x Z t mk se nu ho a1 a2 a3 a4 a5 a6 a7 a8)∧ifB a1 (Q (AV.bool false,vcMO_s1 q b s c x Z t mk se nu ho a1 a2 a3 a4 a5 a6 a7 a8)) (still (vcMO_s0 q b s c x Z t mk se nu ho a1 a2 a3 a4 a5 a6 a7 a8) (aBin EY2 BinOp.gtr 3 (Operand.tmp 9) (Operand.const (Value.int IntKind.i64 64)) (AV.int IntKind.i64 b) (AV.int IntKind.i64 (Int.ofNat 64)))=some (AV.bool a2,vcMO_s0 q b s c x Z t mk se nu ho a1 a2 a3 a4 a5 a6 a7 a8)∧ifB a2 (Q (AV.bool false,vcMO_s1 q b s c x Z t mk se nu ho a1 a2 a3 a4 a5 a6 a7 a8)) ((M EY2 (drawA EY2) (onlyC [76,77,58,48,49,50] q) 52).call 76 [AV.agg (sG s c x)] (vcMO_s0 q b s c x Z t mk se nu ho a1 a2 a3 a4 a5 a6 a7 a8)=some (AV.bool a3,vcMO_s0 q b s c x Z t mk se nu ho a1 a2 a3 a4 a5 a6 a7 a8)∧ifB a3 ((M EY2 (drawA EY2) (onlyC [76,77,58,48,49,50] q) 52).call 77 [AV.agg (cd6.tL Z)] (vcMO_s0 q b s c x Z t mk se nu ho a1 a2 a3 a4 a5 a6 a7 a8)=some (AV.bool a4,vcMO_s0 q b s c x Z t mk se nu ho a1 a2 a3 a4 a5 a6 a7 a8)∧ifB a4 ((M EY2 (drawA EY2) (onlyC [76,77,58,48,49,50] q) 50).call 58 [AV.int IntKind.u64 (Int.ofNat se),AV.int IntKind.i64 b] (vcMO_s0 q b s c x Z t mk se nu ho a1 a2 a3 a4 a5 a6 a7 a8)=some (AV.bool a5,vcMO_s0 q b s c x Z t mk se nu ho a1 a2 a3 a4 a5 a6 a7 a8)∧ifB a5 (Q (AV.bool false,vcMO_s1 q b s c x Z t mk se nu ho a1 a2 a3 a4 a5 a6 a7 a8)) (ifB (!mk) (still (vcMO_s0 q b s c x Z t mk se nu ho a1 a2 a3 a4 a5 a6 a7 a8) (aBin EY2 BinOp.neq 24 (Operand.tmp 35) (Operand.const (Value.int IntKind.u64 0)) (AV.int IntKind.u64 (Int.ofNat se)) (AV.int IntKind.u64 (Int.ofNat 0)))=some (AV.bool a6,vcMO_s0 q b s c x Z t mk se nu ho a1 a2 a3 a4 a5 a6 a7 a8)∧ifB a6 (Q (AV.bool false,vcMO_s1 q b s c x Z t mk se nu ho a1 a2 a3 a4 a5 a6 a7 a8)) (still (vcMO_s0 q b s c x Z t mk se nu ho a1 a2 a3 a4 a5 a6 a7 a8) (aBin EY2 BinOp.neq 24 (Operand.tmp 40) (Operand.const (Value.int IntKind.u64 0)) (AV.int IntKind.u64 (Int.ofNat nu)) (AV.int IntKind.u64 (Int.ofNat 0)))=some (AV.bool a7,vcMO_s0 q b s c x Z t mk se nu ho a1 a2 a3 a4 a5 a6 a7 a8)∧ifB a7 (Q (AV.bool true,vcMO_s1 q b s c x Z t mk se nu ho a1 a2 a3 a4 a5 a6 a7 a8)) (still (vcMO_s0 q b s c x Z t mk se nu ho a1 a2 a3 a4 a5 a6 a7 a8) (aBin EY2 BinOp.eql 34 (Operand.tmp 44) (Operand.const (Value.int IntKind.u16 0)) (AV.int IntKind.u16 (Int.ofNat ho)) (AV.int IntKind.u16 (Int.ofNat 0)))=some (AV.bool a8,vcMO_s0 q b s c x Z t mk se nu ho a1 a2 a3 a4 a5 a6 a7 a8)∧Q (AV.bool a8,vcMO_s1 q b s c x Z t mk se nu ho a1 a2 a3 a4 a5 a6 a7 a8)))) (still (vcMO_s0 q b s c x Z t mk se nu ho a1 a2 a3 a4 a5 a6 a7 a8) (aBin EY2 BinOp.neq 24 (Operand.tmp 40) (Operand.const (Value.int IntKind.u64 0)) (AV.int IntKind.u64 (Int.ofNat nu)) (AV.int IntKind.u64 (Int.ofNat 0)))=some (AV.bool a7,vcMO_s0 q b s c x Z t mk se nu ho a1 a2 a3 a4 a5 a6 a7 a8)∧ifB a7 (Q (AV.bool true,vcMO_s1 q b s c x Z t mk se nu ho a1 a2 a3 a4 a5 a6 a7 a8)) (still (vcMO_s0 q b s c x Z t mk se nu ho a1 a2 a3 a4 a5 a6 a7 a8) (aBin EY2 BinOp.eql 34 (Operand.tmp 44) (Operand.const (Value.int IntKind.u16 0)) (AV.int IntKind.u16 (Int.ofNat ho)) (AV.int IntKind.u16 (Int.ofNat 0)))=some (AV.bool a8,vcMO_s0 q b s c x Z t mk se nu ho a1 a2 a3 a4 a5 a6 a7 a8)∧Q (AV.bool a8,vcMO_s1 q b s c x Z t mk se nu ho a1 a2 a3 a4 a5 a6 a7 a8))))) (Q (AV.bool false,vcMO_s1 q b s c x Z t mk se nu ho a1 a2 a3 a4 a5 a6 a7 a8))) (Q (AV.bool false,vcMO_s1 q b s c x Z t mk se nu ho a1 a2 a3 a4 a5 a6 a7 a8))))) =
 (tMO q b s c x Z t mk se nu ho a1 a2 a3 a4 a5 a6 a7 a8).allY (fun r=>Q (r.1,canS [] r.2)) (An.v (AV.bool a1,vcMO_s0 q b s c x Z t mk se nu ho a1 a2 a3 a4 a5 a6 a7 a8) (An.b An.nil (An.v (AV.bool a2,vcMO_s0 q b s c x Z t mk se nu ho a1 a2 a3 a4 a5 a6 a7 a8) (An.b An.nil (An.v (AV.bool a3,vcMO_s0 q b s c x Z t mk se nu ho a1 a2 a3 a4 a5 a6 a7 a8) (An.b (An.v (AV.bool a4,vcMO_s0 q b s c x Z t mk se nu ho a1 a2 a3 a4 a5 a6 a7 a8) (An.b (An.v (AV.bool a5,vcMO_s0 q b s c x Z t mk se nu ho a1 a2 a3 a4 a5 a6 a7 a8) (An.b An.nil (An.b (An.v (AV.bool a6,vcMO_s0 q b s c x Z t mk se nu ho a1 a2 a3 a4 a5 a6 a7 a8) (An.b An.nil (An.v (AV.bool a7,vcMO_s0 q b s c x Z t mk se nu ho a1 a2 a3 a4 a5 a6 a7 a8) (An.b An.nil (An.v (AV.bool a8,vcMO_s0 q b s c x Z t mk se nu ho a1 a2 a3 a4 a5 a6 a7 a8) An.nil))))) (An.v (AV.bool a7,vcMO_s0 q b s c x Z t mk se nu ho a1 a2 a3 a4 a5 a6 a7 a8) (An.b An.nil (An.v (AV.bool a8,vcMO_s0 q b s c x Z t mk se nu ho a1 a2 a3 a4 a5 a6 a7 a8) An.nil)))))) An.nil)) An.nil)))))):=by kernel_rfl
noncomputable def vcMR_s0 (q:CallT) (b:Int) (s:Int) (c:Bool) (x:Nat→Nat) (Z:Nat→Int) (t:Nat) (mk:Bool) (se:Nat) (nu:Nat) (ho:Nat) (a1:Bool) (a2:Bool) (a3:Bool) (a4:Bool) (a5:Bool) (a6:Bool) (a7:Bool) (a8:Bool):ASt:=mkSt [(1,AO.cells (mG b s c x Z t mk se nu ho) true)] 2
noncomputable def vcMR_s1 (q:CallT) (b:Int) (s:Int) (c:Bool) (x:Nat→Nat) (Z:Nat→Int) (t:Nat) (mk:Bool) (se:Nat) (nu:Nat) (ho:Nat) (a1:Bool) (a2:Bool) (a3:Bool) (a4:Bool) (a5:Bool) (a6:Bool) (a7:Bool) (a8:Bool):ASt:=mkSt [] 2
theorem vcMR (q:CallT) (b:Int) (s:Int) (c:Bool) (x:Nat→Nat) (Z:Nat→Int) (t:Nat) (mk:Bool) (se:Nat) (nu:Nat) (ho:Nat) (a1:Bool) (a2:Bool) (a3:Bool) (a4:Bool) (a5:Bool) (a6:Bool) (a7:Bool) (a8:Bool) (Q:AV×ASt→Prop) :
 (still (vcMR_s0 q b s c x Z t mk se nu ho a1 a2 a3 a4 a5 a6 a7 a8) (aBin EY2 BinOp.lss 3 (Operand.tmp 4) (Operand.const (Value.int IntKind.i64 1)) (AV.int IntKind.i64 b) (AV.int IntKind.i64 (Int.ofNat 1)))=some (AV.bool a1,vcMR_s0 q b s c x Z t mk se nu ho a1 a2 a3 a4 a5 a6 a7 a8)∧ifB a1 (Q (AV.bool false,vcMR_s1 q b s c x Z t mk se nu ho a1 a2 a3 a4 a5 a6 a7 a8)) (still (vcMR_s0 q b s c x Z t mk se nu ho a1 a2 a3 a4 a5 a6 a7 a8) (aBin EY2 BinOp.gtr 3 (Operand.tmp 8) (Operand.const (Value.int IntKind.i64 64)) (AV.int IntKind.i64 b) (AV.int IntKind.i64 (Int.ofNat 64)))=some (AV.bool a2,vcMR_s0 q b s c x Z t mk se nu ho a1 a2 a3 a4 a5 a6 a7 a8)∧ifB a2 (Q (AV.bool false,vcMR_s1 q b s c x Z t mk se nu ho a1 a2 a3 a4 a5 a6 a7 a8)) ((M EY2 (drawA EY2) (onlyC [76,77,58,48,49,50] q) 55).call 48 [AV.agg (sG s c x)] (vcMR_s0 q b s c x Z t mk se nu ho a1 a2 a3 a4 a5 a6 a7 a8)=some (AV.bool a3,vcMR_s0 q b s c x Z t mk se nu ho a1 a2 a3 a4 a5 a6 a7 a8)∧ifB a3 ((M EY2 (drawA EY2) (onlyC [76,77,58,48,49,50] q) 55).call 49 [AV.agg (cd6.tL Z)] (vcMR_s0 q b s c x Z t mk se nu ho a1 a2 a3 a4 a5 a6 a7 a8)=some (AV.bool a4,vcMR_s0 q b s c x Z t mk se nu ho a1 a2 a3 a4 a5 a6 a7 a8)∧ifB a4 ((M EY2 (drawA EY2) (onlyC [76,77,58,48,49,50] q) 55).call 50 [AV.int IntKind.u64 (Int.ofNat se),AV.int IntKind.i64 b] (vcMR_s0 q b s c x Z t mk se nu ho a1 a2 a3 a4 a5 a6 a7 a8)=some (AV.bool a5,vcMR_s0 q b s c x Z t mk se nu ho a1 a2 a3 a4 a5 a6 a7 a8)∧ifB a5 (Q (AV.bool false,vcMR_s1 q b s c x Z t mk se nu ho a1 a2 a3 a4 a5 a6 a7 a8)) (ifB mk (still (vcMR_s0 q b s c x Z t mk se nu ho a1 a2 a3 a4 a5 a6 a7 a8) (aBin EY2 BinOp.gtr 24 (Operand.tmp 39) (Operand.const (Value.int IntKind.u64 0)) (AV.int IntKind.u64 (Int.ofNat nu)) (AV.int IntKind.u64 (Int.ofNat 0)))=some (AV.bool a7,vcMR_s0 q b s c x Z t mk se nu ho a1 a2 a3 a4 a5 a6 a7 a8)∧ifB a7 (Q (AV.bool true,vcMR_s1 q b s c x Z t mk se nu ho a1 a2 a3 a4 a5 a6 a7 a8)) (still (vcMR_s0 q b s c x Z t mk se nu ho a1 a2 a3 a4 a5 a6 a7 a8) (aBin EY2 BinOp.eql 34 (Operand.tmp 43) (Operand.const (Value.int IntKind.u16 0)) (AV.int IntKind.u16 (Int.ofNat ho)) (AV.int IntKind.u16 (Int.ofNat 0)))=some (AV.bool a8,vcMR_s0 q b s c x Z t mk se nu ho a1 a2 a3 a4 a5 a6 a7 a8)∧Q (AV.bool a8,vcMR_s1 q b s c x Z t mk se nu ho a1 a2 a3 a4 a5 a6 a7 a8))) (still (vcMR_s0 q b s c x Z t mk se nu ho a1 a2 a3 a4 a5 a6 a7 a8) (aBin EY2 BinOp.eql 24 (Operand.tmp 34) (Operand.const (Value.int IntKind.u64 0)) (AV.int IntKind.u64 (Int.ofNat se)) (AV.int IntKind.u64 (Int.ofNat 0)))=some (AV.bool a6,vcMR_s0 q b s c x Z t mk se nu ho a1 a2 a3 a4 a5 a6 a7 a8)∧ifB a6 (still (vcMR_s0 q b s c x Z t mk se nu ho a1 a2 a3 a4 a5 a6 a7 a8) (aBin EY2 BinOp.gtr 24 (Operand.tmp 39) (Operand.const (Value.int IntKind.u64 0)) (AV.int IntKind.u64 (Int.ofNat nu)) (AV.int IntKind.u64 (Int.ofNat 0)))=some (AV.bool a7,vcMR_s0 q b s c x Z t mk se nu ho a1 a2 a3 a4 a5 a6 a7 a8)∧ifB a7 (Q (AV.bool true,vcMR_s1 q b s c x Z t mk se nu ho a1 a2 a3 a4 a5 a6 a7 a8)) (still (vcMR_s0 q b s c x Z t mk se nu ho a1 a2 a3 a4 a5 a6 a7 a8) (aBin EY2 BinOp.eql 34 (Operand.tmp 43) (Operand.const (Value.int IntKind.u16 0)) (AV.int IntKind.u16 (Int.ofNat ho)) (AV.int IntKind.u16 (Int.ofNat 0)))=some (AV.bool a8,vcMR_s0 q b s c x Z t mk se nu ho a1 a2 a3 a4 a5 a6 a7 a8)∧Q (AV.bool a8,vcMR_s1 q b s c x Z t mk se nu ho a1 a2 a3 a4 a5 a6 a7 a8))) (Q (AV.bool false,vcMR_s1 q b s c x Z t mk se nu ho a1 a2 a3 a4 a5 a6 a7 a8))))) (Q (AV.bool false,vcMR_s1 q b s c x Z t mk se nu ho a1 a2 a3 a4 a5 a6 a7 a8))) (Q (AV.bool false,vcMR_s1 q b s c x Z t mk se nu ho a1 a2 a3 a4 a5 a6 a7 a8))))) =
 (tMR q b s c x Z t mk se nu ho a1 a2 a3 a4 a5 a6 a7 a8).allY (fun r=>Q (r.1,canS [] r.2)) (An.v (AV.bool a1,vcMR_s0 q b s c x Z t mk se nu ho a1 a2 a3 a4 a5 a6 a7 a8) (An.b An.nil (An.v (AV.bool a2,vcMR_s0 q b s c x Z t mk se nu ho a1 a2 a3 a4 a5 a6 a7 a8) (An.b An.nil (An.v (AV.bool a3,vcMR_s0 q b s c x Z t mk se nu ho a1 a2 a3 a4 a5 a6 a7 a8) (An.b (An.v (AV.bool a4,vcMR_s0 q b s c x Z t mk se nu ho a1 a2 a3 a4 a5 a6 a7 a8) (An.b (An.v (AV.bool a5,vcMR_s0 q b s c x Z t mk se nu ho a1 a2 a3 a4 a5 a6 a7 a8) (An.b An.nil (An.b (An.v (AV.bool a7,vcMR_s0 q b s c x Z t mk se nu ho a1 a2 a3 a4 a5 a6 a7 a8) (An.b An.nil (An.v (AV.bool a8,vcMR_s0 q b s c x Z t mk se nu ho a1 a2 a3 a4 a5 a6 a7 a8) An.nil))) (An.v (AV.bool a6,vcMR_s0 q b s c x Z t mk se nu ho a1 a2 a3 a4 a5 a6 a7 a8) (An.b (An.v (AV.bool a7,vcMR_s0 q b s c x Z t mk se nu ho a1 a2 a3 a4 a5 a6 a7 a8) (An.b An.nil (An.v (AV.bool a8,vcMR_s0 q b s c x Z t mk se nu ho a1 a2 a3 a4 a5 a6 a7 a8) An.nil))) An.nil))))) An.nil)) An.nil)))))):=by kernel_rfl
theorem vcCa (q:CallT) (d:Nat) (n:Nat) (z:Int) (S:ASt) (Q:AV×ASt→Prop) :
 ((M EY2 (drawA EY2) (onlyC [73] q) 54).call 73 [AV.ptr (some (d,0))] S=some (AV.int IntKind.i64 (Int.ofNat n),S)∧still S (aBin EY2 BinOp.eql 3 (Operand.tmp 7) (Operand.const (Value.int IntKind.i64 0)) (AV.int IntKind.i64 (Int.ofNat n)) (AV.int IntKind.i64 (Int.ofNat 0)))=some (AV.bool false,S)∧still S (aBin EY2 BinOp.lss 3 (Operand.tmp 3) (Operand.const (Value.int IntKind.i64 1)) (AV.int IntKind.i64 z) (AV.int IntKind.i64 (Int.ofNat 1)))=some (AV.bool true,S)∧Q (AV.int IntKind.i64 (Int.ofNat 2),S)) =
 (tCa q d n z S).allY (Q) (An.v (AV.int IntKind.i64 (Int.ofNat n),S) (An.v (AV.bool false,S) (An.v (AV.bool true,S) An.nil))):=by kernel_rfl
theorem vcCb (q:CallT) (d:Nat) (n:Nat) (z:Int) (S:ASt) (Q:AV×ASt→Prop) :
 ((M EY2 (drawA EY2) (onlyC [73] q) 54).call 73 [AV.ptr (some (d,0))] S=some (AV.int IntKind.i64 (Int.ofNat n),S)∧still S (aBin EY2 BinOp.eql 3 (Operand.tmp 7) (Operand.const (Value.int IntKind.i64 0)) (AV.int IntKind.i64 (Int.ofNat n)) (AV.int IntKind.i64 (Int.ofNat 0)))=some (AV.bool false,S)∧still S (aBin EY2 BinOp.lss 3 (Operand.tmp 3) (Operand.const (Value.int IntKind.i64 1)) (AV.int IntKind.i64 z) (AV.int IntKind.i64 (Int.ofNat 1)))=some (AV.bool false,S)∧still S (aBin EY2 BinOp.gtr 3 (Operand.tmp 6) (Operand.const (Value.int IntKind.i64 64)) (AV.int IntKind.i64 z) (AV.int IntKind.i64 (Int.ofNat 64)))=some (AV.bool true,S)∧Q (AV.int IntKind.i64 (Int.ofNat 2),S)) =
 (tCb q d n z S).allY (Q) (An.v (AV.int IntKind.i64 (Int.ofNat n),S) (An.v (AV.bool false,S) (An.v (AV.bool false,S) (An.v (AV.bool true,S) An.nil)))):=by kernel_rfl
theorem vcCc (q:CallT) (d:Nat) (n:Nat) (j:Nat) (S:ASt) (Q:AV×ASt→Prop) :
 ((M EY2 (drawA EY2) (onlyC [73] q) 54).call 73 [AV.ptr (some (d,0))] S=some (AV.int IntKind.i64 (Int.ofNat n),S)∧still S (aBin EY2 BinOp.eql 3 (Operand.tmp 7) (Operand.const (Value.int IntKind.i64 0)) (AV.int IntKind.i64 (Int.ofNat n)) (AV.int IntKind.i64 (Int.ofNat 0)))=some (AV.bool false,S)∧still S (aBin EY2 BinOp.lss 3 (Operand.tmp 3) (Operand.const (Value.int IntKind.i64 1)) (AV.int IntKind.i64 (Int.ofNat j)) (AV.int IntKind.i64 (Int.ofNat 1)))=some (AV.bool false,S)∧still S (aBin EY2 BinOp.gtr 3 (Operand.tmp 6) (Operand.const (Value.int IntKind.i64 64)) (AV.int IntKind.i64 (Int.ofNat j)) (AV.int IntKind.i64 (Int.ofNat 64)))=some (AV.bool false,S)∧still S (aBin EY2 BinOp.add 3 (Operand.const (Value.int IntKind.i64 9)) (Operand.tmp 9) (AV.int IntKind.i64 (Int.ofNat 9)) (AV.int IntKind.i64 (Int.ofNat j)))=some (AV.int IntKind.i64 (Int.ofNat (9+j)),S)∧still S (aBin EY2 BinOp.eql 3 (Operand.tmp 11) (Operand.const (Value.int IntKind.i64 0)) (AV.int IntKind.i64 (Int.ofNat (9+j))) (AV.int IntKind.i64 (Int.ofNat 0)))=some (AV.bool false,S)∧still S (aBin EY2 BinOp.lss 3 (Operand.tmp 3) (Operand.const (Value.int IntKind.i64 1)) (AV.int IntKind.i64 (Int.ofNat j)) (AV.int IntKind.i64 (Int.ofNat 1)))=some (AV.bool false,S)∧still S (aBin EY2 BinOp.gtr 3 (Operand.tmp 6) (Operand.const (Value.int IntKind.i64 64)) (AV.int IntKind.i64 (Int.ofNat j)) (AV.int IntKind.i64 (Int.ofNat 64)))=some (AV.bool false,S)∧still S (aBin EY2 BinOp.add 3 (Operand.const (Value.int IntKind.i64 9)) (Operand.tmp 9) (AV.int IntKind.i64 (Int.ofNat 9)) (AV.int IntKind.i64 (Int.ofNat j)))=some (AV.int IntKind.i64 (Int.ofNat (9+j)),S)∧(M EY2 (drawA EY2) (onlyC [73] q) 52).call 73 [AV.ptr (some (d,0))] S=some (AV.int IntKind.i64 (Int.ofNat n),S)∧still S (aBin EY2 BinOp.neq 3 (Operand.tmp 15) (Operand.tmp 17) (AV.int IntKind.i64 (Int.ofNat (9+j))) (AV.int IntKind.i64 (Int.ofNat n)))=some (AV.bool true,S)∧Q (AV.int IntKind.i64 (Int.ofNat 2),S)) =
 (tCc q d n j S).allY (Q) (An.v (AV.int IntKind.i64 (Int.ofNat n),S) (An.v (AV.bool false,S) (An.v (AV.bool false,S) (An.v (AV.bool false,S) (An.v (AV.int IntKind.i64 (Int.ofNat (9+j)),S) (An.v (AV.bool false,S) (An.v (AV.bool false,S) (An.v (AV.bool false,S) (An.v (AV.int IntKind.i64 (Int.ofNat (9+j)),S) (An.v (AV.int IntKind.i64 (Int.ofNat n),S) (An.v (AV.bool true,S) An.nil))))))))))):=by kernel_rfl
theorem vcPa (q:CallT) (b:Int) (s:Int) (c:Bool) (x:Nat→Nat) (Z:Nat→Int) (t:Nat) (mk:Bool) (se:Nat) (nu:Nat) (ho:Nat) (d:Nat) (k0:Nat) (S:ASt) (S1:ASt) (Q:Exit×AFr×ASt→Prop) :
 (aBox (AV.agg (mG b s c x Z t mk se nu ho)) S=some (AV.ptr (some (k0,0)),S1)∧aLoad EPu 3 (AV.ptr (some (k0,0))) S1=some (AV.int IntKind.i64 b,S1)∧(M EPu (drawA EPu) (onlyC [53,24,60,61,62,63,19,40] q) 56).call 53 [AV.ptr (some (d,0)),AV.int IntKind.i64 b] S1=some (AV.int IntKind.i64 (Int.ofNat 2),S1)∧Q (Exit.ret,xFr [(4,AV.int IntKind.i64 (Int.ofNat 2))] 76,S1)) =
 (tPa q b s c x Z t mk se nu ho d k0 S S1).allY (fun r=>Q (rawR [4] r)) (An.v (AV.ptr (some (k0,0)),S1) (An.v (AV.int IntKind.i64 b,S1) (An.v (AV.int IntKind.i64 (Int.ofNat 2),S1) An.nil))):=by kernel_rfl
theorem vcPb (q:CallT) (b:Int) (s:Int) (c:Bool) (x:Nat→Nat) (Z:Nat→Int) (t:Nat) (mk:Bool) (se:Nat) (nu:Nat) (ho:Nat) (d:Nat) (k0:Nat) (S:ASt) (S1:ASt) (Q:Exit×AFr×ASt→Prop) :
 (aBox (AV.agg (mG b s c x Z t mk se nu ho)) S=some (AV.ptr (some (k0,0)),S1)∧aLoad EPu 3 (AV.ptr (some (k0,0))) S1=some (AV.int IntKind.i64 b,S1)∧(M EPu (drawA EPu) (onlyC [53,24,60,61,62,63,19,40] q) 56).call 53 [AV.ptr (some (d,0)),AV.int IntKind.i64 b] S1=some (AV.int IntKind.i64 (Int.ofNat 0),S1)∧aLoad EPu 36 (AV.ptr (some (k0,0))) S1=some (AV.agg (mG b s c x Z t mk se nu ho),S1)∧(M EPu (drawA EPu) (onlyC [53,24,60,61,62,63,19,40] q) 52).call 24 [AV.agg (mG b s c x Z t mk se nu ho)] S1=some (AV.bool false,S1)∧Q (Exit.ret,xFr [(4,AV.int IntKind.i64 (Int.ofNat 2))] 76,S1)) =
 (tPb q b s c x Z t mk se nu ho d k0 S S1).allY (fun r=>Q (rawR [4] r)) (An.v (AV.ptr (some (k0,0)),S1) (An.v (AV.int IntKind.i64 b,S1) (An.v (AV.int IntKind.i64 (Int.ofNat 0),S1) (An.v (AV.agg (mG b s c x Z t mk se nu ho),S1) (An.v (AV.bool false,S1) An.nil))))):=by kernel_rfl
theorem vcPc (q:CallT) (k:Nat) (t:Nat) (se:Nat) (nu:Nat) (ho:Nat) (x:Nat→Nat) (y:Nat→Nat) (c:Bool) (mk:Bool) (d:Nat) (k0:Nat) (k1:Nat) (B0:List Nat) (B2:List Nat) (S:ASt) (S1:ASt) (S2:ASt) (S3:ASt) (S4:ASt) (Q:Exit×AFr×ASt→Prop) :
 (aBox (AV.agg (mL k x c y t mk se nu ho)) S=some (AV.ptr (some (k0,0)),S1)∧aLoad EPu 3 (AV.ptr (some (k0,0))) S1=some (AV.int IntKind.i64 (Int.ofNat k),S1)∧(M EPu (drawA EPu) (onlyC [53,24,60,61,62,63,19,40] q) 56).call 53 [AV.ptr (some (d,0)),AV.int IntKind.i64 (Int.ofNat k)] S1=some (AV.int IntKind.i64 (Int.ofNat 0),S1)∧aLoad EPu 36 (AV.ptr (some (k0,0))) S1=some (AV.agg (mL k x c y t mk se nu ho),S1)∧(M EPu (drawA EPu) (onlyC [53,24,60,61,62,63,19,40] q) 52).call 24 [AV.agg (mL k x c y t mk se nu ho)] S1=some (AV.bool true,S1)∧aAlloc EPu 117 S1=some (AV.ptr (some (k1,0)),S2)∧aLoad EPu 29 (AV.ptr (some (k0,1))) S2=some (AV.agg (sL x c),S2)∧(M EPu (drawA EPu) (onlyC [53,24,60,61,62,63,19,40] q) 55).call 60 [AV.agg (sL x c)] S2=some (AV.tuple [AV.agg (bl B0),AV.int IntKind.i64 (Int.ofNat 0)],S2)∧Option.map (fun s=>(undefA,s)) (aStore EPu 54 (AV.ptr (some (k1,0))) (AV.agg (bl B0)) S2)=some (AV.tuple [],S3)∧aLoad EPu 33 (AV.ptr (some (k0,8))) S3=some (AV.agg (rL y),S3)∧aLoad EPu 24 (AV.ptr (some (k0,27))) S3=some (AV.int IntKind.u64 (Int.ofNat t),S3)∧(M EPu (drawA EPu) (onlyC [53,24,60,61,62,63,19,40] q) 55).call 61 [AV.agg (rL y),AV.int IntKind.u64 (Int.ofNat t)] S3=some (AV.tuple [AV.agg (bl B2),AV.int IntKind.i64 (Int.ofNat 0)],S3)∧Option.map (fun s=>(undefA,s)) (aStore EPu 54 (AV.ptr (some (k1,512))) (AV.agg (bl B2)) S3)=some (AV.tuple [],S4)∧Q (Exit.normal,xFr [(0,AV.ptr (some (d,0))),(3,AV.ptr (some (k0,0))),(6,AV.ptr (some (k1,0)))] 76,S4)) =
 (tPc q k t se nu ho x y c mk d k0 k1 B0 B2 S S1 S2 S3 S4).allY (fun r=>Q (rawR [0,3,6] r)) (An.v (AV.ptr (some (k0,0)),S1) (An.v (AV.int IntKind.i64 (Int.ofNat k),S1) (An.v (AV.int IntKind.i64 (Int.ofNat 0),S1) (An.v (AV.agg (mL k x c y t mk se nu ho),S1) (An.v (AV.bool true,S1) (An.v (AV.ptr (some (k1,0)),S2) (An.v (AV.agg (sL x c),S2) (An.v (AV.tuple [AV.agg (bl B0),AV.int IntKind.i64 (Int.ofNat 0)],S2) (An.v (AV.tuple [],S3) (An.v (AV.agg (rL y),S3) (An.v (AV.int IntKind.u64 (Int.ofNat t),S3) (An.v (AV.tuple [AV.agg (bl B2),AV.int IntKind.i64 (Int.ofNat 0)],S3) (An.v (AV.tuple [],S4) An.nil))))))))))))):=by kernel_rfl
theorem vcPd (q:CallT) (d:Nat) (k0:Nat) (k1:Nat) (se:Nat) (B4:List Nat) (S:ASt) (S1:ASt) (Q:Exit×AFr×ASt→Prop) :
 (aLoad EPu 4 (AV.ptr (some (k0,28))) S=some (AV.bool true,S)∧aLoad EPu 24 (AV.ptr (some (k0,29))) S=some (AV.int IntKind.u64 (Int.ofNat se),S)∧(M EPu (drawA EPu) (onlyC [53,24,60,61,62,63,19,40] q) 57).call 62 [AV.int IntKind.u64 (Int.ofNat se)] S=some (AV.agg (bl B4),S)∧Option.map (fun s=>(undefA,s)) (aStore EPu 54 (AV.ptr (some (k1,1024))) (AV.agg (bl B4)) S)=some (AV.tuple [],S1)∧Q (Exit.normal,xFr [(0,AV.ptr (some (d,0))),(3,AV.ptr (some (k0,0))),(6,AV.ptr (some (k1,0)))] 76,S1)) =
 (tPd q d k0 k1 se B4 S S1).allY (fun r=>Q (rawR [0,3,6] r)) (An.v (AV.bool true,S) (An.v (AV.int IntKind.u64 (Int.ofNat se),S) (An.v (AV.agg (bl B4),S) (An.v (AV.tuple [],S1) An.nil)))):=by kernel_rfl
theorem vcPe (d:Nat) (k0:Nat) (k1:Nat) (S:ASt) (Q:Exit×AFr×ASt→Prop) :
 (aLoad EPu 4 (AV.ptr (some (k0,28))) S=some (AV.bool false,S)∧Q (Exit.normal,xFr [(0,AV.ptr (some (d,0))),(3,AV.ptr (some (k0,0))),(6,AV.ptr (some (k1,0)))] 76,S)) =
 (tPe d k0 k1 S).allY (fun r=>Q (rawR [0,3,6] r)) (An.v (AV.bool false,S) An.nil):=by kernel_rfl
theorem vcPf (q:CallT) (d:Nat) (k0:Nat) (k1:Nat) (nu:Nat) (ho:Nat) (BL:List Nat) (S:ASt) (S1:ASt) (Q:Exit×AFr×ASt→Prop) :
 (aLoad EPu 24 (AV.ptr (some (k0,30))) S=some (AV.int IntKind.u64 (Int.ofNat nu),S)∧still S (aBin EPu BinOp.neq 24 (Operand.tmp 49) (Operand.const (Value.int IntKind.u64 0)) (AV.int IntKind.u64 (Int.ofNat nu)) (AV.int IntKind.u64 (Int.ofNat 0)))=some (AV.bool true,S)∧aLoad EPu 24 (AV.ptr (some (k0,30))) (ASt.mk S.h (S.next+11))=some (AV.int IntKind.u64 (Int.ofNat nu),ASt.mk S.h (S.next+11))∧still (ASt.mk S.h (S.next+11)) (aBin EPu BinOp.rem 24 (Operand.tmp 52) (Operand.const (Value.int IntKind.u64 4)) (AV.int IntKind.u64 (Int.ofNat nu)) (AV.int IntKind.u64 (Int.ofNat 4)))=some (AV.int IntKind.u64 (Int.ofNat (nu % 4)),ASt.mk S.h (S.next+11))∧still (ASt.mk S.h (S.next+11)) (aBin EPu BinOp.add 24 (Operand.const (Value.int IntKind.u64 5)) (Operand.tmp 53) (AV.int IntKind.u64 (Int.ofNat 5)) (AV.int IntKind.u64 (Int.ofNat (nu % 4))))=some (AV.int IntKind.u64 (Int.ofNat (5+nu % 4)),ASt.mk S.h (S.next+11))∧aLoad EPu 24 (AV.ptr (some (k0,30))) (ASt.mk S.h (S.next+11))=some (AV.int IntKind.u64 (Int.ofNat nu),ASt.mk S.h (S.next+11))∧aLoad EPu 34 (AV.ptr (some (k0,31))) (ASt.mk S.h (S.next+11))=some (AV.int IntKind.u16 (Int.ofNat ho),ASt.mk S.h (S.next+11))∧(M EPu (drawA EPu) (onlyC [53,24,60,61,62,63,19,40] q) 57).call 63 [AV.int IntKind.u64 (Int.ofNat nu),AV.int IntKind.u16 (Int.ofNat ho)] (ASt.mk S.h (S.next+11))=some (AV.agg (bl BL),ASt.mk S.h (S.next+11))∧still (ASt.mk S.h (S.next+11)) (aIndexAddr EPu 117 (AV.ptr (some (k1,0))) (AV.int IntKind.u64 (Int.ofNat (5+nu % 4))))=some (AV.ptr (some (k1,(5+nu % 4)*256)),ASt.mk S.h (S.next+11))∧Option.map (fun s=>(undefA,s)) (aStore EPu 54 (AV.ptr (some (k1,(5+nu % 4)*256))) (AV.agg (bl BL)) (ASt.mk S.h (S.next+11)))=some (AV.tuple [],S1)∧holdsO [(fstO (aLoad EPu 24 (AV.ptr (some (k0,30))) (ASt.mk S.h (S.next+11))),AV.int IntKind.u64 (Int.ofNat nu))]∧Q (Exit.normal,xFr [(0,AV.ptr (some (d,0))),(3,AV.ptr (some (k0,0))),(6,AV.ptr (some (k1,0)))] 76,S1)) =
 (tPf q d k0 k1 nu ho BL S S1).allY (fun r=>Q (rawR [0,3,6] r)) (An.v (AV.int IntKind.u64 (Int.ofNat nu),S) (An.v (AV.bool true,S) (An.v (AV.int IntKind.u64 (Int.ofNat nu),ASt.mk S.h (S.next+11)) (An.v (AV.int IntKind.u64 (Int.ofNat (nu % 4)),ASt.mk S.h (S.next+11)) (An.v (AV.int IntKind.u64 (Int.ofNat (5+nu % 4)),ASt.mk S.h (S.next+11)) (An.v (AV.int IntKind.u64 (Int.ofNat nu),ASt.mk S.h (S.next+11)) (An.v (AV.int IntKind.u16 (Int.ofNat ho),ASt.mk S.h (S.next+11)) (An.v (AV.agg (bl BL),ASt.mk S.h (S.next+11)) (An.v (AV.ptr (some (k1,(5+nu % 4)*256)),ASt.mk S.h (S.next+11)) (An.v (AV.tuple [],S1) An.nil)))))))))):=by kernel_rfl
theorem vcPg (d:Nat) (k0:Nat) (k1:Nat) (nu:Nat) (S:ASt) (Q:Exit×AFr×ASt→Prop) :
 (aLoad EPu 24 (AV.ptr (some (k0,30))) S=some (AV.int IntKind.u64 (Int.ofNat nu),S)∧still S (aBin EPu BinOp.neq 24 (Operand.tmp 49) (Operand.const (Value.int IntKind.u64 0)) (AV.int IntKind.u64 (Int.ofNat nu)) (AV.int IntKind.u64 (Int.ofNat 0)))=some (AV.bool false,S)∧Q (Exit.normal,xFr [(0,AV.ptr (some (d,0))),(3,AV.ptr (some (k0,0))),(6,AV.ptr (some (k1,0)))] 76,S)) =
 (tPg d k0 k1 nu S).allY (fun r=>Q (rawR [0,3,6] r)) (An.v (AV.int IntKind.u64 (Int.ofNat nu),S) (An.v (AV.bool false,S) An.nil)):=by kernel_rfl
theorem vcPh (d:Nat) (k0:Nat) (k1:Nat) (R:List AV) (S:ASt) (Q:Exit×AFr×ASt→Prop) :
 (aLoad EPu 117 (AV.ptr (some (k1,0))) S=some (AV.agg R,S)∧Q (Exit.normal,xFr [(0,AV.ptr (some (d,0))),(61,AV.agg R),(62,AV.int IntKind.i64 (Int.ofNat 0))] 76,S)) =
 (tPh d k0 k1 R S).allY (fun r=>Q (rawR [0,61,62] r)) (An.v (AV.agg R,S) An.nil):=by kernel_rfl
theorem vcPi (q:CallT) (d:Nat) (i:Nat) (k2:Nat) (B:List Nat) (R:List AV) (S:ASt) (S1:ASt) (S2:ASt) (S3:ASt) (Q:Exit×AFr×ASt→Prop) :
 (still S (aBin EPu BinOp.lss 3 (Operand.tmp 62) (Operand.const (Value.int IntKind.i64 9)) (AV.int IntKind.i64 (Int.ofNat i)) (AV.int IntKind.i64 (Int.ofNat 9)))=some (AV.bool true,S)∧still S (aIndex EPu 117 (AV.agg R) (AV.int IntKind.i64 (Int.ofNat i)))=some (AV.agg (bl B),S)∧aAlloc EPu 54 S=some (AV.ptr (some (k2,0)),S1)∧Option.map (fun s=>(undefA,s)) (aStore EPu 54 (AV.ptr (some (k2,0))) (AV.agg (bl B)) S1)=some (AV.tuple [],S2)∧aLoad EPu 54 (AV.ptr (some (k2,0))) S2=some (AV.agg (bl B),S2)∧(M EPu (drawA EPu) (onlyC [53,24,60,61,62,63,19,40] q) 53).call 19 [AV.ptr (some (d,0)),AV.int IntKind.i64 (Int.ofNat i),AV.agg (bl B)] S2=some (AV.int IntKind.i64 (Int.ofNat 0),S3)∧still S3 (aBin EPu BinOp.add 3 (Operand.tmp 62) (Operand.const (Value.int IntKind.i64 1)) (AV.int IntKind.i64 (Int.ofNat i)) (AV.int IntKind.i64 (Int.ofNat 1)))=some (AV.int IntKind.i64 (Int.ofNat (i+1)),S3)∧Q (Exit.normal,xFr [(0,AV.ptr (some (d,0))),(61,AV.agg R),(62,AV.int IntKind.i64 (Int.ofNat (i+1)))] 76,S3)) =
 (tPi q d i k2 B R S S1 S2 S3).allY (fun r=>Q (rawR [0,61,62] r)) (An.v (AV.bool true,S) (An.v (AV.agg (bl B),S) (An.v (AV.ptr (some (k2,0)),S1) (An.v (AV.tuple [],S2) (An.v (AV.agg (bl B),S2) (An.v (AV.int IntKind.i64 (Int.ofNat 0),S3) (An.v (AV.int IntKind.i64 (Int.ofNat (i+1)),S3) An.nil))))))):=by kernel_rfl
theorem vcPj (d:Nat) (R:List AV) (S:ASt) (Q:Exit×AFr×ASt→Prop) :
 (still S (aBin EPu BinOp.lss 3 (Operand.tmp 62) (Operand.const (Value.int IntKind.i64 9)) (AV.int IntKind.i64 (Int.ofNat 9)) (AV.int IntKind.i64 (Int.ofNat 9)))=some (AV.bool false,S)∧Q (Exit.exit 1,xFr [(0,AV.ptr (some (d,0)))] 76,S)) =
 (tPj d R S).allY (fun r=>Q (rawR [0] r)) (An.v (AV.bool false,S) An.nil):=by kernel_rfl
theorem vcPk (q:CallT) (d:Nat) (S:ASt) (S1:ASt) (Q:Exit×AFr×ASt→Prop) :
 ((M EPu (drawA EPu) (onlyC [53,24,60,61,62,63,19,40] q) 58).call 40 [AV.ptr (some (d,0))] S=some (AV.int IntKind.i64 (Int.ofNat 0),S1)∧Q (Exit.ret,xFr [(4,AV.int IntKind.i64 (Int.ofNat 0))] 76,S1)) =
 (tPk q d S S1).allY (fun r=>Q (rawR [4] r)) (An.v (AV.int IntKind.i64 (Int.ofNat 0),S1) An.nil):=by kernel_rfl
theorem vcBa (q:CallT) (k:Nat) (t:Nat) (se:Nat) (nu:Nat) (ho:Nat) (x:Nat→Nat) (y:Nat→Nat) (c:Bool) (mk:Bool) (k0:Nat) (k1:Nat) (B0:List Nat) (B2:List Nat) (S:ASt) (S1:ASt) (S2:ASt) (S3:ASt) (S4:ASt) (Q:Exit×AFr×ASt→Prop) :
 (aBox (AV.agg (mL k x c y t mk se nu ho)) S=some (AV.ptr (some (k0,0)),S1)∧aMake EPu 60 (AV.int IntKind.i64 (Int.ofNat 9)) (AV.int IntKind.i64 (Int.ofNat 9)) S1=some (AV.slice (some (k1,0)) 9 (Cap.known 9),S2)∧aLoad EPu 29 (AV.ptr (some (k0,1))) S2=some (AV.agg (sL x c),S2)∧(M EPu (drawA EPu) (onlyC [95,96,97,98] q) 56).call 95 [AV.agg (sL x c)] S2=some (AV.agg (bl B0),S2)∧Option.map (fun s=>(undefA,s)) (aStore EPu 54 (AV.ptr (some (k1,0))) (AV.agg (bl B0)) S2)=some (AV.tuple [],S3)∧aLoad EPu 33 (AV.ptr (some (k0,8))) S3=some (AV.agg (rL y),S3)∧aLoad EPu 24 (AV.ptr (some (k0,27))) S3=some (AV.int IntKind.u64 (Int.ofNat t),S3)∧(M EPu (drawA EPu) (onlyC [95,96,97,98] q) 56).call 96 [AV.agg (rL y),AV.int IntKind.u64 (Int.ofNat t)] S3=some (AV.agg (bl B2),S3)∧Option.map (fun s=>(undefA,s)) (aStore EPu 54 (AV.ptr (some (k1,512))) (AV.agg (bl B2)) S3)=some (AV.tuple [],S4)∧Q (Exit.normal,xFr [(1,AV.ptr (some (k0,0))),(3,AV.slice (some (k1,0)) 9 (Cap.known 9))] 40,S4)) =
 (tBa q k t se nu ho x y c mk k0 k1 B0 B2 S S1 S2 S3 S4).allY (fun r=>Q (rawR [1,3] r)) (An.v (AV.ptr (some (k0,0)),S1) (An.v (AV.slice (some (k1,0)) 9 (Cap.known 9),S2) (An.v (AV.agg (sL x c),S2) (An.v (AV.agg (bl B0),S2) (An.v (AV.tuple [],S3) (An.v (AV.agg (rL y),S3) (An.v (AV.int IntKind.u64 (Int.ofNat t),S3) (An.v (AV.agg (bl B2),S3) (An.v (AV.tuple [],S4) An.nil))))))))):=by kernel_rfl
theorem vcBb (q:CallT) (k0:Nat) (k1:Nat) (se:Nat) (B4:List Nat) (S:ASt) (S1:ASt) (Q:Exit×AFr×ASt→Prop) :
 (aLoad EPu 4 (AV.ptr (some (k0,28))) S=some (AV.bool true,S)∧aLoad EPu 24 (AV.ptr (some (k0,29))) S=some (AV.int IntKind.u64 (Int.ofNat se),S)∧(M EPu (drawA EPu) (onlyC [95,96,97,98] q) 57).call 97 [AV.int IntKind.u64 (Int.ofNat se)] S=some (AV.agg (bl B4),S)∧Option.map (fun s=>(undefA,s)) (aStore EPu 54 (AV.ptr (some (k1,1024))) (AV.agg (bl B4)) S)=some (AV.tuple [],S1)∧Q (Exit.normal,xFr [(1,AV.ptr (some (k0,0))),(3,AV.slice (some (k1,0)) 9 (Cap.known 9))] 40,S1)) =
 (tBb q k0 k1 se B4 S S1).allY (fun r=>Q (rawR [1,3] r)) (An.v (AV.bool true,S) (An.v (AV.int IntKind.u64 (Int.ofNat se),S) (An.v (AV.agg (bl B4),S) (An.v (AV.tuple [],S1) An.nil)))):=by kernel_rfl
theorem vcBc (k0:Nat) (k1:Nat) (S:ASt) (Q:Exit×AFr×ASt→Prop) :
 (aLoad EPu 4 (AV.ptr (some (k0,28))) S=some (AV.bool false,S)∧Q (Exit.normal,xFr [(1,AV.ptr (some (k0,0))),(3,AV.slice (some (k1,0)) 9 (Cap.known 9))] 40,S)) =
 (tBc k0 k1 S).allY (fun r=>Q (rawR [1,3] r)) (An.v (AV.bool false,S) An.nil):=by kernel_rfl
theorem vcBd (q:CallT) (k0:Nat) (k1:Nat) (nu:Nat) (ho:Nat) (BL:List Nat) (S:ASt) (S1:ASt) (Q:Exit×AFr×ASt→Prop) :
 (aLoad EPu 24 (AV.ptr (some (k0,30))) S=some (AV.int IntKind.u64 (Int.ofNat nu),S)∧still S (aBin EPu BinOp.gtr 24 (Operand.tmp 25) (Operand.const (Value.int IntKind.u64 0)) (AV.int IntKind.u64 (Int.ofNat nu)) (AV.int IntKind.u64 (Int.ofNat 0)))=some (AV.bool true,S)∧aLoad EPu 24 (AV.ptr (some (k0,30))) (ASt.mk S.h (S.next+13))=some (AV.int IntKind.u64 (Int.ofNat nu),ASt.mk S.h (S.next+13))∧still (ASt.mk S.h (S.next+13)) (aBin EPu BinOp.rem 24 (Operand.tmp 29) (Operand.const (Value.int IntKind.u64 4)) (AV.int IntKind.u64 (Int.ofNat nu)) (AV.int IntKind.u64 (Int.ofNat 4)))=some (AV.int IntKind.u64 (Int.ofNat (nu % 4)),ASt.mk S.h (S.next+13))∧aConvert EPu 24 3 (AV.int IntKind.u64 (Int.ofNat (nu % 4))) (ASt.mk S.h (S.next+13))=some (AV.int IntKind.i64 (Int.ofNat (nu % 4)),ASt.mk S.h (S.next+13))∧still (ASt.mk S.h (S.next+13)) (aBin EPu BinOp.add 3 (Operand.const (Value.int IntKind.i64 5)) (Operand.tmp 31) (AV.int IntKind.i64 (Int.ofNat 5)) (AV.int IntKind.i64 (Int.ofNat (nu % 4))))=some (AV.int IntKind.i64 (Int.ofNat (5+nu % 4)),ASt.mk S.h (S.next+13))∧aLoad EPu 24 (AV.ptr (some (k0,30))) (ASt.mk S.h (S.next+13))=some (AV.int IntKind.u64 (Int.ofNat nu),ASt.mk S.h (S.next+13))∧aLoad EPu 34 (AV.ptr (some (k0,31))) (ASt.mk S.h (S.next+13))=some (AV.int IntKind.u16 (Int.ofNat ho),ASt.mk S.h (S.next+13))∧(M EPu (drawA EPu) (onlyC [95,96,97,98] q) 57).call 98 [AV.int IntKind.u64 (Int.ofNat nu),AV.int IntKind.u16 (Int.ofNat ho)] (ASt.mk S.h (S.next+13))=some (AV.agg (bl BL),ASt.mk S.h (S.next+13))∧still (ASt.mk S.h (S.next+13)) (aIndexAddr EPu 60 (AV.slice (some (k1,0)) 9 (Cap.known 9)) (AV.int IntKind.i64 (Int.ofNat (5+nu % 4))))=some (AV.ptr (some (k1,(5+nu % 4)*256)),ASt.mk S.h (S.next+13))∧Option.map (fun s=>(undefA,s)) (aStore EPu 54 (AV.ptr (some (k1,(5+nu % 4)*256))) (AV.agg (bl BL)) (ASt.mk S.h (S.next+13)))=some (AV.tuple [],S1)∧holdsO [(fstO (aLoad EPu 24 (AV.ptr (some (k0,30))) (ASt.mk S.h (S.next+13))),AV.int IntKind.u64 (Int.ofNat nu))]∧Q (Exit.normal,xFr [(1,AV.ptr (some (k0,0))),(3,AV.slice (some (k1,0)) 9 (Cap.known 9))] 40,S1)) =
 (tBd q k0 k1 nu ho BL S S1).allY (fun r=>Q (rawR [1,3] r)) (An.v (AV.int IntKind.u64 (Int.ofNat nu),S) (An.v (AV.bool true,S) (An.v (AV.int IntKind.u64 (Int.ofNat nu),ASt.mk S.h (S.next+13)) (An.v (AV.int IntKind.u64 (Int.ofNat (nu % 4)),ASt.mk S.h (S.next+13)) (An.v (AV.int IntKind.i64 (Int.ofNat (nu % 4)),ASt.mk S.h (S.next+13)) (An.v (AV.int IntKind.i64 (Int.ofNat (5+nu % 4)),ASt.mk S.h (S.next+13)) (An.v (AV.int IntKind.u64 (Int.ofNat nu),ASt.mk S.h (S.next+13)) (An.v (AV.int IntKind.u16 (Int.ofNat ho),ASt.mk S.h (S.next+13)) (An.v (AV.agg (bl BL),ASt.mk S.h (S.next+13)) (An.v (AV.ptr (some (k1,(5+nu % 4)*256)),ASt.mk S.h (S.next+13)) (An.v (AV.tuple [],S1) An.nil))))))))))):=by kernel_rfl
theorem vcBe (k0:Nat) (k1:Nat) (nu:Nat) (S:ASt) (Q:Exit×AFr×ASt→Prop) :
 (aLoad EPu 24 (AV.ptr (some (k0,30))) S=some (AV.int IntKind.u64 (Int.ofNat nu),S)∧still S (aBin EPu BinOp.gtr 24 (Operand.tmp 25) (Operand.const (Value.int IntKind.u64 0)) (AV.int IntKind.u64 (Int.ofNat nu)) (AV.int IntKind.u64 (Int.ofNat 0)))=some (AV.bool false,S)∧Q (Exit.normal,xFr [(1,AV.ptr (some (k0,0))),(3,AV.slice (some (k1,0)) 9 (Cap.known 9))] 40,S)) =
 (tBe k0 k1 nu S).allY (fun r=>Q (rawR [1,3] r)) (An.v (AV.int IntKind.u64 (Int.ofNat nu),S) (An.v (AV.bool false,S) An.nil)):=by kernel_rfl
theorem vcBf (k0:Nat) (k1:Nat) (S:ASt) (Q:Exit×AFr×ASt→Prop) :
 (Q (Exit.ret,xFr [(2,AV.slice (some (k1,0)) 9 (Cap.known 9))] 40,S)) =
 (tBf k0 k1 S).allY (fun r=>Q (rawR [2] r)) (An.nil):=by kernel_rfl
theorem vcSa (r:Nat) (o:Nat) (r2:Nat) (o2:Nat) (n:Nat) (C:Cap) (C2:Cap) (S:ASt) (Q:Exit×AFr×ASt→Prop) :
 (aBuiltinM EPu Builtin.len [60] [AV.slice (some (r,o)) n C] S=some (AV.int IntKind.i64 (Int.ofNat n),S)∧aBuiltinM EPu Builtin.len [60] [AV.slice (some (r2,o2)) n C2] S=some (AV.int IntKind.i64 (Int.ofNat n),S)∧still S (aBin EPu BinOp.neq 3 (Operand.tmp 7) (Operand.tmp 9) (AV.int IntKind.i64 (Int.ofNat n)) (AV.int IntKind.i64 (Int.ofNat n)))=some (AV.bool false,S)∧Q (Exit.normal,xFr [(0,AV.slice (some (r,o)) n C),(1,AV.slice (some (r2,o2)) n C2)] 26,S)) =
 (tSa r o r2 o2 n C C2 S).allY (fun r=>Q (rawR [0,1] r)) (An.v (AV.int IntKind.i64 (Int.ofNat n),S) (An.v (AV.int IntKind.i64 (Int.ofNat n),S) (An.v (AV.bool false,S) An.nil))):=by kernel_rfl
theorem vcSb (r:Nat) (o:Nat) (r2:Nat) (o2:Nat) (n:Nat) (C:Cap) (C2:Cap) (S:ASt) (Q:Exit×AFr×ASt→Prop) :
 (Q (Exit.normal,xFr [(0,AV.slice (some (r,o)) n C),(1,AV.slice (some (r2,o2)) n C2),(5,AV.int IntKind.i64 (Int.ofNat 0))] 26,S)) =
 (tSb r o r2 o2 n C C2 S).allY (fun r=>Q (rawR [0,1,5] r)) (An.nil):=by kernel_rfl
theorem vcSc (r:Nat) (o:Nat) (r2:Nat) (o2:Nat) (n:Nat) (i:Nat) (C:Cap) (C2:Cap) (B:List Nat) (S:ASt) (Q:Exit×AFr×ASt→Prop) :
 (aBuiltinM EPu Builtin.len [60] [AV.slice (some (r,o)) n C] S=some (AV.int IntKind.i64 (Int.ofNat n),S)∧still S (aBin EPu BinOp.lss 3 (Operand.tmp 11) (Operand.tmp 13) (AV.int IntKind.i64 (Int.ofNat i)) (AV.int IntKind.i64 (Int.ofNat n)))=some (AV.bool true,S)∧still (ASt.mk S.h (S.next+9)) (aIndexAddr EPu 60 (AV.slice (some (r,o)) n C) (AV.int IntKind.i64 (Int.ofNat i)))=some (AV.ptr (some (r,o+i*256)),ASt.mk S.h (S.next+9))∧aLoad EPu 54 (AV.ptr (some (r,o+i*256))) (ASt.mk S.h (S.next+9))=some (AV.agg (bl B),ASt.mk S.h (S.next+9))∧still (ASt.mk S.h (S.next+9)) (aIndexAddr EPu 60 (AV.slice (some (r2,o2)) n C2) (AV.int IntKind.i64 (Int.ofNat i)))=some (AV.ptr (some (r2,o2+i*256)),ASt.mk S.h (S.next+9))∧aLoad EPu 54 (AV.ptr (some (r2,o2+i*256))) (ASt.mk S.h (S.next+9))=some (AV.agg (bl B),ASt.mk S.h (S.next+9))∧still (ASt.mk S.h (S.next+9)) (aBin EPu BinOp.neq 54 (Operand.tmp 20) (Operand.tmp 24) (AV.agg (bl B)) (AV.agg (bl B)))=some (AV.bool false,ASt.mk S.h (S.next+9))∧still (ASt.mk S.h (S.next+9)) (aBin EPu BinOp.add 3 (Operand.tmp 15) (Operand.const (Value.int IntKind.i64 1)) (AV.int IntKind.i64 (Int.ofNat i)) (AV.int IntKind.i64 (Int.ofNat 1)))=some (AV.int IntKind.i64 (Int.ofNat (i+1)),ASt.mk S.h (S.next+9))∧Q (Exit.normal,xFr [(0,AV.slice (some (r,o)) n C),(1,AV.slice (some (r2,o2)) n C2),(5,AV.int IntKind.i64 (Int.ofNat (i+1)))] 26,ASt.mk S.h (S.next+9))) =
 (tSc r o r2 o2 n i C C2 B S).allY (fun r=>Q (rawR [0,1,5] r)) (An.v (AV.int IntKind.i64 (Int.ofNat n),S) (An.v (AV.bool true,S) (An.v (AV.ptr (some (r,o+i*256)),ASt.mk S.h (S.next+9)) (An.v (AV.agg (bl B),ASt.mk S.h (S.next+9)) (An.v (AV.ptr (some (r2,o2+i*256)),ASt.mk S.h (S.next+9)) (An.v (AV.agg (bl B),ASt.mk S.h (S.next+9)) (An.v (AV.bool false,ASt.mk S.h (S.next+9)) (An.v (AV.int IntKind.i64 (Int.ofNat (i+1)),ASt.mk S.h (S.next+9)) An.nil)))))))):=by kernel_rfl
theorem vcSd (r:Nat) (o:Nat) (r2:Nat) (o2:Nat) (n:Nat) (i:Nat) (C:Cap) (C2:Cap) (S:ASt) (Q:Exit×AFr×ASt→Prop) :
 (aBuiltinM EPu Builtin.len [60] [AV.slice (some (r,o)) n C] S=some (AV.int IntKind.i64 (Int.ofNat n),S)∧still S (aBin EPu BinOp.lss 3 (Operand.tmp 11) (Operand.tmp 13) (AV.int IntKind.i64 (Int.ofNat i)) (AV.int IntKind.i64 (Int.ofNat n)))=some (AV.bool false,S)∧Q (Exit.exit 0,xFr [(0,AV.slice (some (r,o)) n C)] 26,S)) =
 (tSd r o r2 o2 n i C C2 S).allY (fun r=>Q (rawR [0] r)) (An.v (AV.int IntKind.i64 (Int.ofNat n),S) (An.v (AV.bool false,S) An.nil)):=by kernel_rfl
theorem vcSe (A:AV) (S:ASt) (Q:Exit×AFr×ASt→Prop) :
 (Q (Exit.ret,xFr [(4,AV.bool true)] 26,S)) =
 (tSe A S).allY (fun r=>Q (rawR [4] r)) (An.nil):=by kernel_rfl
end Go.Proofs.YtiafochainjglaaGreatDoor.drp.pu
end

section
open Go Go.Ax Go.Proofs
namespace Go.Proofs.YtiafochainjglaaGreatDoor.drp.pu
open cd cd2 cd3 cd4 cd5 cd9 oo my
set_option linter.unusedVariables false
theorem EY2ok:Env.Ok Tryz.prog EY2:=envEx_ok (xs:=[]) ⟨⟨Tryz.func24,Tryz.call24⟩,⟨Tryz.func11,Tryz.call11⟩,⟨Tryz.func53,Tryz.call53⟩,⟨Tryz.func120,Tryz.call120⟩,trivial⟩ trivial (by kernel_rfl)
section
variable {Y:ASt} {a b:Nat} {z:Int} {x y:Operand}
theorem lssZ:still Y (aBin EY2 .lss 3 x y (.int .i64 z) (.int .i64 (.ofNat 1)))=some (.bool (decide (z<1)),Y):=by
 have e:aBin EY2 .lss 3 x y (.int .i64 z) (.int .i64 (.ofNat 1))=some (.bool (ltF z (.ofNat 1))):=by kernel_rfl
 rw[ltF_eq] at e
 exact still_of e
theorem gtrZ:still Y (aBin EY2 .gtr 3 x y (.int .i64 z) (.int .i64 (.ofNat 64)))=some (.bool (decide ((64:Int)<z)),Y):=by
 have e:aBin EY2 .gtr 3 x y (.int .i64 z) (.int .i64 (.ofNat 64))=some (.bool (ltF (.ofNat 64) z)):=by kernel_rfl
 rw[ltF_eq] at e
 exact still_of e
theorem neqZ:still Y (aBin EY2 .neq 24 x y (.int .u64 (.ofNat a)) (.int .u64 (.ofNat 0)))=some (.bool (!decide (a=0)),Y):=by
 have e:aBin EY2 .neq 24 x y (.int .u64 (.ofNat a)) (.int .u64 (.ofNat 0))=some (.bool (!eqF (.ofNat a) (.ofNat 0))):=by kernel_rfl
 rw[eqF_nn] at e
 exact still_of e
theorem eqlZ:still Y (aBin EY2 .eql 24 x y (.int .u64 (.ofNat a)) (.int .u64 (.ofNat 0)))=some (.bool (decide (a=0)),Y):=by
 have e:aBin EY2 .eql 24 x y (.int .u64 (.ofNat a)) (.int .u64 (.ofNat 0))=some (.bool (eqF (.ofNat a) (.ofNat 0))):=by kernel_rfl
 rw[eqF_nn] at e
 exact still_of e
theorem eqlH:still Y (aBin EY2 .eql 34 x y (.int .u16 (.ofNat a)) (.int .u16 (.ofNat 0)))=some (.bool (decide (a=0)),Y):=by
 have e:aBin EY2 .eql 34 x y (.int .u16 (.ofNat a)) (.int .u16 (.ofNat 0))=some (.bool (eqF (.ofNat a) (.ofNat 0))):=by kernel_rfl
 rw[eqF_nn] at e
 exact still_of e
theorem gtrN:still Y (aBin EY2 .gtr 24 x y (.int .u64 (.ofNat a)) (.int .u64 (.ofNat 0)))=some (.bool (!decide (a=0)),Y):=by
 have e:aBin EY2 .gtr 24 x y (.int .u64 (.ofNat a)) (.int .u64 (.ofNat 0))=some (.bool (ltF (.ofNat 0) (.ofNat a))):=by kernel_rfl
 have:decide (0<a)=!decide (a=0):=by
  by_cases h:a=0
  ·subst h;rfl
  ·rw[decide_eq_false h,decide_eq_true (by omega)];rfl
 rw[ltF_nn,this] at e
 exact still_of e
theorem eqlN:still Y (aBin EY2 .eql 3 x y (.int .i64 (.ofNat a)) (.int .i64 (.ofNat b)))=some (.bool (decide (a=b)),Y):=by
 have e:aBin EY2 .eql 3 x y (.int .i64 (.ofNat a)) (.int .i64 (.ofNat b))=some (.bool (eqF (.ofNat a) (.ofNat b))):=by kernel_rfl
 rw[eqF_nn] at e
 exact still_of e
theorem neqN:still Y (aBin EY2 .neq 3 x y (.int .i64 (.ofNat a)) (.int .i64 (.ofNat b)))=some (.bool (!decide (a=b)),Y):=by
 have e:aBin EY2 .neq 3 x y (.int .i64 (.ofNat a)) (.int .i64 (.ofNat b))=some (.bool (!eqF (.ofNat a) (.ofNat b))):=by kernel_rfl
 rw[eqF_nn] at e
 exact still_of e
theorem addN (h:a+b<1000000):still Y (aBin EY2 .add 3 x y (.int .i64 (.ofNat a)) (.int .i64 (.ofNat b)))=some (.int .i64 (.ofNat (a+b)),Y):=by
 have e:aBin EY2 .add 3 x y (.int .i64 (.ofNat a)) (.int .i64 (.ofNat b))=some (.int .i64 (wrapF .i64 (.ofNat a+.ofNat b))):=by kernel_rfl
 rw[show (Int.ofNat a+Int.ofNat b)=Int.ofNat (a+b) from rfl,wrap_nat (by omega)] at e
 exact still_of e
end
def supI (s:Int) (a b:Nat):Bool:=match s with
 | .ofNat n=>supM n a b
 | .negSucc _=>false
noncomputable def EMy:Env:=envEx Tryz.prog [0,3,4,5,23,24,25,27,28,29] [(76,Tryz.f76),(48,Tryz.f48)] []
theorem EMyok:Env.Ok Tryz.prog EMy:=envEx_ok (xs:=[]) ⟨⟨Tryz.func76,Tryz.call76⟩,⟨Tryz.func48,Tryz.call48⟩,trivial⟩ trivial (by kernel_rfl)
theorem sG_p (s:Int) (c:Bool) (x:Nat→Nat):∀v,v∈sG s c x→∀k,refsV k v:=fun v hv k=>by
 simp only[sG,List.mem_cons,List.not_mem_nil,or_false] at hv
 rcases hv with rfl | rfl | rfl | rfl | rfl | rfl | rfl<;>simp[refsV]
theorem tL_p (Z:Nat→Int):∀v,v∈cd6.tL Z→∀k,refsV k v:=fun v hv k=>by
 unfold cd6.tL at hv
 rcases List.mem_cons.1 hv with rfl | hv
 ·simp[refsV]
 ·rcases List.mem_append.1 hv with hv | hv
  ·obtain⟨i,_,rfl⟩:=List.mem_map.1 hv
   simp[refsV]
  ·simp only[List.mem_cons,List.not_mem_nil,or_false] at hv
   rcases hv with rfl | rfl<;>simp[refsV]
theorem mG_p (b s:Int) (c:Bool) (x:Nat→Nat) (Z:Nat→Int) (t:Nat) (mk:Bool) (se nu ho:Nat):∀v,v∈mG b s c x Z t mk se nu ho→∀k,refsV k v:=fun v hv k=>by
 unfold mG at hv
 rcases List.mem_cons.1 hv with rfl | hv
 ·simp[refsV]
 ·rcases List.mem_append.1 hv with hv | hv
  ·exact sG_p s c x v hv k
  ·rcases List.mem_append.1 hv with hv | hv
   ·exact tL_p Z v hv k
   ·simp only[List.mem_cons,List.not_mem_nil,or_false] at hv
    rcases hv with rfl | rfl | rfl | rfl | rfl<;>simp[refsV]
theorem sup_any (s:Int) (c:Bool) (x:Nat→Nat) (S:ASt):Call1 Tryz.prog 76 [.agg (sG s c x)] S (.bool (supI s (x 1) (x 2)),S)∧Call1 Tryz.prog 48 [.agg (sG s c x)] S (.bool (supI s (x 1) (x 2)),S):=by
 cases s with
 | ofNat n=>exact⟨mayO (s:=n) (c:=c) (a:=x 1) (b:=x 2) (h:=x 3) (k:=x 4) (n:=x 5) S,mayR (s:=n) (c:=c) (a:=x 1) (b:=x 2) (h:=x 3) (k:=x 4) (n:=x 5) S⟩
 | negSucc n =>
  have h1:AtMem Tryz.prog 76 [.agg (sG (.negSucc n) c x)] (mkSt [] 1) (.bool false):=AtMem.of_fst EMyok noSum_ok (n:=40) (by kernel_rfl)
  have h2:AtMem Tryz.prog 48 [.agg (sG (.negSucc n) c x)] (mkSt [] 1) (.bool false):=AtMem.of_fst EMyok noSum_ok (n:=40) (by kernel_rfl)
  have hp:∀a,a∈[AV.agg (sG (.negSucc n) c x)]→refsV 0 a:=fun a ha=>by rw[List.mem_singleton.1 ha];exact agg_p (fun v h=>sG_p _ _ _ v h _)
  exact⟨Call1.pureN h1 (bool_p ..) hp,Call1.pureN h2 (bool_p ..) hp⟩
theorem tab_any (Z:Nat→Int) (S:ASt):Call1 Tryz.prog 77 [.agg (cd6.tL Z)] S (.bool (cd6.mayL (cd6.tL Z)),S)∧Call1 Tryz.prog 49 [.agg (cd6.tL Z)] S (.bool (cd6.mayL (cd6.tL Z)),S) :=
 have hp:∀a,a∈[AV.agg (cd6.tL Z)]→refsV 0 a:=fun a ha=>by rw[List.mem_singleton.1 ha];exact agg_p (fun v h=>tL_p _ v h _)
 ⟨Call1.pureN (n:=0) (cd6.at50 Z) (bool_p ..) hp,Call1.pureN (n:=0) (cd6.at54 Z) (bool_p ..) hp⟩
def mayG (b s:Int) (x:Nat→Nat) (Z:Nat→Int) (mk:Bool) (se nu ho:Nat):Bool :=
 !decide (b<1) && (!decide ((64:Int)<b) && (supI s (x 1) (x 2) && (cd6.mayL (cd6.tL Z) && (!beyS se b.toNat && ((mk || decide (se=0)) && (!decide (nu=0) || decide (ho=0)))))))
theorem may_any (b s:Int) (c:Bool) (x:Nat→Nat) (Z:Nat→Int) (t:Nat) (mk:Bool) (se nu ho:Nat) (hse:se<18446744073709551616) (S:ASt) :
  Call1 Tryz.prog 24 [.agg (mG b s c x Z t mk se nu ho)] S (.bool (mayG b s x Z mk se nu ho),S)∧Call1 Tryz.prog 11 [.agg (mG b s c x Z t mk se nu ho)] S (.bool (mayG b s x Z mk se nu ho),S):=by
 have hp:∀v,v∈[AV.agg (mG b s c x Z t mk se nu ho)]→refsV 0 v:=fun v hv=>by rw[List.mem_singleton.1 hv];exact agg_p (fun v h=>mG_p _ _ _ _ _ _ _ _ _ _ v h _)
 suffices h:AtMem Tryz.prog 24 [.agg (mG b s c x Z t mk se nu ho)] (mkSt [] 1) (.bool (mayG b s x Z mk se nu ho))∧AtMem Tryz.prog 11 [.agg (mG b s c x Z t mk se nu ho)] (mkSt [] 1) (.bool (mayG b s x Z mk se nu ho)) from
  ⟨Call1.pureN h.1 (bool_p ..) hp,Call1.pureN h.2 (bool_p ..) hp⟩
 by_cases hb:b<1∨64<b
 ·have e:mayG b s x Z mk se nu ho=false:=by
   unfold mayG
   rcases hb with h | h
   ·rw[decide_eq_true h];rfl
   ·rw[decide_eq_true h];simp
  rw[e]
  by_cases h1:b<1
  ·exact⟨AtMem.of_tm EY2ok (onlyC_ok noSum_ok) (Eq.mp (vcMO noSum b s c x Z t mk se nu ho true false false false false false false false (fun r=>r.1=.bool false)) ⟨by rw[lssZ,decide_eq_true h1],ifB_mk (fun _=>rfl) (fun h=>by cases h)⟩),
    AtMem.of_tm EY2ok (onlyC_ok noSum_ok) (Eq.mp (vcMR noSum b s c x Z t mk se nu ho true false false false false false false false (fun r=>r.1=.bool false)) ⟨by rw[lssZ,decide_eq_true h1],ifB_mk (fun _=>rfl) (fun h=>by cases h)⟩)⟩
  ·have h2:64<b:=by omega
   exact⟨AtMem.of_tm EY2ok (onlyC_ok noSum_ok) (Eq.mp (vcMO noSum b s c x Z t mk se nu ho false true false false false false false false (fun r=>r.1=.bool false)) ⟨by rw[lssZ,decide_eq_false h1],ifB_mk (fun h=>by cases h) (fun _=>⟨by rw[gtrZ,decide_eq_true h2],ifB_mk (fun _=>rfl) (fun h=>by cases h)⟩)⟩),
    AtMem.of_tm EY2ok (onlyC_ok noSum_ok) (Eq.mp (vcMR noSum b s c x Z t mk se nu ho false true false false false false false false (fun r=>r.1=.bool false)) ⟨by rw[lssZ,decide_eq_false h1],ifB_mk (fun h=>by cases h) (fun _=>⟨by rw[gtrZ,decide_eq_true h2],ifB_mk (fun _=>rfl) (fun h=>by cases h)⟩)⟩)⟩
 obtain⟨k,rfl⟩:∃k:Nat,b=.ofNat k:=⟨b.toNat,by simp only[Int.ofNat_eq_natCast];omega⟩
 have h1:¬((Int.ofNat k)<1):=fun h=>hb (.inl h)
 have h2:¬((64:Int)<Int.ofNat k):=fun h=>hb (.inr h)
 have hk2:k≤64:=by simp only[Int.ofNat_eq_natCast] at h2;omega
 have e:mayG (.ofNat k) s x Z mk se nu ho=(supI s (x 1) (x 2) && (cd6.mayL (cd6.tL Z) && (!beyS se k && ((mk || decide (se=0)) && (!decide (nu=0) || decide (ho=0)))))):=by
  unfold mayG
  rw[decide_eq_false h1,decide_eq_false h2];rfl
 rw[e]
 have hokO:=orC_ok (pureC_ok fun S=>(sup_any s c x S).1) (orC_ok (pureC_ok fun S=>(tab_any Z S).1) (pureC_ok fun S=>none_p S se k))
 have hokR:=orC_ok (pureC_ok fun S=>(sup_any s c x S).2) (orC_ok (pureC_ok fun S=>(tab_any Z S).2) (pureC_ok fun S=>bey_p S hse hk2))
 generalize supI s (x 1) (x 2)=a3 at hokO hokR ⊢
 generalize cd6.mayL (cd6.tL Z)=a4 at hokO hokR ⊢
 generalize beyS se k=a5 at hokO hokR ⊢
 obtain⟨a6,ha6⟩:∃a,a=decide (se=0):=⟨_,rfl⟩
 obtain⟨a7,ha7⟩:∃a,a=decide (nu=0):=⟨_,rfl⟩
 obtain⟨a8,ha8⟩:∃a,a=decide (ho=0):=⟨_,rfl⟩
 rw[←ha6,←ha7,←ha8]
 constructor
 ·refine AtMem.of_tm EY2ok (onlyC_ok hokO) (Eq.mp (vcMO _ (.ofNat k) s c x Z t mk se nu ho false false a3 a4 a5 (!a6) (!a7) a8 (fun r=>r.1=.bool (a3 && (a4 && (!a5 && ((mk || a6) && (!a7 || a8))))))) ?_)
  have fin:∀v,v=(a3 && (a4 && (!a5 && ((mk || a6) && (!a7 || a8)))))→AV.bool v=.bool (a3 && (a4 && (!a5 && ((mk || a6) && (!a7 || a8))))):=fun v h=>by rw[h]
  exact⟨by rw[lssZ,decide_eq_false h1],ifB_mk (fun h=>by cases h) (fun _=>⟨by rw[gtrZ,decide_eq_false h2],ifB_mk (fun h=>by cases h) (fun _=>⟨ca (orC_l (pureC_at ..)),ifB_mk (fun g3=>⟨ca (orC_r (pureC_no (by decide)) (orC_l (pureC_at ..))),ifB_mk (fun g4=>⟨ca (orC_r (pureC_no (by decide)) (orC_r (pureC_no (by decide)) (pureC_at ..))),
   ifB_mk (fun g5=>fin _ (by rw[g5];simp)) (fun g5=>ifB_mk (fun gm=>⟨by rw[ha6];exact neqZ,ifB_mk (fun g6=>fin _ (by revert gm g6;cases mk<;>cases a6<;>simp)) (fun g6=>⟨by rw[ha7];exact neqZ,ifB_mk (fun g7=>fin _ (by revert g3 g4 g5 g6 g7;cases a3<;>cases a4<;>cases a5<;>cases a6<;>cases a7<;>simp)) (fun g7=>⟨by rw[ha8];exact eqlH,fin _ (by revert g3 g4 g5 g6 g7;cases a3<;>cases a4<;>cases a5<;>cases a6<;>cases a7<;>simp)⟩)⟩)⟩)
    (fun gm=>⟨by rw[ha7];exact neqZ,ifB_mk (fun g7=>fin _ (by revert g3 g4 g5 gm g7;cases a3<;>cases a4<;>cases a5<;>cases mk<;>cases a7<;>simp)) (fun g7=>⟨by rw[ha8];exact eqlH,fin _ (by revert g3 g4 g5 gm g7;cases a3<;>cases a4<;>cases a5<;>cases mk<;>cases a7<;>simp)⟩)⟩))⟩) (fun g4=>fin _ (by rw[g4];simp))⟩) (fun g3=>fin _ (by rw[g3];rfl))⟩)⟩)⟩
 ·refine AtMem.of_tm EY2ok (onlyC_ok hokR) (Eq.mp (vcMR _ (.ofNat k) s c x Z t mk se nu ho false false a3 a4 a5 a6 (!a7) a8 (fun r=>r.1=.bool (a3 && (a4 && (!a5 && ((mk || a6) && (!a7 || a8))))))) ?_)
  have fin:∀v,v=(a3 && (a4 && (!a5 && ((mk || a6) && (!a7 || a8)))))→AV.bool v=.bool (a3 && (a4 && (!a5 && ((mk || a6) && (!a7 || a8))))):=fun v h=>by rw[h]
  exact⟨by rw[lssZ,decide_eq_false h1],ifB_mk (fun h=>by cases h) (fun _=>⟨by rw[gtrZ,decide_eq_false h2],ifB_mk (fun h=>by cases h) (fun _=>⟨ca (orC_l (pureC_at ..)),ifB_mk (fun g3=>⟨ca (orC_r (pureC_no (by decide)) (orC_l (pureC_at ..))),ifB_mk (fun g4=>⟨ca (orC_r (pureC_no (by decide)) (orC_r (pureC_no (by decide)) (pureC_at ..))),
   ifB_mk (fun g5=>fin _ (by rw[g5];simp)) (fun g5=>ifB_mk (fun gm=>⟨by rw[ha7];exact gtrN,ifB_mk (fun g7=>fin _ (by revert g3 g4 g5 gm g7;cases a3<;>cases a4<;>cases a5<;>cases mk<;>cases a7<;>simp)) (fun g7=>⟨by rw[ha8];exact eqlH,fin _ (by revert g3 g4 g5 gm g7;cases a3<;>cases a4<;>cases a5<;>cases mk<;>cases a7<;>simp)⟩)⟩)
    (fun gm=>⟨by rw[ha6];exact eqlZ,ifB_mk (fun g6=>⟨by rw[ha7];exact gtrN,ifB_mk (fun g7=>fin _ (by revert g3 g4 g5 g6 g7;cases a3<;>cases a4<;>cases a5<;>cases a6<;>cases a7<;>simp)) (fun g7=>⟨by rw[ha8];exact eqlH,fin _ (by revert g3 g4 g5 g6 g7;cases a3<;>cases a4<;>cases a5<;>cases a6<;>cases a7<;>simp)⟩)⟩) (fun g6=>fin _ (by revert gm g6;cases mk<;>cases a6<;>simp))⟩))⟩) (fun g4=>fin _ (by rw[g4];simp))⟩) (fun g3=>fin _ (by rw[g3];rfl))⟩)⟩)⟩
theorem check_any {S:ASt} {d k:Nat} {las:List (List Nat)} {es:List dsk.En} (hD:Dsk S d las es) (hn:las.length=9+k) (h1:1≤k) (h2:k≤64) {z:Int} (hz:z≠.ofNat k):Call1 Tryz.prog 53 [.ptr (some (d,0)),.int .i64 z] S (.int .i64 (.ofNat 2),S):=by
 by_cases h3:z<1
 ·exact Call1.of_tm EY2ok (onlyC_ok (diskC_ok (d:=d) (las:=las) (es:=es))) (Eq.mp (vcCa (diskC d las es) d las.length z S (fun q=>q=(.int .i64 (.ofNat 2),S))) ⟨ca (diskC_b hD),by rw[eqlN,decide_eq_false (by omega)],by rw[lssZ,decide_eq_true h3],rfl⟩)
 by_cases h4:64<z
 ·exact Call1.of_tm EY2ok (onlyC_ok (diskC_ok (d:=d) (las:=las) (es:=es))) (Eq.mp (vcCb (diskC d las es) d las.length z S (fun q=>q=(.int .i64 (.ofNat 2),S))) ⟨ca (diskC_b hD),by rw[eqlN,decide_eq_false (by omega)],by rw[lssZ,decide_eq_false h3],by rw[gtrZ,decide_eq_true h4],rfl⟩)
 obtain⟨j,rfl⟩:∃j:Nat,z=.ofNat j:=⟨z.toNat,by simp only[Int.ofNat_eq_natCast];omega⟩
 have hj:j≠k:=fun e=>hz (by rw[e])
 have hj2:j≤64:=by simp only[Int.ofNat_eq_natCast] at h4;omega
 exact Call1.of_tm EY2ok (onlyC_ok (diskC_ok (d:=d) (las:=las) (es:=es))) (Eq.mp (vcCc (diskC d las es) d las.length j S (fun q=>q=(.int .i64 (.ofNat 2),S))) ⟨ca (diskC_b hD),by rw[eqlN,decide_eq_false (by omega)],by rw[lssZ,decide_eq_false h3],by rw[gtrZ,decide_eq_false h4],addN (by omega),by rw[eqlN,decide_eq_false (by omega)],by rw[lssZ,decide_eq_false h3],by rw[gtrZ,decide_eq_false h4],addN (by omega),ca (diskC_b hD),by rw[neqN,decide_eq_false (by omega)];rfl,rfl⟩)
end Go.Proofs.YtiafochainjglaaGreatDoor.drp.pu
end
