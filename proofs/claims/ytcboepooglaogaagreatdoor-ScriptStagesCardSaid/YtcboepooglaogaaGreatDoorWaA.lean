/-
  OWN WORK, A PART: an abstract machine for the program's text that the kernel can run, and the proof that it is sound: what it answers is what the program answers; contracts of functions by it. No condition.
-/
import Derived.RangeFuncLeaves
import Derived.LoopNIn
import Derived.Below
import Derived.ChangeKeysEq
import Derived.Laws.StructEq
section
namespace Go.Ax
inductive T (α:Type) where
 | e
 | n (l:T α) (v:Option α) (r:T α)
 | o (t:T α) (k:Nat) (v:α)
noncomputable def T.get {α:Type} (t:T α):Nat→Option α :=
 @T.rec α (fun _=>Nat→Option α) (fun _=>none)
  (fun _ v _ gl gr k=>@Nat.rec (fun _=>Option α) v (fun k _=>@Bool.rec (fun _=>Option α) (gr (Nat.div k 2)) (gl (Nat.div k 2)) (Nat.beq (Nat.mod k 2) 0)) k)
  (fun _ j v g k=>@Bool.rec (fun _=>Option α) (g k) (some v) (Nat.beq j k)) t
theorem T.get_e {α:Type} (k:Nat):(T.e:T α).get k=none:=rfl
theorem T.get_n0 {α:Type} (l:T α) (v:Option α) (r:T α):(T.n l v r).get 0=v:=rfl
theorem T.get_n1 {α:Type} (l:T α) (v:Option α) (r:T α) (k:Nat):(T.n l v r).get (k+1)=bif Nat.beq (k % 2) 0 then l.get (k / 2) else r.get (k / 2):=by
 show @Bool.rec (fun _=>Option α) (r.get (k / 2)) (l.get (k / 2)) (Nat.beq (k % 2) 0)=_
 cases Nat.beq (k % 2) 0<;>rfl
theorem T.get_o {α:Type} (t:T α) (j:Nat) (v:α) (k:Nat):(T.o t j v).get k=bif Nat.beq j k then some v else t.get k:=by
 show @Bool.rec (fun _=>Option α) (t.get k) (some v) (Nat.beq j k)=_
 cases Nat.beq j k<;>rfl
noncomputable def T.set {α:Type} (d:Nat):T α→Nat→α→T α :=
 @Nat.rec (fun _=>T α→Nat→α→T α) (fun t k v=>.o t k v)
  (fun _ ih t k v=>@T.rec α (fun _=>T α)
   (@Nat.rec (fun _=>T α) (.n .e (some v) .e) (fun k _=>@Bool.rec (fun _=>T α) (.n .e none (ih .e (Nat.div k 2) v)) (.n (ih .e (Nat.div k 2) v) none .e) (Nat.beq (Nat.mod k 2) 0)) k)
   (fun l u r _ _=>@Nat.rec (fun _=>T α) (.n l (some v) r) (fun k _=>@Bool.rec (fun _=>T α) (.n l u (ih r (Nat.div k 2) v)) (.n (ih l (Nat.div k 2) v) u r) (Nat.beq (Nat.mod k 2) 0)) k)
   (fun t j u _=>.o (.o t j u) k v) t) d
theorem T.set_0 {α:Type} (t:T α) (k:Nat) (v:α):T.set 0 t k v=.o t k v:=rfl
theorem T.set_e0 {α:Type} (d:Nat) (v:α):T.set (d+1) (.e:T α) 0 v=.n .e (some v) .e:=rfl
theorem T.set_e1 {α:Type} (d k:Nat) (v:α):T.set (d+1) (.e:T α) (k+1) v=bif Nat.beq (k % 2) 0 then .n (T.set d .e (k / 2) v) none .e else .n .e none (T.set d .e (k / 2) v):=by
 show @Bool.rec (fun _=>T α) (.n .e none (T.set d .e (k / 2) v)) (.n (T.set d .e (k / 2) v) none .e) (Nat.beq (k % 2) 0)=_
 cases Nat.beq (k % 2) 0<;>rfl
theorem T.set_n0 {α:Type} (d:Nat) (l:T α) (u:Option α) (r:T α) (v:α):T.set (d+1) (.n l u r) 0 v=.n l (some v) r:=rfl
theorem T.set_n1 {α:Type} (d k:Nat) (l:T α) (u:Option α) (r:T α) (v:α) :
  T.set (d+1) (.n l u r) (k+1) v=bif Nat.beq (k % 2) 0 then .n (T.set d l (k / 2) v) u r else .n l u (T.set d r (k / 2) v):=by
 show @Bool.rec (fun _=>T α) (.n l u (T.set d r (k / 2) v)) (.n (T.set d l (k / 2) v) u r) (Nat.beq (k % 2) 0)=_
 cases Nat.beq (k % 2) 0<;>rfl
theorem T.set_o {α:Type} (d k j:Nat) (t:T α) (u v:α):T.set (d+1) (.o t j u) k v=.o (.o t j u) k v:=rfl
theorem beq_half {a b:Nat} {x y:Bool} (ha:Nat.beq (a % 2) 0=x) (hb:Nat.beq (b % 2) 0=y):(x=y→(a / 2=b / 2↔a=b))∧(x≠y→a≠b):=by
 have e:∀c:Nat,Nat.beq (c % 2) 0=decide (c % 2=0):=fun c=>by
  rcases Nat.mod_two_eq_zero_or_one c with h | h<;>rw[h]<;>rfl
 rw[e] at ha hb
 subst ha;subst hb
 refine⟨fun h=>?_,fun h e=>h (by rw[e])⟩
 have h:(a % 2=0)=(b % 2=0):=by simpa using h
 have h:(a % 2=0)↔(b % 2=0):=by rw[h]
 omega
theorem T.get_set {α:Type} (d:Nat):∀(t:T α) (k:Nat) (v:α) (j:Nat),(T.set d t k v).get j=if j=k then some v else t.get j:=by
 have hbeq:∀k j:Nat,Nat.beq k j=decide (j=k):=fun k j=>by
  by_cases h:j=k
  ·subst h;simp
  ·have:k≠j:=fun e=>h e.symm
   simp only[h,decide_false]
   cases hb:Nat.beq k j
   ·rfl
   ·exact absurd (Nat.eq_of_beq_eq_true hb) this
 induction d with
 | zero =>
  intro t k v j
  by_cases h:j=k<;>simp[T.set_0,T.get_o,h,hbeq]
 | succ d ih =>
  intro t k v j
  cases t with
  | e =>
   cases k with
   | zero=>cases j<;>simp[T.set_e0,T.get_e,T.get_n0,T.get_n1]
   | succ k =>
    cases hk:Nat.beq (k % 2) 0<;>cases j with
    | zero=>simp[T.set_e1,T.get_e,T.get_n0,hk]
    | succ j =>
     cases hj:Nat.beq (j % 2) 0<;>have hh:=beq_half hj hk<;>simp at hh<;>simp[T.set_e1,T.get_e,T.get_n1,hk,hj,ih,hh]
  | n l u r =>
   cases k with
   | zero=>cases j<;>simp[T.set_n0,T.get_n0,T.get_n1]
   | succ k =>
    cases hk:Nat.beq (k % 2) 0<;>cases j with
    | zero=>simp[T.set_n1,T.get_n0,hk]
    | succ j =>
     cases hj:Nat.beq (j % 2) 0<;>have hh:=beq_half hj hk<;>simp at hh<;>simp[T.set_n1,T.get_n1,hk,hj,ih,hh]
  | o t i u =>
   by_cases h:j=k<;>simp[T.set_o,T.get_o,h,hbeq]
attribute [irreducible] T.get T.set
inductive Cap where
 | known (n:Nat)
 | rest (esz:Nat)
 | atl (n:Nat)
inductive AV where
 | bool (b:Bool)
 | int (k:IntKind) (n:Int)
 | str (s:List Nat)
 | ptr (a:Option (Nat×Nat))
 | slice (a:Option (Nat×Nat)) (len:Nat) (cap:Cap)
 | clos (f:FuncId) (caps:List AV)
 | bound (f:FuncId) (first caps:List AV)
 | yield (l:Nat)
 | nilFunc
 | iface (t:TypeId) (v:AV)
 | nilIface
 | agg (cs:List AV)
 | tuple (vs:List AV)
 | map (r:Option Nat)
 | slice0
 | gptr (g o:Nat)
 | any
def undefA:AV:=.tuple []
def AV.isCell:AV→Bool
 | .agg _=>false
 | .tuple _=>false
 | .any=>false
 | _=>true
structure Loc where
 b:Nat
 p:Nat
 tot:Nat
abbrev Ren:=Nat→Option Loc
def CapR (L:Loc) (o c':Nat):Cap→Prop
 | .known n=>n=c'
 | .rest e=>L.p+o+c' * e=L.tot
 | .atl n=>n≤c'
inductive VR (ι:Ren):AV→Value→Prop
 | bool (b:Bool):VR ι (.bool b) (.bool b)
 | int (k:IntKind) (n:Int):VR ι (.int k n) (.int k n)
 | str (l:List Nat) (s:ByteArray) (h:s.data.toList.map UInt8.toNat=l):VR ι (.str l) (.string s)
 | ptrN:VR ι (.ptr none) (.pointer none)
 | ptr (i o:Nat) (L:Loc) (h:ι i=some L):VR ι (.ptr (some (i,o))) (.pointer (some ⟨L.b,L.p+o,none⟩))
 | sliceN:VR ι (.slice none 0 (.known 0)) (.slice none 0 0)
 | slice (i o l c':Nat) (L:Loc) (c:Cap) (h:ι i=some L) (hc:CapR L o c' c) (hl:l≤c') :
  VR ι (.slice (some (i,o)) l c) (.slice (some ⟨L.b,L.p+o,none⟩) l c')
 | clos (f:FuncId) (cs:List AV) (cs':Array Value) (hs:cs.length=cs'.size)
  (h:∀(i:Nat) v v',cs[i]? = some v→cs'[i]? = some v'→VR ι v v'):VR ι (.clos f cs) (.func (.func f) #[] cs')
 | bound (f:FuncId) (fs cs:List AV) (fs' cs':Array Value) (hs:cs.length=cs'.size) (hf:fs.length=fs'.size)
  (h:∀(i:Nat) v v',cs[i]? = some v→cs'[i]? = some v'→VR ι v v') (g:∀(i:Nat) v v',fs[i]? = some v→fs'[i]? = some v'→VR ι v v'):VR ι (.bound f fs cs) (.func (.func f) fs' cs')
 | yield (i:Nat) (L:Loc) (h:ι i=some L):VR ι (.yield i) (.func (.yield L.b) #[] #[])
 | nilFunc:VR ι .nilFunc .nilFunc
 | iface (t:TypeId) (v:AV) (v':Value) (h:VR ι v v'):VR ι (.iface t v) (.iface t v')
 | nilIface:VR ι .nilIface .nilIface
 | agg (cs:List AV) (cs':Array Value) (hs:cs.length=cs'.size) (hc:∀v,v∈cs→v.isCell=true)
  (h:∀(i:Nat) v v',cs[i]? = some v→cs'[i]? = some v'→VR ι v v'):VR ι (.agg cs) (.agg cs')
 | tuple (cs:List AV) (cs':Array Value) (hs:cs.length=cs'.size)
  (h:∀(i:Nat) v v',cs[i]? = some v→cs'[i]? = some v'→VR ι v v'):VR ι (.tuple cs) (.tuple cs')
 | mapN:VR ι (.map none) (.map none)
 | map (i:Nat) (L:Loc) (h:ι i=some L):VR ι (.map (some i)) (.map (some L.b))
 | slice0 (a:Addr) (c:Nat):VR ι .slice0 (.slice (some a) 0 c)
 | gptr (g o:Nat):VR ι (.gptr g o) (.pointer (some ⟨g,o,none⟩))
 | any (v:Value):VR ι .any v
def Ren.le (ι κ:Ren):Prop:=∀i x,ι i=some x→κ i=some x
theorem Ren.le_refl (ι:Ren):ι.le ι:=fun _ _ h=>h
theorem Ren.le_trans {ι κ μ:Ren} (h:ι.le κ) (h':κ.le μ):ι.le μ:=fun i x hx=>h' i x (h i x hx)
theorem VR.mono {ι κ:Ren} (hle:ι.le κ) {a:AV} {v:Value} (h:VR ι a v):VR κ a v:=by
 induction h with
 | bool b=>exact .bool b
 | int k n=>exact .int k n
 | str l s h=>exact .str l s h
 | ptrN=>exact .ptrN
 | ptr i o L h=>exact .ptr i o L (hle _ _ h)
 | sliceN=>exact .sliceN
 | slice i o l c' L c h hc hl=>exact .slice i o l c' L c (hle _ _ h) hc hl
 | clos f cs cs' hs h ih=>exact .clos f cs cs' hs ih
 | bound f fs cs fs' cs' hs hf h g ih ig=>exact .bound f fs cs fs' cs' hs hf ih ig
 | yield i L h=>exact .yield i L (hle _ _ h)
 | nilFunc=>exact .nilFunc
 | iface t v v' h ih=>exact .iface t v v' ih
 | nilIface=>exact .nilIface
 | agg cs cs' hs hc h ih=>exact .agg cs cs' hs hc ih
 | tuple cs cs' hs h ih=>exact .tuple cs cs' hs ih
 | mapN=>exact .mapN
 | map i L h=>exact .map i L (hle _ _ h)
 | slice0 a c=>exact .slice0 a c
 | gptr g o=>exact .gptr g o
 | any v=>exact .any v
structure VRs (ι:Ren) (l:List AV) (r:Array Value):Prop where
 size:l.length=r.size
 at_:∀(i:Nat) v v',l[i]? = some v→r[i]? = some v'→VR ι v v'
theorem VRs.mono {ι κ:Ren} (hle:ι.le κ) {l:List AV} {r:Array Value} (h:VRs ι l r):VRs κ l r :=
 ⟨h.size,fun i v v' a b=>(h.at_ i v v' a b).mono hle⟩
theorem VRs.get {ι:Ren} {l:List AV} {r:Array Value} (h:VRs ι l r) {i:Nat} {v:AV} (hv:l[i]? = some v):∃v',r[i]? = some v'∧VR ι v v':=by
 have hi:i<l.length:=(List.getElem?_eq_some_iff.1 hv).1
 have hr:i<r.size:=h.size▸hi
 exact⟨r[i],by simp[hr],h.at_ i v _ hv (by simp[hr])⟩
theorem VR.cell_of {ι:Ren} {a:AV} {v:Value} (h:VR ι a v) (hc:a.isCell=true):v.cells=#[v]∧(∀c,v≠.agg c)∧(∀c,v≠.tuple c):=by
 cases h<;>simp_all[AV.isCell,Value.cells]
def ofLeaf:Value→Option AV
 | .bool b=>some (.bool b)
 | .int k n=>some (.int k n)
 | .string s=>some (.str (s.data.toList.map UInt8.toNat))
 | .pointer none=>some (.ptr none)
 | .slice none 0 0=>some (.slice none 0 (.known 0))
 | .nilFunc=>some .nilFunc
 | .nilIface=>some .nilIface
 | .map none=>some (.map none)
 | _=>none
def ofLeaves:List Value→Option (List AV)
 | []=>some []
 | v::vs =>
  match ofLeaf v with
  | some a =>
   match ofLeaves vs with
   | some l=>some (a::l)
   | none=>none
  | none=>none
def ofValue:Value→Option AV
 | .agg cs =>
  match ofLeaves cs.toList with
  | some l=>some (.agg l)
  | none=>none
 | v=>ofLeaf v
theorem ofLeaf_ok {ι:Ren} {v:Value} {a:AV} (h:ofLeaf v=some a):VR ι a v∧a.isCell=true:=by
 unfold ofLeaf at h
 split at h<;>simp only[Option.some.injEq,reduceCtorEq] at h<;>subst h
 ·exact⟨.bool _,rfl⟩
 ·exact⟨.int _ _,rfl⟩
 ·exact⟨.str _ _ rfl,rfl⟩
 ·exact⟨.ptrN,rfl⟩
 ·exact⟨.sliceN,rfl⟩
 ·exact⟨.nilFunc,rfl⟩
 ·exact⟨.nilIface,rfl⟩
 ·exact⟨.mapN,rfl⟩
theorem ofLeaves_ok {ι:Ren}:∀(vs:List Value) (l:List AV),ofLeaves vs=some l →
  VRs ι l vs.toArray∧∀v,v∈l→v.isCell=true
 | [],l,h=>by simp[ofLeaves] at h;subst h;exact⟨⟨rfl,fun i v v' h=>by simp at h⟩,by simp⟩
 | v::vs,l,h=>by
  simp only[ofLeaves] at h
  split at h
  ·rename_i a ha
   split at h
   ·rename_i l' hl'
    simp at h;subst h
    obtain⟨h1,h2⟩:=ofLeaves_ok (ι:=ι) vs l' hl'
    refine⟨⟨by have:=h1.size;simp at this;simp[this],fun i x x' hx hx'=>?_⟩,fun x hx=>?_⟩
    ·cases i with
     | zero=>simp at hx hx';subst hx;subst hx';exact (ofLeaf_ok ha).1
     | succ i=>simp at hx hx';exact h1.at_ i x x' hx (by simpa using hx')
    ·simp at hx;rcases hx with rfl | hx
     ·exact (ofLeaf_ok (ι:=ι) ha).2
     ·exact h2 x hx
   ·simp at h
  ·simp at h
theorem ofValue_ok {ι:Ren} {v:Value} {a:AV} (h:ofValue v=some a):VR ι a v:=by
 unfold ofValue at h
 split at h
 ·rename_i cs
  split at h
  ·rename_i l hl
   simp at h;subst h
   obtain⟨h1,h2⟩:=ofLeaves_ok (ι:=ι) _ _ hl
   exact .agg l cs (by simpa using h1.size) h2 (by simpa using h1.at_)
  ·simp at h
 ·exact (ofLeaf_ok h).1
def glV:Nat→Option (List AV):=fun g=>bif Nat.beq g 1 then some [.int .u64 (.ofNat 1),.int .u64 (.ofNat 10),.int .u64 (.ofNat 100),.int .u64 (.ofNat 1000),.int .u64 (.ofNat 10000),.int .u64 (.ofNat 100000),.int .u64 (.ofNat 1000000),.int .u64 (.ofNat 10000000),.int .u64 (.ofNat 100000000),.int .u64 (.ofNat 1000000000),.int .u64 (.ofNat 10000000000),.int .u64 (.ofNat 100000000000),.int .u64 (.ofNat 1000000000000),.int .u64 (.ofNat 10000000000000),.int .u64 (.ofNat 100000000000000),.int .u64 (.ofNat 1000000000000000),.int .u64 (.ofNat 10000000000000000),.int .u64 (.ofNat 100000000000000000),.int .u64 (.ofNat 1000000000000000000),.int .u64 (.ofNat 10000000000000000000)] else bif Nat.beq g 4 then some [.int .u8 (.ofNat 0),.int .u8 (.ofNat 1),.int .u8 (.ofNat 28),.int .u8 (.ofNat 2),.int .u8 (.ofNat 29),.int .u8 (.ofNat 14),.int .u8 (.ofNat 24),.int .u8 (.ofNat 3),.int .u8 (.ofNat 30),.int .u8 (.ofNat 22),.int .u8 (.ofNat 20),.int .u8 (.ofNat 15),.int .u8 (.ofNat 25),.int .u8 (.ofNat 17),.int .u8 (.ofNat 4),.int .u8 (.ofNat 8),.int .u8 (.ofNat 31),.int .u8 (.ofNat 27),.int .u8 (.ofNat 13),.int .u8 (.ofNat 23),.int .u8 (.ofNat 21),.int .u8 (.ofNat 19),.int .u8 (.ofNat 16),.int .u8 (.ofNat 7),.int .u8 (.ofNat 26),.int .u8 (.ofNat 12),.int .u8 (.ofNat 18),.int .u8 (.ofNat 6),.int .u8 (.ofNat 11),.int .u8 (.ofNat 5),.int .u8 (.ofNat 10),.int .u8 (.ofNat 9)] else bif Nat.beq g 5 then some [.int .u8 (.ofNat 0),.int .u8 (.ofNat 1),.int .u8 (.ofNat 56),.int .u8 (.ofNat 2),.int .u8 (.ofNat 57),.int .u8 (.ofNat 49),.int .u8 (.ofNat 28),.int .u8 (.ofNat 3),.int .u8 (.ofNat 61),.int .u8 (.ofNat 58),.int .u8 (.ofNat 42),.int .u8 (.ofNat 50),.int .u8 (.ofNat 38),.int .u8 (.ofNat 29),.int .u8 (.ofNat 17),.int .u8 (.ofNat 4),.int .u8 (.ofNat 62),.int .u8 (.ofNat 47),.int .u8 (.ofNat 59),.int .u8 (.ofNat 36),.int .u8 (.ofNat 45),.int .u8 (.ofNat 43),.int .u8 (.ofNat 51),.int .u8 (.ofNat 22),.int .u8 (.ofNat 53),.int .u8 (.ofNat 39),.int .u8 (.ofNat 33),.int .u8 (.ofNat 30),.int .u8 (.ofNat 24),.int .u8 (.ofNat 18),.int .u8 (.ofNat 12),.int .u8 (.ofNat 5),.int .u8 (.ofNat 63),.int .u8 (.ofNat 55),.int .u8 (.ofNat 48),.int .u8 (.ofNat 27),.int .u8 (.ofNat 60),.int .u8 (.ofNat 41),.int .u8 (.ofNat 37),.int .u8 (.ofNat 16),.int .u8 (.ofNat 46),.int .u8 (.ofNat 35),.int .u8 (.ofNat 44),.int .u8 (.ofNat 21),.int .u8 (.ofNat 52),.int .u8 (.ofNat 32),.int .u8 (.ofNat 23),.int .u8 (.ofNat 11),.int .u8 (.ofNat 54),.int .u8 (.ofNat 26),.int .u8 (.ofNat 40),.int .u8 (.ofNat 15),.int .u8 (.ofNat 34),.int .u8 (.ofNat 20),.int .u8 (.ofNat 31),.int .u8 (.ofNat 10),.int .u8 (.ofNat 25),.int .u8 (.ofNat 14),.int .u8 (.ofNat 19),.int .u8 (.ofNat 9),.int .u8 (.ofNat 13),.int .u8 (.ofNat 8),.int .u8 (.ofNat 7),.int .u8 (.ofNat 6)] else none
structure GlobAt (w:World) (g:Nat) (cs:List AV):Prop where
 cell:∀v,v∈cs→v.isCell=true
 at_:∃c e m,w.heap[g]? = some (.cells c e m)∧cs.length=c.size∧∀(k:Nat) v v',cs[k]? = some v→c[k]? = some v'→∀ι,VR ι v v'
def GlobOK (w:World):Prop:=∀g cs,glV g=some cs→GlobAt w g cs
theorem GlobAt.lt {w:World} {g:Nat} {cs:List AV} (h:GlobAt w g cs):g<w.heap.size:=by
 obtain⟨c,e,m,h1,_⟩:=h.at_
 exact (Array.getElem?_eq_some_iff.1 h1).1
theorem GlobAt.to {w w':World} {g:Nat} {cs:List AV} (h:GlobAt w g cs) (he:w'.heap[g]? = w.heap[g]?):GlobAt w' g cs :=
 ⟨h.cell,by rw[he];exact h.at_⟩
end Go.Ax
end

section
namespace Go.Ax
noncomputable section
open Go.RowKit
structure AFr where
 m:T AV
 n:Nat
 defs:List Nat
inductive AO where
 | cells (cs:List AV) (rw:Bool)
 | dead
 | loop (state:LoopState) (pending:Option Code) (tmps:AFr) (params:List Tmp) (assign body:Code) (defers:Nat)
 | defd
 | map (es:List (AV×AV×Nat)) (clock:Nat)
 | siter (s:List Nat) (pos:Nat)
 | miter (m:Option Nat) (since:Nat) (seen:List Nat) (last:Nat)
def AO.own:AO→Bool
 | .cells _ rw=>rw
 | .dead=>false
 | _=>true
structure ASt where
 h:T AO
 next:Nat
def FR (ι:Ren) (fr:AFr) (tmps:Array Value):Prop:=tmps.size=fr.n∧∀t,VR ι ((fr.m.get t).getD undefA) (tmps.getD t undef)
theorem FR.mono {ι κ:Ren} (hle:ι.le κ) {fr:AFr} {tmps:Array Value} (h:FR ι fr tmps):FR κ fr tmps:=⟨h.1,fun t=>(h.2 t).mono hle⟩
theorem VR.undef (ι:Ren):VR ι undefA Go.undef:=.tuple [] #[] rfl (fun i v v' h=>by simp at h)
def OR (ι:Ren) (L:Loc):AO→Obj→Prop
 | .cells cs rw,o=>∃c e lo hi,o=.cells c e (lo,hi)∧c.size=L.tot∧L.p+cs.length≤c.size∧(∀v,v∈cs→v.isCell=true) ∧
  (∀(k:Nat) v v',cs[k]? = some v→c[L.p+k]? = some v'→VR ι v v')∧(rw=true→hi=lo∨c.size≤lo)
 | .dead,_=>True
 | .loop st pe tm ps as bo de,o=>∃r:Loop,o=.loop r∧r.state=st∧r.pending=pe∧FR ι tm r.tmps∧r.params.toList=ps∧r.assign=as∧r.body=bo ∧
  ∃D,ι de=some D∧D.b=r.defers
 | .defd,o=>o=.deferred (some [])
 | .map es clock,o=>∃es':Array MapEntry,o=.map es' clock∧es.length=es'.size∧∀(i:Nat) x e,es[i]? = some x→es'[i]? = some e→VR ι x.1 e.key∧VR ι x.2.1 e.val∧x.2.2=e.born
 | .siter s pos,o=>L.p=0∧∃b:ByteArray,o=.stringIter b pos∧b.data.toList.map UInt8.toNat=s
 | .miter m since seen last,o=>L.p=0∧∃m',o=.mapIter m' since seen.toArray last∧match m with | none=>m'=none | some i=>∃D,ι i=some D∧m'=some D.b
theorem OR.mono {ι κ:Ren} (hle:ι.le κ) {L:Loc} {a:AO} {o:Obj} (h:OR ι L a o):OR κ L a o:=by
 cases a with
 | cells cs rw =>
  obtain⟨c,e,lo,hi,h1,h2,h3,h4,h5,h6⟩:=h
  exact⟨c,e,lo,hi,h1,h2,h3,h4,fun k v v' a b=>(h5 k v v' a b).mono hle,h6⟩
 | dead=>trivial
 | loop st pe tm ps as bo de =>
  obtain⟨r,h1,h2,h3,h4,h5,h6,h7,D,h8,h9⟩:=h
  exact⟨r,h1,h2,h3,h4.mono hle,h5,h6,h7,D,hle _ _ h8,h9⟩
 | defd=>exact h
 | map es clock =>
  obtain⟨es',h1,h2,h3⟩:=h
  exact⟨es',h1,h2,fun i x e a b=>⟨(h3 i x e a b).1.mono hle,(h3 i x e a b).2.1.mono hle,(h3 i x e a b).2.2⟩⟩
 | siter s pos=>exact h
 | miter m since seen last =>
  obtain⟨h0,m',h1,h2⟩:=h
  refine⟨h0,m',h1,?_⟩
  cases m with
  | none=>exact h2
  | some i=>obtain⟨D,h3,h4⟩:=h2;exact⟨D,hle _ _ h3,h4⟩
structure Keeps (B:Nat→Prop) (w w':World):Prop where
 os:w'.os=w.os
 tape:w'.tape=w.tape
 output:w'.output=w.output
 size:w.heap.size≤w'.heap.size
 block:∀k,B k→w'.heap[k]? = w.heap[k]?
theorem Keeps.refl (B:Nat→Prop) (w:World):Keeps B w w:=⟨rfl,rfl,rfl,Nat.le_refl _,fun _ _=>rfl⟩
theorem Keeps.trans {B:Nat→Prop} {a b c:World} (h:Keeps B a b) (k:Keeps B b c):Keeps B a c :=
 ⟨k.os.trans h.os,k.tape.trans h.tape,k.output.trans h.output,Nat.le_trans h.size k.size,fun i hi=>(k.block i hi).trans (h.block i hi)⟩
theorem Keeps.alloc {B:Nat→Prop} {a w:World} (h:Keeps B a w) (hB:∀k,B k→k<w.heap.size) (o:Obj):Keeps B a (w.alloc o) :=
 h.trans ⟨rfl,rfl,rfl,by simp,fun k hk=>Below.heap_alloc _ _ _ (hB k hk)⟩
structure Prot where
 ro:Nat→Prop
 ex:Nat→Prop
 rs:Nat→Prop      -- numbers that are set aside
def Prot.all (B:Prot) (k:Nat):Prop:=B.ro k∨B.ex k
structure SR (B:Prot) (w0:World) (ι:Ren) (st:ASt) (w:World):Prop where
 below:Keeps B.all w0 w
 base:∀k,B.all k→k<w.heap.size
 obj:∀i a,st.h.get i=some a→a≠.dead→∃L o,ι i=some L∧w.heap[L.b]? = some o∧OR ι L a o
 own:∀i a L,st.h.get i=some a→a.own=true→ι i=some L →
  ¬B.all L.b∧∀j a' L',st.h.get j=some a'→a'≠.dead→ι j=some L'→L'.b=L.b→j=i
 dom:∀i L,ι i=some L→i<st.next
 hdom:∀i a,st.h.get i=some a→i<st.next
 ro:∀i a L,st.h.get i=some a→a≠.dead→a.own=false→ι i=some L→B.ro L.b
 res:∀i,B.rs i→i<st.next∧ι i=none
 glob:∀g cs,glV g=some cs→B.all g∧GlobAt w0 g cs
theorem SR.globw {B:Prot} {w0:World} {ι:Ren} {st:ASt} {w:World} (h:SR B w0 ι st w):GlobOK w:=fun g cs hg=>(h.glob g cs hg).2.to (h.below.block g (h.glob g cs hg).1)
def D:Nat:=20
def ASt.put (st:ASt) (i:Nat) (a:AO):ASt:={st with h:=st.h.set D i a}
def ASt.add (st:ASt) (a:AO):ASt:={h:=st.h.set D st.next a,next:=st.next+1}
def Ren.ext (ι:Ren) (i:Nat) (L:Loc):Ren:=fun j=>if j=i then some L else ι j
theorem Ren.ext_other {ι:Ren} {i j:Nat} {L:Loc} (h:j≠i):(ι.ext i L) j=ι j:=by simp[Ren.ext,h]
theorem Ren.le_ext {ι:Ren} {i:Nat} {L:Loc} (h:ι i=none):ι.le (ι.ext i L):=by
 intro j x hx
 by_cases e:j=i
 ·subst e;rw[h] at hx;simp at hx
 ·simp[Ren.ext,e,hx]
section
variable {B:Prot} {w0:World} {ι:Ren} {st:ASt} {w:World}
theorem SR.next_none (h:SR B w0 ι st w):ι st.next=none:=by
 cases hn:ι st.next with
 | none=>rfl
 | some L=>exact absurd (h.dom _ _ hn) (Nat.lt_irrefl _)
theorem heap_alloc_lt (w:World) (o:Obj) {k:Nat} {x:Obj} (h:w.heap[k]? = some x):(w.alloc o).heap[k]? = some x:=by
 have hk:k<w.heap.size:=(Array.getElem?_eq_some_iff.1 h).1
 show (w.heap.push o)[k]? = _
 rw[Array.getElem?_push,if_neg (by omega)];exact h
theorem heap_alloc_at (w:World) (o:Obj):(w.alloc o).heap[w.heap.size]? = some o:=by
 show (w.heap.push o)[w.heap.size]? = _
 simp
theorem obj_lt {h:SR B w0 ι st w} {i:Nat} {a:AO} {L:Loc} (hi:st.h.get i=some a) (hd:a≠.dead) (hL:ι i=some L):L.b<w.heap.size:=by
 obtain⟨L',o,h1,h2,_⟩:=h.obj i a hi hd
 rw[hL] at h1;cases h1
 exact (Array.getElem?_eq_some_iff.1 h2).1
theorem SR.alloc (h:SR B w0 ι st w) (a:AO) (o:Obj) (tot:Nat) (ho:OR ι ⟨w.heap.size,0,tot⟩ a o) (hown:a.own=true:=by rfl) :
  SR B w0 (ι.ext st.next ⟨w.heap.size,0,tot⟩) (st.add a) (w.alloc o)∧ι.le (ι.ext st.next ⟨w.heap.size,0,tot⟩) ∧
   (ι.ext st.next ⟨w.heap.size,0,tot⟩) st.next=some ⟨w.heap.size,0,tot⟩:=by
 have hle:=Ren.le_ext (L:=⟨w.heap.size,0,tot⟩) h.next_none
 have hat:(ι.ext st.next ⟨w.heap.size,0,tot⟩) st.next=some ⟨w.heap.size,0,tot⟩:=by simp[Ren.ext]
 have hget:∀i,(st.add a).h.get i=if i=st.next then some a else st.h.get i:=fun i=>T.get_set _ _ _ _ _
 refine⟨⟨h.below.alloc h.base o,?_,?_,?_,?_,?_,?_,fun i hi=>⟨Nat.lt_succ_of_lt (h.res i hi).1,(Ren.ext_other (Nat.ne_of_lt (h.res i hi).1)).trans (h.res i hi).2⟩,h.glob⟩,hle,hat⟩
 ·intro k hk;have:=h.base k hk;show k<(w.heap.push o).size;simp;omega
 ·intro i a' hi hd
  rw[hget] at hi
  by_cases e:i=st.next
  ·subst e
   simp at hi;subst hi
   exact⟨_,o,hat,heap_alloc_at w o,ho.mono hle⟩
  ·simp only[e,if_false] at hi
   obtain⟨L,o',h1,h2,h3⟩:=h.obj i a' hi hd
   exact⟨L,o',hle _ _ h1,heap_alloc_lt w o h2,h3.mono hle⟩
 ·intro i a' L hi ho' hL
  rw[hget] at hi
  by_cases e:i=st.next
  ·subst e
   rw[hat] at hL;cases hL
   refine⟨fun hk=>Nat.lt_irrefl _ (h.base _ hk),fun j a'' L' hj hd hL' hb=>?_⟩
   rw[hget] at hj
   by_cases e':j=st.next
   ·exact e'
   ·simp only[e',if_false] at hj
    simp only[Ren.ext,e',if_false] at hL'
    have:=obj_lt (h:=h) hj hd hL'
    simp at hb;omega
  ·simp only[e,if_false] at hi
   simp only[Ren.ext,e,if_false] at hL
   obtain⟨h1,h2⟩:=h.own i a' L hi ho' hL
   have hnd:a'≠.dead:=by intro e;subst e;simp[AO.own] at ho'
   refine⟨h1,fun j a'' L' hj hd hL' hb=>?_⟩
   rw[hget] at hj
   by_cases e':j=st.next
   ·subst e'
    rw[hat] at hL';cases hL'
    have:=obj_lt (h:=h) hi hnd hL
    simp at hb;omega
   ·simp only[e',if_false] at hj
    simp only[Ren.ext,e',if_false] at hL'
    exact h2 j a'' L' hj hd hL' hb
 ·intro i L hL
  show i<st.next+1
  by_cases e:i=st.next
  ·omega
  ·simp only[Ren.ext,e,if_false] at hL
   have:=h.dom i L hL;omega
 ·intro i a' hi
  show i<st.next+1
  rw[hget] at hi
  by_cases e:i=st.next
  ·omega
  ·simp only[e,if_false] at hi
   have:=h.hdom i a' hi;omega
 ·intro i a' L hi hd hno hL
  rw[hget] at hi
  by_cases e:i=st.next
  ·subst e
   simp only[if_true,Option.some.injEq] at hi;subst hi
   rw[hown] at hno;cases hno
  ·simp only[e,if_false] at hi
   simp only[Ren.ext,e,if_false] at hL
   exact h.ro i a' L hi hd hno hL
def setObjW (w:World) (b:Nat) (o:Obj):World:={w with heap:=w.heap.setIfInBounds b o}
theorem heap_setObjW (w:World) (b:Nat) (o:Obj) (k:Nat):(setObjW w b o).heap[k]? = if b=k∧k<w.heap.size then some o else w.heap[k]?:=by
 simp only[setObjW,Array.getElem?_setIfInBounds]
 by_cases h:b=k
 ·subst h
  by_cases h':b<w.heap.size
  ·simp[h']
  ·simp[h']
 ·simp[h]
theorem Keeps.setObjW {B:Nat→Prop} {a w:World} (h:Keeps B a w) {b:Nat} (hb:¬B b) (o:Obj):Keeps B a (Ax.setObjW w b o) :=
 h.trans ⟨rfl,rfl,rfl,by simp[Ax.setObjW],fun k hk=>by
  rw[heap_setObjW];rw[if_neg]
  rintro ⟨e,_⟩;subst e;exact hb hk⟩
theorem SR.write (h:SR B w0 ι st w) {i:Nat} {a a':AO} {L:Loc} {o':Obj} (hi:st.h.get i=some a) (ho:a.own=true) (hL:ι i=some L)
  (hr:OR ι L a' o') (hown:a'.own=true:=by rfl):SR B w0 ι (st.put i a') (setObjW w L.b o'):=by
 obtain⟨hB,huniq⟩:=h.own i a L hi ho hL
 have hnd:a≠.dead:=by intro e;subst e;simp[AO.own] at ho
 have hlt:=obj_lt (h:=h) hi hnd hL
 have hget:∀j,(st.put i a').h.get j=if j=i then some a' else st.h.get j:=fun j=>T.get_set _ _ _ _ _
 refine⟨Keeps.setObjW h.below hB o',fun k hk=>by have:=h.base k hk;simpa [setObjW] using this,?_,?_,h.dom,?_,?_,h.res,h.glob⟩
 ·intro j x hj hd
  rw[hget] at hj
  by_cases e:j=i
  ·subst e
   simp at hj;subst hj
   exact⟨L,o',hL,by rw[heap_setObjW];simp[hlt],hr⟩
  ·simp only[e,if_false] at hj
   obtain⟨L',o,h1,h2,h3⟩:=h.obj j x hj hd
   refine⟨L',o,h1,?_,h3⟩
   rw[heap_setObjW,if_neg]
   ·exact h2
   ·rintro ⟨hb,_⟩
    exact e (huniq j x L' hj hd h1 hb.symm)
 ·intro j x L' hj ho'' hL'
  rw[hget] at hj
  by_cases e:j=i
  ·subst e
   simp at hj;subst hj
   rw[hL] at hL';cases hL'
   refine⟨hB,fun k y L'' hk hd hk' hb=>?_⟩
   rw[hget] at hk
   by_cases e':k=j
   ·exact e'
   ·simp only[e',if_false] at hk
    exact huniq k y L'' hk hd hk' hb
  ·simp only[e,if_false] at hj
   obtain⟨h1,h2⟩:=h.own j x L' hj ho'' hL'
   refine⟨h1,fun k y L'' hk hd hk' hb=>?_⟩
   rw[hget] at hk
   by_cases e':k=i
   ·subst e'
    rw[hL] at hk';cases hk'
    exact h2 k a L hi hnd hL hb
   ·simp only[e',if_false] at hk
    exact h2 k y L'' hk hd hk' hb
 ·intro j x hj
  rw[hget] at hj
  by_cases e:j=i
  ·subst e;exact h.hdom _ _ hi
  ·simp only[e,if_false] at hj;exact h.hdom j x hj
 ·intro j x L' hj hd hno hL'
  rw[hget] at hj
  by_cases e:j=i
  ·simp only[e,if_true,Option.some.injEq] at hj;subst hj
   rw[hown] at hno;cases hno
  ·simp only[e,if_false] at hj
   exact h.ro j x L' hj hd hno hL'
theorem SR.kill (h:SR B w0 ι st w) {i:Nat} {a:AO} (hi:st.h.get i=some a):SR B w0 ι (st.put i .dead) w:=by
 have hget:∀j,(st.put i .dead).h.get j=if j=i then some .dead else st.h.get j:=fun j=>T.get_set _ _ _ _ _
 refine⟨h.below,h.base,?_,?_,h.dom,?_,?_,h.res,h.glob⟩
 ·intro j x hj hd
  rw[hget] at hj
  by_cases e:j=i
  ·subst e;simp at hj;exact absurd hj.symm hd
  ·simp only[e,if_false] at hj;exact h.obj j x hj hd
 ·intro j x L' hj ho'' hL'
  rw[hget] at hj
  by_cases e:j=i
  ·subst e;simp at hj;subst hj;simp[AO.own] at ho''
  ·simp only[e,if_false] at hj
   obtain⟨h1,h2⟩:=h.own j x L' hj ho'' hL'
   refine⟨h1,fun k y L'' hk hd hk' hb=>?_⟩
   rw[hget] at hk
   by_cases e':k=i
   ·subst e';simp at hk;exact absurd hk.symm hd
   ·simp only[e',if_false] at hk
    exact h2 k y L'' hk hd hk' hb
 ·intro j x hj
  rw[hget] at hj
  by_cases e:j=i
  ·subst e;exact h.hdom _ _ hi
  ·simp only[e,if_false] at hj;exact h.hdom j x hj
 ·intro j x L' hj hd hno hL'
  rw[hget] at hj
  by_cases e:j=i
  ·simp only[e,if_true,Option.some.injEq] at hj;exact absurd hj.symm hd
  ·simp only[e,if_false] at hj
   exact h.ro j x L' hj hd hno hL'
theorem SR.move (h:SR B w0 ι st w) {i:Nat} {a a':AO} {L L':Loc} (hi:st.h.get i=some a) (ho:a.own=true) (hL:ι i=some L)
  (hb:L'.b=L.b) (hr:∀o,w.heap[L.b]? = some o→OR ι L' a' o) (hown:a'.own=true:=by rfl) :
  SR B w0 (ι.ext st.next L') ((st.put i .dead).add a') w∧ι.le (ι.ext st.next L')∧(ι.ext st.next L') st.next=some L':=by
 have hle:=Ren.le_ext (L:=L') h.next_none
 have hat:(ι.ext st.next L') st.next=some L':=by simp[Ren.ext]
 have hnd:a≠.dead:=by intro e;subst e;simp[AO.own] at ho
 have hin:i<st.next:=h.hdom _ _ hi
 obtain⟨hB,huniq⟩:=h.own i a L hi ho hL
 have hget:∀j,((st.put i .dead).add a').h.get j=if j=st.next then some a' else if j=i then some .dead else st.h.get j:=fun j=>by
  show (T.set D (T.set D st.h i .dead) st.next a').get j=_
  rw[T.get_set,T.get_set]
 refine⟨⟨h.below,h.base,?_,?_,?_,?_,?_,fun i hi=>⟨Nat.lt_succ_of_lt (h.res i hi).1,(Ren.ext_other (Nat.ne_of_lt (h.res i hi).1)).trans (h.res i hi).2⟩,h.glob⟩,hle,hat⟩
 ·intro j x hj hd
  rw[hget] at hj
  by_cases e:j=st.next
  ·subst e
   simp at hj;subst hj
   obtain⟨L1,o,h1,h2,h3⟩:=h.obj i a hi hnd
   rw[hL] at h1;cases h1
   exact⟨L',o,hat,by rw[hb];exact h2,(hr o h2).mono hle⟩
  ·simp only[e,if_false] at hj
   by_cases e':j=i
   ·simp only[e',if_true,Option.some.injEq] at hj;exact absurd hj.symm hd
   ·simp only[e',if_false] at hj
    obtain⟨L1,o,h1,h2,h3⟩:=h.obj j x hj hd
    exact⟨L1,o,hle _ _ h1,h2,h3.mono hle⟩
 ·intro j x L1 hj ho'' hL1
  rw[hget] at hj
  by_cases e:j=st.next
  ·subst e
   rw[hat] at hL1;cases hL1
   refine⟨by rw[hb];exact hB,fun k y L'' hk hd hk' hbb=>?_⟩
   rw[hget] at hk
   by_cases e':k=st.next
   ·exact e'
   ·simp only[e',if_false] at hk
    by_cases e'':k=i
    ·simp only[e'',if_true,Option.some.injEq] at hk;exact absurd hk.symm hd
    ·simp only[e'',if_false] at hk
     simp only[Ren.ext,e',if_false] at hk'
     exact absurd (huniq k y L'' hk hd hk' (by rw[hbb,hb])) e''
  ·simp only[e,if_false] at hj
   by_cases e':j=i
   ·simp only[e',if_true,Option.some.injEq] at hj;subst hj;simp[AO.own] at ho''
   ·simp only[e',if_false] at hj
    simp only[Ren.ext,e,if_false] at hL1
    obtain⟨h1,h2⟩:=h.own j x L1 hj ho'' hL1
    refine⟨h1,fun k y L'' hk hd hk' hbb=>?_⟩
    rw[hget] at hk
    by_cases e2:k=st.next
    ·subst e2
     rw[hat] at hk';cases hk'
     exact absurd (h2 i a L hi hnd hL (by rw[←hb];exact hbb)).symm e'
    ·simp only[e2,if_false] at hk
     by_cases e3:k=i
     ·simp only[e3,if_true,Option.some.injEq] at hk;exact absurd hk.symm hd
     ·simp only[e3,if_false] at hk
      simp only[Ren.ext,e2,if_false] at hk'
      exact h2 k y L'' hk hd hk' hbb
 ·intro j L1 hL1
  show j<st.next+1
  by_cases e:j=st.next
  ·omega
  ·simp only[Ren.ext,e,if_false] at hL1
   have:=h.dom j L1 hL1;omega
 ·intro j x hj
  show j<st.next+1
  rw[hget] at hj
  by_cases e:j=st.next
  ·omega
  ·simp only[e,if_false] at hj
   by_cases e':j=i
   ·omega
   ·simp only[e',if_false] at hj
    have:=h.hdom j x hj;omega
 ·intro j x L1 hj hd hno hL1
  rw[hget] at hj
  by_cases e:j=st.next
  ·simp only[e,if_true,Option.some.injEq] at hj;subst hj
   rw[hown] at hno;cases hno
  ·simp only[e,if_false] at hj
   by_cases e':j=i
   ·simp only[e',if_true,Option.some.injEq] at hj;exact absurd hj.symm hd
   ·simp only[e',if_false] at hj
    simp only[Ren.ext,e,if_false] at hL1
    exact h.ro j x L1 hj hd hno hL1
theorem SR.drawn (h:SR B w0 ι st w) (n:Nat):SR B w0 ι st {w with drawn:=n} :=
 ⟨h.below.trans ⟨rfl,rfl,rfl,Nat.le_refl _,fun _ _=>rfl⟩,h.base,h.obj,h.own,h.dom,h.hdom,h.ro,h.res,h.glob⟩
end
end
end Go.Ax
end

section
namespace Go.Ax
noncomputable section
open Go.RowKit
theorem add_none (b o n:Nat):(⟨b,o,none⟩:Addr).add n=⟨b,o+n,none⟩:=by
 unfold Addr.add
 by_cases h:n=0
 ·simp[h]
 ·simp[h]
def over:List AV→List AV→Option (List AV)
 | [],cs=>some cs
 | _::_,[]=>none
 | v::vs,_::cs =>
  match over vs cs with
  | some r=>some (v::r)
  | none=>none
def setL0:List AV→Nat→List AV→Option (List AV)
 | cs,0,vs=>over vs cs
 | [],_+1,vs=>match vs with | []=>some [] | _::_=>none
 | c::cs,o+1,vs =>
  match setL0 cs o vs with
  | some r=>some (c::r)
  | none=>none
theorem setL0_nil:∀(cs:List AV) (o:Nat),setL0 cs o []=some cs
 | cs,0=>by cases cs<;>rfl
 | [],o+1=>rfl
 | c::cs,o+1=>by simp[setL0,setL0_nil cs o]
theorem setL0_cons:∀(cs:List AV) (o:Nat) (v:AV) (vs cs':List AV),setL0 cs o (v::vs)=some cs' →
  o<cs.length∧setL0 (cs.set o v) (o+1) vs=some cs'
 | [],0,v,vs,cs',h=>by simp[setL0,over] at h
 | c::cs,0,v,vs,cs',h=>by
  simp only[setL0,over] at h
  refine⟨by simp,?_⟩
  simp only[List.set_cons_zero,setL0]
  have e:setL0 cs 0 vs=over vs cs:=by cases cs<;>rfl
  first | exact h | (rw[e];exact h)
 | [],o+1,v,vs,cs',h=>by simp[setL0] at h
 | c::cs,o+1,v,vs,cs',h=>by
  simp only[setL0] at h
  split at h
  ·rename_i r hr
   obtain⟨h1,h2⟩:=setL0_cons cs o v vs r hr
   refine⟨by simp;omega,?_⟩
   simp only[List.set_cons_succ]
   rw[setL0]
   rw[h2];exact h
  ·simp at h
def revA:List AV→List AV→List AV
 | [],b=>b
 | a::as,b=>revA as (a::b)
def forceL (l:List AV):Option (List AV):=match l with | []=>some [] | x::xs=>some (x::xs)
theorem forceL_eq (l:List AV):forceL l=some l:=by cases l<;>rfl
def setG (vs:List AV):List AV→Nat→List AV→Option (List AV)
 | cs,0,acc=>match over vs cs with | some r=>forceL (revA acc r) | none=>none
 | [],_+1,acc=>match vs with | []=>forceL (revA acc []) | _::_=>none
 | c::cs,o+1,acc=>setG vs cs o (c::acc)
theorem setG_eq (vs:List AV):∀(cs:List AV) (o:Nat) (acc:List AV),setG vs cs o acc=match setL0 cs o vs with | some r=>some (revA acc r) | none=>none
 | [],0,acc=>by
  simp only[setG,setL0,forceL_eq]
 | c::cs,0,acc=>by
  simp only[setG,setL0,forceL_eq]
 | [],o+1,acc=>by
  cases vs<;>simp only[setG,setL0,forceL_eq]
 | c::cs,o+1,acc=>by
  simp only[setG,setL0,setG_eq vs cs o]
  cases setL0 cs o vs<;>rfl
def setL (cs:List AV) (o:Nat) (vs:List AV):Option (List AV):=setG vs cs o []
theorem setL_eq (cs:List AV) (o:Nat) (vs:List AV):setL cs o vs=setL0 cs o vs:=by
 unfold setL
 rw[setG_eq]
 cases setL0 cs o vs<;>rfl
theorem setL_nil (cs:List AV) (o:Nat):setL cs o []=some cs:=by rw[setL_eq];exact setL0_nil cs o
theorem setL_cons (cs:List AV) (o:Nat) (v:AV) (vs cs':List AV) (h:setL cs o (v::vs)=some cs'):o<cs.length∧setL (cs.set o v) (o+1) vs=some cs':=by
 rw[setL_eq] at h
 rw[setL_eq]
 exact setL0_cons cs o v vs cs' h
section
variable {P:Program} {B:Prot} {w0:World} {ι:Ren} {st:ASt} {w:World}
theorem SR.congr {st':ASt} (h:SR B w0 ι st w) (hg:∀j,st'.h.get j=st.h.get j) (hn:st'.next=st.next):SR B w0 ι st' w :=
 ⟨h.below,h.base,fun i a hi=>h.obj i a (by rw[←hg];exact hi),fun i a L hi ho hL =>
  let ⟨h1,h2⟩:=h.own i a L (by rw[←hg];exact hi) ho hL
  ⟨h1,fun j a' L' hj=>h2 j a' L' (by rw[←hg];exact hj)⟩,fun i L hL=>by rw[hn];exact h.dom i L hL,fun i a hi=>by rw[hn];exact h.hdom i a (by rw[←hg];exact hi),fun i a L hi=>h.ro i a L (by rw[←hg];exact hi),fun i hi=>by rw[hn];exact h.res i hi,h.glob⟩
theorem SR.later {w':World} (h:SR B w0 ι st w) (hk:Keeps (fun k=>k<w.heap.size) w w'):SR B w0 ι st w':=by
 have hb:∀k,B.all k→k<w.heap.size:=h.base
 refine⟨h.below.trans ⟨hk.os,hk.tape,hk.output,hk.size,fun k hB=>hk.block k (hb k hB)⟩,fun k hB=>Nat.lt_of_lt_of_le (hb k hB) hk.size,fun i a hi hd=>?_,h.own,h.dom,h.hdom,h.ro,h.res,h.glob⟩
 obtain⟨L,o,h1,h2,h3⟩:=h.obj i a hi hd
 exact⟨L,o,h1,by rw[hk.block _ ((Array.getElem?_eq_some_iff.1 h2).1)];exact h2,h3⟩
theorem SR.cell (h:SR B w0 ι st w) {i o:Nat} {cs:List AV} {rw:Bool} {v:AV} {L:Loc} (hi:st.h.get i=some (.cells cs rw)) (hv:cs[o]? = some v)
  (hL:ι i=some L):∃v',w.cell? ⟨L.b,L.p+o,none⟩=some v'∧VR ι v v'∧v.isCell=true:=by
 obtain⟨L',ob,h1,h2,c,e,lo,hi',h3,h4,h5,h6,h7,h8⟩:=h.obj i _ hi (by simp)
 rw[hL] at h1;cases h1
 have ho:o<cs.length:=(List.getElem?_eq_some_iff.1 hv).1
 have hlt:L.p+o<c.size:=by omega
 refine⟨c[L.p+o],?_,h7 o v _ hv (by simp[hlt]),h6 v (List.mem_of_getElem? hv)⟩
 simp[World.cell?,h2,h3,hlt]
theorem run_load_of {a:Addr} {v:Value} (h:w.cell? a=some v):(load a).run P w=.ok v w:=by
 simp[h]
def takeL (cs:List AV) (o n:Nat):Option (List AV) :=
 let l:=(cs.drop o).take n
 bif Nat.beq l.length n then some l else none
theorem takeL_ok {cs:List AV} {o n:Nat} {l:List AV} (h:takeL cs o n=some l):l.length=n∧∀k,k<n→l[k]? = cs[o+k]?:=by
 unfold takeL at h
 cases hb:Nat.beq ((cs.drop o).take n).length n
 ·simp only[hb,cond_false,reduceCtorEq] at h
 ·simp only[hb,cond_true,Option.some.injEq] at h
  subst h
  refine⟨Nat.eq_of_beq_eq_true hb,fun k hk=>?_⟩
  simp[hk]
theorem SR.loadCells (h:SR B w0 ι st w) {i o n:Nat} {cs:List AV} {rw:Bool} {l:List AV} {L:Loc} (hi:st.h.get i=some (.cells cs rw))
  (hl:takeL cs o n=some l) (hL:ι i=some L) :
  ∃r,(Go.loadCells ⟨L.b,L.p+o,none⟩ n).run P w=.ok r w∧VRs ι l r∧∀v,v∈l→v.isCell=true:=by
 obtain⟨hlen,hget⟩:=takeL_ok hl
 have key:∀j,j<n→∃v v',cs[o+j]? = some v∧w.cell? ⟨L.b,L.p+o+j,none⟩=some v'∧VR ι v v'∧v.isCell=true:=fun j hj=>by
  have hj':j<l.length:=by omega
  have e:cs[o+j]? = some l[j]:=by rw[←hget j hj];simp[hj']
  obtain⟨v',h1,h2,h3⟩:=h.cell hi e hL
  exact⟨_,v',e,by rw[Nat.add_assoc];exact h1,h2,h3⟩
 have hf:∃f:Nat→Value,∀j,j<n→w.cell? ⟨L.b,L.p+o+j,none⟩=some (f j)∧∀v,cs[o+j]? = some v→VR ι v (f j):=by
  refine⟨fun j=>(w.cell? ⟨L.b,L.p+o+j,none⟩).getD Go.undef,fun j hj=>?_⟩
  obtain⟨v,v',h1,h2,h3,_⟩:=key j hj
  refine⟨by simp[h2],fun x hx=>?_⟩
  rw[h1] at hx;cases hx
  simpa [h2] using h3
 obtain⟨f,hf⟩:=hf
 refine⟨((List.range n).map f).toArray,run_loadCells w _ n f (fun j hj=>by rw[add_none];exact (hf j hj).1),⟨by simp[hlen],fun j v v' hv hv'=>?_⟩,fun v hv=>?_⟩
 ·have hj:j<n:=by have:=(List.getElem?_eq_some_iff.1 hv).1;omega
  simp[hj] at hv'
  subst hv'
  exact (hf j hj).2 v (by rw[←hget j hj];exact hv)
 ·obtain⟨j,hj,e⟩:=List.getElem_of_mem hv
  have hjn:j<n:=by omega
  obtain⟨x,_,h1,_,_,h4⟩:=key j hjn
  have:=hget j hjn
  rw[h1] at this
  simp[hj] at this
  rw[←e,this];exact h4
theorem SR.store1 (h:SR B w0 ι st w) {i o:Nat} {cs:List AV} {v:AV} {v':Value} {L:Loc} (hi:st.h.get i=some (.cells cs true)) (ho:o<cs.length)
  (hL:ι i=some L) (hv:VR ι v v') (hc:v.isCell=true) :
  ∃w',(Go.store ⟨L.b,L.p+o,none⟩ v').run P w=.ok () w'∧SR B w0 ι (st.put i (.cells (cs.set o v) true)) w':=by
 obtain⟨L',ob,h1,h2,c,e,lo,hi',h3,h4,h5,h6,h7,h8⟩:=h.obj i _ hi (by simp)
 rw[hL] at h1;cases h1
 have hfz:=h8 rfl
 have hlt:L.p+o<c.size:=by omega
 have hcell:w.cell? ⟨L.b,L.p+o,none⟩=some c[L.p+o]:=by simp[World.cell?,h2,h3,hlt]
 have hfr:w.frozen? ⟨L.b,L.p+o,none⟩=false:=by
  simp only[World.frozen?,h2,h3]
  rcases hfz with hfz | hfz
  ·simp;omega
  ·simp;omega
 have hone:v'.oneCell'=true:=by cases hv<;>simp_all[AV.isCell,Value.oneCell']
 refine⟨setObjW w L.b (.cells (c.setIfInBounds (L.p+o) v') e (lo,hi')),?_,?_⟩
 ·rw[run_store _ _ _ _ _ hone]
  simp only[hcell,hfr,Bool.false_eq_true,if_false]
  congr 1
  simp only[World.setCell,setObjW]
  congr 1
  apply Array.ext_getElem?
  intro k
  rw[Array.getElem?_modify,Array.getElem?_setIfInBounds]
  have hb:L.b<w.heap.size:=(Array.getElem?_eq_some_iff.1 h2).1
  by_cases hk:L.b=k
  ·subst hk
   have e2:w.heap[L.b]=.cells c e (lo,hi'):=by
    have:=h2;rw[h3] at this;simpa [hb] using this
   simp[hb,e2]
  ·simp[hk]
 ·refine h.write hi rfl hL ⟨_,e,lo,hi',rfl,by simpa using h4,by simpa using h5,?_,?_,fun _=>by simpa using hfz⟩
  ·intro x hx
   rcases List.mem_or_eq_of_mem_set hx with hx | hx
   ·exact h6 x hx
   ·rw[hx];exact hc
  ·intro k x x' hx hx'
   rw[List.getElem?_set] at hx
   rw[Array.getElem?_setIfInBounds] at hx'
   by_cases hk:o=k
   ·subst hk
    simp[ho] at hx
    simp[hlt] at hx'
    subst hx;subst hx';exact hv
   ·have hk':¬(L.p+o=L.p+k):=by omega
    simp only[hk,if_false] at hx
    simp only[hk',if_false] at hx'
    exact h7 k x x' hx hx'
theorem put_put (st:ASt) (i:Nat) (a b:AO):∀j,(st.put i b).h.get j=((st.put i a).put i b).h.get j:=fun j=>by
 show (T.set D st.h i b).get j=(T.set D (T.set D st.h i a) i b).get j
 rw[T.get_set,T.get_set,T.get_set]
 by_cases h:j=i<;>simp[h]
theorem put_get (st:ASt) (i:Nat) (a:AO):(st.put i a).h.get i=some a:=by
 show (T.set D st.h i a).get i=_
 rw[T.get_set];simp
theorem put_same (st:ASt) {i:Nat} {a:AO} (h:st.h.get i=some a):∀j,(st.put i a).h.get j=st.h.get j:=fun j=>by
 show (T.set D st.h i a).get j=_
 rw[T.get_set];by_cases e:j=i<;>simp[e,h]
theorem SR.storeCells {L:Loc} {i:Nat}:∀(vs:List AV) (l:List Value) (k o:Nat) (cs cs':List AV) (st:ASt) (w:World),SR B w0 ι st w →
  st.h.get i=some (.cells cs true)→ι i=some L→setL cs (o+k) vs=some cs'→VRs ι vs l.toArray→(∀v,v∈vs→v.isCell=true) →
  ∃w',(Go.storeCells ⟨L.b,L.p+o,none⟩ l k).run P w=.ok () w'∧SR B w0 ι (st.put i (.cells cs' true)) w'
 | [],l,k,o,cs,cs',st,w,h,hi,hL,hs,hv,hc=>by
  have:l=[]:=by have:=hv.size;simp at this;exact List.length_eq_zero_iff.1 this.symm
  subst this
  rw[setL_nil] at hs;cases hs
  exact⟨w,by simp[Go.storeCells],h.congr (put_same st hi) rfl⟩
 | v::vs,[],k,o,cs,cs',st,w,h,hi,hL,hs,hv,hc=>by have:=hv.size;simp at this
 | v::vs,x::l,k,o,cs,cs',st,w,h,hi,hL,hs,hv,hc=>by
  obtain⟨ho,hs'⟩:=setL_cons _ _ _ _ _ hs
  have hx:VR ι v x:=hv.at_ 0 v x rfl (by simp)
  obtain⟨w1,hr1,h1⟩:=h.store1 (P:=P) hi ho hL hx (hc v (by simp))
  have hv':VRs ι vs l.toArray:=⟨by have:=hv.size;simp at this;simpa using this,fun j a b ha hb=>hv.at_ (j+1) a b (by simpa using ha) (by simpa using hb)⟩
  obtain⟨w2,hr2,h2⟩:=SR.storeCells vs l (k+1) o (cs.set (o+k) v) cs' (st.put i (.cells (cs.set (o+k) v) true)) w1 h1 (put_get _ _ _) hL
   (by rw[←Nat.add_assoc];exact hs') hv' (fun y hy=>hc y (by simp[hy]))
  refine⟨w2,?_,h2.congr (fun j=>put_put st i _ _ j) rfl⟩
  simp only[Go.storeCells,Sem.run_bind,add_none]
  rw[Nat.add_assoc,hr1]
  exact hr2
theorem storeRow {b:Nat} {e:TypeId} {lo hi:Nat}:∀(l:List Value) (k q:Nat) (c:Array Value) (w:World),w.heap[b]? = some (.cells c e (lo,hi))→q+k+l.length≤c.size →
  (hi=lo∨c.size≤lo)→(∀v,v∈l→v.oneCell'=true) →
  ∃c',(Go.storeCells ⟨b,q,none⟩ l k).run P w=.ok () (setObjW w b (.cells c' e (lo,hi)))∧c'.size=c.size ∧
   ∀j,c'[j]? = if q+k≤j∧j<q+k+l.length then l[j - (q+k)]? else c[j]?
 | [],k,q,c,w,hh,hb,hf,hv=>by
  refine⟨c,?_,rfl,fun j=>by simp;omega⟩
  simp only[Go.storeCells,Sem.run_pure]
  congr 1
  have hlt:b<w.heap.size:=(Array.getElem?_eq_some_iff.1 hh).1
  have:w.heap.setIfInBounds b (.cells c e (lo,hi))=w.heap:=by
   apply Array.ext_getElem?
   intro j
   rw[Array.getElem?_setIfInBounds]
   by_cases e:b=j
   ·subst e;simp[hlt] ;rw[Array.getElem?_eq_getElem hlt] at hh;simpa using hh.symm
   ·simp[e]
  simp only[setObjW,this]
 | x::l,k,q,c,w,hh,hb,hf,hv=>by
  simp only[List.length_cons] at hb
  have hlt:q+k<c.size:=by omega
  have hcell:w.cell? ⟨b,q+k,none⟩=some c[q+k]:=by simp[World.cell?,hh,hlt]
  have hfr:w.frozen? ⟨b,q+k,none⟩=false:=by
   simp only[World.frozen?,hh]
   rcases hf with hf | hf
   ·simp;omega
   ·simp;omega
  have hone:x.oneCell'=true:=hv x (by simp)
  have hblt:b<w.heap.size:=(Array.getElem?_eq_some_iff.1 hh).1
  let w1:=setObjW w b (.cells (c.setIfInBounds (q+k) x) e (lo,hi))
  have h1:w1.heap[b]? = some (.cells (c.setIfInBounds (q+k) x) e (lo,hi)):=by rw[heap_setObjW];simp[hblt]
  obtain⟨c',r1,r2,r3⟩:=storeRow l (k+1) q (c.setIfInBounds (q+k) x) w1 h1 (by simp;omega) (by simpa using hf) (fun v h=>hv v (by simp[h]))
  refine⟨c',?_,by rw[r2];simp,fun j=>?_⟩
  ·simp only[Go.storeCells,Sem.run_bind,add_none]
   rw[run_store _ _ _ _ _ hone]
   simp only[hcell,hfr,Bool.false_eq_true,if_false,Result.andThen_ok]
   have e1:w.setCell ⟨b,q+k,none⟩ x=w1:=by
    simp only[World.setCell,w1,setObjW]
    congr 1
    apply Array.ext_getElem?
    intro j
    rw[Array.getElem?_modify,Array.getElem?_setIfInBounds]
    by_cases hk:b=j
    ·subst hk
     have e2:w.heap[b]=.cells c e (lo,hi):=by simpa [hblt] using hh
     simp[hblt,e2]
    ·simp[hk]
   rw[e1,r1]
   congr 1
   simp only[w1,setObjW,Array.setIfInBounds_setIfInBounds]
  ·rw[r3 j]
   simp only[List.length_cons]
   by_cases c1:q+(k+1)≤j∧j<q+(k+1)+l.length
   ·have c2:q+k≤j∧j<q+k+(l.length+1):=by omega
    simp only[c1,c2,and_self,if_true]
    have:j - (q+k)=(j - (q+(k+1)))+1:=by omega
    rw[this,List.getElem?_cons_succ]
   ·simp only[c1,if_false]
    rw[Array.getElem?_setIfInBounds]
    by_cases c3:q+k=j
    ·subst c3;simp[hlt]
    ·have c4:¬(q+k≤j∧j<q+k+(l.length+1)):=by omega
     simp[c3,c4]
end
end
end Go.Ax
end

section
namespace Go.Ax
noncomputable section
open Go.RowKit
structure TI where
 desc:TypeDesc
 size:Nat
 bytes:Nat
 zero:Option AV
 held:Bool
 guard:Bool
 fl:List (TypeId×Nat)
def fldsOf:TypeDesc→List (TypeId×Nat)
 | .struct fs=>(fs.toList.filter fun f=>f.name ≠ "_").map fun f=>(f.type,f.offset)
 | _=>[]
def mkTI (P:Program) (t:TypeId):Option TI :=
 match P.info? t with
 | some i =>
  match P.underlying t with
  | some d=>some {desc:=d,size:=i.size,bytes:=i.bytes,zero:=match i.zero with | some z=>ofValue z | none=>none,held:=P.stoodInHeld t,guard:=P.eqGuardType P.depth t,fl:=fldsOf d}
  | none=>none
 | none=>none
structure Env where
 ty:T TI
 fn:T Func
 ex:T (List AV→Option AV)
structure Env.Ok (P:Program) (E:Env):Prop where
 ty:∀t ti,E.ty.get t=some ti→mkTI P t=some ti
 fn:∀f fn,E.fn.get f=some fn→P.funcs[f]? = some fn
 call:∀f fn,E.fn.get f=some fn→∀args w,(callFunc f args).run P w=.ok (.enter f args) w
 ex:∀f g,E.ex.get f=some g→∀ι args args' v w,GlobOK w→g args=some v→args.length=args'.size→(∀(i:Nat) x x',args[i]? = some x→args'[i]? = some x'→VR ι x x') →
  (∃v',(callFunc f args').run P w=.ok (.value v') w∧VR ι v v') ∨
  ((callFunc f args').run P w=.ok (.enter f args') w∧CallsIn Fence.wide 0 P f args' w fun e w'=>∃x,e=.returned x∧VR ι v x∧Keeps (fun k=>k<w.heap.size) w w')
 mixed:P.follows .mixedOrders=true
structure TIok (P:Program) (t:TypeId) (ti:TI):Prop where
 und:P.underlying t=some ti.desc
 held:P.stoodInHeld t=ti.held
 guard:P.eqGuardType P.depth t=ti.guard
 fl:ti.fl=fldsOf ti.desc
 inf:∃i,P.info? t=some i∧i.size=ti.size∧i.bytes=ti.bytes∧(∀z,ti.zero=some z→∃v,i.zero=some v∧∀ι,VR ι z v)
theorem mkTI_ok {P:Program} {t:TypeId} {ti:TI} (h:mkTI P t=some ti):TIok P t ti:=by
 unfold mkTI at h
 split at h
 ·rename_i i hi
  split at h
  ·rename_i d hd
   simp only[Option.some.injEq] at h
   subst h
   refine⟨hd,rfl,rfl,rfl,i,hi,rfl,rfl,fun z hz=>?_⟩
   simp only at hz
   split at hz
   ·rename_i v hv;exact⟨v,hv,fun ι=>ofValue_ok hz⟩
   ·simp at hz
  ·simp at h
 ·simp at h
def isAggD:TypeDesc→Bool
 | .struct _=>true
 | .array _ _=>true
 | _=>false
section
variable {P:Program} {t:TypeId} {ti:TI}
theorem TIok.run_und (h:TIok P t ti) (w:World):(underlying t).run P w=.ok ti.desc w:=run_underlying h.und w
theorem TIok.run_size (h:TIok P t ti) (w:World):(sizeOf t).run P w=.ok ti.size w:=by
 obtain⟨i,hi,h1,_⟩:=h.inf
 rw[run_sizeOf w hi];simp[Program.cellsOf,hi,h1]
theorem TIok.run_info (h:TIok P t ti) (w:World):∃i,(typeInfo t).run P w=.ok i w∧i.bytes=ti.bytes∧i.size=ti.size:=by
 obtain⟨i,hi,h1,h2,_⟩:=h.inf
 exact⟨i,run_typeInfo w hi,h2,h1⟩
theorem TIok.run_zero (h:TIok P t ti) {z:AV} (hz:ti.zero=some z) (w:World):∃v,(zeroValue t).run P w=.ok v w∧∀ι,VR ι z v:=by
 obtain⟨i,hi,_,_,h3⟩:=h.inf
 obtain⟨v,hv,hr⟩:=h3 z hz
 refine⟨v,?_,hr⟩
 simp only[zeroValue,Sem.run_bind,run_typeInfo w hi,Result.andThen_ok,hv,Sem.run_pure]
theorem TIok.run_isAgg (h:TIok P t ti) (w:World):(isAgg t).run P w=.ok (isAggD ti.desc) w:=by
 simp only[isAgg,Sem.run_bind,h.run_und w,Result.andThen_ok]
 cases ti.desc<;>rfl
end
def Did (P:Program) (B:Prot) (w0:World) (ι:Ren) (w:World) (s:Sem Value) (r:AV×ASt):Prop :=
 ∃ι' v w',s.run P w=.ok v w'∧ι.le ι'∧SR B w0 ι' r.2 w'∧VR ι' r.1 v
def cellsOf:AV→List AV
 | .agg cs=>cs
 | v=>[v]
def aLoad (E:Env) (t:TypeId) (a:AV) (st:ASt):Option (AV×ASt) :=
 match a with
 | .ptr (some (i,o)) =>
  match st.h.get i with
  | some (.cells cs _) =>
   match E.ty.get t with
   | some ti =>
    bif isAggD ti.desc then
     match takeL cs o ti.size with
     | some l=>some (.agg l,st)
     | none=>none
    else
     match cs[o]? with
     | some v=>some (v,st)
     | none=>none
   | none=>none
  | _=>none
 | .gptr g o =>
  match glV g with
  | some cs =>
   match E.ty.get t with
   | some ti =>
    bif isAggD ti.desc then
     match takeL cs o ti.size with
     | some l=>some (.agg l,st)
     | none=>none
    else
     match cs[o]? with
     | some v=>some (v,st)
     | none=>none
   | none=>none
  | none=>none
 | _=>none
def aStore (E:Env) (t:TypeId) (a v:AV) (st:ASt):Option ASt :=
 match a with
 | .ptr (some (i,o)) =>
  match st.h.get i with
  | some (.cells cs true) =>
   match E.ty.get t with
   | some ti =>
    match v with
    | .agg l =>
     bif Nat.beq l.length ti.size then
      match setL cs o l with
      | some cs'=>some (st.put i (.cells cs' true))
      | none=>none
     else none
    | .tuple _=>none
    | .any=>none
    | v =>
     bif Nat.beq 1 ti.size then
      match setL cs o [v] with
      | some cs'=>some (st.put i (.cells cs' true))
      | none=>none
     else none
   | none=>none
  | _=>none
 | _=>none
section
variable {P:Program} {E:Env} {B:Prot} {w0:World} {ι:Ren} {st:ASt} {w:World}
theorem aLoad_var (hE:E.Ok P) (h:SR B w0 ι st w) {t:TypeId} {i o:Nat} {L:Loc} {r:AV×ASt} (hL:ι i=some L)
  (hr:aLoad E t (.ptr (some (i,o))) st=some r):∃v,(loadVar t ⟨L.b,L.p+o,none⟩).run P w=.ok v w∧VR ι r.1 v∧r.2=st:=by
 simp only[aLoad] at hr
 split at hr
 ·rename_i cs rw hi
  split at hr
  ·rename_i ti hti
   have hk:=mkTI_ok (hE.ty _ _ hti)
   cases hb:isAggD ti.desc
   ·simp only[hb,cond_false] at hr
    split at hr
    ·rename_i v hv
     simp only[Option.some.injEq] at hr;subst hr
     obtain⟨v',h1,h2,_⟩:=h.cell hi hv hL
     refine⟨v',?_,h2,rfl⟩
     simp only[loadVar,Sem.run_bind,hk.run_isAgg w,Result.andThen_ok,hb]
     exact run_load_of h1
    ·simp at hr
   ·simp only[hb,cond_true] at hr
    split at hr
    ·rename_i l hl
     simp only[Option.some.injEq] at hr;subst hr
     obtain⟨r,h1,h2,h3⟩:=h.loadCells (P:=P) hi hl hL
     refine⟨.agg r,?_,.agg l r h2.size h3 h2.at_,rfl⟩
     simp only[loadVar,Sem.run_bind,hk.run_isAgg w,Result.andThen_ok,hb,if_true,hk.run_size w,h1,Sem.run_pure]
    ·simp at hr
  ·simp at hr
 ·simp at hr
theorem SR.globCell (h:SR B w0 ι st w) {g:Nat} {cs:List AV} (hg:glV g=some cs) {k:Nat} {v:AV} (hv:cs[k]? = some v):∃v',w.cell? ⟨g,k,none⟩=some v'∧VR ι v v':=by
 obtain⟨hc,c,e,m,h1,h2,h3⟩:=h.globw g cs hg
 have hk:k<cs.length:=(List.getElem?_eq_some_iff.1 hv).1
 refine⟨c[k]'(by omega),?_,h3 k v _ hv (by simp) ι⟩
 simp[World.cell?,h1,show k<c.size by omega]
theorem SR.globCells (h:SR B w0 ι st w) {g:Nat} {cs:List AV} (hg:glV g=some cs):∀{n o:Nat} {l:List AV},takeL cs o n=some l →
  ∃r,(Go.loadCells ⟨g,o,none⟩ n).run P w=.ok r w∧VRs ι l r∧∀v,v∈l→v.isCell=true:=by
 intro n o l hl
 obtain⟨hlen,hget⟩:=takeL_ok hl
 have hcell:=(h.globw g cs hg).cell
 have key:∀j,j<n→∃v v',cs[o+j]? = some v∧w.cell? ⟨g,o+j,none⟩=some v'∧VR ι v v'∧v.isCell=true:=fun j hj=>by
  have hj':j<l.length:=by omega
  have e:cs[o+j]? = some l[j]:=by rw[←hget j hj];simp[hj']
  obtain⟨v',h1,h2⟩:=h.globCell hg e
  exact⟨_,v',e,h1,h2,hcell _ (List.mem_of_getElem? e)⟩
 have hf:∃f:Nat→Value,∀j,j<n→w.cell? ⟨g,o+j,none⟩=some (f j)∧∀v,cs[o+j]? = some v→VR ι v (f j):=by
  refine⟨fun j=>(w.cell? ⟨g,o+j,none⟩).getD Go.undef,fun j hj=>?_⟩
  obtain⟨v,v',h1,h2,h3,_⟩:=key j hj
  refine⟨by simp[h2],fun x hx=>?_⟩
  rw[h1] at hx;cases hx
  simpa [h2] using h3
 obtain⟨f,hf⟩:=hf
 refine⟨((List.range n).map f).toArray,run_loadCells w _ n f (fun j hj=>by rw[add_none];exact (hf j hj).1),⟨by simp[hlen],fun j v v' hv hv'=>?_⟩,fun v hv=>?_⟩
 ·have hj:j<n:=by have:=(List.getElem?_eq_some_iff.1 hv).1;omega
  simp[hj] at hv'
  subst hv'
  exact (hf j hj).2 v (by rw[←hget j hj];exact hv)
 ·obtain⟨j,hj,e⟩:=List.getElem_of_mem hv
  have hjn:j<n:=by omega
  obtain⟨x,_,h1,_,_,h4⟩:=key j hjn
  have:=hget j hjn
  rw[h1] at this
  simp[hj] at this
  rw[←e,this];exact h4
theorem aLoad_glob (hE:E.Ok P) (h:SR B w0 ι st w) {t:TypeId} {g o:Nat} {r:AV×ASt}
  (hr:aLoad E t (.gptr g o) st=some r):∃v,(loadVar t ⟨g,o,none⟩).run P w=.ok v w∧VR ι r.1 v∧r.2=st:=by
 simp only[aLoad] at hr
 split at hr
 ·rename_i cs hi
  split at hr
  ·rename_i ti hti
   have hk:=mkTI_ok (hE.ty _ _ hti)
   cases hb:isAggD ti.desc
   ·simp only[hb,cond_false] at hr
    split at hr
    ·rename_i v hv
     simp only[Option.some.injEq] at hr;subst hr
     obtain⟨v',h1,h2⟩:=h.globCell hi hv
     refine⟨v',?_,h2,rfl⟩
     simp only[loadVar,Sem.run_bind,hk.run_isAgg w,Result.andThen_ok,hb]
     exact run_load_of h1
    ·simp at hr
   ·simp only[hb,cond_true] at hr
    split at hr
    ·rename_i l hl
     simp only[Option.some.injEq] at hr;subst hr
     obtain⟨r,h1,h2,h3⟩:=h.globCells (P:=P) hi hl
     refine⟨.agg r,?_,.agg l r h2.size h3 h2.at_,rfl⟩
     simp only[loadVar,Sem.run_bind,hk.run_isAgg w,Result.andThen_ok,hb,if_true,hk.run_size w,h1,Sem.run_pure]
    ·simp at hr
  ·simp at hr
 ·simp at hr
theorem aLoad_ok (hE:E.Ok P) (h:SR B w0 ι st w) {t:TypeId} {a:AV} {a':Value} {r:AV×ASt} (ha:VR ι a a') (hr:aLoad E t a st=some r) :
  Did P B w0 ι w (Instr.loadAt t a') r:=by
 cases ha with
 | ptr i o L hL =>
  obtain⟨v,h1,h2,h3⟩:=aLoad_var hE h hL hr
  refine⟨ι,v,w,?_,ι.le_refl,by rw[h3];exact h,h2⟩
  simp only[Instr.loadAt,Instr.sureAddr,Sem.run_bind,Sem.run_pure,Result.andThen_ok,h1]
 | gptr g o =>
  obtain⟨v,h1,h2,h3⟩:=aLoad_glob hE h hr
  refine⟨ι,v,w,?_,ι.le_refl,by rw[h3];exact h,h2⟩
  simp only[Instr.loadAt,Instr.sureAddr,Sem.run_bind,Sem.run_pure,Result.andThen_ok,h1]
 | _=>simp[aLoad] at hr
theorem setVar (hE:E.Ok P) (h:SR B w0 ι st w) {t:TypeId} {ti:TI} {i o:Nat} {L:Loc} {cs cs' l:List AV} {v:Value} (hti:E.ty.get t=some ti)
  (hi:st.h.get i=some (.cells cs true)) (hL:ι i=some L) (hn:l.length=ti.size) (hs:setL cs o l=some cs') (hv:VRs ι l v.cells)
  (hc:∀x,x∈l→x.isCell=true) :
  ∃w',(storeVar t ⟨L.b,L.p+o,none⟩ v).run P w=.ok () w'∧SR B w0 ι (st.put i (.cells cs' true)) w':=by
 have hk:=mkTI_ok (hE.ty _ _ hti)
 obtain⟨w',h1,h2⟩:=SR.storeCells (P:=P) l v.cells.toList 0 o cs cs' st w h hi hL (by simpa using hs) (by simpa using hv) hc
 refine⟨w',?_,h2⟩
 have hsz:v.cells.size=ti.size:=by rw[←hv.size,hn]
 simp only[storeVar,Sem.run_bind,hk.run_size w,Result.andThen_ok,hsz,ne_eq,not_true_eq_false,if_false,h1]
theorem VR.cells {a:AV} {v:Value} (h:VR ι a v) (hc:(∃l,a=.agg l)∨a.isCell=true):VRs ι (cellsOf a) v.cells∧∀x,x∈cellsOf a→x.isCell=true:=by
 have one:a.isCell=true→cellsOf a=[a]→VRs ι (cellsOf a) v.cells∧∀x,x∈cellsOf a→x.isCell=true:=fun hc he=>by
  obtain⟨h1,_,_⟩:=h.cell_of hc
  rw[he,h1]
  refine⟨⟨rfl,fun i x x' hx hx'=>?_⟩,by simpa using hc⟩
  cases i with
  | zero=>simp at hx hx';subst hx;subst hx';exact h
  | succ i=>simp at hx
 cases h with
 | agg cs cs' hs hc' h'=>exact⟨⟨hs,h'⟩,hc'⟩
 | tuple cs cs' hs h' =>
     rcases hc with⟨l,hl⟩ | hc
     ·simp at hl
     ·simp[AV.isCell] at hc
 | any v =>
   rcases hc with⟨l,hl⟩ | hc
   ·simp at hl
   ·simp[AV.isCell] at hc
 | _=>exact one rfl rfl
theorem aStore_ok (hE:E.Ok P) (h:SR B w0 ι st w) {t:TypeId} {a v:AV} {a' v':Value} {st':ASt} (ha:VR ι a a') (hv:VR ι v v')
  (hr:aStore E t a v st=some st'):∃w',(Instr.storeAt t a' v').run P w=.ok () w'∧SR B w0 ι st' w':=by
 have fin:∀(i o:Nat) (L:Loc) (ti:TI) (cs cs':List AV),ι i=some L→E.ty.get t=some ti→st.h.get i=some (.cells cs true) →
   (cellsOf v).length=ti.size→setL cs o (cellsOf v)=some cs'→((∃l,v=.agg l)∨v.isCell=true)→st'=st.put i (.cells cs' true) →
   ∃w',(Instr.storeAt t (.pointer (some ⟨L.b,L.p+o,none⟩)) v').run P w=.ok () w'∧SR B w0 ι st' w':=by
  intro i o L ti cs cs' hL hti hi hn hs hc he
  obtain⟨hv1,hv2⟩:=hv.cells hc
  obtain⟨w',h1,h2⟩:=setVar (P:=P) hE h hti hi hL hn hs hv1 hv2
  refine⟨w',?_,he▸h2⟩
  simp only[Instr.storeAt,Instr.sureAddr,Sem.run_bind,Sem.run_pure,Result.andThen_ok,h1]
 cases ha with
 | ptr i o L hL =>
  simp only[aStore] at hr
  split at hr
  ·rename_i cs hi
   split at hr
   ·rename_i ti hti
    split at hr
    ·rename_i l
     cases hb:Nat.beq l.length ti.size
     ·simp only[hb,cond_false,reduceCtorEq] at hr
     ·simp only[hb,cond_true] at hr
      split at hr
      ·rename_i cs' hs
       simp only[Option.some.injEq] at hr
       exact fin i o L ti cs cs' hL hti hi (Nat.eq_of_beq_eq_true hb) hs (.inl ⟨l,rfl⟩) hr.symm
      ·simp at hr
    ·simp at hr
    ·simp at hr
    ·rename_i v0 hna hnt hny
     cases hb:Nat.beq 1 ti.size
     ·simp only[hb,cond_false,reduceCtorEq] at hr
     ·simp only[hb,cond_true] at hr
      split at hr
      ·rename_i cs' hs
       simp only[Option.some.injEq] at hr
       have hcell:v.isCell=true:=by cases v<;>simp_all[AV.isCell]
       have hco:cellsOf v=[v]:=by cases v<;>simp_all[cellsOf]
       exact fin i o L ti cs cs' hL hti hi (by rw[hco];exact Nat.eq_of_beq_eq_true hb) (by rw[hco];exact hs) (.inr hcell) hr.symm
      ·simp at hr
   ·simp at hr
  ·simp at hr
 | _=>simp[aStore] at hr
def aBox (v:AV) (st:ASt):Option (AV×ASt) :=
 match v with
 | .tuple _=>none
 | .any=>none
 | .agg l=>some (.ptr (some (st.next,0)),st.add (.cells l true))
 | v=>some (.ptr (some (st.next,0)),st.add (.cells [v] true))
theorem newRow_ok (h:SR B w0 ι st w) {l:List AV} {r:Array Value} (elem:TypeId) (hv:VRs ι l r) (hc:∀v,v∈l→v.isCell=true) :
  ∃ι',(newRow elem r).run P w=.ok ⟨w.heap.size,0,none⟩ (w.alloc (.cells r elem))∧ι.le ι'∧SR B w0 ι' (st.add (.cells l true)) (w.alloc (.cells r elem)) ∧
   ι' st.next=some ⟨w.heap.size,0,r.size⟩:=by
 obtain⟨h1,h2,h3⟩:=h.alloc (.cells l true) (.cells r elem) r.size
  ⟨r,elem,0,0,rfl,rfl,by simp[hv.size],hc,fun k v v' a b=>hv.at_ k v v' a (by simpa using b),fun _=>.inl rfl⟩
 exact⟨_,rfl,h2,h1,h3⟩
theorem aBox_ok (h:SR B w0 ι st w) {v:AV} {v':Value} {r:AV×ASt} (elem:TypeId) (hv:VR ι v v') (hr:aBox v st=some r) :
  Did P B w0 ι w (Instr.box elem v') r:=by
 have fin:((∃l,v=.agg l)∨v.isCell=true)→r=(.ptr (some (st.next,0)),st.add (.cells (cellsOf v) true))→Did P B w0 ι w (Instr.box elem v') r:=by
  intro hc he
  obtain⟨hv1,hv2⟩:=hv.cells hc
  obtain⟨ι',h1,h2,h3,h4⟩:=newRow_ok (P:=P) h elem hv1 hv2
  subst he
  refine⟨ι',.pointer (some ⟨w.heap.size,0,none⟩),_,?_,h2,h3,?_⟩
  ·simp only[Instr.box,newVar,Sem.run_bind,h1,Result.andThen_ok,Sem.run_pure]
  ·exact VR.ptr st.next 0 _ h4
 cases v<;>simp only[aBox,Option.some.injEq,reduceCtorEq] at hr<;>first
  | exact fin (.inr rfl) hr.symm
  | exact fin (.inl ⟨_,rfl⟩) hr.symm
def aAlloc (E:Env) (t:TypeId) (st:ASt):Option (AV×ASt) :=
 match E.ty.get t with
 | some ti =>
  match ti.zero with
  | some z=>aBox z st
  | none=>none
 | none=>none
theorem aAlloc_ok (hE:E.Ok P) (h:SR B w0 ι st w) {t:TypeId} {r:AV×ASt} (hr:aAlloc E t st=some r) :
  Did P B w0 ι w (Instr.alloc t true (.tuple #[])) r:=by
 simp only[aAlloc] at hr
 split at hr
 ·rename_i ti hti
  split at hr
  ·rename_i z hz
   obtain⟨v,h1,h2⟩:=(mkTI_ok (hE.ty _ _ hti)).run_zero hz w
   obtain⟨ι',p,w',h3,h4⟩:=aBox_ok (P:=P) h t (h2 ι) hr
   refine⟨ι',p,w',?_,h4⟩
   simp only[Instr.box,Sem.run_bind] at h3
   simp only[Instr.alloc,Sem.run_bind,h1,Result.andThen_ok]
   exact h3
  ·simp at hr
 ·simp at hr
def aFieldAddr (E:Env) (s:TypeId) (x:AV) (f:Nat):Option AV :=
 match x with
 | .ptr (some (i,o)) =>
  match E.ty.get s with
  | some ti =>
   match ti.desc with
   | .struct fs =>
    match fs[f]? with
    | some fd =>
     match E.ty.get fd.type with
     | some fi=>bif Nat.beq fi.size 0 then none else some (.ptr (some (i,o+fd.offset)))
     | none=>none
    | none=>none
   | _=>none
  | none=>none
 | _=>none
theorem aFieldAddr_ok (hE:E.Ok P) {s:TypeId} {x r:AV} {x':Value} {f:Nat} (hx:VR ι x x') (hr:aFieldAddr E s x f=some r) :
  ∃v,(Instr.fieldAt s x' f).run P w=.ok v w∧VR ι r v:=by
 cases hx with
 | ptr i o L hL =>
  simp only[aFieldAddr] at hr
  split at hr
  ·rename_i ti hti
   split at hr
   ·rename_i fs hd
    split at hr
    ·rename_i fd hf
     split at hr
     ·rename_i fi hfi
      cases hb:Nat.beq fi.size 0
      ·simp only[hb,cond_false,Option.some.injEq] at hr
       subst hr
       have hne:fi.size≠0:=by intro e;rw[e] at hb;simp at hb
       refine⟨.pointer (some ⟨L.b,L.p+(o+fd.offset),none⟩),?_,.ptr i _ L hL⟩
       have h1:=(mkTI_ok (hE.ty _ _ hti)).run_und w
       have h2:=(mkTI_ok (hE.ty _ _ hfi)).run_size w
       rw[hd] at h1
       simp only[Instr.fieldAt,Sem.run_bind,h1,Result.andThen_ok,hf,Instr.sureAddr,Sem.run_pure,fieldPlace,h2,hne,if_false,add_none,Nat.add_assoc]
      ·simp only[hb,cond_true,reduceCtorEq] at hr
     ·simp at hr
    ·simp at hr
   ·simp at hr
  ·simp at hr
 | _=>simp[aFieldAddr] at hr
def aPart (E:Env) (t:TypeId) (cs:List AV) (off:Nat):Option AV :=
 match E.ty.get t with
 | some ti =>
  bif isAggD ti.desc then
   match takeL cs off ti.size with
   | some l=>some (.agg l)
   | none=>none
  else cs[off]?
 | none=>none
theorem aPart_ok (hE:E.Ok P) {t:TypeId} {cs:List AV} {cs':Array Value} {off:Nat} {r:AV} (hv:VRs ι cs cs') (hc:∀v,v∈cs→v.isCell=true)
  (hr:aPart E t cs off=some r):∃v,(part t cs' off).run P w=.ok v w∧VR ι r v:=by
 simp only[aPart] at hr
 split at hr
 ·rename_i ti hti
  have hk:=mkTI_ok (hE.ty _ _ hti)
  cases hb:isAggD ti.desc
  ·simp only[hb,cond_false] at hr
   obtain⟨v',h1,h2⟩:=hv.get hr
   exact⟨v',by simp only[part,Sem.run_bind,hk.run_isAgg w,Result.andThen_ok,hb,Bool.false_eq_true,if_false,h1,Sem.run_pure],h2⟩
  ·simp only[hb,cond_true] at hr
   split at hr
   ·rename_i l hl
    simp only[Option.some.injEq] at hr
    subst hr
    obtain⟨hn,hg⟩:=takeL_ok hl
    refine⟨.agg (cs'.extract off (off+ti.size)),?_,.agg _ _ ?_ ?_ ?_⟩
    ·simp only[part,Sem.run_bind,hk.run_isAgg w,Result.andThen_ok,hb,if_true,hk.run_size w,Sem.run_pure]
    ·have:ti.size=0∨off+ti.size≤cs.length:=by
      by_cases h0:ti.size=0
      ·exact .inl h0
      ·right
       have:=hg (ti.size - 1) (by omega)
       have h2:l[ti.size - 1]?≠none:=by simp;omega
       rw[this] at h2
       simp at h2;omega
     rw[hn,Array.size_extract,←hv.size];omega
    ·intro x hx
     obtain⟨j,hj,e⟩:=List.getElem_of_mem hx
     have:=hg j (by omega)
     simp[hj] at this
     have hm:=List.mem_of_getElem? this.symm
     rw[e] at hm;exact hc x hm
    ·intro k x x' hx hx'
     have hk':k<ti.size:=by have:=(List.getElem?_eq_some_iff.1 hx).1;omega
     rw[hg k hk'] at hx
     rw[Array.getElem?_extract] at hx'
     split at hx'
     ·exact hv.at_ _ x x' hx hx'
     ·simp at hx'
   ·simp at hr
 ·simp at hr
def aField (E:Env) (t:TypeId) (x:AV) (f:Nat):Option AV :=
 match x with
 | .agg cs =>
  match E.ty.get t with
  | some ti =>
   match ti.desc with
   | .struct fs =>
    match fs[f]? with
    | some fd=>aPart E fd.type cs fd.offset
    | none=>none
   | _=>none
  | none=>none
 | _=>none
theorem aField_ok (hE:E.Ok P) {t:TypeId} {x r:AV} {x':Value} {f:Nat} (hx:VR ι x x') (hr:aField E t x f=some r) :
  ∃v,(Instr.field t x' f).run P w=.ok v w∧VR ι r v:=by
 cases hx with
 | agg cs cs' hs hc h' =>
  simp only[aField] at hr
  split at hr
  ·rename_i ti hti
   split at hr
   ·rename_i fs hd
    split at hr
    ·rename_i fd hf
     obtain⟨v,h1,h2⟩:=aPart_ok (P:=P) (w:=w) hE ⟨hs,h'⟩ hc hr
     refine⟨v,?_,h2⟩
     have h3:=(mkTI_ok (hE.ty _ _ hti)).run_und w
     rw[hd] at h3
     simp only[Instr.field,Sem.run_bind,h3,Result.andThen_ok,hf,asAgg,Sem.run_pure,h1]
    ·simp at hr
   ·simp at hr
  ·simp at hr
 | _=>simp[aField] at hr
def aIndexAddr (E:Env) (t:TypeId) (x ix:AV):Option AV :=
 match ix with
 | .int _ n =>
  match n with
  | .ofNat n =>
   match E.ty.get t with
   | some ti =>
    match ti.desc with
    | .array len elem =>
     match x with
     | .ptr (some (i,o)) =>
      bif Nat.blt n len then
       match E.ty.get elem with
       | some ei=>some (.ptr (some (i,o+n*ei.size)))
       | none=>none
      else none
     | .gptr g o =>
      bif Nat.blt n len then
       match E.ty.get elem with
       | some ei=>some (.gptr g (o+n*ei.size))
       | none=>none
      else none
     | _=>none
    | .slice elem =>
     match x with
     | .slice (some (i,o)) len _ =>
      bif Nat.blt n len then
       match E.ty.get elem with
       | some ei=>some (.ptr (some (i,o+n*ei.size)))
       | none=>none
      else none
     | _=>none
    | _=>none
   | none=>none
  | .negSucc _=>none
 | _=>none
theorem aIndexAddr_ok (hE:E.Ok P) {t:TypeId} {x ix r:AV} {x' ix':Value} (hx:VR ι x x') (hi:VR ι ix ix') (hr:aIndexAddr E t x ix=some r) :
  ∃v,(Instr.indexAt t x' ix').run P w=.ok v w∧VR ι r v:=by
 cases hi with
 | int k n =>
  cases n with
  | negSucc m=>simp[aIndexAddr] at hr
  | ofNat n =>
   simp only[aIndexAddr] at hr
   split at hr
   ·rename_i ti hti
    have hk:=(mkTI_ok (hE.ty _ _ hti)).run_und w
    have h0:(0:Int)≤Int.ofNat n:=Int.natCast_nonneg n
    have htn:(Int.ofNat n).toNat=n:=rfl
    split at hr
    ·rename_i len elem hd
     rw[hd] at hk
     split at hr
     ·rename_i i o
      cases hx with
      | ptr _ _ L hL =>
       cases hb:Nat.blt n len
       ·simp only[hb,cond_false,reduceCtorEq] at hr
       ·simp only[hb,cond_true] at hr
        split at hr
        ·rename_i ei hei
         simp only[Option.some.injEq] at hr;subst hr
         have hlt:n<len:=by simpa [Nat.blt_eq] using hb
         have hlt':Int.ofNat n<(len:Int):=by simpa using hlt
         refine⟨.pointer (some ⟨L.b,L.p+(o+n*ei.size),none⟩),?_,.ptr i _ L hL⟩
         have h2:=(mkTI_ok (hE.ty _ _ hei)).run_size w
         simp only[Instr.indexAt,asIntOf,Sem.run_bind,Sem.run_pure,hk,Result.andThen_ok,Instr.sureAddr,h0,hlt',and_self,if_true,h2,htn,add_none,Nat.add_assoc]
        ·simp at hr
     ·rename_i g o
      cases hx with
      | gptr _ _ =>
       cases hb:Nat.blt n len
       ·simp only[hb,cond_false,reduceCtorEq] at hr
       ·simp only[hb,cond_true] at hr
        split at hr
        ·rename_i ei hei
         simp only[Option.some.injEq] at hr;subst hr
         have hlt:n<len:=by simpa [Nat.blt_eq] using hb
         have hlt':Int.ofNat n<(len:Int):=by simpa using hlt
         refine⟨.pointer (some ⟨g,o+n*ei.size,none⟩),?_,.gptr g _⟩
         have h2:=(mkTI_ok (hE.ty _ _ hei)).run_size w
         simp only[Instr.indexAt,asIntOf,Sem.run_bind,Sem.run_pure,hk,Result.andThen_ok,Instr.sureAddr,h0,hlt',and_self,if_true,h2,htn,add_none]
        ·simp at hr
     ·simp at hr
    ·rename_i elem hd
     rw[hd] at hk
     split at hr
     ·rename_i i o len c
      cases hx with
      | slice _ _ _ c' L _ hL hc hl =>
       cases hb:Nat.blt n len
       ·simp only[hb,cond_false,reduceCtorEq] at hr
       ·simp only[hb,cond_true] at hr
        split at hr
        ·rename_i ei hei
         simp only[Option.some.injEq] at hr;subst hr
         have hlt:n<len:=by simpa [Nat.blt_eq] using hb
         have hlt':Int.ofNat n<(len:Int):=by simpa using hlt
         refine⟨.pointer (some ⟨L.b,L.p+(o+n*ei.size),none⟩),?_,.ptr i _ L hL⟩
         have h2:=(mkTI_ok (hE.ty _ _ hei)).run_size w
         simp only[Instr.indexAt,asIntOf,Sem.run_bind,Sem.run_pure,hk,Result.andThen_ok,Instr.sureAddr,h0,hlt',and_self,if_true,h2,htn,add_none,Nat.add_assoc]
        ·simp at hr
     ·simp at hr
    ·simp at hr
   ·simp at hr
 | _=>simp[aIndexAddr] at hr
def aIndex (E:Env) (t:TypeId) (x ix:AV):Option AV :=
 match ix with
 | .int _ n =>
  match n with
  | .ofNat n =>
   match E.ty.get t with
   | some ti =>
    match ti.desc with
    | .array len elem =>
     match x with
     | .agg cs =>
      bif Nat.blt n len then
       match E.ty.get elem with
       | some ei=>aPart E elem cs (n*ei.size)
       | none=>none
      else none
     | _=>none
    | .string =>
     match x with
     | .str s =>
      match s[n]? with
      | some c=>some (.int .u8 (.ofNat c))
      | none=>none
     | _=>none
    | _=>none
   | none=>none
  | .negSucc _=>none
 | _=>none
theorem aIndex_ok (hE:E.Ok P) {t:TypeId} {x ix r:AV} {x' ix':Value} (hx:VR ι x x') (hi:VR ι ix ix') (hr:aIndex E t x ix=some r) :
  ∃v,(Instr.index t x' ix').run P w=.ok v w∧VR ι r v:=by
 cases hi with
 | int k n =>
  cases n with
  | negSucc m=>simp[aIndex] at hr
  | ofNat n =>
   simp only[aIndex] at hr
   split at hr
   ·rename_i ti hti
    have hk:=(mkTI_ok (hE.ty _ _ hti)).run_und w
    have h0:(0:Int)≤Int.ofNat n:=Int.natCast_nonneg n
    have htn:(Int.ofNat n).toNat=n:=rfl
    split at hr
    ·rename_i len elem hd
     rw[hd] at hk
     split at hr
     ·rename_i cs
      cases hx with
      | agg _ cs' hs hc h' =>
       cases hb:Nat.blt n len
       ·simp only[hb,cond_false,reduceCtorEq] at hr
       ·simp only[hb,cond_true] at hr
        split at hr
        ·rename_i ei hei
         have hlt:n<len:=by simpa [Nat.blt_eq] using hb
         have hlt':Int.ofNat n<(len:Int):=by simpa using hlt
         have h2:=(mkTI_ok (hE.ty _ _ hei)).run_size w
         obtain⟨v,h3,h4⟩:=aPart_ok (P:=P) (w:=w) hE ⟨hs,h'⟩ hc hr
         refine⟨v,?_,h4⟩
         simp only[Instr.index,asIntOf,Sem.run_bind,Sem.run_pure,hk,Result.andThen_ok,h0,hlt',and_self,if_true,h2,htn,h3]
        ·simp at hr
     ·simp at hr
    ·rename_i hd
     rw[hd] at hk
     split at hr
     ·rename_i s
      cases hx with
      | str _ s' hs =>
       split at hr
       ·rename_i c hc
        simp only[Option.some.injEq] at hr;subst hr
        have hlen:n<s'.data.size:=by
         have:=(List.getElem?_eq_some_iff.1 hc).1
         rw[←hs] at this;simpa using this
        have hget:s'[n]? = some s'.data[n]:=by
         have hsz:n<s'.size:=hlen
         rw[getElem?_pos s' n hsz];rfl
        have hcv:c=s'.data[n].toNat:=by
         rw[←hs] at hc
         simp at hc
         obtain⟨a,ha,e⟩:=hc
         rw[Array.getElem?_eq_getElem hlen] at ha
         cases ha
         exact e.symm
        refine⟨.int .u8 (Int.ofNat c),?_,.int _ _⟩
        simp only[Instr.index,asIntOf,Sem.run_bind,Sem.run_pure,hk,Result.andThen_ok,h0,if_true,htn,hget,hcv]
        rfl
       ·simp at hr
     ·simp at hr
    ·simp at hr
   ·simp at hr
 | _=>simp[aIndex] at hr
end
end
end Go.Ax
end

section
namespace Go.Ax
noncomputable section
open Go.RowKit
def modN (n:Int) (M:Nat):Nat :=
 match n with
 | .ofNat m=>m % M
 | .negSucc m=>M - 1 - m % M
theorem modN_eq (n:Int) (M:Nat) (hM:0<M):((modN n M:Nat):Int)=n % (M:Int):=by
 cases n with
 | ofNat m=>simp[modN]
 | negSucc m =>
  have h1:m % M<M:=Nat.mod_lt _ hM
  simp only[modN]
  rw[Int.negSucc_emod _ (by omega:(0:Int)<(M:Int))]
  have:((m:Int) % (M:Int))=((m % M:Nat):Int):=by simp
  rw[this];omega
def big:IntKind→Nat
 | .i8 | .u8=>256
 | .i16 | .u16=>65536
 | .i32 | .u32=>4294967296
 | .i64 | .u64=>18446744073709551616
def half:IntKind→Nat
 | .i8=>128
 | .i16=>32768
 | .i32=>2147483648
 | .i64=>9223372036854775808
 | .u8=>256
 | .u16=>65536
 | .u32=>4294967296
 | .u64=>18446744073709551616
def wrapF (k:IntKind) (n:Int):Int :=
 let m:=modN n (big k)
 bif Nat.blt m (half k) then .ofNat m else .negSucc (big k - 1 - m)
theorem big_eq (k:IntKind):(2 ^ k.bits:Int)=(big k:Int):=by cases k<;>simp[IntKind.bits,big]
theorem wrapF_eq (k:IntKind) (n:Int):wrapF k n=k.wrap n:=by
 have hpos:0<big k:=by cases k<;>simp[big]
 have h1:=modN_eq n (big k) hpos
 have h2:modN n (big k)<big k:=by
  have:((modN n (big k):Nat):Int)<big k:=by rw[h1];exact Int.emod_lt_of_pos _ (by omega)
  omega
 unfold wrapF IntKind.wrap
 simp only[big_eq,←h1]
 generalize modN n (big k)=m at *
 cases hb:Nat.blt m (half k)
 ·have hge:half k≤m:=by
   have:¬m<half k:=by intro hlt;rw[←Nat.blt_eq] at hlt;rw[hlt] at hb;simp at hb
   omega
  simp only[cond_false]
  cases k<;>simp[big,half,IntKind.signed,IntKind.bits] at *<;>omega
 ·have hlt:m<half k:=by rw[←Nat.blt_eq];exact hb
  simp only[cond_true]
  cases k<;>simp[big,half,IntKind.signed,IntKind.bits] at *<;>omega
def ltF:Int→Int→Bool
 | .ofNat a,.ofNat b=>Nat.blt a b
 | .ofNat _,.negSucc _=>false
 | .negSucc _,.ofNat _=>true
 | .negSucc a,.negSucc b=>Nat.blt b a
def eqF:Int→Int→Bool
 | .ofNat a,.ofNat b=>Nat.beq a b
 | .negSucc a,.negSucc b=>Nat.beq a b
 | _,_=>false
theorem blt_dec (a b:Nat):Nat.blt a b=decide (a<b):=by
 cases h:Nat.blt a b
 ·have:¬a<b:=by intro hlt;rw[←Nat.blt_eq] at hlt;rw[hlt] at h;simp at h
  simp[this]
 ·have:a<b:=by rw[←Nat.blt_eq];exact h
  simp[this]
theorem beq_dec (a b:Nat):Nat.beq a b=decide (a=b):=by
 cases h:Nat.beq a b
 ·have:¬a=b:=by intro e;rw[e] at h;simp at h
  simp[this]
 ·have:=Nat.eq_of_beq_eq_true h;simp[this]
theorem ltF_eq (a b:Int):ltF a b=decide (a<b):=by
 have e:∀(p q:Prop) [Decidable p] [Decidable q],(p↔q)→decide p=decide q:=fun p q _ _ h=>by simp[h]
 cases a<;>cases b<;>simp only[ltF,blt_dec]
 ·exact e _ _ (by simp only[Int.ofNat_eq_natCast];omega)
 ·rename_i a b
  have:¬(Int.ofNat a<Int.negSucc b):=by simp only[Int.ofNat_eq_natCast];omega
  exact (decide_eq_false this).symm
 ·rename_i a b
  have:Int.negSucc a<Int.ofNat b:=by simp only[Int.ofNat_eq_natCast];omega
  exact (decide_eq_true this).symm
 ·exact e _ _ (by omega)
theorem eqF_eq (a b:Int):eqF a b=(a == b):=by
 rw[Bool.eq_iff_iff,beq_iff_eq]
 cases a<;>cases b<;>simp only[eqF,beq_dec,decide_eq_true_eq,Int.ofNat_eq_natCast,Bool.false_eq_true,false_iff]<;>omega
def shrF (x:Int) (n:Nat):Int :=
 match x with
 | .ofNat m=>.ofNat (m / 2 ^ n)
 | .negSucc m=>.negSucc (m / 2 ^ n)
theorem shrF_eq (x:Int) (n:Nat):shrF x n=x.fdiv (2 ^ n):=by
 have hp:(0:Int)<2 ^ n:=Int.pow_pos (by omega)
 have e:((2:Int) ^ n)=((2 ^ n:Nat):Int):=by simp
 rw[Int.fdiv_eq_ediv_of_nonneg _ (Int.le_of_lt hp),e]
 cases x with
 | ofNat m=>simp[shrF]
 | negSucc m =>
  have hp':0<2 ^ n:=Nat.two_pow_pos n
  simp only[shrF]
  rw[Int.negSucc_ediv _ (by omega:(0:Int)<((2 ^ n:Nat):Int))]
  have:(m:Int).ediv ((2 ^ n:Nat):Int)=((m / 2 ^ n:Nat):Int):=rfl
  rw[this];omega
def shlF (k:IntKind) (x:Int) (n:Nat):Int :=
 match x with
 | .ofNat m=>wrapF k (.ofNat (m*2 ^ n))
 | .negSucc m=>wrapF k (-(Int.ofNat ((m+1)*2 ^ n)))
theorem shlF_eq (k:IntKind) (x:Int) (n:Nat):shlF k x n=k.wrap (x*2 ^ n):=by
 cases x with
 | ofNat m=>simp[shlF,wrapF_eq]
 | negSucc m =>
  simp only[shlF,wrapF_eq]
  simp[Int.negSucc_eq,Int.neg_mul]
def bitsF (op:BinOp) (k:IntKind) (x y:Int):Option Int :=
 let a:=modN x (big k)
 let b:=modN y (big k)
 match op with
 | .and=>some (wrapF k (.ofNat (Nat.land a b)))
 | .or=>some (wrapF k (.ofNat (Nat.lor a b)))
 | .xor=>some (wrapF k (.ofNat (Nat.xor a b)))
 | .andNot=>some (wrapF k (.ofNat (Nat.land a (big k - 1 - b))))
 | _=>none
theorem toNat_ofInt_big (k:IntKind) (x:Int):(BitVec.ofInt k.bits x).toNat=modN x (big k):=by
 have hpos:0<big k:=by cases k<;>simp[big]
 have h:=modN_eq x (big k) hpos
 rw[BitVec.toNat_ofInt]
 have e:((2 ^ k.bits:Nat):Int)=(big k:Int):=by rw[←big_eq];simp
 rw[e,←h];rfl
theorem bits_big (k:IntKind):2 ^ k.bits=big k:=by cases k<;>rfl
theorem bitsF_ok {P:Program} {op:BinOp} {k:IntKind} {x y r:Int} (h:bitsF op k x y=some r) (w:World) :
  (Op.intBits op k x y).run P w=.ok (.int k r) w:=by
 unfold bitsF at h
 cases op<;>simp only[Option.some.injEq,reduceCtorEq] at h<;>subst h <;>
  simp only[Op.intBits,Sem.run_pure,BitVec.toNat_and,BitVec.toNat_or,BitVec.toNat_xor,BitVec.toNat_not,toNat_ofInt_big,wrapF_eq,bits_big]<;>rfl
end
end Go.Ax
end

section
namespace Go.Ax
noncomputable section
open Go.RowKit
def kidx:IntKind→Nat
 | .i8=>0 | .i16=>1 | .i32=>2 | .i64=>3 | .u8=>4 | .u16=>5 | .u32=>6 | .u64=>7
def kEq (a b:IntKind):Bool:=Nat.beq (kidx a) (kidx b)
theorem kEq_eq {a b:IntKind} (h:kEq a b=true):a=b:=by
 cases a<;>cases b<;>first | rfl | (simp[kEq,kidx] at h)
def lEq:List Nat→List Nat→Bool
 | [],[]=>true
 | a::as,b::bs=>bif Nat.beq a b then lEq as bs else false
 | _,_=>false
theorem lEq_eq:∀(a b:List Nat),lEq a b=(a == b)
 | [],[]=>rfl
 | [],_::_=>rfl
 | _::_,[]=>rfl
 | a::as,b::bs=>by
  simp only[lEq,beq_dec,lEq_eq as bs]
  by_cases h:a=b<;>simp[h]
theorem str_eq {ι:Ren} {l m:List Nat} {s r:ByteArray} (h1:VR ι (.str l) (.string s)) (h2:VR ι (.str m) (.string r)):(s.toList == r.toList)=lEq l m:=by
 cases h1 with
 | str _ _ h1 =>
 cases h2 with
 | str _ _ h2 =>
  rw[lEq_eq,ByteArray.toList_eq,ByteArray.toList_eq,←h1,←h2]
  generalize s.data.toList=a
  generalize r.data.toList=b
  rw[Bool.eq_iff_iff,beq_iff_eq,beq_iff_eq]
  constructor
  ·intro h;rw[h]
  ·intro h
   have inj:∀(a b:List UInt8),a.map UInt8.toNat=b.map UInt8.toNat→a=b:=by
    intro a
    induction a with
    | nil=>intro b h;cases b<;>simp_all
    | cons x a ih =>
     intro b h
     cases b with
     | nil=>simp at h
     | cons y b =>
      simp at h
      rw[UInt8.toNat_inj.1 h.1,ih b h.2]
   exact inj a b h
def eqFs (E:Env) (eq:TypeId→AV→AV→Option Bool) (xs ys:List AV):List (TypeId×Nat)→Option Bool
 | []=>some true
 | f::fs =>
  match aPart E f.1 xs f.2 with
  | some a =>
   match aPart E f.1 ys f.2 with
   | some b =>
    match eq f.1 a b with
    | some true=>eqFs E eq xs ys fs
    | some false=>some false
    | none=>none
   | none=>none
  | none=>none
def eqIs (E:Env) (eq:TypeId→AV→AV→Option Bool) (e:TypeId) (sz:Nat) (xs ys:List AV):Nat→Nat→Option Bool
 | 0,_=>some true
 | n+1,i =>
  match aPart E e xs (i*sz) with
  | some a =>
   match aPart E e ys (i*sz) with
   | some b =>
    match eq e a b with
    | some true=>eqIs E eq e sz xs ys n (i+1)
    | some false=>some false
    | none=>none
   | none=>none
  | none=>none
def eqLs (eq:TypeId→AV→AV→Option Bool) (e:TypeId):Nat→List AV→List AV→Option Bool
 | 0,_,_=>some true
 | n+1,x::xs,y::ys =>
  match eq e x y with
  | some true=>eqLs eq e n xs ys
  | some false=>some false
  | none=>none
 | _+1,_,_=>none
def boolEq:Bool→Bool→Bool
 | true,b=>b
 | false,true=>false
 | false,false=>true
def aEq0 (d:TypeDesc) (x y:AV):Option Bool :=
 match d with
 | .bool=>match x,y with
  | .bool a,.bool b=>some (boolEq a b)
  | _,_=>none
 | .int _=>match x,y with
  | .int k a,.int k' b=>bif kEq k k' then some (eqF a b) else none
  | _,_=>none
 | .string=>match x,y with
  | .str a,.str b=>some (lEq a b)
  | _,_=>none
 | .pointer _=>match x,y with
  | .ptr none,.ptr none=>some true
  | .ptr none,.ptr (some _)=>some false
  | .ptr (some _),.ptr none=>some false
  | _,_=>none
 | .interface _=>match x,y with
  | .nilIface,.nilIface=>some true
  | .nilIface,.iface _ _=>some false
  | .iface _ _,.nilIface=>some false
  | _,_=>none
 | .slice _=>match x,y with
  | .slice none _ _,.slice none _ _=>some true
  | .slice none _ _,.slice (some _) _ _=>some false
  | .slice (some _) _ _,.slice none _ _=>some false
  | .slice0,.slice none _ _=>some false
  | .slice none _ _,.slice0=>some false
  | _,_=>none
 | .map _ _=>match x,y with
  | .map none,.map none=>some true
  | .map none,.map (some _)=>some false
  | .map (some _),.map none=>some false
  | _,_=>none
 | .func _ _ _=>match x,y with
  | .nilFunc,.nilFunc=>some true
  | .nilFunc,.clos _ _=>some false
  | .clos _ _,.nilFunc=>some false
  | .nilFunc,.yield _=>some false
  | .yield _,.nilFunc=>some false
  | _,_=>none
 | _=>none
def aEq (E:Env):Nat→TypeId→AV→AV→Option Bool
 | 0=>fun _ _ _=>none
 | d+1=>fun t x y =>
  match E.ty.get t with
  | none=>none
  | some ti =>
   match x with
   | .agg xs =>
    match y with
    | .agg ys =>
     match ti.desc with
     | .struct _=>bif ti.held then none else eqFs E (aEq E d) xs ys ti.fl
     | .array n e =>
      match E.ty.get e with
      | some ei =>
       bif isAggD ei.desc then eqIs E (aEq E d) e ei.size xs ys n 0
       else bif Nat.beq ei.size 1 then eqLs (fun _ x y=>aEq0 ei.desc x y) e n xs ys else none
      | none=>none
     | _=>none
    | _=>none
   | x=>aEq0 ti.desc x y
section
variable {P:Program} {E:Env} {ι:Ren} {w:World}
theorem aEq0_ok {t:TypeId} {dd:TypeDesc} (hd:P.underlying t=some dd) {x y:AV} {x' y':Value} {b:Bool} (hx:VR ι x x') (hy:VR ι y y')
  (h:aEq0 dd x y=some b) (d:Nat):(Op.equalIn (d+1) t x' y').run P w=.ok b w:=by
 have hu:=run_underlying hd w
 cases dd<;>simp only[aEq0,reduceCtorEq] at h
 case bool =>
  split at h
  ·rename_i a c
   cases hx;cases hy
   simp only[Option.some.injEq] at h;subst h
   simp only[Op.equalIn,Sem.run_bind,hu,Result.andThen_ok,Sem.run_pure]
   cases a<;>cases c<;>rfl
  ·simp at h
 case int kk =>
  split at h
  ·rename_i k a k' c
   cases hx;cases hy
   cases hk:kEq k k'
   ·simp only[hk,cond_false,reduceCtorEq] at h
   ·simp only[hk,cond_true,Option.some.injEq] at h;subst h
    have:=kEq_eq hk
    subst this
    simp only[Op.equalIn,Sem.run_bind,hu,Result.andThen_ok,if_true,Sem.run_pure,eqF_eq]
  ·simp at h
 case string =>
  split at h
  ·rename_i a c
   cases hx with
   | str _ s hs =>
   cases hy with
   | str _ r hr =>
    simp only[Option.some.injEq] at h;subst h
    simp only[Op.equalIn,Sem.run_bind,hu,Result.andThen_ok,Sem.run_pure,beq_toListBytes]
    rw[str_eq (ι:=ι) (.str _ s hs) (.str _ r hr)]
  ·simp at h
 case pointer e =>
  split at h<;>simp only[Option.some.injEq,reduceCtorEq] at h<;>subst h<;>cases hx<;>cases hy <;>
   simp[Op.equalIn,hu]
 case interface e =>
  split at h<;>simp only[Option.some.injEq,reduceCtorEq] at h<;>subst h<;>cases hx<;>cases hy <;>
   simp[Op.equalIn,hu]
 case slice e =>
  split at h<;>simp only[Option.some.injEq,reduceCtorEq] at h<;>subst h<;>cases hx<;>cases hy <;>
   simp[Op.equalIn,hu]
 case map e f =>
  split at h<;>simp only[Option.some.injEq,reduceCtorEq] at h<;>subst h<;>cases hx<;>cases hy <;>
   simp[Op.equalIn,hu]
 case func e f g =>
  split at h<;>simp only[Option.some.injEq,reduceCtorEq] at h<;>subst h<;>cases hx<;>cases hy <;>
   simp only[Op.equalIn,Sem.run_bind,hu,Result.andThen_ok,Sem.run_pure]
theorem eqFs_ok (hE:E.Ok P) {xs ys:List AV} {xs' ys':Array Value} (hx:VRs ι xs xs') (hy:VRs ι ys ys') (hcx:∀v,v∈xs→v.isCell=true) (hcy:∀v,v∈ys→v.isCell=true)
  {eq:TypeId→AV→AV→Option Bool} {d:Nat} (heq:∀t x y x' y' b,VR ι x x'→VR ι y y'→eq t x y=some b→(Op.equalIn d t x' y').run P w=.ok b w) :
  ∀(fs:List Field) (b:Bool),eqFs E eq xs ys ((fs.filter fun f=>f.name ≠ "_").map fun f=>(f.type,f.offset))=some b→(Op.eqFields d xs' ys' fs).run P w=.ok b w
 | [],b,h=>by simp[eqFs] at h;subst h;rfl
 | f::fs,b,h=>by
  by_cases hf:f.name ≠ "_"
  ·have hf':(decide (f.name ≠ "_"))=true:=by simpa using hf
   simp only[List.filter_cons,hf',if_true,List.map_cons,eqFs] at h
   split at h
   ·rename_i a ha
    split at h
    ·rename_i c hc
     obtain⟨v1,h1,r1⟩:=aPart_ok (P:=P) (w:=w) hE hx hcx ha
     obtain⟨v2,h2,r2⟩:=aPart_ok (P:=P) (w:=w) hE hy hcy hc
     split at h
     ·rename_i hq
      have h3:=heq _ _ _ _ _ _ r1 r2 hq
      simp only[Op.eqFields,hf,ne_eq,not_false_eq_true,if_true,Sem.run_bind,h1,Result.andThen_ok,h2,h3,Bool.not_true,Bool.false_eq_true,if_false]
      exact eqFs_ok hE hx hy hcx hcy heq fs b h
     ·rename_i hq
      have h3:=heq _ _ _ _ _ _ r1 r2 hq
      simp only[Option.some.injEq] at h;subst h
      simp only[Op.eqFields,hf,ne_eq,not_false_eq_true,if_true,Sem.run_bind,h1,Result.andThen_ok,h2,h3,Bool.not_false,if_true,Sem.run_pure]
     ·simp at h
    ·simp at h
   ·simp at h
  ·have hf':¬(decide (f.name ≠ "_"))=true:=by simpa using hf
   simp only[List.filter_cons,hf',if_false,Bool.false_eq_true] at h
   simp only[Op.eqFields,hf,if_false]
   exact eqFs_ok hE hx hy hcx hcy heq fs b h
theorem eqIs_ok (hE:E.Ok P) {xs ys:List AV} {xs' ys':Array Value} (hx:VRs ι xs xs') (hy:VRs ι ys ys') (hcx:∀v,v∈xs→v.isCell=true) (hcy:∀v,v∈ys→v.isCell=true)
  {eq:TypeId→AV→AV→Option Bool} {d:Nat} (heq:∀t x y x' y' b,VR ι x x'→VR ι y y'→eq t x y=some b→(Op.equalIn d t x' y').run P w=.ok b w) {e:TypeId} {sz:Nat} :
  ∀(n i:Nat) (b:Bool),eqIs E eq e sz xs ys n i=some b→(Op.eqItems d e sz xs' ys' (List.range' i n)).run P w=.ok b w
 | 0,i,b,h=>by simp[eqIs] at h;subst h;rfl
 | n+1,i,b,h=>by
  simp only[eqIs] at h
  simp only[List.range'_succ]
  split at h
  ·rename_i a ha
   split at h
   ·rename_i c hc
    obtain⟨v1,h1,r1⟩:=aPart_ok (P:=P) (w:=w) hE hx hcx ha
    obtain⟨v2,h2,r2⟩:=aPart_ok (P:=P) (w:=w) hE hy hcy hc
    split at h
    ·rename_i hq
     have h3:=heq _ _ _ _ _ _ r1 r2 hq
     simp only[Op.eqItems,Sem.run_bind,h1,Result.andThen_ok,h2,h3,Bool.not_true,Bool.false_eq_true,if_false]
     exact eqIs_ok hE hx hy hcx hcy heq n (i+1) b h
    ·rename_i hq
     have h3:=heq _ _ _ _ _ _ r1 r2 hq
     simp only[Option.some.injEq] at h;subst h
     simp only[Op.eqItems,Sem.run_bind,h1,Result.andThen_ok,h2,h3,Bool.not_false,if_true,Sem.run_pure]
    ·simp at h
   ·simp at h
  ·simp at h
theorem eqLs_ok (hE:E.Ok P) {e:TypeId} {ei:TI} (hei:E.ty.get e=some ei) (hag:isAggD ei.desc=false) {d:Nat} :
  ∀(n i:Nat) (xs ys:List AV) (xs' ys':Array Value),(∀(k:Nat) v v',xs[k]? = some v→xs'[i+k]? = some v'→VR ι v v')→(∀(k:Nat) v v',ys[k]? = some v→ys'[i+k]? = some v'→VR ι v v') →
  i+xs.length≤xs'.size→i+ys.length≤ys'.size →
  ∀b,eqLs (fun _ x y=>aEq0 ei.desc x y) e n xs ys=some b→(Op.eqItems (d+1) e 1 xs' ys' (List.range' i n)).run P w=.ok b w
 | 0,i,xs,ys,xs',ys',hx,hy,sx,sy,b,h=>by simp[eqLs] at h;subst h;rfl
 | n+1,i,[],ys,xs',ys',hx,hy,sx,sy,b,h=>by simp[eqLs] at h
 | n+1,i,x::xs,[],xs',ys',hx,hy,sx,sy,b,h=>by simp[eqLs] at h
 | n+1,i,x::xs,y::ys,xs',ys',hx,hy,sx,sy,b,h=>by
  have hk:=mkTI_ok (hE.ty _ _ hei)
  simp only[List.length_cons] at sx sy
  have l1:i<xs'.size:=by omega
  have l2:i<ys'.size:=by omega
  have e1:xs'[i]? = some xs'[i]:=Array.getElem?_eq_getElem l1
  have e2:ys'[i]? = some ys'[i]:=Array.getElem?_eq_getElem l2
  have r1:VR ι x xs'[i]:=hx 0 x _ rfl e1
  have r2:VR ι y ys'[i]:=hy 0 y _ rfl e2
  have p1:(part e xs' (i*1)).run P w=.ok xs'[i] w:=by
   simp only[part,Sem.run_bind,hk.run_isAgg w,Result.andThen_ok,hag,Bool.false_eq_true,if_false,Nat.mul_one,e1,Sem.run_pure]
  have p2:(part e ys' (i*1)).run P w=.ok ys'[i] w:=by
   simp only[part,Sem.run_bind,hk.run_isAgg w,Result.andThen_ok,hag,Bool.false_eq_true,if_false,Nat.mul_one,e2,Sem.run_pure]
  simp only[eqLs] at h
  simp only[List.range'_succ]
  split at h
  ·rename_i hq
   have h3:=aEq0_ok (P:=P) (w:=w) hk.und r1 r2 hq d
   simp only[Op.eqItems,Sem.run_bind,p1,Result.andThen_ok,p2,h3,Bool.not_true,Bool.false_eq_true,if_false]
   exact eqLs_ok hE hei hag n (i+1) xs ys xs' ys' (fun k v v' a c=>hx (k+1) v v' (by simpa using a) (by rw[←c];congr 1;omega)) (fun k v v' a c=>hy (k+1) v v' (by simpa using a) (by rw[←c];congr 1;omega))
    (by omega) (by omega) b h
  ·rename_i hq
   have h3:=aEq0_ok (P:=P) (w:=w) hk.und r1 r2 hq d
   simp only[Option.some.injEq] at h;subst h
   simp only[Op.eqItems,Sem.run_bind,p1,Result.andThen_ok,p2,h3,Bool.not_false,if_true,Sem.run_pure]
  ·simp at h
theorem aEq_ok (hE:E.Ok P):∀(n d:Nat),n<d→∀(t:TypeId) (x y:AV) (x' y':Value) (b:Bool),VR ι x x'→VR ι y y'→aEq E n t x y=some b →
  (Op.equalIn d t x' y').run P w=.ok b w
 | 0,_,_,t,x,y,x',y',b,hx,hy,h=>by simp[aEq] at h
 | n+1,0,hnd,t,x,y,x',y',b,hx,hy,h=>by omega
 | n+1,d+1,hnd,t,x,y,x',y',b,hx,hy,h=>by
  simp only[aEq] at h
  split at h
  ·simp at h
  ·rename_i ti hti
   have hk:=mkTI_ok (hE.ty _ _ hti)
   split at h
   ·rename_i xs
    split at h
    ·rename_i ys
     cases hx with
     | agg _ xs' sx cx vx =>
     cases hy with
     | agg _ ys' sy cy vy =>
      split at h
      ·rename_i fs hd
       cases hh:ti.held
       ·simp only[hh,cond_false] at h
        have hfo:P.fieldsOf t=fs:=by simp only[Program.fieldsOf,hk.und,hd]
        rw[run_equalIn_struct w d t xs' ys' (by rw[hk.und,hd,hfo]) (by rw[hk.held,hh]),hfo]
        rw[hk.fl,hd] at h
        exact eqFs_ok hE ⟨sx,vx⟩ ⟨sy,vy⟩ cx cy (aEq_ok hE n d (by omega)) _ b h
       ·simp only[hh,cond_true,reduceCtorEq] at h
      ·rename_i m e hd
       split at h
       ·rename_i ei hei
        have hke:=mkTI_ok (hE.ty _ _ hei)
        obtain⟨i,hi,hsz,_⟩:=hke.inf
        have hcs:P.cellsOf e=ei.size:=by simp[Program.cellsOf,hi,hsz]
        rw[run_equalIn_array w d xs' ys' (by rw[hk.und,hd]) hi,hcs]
        rw[List.range_eq_range']
        cases hag:isAggD ei.desc
        ·simp only[hag,cond_false] at h
         cases h1:Nat.beq ei.size 1
         ·simp only[h1,cond_false,reduceCtorEq] at h
         ·simp only[h1,cond_true] at h
          have h1':=Nat.eq_of_beq_eq_true h1
          rw[h1']
          cases d with
          | zero=>omega
          | succ d=>exact eqLs_ok hE hei hag m 0 xs ys xs' ys' (fun k v v' a c=>vx k v v' a (by simpa using c)) (fun k v v' a c=>vy k v v' a (by simpa using c)) (by omega) (by omega) b h
        ·simp only[hag,cond_true] at h
         exact eqIs_ok hE ⟨sx,vx⟩ ⟨sy,vy⟩ cx cy (aEq_ok hE n d (by omega)) m 0 b h
       ·simp at h
      ·simp at h
    ·simp at h
   ·exact aEq0_ok hk.und hx hy h d
end
end
end Go.Ax
end

section
namespace Go.Ax
noncomputable section
open Go.RowKit
def isConstO:Operand→Bool
 | .const _=>true
 | _=>false
def aGuard (E:Env) (t:TypeId) (x y:Operand) (a b:AV):Bool :=
 match a with
 | .any=>false
 | .nilIface =>
  match b with
  | .nilIface=>bif isConstO x then true else isConstO y
  | .any=>false
  | _=>true
 | .agg _ =>
  match b with
  | .agg _ =>
   match E.ty.get t with
   | some ti=>bif ti.guard then false else true
   | none=>false
  | .any=>false
  | _=>true
 | _=>match b with | .any=>false | _=>true
def aShift (op:BinOp) (k:IntKind) (a:Int) (b:Int):Option Int :=
 match b with
 | .ofNat b =>
  let n:=bif Nat.ble b k.bits then b else k.bits
  match op with
  | .shl=>some (shlF k a n)
  | .shr=>some (shrF a n)
  | _=>none
 | .negSucc _=>none
def aInt (op:BinOp) (k:IntKind) (a b:Int):Option AV :=
 match op with
 | .add=>some (.int k (wrapF k (a+b)))
 | .sub=>some (.int k (wrapF k (a - b)))
 | .mul=>some (.int k (wrapF k (a*b)))
 | .quo=>bif eqF b 0 then none else some (.int k (wrapF k (a.tdiv b)))
 | .rem=>bif eqF b 0 then none else some (.int k (a.tmod b))
 | .eql=>some (.bool (eqF a b))
 | .neq=>some (.bool (!eqF a b))
 | .lss=>some (.bool (ltF a b))
 | .leq=>some (.bool (!ltF b a))
 | .gtr=>some (.bool (ltF b a))
 | .geq=>some (.bool (!ltF a b))
 | .and | .or | .xor | .andNot=>match bitsF op k a b with | some r=>some (.int k r) | none=>none
 | _=>none
def lLess:List Nat→List Nat→Bool
 | _,[]=>false
 | [],_::_=>true
 | a::x,b::y=>bif Nat.blt a b then true else bif Nat.beq a b then lLess x y else false
def aStr (op:BinOp) (a b:List Nat):Option AV :=
 match op with
 | .eql=>some (.bool (lEq a b))
 | .neq=>some (.bool (!lEq a b))
 | .lss=>some (.bool (lLess a b))
 | .geq=>some (.bool (!lLess a b))
 | .add=>bif Nat.blt (a.length+b.length) 4294967296 then some (.str (a++b)) else none
 | _=>none
def aBin (E:Env) (op:BinOp) (t:TypeId) (x y:Operand) (a b:AV):Option AV :=
 match a with
 | .int k n =>
  match b with
  | .int k' m =>
   match op with
   | .shl | .shr=>match aShift op k n m with | some r=>some (.int k r) | none=>none
   | _=>bif kEq k k' then aInt op k n m else none
  | _=>none
 | .str s =>
  match b with
  | .str r=>aStr op s r
  | _=>none
 | _ =>
  bif aGuard E t x y a b then
   match op with
   | .eql=>match aEq E 12 t a b with | some r=>some (.bool r) | none=>none
   | .neq=>match aEq E 12 t a b with | some r=>some (.bool (!r)) | none=>none
   | _=>none
  else none
section
variable {P:Program} {E:Env} {ι:Ren} {w:World}
theorem aGuard_ok (hE:E.Ok P) {op:BinOp} {t:TypeId} {x y:Operand} {a b:AV} {a' b':Value} (ha:VR ι a a') (hb:VR ι b b') (h:aGuard E t x y a b=true) :
  (eqGuard op t x y a' b').run P w=.ok () w:=by
 have key:(∀(h1:a'=.nilIface),b'=.nilIface→(isConstO x || isConstO y)=true)→(∀xs ys,a'=.agg xs→b'=.agg ys→P.eqGuardType P.depth t=false) →
   (eqGuard op t x y a' b').run P w=.ok () w:=by
  intro h1 h2
  have body:∀o,o=BinOp.eql∨o=.neq→(eqGuard o t x y a' b').run P w=.ok () w:=by
   intro o ho
   by_cases hn:a'=.nilIface∧b'=.nilIface
   ·obtain⟨e1,e2⟩:=hn
    have:=h1 e1 e2
    subst e1;subst e2
    rcases ho with rfl | rfl<;>cases x<;>cases y<;>first | (simp[isConstO] at this;done) | rfl
   ·by_cases ha:∃xs ys,a'=.agg xs∧b'=.agg ys
    ·obtain⟨xs,ys,e1,e2⟩:=ha
     have:=h2 xs ys e1 e2
     subst e1;subst e2
     exact run_eqGuard_agg w o t x y xs ys this
    ·rcases ho with rfl | rfl<;>cases a'<;>first
      | rfl
      | (cases b'<;>first | rfl | exact absurd ⟨rfl,rfl⟩ hn | exact absurd ⟨_,_,rfl,rfl⟩ ha)
  cases op<;>first | rfl | exact body _ (.inl rfl) | exact body _ (.inr rfl)
 cases ha with
 | nilIface =>
  cases hb with
  | nilIface =>
   refine key (fun _ _=>?_) (fun xs ys h1=>by simp at h1)
   have h':(bif isConstO x then true else isConstO y)=true:=h
   cases hx:isConstO x
   ·rw[hx] at h';simpa using h'
   ·rfl
  | any v=>simp[aGuard] at h
  | _=>exact key (fun _ h1=>by simp at h1) (fun xs ys h1=>by simp at h1)
 | agg cs cs' hs hc hv =>
  cases hb with
  | agg ds ds' hs2 hc2 hv2 =>
   refine key (fun h1=>by simp at h1) (fun xs ys h1 h2=>?_)
   have h':(match E.ty.get t with | some ti=>(bif ti.guard then false else true) | none=>false)=true:=h
   clear h
   revert h'
   intro h
   split at h
   ·rename_i ti hti
    rw[(mkTI_ok (hE.ty _ _ hti)).guard]
    cases hg:ti.guard
    ·rfl
    ·simp[hg] at h
   ·simp at h
  | any v=>simp[aGuard] at h
  | _=>exact key (fun h1=>by simp at h1) (fun xs ys h1 h2=>by simp at h2)
 | any v=>simp[aGuard] at h
 | _=>exact key (fun h1=>by simp at h1) (fun xs ys h1=>by simp at h1)
theorem aShift_ok {op:BinOp} {k yk:IntKind} {a b r:Int} (h:aShift op k a b=some r):(Op.shift op k a yk b).run P w=.ok (.int k r) w:=by
 unfold aShift at h
 split at h
 ·rename_i b'
  have hb:¬(Int.ofNat b'<0):=by simp only[Int.ofNat_eq_natCast];omega
  have hn:(bif Nat.ble b' k.bits then b' else k.bits)=min (Int.ofNat b').toNat k.bits:=by
   show (bif Nat.ble b' k.bits then b' else k.bits)=min b' k.bits
   cases hh:Nat.ble b' k.bits
   ·have:¬b'≤k.bits:=by intro hle;rw[←Nat.ble_eq] at hle;rw[hle] at hh;simp at hh
    simp only[cond_false];omega
   ·have:b'≤k.bits:=by rw[←Nat.ble_eq];exact hh
    simp only[cond_true];omega
  simp only[hn] at h
  cases op<;>simp only[Option.some.injEq,reduceCtorEq] at h<;>subst h <;>
   simp only[Op.shift,hb,if_false,Sem.run_pure,shlF_eq,shrF_eq]
 ·simp at h
theorem dle (a b:Int):(!ltF b a)=decide (a≤b):=by
 rw[ltF_eq]
 by_cases h:b<a
 ·have:¬a≤b:=by omega
  simp[h,this]
 ·have:a≤b:=by omega
  simp[h,this]
theorem aInt_ok {op:BinOp} {t:TypeId} {k:IntKind} {a b:Int} {r:AV} (hsh:op≠.shl∧op≠.shr) (h:aInt op k a b=some r) :
  ∃v,(binOp op t (.int k a) (.int k b)).run P w=.ok v w∧VR ι r v:=by
 obtain⟨hs1,hs2⟩:=hsh
 cases op<;>simp only[aInt,Option.some.injEq,reduceCtorEq] at h
 case quo =>
  cases hz:eqF b 0
  ·simp only[hz,cond_false,Option.some.injEq] at h;subst h
   have hb:¬b=0:=by rw[eqF_eq] at hz;simpa using hz
   exact⟨.int k (k.wrap (a.tdiv b)),by simp only[binOp,ne_eq,not_true_eq_false,if_false,Op.intDiv,hb,Sem.run_pure],by rw[wrapF_eq];exact .int _ _⟩
  ·simp only[hz,cond_true,reduceCtorEq] at h
 case rem =>
  cases hz:eqF b 0
  ·simp only[hz,cond_false,Option.some.injEq] at h;subst h
   have hb:¬b=0:=by rw[eqF_eq] at hz;simpa using hz
   exact⟨.int k (a.tmod b),by simp only[binOp,ne_eq,not_true_eq_false,if_false,Op.intDiv,hb,Sem.run_pure],.int _ _⟩
  ·simp only[hz,cond_true,reduceCtorEq] at h
 case add=>subst h;exact⟨.int k (k.wrap (a+b)),by simp only[binOp,ne_eq,not_true_eq_false,if_false,Op.intArith,Sem.run_pure],by rw[wrapF_eq];exact .int _ _⟩
 case sub=>subst h;exact⟨.int k (k.wrap (a - b)),by simp only[binOp,ne_eq,not_true_eq_false,if_false,Op.intArith,Sem.run_pure],by rw[wrapF_eq];exact .int _ _⟩
 case mul=>subst h;exact⟨.int k (k.wrap (a*b)),by simp only[binOp,ne_eq,not_true_eq_false,if_false,Op.intArith,Sem.run_pure],by rw[wrapF_eq];exact .int _ _⟩
 case eql=>subst h;exact⟨.bool (a == b),by simp only[binOp,ne_eq,not_true_eq_false,if_false,Op.intCmp,Sem.run_pure],by rw[eqF_eq];exact .bool _⟩
 case neq=>subst h;exact⟨.bool (a != b),by simp only[binOp,ne_eq,not_true_eq_false,if_false,Op.intCmp,Sem.run_pure],by rw[eqF_eq];exact .bool _⟩
 case lss=>subst h;exact⟨.bool (decide (a<b)),by simp only[binOp,ne_eq,not_true_eq_false,if_false,Op.intCmp,Sem.run_pure],by rw[ltF_eq];exact .bool _⟩
 case leq=>subst h;exact⟨.bool (decide (a≤b)),by simp only[binOp,ne_eq,not_true_eq_false,if_false,Op.intCmp,Sem.run_pure],by rw[dle];exact .bool _⟩
 case gtr=>subst h;exact⟨.bool (decide (a > b)),by simp only[binOp,ne_eq,not_true_eq_false,if_false,Op.intCmp,Sem.run_pure],by rw[ltF_eq];exact .bool _⟩
 case geq=>subst h;exact⟨.bool (decide (a ≥ b)),by simp only[binOp,ne_eq,not_true_eq_false,if_false,Op.intCmp,Sem.run_pure],by rw[dle];exact .bool _⟩
 all_goals
  split at h
  ·rename_i q hq
   simp only[Option.some.injEq] at h;subst h
   exact⟨.int k q,by simp only[binOp,ne_eq,not_true_eq_false,if_false];exact bitsF_ok hq w,.int _ _⟩
  ·simp at h
theorem lLess_eq:∀(a b:List UInt8),lLess (a.map UInt8.toNat) (b.map UInt8.toNat)=Op.bytesLess a b
 | [],[]=>rfl
 | _::_,[]=>rfl
 | [],_::_=>rfl
 | a::as,b::bs=>by
  simp only[List.map_cons,lLess,Op.bytesLess,blt_dec,beq_dec,lLess_eq as bs]
  by_cases h:a<b
  ·have h':a.toNat<b.toNat:=UInt8.lt_iff_toNat_lt.1 h
   simp[h,h']
  ·have h':¬a.toNat<b.toNat:=fun e=>h (UInt8.lt_iff_toNat_lt.2 e)
   by_cases he:a=b
   ·subst he;simp
   ·have he':¬a.toNat=b.toNat:=fun e=>he (UInt8.toNat_inj.1 e)
    simp[h,h',he,he']
theorem aStr_ok {op:BinOp} {t:TypeId} {a b:List Nat} {s q:ByteArray} {r:AV} (ha:VR ι (.str a) (.string s)) (hb:VR ι (.str b) (.string q)) (h:aStr op a b=some r) :
  ∃v,(binOp op t (.string s) (.string q)).run P w=.ok v w∧VR ι r v:=by
 have e:=str_eq ha hb
 cases ha with
 | str _ _ ha =>
 cases hb with
 | str _ _ hb =>
  have l:Op.bytesLess s.toList q.toList=lLess a b:=by rw[ByteArray.toList_eq,ByteArray.toList_eq,←lLess_eq,ha,hb]
  cases op<;>simp only[aStr,Option.some.injEq,reduceCtorEq] at h
  case add =>
   cases hlen:Nat.blt (a.length+b.length) 4294967296
   ·simp only[hlen,cond_false,reduceCtorEq] at h
   ·simp only[hlen,cond_true,Option.some.injEq] at h;subst h
    have hl:a.length+b.length<4294967296:=by rw[←Nat.blt_eq];exact hlen
    have h1:a.length=s.size:=by rw[←ha];simp
    have h2:b.length=q.size:=by rw[←hb];simp
    have hmax:IntKind.i64.max=9223372036854775807:=by decide
    have hle:¬(((s.size+q.size:Nat):Int) > IntKind.i64.max):=by rw[hmax];omega
    refine⟨.string (s++q),by simp only[binOp,Op.stringOp,hle,if_false,Sem.run_pure],.str _ _ ?_⟩
    rw[←ha,←hb]
    simp[ByteArray.data_append]
  all_goals
   subst h
   refine⟨_,by simp only[binOp,Op.stringOp,Sem.run_pure,e,l];rfl,?_⟩
   exact .bool _
theorem aBin_ok (hE:E.Ok P) {op:BinOp} {t:TypeId} {x y:Operand} {a b r:AV} {a' b':Value} (ha:VR ι a a') (hb:VR ι b b') (h:aBin E op t x y a b=some r) :
  ∃v,(do eqGuard op t x y a' b';binOp op t a' b':Sem Value).run P w=.ok v w∧VR ι r v:=by
 have gen:(∀op',op'≠BinOp.eql→op'≠.neq→True)→(bif aGuard E t x y a b then
   match op with
   | .eql=>match aEq E 12 t a b with | some r=>some (.bool r) | none=>none
   | .neq=>match aEq E 12 t a b with | some r=>some (.bool (!r)) | none=>none
   | _=>none
  else none)=some r→(∀o,o=BinOp.eql∨o=.neq→binOp o t a' b'=(do let q ←Op.equal t a' b';pure (.bool (if o=.eql then q else !q)))) →
   ∃v,(do eqGuard op t x y a' b';binOp op t a' b':Sem Value).run P w=.ok v w∧VR ι r v:=by
  intro _ h hbin
  cases hg:aGuard E t x y a b
  ·simp only[hg,cond_false,reduceCtorEq] at h
  ·simp only[hg,cond_true] at h
   have g:=aGuard_ok (P:=P) (w:=w) (op:=op) hE ha hb hg
   have fin:∀q,aEq E 12 t a b=some q→(Op.equal t a' b').run P w=.ok q w:=fun q hq =>
    aEq_ok hE 12 10000 (by omega) t a b a' b' q ha hb hq
   cases op<;>simp only[reduceCtorEq] at h
   case eql =>
    split at h
    ·rename_i q hq
     simp only[Option.some.injEq] at h;subst h
     exact⟨.bool q,by simp only[Sem.run_bind,g,Result.andThen_ok,hbin .eql (.inl rfl),fin q hq,if_true,Sem.run_pure],.bool _⟩
    ·simp at h
   case neq =>
    split at h
    ·rename_i q hq
     simp only[Option.some.injEq] at h;subst h
     exact⟨.bool (!q),by simp only[Sem.run_bind,g,Result.andThen_ok,hbin .neq (.inr rfl),fin q hq,reduceCtorEq,if_false,Sem.run_pure],.bool _⟩
    ·simp at h
 cases ha with
 | int k n =>
  simp only[aBin] at h
  split at h
  ·rename_i k' m
   cases hb
   have g:(eqGuard op t x y (.int k n) (.int k' m)).run P w=.ok () w:=aGuard_ok (ι:=ι) hE (.int k n) (.int k' m) rfl
   have sh:∀{o:BinOp},(o=.shl∨o=.shr)→op=o→(match aShift op k n m with | some r=>some (AV.int k r) | none=>none)=some r →
     ∃v,(do eqGuard op t x y (.int k n) (.int k' m);binOp op t (.int k n) (.int k' m):Sem Value).run P w=.ok v w∧VR ι r v:=by
    intro o ho e h
    split at h
    ·rename_i q hq
     simp only[Option.some.injEq] at h;subst h
     refine⟨.int k q,?_,.int _ _⟩
     simp only[Sem.run_bind,g,Result.andThen_ok]
     rcases ho with ho | ho<;>subst ho<;>subst e<;>exact aShift_ok (yk:=k') hq
    ·simp at h
   by_cases h1:op=.shl
   ·subst h1;exact sh (.inl rfl) rfl h
   ·by_cases h2:op=.shr
    ·subst h2;exact sh (.inr rfl) rfl h
    ·have h':(bif kEq k k' then aInt op k n m else none)=some r:=by
      cases op<;>first | exact h | exact absurd rfl h1 | exact absurd rfl h2
     cases hk:kEq k k'
     ·simp only[hk,cond_false,reduceCtorEq] at h'
     ·simp only[hk,cond_true] at h'
      have:=kEq_eq hk;subst this
      obtain⟨v,h3,h4⟩:=aInt_ok (P:=P) (w:=w) (ι:=ι) (t:=t) ⟨h1,h2⟩ h'
      exact⟨v,by simp only[Sem.run_bind,g,Result.andThen_ok,h3],h4⟩
  ·simp at h
 | str l s hs =>
  simp only[aBin] at h
  split at h
  ·rename_i l'
   cases hb with
   | str _ q hq =>
    have g:(eqGuard op t x y (.string s) (.string q)).run P w=.ok () w:=aGuard_ok (ι:=ι) hE (.str l s hs) (.str l' q hq) rfl
    obtain⟨v,h3,h4⟩:=aStr_ok (P:=P) (w:=w) (t:=t) (.str l s hs) (.str l' q hq) h
    exact⟨v,by simp only[Sem.run_bind,g,Result.andThen_ok,h3],h4⟩
  ·simp at h
 | any v=>simp[aBin,aGuard] at h
 | _ =>
  refine gen (fun _ _ _=>trivial) h (fun o ho=>?_)
  rcases ho with rfl | rfl<;>simp[binOp]
end
end
end Go.Ax
end
