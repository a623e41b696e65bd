/-
  OWN WORK, A PART: an abstract machine for the program's text that the kernel can run, and the proof that it is sound: what it answers is what the program answers; contracts of functions by it. No condition.
-/
import Derived.Test.YtiafochainjglaaGreatDoorWaC
import Derived.Test.YtiafochainjglaaGreatDoorWaB
import Derived.Shelf.Strings.OnBuilder
import Derived.Test.YtiafochainjglaaGreatDoorWaD
section
namespace Go.Ax
noncomputable section
open Go.RowKit Go.Proofs
def qPg:List AV→Option (List (List Nat))
 | []=>some []
 | .str s::r=>match qPg r with
  | some l=>some (s::l)
  | none=>none
 | _=>none
def qRE (sep:List Nat):List (List Nat)→List Nat
 | []=>[]
 | x::r=>sep++(x++qRE sep r)
def joinL (sep:List Nat):List (List Nat)→List Nat
 | []=>[]
 | x::r=>x++qRE sep r
def sumJoin (j:Nat):CallT:=fun f args st=>bif Nat.beq j f then (match args with
 | [.slice none _ _,.str _]=>some (.str [],st)
 | [.slice0,.str _]=>some (.str [],st)
 | [.slice (some (i,o)) n _,.str sep]=>(match st.h.get i with
  | some (.cells cs _)=>(match qAy cs o n with
   | some l=>(match qPg l with
    | some xs=>bif Nat.blt (joinL sep xs).length 140737488355328 && Nat.blt n 140737488355328 then some (.str (joinL sep xs),st) else none
    | none=>none)
   | none=>none)
  | _=>none)
 | _=>none) else none
theorem qMo:∀{l:List AV} {xs:List (List Nat)},qPg l=some xs→l=xs.map AV.str
 | [],xs,h=>by simp[qPg] at h;subst h;rfl
 | v::r,xs,h=>by
  cases v<;>simp only[qPg,reduceCtorEq] at h;rename_i s
  split at h
  ·rename_i l hl;simp only[qz1] at h;subst h;rw[qMo hl];rfl
  ·cases h
def bytesOf (l:List Nat):ByteArray:=⟨(l.map UInt8.ofNat).toArray⟩
theorem qIz {s:ByteArray} {l:List Nat} (h:s.data.toList.map UInt8.toNat=l):s=bytesOf l:=by
 subst h;unfold bytesOf;rw[List.map_map];have:(UInt8.ofNat∘UInt8.toNat)=id:=by funext x;simp
 rw[this,List.map_id]
theorem qIr (sep:List UInt8):∀xs:List (List UInt8),(Lib.joinTail sep xs).map UInt8.toNat=qRE (sep.map UInt8.toNat) (xs.map (·.map UInt8.toNat))
 | []=>rfl
 | x::r=>by
  have ih:=qIr sep r;unfold Lib.joinTail at ih ⊢;rw[List.map_cons,List.flatten_cons,List.map_append,ih,List.map_append,List.map_cons,List.append_assoc];rfl
theorem qRD (sep:List UInt8):∀xs:List (List UInt8),(Lib.join xs sep).map UInt8.toNat=joinL (sep.map UInt8.toNat) (xs.map (·.map UInt8.toNat))
 | []=>rfl
 | x::r=>by
  rw[Lib.join_cons,List.map_append,qIr];rfl
theorem sumJoin_ok {P:Program} {ρ:Go.Shelf.Ren} (L:Lays.n156 P ρ) (X:Builder.Extra P ρ):CallsOK P (sumJoin (ρ.f 156)):=by
 intro B w0 f args st r h ι w args' hsr hv;unfold sumJoin at h;cases hf:Nat.beq (ρ.f 156) f
 ·simp[hf] at h
 simp only[hf,cond_true] at h;have:=qEQ hf;subst this;have hent:(callFunc (ρ.f 156) args').run P w=.ok (.enter (ρ.f 156) args') w:=(enters_of L.f156 (by kernel_rfl) rfl:Enters P (ρ.f 156)) _ _;have none_:∀(a':Value) (s':ByteArray),args'=#[a',.string s']→(∃ad c,a'=.slice ad 0 c)→r=(.str [],st)→(callFunc (ρ.f 156) args').run P w=.ok (.enter (ρ.f 156) args') w∧CallsIn Fence.wide 0 P (ρ.f 156) args' w (qGw B w0 ι r):=fun a' s' ha hs hr=>by
  obtain⟨ad,c,rfl⟩:=hs;subst ha;subst hr;refine⟨hent,callsIn_wide.2 ((Any.strings_Join_none L X ad c s' w).mono fun e w' ⟨he,hw⟩=>?_)⟩;subst hw;exact⟨_,ι,he,ι.le_refl,hsr,.str _ _ rfl⟩
 have two:∀{a b:AV},args=[a,b]→∃a' b',args'=#[a',b']∧VR ι a a'∧VR ι b b':=fun {a b} ha=>by
  subst ha;have hsz:=hv.size
  match args',hsz with
  | ⟨[a',b']⟩,_=>exact⟨a',b',rfl,hv.at_ 0 _ _ rfl rfl,hv.at_ 1 _ _ rfl rfl⟩
 split at h
 ·rename_i n c s;obtain⟨a',b',ha,h1,h2⟩:=two rfl;cases h2 with
  | str _ s' hs' =>
   cases h1 with
   | sliceN=>exact none_ _ s' ha ⟨_,_,rfl⟩ (by simpa using h.symm)
 ·obtain⟨a',b',ha,h1,h2⟩:=two rfl;cases h2 with
  | str _ s' hs' =>
   cases h1 with
   | slice0 a c=>exact none_ _ s' ha ⟨_,_,rfl⟩ (by simpa using h.symm)
 ·rename_i i o n c sep;obtain⟨a',b',ha,h1,h2⟩:=two rfl;cases h2 with
  | str _ s' hs' =>
   cases h1 with
   | slice _ _ _ c' Lc _ hL hc hl =>
    split at h
    ·rename_i cs rw' hcs
     split at h
     ·rename_i l hl2
      split at h
      ·rename_i xs hxs;cases hb:(Nat.blt (joinL sep xs).length 140737488355328 && Nat.blt n 140737488355328)
       ·rw[hb] at h;cases h
       rw[hb,cond_true,qz1] at h;rw[Bool.and_eq_true,Nat.blt_eq,Nat.blt_eq] at hb;obtain⟨hb1,hb2⟩:=hb;subst h;subst ha;have hls:=qMo hxs;obtain⟨hln,hlk⟩:=qBQ hl2;have hxn:xs.length=n:=by rw[←hln,hls,List.length_map]
       obtain⟨Lc',ob,g1,g2,_⟩:=hsr.obj i _ hcs (by simp);rw[hL] at g1;cases g1;have hcell:∀(j:Nat) x,(xs.map bytesOf)[j]? = some x→w.cell? ⟨Lc.b,Lc.p+o+j,none⟩=some (.string x)∧∃y,xs[j]? = some y∧x.data.toList.map UInt8.toNat=y:=fun j x hx=>by
        rw[List.getElem?_map,Option.map_eq_some_iff] at hx;obtain⟨y,hy,rfl⟩:=hx;have hj:j<n:=by rw[←hxn];exact (List.getElem?_eq_some_iff.1 hy).1
        have hv0:cs[o+j]? = some (.str y):=by
         rw[←hlk j hj,hls,List.getElem?_map,hy];rfl
        obtain⟨v',e1,e2,_⟩:=hsr.cell hcs hv0 hL;cases e2 with
        | str _ s2 hs2 =>
         rw[qIz hs2,show Lc.p+(o+j)=Lc.p+o+j by omega] at e1;exact⟨e1,y,hy,by rw[←qIz hs2];exact hs2⟩
       have hnat:((xs.map bytesOf).map (·.data.toList)).map (·.map UInt8.toNat)=xs:=by
        apply List.ext_getElem?;intro j;rw[List.getElem?_map,List.getElem?_map];cases hx:(xs.map bytesOf)[j]? with
        | none =>
         rw[List.getElem?_map] at hx;cases hy:xs[j]? with
         | none=>rfl
         | some y=>rw[hy] at hx;cases hx
        | some x =>
         obtain⟨_,y,hy,e⟩:=hcell j x hx;rw[hy];simp[e]
       have hjn:(Lib.join ((xs.map bytesOf).map (·.data.toList)) s'.data.toList).map UInt8.toNat=joinL sep xs:=by rw[qRD,hnat,hs']
       have hlen:(Lib.join ((xs.map bytesOf).map (·.data.toList)) s'.data.toList).length≤140737488355328:=by
        have:=congrArg List.length hjn;rw[List.length_map] at this;omega
       have hC:=Any.strings_Join L X Lc.b (Lc.p+o) c' (xs.map bytesOf) s' w (fun j x hx=>(hcell j x hx).1) ((Array.getElem?_eq_some_iff.1 g2).1) (by rw[List.length_map];omega) (by rw[List.length_map,hxn];exact hl) hlen;rw[List.length_map,hxn] at hC;refine⟨hent,callsIn_wide.2 (hC.mono fun e w' ⟨he,hbel⟩=>?_)⟩;exact⟨_,ι,he,ι.le_refl,hsr.later ⟨hbel.os,hbel.tape,hbel.output,hbel.size,hbel.block⟩,.str _ _ hjn⟩
      ·cases h
     ·cases h
    ·cases h
 ·cases h
end
end Go.Ax
end
section
namespace Go.Ax
noncomputable section
open Go.RowKit
def qTZ:List (List Nat×List Nat)→List Nat→Option (List Nat)
 | [],_=>none
 | p::ps,bs=>bif lEq p.1 bs then some p.2 else qTZ ps bs
theorem qNR:∀{tab:List (List Nat×List Nat)} {bs h:List Nat},qTZ tab bs=some h→(bs,h)∈tab
 | [],bs,h,e=>by cases e
 | p::ps,bs,h,e=>by
  unfold qTZ at e;cases hb:lEq p.1 bs
  ·rw[hb,cond_false] at e;exact List.mem_cons_of_mem _ (qNR e)
  ·rw[hb,cond_true] at e;simp only[qz1] at e;rw[qKr] at hb;have:p.1=bs:=by simpa using hb
   subst this;subst e;exact List.mem_cons_self
def qZs (h:List Nat):AV:=.agg (h.map fun x=>.int .u8 (.ofNat x))
def sumTab (fs:Nat) (tab:List (List Nat×List Nat)):CallT:=fun fn args st =>
 bif Nat.beq fs fn then
  match args with
  | [.slice (some (i,o)) len _] =>
   match st.h.get i with
   | some (.cells cs _) =>
    match qAy cs o len with
    | some l =>
     match qEJ l with
     | some bs=>(match qTZ tab bs with | some h=>some (qZs h,st) | none=>none)
     | none=>none
    | none=>none
   | _=>none
  | _=>none
 else none
structure TabOK (ns:List Nat) (p:List Nat×List Nat):Prop where
 len:qCY p.1.length ns=true
 eq:qOj ((qRP (chunks ((p.1.length+72) / 64) (p.1++qHb p.1.length)) qPm).forceS fun s=>s)=qZs p.2
def AllTab (ns:List Nat):List (List Nat×List Nat)→Prop
 | []=>True
 | p::ps=>TabOK ns p∧AllTab ns ps
theorem qL4 {ns:List Nat}:∀{tab:List (List Nat×List Nat)},AllTab ns tab→∀p,p∈tab→TabOK ns p
 | [],_,p,h=>by cases h
 | x::xs,h,p,hp=>by
  rcases List.mem_cons.1 hp with e | hp
  ·subst e;exact h.1
  ·exact qL4 h.2 p hp
theorem sumTab_ok {P:Program} {fs:Nat} {ns:List Nat} (hs:CallsOK P (sumSum fs ns)) {tab:List (List Nat×List Nat)} (ht:AllTab ns tab):CallsOK P (sumTab fs tab):=by
 intro B w0 fn args st r h;refine hs B w0 fn args st r ?_;unfold sumTab at h;unfold sumSum;cases hf:Nat.beq fs fn
 ·simp[hf] at h
 simp only[hf,cond_true] at h ⊢
 split at h
 rotate_left
 ·simp at h
 rename_i i o len cap
 split at h
 rotate_left
 ·simp at h
 rename_i cs rw hi
 split at h
 rotate_left
 ·simp at h
 rename_i l hl
 split at h
 rotate_left
 ·simp at h
 rename_i bs hbs
 split at h
 rotate_left
 ·simp at h
 rename_i hh hlk;simp only[qz1] at h;have hll:=(qBQ hl).1;have hb:=qDn hbs;have hlen:bs.length=len:=by rw[hb] at hll;simpa using hll
 obtain⟨h1,h2⟩:=qL4 ht _ (qNR hlk);simp only at h1 h2;rw[hlen] at h1;simp only[h1,cond_true,hi,hl,hbs];rw[S8.forceS_eq] at h2 ⊢;rw[h2,h]
end
end Go.Ax
end
