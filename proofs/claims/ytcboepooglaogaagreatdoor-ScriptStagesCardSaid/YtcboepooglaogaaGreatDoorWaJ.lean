/-
  OWN WORK, A PART: an abstract machine for the program's text that the kernel can run, and the proof that it is sound: what it answers is what the program answers; contracts of functions by it. No condition.
-/
import Derived.Test.YtcboepooglaogaaGreatDoorWaC
import Derived.Shelf.Strings.OnBuilder
import Derived.Test.YtcboepooglaogaaGreatDoorWaD
import Derived.Shelf.Strings.Split
import Derived.Lib.IndexBytes
section
namespace Go.Ax
noncomputable section
open Go.RowKit Go.Proofs
def strsA:List AV→Option (List (List Nat))
 | []=>some []
 | .str s::r=>match strsA r with
  | some l=>some (s::l)
  | none=>none
 | _=>none
def jnTail (sep:List Nat):List (List Nat)→List Nat
 | []=>[]
 | x::r=>sep++(x++jnTail sep r)
def joinL (sep:List Nat):List (List Nat)→List Nat
 | []=>[]
 | x::r=>x++jnTail sep r
def sumJoin (j:Nat):CallT:=fun f args st=>bif Nat.beq j f then (match args with
 | [.slice none _ _,.str _]=>some (.str [],st)
 | [.slice0,.str _]=>some (.str [],st)
 | [.slice (some (i,o)) n _,.str sep]=>(match st.h.get i with
  | some (.cells cs _)=>(match takeL cs o n with
   | some l=>(match strsA l with
    | some xs=>bif Nat.blt (joinL sep xs).length 140737488355328 && Nat.blt n 140737488355328 then some (.str (joinL sep xs),st) else none
    | none=>none)
   | none=>none)
  | _=>none)
 | _=>none) else none
theorem strsA_ok:∀{l:List AV} {xs:List (List Nat)},strsA l=some xs→l=xs.map AV.str
 | [],xs,h=>by simp[strsA] at h;subst h;rfl
 | v::r,xs,h=>by
  cases v<;>simp only[strsA,reduceCtorEq] at h
  rename_i s
  split at h
  ·rename_i l hl
   simp only[Option.some.injEq] at h
   subst h
   rw[strsA_ok hl];rfl
  ·cases h
def bytesOf (l:List Nat):ByteArray:=⟨(l.map UInt8.ofNat).toArray⟩
theorem bytesOf_eq {s:ByteArray} {l:List Nat} (h:s.data.toList.map UInt8.toNat=l):s=bytesOf l:=by
 subst h
 unfold bytesOf
 rw[List.map_map]
 have:(UInt8.ofNat∘UInt8.toNat)=id:=by funext x;simp
 rw[this,List.map_id]
theorem jnTail_nat (sep:List UInt8):∀xs:List (List UInt8),(Lib.joinTail sep xs).map UInt8.toNat=jnTail (sep.map UInt8.toNat) (xs.map (·.map UInt8.toNat))
 | []=>rfl
 | x::r=>by
  have ih:=jnTail_nat sep r
  unfold Lib.joinTail at ih ⊢
  rw[List.map_cons,List.flatten_cons,List.map_append,ih,List.map_append,List.map_cons,List.append_assoc];rfl
theorem joinL_nat (sep:List UInt8):∀xs:List (List UInt8),(Lib.join xs sep).map UInt8.toNat=joinL (sep.map UInt8.toNat) (xs.map (·.map UInt8.toNat))
 | []=>rfl
 | x::r=>by
  rw[Lib.join_cons,List.map_append,jnTail_nat];rfl
theorem sumJoin_ok {P:Program} {ρ:Go.Shelf.Ren} (L:Lays.n156 P ρ) (X:Builder.Extra P ρ):CallsOK P (sumJoin (ρ.f 156)):=by
 intro B w0 f args st r h ι w args' hsr hv
 unfold sumJoin at h
 cases hf:Nat.beq (ρ.f 156) f
 ·simp[hf] at h
 simp only[hf,cond_true] at h
 have:=nbeq hf
 subst this
 have hent:(callFunc (ρ.f 156) args').run P w=.ok (.enter (ρ.f 156) args') w:=(enters_of L.f156 (by kernel_rfl) rfl:Enters P (ρ.f 156)) _ _
 have none_:∀(a':Value) (s':ByteArray),args'=#[a',.string s']→(∃ad c,a'=.slice ad 0 c)→r=(.str [],st)→(callFunc (ρ.f 156) args').run P w=.ok (.enter (ρ.f 156) args') w∧CallsIn Fence.wide 0 P (ρ.f 156) args' w (Post B w0 ι r):=fun a' s' ha hs hr=>by
  obtain⟨ad,c,rfl⟩:=hs
  subst ha;subst hr
  refine⟨hent,callsIn_wide.2 ((Any.strings_Join_none L X ad c s' w).mono fun e w' ⟨he,hw⟩=>?_)⟩
  subst hw
  exact⟨_,ι,he,ι.le_refl,hsr,.str _ _ rfl⟩
 have two:∀{a b:AV},args=[a,b]→∃a' b',args'=#[a',b']∧VR ι a a'∧VR ι b b':=fun {a b} ha=>by
  subst ha
  have hsz:=hv.size
  match args',hsz with
  | ⟨[a',b']⟩,_=>exact⟨a',b',rfl,hv.at_ 0 _ _ rfl rfl,hv.at_ 1 _ _ rfl rfl⟩
 split at h
 ·rename_i n c s
  obtain⟨a',b',ha,h1,h2⟩:=two rfl
  cases h2 with
  | str _ s' hs' =>
   cases h1 with
   | sliceN=>exact none_ _ s' ha ⟨_,_,rfl⟩ (by simpa using h.symm)
 ·obtain⟨a',b',ha,h1,h2⟩:=two rfl
  cases h2 with
  | str _ s' hs' =>
   cases h1 with
   | slice0 a c=>exact none_ _ s' ha ⟨_,_,rfl⟩ (by simpa using h.symm)
 ·rename_i i o n c sep
  obtain⟨a',b',ha,h1,h2⟩:=two rfl
  cases h2 with
  | str _ s' hs' =>
   cases h1 with
   | slice _ _ _ c' Lc _ hL hc hl =>
    split at h
    ·rename_i cs rw' hcs
     split at h
     ·rename_i l hl2
      split at h
      ·rename_i xs hxs
       cases hb:(Nat.blt (joinL sep xs).length 140737488355328 && Nat.blt n 140737488355328)
       ·rw[hb] at h;cases h
       rw[hb,cond_true,Option.some.injEq] at h
       rw[Bool.and_eq_true,Nat.blt_eq,Nat.blt_eq] at hb
       obtain⟨hb1,hb2⟩:=hb
       subst h;subst ha
       have hls:=strsA_ok hxs
       obtain⟨hln,hlk⟩:=takeL_ok hl2
       have hxn:xs.length=n:=by rw[←hln,hls,List.length_map]
       obtain⟨Lc',ob,g1,g2,_⟩:=hsr.obj i _ hcs (by simp)
       rw[hL] at g1;cases g1
       have hcell:∀(j:Nat) x,(xs.map bytesOf)[j]? = some x→w.cell? ⟨Lc.b,Lc.p+o+j,none⟩=some (.string x)∧∃y,xs[j]? = some y∧x.data.toList.map UInt8.toNat=y:=fun j x hx=>by
        rw[List.getElem?_map,Option.map_eq_some_iff] at hx
        obtain⟨y,hy,rfl⟩:=hx
        have hj:j<n:=by rw[←hxn];exact (List.getElem?_eq_some_iff.1 hy).1
        have hv0:cs[o+j]? = some (.str y):=by
         rw[←hlk j hj,hls,List.getElem?_map,hy];rfl
        obtain⟨v',e1,e2,_⟩:=hsr.cell hcs hv0 hL
        cases e2 with
        | str _ s2 hs2 =>
         rw[bytesOf_eq hs2,show Lc.p+(o+j)=Lc.p+o+j by omega] at e1
         exact⟨e1,y,hy,by rw[←bytesOf_eq hs2];exact hs2⟩
       have hnat:((xs.map bytesOf).map (·.data.toList)).map (·.map UInt8.toNat)=xs:=by
        apply List.ext_getElem?
        intro j
        rw[List.getElem?_map,List.getElem?_map]
        cases hx:(xs.map bytesOf)[j]? with
        | none =>
         rw[List.getElem?_map] at hx
         cases hy:xs[j]? with
         | none=>rfl
         | some y=>rw[hy] at hx;cases hx
        | some x =>
         obtain⟨_,y,hy,e⟩:=hcell j x hx
         rw[hy]
         simp[e]
       have hjn:(Lib.join ((xs.map bytesOf).map (·.data.toList)) s'.data.toList).map UInt8.toNat=joinL sep xs:=by rw[joinL_nat,hnat,hs']
       have hlen:(Lib.join ((xs.map bytesOf).map (·.data.toList)) s'.data.toList).length≤140737488355328:=by
        have:=congrArg List.length hjn
        rw[List.length_map] at this;omega
       have hC:=Any.strings_Join L X Lc.b (Lc.p+o) c' (xs.map bytesOf) s' w (fun j x hx=>(hcell j x hx).1) ((Array.getElem?_eq_some_iff.1 g2).1) (by rw[List.length_map];omega) (by rw[List.length_map,hxn];exact hl) hlen
       rw[List.length_map,hxn] at hC
       refine⟨hent,callsIn_wide.2 (hC.mono fun e w' ⟨he,hbel⟩=>?_)⟩
       exact⟨_,ι,he,ι.le_refl,hsr.later ⟨hbel.os,hbel.tape,hbel.output,hbel.size,hbel.block⟩,.str _ _ hjn⟩
      ·cases h
     ·cases h
    ·cases h
 ·cases h
end
end Go.Ax
end

section
namespace Go.Ax
noncomputable section
open Go.RowKit Go.Proofs Go.Shelf
set_option maxHeartbeats 1000000 in
theorem index_1 {P:Program} {ρ:Go.Shelf.Ren} (L:Lays.n143 P ρ) (s:ByteArray) (c:UInt8) (w:World) :
  Calls P (ρ.f 143) #[.string s,.string ⟨#[c]⟩] w fun e w'=>e=.returned (.int .i64 (Lib.indexB s ⟨#[c]⟩))∧w'=w:=by
 have t3:=L.t3;have t9:=L.t9
 have a3:∀w,(isAgg (ρ.t 3)).run P w=.ok false w:=run_isAgg_plain L.t3 rfl;have a9:∀w,(isAgg (ρ.t 9)).run P w=.ok false w:=run_isAgg_plain L.t9 rfl
 have e219:∀args w,(callFunc (ρ.f 219) args).run P w=.ok (.enter (ρ.f 219) args) w:=enters_of L.f219 (by kernel_rfl) rfl
 have mixed:=L.mixed;have z3:=L.z3;have v3:=L.v3;have z9:=L.z9;have v9:=L.v9
 go_enter L.f143,Body.n143_ntmps ρ
 go_wp2_with (go_at_fn (ρ.f 219);refine (Any.stringslite_Index_one {L with} s c w).mono ?_;rintro e w' ⟨rfl,rfl⟩)
 go_ret
 refine⟨?_,rfl⟩
 show _=Ending.returned (Value.int .i64 (Lib.index s.data.toList [c]))
 rw[Lib.index_one]
 rfl
set_option maxHeartbeats 1000000 in
theorem split_1 {P:Program} {ρ:Go.Shelf.Ren} (L:Lays.n146 P ρ) (hi9:(P.info? (ρ.t 9)).map (fun i=>(i.zero,i.size,i.bytes))=some (some (.string ByteArray.empty),1,16)) (s:ByteArray) (c:UInt8) (w:World) (hs:s.size<4294967281) :
  Calls P (ρ.f 146) #[.string s,.string ⟨#[c]⟩] w fun e w' =>
   e=.returned (.slice (some ⟨w.heap.size,0,none⟩) (Lib.countB s ⟨#[c]⟩+1) (Lib.countB s ⟨#[c]⟩+1))∧w'=w.alloc (.cells ((Lib.splitB ⟨#[c]⟩ 0 (Lib.countB s ⟨#[c]⟩) s).map Value.string).toArray (ρ.t 9)):=by
 have h1:1≤(⟨#[c]⟩:ByteArray).size:=Nat.le_refl 1
 have hle:=Lib.countB_le ⟨#[c]⟩ h1 s.size s (Nat.le_refl _)
 have hlen:=Lib.splitB_all ⟨#[c]⟩ h1 0 _ s rfl
 have hC:Calls P (ρ.f 138) #[.string s,.string ⟨#[c]⟩] w fun e w'=>e=.returned (.int .i64 (Lib.countB s ⟨#[c]⟩))∧w'=w :=
  (Any.strings_Count_one {L with} s c w).mono fun e w' ⟨he,hw⟩=>⟨by
   rw[he]
   show _=Ending.returned (Value.int .i64 ((Lib.count s.data.toList [c]:Nat):Int))
   rw[Lib.count_one]
   rfl,hw⟩
 have c':=Any.strings_genSplit_core {L with} hi9 s ⟨#[c]⟩ 0 (-1) (Lib.countB s ⟨#[c]⟩+1) w hs h1 (Nat.zero_le _) (fun x cc hx=>index_1 {L with} x c _) hC (by decide) (by decide) (by rw[if_pos (by decide)];omega)
 rw[Nat.add_sub_cancel,hlen] at c'
 have e2:Lib.cellsOf (Lib.splitB ⟨#[c]⟩ 0 (Lib.countB s ⟨#[c]⟩) s) (Lib.countB s ⟨#[c]⟩+1)=((Lib.splitB ⟨#[c]⟩ 0 (Lib.countB s ⟨#[c]⟩) s).map Value.string).toArray:=by rw[←hlen];exact Lib.cellsOf_full _
 rw[e2] at c'
 have t3:=L.t3;have t9:=L.t9;have t31:=L.t31
 have a3:=L.a3;have a9:=L.a9;have a31:=L.a31
 have z3:=L.z3;have v3:=L.v3;have z9:=L.z9;have v9:=L.v9;have z31:=L.z31;have v31:=L.v31
 have e221:∀args w,(callFunc (ρ.f 221) args).run P w=.ok (.enter (ρ.f 221) args) w:=enters_of L.f221 (by kernel_rfl) rfl
 go_enter L.f146,Body.n146_ntmps ρ
 go_wp2_with (go_at_fn (ρ.f 221);refine c'.mono ?_;rintro e w' ⟨rfl,hw⟩;rw[hw])
 go_ret
 exact⟨rfl,rfl⟩
def splitC (c:Nat):List Nat→List (List Nat)
 | []=>[[]]
 | x::r=>bif Nat.beq x c then []::splitC c r else match splitC c r with
  | y::ys=>(x::y)::ys
  | []=>[[x]]
def idxC (c:Nat):List Nat→Option Nat
 | []=>none
 | x::r=>bif Nat.beq x c then some 0 else match idxC c r with
  | some i=>some (i+1)
  | none=>none
def idxI (c:Nat) (l:List Nat):Int:=match idxC c l with
 | some i=>.ofNat i
 | none=>.negSucc 0
theorem u8_eq (a b:UInt8):(a == b)=Nat.beq a.toNat b.toNat:=by
 by_cases h:a=b
 ·subst h;rw[Nat.beq_refl];simp
 ·have:a.toNat≠b.toNat:=fun e=>h (UInt8.toNat_inj.1 e)
  have e1:(a == b)=false:=by simpa using h
  rw[e1]
  cases hb:Nat.beq a.toNat b.toNat
  ·rfl
  ·exact absurd (Nat.eq_of_beq_eq_true hb) this
theorem idx_nat (c:UInt8):∀s:List UInt8,Lib.indexByte s c=idxI c.toNat (s.map UInt8.toNat)
 | []=>rfl
 | b::l=>by
  have ih:=idx_nat c l
  unfold Lib.indexByte
  rw[ih,u8_eq]
  show _=(match idxC c.toNat (b.toNat::l.map UInt8.toNat) with | some i=>Int.ofNat i | none=>.negSucc 0)
  unfold idxC
  cases Nat.beq b.toNat c.toNat
  ·simp only[cond_false]
   unfold idxI
   cases idxC c.toNat (l.map UInt8.toNat) with
   | none=>rfl
   | some i =>
    have:((Int.ofNat i) == -1)=false:=by
     cases h:((Int.ofNat i) == -1)
     ·rfl
     ·have:=beq_iff_eq.1 h;cases this
    simp only[this]
    rfl
  ·rfl
theorem index_ge (s:List UInt8) (c:UInt8):Lib.index s [c]=idxI c.toNat (s.map UInt8.toNat):=by rw[Lib.index_one,idx_nat]
theorem splitC_ne (c:Nat) (l:List Nat):splitC c l≠[]:=by
 cases l with
 | nil=>intro h;cases h
 | cons x r =>
  unfold splitC
  cases Nat.beq x c
  ·simp only[cond_false]
   cases splitC c r<;>(intro h;cases h)
  ·intro h;cases h
theorem splitK_nat (c:UInt8):∀s:List UInt8,(Lib.splitK [c] 0 (s.count c) s).map (·.map UInt8.toNat)=splitC c.toNat (s.map UInt8.toNat)
 | []=>rfl
 | b::l=>by
  have ih:=splitK_nat c l
  by_cases h:b=c
  ·subst h
   rw[List.count_cons_self]
   unfold Lib.splitK
   have hi:Lib.index (b::l) [b]=0:=by rw[Lib.index_one];unfold Lib.indexByte;simp
   rw[hi]
   simp only[List.map_cons,splitC,Nat.beq_refl,cond_true]
   rw[←ih]
   rfl
  ·rw[List.count_cons_of_ne (by simpa using h)]
   have hb:Nat.beq b.toNat c.toNat=false:=by
    rw[←u8_eq];simpa using h
   simp only[List.map_cons,splitC,hb,cond_false]
   rw[←ih]
   cases hk:l.count c with
   | zero=>rfl
   | succ k =>
    unfold Lib.splitK
    have hi:Lib.index (b::l) [c]=if Lib.index l [c] == -1 then -1 else Lib.index l [c]+1:=by
     rw[Lib.index_one,Lib.index_one]
     conv=>lhs;unfold Lib.indexByte
     rw[show (b == c)=false by simpa using h]
     rfl
    rw[hi,index_ge]
    unfold idxI
    cases idxC c.toNat (l.map UInt8.toNat) with
    | none=>rfl
    | some i =>
     have h1:((Int.ofNat i) == -1)=false:=by
      cases h:((Int.ofNat i) == -1)
      ·rfl
      ·have:=beq_iff_eq.1 h;cases this
     have h2:((Int.ofNat i+1) == -1)=false:=by
      cases h:((Int.ofNat i+1) == -1)
      ·rfl
      ·have:=beq_iff_eq.1 h
       simp only[Int.ofNat_eq_natCast] at this
       omega
     simp only[h1]
     have e1:(Int.ofNat i+1).toNat=i+1:=by simp only[Int.ofNat_eq_natCast];omega
     have e2:(Int.ofNat i).toNat=i:=rfl
     simp only[Bool.false_eq_true,if_false,e1,e2]
     rfl
def sumSplit (j:Nat):CallT:=fun f args st=>bif Nat.beq j f then (match args with
 | [.str s,.str [c]]=>bif Nat.blt s.length 4294967281 && Nat.blt c 256 then some (.slice (some (st.next,0)) (splitC c s).length (.known (splitC c s).length),st.add (.cells ((splitC c s).map AV.str) true)) else none
 | _=>none) else none
theorem sumSplit_ok {P:Program} {ρ:Go.Shelf.Ren} (L:Lays.n146 P ρ) (hi9:(P.info? (ρ.t 9)).map (fun i=>(i.zero,i.size,i.bytes))=some (some (.string ByteArray.empty),1,16)):CallsOK P (sumSplit (ρ.f 146)):=by
 intro B w0 f args st r h ι w args' hsr hv
 unfold sumSplit at h
 cases hf:Nat.beq (ρ.f 146) f
 ·rw[hf] at h;cases h
 rw[hf,cond_true] at h
 have:=nbeq hf
 subst this
 have hent:(callFunc (ρ.f 146) args').run P w=.ok (.enter (ρ.f 146) args') w:=(enters_of L.f146 (by kernel_rfl) rfl:Enters P (ρ.f 146)) _ _
 split at h
 ·rename_i s c
  cases hb:(Nat.blt s.length 4294967281 && Nat.blt c 256)
  ·rw[hb] at h;cases h
  rw[hb,cond_true,Option.some.injEq] at h
  rw[Bool.and_eq_true,Nat.blt_eq,Nat.blt_eq] at hb
  subst h
  have hsz:=hv.size
  match args',hsz with
  | ⟨[a',b']⟩,_ =>
  cases hv.at_ 0 _ _ rfl rfl with
  | str _ s' hs' =>
  cases hv.at_ 1 _ _ rfl rfl with
  | str _ p' hp' =>
  have hp:p'=⟨#[UInt8.ofNat c]⟩:=bytesOf_eq hp'
  have hc:(UInt8.ofNat c).toNat=c:=by
   show c % 256=c
   exact Nat.mod_eq_of_lt hb.2
  subst hp
  have hlen:s'.size=s.length:=by
   rw[←hs',List.length_map];exact (Lib.size_eq s')
  have hsp:(Lib.splitB ⟨#[UInt8.ofNat c]⟩ 0 (Lib.countB s' ⟨#[UInt8.ofNat c]⟩) s').map (fun b=>b.data.toList.map UInt8.toNat)=splitC c s:=by
   have h1:=Lib.splitB_data ⟨#[UInt8.ofNat c]⟩ 0 (Lib.countB s' ⟨#[UInt8.ofNat c]⟩) s'
   have h2:Lib.countB s' ⟨#[UInt8.ofNat c]⟩=s'.data.toList.count (UInt8.ofNat c):=Lib.count_one _ _
   have h3:=splitK_nat (UInt8.ofNat c) s'.data.toList
   rw[hc,hs',←h2] at h3
   rw[←h3]
   show _=List.map _ (Lib.splitK (⟨#[UInt8.ofNat c]⟩:ByteArray).data.toList 0 _ _)
   rw[←h1,List.map_map]
   rfl
  have hl2:(splitC c s).length=Lib.countB s' ⟨#[UInt8.ofNat c]⟩+1:=by
   rw[←hsp,List.length_map]
   exact Lib.splitB_all ⟨#[UInt8.ofNat c]⟩ (Nat.le_refl 1) 0 _ s' rfl
  refine⟨hent,callsIn_wide.2 ((split_1 L hi9 s' (UInt8.ofNat c) w (by omega)).mono fun e w' ⟨he,hw⟩=>?_)⟩
  subst hw
  have hvs:VRs ι ((splitC c s).map AV.str) ((Lib.splitB ⟨#[UInt8.ofNat c]⟩ 0 (Lib.countB s' ⟨#[UInt8.ofNat c]⟩) s').map Value.string).toArray:=⟨by rw[←hsp];simp,fun i v v' h1 h2=>by
   rw[←hsp,List.map_map,List.getElem?_map,Option.map_eq_some_iff] at h1
   obtain⟨x,hx,rfl⟩:=h1
   rw[List.getElem?_toArray,List.getElem?_map,hx] at h2
   cases h2
   exact .str _ _ rfl⟩
  have hor:=row_OR (b:=w.heap.size) (ρ.t 9) hvs (fun v hv=>by
   obtain⟨x,_,rfl⟩:=List.mem_map.1 hv
   rfl)
  obtain⟨g1,g2,g3⟩:=hsr.alloc _ _ _ hor
  refine⟨_,_,he,g2,g1,?_⟩
  have hz:((Lib.splitB ⟨#[UInt8.ofNat c]⟩ 0 (Lib.countB s' ⟨#[UInt8.ofNat c]⟩) s').map Value.string).toArray.size=(splitC c s).length:=by rw[←hsp];simp
  rw[hl2]
  have:=VR.slice (ι:=_) st.next 0 (Lib.countB s' ⟨#[UInt8.ofNat c]⟩+1) (Lib.countB s' ⟨#[UInt8.ofNat c]⟩+1) _ (.known (Lib.countB s' ⟨#[UInt8.ofNat c]⟩+1)) g3 rfl (Nat.le_refl _)
  exact this
 ·cases h
end
end Go.Ax
end
