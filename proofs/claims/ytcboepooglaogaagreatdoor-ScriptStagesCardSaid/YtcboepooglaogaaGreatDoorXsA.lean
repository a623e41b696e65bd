/-
  OWN WORK, A PART: an abstract machine for the program's text that the kernel can run, and the proof that it is sound: what it answers is what the program answers; contracts of functions by it. No condition.
-/
import Derived.Test.YtcboepooglaogaaGreatDoorRows
import Derived.Test.YtcboepooglaogaaGreatDoorWaF
import Derived.Test.YtcboepooglaogaaGreatDoorWaJ
import Derived.Shelf.Strings.OnBuilder
import Derived.Shelf.Strconv.Itoa3
section
open Go Go.Ax Go.Proofs
namespace Go.Proofs.YtcboepooglaogaaGreatDoor.spt
set_option linter.unusedVariables false
def ren156:Go.Shelf.Ren:=⟨fun | 156=>107 | 165=>163 | 166=>70 | 169=>73 | 240=>119 | 241=>193 | 276=>168 | 277=>222 | n=>n,fun | 31=>86 | 9=>9 | 3=>3 | 4=>4 | 0=>0 | 20=>20 | 72=>140 | 76=>143 | 70=>138 | 37=>110 | 75=>142 | 127=>226 | 164=>271 | 5=>5 | 80=>147 | n=>n,fun n=>n⟩
theorem lays156:Lays.n156 Tryz.prog ren156 :=
 {mixed:=by kernel_rfl,
  f156:=Tryz.func107.trans (congrArg some (by kernel_rfl)),
  f165:=Tryz.func163.trans (congrArg some (by kernel_rfl)),
  f166:=Tryz.func70.trans (congrArg some (by kernel_rfl)),
  f169:=Tryz.func73.trans (congrArg some (by kernel_rfl)),
  f240:=Tryz.func119.trans (congrArg some (by kernel_rfl)),
  f241:=Tryz.func193.trans (congrArg some (by kernel_rfl)),
  f276:=Tryz.func168.trans (congrArg some (by kernel_rfl)),
  f277:=Tryz.func222.trans (congrArg some (by kernel_rfl)),
  t0:=Tryz.underlying0,
  a0:=Tryz.isAgg0,
  z0:=Tryz.sizeOf0,
  v0:=Tryz.zeroValue0,
  t3:=Tryz.underlying3,
  a3:=Tryz.isAgg3,
  z3:=Tryz.sizeOf3,
  v3:=Tryz.zeroValue3,
  t4:=Tryz.underlying4,
  a4:=Tryz.isAgg4,
  z4:=Tryz.sizeOf4,
  v4:=Tryz.zeroValue4,
  t9:=Tryz.underlying9,
  a9:=Tryz.isAgg9,
  z9:=Tryz.sizeOf9,
  v9:=Tryz.zeroValue9,
  t20:=Tryz.underlying20,
  a20:=Tryz.isAgg20,
  z20:=Tryz.sizeOf20,
  v20:=Tryz.zeroValue20,
  t31:=Tryz.underlying86,
  a31:=Tryz.isAgg86,
  z31:=Tryz.sizeOf86,
  v31:=Tryz.zeroValue86,
  t37:=Tryz.underlying110,
  a37:=Tryz.isAgg110,
  z37:=Tryz.sizeOf110,
  v37:=Tryz.zeroValue110,
  t70:=Tryz.underlying138,
  a70:=Tryz.isAgg138,
  z70:=Tryz.sizeOf138,
  v70:=Tryz.zeroValue138,
  t72:=Tryz.underlying140,
  a72:=Tryz.isAgg140,
  z72:=Tryz.sizeOf140,
  v72:=Tryz.zeroValue140,
  t75:=Tryz.underlying142,
  a75:=Tryz.isAgg142,
  z75:=Tryz.sizeOf142,
  v75:=Tryz.zeroValue142,
  t76:=Tryz.underlying143,
  a76:=Tryz.isAgg143,
  z76:=Tryz.sizeOf143,
  v76:=Tryz.zeroValue143,
  t127:=Tryz.underlying226,
  a127:=Tryz.isAgg226,
  z127:=Tryz.sizeOf226,
  v127:=Tryz.zeroValue226,
  t164:=Tryz.underlying271,
  a164:=Tryz.isAgg271,
  z164:=Tryz.sizeOf271,
  v164:=Tryz.zeroValue271}
def ren171:Go.Shelf.Ren:=⟨fun | 171=>104 | 243=>161 | 246=>184 | 283=>189 | 284=>190 | 285=>191 | 286=>192 | 129=>181 | 317=>218 | 318=>219 | 319=>220 | 320=>221 | 337=>232 | 338=>233 | n=>n,fun | 3=>3 | 9=>9 | 2=>2 | 4=>4 | 171=>292 | 0=>0 | 53=>22 | 37=>110 | 5=>5 | 173=>294 | 212=>315 | 51=>284 | 20=>20 | 213=>316 | 46=>216 | 232=>329 | 233=>330 | n=>n,fun | 17=>1 | 18=>4 | 19=>5 | n=>n⟩
theorem lays171:LaysM.n171 Tryz.prog ren171 :=
 {mixed:=by kernel_rfl,
  f129:=Tryz.func181.trans (congrArg some (by kernel_rfl)),
  f171:=Tryz.func104.trans (congrArg some (by kernel_rfl)),
  f243:=Tryz.func161.trans (congrArg some (by kernel_rfl)),
  f246:=Tryz.func184.trans (congrArg some (by kernel_rfl)),
  f283:=Tryz.func189.trans (congrArg some (by kernel_rfl)),
  f284:=Tryz.func190.trans (congrArg some (by kernel_rfl)),
  f285:=Tryz.func191.trans (congrArg some (by kernel_rfl)),
  f286:=Tryz.func192.trans (congrArg some (by kernel_rfl)),
  f317:=Tryz.func218.trans (congrArg some (by kernel_rfl)),
  f318:=Tryz.func219.trans (congrArg some (by kernel_rfl)),
  f319:=Tryz.func220.trans (congrArg some (by kernel_rfl)),
  f320:=Tryz.func221.trans (congrArg some (by kernel_rfl)),
  f337:=Tryz.func232.trans (congrArg some (by kernel_rfl)),
  f338:=Tryz.func233.trans (congrArg some (by kernel_rfl)),
  t0:=Tryz.underlying0,
  a0:=Tryz.isAgg0,
  z0:=Tryz.sizeOf0,
  v0:=Tryz.zeroValue0,
  t2:=Tryz.underlying2,
  a2:=Tryz.isAgg2,
  z2:=Tryz.sizeOf2,
  v2:=Tryz.zeroValue2,
  t3:=Tryz.underlying3,
  a3:=Tryz.isAgg3,
  z3:=Tryz.sizeOf3,
  v3:=Tryz.zeroValue3,
  t4:=Tryz.underlying4,
  a4:=Tryz.isAgg4,
  z4:=Tryz.sizeOf4,
  v4:=Tryz.zeroValue4,
  t5:=Tryz.underlying5,
  a5:=Tryz.isAgg5,
  z5:=Tryz.sizeOf5,
  v5:=Tryz.zeroValue5,
  t9:=Tryz.underlying9,
  a9:=Tryz.isAgg9,
  z9:=Tryz.sizeOf9,
  v9:=Tryz.zeroValue9,
  t20:=Tryz.underlying20,
  a20:=Tryz.isAgg20,
  z20:=Tryz.sizeOf20,
  v20:=Tryz.zeroValue20,
  t37:=Tryz.underlying110,
  a37:=Tryz.isAgg110,
  z37:=Tryz.sizeOf110,
  v37:=Tryz.zeroValue110,
  t46:=Tryz.underlying216,
  a46:=Tryz.isAgg216,
  z46:=Tryz.sizeOf216,
  v46:=Tryz.zeroValue216,
  t51:=Tryz.underlying284,
  a51:=Tryz.isAgg284,
  z51:=Tryz.sizeOf284,
  v51:=Tryz.zeroValue284,
  t53:=Tryz.underlying22,
  a53:=Tryz.isAgg22,
  z53:=Tryz.sizeOf22,
  v53:=Tryz.zeroValue22,
  t171:=Tryz.underlying292,
  a171:=Tryz.isAgg292,
  z171:=Tryz.sizeOf292,
  v171:=Tryz.zeroValue292,
  t173:=Tryz.underlying294,
  a173:=Tryz.isAgg294,
  z173:=Tryz.sizeOf294,
  v173:=Tryz.zeroValue294,
  t212:=Tryz.underlying315,
  a212:=Tryz.isAgg315,
  z212:=Tryz.sizeOf315,
  v212:=Tryz.zeroValue315,
  t213:=Tryz.underlying316,
  a213:=Tryz.isAgg316,
  z213:=Tryz.sizeOf316,
  t232:=Tryz.underlying329,
  a232:=Tryz.isAgg329,
  z232:=Tryz.sizeOf329,
  v232:=Tryz.zeroValue329,
  t233:=Tryz.underlying330,
  a233:=Tryz.isAgg330,
  z233:=Tryz.sizeOf330,
  v233:=Tryz.zeroValue330,
  g17:=by kernel_rfl,
  g18:=by kernel_rfl,
  g19:=by kernel_rfl,
  i0:=by kernel_rfl,
  i2:=by kernel_rfl,
  i3:=by kernel_rfl,
  i4:=by kernel_rfl,
  i5:=by kernel_rfl,
  i9:=by kernel_rfl,
  i20:=by kernel_rfl,
  i37:=by kernel_rfl,
  i46:=by kernel_rfl,
  i51:=by kernel_rfl,
  i53:=by kernel_rfl,
  i171:=by kernel_rfl,
  i173:=by kernel_rfl,
  i212:=by kernel_rfl,
  i232:=by kernel_rfl,
  i233:=by kernel_rfl,
  m17:=by kernel_rfl,
  m18:=by kernel_rfl,
  m19:=by kernel_rfl}
theorem extra:Builder.Extra Tryz.prog ren156 :=
 {sizeBuilder:=by kernel_rfl,liesBuilder:=by kernel_rfl,t5:=Tryz.underlying5,a5:=Tryz.isAgg5,z5:=Tryz.sizeOf5,v5:=Tryz.zeroValue5,infoByte:=by kernel_rfl,cellsByte:=by kernel_rfl,sizeByte:=by kernel_rfl,neB5:=by decide}
theorem join_ok:CallsOK Tryz.prog (sumJoin 107):=sumJoin_ok lays156 extra
theorem Call1.told {P:Program} {f:Nat} {args:List AV} {S:ASt} {v:AV} (hent:∀args' w,(callFunc f args').run P w=.ok (.enter f args') w)
  (h:∀(ι:Go.Ax.Ren) w args',GlobOK w→VRs ι args args'→Calls P f args' w fun e w'=>∃x,e=.returned x∧(∀κ:Go.Ax.Ren,VR κ v x)∧Keeps (fun k=>k<w.heap.size) w w'):Call1 P f args S (v,S):=by
 intro B w0 ι w args' hsr hv
 refine⟨hent _ _,callsIn_wide.2 ((h ι w args' hsr.globw hv).mono fun e w' hx=>?_)⟩
 obtain⟨x,he,hvr,hk⟩:=hx
 exact⟨x,ι,he,ι.le_refl,hsr.later hk,hvr ι⟩
def decL (n:Nat):List Nat:=(Lib.decDigits n).map UInt8.toNat
theorem one_arg {ι:Go.Ax.Ren} {a:AV} {args':Array Value} (hv:VRs ι [a] args'):∃x,args'=#[x]∧VR ι a x:=by
 match args',hv.size with
 | ⟨[x]⟩,_=>exact⟨x,rfl,hv.at_ 0 _ _ rfl rfl⟩
theorem keeps_refl {w:World}:Keeps (fun k=>k<w.heap.size) w w:=Keeps.refl _ _
theorem grow_keeps {w:World} {k:Nat} {os:Array Obj}:Keeps (fun k=>k<w.heap.size) w (Go.Sort.grow (w.drewN k) os):=⟨rfl,rfl,rfl,by simp[Go.Sort.grow],fun j hj=>by simp[Go.Sort.grow,Array.getElem?_append,hj]⟩
theorem tab_is {w:World} (hg:GlobOK w):Lib.TabIs Tryz.prog w "internal/strconv.uint64pow10" .u64 Lib.pow10Tab:=by
 obtain⟨_,c,e,m,h1,h2,h3⟩:=hg 1 (Lib.pow10Tab.map fun z=>AV.int .u64 z) (by kernel_rfl)
 unfold Lib.TabIs World.var?
 rw[show Tryz.prog.globalNamed "internal/strconv.uint64pow10" = some 1 by kernel_rfl]
 simp only[Option.bind_some,h1]
 congr 1
 apply Array.ext
 ·rw[←h2];simp
 ·intro i hi1 hi2
  have hi:i<Lib.pow10Tab.length:=by simpa using hi2
  have hv:=h3 i (.int .u64 Lib.pow10Tab[i]) c[i] (by simp[hi]) (by simp[hi1]) (fun _=>none)
  generalize hx:c[i]=x at hv
  cases hv with
  | int _ _=>simp
theorem itoa_at {S:ASt} {n:Nat} (hn:n<9223372036854775808):Call1 Tryz.prog 104 [.int .i64 (.ofNat n)] S (.str (decL n),S):=by
 refine Call1.told ((enters_of lays171.f171 (by kernel_rfl) rfl:Enters Tryz.prog 104)) fun ι w args' hg hv=>?_
 obtain⟨x,rfl,hx⟩:=one_arg hv
 cases hx with
 | int _ _ =>
  refine (Any.strconv_Itoa lays171 (.ofNat n) (show (-9223372036854775808:Int)≤(n:Int) by omega) (show (n:Int)≤9223372036854775807 by omega) w (tab_is hg)).mono fun e w' ⟨he,k,os,hw⟩=>⟨_,he,fun κ=>.str _ _ ?_,hw▸grow_keeps⟩
  rw[show (Int.ofNat n)=(n:Int) from rfl,Lib.itoa_nonneg]
  rfl
theorem strsA_map:∀xs:List (List Nat),strsA (xs.map AV.str)=some xs
 | []=>rfl
 | x::xs=>by simp[strsA,strsA_map xs]
theorem join_at {S:ASt} {k o:Nat} {c:Cap} {cs:List AV} {rw:Bool} {xs:List (List Nat)} {sep:List Nat} (hS:S.h.get k=some (.cells cs rw)) (ht:takeL cs o xs.length=some (xs.map AV.str)) (hl:(joinL sep xs).length<140737488355328) (hn:xs.length<140737488355328) :
  Call1 Tryz.prog 107 [.slice (some (k,o)) xs.length c,.str sep] S (.str (joinL sep xs),S):=by
 intro B w0 ι w args' hsr hv
 refine join_ok B w0 107 _ S _ ?_ ι w args' hsr hv
 unfold sumJoin
 simp only[Nat.beq_refl,cond_true,hS,ht,strsA_map]
 have h1:Nat.blt (joinL sep xs).length 140737488355328=true:=by rw[Nat.blt_eq];exact hl
 have h2:Nat.blt xs.length 140737488355328=true:=by rw[Nat.blt_eq];exact hn
 rw[h1,h2]
 rfl
end Go.Proofs.YtcboepooglaogaaGreatDoor.spt
end

section
open Go Go.Ax Go.Proofs
namespace Go.Proofs.YtcboepooglaogaaGreatDoor.spt
set_option linter.unusedVariables false
theorem lays285:Lays.n285 Tryz.prog ren171:={lays171 with}
def u8v (n:Nat):AV:=.int .u8 (.ofNat n)
def digs (u:Nat):List AV:=(Lib.decDigits u).map fun b=>u8v b.toNat
theorem digs_len {u:Nat}:(digs u).length=Lib.nDigits u:=by unfold digs;rw[List.length_map,Lib.decDigits_length]
def encB8:UInt8→Value:=fun b=>Value.int .u8 (b.toNat:Int)
theorem two_args {ι:Go.Ax.Ren} {a b:AV} {args':Array Value} (hv:VRs ι [a,b] args'):∃x y,args'=#[x,y]∧VR ι a x∧VR ι b y:=by
 match args',hv.size with
 | ⟨[x,y]⟩,_=>exact⟨x,y,rfl,hv.at_ 0 _ _ rfl rfl,hv.at_ 1 _ _ rfl rfl⟩
theorem zero24 {j:Nat} (h:j<24):(List.replicate 24 (u8v 0))[j]? = some (u8v 0):=by rw[List.getElem?_replicate,if_pos h]
theorem fb10_at {S:ASt} {k u:Nat} (hS:S.h.get k=some (.cells (List.replicate 24 (u8v 0)) true)) (hu:1≤u) (h64:u<18446744073709551616) :
  Call1 Tryz.prog 191 [.slice (some (k,0)) (Lib.nDigits u) (.known 24),.int .u64 (.ofNat u)] S (.tuple [],S.put k (.cells (digs u++List.replicate (24 - Lib.nDigits u) (u8v 0)) true)):=by
 intro B w0 ι w args' hsr hv
 refine⟨(enters_of lays285.f285 (by kernel_rfl) rfl:Enters Tryz.prog 191) _ _,?_⟩
 obtain⟨x,y,rfl,hx,hy⟩:=two_args hv
 have hnd:Lib.nDigits u≤20:=by have:=Lib.numDigits_eq u hu h64;split at this<;>omega
 cases hy with
 | int _ _ =>
 cases hx with
 | slice _ _ _ c' L _ hL hc hl =>
  obtain⟨L',ob,g1,g2,c,e,lo,hi,rfl,q2,q3,q4,q5,q6⟩:=hsr.obj k _ hS (by simp)
  rw[hL] at g1;cases g1
  have q3':L.p+24≤c.size:=by simpa using q3
  have hlt:=(Array.getElem?_eq_some_iff.1 g2).1
  have hH:Sort.Holds encB8 w L.b (L.p+0) (Array.replicate (Lib.nDigits u) 0):=fun j hj=>by
   rw[Array.size_replicate] at hj
   have hj24:j<24:=by omega
   refine⟨?_,?_⟩
   ·obtain⟨v',e1,e2,_⟩:=hsr.cell (o:=j) (v:=u8v 0) hS (zero24 hj24) hL
    cases e2 with
    | int _ _ =>
     rw[Nat.add_zero,e1]
     simp[encB8,hj]
   ·unfold World.frozen?
    simp only[g2]
    rcases q6 rfl with h | h
    ·subst h;simp
    ·simp
     omega
  have hC:=Any.internal_strconv_formatBase10 lays285 L.b (L.p+0) c' u (Array.replicate (Lib.nDigits u) 0) w hH (by rw[Array.size_replicate];exact Lib.lt_pow_nDigits u) h64 (by rw[Array.size_replicate];omega)
  rw[Array.size_replicate] at hC
  refine callsIn_wide.2 (hC.mono fun e' w' ⟨he,n,v',dk,hw,hF⟩=>?_)
  have hds:dk.size=Lib.nDigits u:=hF.size
  have hor:OR ι L (.cells (digs u++List.replicate (24 - Lib.nDigits u) (u8v 0)) true) (.cells (Sort.putCells encB8 (L.p+0) dk c) e (lo,hi)):=by
   refine⟨_,e,lo,hi,rfl,by simp[Sort.putCells,q2],?_,fun v hv=>?_,fun i v v' hv hv'=>?_,fun _=>by simpa [Sort.putCells] using q6 rfl⟩
   ·rw[List.length_append,digs_len,List.length_replicate]
    simp[Sort.putCells];omega
   ·rcases List.mem_append.1 hv with h | h
    ·obtain⟨b,_,rfl⟩:=List.mem_map.1 h;rfl
    ·rw[List.mem_replicate] at h;rw[h.2];rfl
   ·have hi24:i<24:=by
     have:=(List.getElem?_eq_some_iff.1 hv).1
     rw[List.length_append,digs_len,List.length_replicate] at this;omega
    have hsz:L.p+i<c.size:=by omega
    have hcc:(Sort.putCells encB8 (L.p+0) dk c)[L.p+i]? = some (if i<dk.size then encB8 dk[i]! else c[L.p+i]):=by
     unfold Sort.putCells
     rw[Array.getElem?_mapIdx,Array.getElem?_eq_getElem hsz]
     simp only[Option.map_some,Option.some.injEq,Nat.add_zero]
     have h1:(L.p≤L.p+i∧L.p+i<L.p+dk.size)↔i<dk.size:=by omega
     simp only[h1,show L.p+i - L.p=i by omega]
    rw[hcc,Option.some.injEq] at hv'
    subst hv'
    by_cases hd:i<Lib.nDigits u
    ·rw[List.getElem?_append_left (by rw[digs_len];exact hd)] at hv
     have hdl:i<(Lib.decDigits u).length:=by rw[Lib.decDigits_length];exact hd
     unfold digs at hv
     rw[List.getElem?_map,List.getElem?_eq_getElem hdl] at hv
     simp only[Option.map_some,Option.some.injEq] at hv
     subst hv
     rw[if_pos (by rw[hds];exact hd),←Lib.row_is_numeral hF i hdl]
     exact .int _ _
    ·rw[List.getElem?_append_right (by rw[digs_len];omega),digs_len,List.getElem?_replicate] at hv
     rw[if_neg (by rw[hds];exact hd)]
     split at hv
     ·simp only[Option.some.injEq] at hv
      subst hv
      exact q5 i (u8v 0) _ (zero24 hi24) (Array.getElem?_eq_getElem hsz)
     ·cases hv
  have hs1:=hsr.write hS rfl hL hor
  have hw2:Sort.putRow encB8 w L.b (L.p+0) dk=setObjW w L.b (.cells (Sort.putCells encB8 (L.p+0) dk c) e (lo,hi)):=by
   unfold Sort.putRow Sort.mapBlock setObjW
   congr 1
   apply Array.ext_getElem?
   intro j
   rw[Array.getElem?_modify,Array.getElem?_setIfInBounds]
   by_cases hj:L.b=j
   ·subst hj
    have g3:=(Array.getElem?_eq_some_iff.1 g2).2
    simp[g3,hlt,Sort.onCells]
   ·simp[hj]
  refine⟨.tuple #[],ι,he,ι.le_refl,?_,.tuple _ _ rfl (fun i v v' h=>by simp at h)⟩
  rw[hw]
  have:=hs1.drawn ((setObjW w L.b (.cells (Sort.putCells encB8 (L.p+0) dk c) e (lo,hi))).drawn+n)
  rw[←hw2] at this
  exact this
theorem numDig_at {S:ASt} {u:Nat} (hu:1≤u) (h64:u<18446744073709551616):Call1 Tryz.prog 190 [.int .u64 (.ofNat u)] S (.int .i64 (.ofNat (Lib.nDigits u)),S):=by
 refine Call1.told ((enters_of lays171.f284 (by kernel_rfl) rfl:Enters Tryz.prog 190)) fun ι w args' hg hv=>?_
 obtain⟨x,rfl,hx⟩:=one_arg hv
 cases hx with
 | int _ _=>exact (Any.internal_strconv_numDigits {lays171 with} u hu h64 w (tab_is hg)).mono fun e w' ⟨he,hw⟩=>⟨_,he,fun κ=>.int _ _,hw▸keeps_refl⟩
theorem small_at {S:ASt} {n:Nat} (hn:n<100):Call1 Tryz.prog 189 [.int .i64 (.ofNat n)] S (.str (decL n),S):=by
 refine Call1.told ((enters_of lays171.f283 (by kernel_rfl) rfl:Enters Tryz.prog 189)) fun ι w args' hg hv=>?_
 obtain⟨x,rfl,hx⟩:=one_arg hv
 cases hx with
 | int _ _=>exact (Any.internal_strconv_small {lays171 with} n hn w).mono fun e w' ⟨he,hw⟩=>⟨_,he,fun κ=>.str _ _ rfl,hw▸keeps_refl⟩
end Go.Proofs.YtcboepooglaogaaGreatDoor.spt
end

section
open Go Go.Ax Go.Proofs
namespace Go.Proofs.YtcboepooglaogaaGreatDoor.spt
set_option linter.unusedVariables false
def KO30:List Nat:=[0,1,2,3,4,5,6,7,8,9,10,11,12,13,14,15,16,17,18,19,20,21,22,23,24,25,26,27,28,29]
def fl0:Fl:=⟨[],[],[],[]⟩
def nI (n:Nat):AV:=.int .i64 (.ofNat n)
def gU (z:Int):AV:=.int .u64 z
noncomputable def EU:Env:=envEx Tryz.prog [0,3,4,5,9,22,110,292] [(106,Tryz.f106),(162,Tryz.f162)] []
noncomputable def tUs (q:CallT) (u:Nat) (s:List Nat):Tr (AV×ASt):=(TM EU (onlyC [189,190,191] q) [(106,⟨[],[7],[],[]⟩),(162,⟨[12,14,15],[],[],[]⟩)] fl0 60).call 106 [gU (.ofNat u),nI 10] (mkSt [] 0)
noncomputable def tUb (q:CallT) (u nd:Nat) (R:AO) (s:List Nat):Tr (AV×ASt):=(TM EU (onlyC [189,190,191] q) [(106,⟨[],[7],[],[]⟩),(162,⟨[12,17,19,21,23,24],[],[],[]⟩)] fl0 60).call 106 [gU (.ofNat u),nI 10] (mkSt [] 0)
noncomputable def vcUs_s0:ASt:=mkSt [] 0
theorem vcUs (q:CallT) (u:Nat) (s:List Nat) (Q:AV×ASt→Prop) :
 (still (vcUs_s0) (aBin EU .lss 22 (.tmp 11) (.const (.int .u64 100)) (.int .u64 (.ofNat u)) (.int .u64 (.ofNat 100)))=some (.bool true,vcUs_s0)∧aConvert EU 22 3 (.int .u64 (.ofNat u)) (vcUs_s0)=some (.int .i64 (.ofNat u),vcUs_s0)∧(M EU (drawA EU) (onlyC [189,190,191] q) 46).call 189 [.int .i64 (.ofNat u)] (vcUs_s0)=some (.str s,vcUs_s0)∧Q (.str s,vcUs_s0)) =
 (tUs q u s).allY (fun r=>Q (r.1,canS KO30 r.2)) (.v (.bool true,vcUs_s0) (.v (.int .i64 (.ofNat u),vcUs_s0) (.v (.str s,vcUs_s0) .nil))):=by kernel_rfl
noncomputable def vcUb_s0:ASt:=mkSt [] 0
noncomputable def vcUb_s1:ASt:=mkSt [(0,.cells [.int .u8 (.ofNat 0),.int .u8 (.ofNat 0),.int .u8 (.ofNat 0),.int .u8 (.ofNat 0),.int .u8 (.ofNat 0),.int .u8 (.ofNat 0),.int .u8 (.ofNat 0),.int .u8 (.ofNat 0),.int .u8 (.ofNat 0),.int .u8 (.ofNat 0),.int .u8 (.ofNat 0),.int .u8 (.ofNat 0),.int .u8 (.ofNat 0),.int .u8 (.ofNat 0),.int .u8 (.ofNat 0),.int .u8 (.ofNat 0),.int .u8 (.ofNat 0),.int .u8 (.ofNat 0),.int .u8 (.ofNat 0),.int .u8 (.ofNat 0),.int .u8 (.ofNat 0),.int .u8 (.ofNat 0),.int .u8 (.ofNat 0),.int .u8 (.ofNat 0)] true)] 1
noncomputable def vcUb_s2 (R:AO):ASt:=mkSt [(0,R)] 1
theorem vcUb (q:CallT) (u:Nat) (nd:Nat) (R:AO) (s:List Nat) (Q:AV×ASt→Prop) :
 (still (vcUb_s0) (aBin EU .lss 22 (.tmp 11) (.const (.int .u64 100)) (.int .u64 (.ofNat u)) (.int .u64 (.ofNat 100)))=some (.bool false,vcUb_s0)∧(M EU (drawA EU) (onlyC [189,190,191] q) 47).call 190 [.int .u64 (.ofNat u)] (vcUb_s1)=some (.int .i64 (.ofNat nd),vcUb_s1)∧still (vcUb_s1) (aSlice EU 292 (.ptr (some (0,0))) none (some (.int .i64 (.ofNat nd))) none (vcUb_s1))=some (.slice (some (0,0)) nd (.known 24),vcUb_s1)∧(M EU (drawA EU) (onlyC [189,190,191] q) 46).call 191 [.slice (some (0,0)) nd (.known 24),.int .u64 (.ofNat u)] (vcUb_s1)=some (.tuple [],vcUb_s2 R)∧still (vcUb_s2 R) (aSlice EU 292 (.ptr (some (0,0))) none (some (.int .i64 (.ofNat nd))) none (vcUb_s2 R))=some (.slice (some (0,0)) nd (.known 24),vcUb_s2 R)∧aConvert EU 110 9 (.slice (some (0,0)) nd (.known 24)) (vcUb_s2 R)=some (.str s,vcUb_s2 R)∧Q (.str s,vcUb_s2 R)) =
 (tUb q u nd R s).allY (fun r=>Q (r.1,canS KO30 r.2)) (.v (.bool false,vcUb_s0) (.v (.int .i64 (.ofNat nd),vcUb_s1) (.v (.slice (some (0,0)) nd (.known 24),vcUb_s1) (.v (.tuple [],vcUb_s2 R) (.v (.slice (some (0,0)) nd (.known 24),vcUb_s2 R) (.v (.str s,vcUb_s2 R) .nil)))))):=by kernel_rfl
end Go.Proofs.YtcboepooglaogaaGreatDoor.spt
end

section
open Go Go.Ax Go.Proofs
namespace Go.Proofs.YtcboepooglaogaaGreatDoor.spt
set_option linter.unusedVariables false
theorem EUok:Env.Ok Tryz.prog EU:=envEx_ok (xs:=[]) ⟨⟨Tryz.func106,Tryz.call106⟩,⟨Tryz.func162,Tryz.call162⟩,trivial⟩ trivial (by kernel_rfl)
theorem Call1.pure {f:Nat} {args:List AV} {v:AV} {S:ASt} (h:AtMem Tryz.prog f args (mkSt [] 0) v) (hp:refsV 0 v) (ha:∀a,a∈args→refsV 0 a):Call1 Tryz.prog f args S (v,S) :=
 Call1.read h hp (l:=[]) rfl (fun j x hj=>by rw[show (mkSt [] 0).h.get j=none from T.get_e j] at hj;cases hj) (fun j q hq=>by simp at hq) fun ι args' hv=>⟨hv.size,fun i v v' h h'=>(hv.at_ i v v' h h').noRef (ha v (List.mem_of_getElem? h))⟩
theorem bytesL_U:∀l:List Nat,(∀x,x∈l→x<256)→bytesL (l.map cellU)=some l
 | [],_=>rfl
 | x::t,h=>by
  show (match bytesL (t.map cellU) with | some l=>some (x % 256::l) | none=>none)=_
  rw[bytesL_U t (fun y hy=>h y (List.mem_cons_of_mem _ hy))]
  simp only[Nat.mod_eq_of_lt (h x List.mem_cons_self)]
theorem lt100 {S:ASt} {u:Nat} {b:Bool} (h:decide (u<100)=b):still S (aBin EU .lss 22 (.tmp 11) (.const (.int .u64 100)) (.int .u64 (.ofNat u)) (.int .u64 (.ofNat 100)))=some (.bool b,S):=by
 subst h
 refine still_of ?_
 rw[←ltF_nn]
 kernel_rfl
theorem conv_u {S:ASt} {u:Nat} (h:u<100):aConvert EU 22 3 (.int .u64 (.ofNat u)) S=some (.int .i64 (.ofNat u),S):=by
 have e:aConvert EU 22 3 (.int .u64 (.ofNat u)) S=some (.int .i64 (wrapF .i64 (.ofNat u)),S):=by kernel_rfl
 rw[e,wrap_nat (by omega)]
theorem slice24 {S:ASt} {k:Nat} (h:k≤24) (hk:1≤k):still S (aSlice EU 292 (.ptr (some (0,0))) none (some (.int .i64 (.ofNat k))) none S)=some (.slice (some (0,0)) k (.known 24),S):=by
 refine still_of ?_
 have e:aSlice EU 292 (.ptr (some (0,0))) none (some (.int .i64 (.ofNat k))) none S=(match aBounds 24 24 none (some k) none with
  | some (l,h,m)=>some (.slice (some (0,bif Nat.beq m l then 0 else 0+l*1)) (h - l) (.known (m - l)))
  | none=>none):=by kernel_rfl
 rw[e]
 unfold aBounds
 simp only[ble_t h,cond_true]
 rfl
theorem dec_small {u:Nat}:∀x,x∈decL u→x<256:=fun x hx=>by
 obtain⟨b,_,rfl⟩:=List.mem_map.1 hx
 exact b.toNat_lt
theorem digs_map {u:Nat}:digs u=(decL u).map cellU:=by
 unfold digs decL u8v cellU
 rw[List.map_map];rfl
theorem decL_len {u:Nat}:(decL u).length=Lib.nDigits u:=by unfold decL;rw[List.length_map,Lib.decDigits_length]
theorem conv_dig {S:ASt} {u:Nat} (h:S.h.get 0=some (.cells (digs u++List.replicate (24 - Lib.nDigits u) (u8v 0)) true)):aConvert EU 110 9 (.slice (some (0,0)) (Lib.nDigits u) (.known 24)) S=some (.str (decL u),S):=by
 have e:aConvert EU 110 9 (.slice (some (0,0)) (Lib.nDigits u) (.known 24)) S=(match S.h.get 0 with
   | some (.cells cs _)=>match takeL cs 0 (Lib.nDigits u) with | some l=>(match bytesL l with | some b=>some (.str b,S) | none=>none) | none=>none
   | _=>none):=by kernel_rfl
 have ht:takeL (digs u++List.replicate (24 - Lib.nDigits u) (u8v 0)) 0 (Lib.nDigits u)=some ((decL u).map cellU):=by
  unfold takeL
  rw[List.drop_zero,digs_map,←decL_len,List.take_left' (by simp)]
  simp
 rw[e]
 simp only[h,ht,bytesL_U _ dec_small]
theorem nd24 {u:Nat} (hu:1≤u) (h64:u<18446744073709551616):Lib.nDigits u≤20:=by have:=Lib.numDigits_eq u hu h64;split at this<;>omega
theorem fmt_mem {u:Nat} (h64:u<18446744073709551616):AtMem Tryz.prog 106 [gU (.ofNat u),nI 10] (mkSt [] 0) (.str (decL u)):=by
 by_cases hs:u<100
 ·have hh:=Eq.mp (vcUs (tabC [(189,_,_,_)]) u (decL u) (fun q=>q.1=.str (decL u))) ⟨lt100 (decide_eq_true hs),conv_u hs,call_at (onlyC_at rfl (tabC_hd ..)),rfl⟩
  exact AtMem.of_tm EUok (sum:=onlyC [189,190,191] (tabC [_])) (onlyC_ok (tabC_ok fun e he=>by
   simp only[List.mem_cons,List.not_mem_nil,or_false] at he
   subst he
   exact (small_at hs:Call1 Tryz.prog 189 _ vcUs_s0 _))) hh
 ·have h1:1≤Lib.nDigits u:=Lib.nDigits_pos u
  have h2:=nd24 (show 1≤u by omega) h64
  have hS1:vcUb_s1.h.get 0=some (.cells (List.replicate 24 (u8v 0)) true):=by kernel_rfl
  have hput:vcUb_s1.put 0 (.cells (digs u++List.replicate (24 - Lib.nDigits u) (u8v 0)) true)=vcUb_s2 (.cells (digs u++List.replicate (24 - Lib.nDigits u) (u8v 0)) true):=by kernel_rfl
  have hfb:=fb10_at hS1 (show 1≤u by omega) h64
  rw[hput] at hfb
  have hh:=Eq.mp (vcUb (tabC [(190,_,_,_),(191,_,_,_)]) u (Lib.nDigits u) (.cells (digs u++List.replicate (24 - Lib.nDigits u) (u8v 0)) true) (decL u) (fun q=>q.1=.str (decL u)))
   ⟨lt100 (decide_eq_false hs),call_at (onlyC_at rfl (tabC_hd ..)),slice24 (by omega) h1,call_at (onlyC_at rfl ((tabC_tlf rfl).trans (tabC_hd ..))),slice24 (by omega) h1,conv_dig (by kernel_rfl),rfl⟩
  exact AtMem.of_tm EUok (sum:=onlyC [189,190,191] (tabC [_,_])) (onlyC_ok (tabC_ok fun e he=>by
   simp only[List.mem_cons,List.not_mem_nil,or_false] at he
   rcases he with rfl | rfl
   ·exact (numDig_at (show 1≤u by omega) h64:Call1 Tryz.prog 190 _ vcUb_s1 _)
   ·exact hfb)) hh
theorem fmt_at {S:ASt} {u:Nat} (h64:u<18446744073709551616):Call1 Tryz.prog 106 [gU (.ofNat u),nI 10] S (.str (decL u),S) :=
 Call1.pure (fmt_mem h64) (by simp[refsV]) fun a ha=>by
  simp only[List.mem_cons,List.not_mem_nil,or_false] at ha
  rcases ha with rfl | rfl<;>simp[refsV,gU,nI]
end Go.Proofs.YtcboepooglaogaaGreatDoor.spt
end

section
open Go Go.Ax Go.Proofs
namespace Go.Proofs.YtcboepooglaogaaGreatDoor.spt
set_option linter.unusedVariables false
noncomputable def EV:Env:=envEx Tryz.prog [0,3,4,5,9,20,22,25,110,216] [(10,Tryz.f10),(11,Tryz.f11),(46,Tryz.f46),(47,Tryz.f47),(53,Tryz.f53)] []
noncomputable def gN (u:Nat):AV:=.int .u64 (.ofNat u)
def fl1:Fl:=⟨[],[],[],[]⟩
noncomputable def M0:ASt:=mkSt [] 0
-- Text
noncomputable def c53:Code:=Option.getD Tryz.f53.body .skip
noncomputable def L53:Code:=lopB (blkB (seqL (dropC 1 c53)))
noncomputable def fr53 (u:Nat) (s:List Nat):AFr:=xFr [(0,gN u),(3,.str s)] 21
noncomputable def tTp (u:Nat):Tr (Exit×AFr×ASt):=(TM EV noSum [] fl1 60).ex fl1 none (preC 1 c53) {m:=putArgs [gN u] 0 .e,n:=21,defs:=[]} M0
noncomputable def tTs (u:Nat) (s w:List Nat) (d u2:Nat):Tr (Exit×AFr×ASt):=(TM EV noSum [] fl1 60).ex ⟨[15,17,19],[],[5,8],[]⟩ none L53 (fr53 u s) M0
-- Digits
def hexs:List Nat:=[48,49,50,51,52,53,54,55,56,57,97,98,99,100,101,102]
noncomputable def vcTp_s0:ASt:=mkSt [] 0
theorem vcTp (u:Nat) (Q:Exit×AFr×ASt→Prop) :
 (Q (.normal,xFr [(0,.int .u64 (.ofNat u)),(3,.str [])] 21,vcTp_s0)) =
 (tTp u).allY (fun r=>Q (canR [0,3] KO30 r)) (.nil):=by kernel_rfl
noncomputable def vcTs_s0 (u:Nat):ASt:=mkSt [(0,.cells [.int .u8 (wrapF .u8 (wrapF .u64 (.ofNat 48+Int.tmod (.ofNat u) (.ofNat 10))))] true)] 1
noncomputable def vcTs_s1:ASt:=mkSt [] 0
theorem vcTs (u:Nat) (s:List Nat) (w:List Nat) (d:Nat) (u2:Nat) (Q:Exit×AFr×ASt→Prop) :
 (ifB (ltF (.ofNat 0) (.ofNat u)) (aConvert EV 110 9 (.slice (some (0,0)) 1 (.known 1)) (vcTs_s0 u)=some (.str [d],vcTs_s0 u)∧still (vcTs_s0 u) (aBin EV .add 9 (.tmp 15) (.tmp 16) (.str [d]) (.str s))=some (.str w,vcTs_s0 u)∧still (vcTs_s0 u) (aBin EV .quo 22 (.tmp 18) (.const (.int .u64 10)) (.int .u64 (.ofNat u)) (.int .u64 (.ofNat 10)))=some (.int .u64 (.ofNat u2),vcTs_s0 u)∧Q (.normal,xFr [(0,.int .u64 (.ofNat u2)),(3,.str w)] 21,vcTs_s0 u)) (ifB (lEq s []) (aConvert EV 110 9 (.slice (some (0,0)) 1 (.known 1)) (vcTs_s0 u)=some (.str [d],vcTs_s0 u)∧still (vcTs_s0 u) (aBin EV .add 9 (.tmp 15) (.tmp 16) (.str [d]) (.str s))=some (.str w,vcTs_s0 u)∧still (vcTs_s0 u) (aBin EV .quo 22 (.tmp 18) (.const (.int .u64 10)) (.int .u64 (.ofNat u)) (.int .u64 (.ofNat 10)))=some (.int .u64 (.ofNat u2),vcTs_s0 u)∧Q (.normal,xFr [(0,.int .u64 (.ofNat u2)),(3,.str w)] 21,vcTs_s0 u)) (Q (.exit 0,xFr [(0,.int .u64 (.ofNat u)),(3,.str s)] 21,vcTs_s1)))) =
 (tTs u s w d u2).allY (fun r=>Q (canR [0,3] KO30 r)) (.b (.v (.str [d],vcTs_s0 u) (.v (.str w,vcTs_s0 u) (.v (.int .u64 (.ofNat u2),vcTs_s0 u) .nil))) (.b (.v (.str [d],vcTs_s0 u) (.v (.str w,vcTs_s0 u) (.v (.int .u64 (.ofNat u2),vcTs_s0 u) .nil))) .nil)):=by kernel_rfl
end Go.Proofs.YtcboepooglaogaaGreatDoor.spt
end

section
open Go Go.Ax Go.Proofs
namespace Go.Proofs.YtcboepooglaogaaGreatDoor.spt
set_option linter.unusedVariables false
theorem EVok:Env.Ok Tryz.prog EV:=envEx_ok (xs:=[]) ⟨⟨Tryz.func10,Tryz.call10⟩,⟨Tryz.func11,Tryz.call11⟩,⟨Tryz.func46,Tryz.call46⟩,⟨Tryz.func47,Tryz.call47⟩,⟨Tryz.func53,Tryz.call53⟩,trivial⟩ trivial (by kernel_rfl)
theorem wrapU {m:Nat} (h:m<18446744073709551616):wrapF .u64 (.ofNat m)=.ofNat m:=by
 have e:modN (.ofNat m) (big .u64)=m:=Nat.mod_eq_of_lt h
 unfold wrapF
 rw[e]
 have:Nat.blt m (half .u64)=true:=by rw[Nat.blt_eq];exact h
 show (bif Nat.blt m (half .u64) then Int.ofNat m else _)=_
 rw[this];rfl
theorem wrapB {m:Nat} (h:m<256):wrapF .u8 (.ofNat m)=.ofNat m:=by
 have e:modN (.ofNat m) (big .u8)=m:=Nat.mod_eq_of_lt h
 unfold wrapF
 rw[e]
 have:Nat.blt m (half .u8)=true:=by rw[Nat.blt_eq];exact h
 show (bif Nat.blt m (half .u8) then Int.ofNat m else _)=_
 rw[this];rfl
def dT (u:Nat):Nat:=48+u % 10
def textL (u:Nat) (s:List Nat):List Nat:=if u=0∧s≠[] then s else decL u++s
theorem toNat8 {x:Nat} (h:x<256):(UInt8.ofNat x).toNat=x:=by simp;omega
theorem decL_small {u:Nat} (h:u<10):decL u=[dT u]:=by
 unfold decL dT
 rw[Lib.decDigits,dif_pos h]
 simp only[List.map_cons,List.map_nil]
 rw[toNat8 (by omega),Nat.mod_eq_of_lt h]
theorem decL_big {u:Nat} (h:¬u<10):decL u=decL (u / 10)++[dT u]:=by
 unfold decL dT
 rw[Lib.decDigits,dif_neg h,List.map_append]
 simp only[List.map_cons,List.map_nil]
 rw[toNat8 (by omega)]
theorem textL_step {u:Nat} {s:List Nat} (h:¬(u=0∧s≠[])):textL u s=textL (u / 10) (dT u::s):=by
 unfold textL
 rw[if_neg h]
 by_cases h1:u<10
 ·rw[if_pos ⟨by omega,by simp⟩,decL_small h1];rfl
 ·rw[if_neg (by omega),decL_big h1];simp
theorem tsS {u:Nat} (h:u<18446744073709551616):vcTs_s0 u=mkSt [(0,.cells [cellU (dT u)] true)] 1:=by
 unfold vcTs_s0
 have e:wrapF .u8 (wrapF .u64 (.ofNat 48+Int.tmod (.ofNat u) (.ofNat 10)))=.ofNat (dT u):=by
  have e1:(Int.ofNat 48+Int.tmod (.ofNat u) (.ofNat 10))=Int.ofNat (48+u % 10):=rfl
  rw[e1,wrapU (by omega),wrapB (by omega)];rfl
 rw[e];rfl
theorem convT {u:Nat} (h:u<18446744073709551616):aConvert EV 110 9 (.slice (some (0,0)) 1 (.known 1)) (vcTs_s0 u)=some (.str [dT u],vcTs_s0 u):=by
 rw[tsS h]
 have e:aConvert EV 110 9 (.slice (some (0,0)) 1 (.known 1)) (mkSt [(0,.cells [cellU (dT u)] true)] 1)=some (.str [dT u % 256],mkSt [(0,.cells [cellU (dT u)] true)] 1):=by kernel_rfl
 rw[e,Nat.mod_eq_of_lt (by unfold dT;omega)]
theorem quoT {u:Nat} {S:ASt} (h:u<18446744073709551616):still S (aBin EV .quo 22 (.tmp 18) (.const (.int .u64 10)) (.int .u64 (.ofNat u)) (.int .u64 (.ofNat 10)))=some (.int .u64 (.ofNat (u / 10)),S):=by
 have e:aBin EV .quo 22 (.tmp 18) (.const (.int .u64 10)) (.int .u64 (.ofNat u)) (.int .u64 (.ofNat 10))=some (.int .u64 (wrapF .u64 (.ofNat (u / 10)))):=by kernel_rfl
 refine still_of ?_
 rw[e,wrapU (by omega)]
theorem addT {S:ASt} {a b:List Nat} {x y:Nat} (h:a.length+b.length<4294967296):still S (aBin EV .add 9 (.tmp x) (.tmp y) (.str a) (.str b))=some (.str (a++b),S):=by
 have e:aBin EV .add 9 (.tmp x) (.tmp y) (.str a) (.str b)=bif Nat.blt (a.length+b.length) 4294967296 then some (.str (a++b)) else none:=by kernel_rfl
 refine still_of ?_
 rw[e,blt_t h];rfl
theorem nd20 {u:Nat} (h:u<18446744073709551616):Lib.nDigits u≤20:=by
 by_cases e:u=0
 ·subst e;rw[Lib.nDigits_small (by omega)];omega
 ·exact nd24 (by omega) h
theorem textL_le {u:Nat} {s:List Nat}:s.length≤(textL u s).length:=by
 unfold textL
 split
 ·exact Nat.le_refl _
 ·simp
theorem toT {u:Nat} {s:List Nat} {O:AO} {n:Nat}:Wk 0 (xFr [(0,.int .u64 (.ofNat u)),(3,.str s)] 21) (mkSt [(0,O)] n) (fr53 u s) M0 :=
 Wk.heldX (kb:=0) [] rfl rfl [0,3] (by kernel_rfl) .nil
theorem loopT {u0:Nat} (h0:u0<18446744073709551616):Trip Tryz.prog 0 none (.block 0 (.loop L53)) (fr53 u0 []) M0 (Stops 0 .normal (fr53 0 (decL u0)) M0):=by
 refine Trip.block (Trip.loop (fun μ fr st=>∃u s,u<18446744073709551616∧μ=2*u+(if s=[] then 1 else 0)∧textL u s=decL u0∧fr=fr53 u s∧st=M0) ?_ (2*u0+1) ⟨u0,[],h0,rfl,by simp[textL],rfl,rfl⟩)
 rintro μ fr st ⟨u,s,hu,rfl,hI,rfl,rfl⟩
 have hsl:[dT u].length+s.length<4294967296:=by
  have h1:=textL_le (u:=u) (s:=s)
  have h2:=nd20 h0
  rw[hI,decL_len] at h1
  simp only[List.length_cons,List.length_nil];omega
 refine (Trip.runY EVok noSum_ok (Eq.mp (vcTs u s (dT u::s) (dT u) (u / 10) (fun q=>(¬(u=0∧s≠[])∧Stops 0 .normal (fr53 (u / 10) (dT u::s)) M0 q)∨((u=0∧s≠[])∧Stops 0 (.exit 0) (fr53 u s) M0 q)))
  (ifB_mk (fun h=>⟨convT hu,addT hsl,quoT hu,.inl ⟨?_,rfl,toT⟩⟩) fun h=>ifB_mk (fun h2=>⟨convT hu,addT hsl,quoT hu,.inl ⟨?_,rfl,toT⟩⟩) fun h2=>.inr ⟨?_,rfl,Wk.refl _ _ _⟩)) ).mono ?_
 ·have:=ltF_t h
  rintro ⟨rfl,_⟩
  exact absurd this (by decide)
 ·rintro ⟨_,hs⟩
  rw[lEq_eq] at h2
  exact hs (by simpa using h2)
 ·rw[ltF_nn] at h
  rw[lEq_eq] at h2
  have:¬0<u:=of_decide_eq_false h
  exact⟨by omega,by simpa using h2⟩
 ·rintro ⟨e,fr',st'⟩ (⟨q1,q2⟩ | ⟨⟨rfl,q1⟩,q2⟩)
  ·obtain⟨g3,g4⟩:=q2.can
   simp only at g3 g4
   subst g3
   refine⟨2*(u / 10)+0,_,_,?_,g4,u / 10,dT u::s,by omega,by simp,by rw[←textL_step q1,hI],rfl,rfl⟩
   by_cases hz:u=0
   ·subst hz
    have:s=[]:=Classical.byContradiction fun h=>q1 ⟨rfl,h⟩
    simp[this]
   ·split<;>omega
  ·obtain⟨g3,g4⟩:=q2.can
   simp only at g3 g4
   subst g3
   unfold textL at hI
   rw[if_pos ⟨rfl,q1⟩] at hI
   subst hI
   exact⟨fun _=>⟨rfl,g4⟩,fun h=>absurd rfl h⟩
theorem shape53:dropC 1 c53=.seq (.block 0 (.loop L53)) (dropC 2 c53):=by kernel_rfl
theorem vcTz (u:Nat) (s:List Nat) (Q:Exit×Option AV→Prop):Q (.ret,some (.str s))=((TM EV noSum [] fl1 60).ex fl1 none (dropC 2 c53) (fr53 u s) M0).allY (fun r=>Q (r.1,ans (leaveA EV Tryz.f53 r.2.1 r.2.2))) .nil:=by kernel_rfl
theorem text_mem {u:Nat} (h:u<18446744073709551616):AtMem Tryz.prog 53 [gN u] M0 (.str (decL u)):=by
 refine AtMem.of_trip EVok (fn:=Tryz.f53) (by kernel_rfl) (c:=c53) (by kernel_rfl) (by kernel_rfl) ?_
 refine Trip.preY EVok noSum_ok (k:=1) (kf:=[0,3]) (ko:=KO30) (by kernel_rfl) (Q1:=fun q=>q=(.normal,fr53 u [],M0)) (Eq.mp (vcTp u (fun q=>q=(.normal,fr53 u [],M0))) rfl) ?_ (fun q h1 h2=>absurd (congrArg Prod.fst h2) h1)
 rintro F' S' hq
 cases hq
 rw[shape53]
 refine Trip.seq (loopT h) (fun fr' st' hq=>?_) (fun e fr' st' hne hq=>absurd hq.1 hne)
 refine Trip.less hq.2 ((Trip.runY EVok noSum_ok (Eq.mp (vcTz 0 (decL u) (fun q=>q=(.ret,some (.str (decL u))))) rfl)).mono fun q hq=>⟨.inr (congrArg Prod.fst hq),congrArg Prod.snd hq⟩)
theorem text_at {S:ASt} {u:Nat} (h:u<18446744073709551616):Call1 Tryz.prog 53 [gN u] S (.str (decL u),S) :=
 Call1.pure (text_mem h) (by simp[refsV]) fun a ha=>by
  simp only[List.mem_cons,List.not_mem_nil,or_false] at ha
  subst ha;simp[refsV,gN]
end Go.Proofs.YtcboepooglaogaaGreatDoor.spt
end
