/-
  OWN WORK, A PART: an abstract machine for the program's text that the kernel can run, and the proof that it is sound: what it answers is what the program answers; contracts of functions by it. No condition.
-/
import Derived.Test.YtiafochainjglaaGreatDoorMtE
section
open Go Go.Ax Go.Proofs
namespace Go.Proofs.YtiafochainjglaaGreatDoor.drp
set_option linter.unusedVariables false
open cd cd2 cd3 cd4 cd5 cd9 oo
theorem ETok:Env.Ok Tryz.prog ETk:=envEx_ok (xs:=[]) ⟨⟨Tryz.func15,Tryz.call15⟩,⟨Tryz.func53,Tryz.call53⟩,⟨Tryz.func120,Tryz.call120⟩,⟨Tryz.func58,Tryz.call58⟩,trivial⟩ trivial (by kernel_rfl)
theorem Ov.only0 {S Y:ASt} {l:List (Nat×AO)} {k:Nat} {a:AO} (o:Ov S Y l) (hi:l[0]? = some (k,a)):Ov S Y [(k,a)]:=by
 refine⟨o.next,fun i p hp=>?_,fun i j p r hp hr _=>?_,o.old,o.tidy⟩
 ·cases i with
  | zero=>simp only[List.getElem?_cons_zero,Option.some.injEq] at hp;subst hp;exact o.loc 0 _ hi
  | succ n=>simp at hp
 ·cases i with
  | zero=>cases j with
   | zero=>rfl
   | succ n=>simp at hr
  | succ n=>simp at hp
section
variable {S Y:ASt} {a b i:Nat} {x y:Operand}
theorem lssR (h:a<4):still Y (aBin ETk .lss 3 x y (.int .i64 (.ofNat a)) (.int .i64 (.ofNat 4)))=some (.bool true,Y):=by
 have e:aBin ETk .lss 3 x y (.int .i64 (.ofNat a)) (.int .i64 (.ofNat 4))=some (.bool (ltF (.ofNat a) (.ofNat 4))):=by kernel_rfl
 rw[ltF_nn,decide_eq_true h] at e
 exact still_of e
theorem lssX (h:4≤a):still Y (aBin ETk .lss 3 x y (.int .i64 (.ofNat a)) (.int .i64 (.ofNat 4)))=some (.bool false,Y):=by
 have e:aBin ETk .lss 3 x y (.int .i64 (.ofNat a)) (.int .i64 (.ofNat 4))=some (.bool (ltF (.ofNat a) (.ofNat 4))):=by kernel_rfl
 rw[ltF_nn,decide_eq_false (by omega)] at e
 exact still_of e
theorem addT (h:a+b<1000000):still Y (aBin ETk .add 3 x y (.int .i64 (.ofNat a)) (.int .i64 (.ofNat b)))=some (.int .i64 (.ofNat (a+b)),Y):=by
 have e:aBin ETk .add 3 x y (.int .i64 (.ofNat a)) (.int .i64 (.ofNat b))=some (.int .i64 (wrapF .i64 (.ofNat a+.ofNat b))):=by kernel_rfl
 rw[show (Int.ofNat a+Int.ofNat b)=Int.ofNat (a+b) from rfl,wrap_nat (by omega)] at e
 exact still_of e
theorem addR (h:i<4):still Y (aBin ETk .add 3 x y (.int .i64 (.ofNat 5)) (.int .i64 (.ofNat i)))=some (.int .i64 (.ofNat (5+i)),Y):=addT (by omega)
theorem incR (h:i<4):still Y (aBin ETk .add 3 x y (.int .i64 (.ofNat i)) (.int .i64 (.ofNat 1)))=some (.int .i64 (.ofNat (i+1)),Y):=addT (by omega)
theorem gtrR:still Y (aBin ETk .gtr 24 x y (.int .u64 (.ofNat a)) (.int .u64 (.ofNat b)))=some (.bool (decide (b<a)),Y):=by
 have e:aBin ETk .gtr 24 x y (.int .u64 (.ofNat a)) (.int .u64 (.ofNat b))=some (.bool (ltF (.ofNat b) (.ofNat a))):=by kernel_rfl
 rw[ltF_nn] at e
 exact still_of e
theorem remR:still Y (aBin ETk .rem 24 x y (.int .u64 (.ofNat a)) (.int .u64 (.ofNat 4)))=some (.int .u64 (.ofNat (a % 4)),Y):=by
 have e:aBin ETk .rem 24 x y (.int .u64 (.ofNat a)) (.int .u64 (.ofNat 4))=some (.int .u64 (Int.tmod (.ofNat a) (.ofNat 4))):=by kernel_rfl
 rw[tm] at e
 exact still_of e
theorem cvtR (h:i<4):aConvert ETk 3 24 (.int .i64 (.ofNat i)) Y=some (.int .u64 (.ofNat i),Y):=by
 have e:aConvert ETk 3 24 (.int .i64 (.ofNat i)) Y=some (.int .u64 (wrapF .u64 (.ofNat i)),Y):=by kernel_rfl
 rw[wrapU (by omega)] at e
 exact e
theorem eqlR:still Y (aBin ETk .eql 24 x y (.int .u64 (.ofNat a)) (.int .u64 (.ofNat b)))=some (.bool (decide (a=b)),Y):=by
 have e:aBin ETk .eql 24 x y (.int .u64 (.ofNat a)) (.int .u64 (.ofNat b))=some (.bool (eqF (.ofNat a) (.ofNat b))):=by kernel_rfl
 rw[eqF_nn] at e
 exact still_of e
end
def stepN (i:Nat) (il:Bool) (n h nu ho:Nat):Nat×Nat:=cond (il && (decide (nu<n) && decide (n % 4=i))) (n,h) (nu,ho)
theorem mOf {S Y:ASt} {K k t se se':Nat} {x y:Nat→Nat} {c mk mk':Bool} (o:Ov S Y [(K,.cells (mL k x c y t mk se 0 0) true)]) (h1:mk=mk') (h2:se=se'):Ov S Y [(K,.cells (mL k x c y t mk' se' 0 0) true)]:=by subst h1 h2;exact o
theorem rOf {S Y:ASt} {K k t se nu ho nu' ho':Nat} {x y:Nat→Nat} {c mk:Bool} (o:Ov S Y [(K,.cells (mL k x c y t mk se nu ho) true)]) (h1:nu=nu') (h2:ho=ho'):Ov S Y [(K,.cells (mL k x c y t mk se nu' ho') true)]:=by subst h1 h2;exact o
noncomputable def fP (d k M:Nat):AFr:=xFr [(0,.ptr (some (d,0))),(1,.int .i64 (.ofNat k)),(4,.ptr (some (M,0)))] 113
noncomputable def fR (d k M i:Nat):AFr:=xFr [(0,.ptr (some (d,0))),(1,.int .i64 (.ofNat k)),(4,.ptr (some (M,0))),(72,.int .i64 (.ofNat i))] 113
theorem zM_p:∀v,v∈zM→∀k,refsV k v:=fun v hv k=>by
 unfold zM at hv
 rcases List.mem_cons.1 hv with rfl | hv
 ·simp[refsV]
 rcases List.mem_append.1 hv with hv | hv
 ·exact sL_p _ _ v hv k
 rcases List.mem_append.1 hv with hv | hv
 ·exact rL_p _ v hv k
 simp only[List.mem_cons,List.not_mem_nil,or_false] at hv
 rcases hv with rfl | rfl | rfl | rfl | rfl<;>simp[refsV]
section
variable {S:ASt}
theorem takeS_g {q:CallT} {d k t ms:Nat} {x y:Nat→Nat} {c im by_:Bool} {B0:List Nat} (hq0:CallsOK Tryz.prog q) (ht:Tidy S) (hc:∀{l:List (Nat×AO)} (Y:ASt),Ov S Y l→q 53 [.ptr (some (d,0)),.int .i64 (.ofNat k)] Y=some (.int .i64 (.ofNat 0),Y)) (hs:∀{l:List (Nat×AO)} (Y:ASt),Ov S Y l→q 54 [.ptr (some (d,0))] Y=some (.tuple [.agg (sL x c),.int .i64 (.ofNat 6)],Y)):Call1 Tryz.prog 15 [.ptr (some (d,0)),.int .i64 (.ofNat k)] S ((.tuple [.agg zM,.int .i64 (.ofNat 6)]),S):=by
 have o0:=Ov.nil ht
 obtain⟨S1,e1,o1⟩:=o0.add (.cells ([.int .i64 (.ofNat 0)]++(zS++(zR++([.int .u64 (.ofNat 0)]++([.bool false]++([.int .u64 (.ofNat 0)]++([.int .u64 (.ofNat 0)]++[.int .u16 (.ofNat 0)]))))))) true)
 obtain⟨S2,e2,o2⟩:=o1.st1 (E:=ETk) (t:=3) (i:=0) (k:=S.next) (o:=0) (v:=.int .i64 (.ofNat k)) (([.int .i64 (.ofNat 0)]++(zS++(zR++([.int .u64 (.ofNat 0)]++([.bool false]++([.int .u64 (.ofNat 0)]++([.int .u64 (.ofNat 0)]++[.int .u16 (.ofNat 0)])))))))) (by kernel_rfl) (by kernel_rfl) (by kernel_rfl) rfl
 obtain⟨S3,e3,o3⟩:=o2.stA (E:=ETk) (t:=29) (i:=0) (k:=S.next) (o:=1) (z:=7) (vs:=(sL x c)) ([.int .i64 (.ofNat k)]) (zS) ((zR++([.int .u64 (.ofNat 0)]++([.bool false]++([.int .u64 (.ofNat 0)]++([.int .u64 (.ofNat 0)]++[.int .u16 (.ofNat 0)]))))))
 obtain⟨S4,e4,o4⟩:=o3.stA (E:=ETk) (t:=36) (i:=0) (k:=S.next) (o:=0) (z:=32) (vs:=([.int .i64 (.ofNat 0)]++(zS++(zR++([.int .u64 (.ofNat 0)]++([.bool false]++([.int .u64 (.ofNat 0)]++([.int .u64 (.ofNat 0)]++[.int .u16 (.ofNat 0)])))))))) ([]) (([.int .i64 (.ofNat k)]++(sL x c++(zR++([.int .u64 (.ofNat 0)]++([.bool false]++([.int .u64 (.ofNat 0)]++([.int .u64 (.ofNat 0)]++[.int .u16 (.ofNat 0)])))))))) ([])
 refine exD Tryz.f15 cTk 113 [4,5] ETok (onlyC_ok hq0) (tup_p (two_p (agg_p (fun v h=>zM_p v h _)) (int_p ..))) (Eq.mp (vcTs q d k t (S.next) x y c S S1 S2 S3 S4 (Left ETk Tryz.f15 113 S (.tuple [.agg zM,.int .i64 (.ofNat 6)]))) ?_)
 exact⟨o0.al e1,ca (hc _ o1),e2,ca (hs _ o2),e3,e4,(Left.of (rs:=[.cell 4 36,.tmp 5]) o4 rfl (by kernel_rfl) rfl (res_cell (x:=.ptr (some (S.next,0))) (by kernel_rfl) (o4.ldA (i:=0) (z:=32) (o:=0) (k:=S.next) (cs:=zM)) (res_tmp (by kernel_rfl) res_nil)) rfl)⟩
theorem takeK_g {q:CallT} {d k t ms:Nat} {x y:Nat→Nat} {c im by_:Bool} {B0:List Nat} (hq0:CallsOK Tryz.prog q) (ht:Tidy S) (hc:∀{l:List (Nat×AO)} (Y:ASt),Ov S Y l→q 53 [.ptr (some (d,0)),.int .i64 (.ofNat k)] Y=some (.int .i64 (.ofNat 0),Y)) (hs:∀{l:List (Nat×AO)} (Y:ASt),Ov S Y l→q 54 [.ptr (some (d,0))] Y=some (.tuple [.agg (sL x c),.int .i64 (.ofNat 0)],Y)) (hk:∀{l:List (Nat×AO)} (Y:ASt),Ov S Y l→q 55 [.ptr (some (d,0)),.int .i64 (.ofNat 2)] Y=some (.tuple [.agg (rL y),.int .u64 (.ofNat t),.int .i64 (.ofNat 6)],Y)):Call1 Tryz.prog 15 [.ptr (some (d,0)),.int .i64 (.ofNat k)] S ((.tuple [.agg zM,.int .i64 (.ofNat 6)]),S):=by
 have o0:=Ov.nil ht
 obtain⟨S1,e1,o1⟩:=o0.add (.cells ([.int .i64 (.ofNat 0)]++(zS++(zR++([.int .u64 (.ofNat 0)]++([.bool false]++([.int .u64 (.ofNat 0)]++([.int .u64 (.ofNat 0)]++[.int .u16 (.ofNat 0)]))))))) true)
 obtain⟨S2,e2,o2⟩:=o1.st1 (E:=ETk) (t:=3) (i:=0) (k:=S.next) (o:=0) (v:=.int .i64 (.ofNat k)) (([.int .i64 (.ofNat 0)]++(zS++(zR++([.int .u64 (.ofNat 0)]++([.bool false]++([.int .u64 (.ofNat 0)]++([.int .u64 (.ofNat 0)]++[.int .u16 (.ofNat 0)])))))))) (by kernel_rfl) (by kernel_rfl) (by kernel_rfl) rfl
 obtain⟨S3,e3,o3⟩:=o2.stA (E:=ETk) (t:=29) (i:=0) (k:=S.next) (o:=1) (z:=7) (vs:=(sL x c)) ([.int .i64 (.ofNat k)]) (zS) ((zR++([.int .u64 (.ofNat 0)]++([.bool false]++([.int .u64 (.ofNat 0)]++([.int .u64 (.ofNat 0)]++[.int .u16 (.ofNat 0)]))))))
 obtain⟨S4,e4,o4⟩:=o3.stA (E:=ETk) (t:=33) (i:=0) (k:=S.next) (o:=8) (z:=19) (vs:=(rL y)) (([.int .i64 (.ofNat k)]++(sL x c))) (zR) (([.int .u64 (.ofNat 0)]++([.bool false]++([.int .u64 (.ofNat 0)]++([.int .u64 (.ofNat 0)]++[.int .u16 (.ofNat 0)])))))
 obtain⟨S5,e5,o5⟩:=o4.st1 (E:=ETk) (t:=24) (i:=0) (k:=S.next) (o:=27) (v:=.int .u64 (.ofNat t)) (([.int .i64 (.ofNat k)]++(sL x c++(rL y++([.int .u64 (.ofNat 0)]++([.bool false]++([.int .u64 (.ofNat 0)]++([.int .u64 (.ofNat 0)]++[.int .u16 (.ofNat 0)])))))))) (by kernel_rfl) (by kernel_rfl) (by kernel_rfl) rfl
 obtain⟨S6,e6,o6⟩:=o5.stA (E:=ETk) (t:=36) (i:=0) (k:=S.next) (o:=0) (z:=32) (vs:=([.int .i64 (.ofNat 0)]++(zS++(zR++([.int .u64 (.ofNat 0)]++([.bool false]++([.int .u64 (.ofNat 0)]++([.int .u64 (.ofNat 0)]++[.int .u16 (.ofNat 0)])))))))) ([]) (([.int .i64 (.ofNat k)]++(sL x c++(rL y++([.int .u64 (.ofNat t)]++([.bool false]++([.int .u64 (.ofNat 0)]++([.int .u64 (.ofNat 0)]++[.int .u16 (.ofNat 0)])))))))) ([])
 refine exD Tryz.f15 cTk 113 [4,5] ETok (onlyC_ok hq0) (tup_p (two_p (agg_p (fun v h=>zM_p v h _)) (int_p ..))) (Eq.mp (vcTk q d k t (S.next) x y c S S1 S2 S3 S4 S5 S6 (Left ETk Tryz.f15 113 S (.tuple [.agg zM,.int .i64 (.ofNat 6)]))) ?_)
 exact⟨o0.al e1,ca (hc _ o1),e2,ca (hs _ o2),e3,ca (hk _ o3),e4,e5,e6,(Left.of (rs:=[.cell 4 36,.tmp 5]) o6 rfl (by kernel_rfl) rfl (res_cell (x:=.ptr (some (S.next,0))) (by kernel_rfl) (o6.ldA (i:=0) (z:=32) (o:=0) (k:=S.next) (cs:=zM)) (res_tmp (by kernel_rfl) res_nil)) rfl)⟩
theorem takeP_g {q:CallT} {d k t ms:Nat} {x y:Nat→Nat} {c im by_:Bool} {B0:List Nat} (hq0:CallsOK Tryz.prog q) (ht:Tidy S) (hc:∀{l:List (Nat×AO)} (Y:ASt),Ov S Y l→q 53 [.ptr (some (d,0)),.int .i64 (.ofNat k)] Y=some (.int .i64 (.ofNat 0),Y)) (hs:∀{l:List (Nat×AO)} (Y:ASt),Ov S Y l→q 54 [.ptr (some (d,0))] Y=some (.tuple [.agg (sL x c),.int .i64 (.ofNat 0)],Y)) (hk:∀{l:List (Nat×AO)} (Y:ASt),Ov S Y l→q 55 [.ptr (some (d,0)),.int .i64 (.ofNat 2)] Y=some (.tuple [.agg (rL y),.int .u64 (.ofNat t),.int .i64 (.ofNat 0)],Y)) (hr:∀{l:List (Nat×AO)} (Y:ASt),Ov S Y l→q 56 [.ptr (some (d,0)),.int .i64 (.ofNat 4)] Y=some (.tuple [.agg (bl B0),.int .i64 (.ofNat 0)],Y)) (hm:∀(Y:ASt),q 57 [.agg (bl B0)] Y=some (.tuple [.int .u64 (.ofNat ms),.int .i64 (.ofNat (cond im 0 4))],Y)) (hb:∀(Y:ASt),q 58 [.int .u64 (.ofNat ms),.int .i64 (.ofNat k)] Y=some (.bool by_,Y)) {kb:Nat} {R:Exit×AFr×ASt→Prop} (hn:∀K Y,Ov S Y [(K,.cells (mL k x c y t (im && !by_) (cond (im && !by_) ms 0) 0 0) true)]→Trip Tryz.prog kb none (dropC 7 cTk) (fP d k K) Y R):Trip Tryz.prog kb none cTk {m:=putArgs [.ptr (some (d,0)),.int .i64 (.ofNat k)] 0 .e,n:=113,defs:=[]} S R:=by
 have o0:=Ov.nil ht
 obtain⟨S1,e1,o1⟩:=o0.add (.cells ([.int .i64 (.ofNat 0)]++(zS++(zR++([.int .u64 (.ofNat 0)]++([.bool false]++([.int .u64 (.ofNat 0)]++([.int .u64 (.ofNat 0)]++[.int .u16 (.ofNat 0)]))))))) true)
 obtain⟨S2,e2,o2⟩:=o1.st1 (E:=ETk) (t:=3) (i:=0) (k:=S.next) (o:=0) (v:=.int .i64 (.ofNat k)) (([.int .i64 (.ofNat 0)]++(zS++(zR++([.int .u64 (.ofNat 0)]++([.bool false]++([.int .u64 (.ofNat 0)]++([.int .u64 (.ofNat 0)]++[.int .u16 (.ofNat 0)])))))))) (by kernel_rfl) (by kernel_rfl) (by kernel_rfl) rfl
 obtain⟨S3,e3,o3⟩:=o2.stA (E:=ETk) (t:=29) (i:=0) (k:=S.next) (o:=1) (z:=7) (vs:=(sL x c)) ([.int .i64 (.ofNat k)]) (zS) ((zR++([.int .u64 (.ofNat 0)]++([.bool false]++([.int .u64 (.ofNat 0)]++([.int .u64 (.ofNat 0)]++[.int .u16 (.ofNat 0)]))))))
 obtain⟨S4,e4,o4⟩:=o3.stA (E:=ETk) (t:=33) (i:=0) (k:=S.next) (o:=8) (z:=19) (vs:=(rL y)) (([.int .i64 (.ofNat k)]++(sL x c))) (zR) (([.int .u64 (.ofNat 0)]++([.bool false]++([.int .u64 (.ofNat 0)]++([.int .u64 (.ofNat 0)]++[.int .u16 (.ofNat 0)])))))
 obtain⟨S5,e5,o5⟩:=o4.st1 (E:=ETk) (t:=24) (i:=0) (k:=S.next) (o:=27) (v:=.int .u64 (.ofNat t)) (([.int .i64 (.ofNat k)]++(sL x c++(rL y++([.int .u64 (.ofNat 0)]++([.bool false]++([.int .u64 (.ofNat 0)]++([.int .u64 (.ofNat 0)]++[.int .u16 (.ofNat 0)])))))))) (by kernel_rfl) (by kernel_rfl) (by kernel_rfl) rfl
 obtain⟨S6,e6,o6⟩:=o5.add (.cells (bl []) true)
 obtain⟨S7,e7,o7⟩:=o6.stA (E:=ETk) (t:=54) (i:=1) (k:=S5.next) (o:=0) (z:=256) (vs:=(bl B0)) ([]) ((bl [])) ([])
 obtain⟨S8,e8,o8⟩:=o7.st1 (E:=ETk) (t:=4) (i:=0) (k:=S.next) (o:=28) (v:=.bool true) (([.int .i64 (.ofNat k)]++(sL x c++(rL y++([.int .u64 (.ofNat t)]++([.bool false]++([.int .u64 (.ofNat 0)]++([.int .u64 (.ofNat 0)]++[.int .u16 (.ofNat 0)])))))))) (by kernel_rfl) (by kernel_rfl) (by kernel_rfl) rfl
 obtain⟨S9,e9,o9⟩:=o8.st1 (E:=ETk) (t:=24) (i:=0) (k:=S.next) (o:=29) (v:=.int .u64 (.ofNat ms)) (([.int .i64 (.ofNat k)]++(sL x c++(rL y++([.int .u64 (.ofNat t)]++([.bool true]++([.int .u64 (.ofNat 0)]++([.int .u64 (.ofNat 0)]++[.int .u16 (.ofNat 0)])))))))) (by kernel_rfl) (by kernel_rfl) (by kernel_rfl) rfl
 refine Trip.preR ETok (onlyC_ok hq0) (k:=7) (kf:=[0,1,4]) (by kernel_rfl) (Q1:=fun r=>∃K,r.1=.normal∧r.2.1=fP d k K∧Ov S r.2.2 [(K,.cells (mL k x c y t (im && !by_) (cond (im && !by_) ms 0) 0 0) true)]) (Eq.mp (vcP q d k t ms (S.next) (S5.next) x y c by_ (.ofNat (cond im 0 4)) B0 S S1 S2 S3 S4 S5 S6 S7 S8 S9 (fun r=>∃K,r.1=.normal∧r.2.1=fP d k K∧Ov S r.2.2 [(K,.cells (mL k x c y t (im && !by_) (cond (im && !by_) ms 0) 0 0) true)])) ?_) (fun F Y ⟨K,_,h2,h3⟩=>by have h2:F=fP d k K:=h2;subst h2;exact hn K Y h3) (fun r h1 ⟨K,h2,_⟩=>absurd h2 h1)
 exact⟨o0.al e1,ca (hc _ o1),e2,ca (hs _ o2),e3,ca (hk _ o3),e4,e5,ca (hr _ o5),o5.al e6,e7,o7.ldA (i:=1) (z:=256) (cs:=(bl B0)),ca (hm _),ifB_mk (fun h0=>⟨ca (hb _),ifB_mk (fun h1=>⟨S.next,rfl,rfl,mOf (o7.only0 (k:=S.next) (a:=AO.cells (mL k x c y t false 0 0 0) true) (by kernel_rfl)) (by rw[show im=true from (er_eq _).symm.trans h0,show by_=true from h1];rfl) (by rw[show im=true from (er_eq _).symm.trans h0,show by_=true from h1];rfl)⟩) (fun h1=>⟨e8,e9,⟨S.next,rfl,rfl,mOf (o9.only0 (k:=S.next) (a:=AO.cells (mL k x c y t true ms 0 0) true) (by kernel_rfl)) (by rw[show im=true from (er_eq _).symm.trans h0,show by_=false from h1];rfl) (by rw[show im=true from (er_eq _).symm.trans h0,show by_=false from h1];rfl)⟩⟩)⟩) (fun h0=>⟨S.next,rfl,rfl,mOf (o7.only0 (k:=S.next) (a:=AO.cells (mL k x c y t false 0 0 0) true) (by kernel_rfl)) (by rw[show im=false from (er_eq _).symm.trans h0];rfl) (by rw[show im=false from (er_eq _).symm.trans h0];rfl)⟩)⟩
theorem round_g {q:CallT} {d k t se nu ho n1 h1 i M kb:Nat} {x y:Nat→Nat} {c mk il:Bool} {B0:List Nat} {S0:ASt} (hq0:CallsOK Tryz.prog q) (o0:Ov S S0 [(M,.cells (mL k x c y t mk se nu ho) true)]) (hr:∀{l:List (Nat×AO)} (Y:ASt),Ov S Y l→q 56 [.ptr (some (d,0)),.int .i64 (.ofNat (5+i))] Y=some (.tuple [.agg (bl B0),.int .i64 (.ofNat 0)],Y)) (hl:∀(Y:ASt),q 59 [.agg (bl B0)] Y=some (.tuple [.int .u64 (.ofNat n1),.int .u16 (.ofNat h1),.int .i64 (.ofNat (cond il 0 4))],Y)) (hi:i<4):Trip Tryz.prog kb none LTk (fR d k M i) S0 (fun r=>r.1=.normal∧r.2.1=fR d k M (i+1)∧Ov S r.2.2 [(M,.cells (mL k x c y t mk se (stepN i il n1 h1 nu ho).1 (stepN i il n1 h1 nu ho).2) true)]):=by
 obtain⟨S1,e1,o1⟩:=o0.add (.cells (bl []) true)
 obtain⟨S2,e2,o2⟩:=o1.stA (E:=ETk) (t:=54) (i:=1) (k:=S0.next) (o:=0) (z:=256) (vs:=(bl B0)) ([]) ((bl [])) ([])
 obtain⟨S3,e3,o3⟩:=o2.st1 (E:=ETk) (t:=24) (i:=0) (k:=M) (o:=30) (v:=.int .u64 (.ofNat n1)) (([.int .i64 (.ofNat k)]++(sL x c++(rL y++([.int .u64 (.ofNat t)]++([.bool mk]++([.int .u64 (.ofNat se)]++([.int .u64 (.ofNat nu)]++[.int .u16 (.ofNat ho)])))))))) (by kernel_rfl) (by kernel_rfl) (by kernel_rfl) rfl
 obtain⟨S4,e4,o4⟩:=o3.st1 (E:=ETk) (t:=34) (i:=0) (k:=M) (o:=31) (v:=.int .u16 (.ofNat h1)) (([.int .i64 (.ofNat k)]++(sL x c++(rL y++([.int .u64 (.ofNat t)]++([.bool mk]++([.int .u64 (.ofNat se)]++([.int .u64 (.ofNat n1)]++[.int .u16 (.ofNat ho)])))))))) (by kernel_rfl) (by kernel_rfl) (by kernel_rfl) rfl
 refine Trip.ofR ETok (onlyC_ok hq0) (kf:=[0,1,4,72]) (Q1:=fun r=>r.1=.normal∧r.2.1=fR d k M (i+1)∧Ov S r.2.2 [(M,.cells (mL k x c y t mk se (stepN i il n1 h1 nu ho).1 (stepN i il n1 h1 nu ho).2) true)]) (Eq.mp (vcR q d k i M t se nu ho n1 h1 (S0.next) x y c mk (decide (nu<n1)) (decide (n1 % 4=i)) (.ofNat (cond il 0 4)) B0 S0 S1 S2 S3 S4 (fun r=>r.1=.normal∧r.2.1=fR d k M (i+1)∧Ov S r.2.2 [(M,.cells (mL k x c y t mk se (stepN i il n1 h1 nu ho).1 (stepN i il n1 h1 nu ho).2) true)])) ?_) (fun e F Y h=>h)
 exact⟨lssR hi,addR hi,ca (hr _ o0),o0.al e1,e2,o2.ldA (i:=1) (z:=256) (cs:=(bl B0)),ca (hl _),ifB_mk (fun g0=>⟨o2.ld1 (i:=0) (cs:=([.int .i64 (.ofNat k)]++(sL x c++(rL y++([.int .u64 (.ofNat t)]++([.bool mk]++([.int .u64 (.ofNat se)]++([.int .u64 (.ofNat nu)]++[.int .u16 (.ofNat ho)])))))))),gtrR,ifB_mk (fun g1=>⟨remR,cvtR hi,eqlR,ifB_mk (fun g2=>⟨e3,e4,incR hi,⟨rfl,rfl,rOf (o4.only0 (k:=M) (a:=AO.cells (mL k x c y t mk se n1 h1) true) (by kernel_rfl)) (by unfold stepN;rw[show il=true from (er_eq _).symm.trans g0,show decide (nu<n1)=true from g1,show decide (n1 % 4=i)=true from g2];rfl) (by unfold stepN;rw[show il=true from (er_eq _).symm.trans g0,show decide (nu<n1)=true from g1,show decide (n1 % 4=i)=true from g2];rfl)⟩⟩) (fun g2=>⟨incR hi,⟨rfl,rfl,rOf (o2.only0 (k:=M) (a:=AO.cells (mL k x c y t mk se nu ho) true) (by kernel_rfl)) (by unfold stepN;rw[show il=true from (er_eq _).symm.trans g0,show decide (nu<n1)=true from g1,show decide (n1 % 4=i)=false from g2];rfl) (by unfold stepN;rw[show il=true from (er_eq _).symm.trans g0,show decide (nu<n1)=true from g1,show decide (n1 % 4=i)=false from g2];rfl)⟩⟩)⟩) (fun g1=>⟨incR hi,⟨rfl,rfl,rOf (o2.only0 (k:=M) (a:=AO.cells (mL k x c y t mk se nu ho) true) (by kernel_rfl)) (by unfold stepN;rw[show il=true from (er_eq _).symm.trans g0,show decide (nu<n1)=false from g1];rfl) (by unfold stepN;rw[show il=true from (er_eq _).symm.trans g0,show decide (nu<n1)=false from g1];rfl)⟩⟩)⟩) (fun g0=>⟨incR hi,⟨rfl,rfl,rOf (o2.only0 (k:=M) (a:=AO.cells (mL k x c y t mk se nu ho) true) (by kernel_rfl)) (by unfold stepN;rw[show il=false from (er_eq _).symm.trans g0];rfl) (by unfold stepN;rw[show il=false from (er_eq _).symm.trans g0];rfl)⟩⟩)⟩
theorem last_g {d k t se nu ho M kb:Nat} {x y:Nat→Nat} {c mk:Bool} {S0:ASt} (o0:Ov S S0 [(M,.cells (mL k x c y t mk se nu ho) true)]):Trip Tryz.prog kb none (dropC 8 cTk) (fP d k M) S0 (Left ETk Tryz.f15 113 S (.tuple [.agg (mL k x c y t mk se nu ho),.int .i64 (.ofNat 0)])):=by
 obtain⟨S1,e1,o1⟩:=o0.stA (E:=ETk) (t:=36) (i:=0) (k:=M) (o:=0) (z:=32) (vs:=([.int .i64 (.ofNat k)]++(sL x c++(rL y++([.int .u64 (.ofNat t)]++([.bool mk]++([.int .u64 (.ofNat se)]++([.int .u64 (.ofNat nu)]++[.int .u16 (.ofNat ho)])))))))) ([]) (([.int .i64 (.ofNat k)]++(sL x c++(rL y++([.int .u64 (.ofNat t)]++([.bool mk]++([.int .u64 (.ofNat se)]++([.int .u64 (.ofNat nu)]++[.int .u16 (.ofNat ho)])))))))) ([])
 refine Trip.ofR ETok noSum_ok (kf:=[4,5]) (Q1:=Left ETk Tryz.f15 113 S (.tuple [.agg (mL k x c y t mk se nu ho),.int .i64 (.ofNat 0)])) (Eq.mp (vcF9 M d k t se nu ho x y c mk S0 S1 (Left ETk Tryz.f15 113 S (.tuple [.agg (mL k x c y t mk se nu ho),.int .i64 (.ofNat 0)]))) ?_) (fun e F Y h=>h)
 exact⟨o0.ldA (i:=0) (z:=32) (cs:=([.int .i64 (.ofNat k)]++(sL x c++(rL y++([.int .u64 (.ofNat t)]++([.bool mk]++([.int .u64 (.ofNat se)]++([.int .u64 (.ofNat nu)]++[.int .u16 (.ofNat ho)])))))))),e1,(Left.of (rs:=[.cell 4 36,.tmp 5]) o1 rfl (by kernel_rfl) rfl (res_cell (x:=.ptr (some (M,0))) (by kernel_rfl) (o1.ldA (i:=0) (z:=32) (o:=0) (k:=M) (cs:=mL k x c y t mk se nu ho)) (res_tmp (by kernel_rfl) res_nil)) rfl)⟩
end
end Go.Proofs.YtiafochainjglaaGreatDoor.drp
end

section
open Go Go.Ax Go.Proofs
namespace Go.Proofs.YtiafochainjglaaGreatDoor.drp
open cd cd2 cd3 cd4 cd5 cd9 oo
set_option linter.unusedVariables false
section
variable (H:List Nat→Nat→Nat) (X:List Nat→Nat) (b:Nat→List Nat) (k:Nat)
def hotF:Nat→Nat×Nat
 | 0=>(0,0)
 | i+1=>stepN i (iL H (b (5+i))) (lN H (b (5+i))) (lS H (b (5+i))) (hotF i).1 (hotF i).2
def mkM:Bool:=iM H (b 4) && !beyS (mX H (b 4)) k
def seM:Nat:=cond (mkM H b k) (mX H (b 4)) 0
def metaL:List AV:=mL k (LSx H b) (LSc H b) (LKx X b) (LKq X b) (mkM H b k) (seM H b k) (hotF H b 4).1 (hotF H b 4).2
def says:Bool:=decide (LSe H b=0∧LKe X b=0)
def takeV:AV:=cond (says H X b) (.tuple [.agg (metaL H X b k),.int .i64 (.ofNat 0)]) (.tuple [.agg zM,.int .i64 (.ofNat 6)])
end
theorem sel_cases {n:Int} (h:n=0∨n=1∨n=-1):selN n 0 0 6=0∨selN n 0 0 6=6:=by
 rcases h with rfl | rfl | rfl
 ·exact .inl rfl
 ·exact .inl rfl
 ·exact .inr rfl
theorem mL_p (k:Nat) (x:Nat→Nat) (c:Bool) (y:Nat→Nat) (t:Nat) (mk:Bool) (se nu ho:Nat):∀v,v∈mL k x c y t mk se nu ho→∀j,refsV j v:=fun v hv j=>by
 unfold mL at hv
 rcases List.mem_cons.1 hv with rfl | hv
 ·simp[refsV]
 rcases List.mem_append.1 hv with hv | hv
 ·exact sL_p _ _ v hv j
 rcases List.mem_append.1 hv with hv | hv
 ·exact rL_p _ v hv j
 simp only[List.mem_cons,List.not_mem_nil,or_false] at hv
 rcases hv with rfl | rfl | rfl | rfl | rfl<;>simp[refsV]
theorem mL_d (k:Nat) (x:Nat→Nat) (c:Bool) (y:Nat→Nat) (t:Nat) (mk:Bool) (se nu ho:Nat) (D:Nat→Prop):refsD D (.tuple [.agg (mL k x c y t mk se nu ho),.int .i64 (.ofNat 0)]):=by
 have h:refsDs D (mL k x c y t mk se nu ho):=by
  rw[refsDs_all]
  intro v hv
  unfold mL at hv
  rcases List.mem_cons.1 hv with rfl | hv
  ·simp[refsD]
  rcases List.mem_append.1 hv with hv | hv
  ·simp only[sL,List.mem_cons,List.not_mem_nil,or_false] at hv
   rcases hv with rfl | rfl | rfl | rfl | rfl | rfl | rfl<;>simp[refsD]
  rcases List.mem_append.1 hv with hv | hv
  ·simp only[rL,List.mem_cons,List.not_mem_nil,or_false] at hv
   rcases hv with rfl | rfl | rfl | rfl | rfl | rfl | rfl | rfl | rfl | rfl | rfl | rfl | rfl | rfl | rfl | rfl | rfl | rfl | rfl<;>simp[refsD]
  simp only[List.mem_cons,List.not_mem_nil,or_false] at hv
  rcases hv with rfl | rfl | rfl | rfl | rfl<;>simp[refsD]
 exact⟨h,trivial,trivial⟩
theorem shT:dropC 7 cTk=.seq (.seq (seqL (seqL (dropC 7 cTk))) (.block 0 (.loop LTk))) (dropC 8 cTk):=by kernel_rfl
theorem vcT0 (d k M:Nat) (S0:ASt) (Q:Exit×AFr×ASt→Prop):Q (.normal,fR d k M 0,S0)=((TM ETk noSum [] fl0 60).ex fl0 none (seqL (seqL (dropC 7 cTk))) (fP d k M) S0).allY (fun r=>Q (rawR [0,1,4,72] r)) .nil:=by kernel_rfl
section
variable {q q2:CallT} {H:List Nat→Nat→Nat} {X:List Nat→Nat} {S:ASt} {d k:Nat} {las:List (List Nat)} {es:List dsk.En}
theorem take_p (hS:Sums q H) (hX:Shorts q2 X) (hD:Dsk S d las es) (hn:las.length=9+k) (h1:1≤k) (h2:k≤64):Call1 Tryz.prog 15 [.ptr (some (d,0)),.int .i64 (.ofNat k)] S (takeV H X (nb las es) k,S):=by
 have hok53:=dskC_ok (fun S (hD:Dsk S d las es)=>check_ok hD hn h1 h2)
 have hok54:=dskC_ok (fun S (hD:Dsk S d las es)=>loadS_p hS hD (show 2≤las.length by omega))
 have hok55:=dskC_ok (fun S (hD:Dsk S d las es)=>tab_p hX hD (show 4≤las.length by omega) (by omega))
 have hok:=orC_ok (diskC_ok (d:=d) (las:=las) (es:=es)) (orC_ok hok53 (orC_ok hok54 (orC_ok hok55 (orC_ok (blkC_ok (mo_at hS)) (orC_ok (blkC_ok (lo_at hS)) (pureC_ok (fun S=>none_p S (mX H (nb las es 4)) k)))))))
 obtain⟨Q,hQ⟩:∃Q,Q=orC (diskC d las es) (orC (dskC d las es 53 [.ptr (some (d,0)),.int .i64 (.ofNat k)] (.int .i64 (.ofNat 0))) (orC (dskC d las es 54 [.ptr (some (d,0))] (.tuple [.agg (sL (LSx H (nb las es)) (LSc H (nb las es))),.int .i64 (.ofNat (LSe H (nb las es)))])) (orC (dskC d las es 55 [.ptr (some (d,0)),.int .i64 (.ofNat 2)] (.tuple [.agg (rL (LKx X (nb las es))),.int .u64 (.ofNat (LKq X (nb las es))),.int .i64 (.ofNat (LKe X (nb las es)))])) (orC (blkC 57 (outMo H)) (orC (blkC 59 (outLo H)) (pureC 58 [.int .u64 (.ofNat (mX H (nb las es 4))),.int .i64 (.ofNat k)] (.bool (beyS (mX H (nb las es 4)) k)))))))):=⟨_,rfl⟩
 rw[←hQ] at hok
 have c53:∀{l:List (Nat×AO)} (Y:ASt),Ov S Y l→Q 53 [.ptr (some (d,0)),.int .i64 (.ofNat k)] Y=some (.int .i64 (.ofNat 0),Y):=fun Y o=>by rw[hQ];exact orC_r (diskC_no (by decide) (by decide)) (orC_l (dskC_at (hD.over o)))
 have c54:∀{l:List (Nat×AO)} (Y:ASt),Ov S Y l→Q 54 [.ptr (some (d,0))] Y=some (.tuple [.agg (sL (LSx H (nb las es)) (LSc H (nb las es))),.int .i64 (.ofNat (LSe H (nb las es)))],Y):=fun Y o=>by rw[hQ];exact orC_r (diskC_no (by decide) (by decide)) (orC_r (dskC_no (by decide)) (orC_l (dskC_at (hD.over o))))
 have c55:∀{l:List (Nat×AO)} (Y:ASt),Ov S Y l→Q 55 [.ptr (some (d,0)),.int .i64 (.ofNat 2)] Y=some (.tuple [.agg (rL (LKx X (nb las es))),.int .u64 (.ofNat (LKq X (nb las es))),.int .i64 (.ofNat (LKe X (nb las es)))],Y):=fun Y o=>by rw[hQ];exact orC_r (diskC_no (by decide) (by decide)) (orC_r (dskC_no (by decide)) (orC_r (dskC_no (by decide)) (orC_l (dskC_at (hD.over o)))))
 have c56:∀i,i<9→∀{l:List (Nat×AO)} (Y:ASt),Ov S Y l→Q 56 [.ptr (some (d,0)),.int .i64 (.ofNat i)] Y=some (.tuple [.agg (bl (nb las es i)),.int .i64 (.ofNat 0)],Y):=fun i hi l Y o=>by rw[hQ];exact orC_l (diskC_r (hD.over o) (by omega))
 have c57:∀Y:ASt,Q 57 [.agg (bl (nb las es 4))] Y=some (outMo H (nb las es 4),Y):=fun Y=>by rw[hQ];exact orC_r (diskC_no (by decide) (by decide)) (orC_r (dskC_no (by decide)) (orC_r (dskC_no (by decide)) (orC_r (dskC_no (by decide)) (orC_l (blkC_at (hD.bk 4) Y)))))
 have c59:∀i,∀Y:ASt,Q 59 [.agg (bl (nb las es i))] Y=some (outLo H (nb las es i),Y):=fun i Y=>by rw[hQ];exact orC_r (diskC_no (by decide) (by decide)) (orC_r (dskC_no (by decide)) (orC_r (dskC_no (by decide)) (orC_r (dskC_no (by decide)) (orC_r (blkC_no (by decide)) (orC_l (blkC_at (hD.bk i) Y))))))
 have c58:∀Y:ASt,Q 58 [.int .u64 (.ofNat (mX H (nb las es 4))),.int .i64 (.ofNat k)] Y=some (.bool (beyS (mX H (nb las es 4)) k),Y):=fun Y=>by rw[hQ];exact orC_r (diskC_no (by decide) (by decide)) (orC_r (dskC_no (by decide)) (orC_r (dskC_no (by decide)) (orC_r (dskC_no (by decide)) (orC_r (blkC_no (by decide)) (orC_r (blkC_no (by decide)) (pureC_at ..))))))
 unfold takeV
 have e1:LSe H (nb las es)=0∨LSe H (nb las es)=6:=sel_cases (slotN_cases _ _ _)
 have e2:LKe X (nb las es)=0∨LKe X (nb las es)=6:=sel_cases (slotN_cases _ _ _)
 rcases e1 with e1 | e1
 ·rcases e2 with e2 | e2
  ·have hs:says H X (nb las es)=true:=decide_eq_true ⟨e1,e2⟩
   rw[hs,cond_true]
   rw[e1] at c54
   rw[e2] at c55
   unfold metaL
   refine Call1.tripDrop ETok (fn:=Tryz.f15) (c:=cTk) (by kernel_rfl) (by kernel_rfl) (by kernel_rfl) (N:=113) (by kernel_rfl) (tup_p (two_p (agg_p (fun v h=>mL_p _ _ _ _ _ _ _ _ _ v h _)) (int_p ..))) (mL_d ..) ?_
   refine takeP_g hok hD.tidy c53 c54 c55 (c56 4 (by omega)) c57 c58 (fun K Y o=>?_)
   rw[shT]
   refine Trip.seq (R:=fun r=>r.1=.normal∧r.2.1=fP d k K∧Ov S r.2.2 [(K,.cells (mL k (LSx H (nb las es)) (LSc H (nb las es)) (LKx X (nb las es)) (LKq X (nb las es)) (mkM H (nb las es) k) (seM H (nb las es) k) (hotF H (nb las es) 4).1 (hotF H (nb las es) 4).2) true)]) ?_ (fun F Z hr=>?_) (fun e F Z he hr=>absurd hr.1 he)
   ·refine Trip.seq (R:=fun r=>r=(.normal,fR d k K 0,Y)) (Trip.ofR ETok noSum_ok (kf:=[0,1,4,72]) (Q1:=fun r=>r=(.normal,fR d k K 0,Y)) (Eq.mp (vcT0 d k K Y (fun r=>r=(.normal,fR d k K 0,Y))) rfl) (fun e F Z h=>h)) (fun F Z hr=>?_) (fun e F Z he hr=>by cases hr;exact absurd rfl he)
    cases hr
    refine Trip.block (Trip.loop (fun m fr st=>∃i,i≤4∧m=4 - i∧fr=fR d k K i∧Ov S st [(K,.cells (mL k (LSx H (nb las es)) (LSc H (nb las es)) (LKx X (nb las es)) (LKq X (nb las es)) (mkM H (nb las es) k) (seM H (nb las es) k) (hotF H (nb las es) i).1 (hotF H (nb las es) i).2) true)]) ?_ 4 ⟨0,by omega,rfl,rfl,o⟩)
    rintro m fr st ⟨i,hi,rfl,rfl,oi⟩
    by_cases h:i<4
    ·refine (round_g hok oi (c56 (5+i) (by omega)) (c59 (5+i)) h).mono ?_
     rintro ⟨e,F,Z⟩ ⟨g1,g2,g3⟩
     simp only at g1 g2 g3
     subst g1
     exact⟨4 - (i+1),F,Z,by omega,Wk.refl _ _ _,i+1,h,rfl,g2,g3⟩
    ·have:i=4:=by omega
     subst this
     refine Trip.ofR ETok (onlyC_ok hok) (kf:=[0,1,4]) (Q1:=fun r=>r=(.exit 0,fP d k K,st)) (Eq.mp (vcRx Q d k 4 K 0 0 0 0 0 0 (fun _=>0) (fun _=>0) true true true true 0 [] st (fun r=>r=(.exit 0,fP d k K,st))) ⟨lssX (by omega),rfl⟩) (fun e F Z hq=>?_)
     cases hq
     exact⟨fun _=>⟨rfl,rfl,oi⟩,fun h=>absurd rfl h⟩
   ·obtain⟨_,g2,g3⟩:=hr
    simp only at g2 g3
    subst g2
    exact last_g g3
  ·have hs:says H X (nb las es)=false:=decide_eq_false (fun h=>by have:=h.2;omega)
   rw[hs,cond_false]
   rw[e1] at c54
   rw[e2] at c55
   exact takeK_g (ms:=0) (im:=true) (by_:=true) (B0:=[]) hok hD.tidy c53 c54 c55
 ·have hs:says H X (nb las es)=false:=decide_eq_false (fun h=>by have:=h.1;omega)
  rw[hs,cond_false]
  rw[e1] at c54
  exact takeS_g (ms:=0) (t:=0) (y:=fun _=>0) (im:=true) (by_:=true) (B0:=[]) hok hD.tidy c53 c54
end
end Go.Proofs.YtiafochainjglaaGreatDoor.drp
end
