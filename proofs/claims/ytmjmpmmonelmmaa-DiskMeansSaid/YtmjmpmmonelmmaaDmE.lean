/-
  OWN WORK, A PART: an abstract machine for the program's text that the kernel can run, and the proof that it is sound: what it answers is what the program answers; contracts of functions by it. No condition.
-/
import Derived.Test.YtmjmpmmonelmmaaDmD
section
open Go Go.Ax Go.Proofs
namespace Go.Proofs.Ytmjmpmmonelmmaa.dsk
set_option linter.unusedVariables false
section
variable {S : ASt} {x y : Operand} {a b : Int}
theorem gLss : still S (aBin EK .lss 3 x y (.int .i64 a) (.int .i64 b)) = some (.bool (decide (a < b)), S) := by
  have e : aBin EK .lss 3 x y (.int .i64 a) (.int .i64 b) = some (.bool (ltF a b)) := by kernel_rfl
  rw [ltF_eq] at e; exact still_of e
theorem gGtr : still S (aBin EK .gtr 3 x y (.int .i64 a) (.int .i64 b)) = some (.bool (decide (b < a)), S) := by
  have e : aBin EK .gtr 3 x y (.int .i64 a) (.int .i64 b) = some (.bool (ltF b a)) := by kernel_rfl
  rw [ltF_eq] at e; exact still_of e
theorem gLeq : still S (aBin EK .leq 3 x y (.int .i64 a) (.int .i64 b)) = some (.bool (!decide (b < a)), S) := by
  have e : aBin EK .leq 3 x y (.int .i64 a) (.int .i64 b) = some (.bool (!ltF b a)) := by kernel_rfl
  rw [ltF_eq] at e; exact still_of e
theorem gEql : still S (aBin EK .eql 3 x y (.int .i64 a) (.int .i64 b)) = some (.bool (a == b), S) := by
  have e : aBin EK .eql 3 x y (.int .i64 a) (.int .i64 b) = some (.bool (eqF a b)) := by kernel_rfl
  rw [eqF_eq] at e; exact still_of e
theorem gNeq : still S (aBin EK .neq 3 x y (.int .i64 a) (.int .i64 b)) = some (.bool (!(a == b)), S) := by
  have e : aBin EK .neq 3 x y (.int .i64 a) (.int .i64 b) = some (.bool (!eqF a b)) := by kernel_rfl
  rw [eqF_eq] at e; exact still_of e
theorem gInc {i : Nat} (h : i < 4611686018427387904) : still S (aBin EK .add 3 x y (.int .i64 (.ofNat i)) (.int .i64 (.ofNat 1))) = some (nI (i + 1), S) := by
  have e : aBin EK .add 3 x y (.int .i64 (.ofNat i)) (.int .i64 (.ofNat 1)) = some (.int .i64 (wrapF .i64 (.ofNat i + .ofNat 1))) := by kernel_rfl
  rw [wrap_succ h] at e
  exact still_of e
theorem gSub {i : Nat} (h : i < 4611686018427387904) : still S (aBin EK .sub 3 x y (.int .i64 (.ofNat (i + 1))) (.int .i64 (.ofNat 1))) = some (nI i, S) := by
  have e : aBin EK .sub 3 x y (.int .i64 (.ofNat (i + 1))) (.int .i64 (.ofNat 1)) = some (.int .i64 (wrapF .i64 (.ofNat (i + 1) - .ofNat 1))) := by kernel_rfl
  have : (Int.ofNat (i + 1) - Int.ofNat 1) = Int.ofNat i := by simp only [Int.ofNat_eq_natCast]; omega
  rw [this, wrap_nat (by omega)] at e
  exact still_of e
end
theorem refsV_u (n : Nat) : refsV 0 (cellU n) := by unfold cellU; simp [refsV]
theorem fill_at (f : Nat) (S : ASt) : Call1 Try.prog 13 [cellU f] S (.agg (bl (List.replicate 256 f)), S) := by
  have h : AtMem Try.prog 13 [cellU f] (mkSt [] 1) (.agg (bl (List.replicate 256 f))) := AtMem.of_fst EKok noSum_ok (n := 60) (by kernel_rfl)
  refine Call1.ro (os := [.dead]) h (by simp only [refsV]; intro c hc; unfold bl at hc; obtain ⟨y, _, rfl⟩ := List.mem_map.1 hc; exact refsV_u _) ⟨.pure (by simp [refsV, cellU]), trivial⟩ rfl fun j x hj => ?_
  have : (mkSt [] 1).h.get j = none := T.get_e j
  rw [this] at hj; cases hj
theorem dead_at {S : ASt} {d l m ck : Nat} {las : List (List Nat)} {es : List En} (hD : Disk S d l m las es ck) : Call1 Try.prog 17 [pO d] S (.bool false, S) :=
  Call1.of_tm EKok noSum_ok (Eq.mp (vcDe d l m las.length S (fun q => q = (.bool false, S))) ⟨ld_m hD.hd, ld_4 hD.hd, rfl⟩)
theorem write_no {S : ASt} {d l m ck : Nat} {las : List (List Nat)} {es : List En} {b : List Nat} {z : Int} (hD : Disk S d l m las es ck) (ht : Tidy S) (hz : z < 0 ∨ (las.length : Int) ≤ z) :
    ∃ S', Call1 Try.prog 19 [pO d, .int .i64 z, .agg (bl b)] S (nI 2, S') ∧ Tidy S' ∧ S.next ≤ S'.next ∧ ∀ k, k < S.next → S'.h.get k = S.h.get k := by
  obtain ⟨S1, e1⟩ : ∃ X, X = S.add (.cells (bl b) true) := ⟨_, rfl⟩
  have g1 : ∀ k, k < S.next → S1.h.get k = S.h.get k := fun k hk => by rw [e1, add_ne (by omega)]
  have D1 := hD.keep ht g1
  refine ⟨S1, ?_, by rw [e1]; exact ht.add, by rw [e1, add_next]; omega, g1⟩
  by_cases h : z < 0
  · exact Call1.of_tm EKok noSum_ok (Eq.mp (vcWx d l m las.length z b S S1 (fun q => q = (nI 2, S1))) ⟨by rw [e1]; rfl, ld_m D1.hd, by rw [lssI, ltF_eq]; simp [h], rfl⟩)
  · exact Call1.of_tm EKok noSum_ok (Eq.mp (vcWy d l m las.length z b S S1 (fun q => q = (nI 2, S1))) ⟨by rw [e1]; rfl, ld_m D1.hd, by rw [lssI, ltF_eq]; simp [h], ld_s D1.hd, by
      rw [geqI, ltF_eq, decide_eq_false (by simp only [Int.ofNat_eq_natCast]; omega)]; rfl, rfl⟩)
noncomputable def stepA (k z : Int) (f : Nat) (v : AV) : AV := .agg [.int .i64 k, .int .i64 z, cellU f, v]
theorem ce_u : cellT EK 5 = true := by kernel_rfl
theorem do_write {S : ASt} {d l m ck i f : Nat} {v : AV} {las : List (List Nat)} {es : List En} (hD : Disk S d l m las es ck) (ht : Tidy S) (hi : i < las.length) (hv : (vers es i).length < 1000000) :
    ∃ S' es' ck', Call1 Try.prog 12 [pO d, stepA 1 (.ofNat i) f v] S (nI 0, S') ∧ Disk S' d l m las es' ck' ∧ Tidy S' ∧ S.next ≤ S'.next ∧ (∀ k, k < S.next → k ≠ m → S'.h.get k = S.h.get k) ∧ (∀ j, vers es' j = if j = i then vers es i ++ [List.replicate 256 f] else vers es j) ∧ ∀ a, a ∈ es' → (∃ e, e ∈ es ∧ e.r = a.r) ∨ S.next ≤ a.r := by
  obtain ⟨S1, e1⟩ : ∃ X, X = S.add (.cells [.int .i64 1, .int .i64 (.ofNat i), cellU f, v] true) := ⟨_, rfl⟩
  have g1 : ∀ k, k < S.next → S1.h.get k = S.h.get k := fun k hk => by rw [e1, add_ne (by omega)]
  have a1 : S1.h.get S.next = some (.cells [.int .i64 1, .int .i64 (.ofNat i), cellU f, v] true) := by rw [e1]; exact add_at
  have t1 : Tidy S1 := by rw [e1]; exact ht.add
  have n1 : S1.next = S.next + 1 := by rw [e1, add_next]
  obtain ⟨R, eR⟩ : ∃ X, X = ASt.mk S1.h (S1.next + 9) := ⟨_, rfl⟩
  have tR : Tidy R := by rw [eR]; exact t1.mk (by omega)
  have nR : R.next = S.next + 10 := by rw [eR]; show S1.next + 9 = _; omega
  have gR : ∀ k, k < S.next → R.h.get k = S.h.get k := fun k hk => by rw [eR]; exact g1 k hk
  have aR : R.h.get S.next = some (.cells [.int .i64 1, .int .i64 (.ofNat i), cellU f, v] true) := by rw [eR]; exact a1
  have DR := hD.keep ht gR
  obtain ⟨S2, es', ck', hc, hD2, t2, n2, g2, hvs, hrs⟩ := write_at (b := List.replicate 256 f) DR tR hi hv
  refine ⟨S2, es', ck', ?_, hD2, t2, by omega, fun k hk hkm => by rw [g2 k (by omega) hkm, gR k hk], hvs, fun a ha => (hrs a ha).imp id fun h => by omega⟩
  refine Call1.of_tm EKok (sum := onlyC [13, 19, 20] (tabC [(13, [cellU f], R, (.agg (bl (List.replicate 256 f)), R)), (19, [pO d, nI i, .agg (bl (List.replicate 256 f))], R, (nI 0, S2))])) (onlyC_ok (tabC_ok fun w hw => by
    simp only [List.mem_cons, List.not_mem_nil, or_false] at hw
    rcases hw with rfl | rfl
    · exact fill_at f R
    · exact hc)) (Eq.mp (vcOa (tabC [(13, [cellU f], R, (.agg (bl (List.replicate 256 f)), R)), (19, [pO d, nI i, .agg (bl (List.replicate 256 f))], R, (nI 0, S2))]) d f 1 (.ofNat i) 0 v (List.replicate 256 f) S S1 S2 (fun q => q = (nI 0, S2))) ?_)
  rw [← eR]
  exact ⟨by rw [e1]; rfl, load_at ce_i a1 rfl, gEql, load_at ce_i aR rfl, load_at ce_u aR rfl, call_at (onlyC_at rfl (tabC_hd ..)), call_at (onlyC_at rfl (by rw [tabC_tlf rfl]; exact tabC_hd ..)), holds_cons (fstO_of (load_at ce_i aR rfl)) trivial, rfl⟩
theorem do_no {S : ASt} {d l m ck f : Nat} {z : Int} {v : AV} {las : List (List Nat)} {es : List En} (hD : Disk S d l m las es ck) (ht : Tidy S) (hz : z < 0 ∨ (las.length : Int) ≤ z) :
    ∃ S', Call1 Try.prog 12 [pO d, stepA 1 z f v] S (nI 2, S') ∧ Tidy S' ∧ S.next ≤ S'.next ∧ ∀ k, k < S.next → S'.h.get k = S.h.get k := by
  obtain ⟨S1, e1⟩ : ∃ X, X = S.add (.cells [.int .i64 1, .int .i64 z, cellU f, v] true) := ⟨_, rfl⟩
  have g1 : ∀ k, k < S.next → S1.h.get k = S.h.get k := fun k hk => by rw [e1, add_ne (by omega)]
  have a1 : S1.h.get S.next = some (.cells [.int .i64 1, .int .i64 z, cellU f, v] true) := by rw [e1]; exact add_at
  have t1 : Tidy S1 := by rw [e1]; exact ht.add
  have n1 : S1.next = S.next + 1 := by rw [e1, add_next]
  obtain ⟨R, eR⟩ : ∃ X, X = ASt.mk S1.h (S1.next + 9) := ⟨_, rfl⟩
  have tR : Tidy R := by rw [eR]; exact t1.mk (by omega)
  have nR : R.next = S.next + 10 := by rw [eR]; show S1.next + 9 = _; omega
  have gR : ∀ k, k < S.next → R.h.get k = S.h.get k := fun k hk => by rw [eR]; exact g1 k hk
  have aR : R.h.get S.next = some (.cells [.int .i64 1, .int .i64 z, cellU f, v] true) := by rw [eR]; exact a1
  have DR := hD.keep ht gR
  obtain ⟨S2, hc, t2, n2, g2⟩ := write_no (b := List.replicate 256 f) DR tR hz
  refine ⟨S2, ?_, t2, by omega, fun k hk => by rw [g2 k (by omega), gR k hk]⟩
  refine Call1.of_tm EKok (sum := onlyC [13, 19, 20] (tabC [(13, [cellU f], R, (.agg (bl (List.replicate 256 f)), R)), (19, [pO d, .int .i64 z, .agg (bl (List.replicate 256 f))], R, (nI 2, S2))])) (onlyC_ok (tabC_ok fun w hw => by
    simp only [List.mem_cons, List.not_mem_nil, or_false] at hw
    rcases hw with rfl | rfl
    · exact fill_at f R
    · exact hc)) (Eq.mp (vcOa (tabC [(13, [cellU f], R, (.agg (bl (List.replicate 256 f)), R)), (19, [pO d, .int .i64 z, .agg (bl (List.replicate 256 f))], R, (nI 2, S2))]) d f 1 z 2 v (List.replicate 256 f) S S1 S2 (fun q => q = (nI 2, S2))) ?_)
  rw [← eR]
  exact ⟨by rw [e1]; rfl, load_at ce_i a1 rfl, gEql, load_at ce_i aR rfl, load_at ce_u aR rfl, call_at (onlyC_at rfl (tabC_hd ..)), call_at (onlyC_at rfl (by rw [tabC_tlf rfl]; exact tabC_hd ..)), holds_cons (fstO_of (load_at ce_i aR rfl)) trivial, rfl⟩
theorem do_flush {S : ASt} {d l m ck f : Nat} {z : Int} {v : AV} {las : List (List Nat)} {es : List En} (hD : Disk S d l m las es ck) (ht : Tidy S) (hn : 0 < las.length) (hE : ∀ e, e ∈ es → e.vs.length < 1000000) :
    ∃ S', Call1 Try.prog 12 [pO d, stepA 2 z f v] S (nI 0, S') ∧ Disk S' d l m (flushed las es) [] ck ∧ Tidy S' ∧ S.next ≤ S'.next ∧ ∀ k, k < S.next → k ≠ l → k ≠ m → S'.h.get k = S.h.get k := by
  obtain ⟨S1, e1⟩ : ∃ X, X = S.add (.cells [.int .i64 2, .int .i64 z, cellU f, v] true) := ⟨_, rfl⟩
  have g1 : ∀ k, k < S.next → S1.h.get k = S.h.get k := fun k hk => by rw [e1, add_ne (by omega)]
  have a1 : S1.h.get S.next = some (.cells [.int .i64 2, .int .i64 z, cellU f, v] true) := by rw [e1]; exact add_at
  have t1 : Tidy S1 := by rw [e1]; exact ht.add
  have n1 : S1.next = S.next + 1 := by rw [e1, add_next]
  have D1 := hD.keep ht g1
  obtain ⟨S2, hc, D2, t2, n2, g2⟩ := flush_at D1 t1 hn hE
  refine ⟨S2, ?_, D2, t2, by omega, fun k hk h1 h2 => by rw [g2 k (by omega) h1 h2, g1 k hk]⟩
  refine Call1.of_tm EKok (sum := onlyC [13, 19, 20] (tabC [(20, [pO d], S1, (nI 0, S2))])) (onlyC_ok (tabC_ok fun w hw => by
    simp only [List.mem_cons, List.not_mem_nil, or_false] at hw
    subst hw
    exact hc)) (Eq.mp (vcOb (tabC [(20, [pO d], S1, (nI 0, S2))]) d f 2 z v S S1 S2 (fun q => q = (nI 0, S2))) ?_)
  exact ⟨by rw [e1]; rfl, load_at ce_i a1 rfl, gEql, gEql, call_at (onlyC_at rfl (tabC_hd ..)), rfl⟩
end Go.Proofs.Ytmjmpmmonelmmaa.dsk
end

section
open Go Go.Ax Go.Proofs
namespace Go.Proofs.Ytmjmpmmonelmmaa.dsk
set_option linter.unusedVariables false
noncomputable def fns9 : List (Nat × Func) := [(9, Try.f9), (11, Try.f11), (13, Try.f13), (14, Try.f14), (15, Try.f15), (16, Try.f16), (17, Try.f17), (18, Try.f18), (19, Try.f19), (20, Try.f20), (21, Try.f21), (22, Try.f22), (23, Try.f23), (24, Try.f24), (25, Try.f25), (26, Try.f26), (27, Try.f27), (52, Try.f52), (53, Try.f53), (54, Try.f54), (55, Try.f55), (56, Try.f56), (57, Try.f57), (58, Try.f58), (59, Try.f59), (60, Try.f60), (90, Try.f90), (91, Try.f91), (92, Try.f92), (117, Try.f117), (118, Try.f118), (119, Try.f119), (135, Try.f135), (136, Try.f136), (137, Try.f137), (138, Try.f138), (139, Try.f139), (140, Try.f140), (141, Try.f141), (142, Try.f142), (143, Try.f143), (144, Try.f144), (145, Try.f145), (157, Try.f157), (158, Try.f158), (159, Try.f159), (160, Try.f160), (161, Try.f161), (162, Try.f162), (164, Try.f164)]
theorem fns9ok : Go.Ax.AllFn Try.prog fns9 := ⟨⟨Try.func9, Try.call9⟩, ⟨Try.func11, Try.call11⟩, ⟨Try.func13, Try.call13⟩, ⟨Try.func14, Try.call14⟩, ⟨Try.func15, Try.call15⟩, ⟨Try.func16, Try.call16⟩, ⟨Try.func17, Try.call17⟩, ⟨Try.func18, Try.call18⟩, ⟨Try.func19, Try.call19⟩, ⟨Try.func20, Try.call20⟩, ⟨Try.func21, Try.call21⟩, ⟨Try.func22, Try.call22⟩, ⟨Try.func23, Try.call23⟩, ⟨Try.func24, Try.call24⟩, ⟨Try.func25, Try.call25⟩, ⟨Try.func26, Try.call26⟩, ⟨Try.func27, Try.call27⟩, ⟨Try.func52, Try.call52⟩, ⟨Try.func53, Try.call53⟩, ⟨Try.func54, Try.call54⟩, ⟨Try.func55, Try.call55⟩, ⟨Try.func56, Try.call56⟩, ⟨Try.func57, Try.call57⟩, ⟨Try.func58, Try.call58⟩, ⟨Try.func59, Try.call59⟩, ⟨Try.func60, Try.call60⟩, ⟨Try.func90, Try.call90⟩, ⟨Try.func91, Try.call91⟩, ⟨Try.func92, Try.call92⟩, ⟨Try.func117, Try.call117⟩, ⟨Try.func118, Try.call118⟩, ⟨Try.func119, Try.call119⟩, ⟨Try.func135, Try.call135⟩, ⟨Try.func136, Try.call136⟩, ⟨Try.func137, Try.call137⟩, ⟨Try.func138, Try.call138⟩, ⟨Try.func139, Try.call139⟩, ⟨Try.func140, Try.call140⟩, ⟨Try.func141, Try.call141⟩, ⟨Try.func142, Try.call142⟩, ⟨Try.func143, Try.call143⟩, ⟨Try.func144, Try.call144⟩, ⟨Try.func145, Try.call145⟩, ⟨Try.func157, Try.call157⟩, ⟨Try.func158, Try.call158⟩, ⟨Try.func159, Try.call159⟩, ⟨Try.func160, Try.call160⟩, ⟨Try.func161, Try.call161⟩, ⟨Try.func162, Try.call162⟩, ⟨Try.func164, Try.call164⟩, trivial⟩
noncomputable def E9 : Env := envOf Try.prog (List.range 229) fns9
theorem E9ok : Env.Ok Try.prog E9 := envOf_ok fns9ok (by kernel_rfl)
theorem known_at (S : ASt) : Call1 Try.prog 9 [] S (.bool true, S) := by
  have h : AtMem Try.prog 9 [] (mkSt [] 0) (.bool true) := AtMem.of_fst E9ok noSum_ok (n := 300) (by kernel_rfl)
  refine Call1.ro (os := []) h (by simp [refsV]) trivial rfl fun j x hj => ?_
  have : (mkSt [] 0).h.get j = none := T.get_e j
  rw [this] at hj; cases hj
structure Sp where
  k : Int
  z : Int
  f : Nat
  v : AV
  c : Nat
def spE (p : Sp) : List AV := [.int .i64 p.k, .int .i64 p.z, cellU p.f, p.v]
theorem spE_len (p : Sp) : (spE p).length = 4 := rfl
structure Steps (S : ASt) (St : AV) (si N : Nat) (ps : List Sp) : Prop where
  len : ∀ S, aBuiltinM EK .len [22] [St] S = some (nI N, S)
  idx : ∀ i, i < N → aIndexAddr EK 22 St (nI i) = some (.ptr (some (si, i * 4)))
  obj : 0 < N → S.h.get si = some (.cells (ps.flatMap spE) false)
  num : ps.length = min N 41
  pick : ∀ p, p ∈ ps → ∀ S, aBuiltinM EK .len [23] [p.v] S = some (nI p.c, S)
theorem ce_rI : cellT EK 23 = true := by kernel_rfl
section
variable {S : ASt} {St : AV} {si N : Nat} {ps : List Sp}
theorem Steps.cell (h : Steps S St si N ps) {i : Nat} {p : Sp} (hp : ps[i]? = some p) {r : Nat} {v : AV} (hr : (spE p)[r]? = some v) : ∃ cs, S.h.get si = some (.cells cs false) ∧ cs[i * 4 + r]? = some v := by
  have h1 := (List.getElem?_eq_some_iff.1 hp).1
  rw [h.num] at h1
  exact ⟨_, h.obj (by omega), fm_get spE_len hp hr⟩
theorem Steps.at (h : Steps S St si N ps) {i : Nat} (hi : i < N) (h2 : i ≤ 40) : ∃ p, ps[i]? = some p := ⟨ps[i]'(by rw [h.num]; omega), List.getElem?_eq_getElem _⟩
theorem Steps.ix (h : Steps S St si N ps) {i : Nat} (hi : i < N) (S' : ASt) : still S' (aIndexAddr EK 22 St (nI i)) = some (.ptr (some (si, i * 4)), S') := still_of (h.idx i hi)
theorem shM1 : dropC 0 cM = .seq XM (dropC 1 cM) := by kernel_rfl
theorem shM2 : XM = .seq (seqL XM) (.block 0 (.loop LM)) := by kernel_rfl
theorem much_at (h : Steps S St si N ps) : ∃ b, Call1 Try.prog 10 [St, nI 40] S (.bool b, S) ∧ (b = false → N ≤ 40) := by
  by_cases hx : ∃ p, p ∈ ps ∧ 1000 < p.c
  · refine ⟨true, Call2.up (S' := S) (v := .bool true) ?_ (Nat.le_refl _) (fun i a hi hd => .inl hi) (by simp [refsD]), fun h => by cases h⟩
    refine Call2.of_trip EKok (fn := Try.f10) (c := cM) (by kernel_rfl) (by kernel_rfl) (by kernel_rfl) ?_
    refine Trip.preR EKok noSum_ok (k := 0) (kf := [0, 1, 4]) (by kernel_rfl) (Q1 := fun q => q = (.normal, xFr [(0, St), (1, nI 40), (4, .bool false)] 28, S)) (Eq.mp (vcM1 St S (fun q => q = (.normal, xFr [(0, St), (1, nI 40), (4, .bool false)] 28, S))) rfl) ?_ (fun q h1 h2 => absurd (congrArg Prod.fst h2) h1)
    rintro F' S' hq
    cases hq
    rw [shM1]
    refine Trip.seq (R := fun r => r.1 = .ret ∧ leaveA EK Try.f10 r.2.1 r.2.2 = some (.bool true, S)) ?_ (fun fr' st' hq => by cases hq.1) (fun e fr' st' hne hq => ⟨.inr hq.1, hq.2⟩)
    rw [shM2]
    refine Trip.seq (R := Stops S.next .normal (frM 0 St) S) ((Trip.runY EKok noSum_ok (Eq.mp (vcM0 St S (fun r => r = (.normal, frM 0 St, S))) rfl)).mono fun r hr => Stops.rawE hr) (fun fr' st' hq => Trip.less hq.2 ?_) (fun e fr' st' hne hq => absurd hq.1 hne)
    refine Trip.block (Trip.loop (fun μ fr st => ∃ i, i ≤ N ∧ i ≤ 41 ∧ (∀ j p, j < i → ps[j]? = some p → p.c ≤ 1000) ∧ μ = N - i ∧ fr = frM i St ∧ st = S) ?_ (N - 0) ⟨0, Nat.zero_le _, by omega, (fun j p h => absurd h (Nat.not_lt_zero _)), rfl, rfl, rfl⟩)
    rintro μ F S' ⟨i, h1, h2, h3, rfl, rfl, rfl⟩
    obtain ⟨p0, hp0, hc0⟩ := hx
    obtain ⟨j0, hj0⟩ := List.getElem?_of_mem hp0
    have hij : i ≤ j0 := by
      rcases Nat.lt_or_ge j0 i with hlt | hge
      · have := h3 j0 p0 hlt hj0; omega
      · exact hge
    have hj1 : j0 < min N 41 := by rw [← h.num]; exact (List.getElem?_eq_some_iff.1 hj0).1
    obtain ⟨p, hp⟩ := h.at (i := i) (by omega) (by omega)
    obtain ⟨cs, hcs, hc3⟩ := h.cell hp (r := 3) rfl
    by_cases hpc : 1000 < p.c
    · refine (Trip.runY EKok noSum_ok (Eq.mp (vcMt i N si p.c p.v St S' (fun q => q = (.ret, some (.bool true, S')))) ⟨h.len S', by rw [gLss, decide_eq_true (by simp only [Int.ofNat_eq_natCast]; omega)], by rw [gLeq, decide_eq_false (by simp only [Int.ofNat_eq_natCast]; omega)]; rfl, h.ix (by omega) S', load_at ce_rI hcs hc3, h.pick p (List.mem_of_getElem? hp) S', by rw [gGtr, decide_eq_true (by simp only [Int.ofNat_eq_natCast]; omega)], rfl⟩)).mono ?_
      rintro ⟨e, F', S2⟩ hr
      have he : e = .ret := congrArg Prod.fst hr
      subst he
      exact ⟨rfl, congrArg Prod.snd hr⟩
    · refine (Trip.runY EKok noSum_ok (Eq.mp (vcMr i N si p.c p.v St S' (fun q => q = (.normal, frM (i + 1) St, S'))) ⟨h.len S', by rw [gLss, decide_eq_true (by simp only [Int.ofNat_eq_natCast]; omega)], by rw [gLeq, decide_eq_false (by simp only [Int.ofNat_eq_natCast]; omega)]; rfl, h.ix (by omega) S', load_at ce_rI hcs hc3, h.pick p (List.mem_of_getElem? hp) S', by rw [gGtr, decide_eq_false (by simp only [Int.ofNat_eq_natCast]; omega)], gInc (by omega), rfl⟩)).mono ?_
      intro r hr
      obtain ⟨e, F', S2⟩ := r
      obtain ⟨hr1, hr2⟩ := Stops.rawE (kb := S'.next) hr
      simp only at hr1
      subst hr1
      exact ⟨N - (i + 1), _, _, by omega, hr2, i + 1, by omega, by omega, (fun j q hj hq => by
        by_cases hji : j = i
        · subst hji
          rw [hp] at hq; cases hq; omega
        · exact h3 j q (by omega) hq), rfl, rfl, rfl⟩
  · have hle : ∀ p, p ∈ ps → p.c ≤ 1000 := fun p hp => by
      rcases Nat.lt_or_ge 1000 p.c with hh | hh
      · exact absurd ⟨p, hp, hh⟩ hx
      · exact hh
    refine ⟨decide (40 < N), Call2.up (S' := S) (v := .bool (decide (40 < N))) ?_ (Nat.le_refl _) (fun i a hi hd => .inl hi) (by simp [refsD]), fun h => by simpa using h⟩
    refine Call2.of_trip EKok (fn := Try.f10) (c := cM) (by kernel_rfl) (by kernel_rfl) (by kernel_rfl) ?_
    refine Trip.preR EKok noSum_ok (k := 0) (kf := [0, 1, 4]) (by kernel_rfl) (Q1 := fun q => q = (.normal, xFr [(0, St), (1, nI 40), (4, .bool false)] 28, S)) (Eq.mp (vcM1 St S (fun q => q = (.normal, xFr [(0, St), (1, nI 40), (4, .bool false)] 28, S))) rfl) ?_ (fun q h1 h2 => absurd (congrArg Prod.fst h2) h1)
    rintro F' S' hq
    cases hq
    rw [shM1]
    refine Trip.seq (R := Stops S.next .normal (xFr [(0, St), (1, nI 40), (4, .bool false)] 28) S) ?_ (fun fr' st' hq => ?_) (fun e fr' st' hne hq => absurd hq.1 hne)
    · rw [shM2]
      refine Trip.seq (R := Stops S.next .normal (frM 0 St) S) ((Trip.runY EKok noSum_ok (Eq.mp (vcM0 St S (fun r => r = (.normal, frM 0 St, S))) rfl)).mono fun r hr => Stops.rawE hr) (fun fr' st' hq => Trip.less hq.2 ?_) (fun e fr' st' hne hq => absurd hq.1 hne)
      refine Trip.block (Trip.loop (fun μ fr st => ∃ i, i ≤ N ∧ i ≤ 41 ∧ μ = N - i ∧ fr = frM i St ∧ st = S) ?_ (N - 0) ⟨0, Nat.zero_le _, by omega, rfl, rfl, rfl⟩)
      rintro μ F S' ⟨i, h1, h2, rfl, rfl, rfl⟩
      by_cases hN : i < N
      · by_cases h40 : i ≤ 40
        · obtain ⟨p, hp⟩ := h.at hN h40
          obtain ⟨cs, hcs, hc3⟩ := h.cell hp (r := 3) rfl
          have hpc := hle p (List.mem_of_getElem? hp)
          refine (Trip.runY EKok noSum_ok (Eq.mp (vcMr i N si p.c p.v St S' (fun q => q = (.normal, frM (i + 1) St, S'))) ⟨h.len S', by rw [gLss, decide_eq_true (by simp only [Int.ofNat_eq_natCast]; omega)], by rw [gLeq, decide_eq_false (by simp only [Int.ofNat_eq_natCast]; omega)]; rfl, h.ix hN S', load_at ce_rI hcs hc3, h.pick p (List.mem_of_getElem? hp) S', by rw [gGtr, decide_eq_false (by simp only [Int.ofNat_eq_natCast]; omega)], gInc (by omega), rfl⟩)).mono ?_
          intro r hr
          obtain ⟨e, F', S2⟩ := r
          obtain ⟨hr1, hr2⟩ := Stops.rawE (kb := S'.next) hr
          simp only at hr1
          subst hr1
          exact ⟨N - (i + 1), _, _, by omega, hr2, i + 1, by omega, by omega, rfl, rfl, rfl⟩
        · refine (Trip.runY EKok noSum_ok (Eq.mp (vcMy i N St S' (fun q => q = (.exit 0, xFr [(0, St), (1, nI 40), (4, .bool false)] 28, S'))) ⟨h.len S', by rw [gLss, decide_eq_true (by simp only [Int.ofNat_eq_natCast]; omega)], by rw [gLeq, decide_eq_true (by simp only [Int.ofNat_eq_natCast]; omega)]; rfl, rfl⟩)).mono ?_
          intro r hr
          obtain ⟨e, F', S2⟩ := r
          obtain ⟨hr1, hr2⟩ := Stops.rawE (kb := S'.next) hr
          simp only at hr1
          subst hr1
          exact ⟨fun _ => ⟨rfl, hr2⟩, fun h => absurd rfl h⟩
      · refine (Trip.runY EKok noSum_ok (Eq.mp (vcMx i N St S' (fun q => q = (.exit 0, xFr [(0, St), (1, nI 40), (4, .bool false)] 28, S'))) ⟨h.len S', by rw [gLss, decide_eq_false (by simp only [Int.ofNat_eq_natCast]; omega)], rfl⟩)).mono ?_
        intro r hr
        obtain ⟨e, F', S2⟩ := r
        obtain ⟨hr1, hr2⟩ := Stops.rawE (kb := S'.next) hr
        simp only at hr1
        subst hr1
        exact ⟨fun _ => ⟨rfl, hr2⟩, fun h => absurd rfl h⟩
    · refine Trip.less hq.2 ((Trip.runY EKok noSum_ok (Eq.mp (vcMz N (decide (40 < N)) St S (fun q => q = (.ret, some (.bool (decide (40 < N)), S)))) ⟨h.len S, by
        rw [gGtr]
        congr 3
        simp only [Int.ofNat_eq_natCast]
        by_cases hh : 40 < N
        · rw [decide_eq_true hh, decide_eq_true (by omega)]
        · rw [decide_eq_false hh, decide_eq_false (by omega)], rfl⟩)).mono fun r hr => ?_)
      exact ⟨.inr (congrArg Prod.fst hr), congrArg Prod.snd hr⟩
end
end Go.Proofs.Ytmjmpmmonelmmaa.dsk
end

section
open Go Go.Ax Go.Proofs
namespace Go.Proofs.Ytmjmpmmonelmmaa.dsk
set_option linter.unusedVariables false
structure My where
  r : Nat
  J : List (List Nat)
  bs : List (List Nat)
  c : Cap
def myV (q : My) : AV := .slice (some (q.r, q.J.length * 256)) q.bs.length q.c
def nilS : AV := .slice none 0 (.known 0)
def mayC (ms : List My) : List AV := ms.map myV ++ List.replicate (20 - ms.length) nilS
def capO (q : My) : Prop := q.c = .rest 256 ∨ q.c = .known 1 ∧ q.J = [] ∧ q.bs.length = 1
structure LI (S0 : ASt) (nb d l m ma n : Nat) (las : List (List Nat)) (es : List En) (ck : Nat) (bf : Nat → List (List Nat)) (ms : List My) (S : ASt) : Prop where
  dk : Disk S d l m las es ck
  ln : las.length = n
  tid : Tidy S
  hma : S.h.get ma = some (.cells (mayC ms) true)
  bs : ∀ (j : Nat) q, ms[j]? = some q → q.bs = bf j
  row : ∀ q, q ∈ ms → S.h.get q.r = some (.cells (rowB (q.J ++ q.bs)) true) ∧ capO q ∧ q.r ≠ l ∧ q.r ≠ ma ∧ q.r ≠ d ∧ nb ≤ q.r ∧ q.bs ≠ []
  rnd : (ms.map (·.r)).Nodup
  rer : ∀ e, e ∈ es → e.r ≠ ma ∧ ∀ q, q ∈ ms → e.r ≠ q.r
  mad : ma ≠ d ∧ ma ≠ l
  lo : nb ≤ d ∧ nb ≤ l ∧ nb ≤ m ∧ nb ≤ ma
  fr : ∀ k, k < nb → S.h.get k = S0.h.get k
theorem Disk.off {S S' : ASt} {d l m ck x : Nat} {las : List (List Nat)} {es : List En} (hD : Disk S d l m las es ck) (h : ∀ k, k < S.next → k ≠ x → S'.h.get k = S.h.get k) (ht : Tidy S) (h1 : x ≠ d) (h2 : x ≠ l) (h3 : x ≠ m) (h4 : ∀ e, e ∈ es → e.r ≠ x) : Disk S' d l m las es ck :=
  ⟨by rw [h _ (ht.lt hD.hd) (Ne.symm h1)]; exact hD.hd, by rw [h _ (ht.lt hD.hl) (Ne.symm h2)]; exact hD.hl, by rw [h _ (ht.lt hD.hm) (Ne.symm h3)]; exact hD.hm, fun e he => by
    obtain ⟨p1, p2⟩ := hD.row e he
    exact ⟨by rw [h _ (ht.lt p1) (h4 e he)]; exact p1, p2⟩, hD.keys, hD.borns, hD.most⟩
theorem split_ix {α : Type} {ms : List α} {w : Nat} (h : w < ms.length) : ∃ A q C, ms = A ++ q :: C ∧ A.length = w := ⟨ms.take w, ms[w], ms.drop (w + 1), by
  have := List.take_append_drop w ms
  rw [List.drop_eq_getElem_cons h] at this
  exact this.symm, by rw [List.length_take]; omega⟩
theorem get_mid {α : Type} {A C : List α} {q q' : α} {j : Nat} : (A ++ q' :: C)[j]? = if j = A.length then some q' else (A ++ q :: C)[j]? := by
  by_cases h : j < A.length
  · rw [if_neg (by omega), List.getElem?_append_left h, List.getElem?_append_left h]
  · rw [List.getElem?_append_right (by omega), List.getElem?_append_right (by omega)]
    by_cases e : j = A.length
    · rw [if_pos e, e, Nat.sub_self]; rfl
    · rw [if_neg e]
      obtain ⟨x, hx⟩ : ∃ x, j - A.length = x + 1 := ⟨j - A.length - 1, by omega⟩
      rw [hx, List.getElem?_cons_succ, List.getElem?_cons_succ]
theorem set_mid {α : Type} {x v : α} {C : List α} : ∀ A : List α, (A ++ x :: C).set A.length v = A ++ v :: C
  | [] => rfl
  | a :: A => by
    show a :: (A ++ x :: C).set A.length v = _
    rw [set_mid A]; rfl
theorem mayC_mid {A C : List My} {q : My} : mayC (A ++ q :: C) = A.map myV ++ myV q :: (C.map myV ++ List.replicate (20 - (A ++ q :: C).length) nilS) := by
  unfold mayC
  rw [List.map_append, List.map_cons, List.append_assoc, List.cons_append]
theorem mayC_set {A C : List My} {q q' : My} : (mayC (A ++ q :: C)).set A.length (myV q') = mayC (A ++ q' :: C) := by
  rw [mayC_mid, mayC_mid]
  have : A.length = (A.map myV).length := by simp
  rw [this, set_mid]
  simp
theorem mayC_add {A : List My} {q : My} (h : A.length < 20) : (mayC A).set A.length (myV q) = mayC (A ++ [q]) := by
  have h1 : List.replicate (20 - A.length) nilS = nilS :: List.replicate (20 - (A ++ [q]).length) nilS := by
    rw [show 20 - A.length = (20 - (A ++ [q]).length) + 1 by simp; omega]; rfl
  unfold mayC
  rw [h1]
  have : A.length = (A.map myV).length := by simp
  rw [this, set_mid]
  simp
theorem mayC_len {ms : List My} (h : ms.length ≤ 20) : (mayC ms).length = 20 := by unfold mayC; simp; omega
theorem mayC_get {A C : List My} {q : My} : (mayC (A ++ q :: C))[A.length]? = some (myV q) := by
  rw [mayC_mid, List.getElem?_append_right (by simp)]
  simp
theorem on_s : oneT EK 30 = true := by kernel_rfl
theorem ix_m {S : ASt} {ma k : Nat} (h : k < 20) : still S (aIndexAddr EK 31 (.ptr (some (ma, 0))) (nI k)) = some (.ptr (some (ma, k)), S) := by
  have e : aIndexAddr EK 31 (.ptr (some (ma, 0))) (nI k) = (bif Nat.blt k 20 then some (.ptr (some (ma, 0 + k * 1))) else none) := by kernel_rfl
  rw [blt_t h, cond_true, Nat.zero_add, Nat.mul_one] at e
  exact still_of e
theorem ld_my {S : ASt} {ma : Nat} {A C : List My} {q : My} (h : S.h.get ma = some (.cells (mayC (A ++ q :: C)) true)) : aLoad EK 30 (.ptr (some (ma, A.length))) S = some (myV q, S) := load_at ce_s h mayC_get
theorem st_my {S : ASt} {ma : Nat} {A C : List My} {q q' : My} (h : S.h.get ma = some (.cells (mayC (A ++ q :: C)) true)) (hl : (A ++ q :: C).length ≤ 20) : aStore EK 30 (.ptr (some (ma, A.length))) (myV q') S = some (S.put ma (.cells (mayC (A ++ q' :: C)) true)) := by
  rw [← mayC_set (q := q)]
  exact store_at on_s h (by rw [mayC_len hl]; simp at hl; omega) rfl
theorem st_add {S : ASt} {ma : Nat} {A : List My} {q' : My} (h : S.h.get ma = some (.cells (mayC A) true)) (hl : A.length < 20) : aStore EK 30 (.ptr (some (ma, A.length))) (myV q') S = some (S.put ma (.cells (mayC (A ++ [q'])) true)) := by
  rw [← mayC_add hl]
  exact store_at on_s h (by rw [mayC_len (by omega)]; exact hl) rfl
theorem len_my {S : ASt} {q : My} : aBuiltinM EK .len [30] [myV q] S = some (nI q.bs.length, S) := by kernel_rfl
theorem ix_my {S : ASt} {q : My} {j : Nat} (h : j < q.bs.length) : still S (aIndexAddr EK 30 (myV q) (nI j)) = some (.ptr (some (q.r, (q.J.length + j) * 256)), S) := by
  have := still_idx (st := S) (i := q.r) (o := q.J.length * 256) (c := q.c) (kd := .i64) sl_s h
  rw [← Nat.add_mul] at this
  exact this
theorem ld_mb {S : ASt} {q : My} {j : Nat} {b : List Nat} (h : S.h.get q.r = some (.cells (rowB (q.J ++ q.bs)) true)) (hj : q.bs[j]? = some b) : aLoad EK 33 (.ptr (some (q.r, (q.J.length + j) * 256))) S = some (.agg (bl b), S) :=
  ld_row h (by rw [List.getElem?_append_right (by omega), Nat.add_sub_cancel_left]; exact hj)
section
variable {S0 S S' : ASt} {nb d l m ma n ck : Nat} {las : List (List Nat)} {es : List En} {bf : Nat → List (List Nat)} {ms : List My}
theorem LI.keep (hI : LI S0 nb d l m ma n las es ck bf ms S) (h : ∀ k, k < S.next → S'.h.get k = S.h.get k) (ht : Tidy S') : LI S0 nb d l m ma n las es ck bf ms S' :=
  ⟨hI.dk.keep hI.tid h, hI.ln, ht, by rw [h _ (hI.tid.lt hI.hma)]; exact hI.hma, hI.bs, fun q hq => by
    obtain ⟨p1, p2⟩ := hI.row q hq
    exact ⟨by rw [h _ (hI.tid.lt p1)]; exact p1, p2⟩, hI.rnd, hI.rer, hI.mad, hI.lo, fun k hk => by
    have := hI.lo.1
    have := hI.tid.lt hI.dk.hd
    rw [h k (by omega)]; exact hI.fr k hk⟩
theorem LI.bfc (hI : LI S0 nb d l m ma n las es ck bf ms S) {bf' : Nat → List (List Nat)} (h : ∀ j, j < ms.length → bf j = bf' j) : LI S0 nb d l m ma n las es ck bf' ms S :=
  { hI with bs := fun j q hq => (hI.bs j q hq).trans (h j (List.getElem?_eq_some_iff.1 hq).1) }
theorem LI.disk {las' : List (List Nat)} {es' : List En} {ck' : Nat} (hI : LI S0 nb d l m ma n las es ck bf ms S) (hD : Disk S' d l m las' es' ck') (hl : las'.length = n) (ht : Tidy S') (h : ∀ k, k < S.next → k ≠ l → k ≠ m → S'.h.get k = S.h.get k)
    (hr : ∀ e, e ∈ es' → (∃ a, a ∈ es ∧ a.r = e.r) ∨ S.next ≤ e.r) : LI S0 nb d l m ma n las' es' ck' bf ms S' := by
  have hml : ma ≠ m := ne_get hI.hma hI.dk.hm (by simp)
  refine ⟨hD, hl, ht, by rw [h _ (hI.tid.lt hI.hma) hI.mad.2 hml]; exact hI.hma, hI.bs, fun q hq => ?_, hI.rnd, fun e he => ?_, hI.mad, hI.lo, fun k hk => ?_⟩
  · obtain ⟨p1, p2, p3, p4⟩ := hI.row q hq
    exact ⟨by rw [h _ (hI.tid.lt p1) p3 (ne_get p1 hI.dk.hm (by simp))]; exact p1, p2, p3, p4⟩
  · rcases hr e he with ⟨a, ha, e1⟩ | h1
    · rw [← e1]; exact hI.rer a ha
    · refine ⟨fun x => ?_, fun q hq x => ?_⟩
      · have := hI.tid.lt hI.hma
        omega
      · have := hI.tid.lt (hI.row q hq).1
        omega
  · have := hI.lo
    have := hI.tid.lt hI.dk.hd
    rw [h k (by omega) (by omega) (by omega)]; exact hI.fr k hk
theorem LI.new {A C : List My} {q q' : My} (hI : LI S0 nb d l m ma n las es ck bf (A ++ q :: C) S) (h : ∀ k, k < S.next → k ≠ q.r → k ≠ ma → S'.h.get k = S.h.get k) (ht : Tidy S') (hm : S'.h.get ma = some (.cells (mayC (A ++ q' :: C)) true))
    (hr : S'.h.get q'.r = some (.cells (rowB (q'.J ++ q'.bs)) true)) (hc : capO q') (hn : S.next ≤ q'.r ∨ q'.r = q.r) (h0 : q'.bs ≠ []) :
    LI S0 nb d l m ma n las es ck (fun j => if j = A.length then q'.bs else bf j) (A ++ q' :: C) S' := by
  obtain ⟨u1, u2, u3, u4, u5, u6, u7⟩ := hI.row q (by simp)
  have hqm : q.r ≠ m := ne_get u1 hI.dk.hm (by simp)
  have hqn := hI.tid.lt u1
  have hman := hI.tid.lt hI.hma
  have hml : ma ≠ m := ne_get hI.hma hI.dk.hm (by simp)
  have hdn := hI.tid.lt hI.dk.hd
  have hln := hI.tid.lt hI.dk.hl
  have hq' : q'.r ≠ l ∧ q'.r ≠ ma ∧ q'.r ≠ d ∧ nb ≤ q'.r := by
    rcases hn with h1 | h1
    · have := hI.lo
      exact ⟨by omega, by omega, by omega, by omega⟩
    · rw [h1]; exact ⟨u3, u4, u5, u6⟩
  have oth : ∀ a, a ∈ A ∨ a ∈ C → a ∈ A ++ q :: C ∧ a.r ≠ q.r ∧ a.r ≠ q'.r := fun a ha => by
    have hm' : a ∈ A ++ q :: C := by
      rcases ha with h | h
      · exact List.mem_append_left _ h
      · exact List.mem_append_right _ (List.mem_cons_of_mem _ h)
    have hne : a.r ≠ q.r := by
      have := hI.rnd
      rw [List.map_append, List.map_cons, List.nodup_append] at this
      rcases ha with h | h
      · exact this.2.2 a.r (List.mem_map_of_mem h) q.r List.mem_cons_self
      · intro x
        exact (List.nodup_cons.1 this.2.1).1 (by rw [← x]; exact List.mem_map_of_mem h)
    refine ⟨hm', hne, ?_⟩
    rcases hn with h1 | h1
    · have := hI.tid.lt (hI.row a hm').1
      omega
    · rw [h1]; exact hne
  have all : ∀ a, a ∈ A ++ q' :: C → a = q' ∨ (a ∈ A ∨ a ∈ C) := fun a ha => by
    rcases List.mem_append.1 ha with h | h
    · exact .inr (.inl h)
    · rcases List.mem_cons.1 h with h | h
      · exact .inl h
      · exact .inr (.inr h)
  have hD : Disk S' d l m las es ck := ⟨by rw [h _ hdn (Ne.symm u5) (Ne.symm hI.mad.1)]; exact hI.dk.hd, by rw [h _ hln (Ne.symm u3) (Ne.symm hI.mad.2)]; exact hI.dk.hl, by rw [h _ (hI.tid.lt hI.dk.hm) (Ne.symm hqm) (Ne.symm hml)]; exact hI.dk.hm, fun e he => by
    obtain ⟨p1, p2⟩ := hI.dk.row e he
    obtain ⟨r1, r2⟩ := hI.rer e he
    exact ⟨by rw [h _ (hI.tid.lt p1) (r2 q (by simp)) r1]; exact p1, p2⟩, hI.dk.keys, hI.dk.borns, hI.dk.most⟩
  refine ⟨hD, hI.ln, ht, hm, fun j a ha => ?_, fun a ha => ?_, ?_, fun e he => ⟨(hI.rer e he).1, fun a ha => ?_⟩, hI.mad, hI.lo, fun k hk => ?_⟩
  · rw [get_mid (q := q)] at ha
    by_cases hj : j = A.length
    · rw [if_pos hj] at ha
      cases ha
      show _ = if j = A.length then _ else _
      rw [if_pos hj]
    · rw [if_neg hj] at ha
      show _ = if j = A.length then _ else _
      rw [if_neg hj]
      exact hI.bs j a ha
  · rcases all a ha with rfl | h1
    · exact ⟨hr, hc, hq'.1, hq'.2.1, hq'.2.2.1, hq'.2.2.2, h0⟩
    · obtain ⟨k1, k2, k3⟩ := oth a h1
      obtain ⟨p1, p2, p3, p4, p5⟩ := hI.row a k1
      exact ⟨by rw [h _ (hI.tid.lt p1) k2 p4]; exact p1, p2, p3, p4, p5⟩
  · have := hI.rnd
    rw [List.map_append, List.map_cons, List.nodup_append, List.nodup_cons] at this ⊢
    refine ⟨this.1, ⟨fun hx => ?_, this.2.1.2⟩, fun x hx y hy => ?_⟩
    · obtain ⟨a, ha, e⟩ := List.mem_map.1 hx
      exact (oth a (.inr ha)).2.2 e
    · rcases List.mem_cons.1 hy with rfl | hy
      · obtain ⟨a, ha, rfl⟩ := List.mem_map.1 hx
        exact (oth a (.inl ha)).2.2
      · exact this.2.2 x hx y (List.mem_cons_of_mem _ hy)
  · rcases all a ha with rfl | h1
    · rcases hn with h2 | h2
      · have := hI.tid.lt (hI.dk.row e he).1
        omega
      · rw [h2]; exact (hI.rer e he).2 q (by simp)
    · exact (hI.rer e he).2 a (oth a h1).1
  · have := hI.lo
    rw [h k (by omega) (by omega) (by omega)]; exact hI.fr k hk
end
end Go.Proofs.Ytmjmpmmonelmmaa.dsk
end

section
open Go Go.Ax Go.Proofs
namespace Go.Proofs.Ytmjmpmmonelmmaa.dsk
set_option linter.unusedVariables false
theorem append_off {E : Env} {sT xT : TypeId} {z b n l i o : Nat} {x : AV} {st : ASt} {new cs old : List AV} (hT : appT E sT xT = some (z, b)) (hn : aLen x = some n) (hf : aFirst st z n x = some new) (hi : st.h.get i = some (.cells cs true)) (ho : takeL cs o (l * z) = some old)
    (hl : cs.length = o + l * z) (hz : 0 < z) (h0 : 0 < n) (hb : (2 * (l + n) + 200) * b ≤ 281474976710656) (hn2 : l + n < 4611686018427387904) :
    aBuiltinM E .append [sT, xT] [.slice (some (i, o)) l (.rest z), x] st = some (.slice (some (st.next, 0)) (l + n) (.rest z), (st.put i .dead).add (.cells (old ++ new) true)) := by
  obtain ⟨ei, rfl, rfl, h⟩ := append_red (s := .slice (some (i, o)) l (.rest z)) hT hn hf
  have h2 : inRoom st i (o + (l + n) * ei.size) ei.size = false := by
    unfold inRoom
    simp only [hi]
    rw [ble_f]
    · rfl
    · rw [hl]
      have : l * ei.size < (l + n) * ei.size := Nat.mul_lt_mul_of_pos_right (by omega) hz
      omega
  rw [h]
  simp only [aAppendTo, beq_f (show n ≠ 0 by omega), cond_false, Nat.beq_refl, cond_true, h2, ble_t hb, blt_t hn2, hi, ho]
theorem row_take {J bs : List (List Nat)} : takeL (rowB (J ++ bs)) (J.length * 256) (bs.length * 256) = some (rowB bs) := by
  have := fm_takeL (enc := bl) (l := J ++ bs) (a := J.length) (n := bs.length) bl_len (by simp)
  rw [List.drop_left, List.take_length] at this
  exact this
theorem row_len {J bs : List (List Nat)} : (rowB (J ++ bs)).length = J.length * 256 + bs.length * 256 := by rw [rowB_len, List.length_append, Nat.add_mul]
section
variable {S0 S S' : ASt} {nb d l m ma n ck : Nat} {las : List (List Nat)} {es : List En} {bf : Nat → List (List Nat)} {ms : List My}
theorem app_my {A C : List My} {q : My} (hI : LI S0 nb d l m ma n las es ck bf (A ++ q :: C) S) (hl : (A ++ q :: C).length ≤ 20) (hb : q.bs.length < 1000000) (B : List Nat) :
    ∃ V2 S3 S4, aBuiltinM EK .append [30, 30] [myV q, .slice (some (S.next + 18, 0)) 1 (.known 1)] (ASt.put (ASt.mk S.h (S.next + 22)) (S.next + 18) (.cells (bl B) true)) = some (V2, S3) ∧ (∀ k, k < S.next → k ≠ q.r → S3.h.get k = S.h.get k) ∧
      aStore EK 30 (.ptr (some (ma, A.length))) V2 S3 = some S4 ∧ (∀ k, k < nb → S4.h.get k = S.h.get k) ∧ ∃ q', LI S0 nb d l m ma n las es ck (fun j => if j = A.length then q.bs ++ [B] else bf j) (A ++ q' :: C) S4 := by
  obtain ⟨u1, u2, u3, u4, u5, u6, u7⟩ := hI.row q (by simp)
  have hqn := hI.tid.lt u1
  have hman := hI.tid.lt hI.hma
  obtain ⟨X, eX⟩ : ∃ X, X = ASt.put (ASt.mk S.h (S.next + 22)) (S.next + 18) (.cells (bl B) true) := ⟨_, rfl⟩
  have gX : ∀ k, k ≠ S.next + 18 → X.h.get k = S.h.get k := fun k hk => by rw [eX, put_ne hk]
  have aX : X.h.get (S.next + 18) = some (.cells (bl B) true) := by rw [eX]; exact put_at
  have nX : X.next = S.next + 22 := by rw [eX]; rfl
  have tX : Tidy X := by rw [eX]; exact (hI.tid.mk (by omega)).put (by show _ < S.next + 22; omega)
  have hf2 : aFirst X 256 1 (.slice (some (S.next + 18, 0)) 1 (.known 1)) = some (bl B) := first_at aX takeL_bl
  have hq : X.h.get q.r = some (.cells (rowB (q.J ++ q.bs)) true) := by rw [gX _ (by omega)]; exact u1
  rw [← eX]
  obtain ⟨q', eq'⟩ : ∃ q', q' = (⟨X.next, [], q.bs ++ [B], .rest 256⟩ : My) := ⟨_, rfl⟩
  have hV : AV.slice (some (X.next, 0)) (q.bs.length + 1) (.rest 256) = myV q' := by
    rw [eq']
    unfold myV
    simp
  have hrowE : rowB q.bs ++ bl B = rowB (q'.J ++ q'.bs) := by rw [eq']; show _ = rowB ([] ++ (q.bs ++ [B])); rw [List.nil_append, rowB_app, rowB_one]
  obtain ⟨S3, ap, g3, a3, t3⟩ : ∃ S3, aBuiltinM EK .append [30, 30] [myV q, .slice (some (S.next + 18, 0)) 1 (.known 1)] X = some (myV q', S3) ∧ (∀ k, k < S.next → k ≠ q.r → S3.h.get k = S.h.get k) ∧ S3.h.get q'.r = some (.cells (rowB (q'.J ++ q'.bs)) true) ∧ Tidy S3 := by
    rcases u2 with h | ⟨h1, h2, h3⟩
    · refine ⟨(X.put q.r .dead).add (.cells (rowB q.bs ++ bl B) true), ?_, fun k hk hkq => ?_, ?_, (tX.put (by omega)).add⟩
      · have := append_off (sT := 30) (xT := 30) (l := q.bs.length) (o := q.J.length * 256) ap_s (x := .slice (some (S.next + 18, 0)) 1 (.known 1)) rfl hf2 hq row_take row_len (by decide) (by decide) (by omega) (by omega)
        rw [hV] at this
        rw [← this]
        unfold myV
        rw [h]
      · rw [add_ne (S := X.put q.r .dead) (by rw [put_next]; omega), put_ne hkq, gX k (by omega)]
      · rw [eq']
        have := add_at (S := X.put q.r .dead) (a := .cells (rowB q.bs ++ bl B) true)
        rw [put_next] at this
        rw [this, hrowE, eq']
    · refine ⟨X.add (.cells (rowB q.bs ++ bl B) true), ?_, fun k hk hkq => ?_, ?_, tX.add⟩
      · have ho : aFirst X 256 1 (.slice (some (q.r, 0)) 1 (.known 1)) = some (rowB q.bs) := first_at hq (by
          have := row_take (J := q.J) (bs := q.bs)
          rw [h2, h3] at this
          rw [h2]
          simpa using this)
        have := append_full_at (sT := 30) (xT := 30) (l := 1) (o := 0) ap_s (x := .slice (some (S.next + 18, 0)) 1 (.known 1)) rfl hf2 ho (by decide) (by decide) (by decide)
        have hV' : AV.slice (some (X.next, 0)) (1 + 1) (.rest 256) = myV q' := by rw [← hV, h3]
        rw [hV'] at this
        rw [← this]
        unfold myV
        rw [h1, h2, h3]; rfl
      · rw [add_ne (by omega), gX k (by omega)]
      · rw [eq']
        have := add_at (S := X) (a := .cells (rowB q.bs ++ bl B) true)
        rw [this, hrowE, eq']
  have hma3 : S3.h.get ma = some (.cells (mayC (A ++ q :: C)) true) := by rw [g3 ma hman (Ne.symm u4)]; exact hI.hma
  have hq'n : S.next ≤ q'.r := by rw [eq']; show S.next ≤ X.next; omega
  have hq'b : q'.bs = q.bs ++ [B] := by rw [eq']
  refine ⟨myV q', S3, S3.put ma (.cells (mayC (A ++ q' :: C)) true), ap, g3, st_my hma3 hl, fun k hk => ?_, q', ?_⟩
  · have := hI.lo
    rw [put_ne (by omega), g3 k (by omega) (by omega)]
  · rw [← hq'b]
    refine hI.new (fun k hk h1 h2 => by rw [put_ne h2, g3 k hk h1]) (t3.put (t3.lt hma3)) put_at (by rw [put_ne (by omega)]; exact a3) (.inl (by rw [eq'])) (.inl hq'n) (by rw [hq'b]; simp)
theorem cut_my {q : My} {c1 : Nat} (hb : q.bs.length = c1 + 1) (hc : capO q) : still S (aSlice EK 30 (myV q) (some (nI c1)) none none S) = some (myV ⟨q.r, q.J ++ q.bs.take c1, q.bs.drop c1, q.c⟩, S) := by
  refine still_of ?_
  have hd : (q.bs.drop c1).length = 1 := by rw [List.length_drop]; omega
  have ht : (q.bs.take c1).length = c1 := by rw [List.length_take]; omega
  have hV : myV ⟨q.r, q.J ++ q.bs.take c1, q.bs.drop c1, q.c⟩ = .slice (some (q.r, q.J.length * 256 + c1 * 256)) 1 q.c := by
    unfold myV
    simp only [hd, List.length_append, ht, Nat.add_mul]
  rw [hV]
  unfold myV
  rcases hc with h | ⟨h1, h2, h3⟩
  · rw [h, hb]
    have e : aSlice EK 30 (.slice (some (q.r, q.J.length * 256)) (c1 + 1) (.rest 256)) (some (nI c1)) none none S = (match aBounds (c1 + 1) (aRoom S q.r (q.J.length * 256) 256 (c1 + 1)) (some c1) none none with
      | some (l, h, m) => bif Nat.blt l (aRoom S q.r (q.J.length * 256) 256 (c1 + 1)) then some (.slice (some (q.r, q.J.length * 256 + l * 256)) (h - l) (.rest 256)) else bif Nat.beq l 0 then some (.slice (some (q.r, q.J.length * 256)) 0 (.rest 256)) else some .slice0
      | none => none) := by kernel_rfl
    rw [e]
    have hr : c1 + 1 ≤ aRoom S q.r (q.J.length * 256) 256 (c1 + 1) := by
      unfold aRoom
      split
      · simp only [show Nat.beq 256 0 = false from rfl, cond_false]
        exact Nat.le_max_left _ _
      · exact Nat.le_refl _
    have hB : aBounds (c1 + 1) (aRoom S q.r (q.J.length * 256) 256 (c1 + 1)) (some c1) none none = some (c1, c1 + 1, aRoom S q.r (q.J.length * 256) 256 (c1 + 1)) := by
      unfold aBounds
      simp only [cond_true, ble_t (Nat.le_succ c1)]
    rw [hB]
    simp only [blt_t (show c1 < aRoom S q.r (q.J.length * 256) 256 (c1 + 1) by omega), cond_true]
    rw [show c1 + 1 - c1 = 1 by omega]
  · have hc0 : c1 = 0 := by omega
    subst hc0
    have e : aSlice EK 30 (.slice (some (q.r, 0)) 1 (.known 1)) (some (nI 0)) none none S = some (.slice (some (q.r, 0)) 1 (.known 1)) := by kernel_rfl
    rw [h1, h2, h3]
    exact e
theorem vers_ge {e : En} : ∀ {es : List En}, e ∈ es → e.vs.length ≤ (vers es e.k).length
  | a :: tl, he => by
    rw [vers_cons, List.length_append]
    rcases List.mem_cons.1 he with rfl | he
    · rw [if_pos rfl]; omega
    · have := vers_ge he
      omega
theorem curB_last {j : Nat} : (mayB las es j).drop (vers es j).length = [curB las es j] := by
  unfold mayB curB
  generalize las.getD j [] = a
  generalize vers es j = vs
  rcases List.eq_nil_or_concat vs with h | ⟨L, b, h⟩
  · rw [h]; rfl
  · rw [h]; simp
theorem roundA {St P : AV} (h20 : n ≤ 20) (hI : LI S0 nb d l m ma n las es ck (fun _ => [[]]) ms S) (hi : ms.length ≤ n) :
    Trip Try.prog nb none LA (frA d ma n ms.length St P) S fun r => (∃ ms' S', ms.length < n ∧ ms'.length = ms.length + 1 ∧ LI S0 nb d l m ma n las es ck (fun _ => [[]]) ms' S' ∧ Stops nb .normal (frA d ma n (ms.length + 1) St P) S' r) ∨ (ms.length = n ∧ Stops nb (.exit 0) (frA d ma n ms.length St P) S r) := by
  by_cases hlt : ms.length < n
  · obtain ⟨S1, e1⟩ : ∃ X, X = S.add (.cells (bl []) true) := ⟨_, rfl⟩
    have g1 : ∀ k, k < S.next → S1.h.get k = S.h.get k := fun k hk => by rw [e1, add_ne (by omega)]
    have a1 : S1.h.get S.next = some (.cells (bl []) true) := by rw [e1]; exact add_at
    have t1 : Tidy S1 := by rw [e1]; exact hI.tid.add
    have I1 := hI.keep g1 t1
    obtain ⟨q, eq⟩ : ∃ q, q = (⟨S.next, [], [[]], .known 1⟩ : My) := ⟨_, rfl⟩
    have hV : AV.slice (some (S.next, 0)) 1 (.known 1) = myV q := by rw [eq]; unfold myV; simp
    have hman := hI.tid.lt hI.hma
    have hdn := hI.tid.lt hI.dk.hd
    have hln := hI.tid.lt hI.dk.hl
    have hml : ma ≠ m := ne_get hI.hma hI.dk.hm (by simp)
    have st := st_add (q' := q) I1.hma (by omega)
    obtain ⟨S2, e2⟩ : ∃ X, X = S1.put ma (.cells (mayC (ms ++ [q])) true) := ⟨_, rfl⟩
    rw [← e2] at st
    have g2 : ∀ k, k ≠ ma → S2.h.get k = S1.h.get k := fun k hk => by rw [e2, put_ne hk]
    have hlo := hI.lo
    have I2 : LI S0 nb d l m ma n las es ck (fun _ => [[]]) (ms ++ [q]) S2 := by
      refine ⟨I1.dk.off (fun k _ hk => g2 k hk) t1 hI.mad.1 hI.mad.2 hml (fun e he => (hI.rer e he).1), hI.ln, by rw [e2]; exact t1.put (t1.lt I1.hma), by rw [e2]; exact put_at, fun j a ha => ?_, fun a ha => ?_, ?_, fun e he => ⟨(hI.rer e he).1, fun a ha => ?_⟩, hI.mad, hI.lo, fun k hk => by rw [g2 k (by omega)]; exact I1.fr k hk⟩
      · by_cases hj : j < ms.length
        · rw [List.getElem?_append_left hj] at ha; exact hI.bs j a ha
        · rw [List.getElem?_append_right (by omega)] at ha
          have := List.mem_of_getElem? ha
          simp at this
          rw [this, eq]
      · rcases List.mem_append.1 ha with h | h
        · obtain ⟨p1, p2, p3, p4, p5⟩ := I1.row a h
          exact ⟨by rw [g2 _ p4]; exact p1, p2, p3, p4, p5⟩
        · simp only [List.mem_cons, List.not_mem_nil, or_false] at h
          subst h
          rw [eq]
          exact ⟨by rw [g2 _ (by show S.next ≠ ma; omega)]; show S1.h.get S.next = some (.cells (rowB ([] ++ [[]])) true); rw [a1, List.nil_append, rowB_one], .inr ⟨rfl, rfl, rfl⟩, by show S.next ≠ l; omega, by show S.next ≠ ma; omega, by show S.next ≠ d; omega, by show nb ≤ S.next; omega, by simp⟩
      · rw [List.map_append, List.nodup_append]
        refine ⟨hI.rnd, by simp, fun x hx y hy => ?_⟩
        simp at hy
        obtain ⟨a, ha, rfl⟩ := List.mem_map.1 hx
        have := hI.tid.lt (hI.row a ha).1
        rw [hy, eq]
        show a.r ≠ S.next
        omega
      · rcases List.mem_append.1 ha with h | h
        · exact (hI.rer e he).2 a h
        · simp only [List.mem_cons, List.not_mem_nil, or_false] at h
          rw [h, eq]
          have := hI.tid.lt (hI.dk.row e he).1
          show e.r ≠ S.next
          omega
    refine (Trip.runY EKok noSum_ok (Eq.mp (vcAr n d ma ms.length St P S S2 (fun r => r = (.normal, frA d ma n (ms.length + 1) St P, S2))) ?_)).mono fun r hr => .inl ⟨ms ++ [q], S2, hlt, by simp, I2, Stops.rawE hr⟩
    rw [← e1, hV]
    exact ⟨by rw [gLss, decide_eq_true (by simp only [Int.ofNat_eq_natCast]; omega)], ix_m (by omega), okS_of st, gInc (by omega), rfl⟩
  · exact (Trip.runY EKok noSum_ok (Eq.mp (vcAx n d ma ms.length St P S (fun r => r = (.exit 0, frA d ma n ms.length St P, S))) ⟨by rw [gLss, decide_eq_false (by simp only [Int.ofNat_eq_natCast]; omega)], rfl⟩)).mono fun r hr => .inr ⟨by omega, Stops.rawE hr⟩
def bfK (las : List (List Nat)) (es : List En) (k j : Nat) : List (List Nat) := if j < k then [curB las es j] else mayB las es j
theorem roundK {St P : AV} {i k : Nat} {las' : List (List Nat)} (h20 : n ≤ 20) (hv : ∀ j, (vers es j).length < 1000000) (hI : LI S0 nb d l m ma n las' [] ck (bfK las es k) ms S) (hn : ms.length = n) (hk : k ≤ n) :
    Trip Try.prog nb none LK (frK d ma n i k St P) S fun r => (∃ ms' S', k < n ∧ ms'.length = n ∧ LI S0 nb d l m ma n las' [] ck (bfK las es (k + 1)) ms' S' ∧ Stops nb .normal (frK d ma n i (k + 1) St P) S' r) ∨ (k = n ∧ Stops nb (.exit 4) (frB d ma n i St P) S r) := by
  by_cases hlt : k < n
  · obtain ⟨A, q, C, rfl, hA⟩ := split_ix (ms := ms) (w := k) (by omega)
    subst hA
    obtain ⟨u1, u2, u3, u4, u5, u6, u7⟩ := hI.row q (by simp)
    have hqb : q.bs = mayB las es A.length := by
      have := hI.bs A.length q (by simp)
      rw [this]
      unfold bfK
      rw [if_neg (by omega)]
    have hql : q.bs.length = (vers es A.length).length + 1 := by rw [hqb]; rfl
    have hqd : q.bs.drop (vers es A.length).length = [curB las es A.length] := by rw [hqb]; exact curB_last
    obtain ⟨R, eR⟩ : ∃ X, X = ASt.mk S.h (S.next + 12) := ⟨_, rfl⟩
    have tR : Tidy R := by rw [eR]; exact hI.tid.mk (by omega)
    have IR : LI S0 nb d l m ma n las' [] ck (bfK las es A.length) (A ++ q :: C) R := hI.keep (fun k _ => by rw [eR]) tR
    have ct := cut_my (S := R) hql u2
    obtain ⟨q', eq'⟩ : ∃ q', q' = (⟨q.r, q.J ++ q.bs.take (vers es A.length).length, q.bs.drop (vers es A.length).length, q.c⟩ : My) := ⟨_, rfl⟩
    rw [← eq'] at ct
    have hq'b : q'.bs = [curB las es A.length] := by rw [eq']; exact hqd
    have st := st_my (q' := q') IR.hma (by omega)
    obtain ⟨S1, e1⟩ : ∃ X, X = R.put ma (.cells (mayC (A ++ q' :: C)) true) := ⟨_, rfl⟩
    rw [← e1] at st
    have g1 : ∀ k, k ≠ ma → S1.h.get k = R.h.get k := fun k hk => by rw [e1, put_ne hk]
    have I1 := IR.new (S' := S1) (q' := q') (fun k hk h1 h2 => g1 k h2) (by rw [e1]; exact tR.put (tR.lt IR.hma)) (by rw [e1]; exact put_at) (by
      have : q'.r = q.r := by rw [eq']
      rw [this, g1 _ u4, (IR.row q (by simp)).1, eq']
      show _ = some (AO.cells (rowB ((q.J ++ q.bs.take _) ++ q.bs.drop _)) true)
      rw [List.append_assoc, List.take_append_drop]) (by
      rcases u2 with h | ⟨h1, h2, h3⟩
      · exact .inl (by rw [eq']; exact h)
      · refine .inr ⟨by rw [eq']; exact h1, ?_, by rw [hq'b]; rfl⟩
        rw [eq']
        show q.J ++ q.bs.take _ = []
        rw [h2, show (vers es A.length).length = 0 by omega]; rfl) (.inr (by rw [eq'])) (by rw [hq'b]; simp)
    have I2 := I1.bfc (bf' := bfK las es (A.length + 1)) fun j hj => by
      show (if j = A.length then q'.bs else bfK las es A.length j) = _
      unfold bfK
      by_cases h : j = A.length
      · rw [if_pos h, if_pos (by omega), hq'b, h]
      · rw [if_neg h]
        by_cases h2 : j < A.length
        · rw [if_pos h2, if_pos (by omega)]
        · rw [if_neg h2, if_neg (by omega)]
    refine (Trip.runY EKok noSum_ok (Eq.mp (vcKr n d ma i A.length q.bs.length (vers es A.length).length (myV q) (myV q') St P S S1 (fun r => r = (.normal, frK d ma n i (A.length + 1) St P, S1))) ?_)).mono fun r hr => .inl ⟨A ++ q' :: C, S1, hlt, by simpa using hn, I2, Stops.rawE hr⟩
    rw [← eR]
    have := hv A.length
    exact ⟨by rw [gLss, decide_eq_true (by simp only [Int.ofNat_eq_natCast]; omega)], ix_m (by omega), ld_my IR.hma, ix_m (by omega), ld_my IR.hma, len_my, by rw [hql]; exact gSub (by omega), ct, ix_m (by omega), okS_of st, trivial, gInc (by omega), rfl⟩
  · exact (Trip.runY EKok noSum_ok (Eq.mp (vcKx n d ma i k St P S (fun r => r = (.exit 4, frB d ma n i St P, S))) ⟨by rw [gLss, decide_eq_false (by simp only [Int.ofNat_eq_natCast]; omega)], rfl⟩)).mono fun r hr => .inr ⟨by omega, Stops.rawE hr⟩
end
end Go.Proofs.Ytmjmpmmonelmmaa.dsk
end

section
open Go Go.Ax Go.Proofs
namespace Go.Proofs.Ytmjmpmmonelmmaa.dsk
set_option linter.unusedVariables false
theorem ag_st : aggT EK 35 = some 4 := by kernel_rfl
theorem ce_5 : cellT EK 5 = true := by kernel_rfl
theorem Steps.keep {S0 S : ASt} {St : AV} {si N nb : Nat} {ps : List Sp} (h : Steps S0 St si N ps) (hsi : 0 < N → si < nb) (hf : ∀ k, k < nb → S.h.get k = S0.h.get k) : Steps S St si N ps :=
  ⟨h.len, h.idx, fun h0 => by rw [hf si (hsi h0)]; exact h.obj h0, h.num, h.pick⟩
section
variable {S0 S : ASt} {nb d l m ma n si N : Nat} {ps : List Sp} {St P : AV}
theorem Steps.ldK (h : Steps S St si N ps) {i : Nat} {p : Sp} (hp : ps[i]? = some p) : aLoad EK 3 (.ptr (some (si, i * 4 + 0))) S = some (.int .i64 p.k, S) := by
  obtain ⟨cs, h1, h2⟩ := h.cell hp (r := 0) rfl
  exact load_at ce_i h1 h2
theorem Steps.ldZ (h : Steps S St si N ps) {i : Nat} {p : Sp} (hp : ps[i]? = some p) : aLoad EK 3 (.ptr (some (si, i * 4 + 1))) S = some (.int .i64 p.z, S) := by
  obtain ⟨cs, h1, h2⟩ := h.cell hp (r := 1) rfl
  exact load_at ce_i h1 h2
theorem Steps.ldF (h : Steps S St si N ps) {i : Nat} {p : Sp} (hp : ps[i]? = some p) : aLoad EK 5 (.ptr (some (si, i * 4 + 2))) S = some (cellU p.f, S) := by
  obtain ⟨cs, h1, h2⟩ := h.cell hp (r := 2) rfl
  exact load_at ce_5 h1 h2
theorem Steps.ldA (h : Steps S St si N ps) {i : Nat} {p : Sp} (hp : ps[i]? = some p) : aLoad EK 35 (.ptr (some (si, i * 4))) S = some (stepA p.k p.z p.f p.v, S) := by
  have h1 := (List.getElem?_eq_some_iff.1 hp).1
  rw [h.num] at h1
  exact load_agg ag_st (h.obj (by omega)) (fm_one spE_len hp)
theorem shB1 : LBb = .seq (seqL LBb) (.seq (.block 3 B3) (seqR (seqR LBb))) := by kernel_rfl
theorem shB2 : K3 = .seq (seqL K3) (.block 4 (.loop LK)) := by kernel_rfl
def BI (S0 : ASt) (nb d l m ma n i : Nat) (S : ASt) : Prop := ∃ las es ck ms, ms.length = n ∧ (∀ j, (vers es j).length ≤ i) ∧ LI S0 nb d l m ma n las es ck (mayB las es) ms S
theorem eqI1 {k : Int} (h : k = 1) : (k == 1) = true := by rw [h]; rfl
theorem stepB (hSt : Steps S0 St si N ps) (hsi : 0 < N → si < nb) (hN : N ≤ 40) (h1 : 1 ≤ n) (h20 : n ≤ 20) {i : Nat} (hB : BI S0 nb d l m ma n i S) (hlt : i < N) :
    Trip Try.prog nb none LBb (frB d ma n i St P) S fun r => ∃ S', BI S0 nb d l m ma n (i + 1) S' ∧ Stops nb .normal (frB d ma n (i + 1) St P) S' r := by
  obtain ⟨las, es, ck, ms, hms, hvl, hI⟩ := hB
  have hS := hSt.keep hsi hI.fr
  obtain ⟨p, hp⟩ := hS.at hlt (by omega)
  have tlt : still S (aBin EK BinOp.lss 3 (Operand.tmp 52) (Operand.tmp 54) (AV.int IntKind.i64 (Int.ofNat i)) (AV.int IntKind.i64 (Int.ofNat N))) = some (AV.bool true, S) := by rw [gLss, decide_eq_true (by simp only [Int.ofNat_eq_natCast]; omega)]
  have hdn := hI.tid.lt hI.dk.hd
  have hlo := hI.lo
  by_cases hk1 : p.k = 1
  · have neq1 : ∀ {S : ASt} {x y : Operand}, still S (aBin EK .neq 3 x y (.int .i64 p.k) (.int .i64 (.ofNat 1))) = some (.bool false, S) := fun {S x y} => by rw [gNeq, hk1]; rfl
    by_cases hz : p.z < 0 ∨ (las.length : Int) ≤ p.z
    · obtain ⟨S1, hc, t1, n1, g1⟩ := do_no (f := p.f) (v := p.v) hI.dk hI.tid hz
      rw [← hk1] at hc
      have I1 := hI.keep g1 t1
      exact (Trip.runY EKok (sum := onlyC [12, 13] (tabC [(12, [pO d, stepA p.k p.z p.f p.v], S, (nI 2, S1))])) (onlyC_ok (tabC_ok fun w hw => by
        simp only [List.mem_cons, List.not_mem_nil, or_false] at hw
        subst hw
        exact hc)) (Eq.mp (vcBn (tabC [(12, [pO d, stepA p.k p.z p.f p.v], S, (nI 2, S1))]) n d ma i N si p.f p.k p.z 2 p.v St P S S1 (fun r => r = (.normal, frB d ma n (i + 1) St P, S1)))
        ⟨hS.len S, tlt, hS.ix hlt S, hS.ldK hp, neq1, hS.ix hlt S, hS.ldA hp, call_at (onlyC_at rfl (tabC_hd ..)), gNeq, gInc (by omega), rfl⟩)).mono fun r hr => ⟨S1, ⟨las, es, ck, ms, hms, fun j => by have := hvl j; omega, I1⟩, Stops.rawE hr⟩
    · obtain ⟨w, hw⟩ : ∃ w : Nat, p.z = .ofNat w := ⟨p.z.toNat, by simp only [Int.ofNat_eq_natCast]; omega⟩
      have hwl : w < las.length := by rw [hw] at hz; simp only [Int.ofNat_eq_natCast] at hz; omega
      have hwn : w < n := by rw [← hI.ln]; exact hwl
      obtain ⟨S1, es1, ck1, hc, D1, t1, n1, g1, hv1, hr1⟩ := do_write (f := p.f) (v := p.v) hI.dk hI.tid hwl (by have := hvl w; omega)
      have I1 := hI.disk D1 hI.ln t1 (fun k hk _ hkm => g1 k hk hkm) (fun e he => (hr1 e he).imp (fun ⟨a, ha, e⟩ => ⟨a, ha, e⟩) id)
      have hS1 := hSt.keep hsi I1.fr
      obtain ⟨A, q, C, hmsE, hA⟩ := split_ix (ms := ms) (w := w) (by omega)
      subst hA
      subst hmsE
      have hqb : q.bs = mayB las es A.length := I1.bs A.length q (by simp)
      have hql : q.bs.length < 1000000 := by
        rw [hqb]
        have := hvl A.length
        show (vers es A.length).length + 1 < _
        omega
      obtain ⟨V2, S3, S4, ap, g3, st, g4, q', I4⟩ := app_my I1 (by omega) hql (List.replicate 256 p.f)
      obtain ⟨u1, u2, u3, u4, u5, u6, u7⟩ := I1.row q (by simp)
      obtain ⟨R, eR⟩ : ∃ X, X = ASt.mk S1.h (S1.next + 22) := ⟨_, rfl⟩
      have tR : Tidy R := by rw [eR]; exact t1.mk (by omega)
      have IR := I1.keep (S' := R) (fun k _ => by rw [eR]) tR
      have hSR := hSt.keep hsi IR.fr
      have hsn := hsi (by omega)
      have hdn1 := I1.tid.lt I1.dk.hd
      have hS3 : Steps S3 St si N ps := hSt.keep (nb := si + 1) (fun _ => Nat.lt_succ_self _) (fun k hk => by
        rw [g3 k (by omega) (by omega)]
        exact I1.fr k (by omega))
      have hcW : Call1 Try.prog 12 [pO d, stepA p.k (.ofNat A.length) p.f p.v] S (nI 0, S1) := by rw [hk1]; exact hc
      have I5 := I4.bfc (bf' := mayB las es1) fun j hj => by
        show (if j = A.length then _ else _) = _
        unfold mayB
        rw [hv1 j]
        by_cases hj : j = A.length
        · rw [if_pos hj, if_pos hj, hqb, hj]; rfl
        · rw [if_neg hj, if_neg hj]
      refine (Trip.runY EKok (sum := onlyC [12, 13] (tabC [(12, [pO d, stepA p.k (.ofNat A.length) p.f p.v], S, (nI 0, S1)), (13, [cellU p.f], R, (.agg (bl (List.replicate 256 p.f)), R))])) (onlyC_ok (tabC_ok fun w hw => by
        simp only [List.mem_cons, List.not_mem_nil, or_false] at hw
        rcases hw with rfl | rfl
        · exact hcW
        · exact fill_at p.f R)) (Eq.mp (vcBw (tabC [(12, [pO d, stepA p.k (.ofNat A.length) p.f p.v], S, (nI 0, S1)), (13, [cellU p.f], R, (.agg (bl (List.replicate 256 p.f)), R))]) n d ma i N si p.f A.length 0 p.k p.v (myV q) V2 V2 St P (List.replicate 256 p.f) S S1 S1 S3 S4 (fun r => r = (.normal, frB d ma n (i + 1) St P, S4))) ?_)).mono fun r hr => ⟨S4, ⟨las, es1, ck1, A ++ q' :: C, by simpa using hms, fun j => by
          rw [hv1 j]
          have := hvl j
          split
          · rename_i h
            rw [h] at this
            rw [List.length_append]
            show _ + 1 ≤ _
            omega
          · omega, I5⟩, Stops.rawE hr⟩
      rw [← eR]
      have lA : aLoad EK 35 (.ptr (some (si, i * 4))) S = some (stepA p.k (.ofNat A.length) p.f p.v, S) := by rw [← hw]; exact hS.ldA hp
      have lZ : aLoad EK 3 (.ptr (some (si, i * 4 + 1))) R = some (nI A.length, R) := by
        have := hSR.ldZ hp
        rw [hw] at this; exact this
      have lZ3 : aLoad EK 3 (.ptr (some (si, i * 4 + 1))) S3 = some (nI A.length, S3) := by
        have := hS3.ldZ hp
        rw [hw] at this; exact this
      exact ⟨hS.len S, tlt, hS.ix hlt S, hS.ldK hp, neq1, hS.ix hlt S, lA, call_at (onlyC_at rfl (tabC_hd ..)), gNeq, hS1.ix hlt S1, hS1.ldK hp, by rw [gEql, hk1]; rfl, hSR.ix hlt R, lZ, hSR.ix hlt R, lZ, ix_m (by omega), ld_my IR.hma, hSR.ix hlt R, hSR.ldF hp,
        call_at (onlyC_at rfl (by rw [tabC_tlf rfl]; exact tabC_hd ..)), by rw [eR]; exact ap, ix_m (by omega), okS_of st, ⟨⟨(by rw [eR]; exact t1 _ (Nat.le_add_right _ _)), trivial⟩, ⟨trivial, trivial⟩, ⟨trivial, trivial⟩, trivial⟩, holds_cons (fstO_of (lZ)) (holds_cons (fstO_of (lZ3)) (holds_cons (fstO_of (lZ)) (holds_cons (fstO_of (ld_my IR.hma)) trivial))), gInc (by omega), rfl⟩
  · have neq1 : ∀ {S : ASt} {x y : Operand}, still S (aBin EK .neq 3 x y (.int .i64 p.k) (.int .i64 (.ofNat 1))) = some (.bool true, S) := fun {S x y} => by
      rw [gNeq]
      have : (p.k == Int.ofNat 1) = false := by simpa using hk1
      rw [this]; rfl
    by_cases hk2 : p.k = 2
    · have neq2 : ∀ {S : ASt} {x y : Operand}, still S (aBin EK .neq 3 x y (.int .i64 p.k) (.int .i64 (.ofNat 2))) = some (.bool false, S) := fun {S x y} => by rw [gNeq, hk2]; rfl
      have eql1 : ∀ {S : ASt} {x y : Operand}, still S (aBin EK .eql 3 x y (.int .i64 p.k) (.int .i64 (.ofNat 1))) = some (.bool false, S) := fun {S x y} => by rw [gEql, hk2]; rfl
      have hE : ∀ e, e ∈ es → e.vs.length < 1000000 := fun e he => by
        have := vers_ge he
        have := hvl e.k
        omega
      obtain ⟨S1, hc, D1, t1, n1, g1⟩ := do_flush (f := p.f) (z := p.z) (v := p.v) hI.dk hI.tid (by rw [hI.ln]; omega) hE
      rw [← hk2] at hc
      have I1 := (hI.disk D1 (by rw [flushed_len]; exact hI.ln) t1 g1 (fun e he => by cases he)).bfc (bf' := bfK las es 0) fun j _ => by unfold bfK; rw [if_neg (Nat.not_lt_zero _)]
      have hS1 := hSt.keep hsi I1.fr
      rw [shB1]
      refine Trip.seq (R := Stops nb .normal (frB d ma n i St P) S) ((Trip.runY EKok noSum_ok (Eq.mp (vcBh n d ma i N St P S (fun r => r = (.normal, frB d ma n i St P, S))) ⟨hS.len S, tlt, rfl⟩)).mono fun r hr => Stops.rawE hr) (fun fr' st' hq => Trip.less hq.2 ?_) (fun e fr' st' hne hq => absurd hq.1 hne)
      refine Trip.seq (R := fun r => ∃ S5, BI S0 nb d l m ma n (i + 1) S5 ∧ Stops nb .normal (frB d ma n i St P) S5 r) (Trip.block ?_) ?_ (fun e fr' st' hne ⟨S5, _, hq⟩ => absurd hq.1 hne)
      · refine Trip.preR EKok (sum := onlyC [12, 13] (tabC [(12, [pO d, stepA p.k p.z p.f p.v], S, (nI 0, S1))])) (onlyC_ok (tabC_ok fun w hw => by
          simp only [List.mem_cons, List.not_mem_nil, or_false] at hw
          subst hw
          exact hc)) (k := 1) (kf := [0, 1, 2, 7, 9, 11]) (by kernel_rfl) (Q1 := fun q => q = (.normal, frB d ma n i St P, S1)) (Eq.mp (vcBf (tabC [(12, [pO d, stepA p.k p.z p.f p.v], S, (nI 0, S1))]) n d ma i si p.f p.k p.z p.v St P S S1 (fun q => q = (.normal, frB d ma n i St P, S1)))
          ⟨hS.ix hlt S, hS.ldK hp, neq1, hS.ix hlt S, hS.ldK hp, neq2, hS.ix hlt S, hS.ldA hp, call_at (onlyC_at rfl (tabC_hd ..)), gNeq, hS1.ix hlt S1, hS1.ldK hp, eql1, rfl⟩) ?_ (fun q h1 h2 => absurd (congrArg Prod.fst h2) h1)
        rintro F' S' hq
        cases hq
        show Trip _ _ _ K3 _ _ _
        rw [shB2]
        refine Trip.seq (R := Stops nb .normal (frK d ma n i 0 St P) S1) ((Trip.runY EKok noSum_ok (Eq.mp (vcK0 n d ma i St P S1 (fun r => r = (.normal, frK d ma n i 0 St P, S1))) rfl)).mono fun r hr => Stops.rawE hr) (fun fr' st' hq => Trip.less hq.2 ?_) (fun e fr' st' hne hq => absurd hq.1 hne)
        refine Trip.block (Trip.loop (fun μ fr st => ∃ k ms', k ≤ n ∧ ms'.length = n ∧ μ = n - k ∧ fr = frK d ma n i k St P ∧ LI S0 nb d l m ma n (flushed las es) [] ck (bfK las es k) ms' st) ?_ (n - 0) ⟨0, ms, Nat.zero_le _, hms, rfl, rfl, I1⟩)
        rintro μ F S' ⟨k, ms', h2, h3, rfl, rfl, h4⟩
        refine (roundK h20 (fun j => by have := hvl j; omega) h4 h3 h2).mono ?_
        rintro ⟨e, F', S2⟩ (⟨ms2, S3, k1, k2, k3, k4, k5⟩ | ⟨k1, k4, k5⟩)
        · simp only at k4
          subst k4
          exact ⟨n - (k + 1), _, _, by omega, k5, k + 1, ms2, by omega, k2, rfl, rfl, k3⟩
        · simp only at k4
          subst k4
          subst k1
          refine ⟨fun _ => ⟨S', ⟨flushed las es, [], ck, ms', h3, fun j => by rw [vers_nil (fun e he => by cases he)]; exact Nat.zero_le _, h4.bfc fun j hj => ?_⟩, rfl, k5⟩, fun h => absurd rfl h⟩
          have hjn : j < las.length := by rw [hI.ln]; omega
          unfold bfK mayB
          rw [if_pos (by omega), vers_nil (es := []) (fun e he => by cases he), flushed_get hjn]
      · rintro F' S' ⟨S5, hB5, hq⟩
        exact Trip.less hq.2 ((Trip.runY EKok noSum_ok (Eq.mp (vcBz n d ma i St P S5 (fun r => r = (.normal, frB d ma n (i + 1) St P, S5))) ⟨gInc (by omega), rfl⟩)).mono fun r hr => ⟨S5, hB5, Stops.rawE hr⟩)
    · exact (Trip.runY EKok noSum_ok (Eq.mp (vcBs n d ma i N si p.k St P S (fun r => r = (.normal, frB d ma n (i + 1) St P, S))) ⟨hS.len S, tlt, hS.ix hlt S, hS.ldK hp, neq1, hS.ix hlt S, hS.ldK hp, by
        rw [gNeq]
        have : (p.k == Int.ofNat 2) = false := by simpa using hk2
        rw [this]; rfl, gInc (by omega), rfl⟩)).mono fun r hr => ⟨S, ⟨las, es, ck, ms, hms, fun j => by have := hvl j; omega, hI⟩, Stops.rawE hr⟩
end
end Go.Proofs.Ytmjmpmmonelmmaa.dsk
end
