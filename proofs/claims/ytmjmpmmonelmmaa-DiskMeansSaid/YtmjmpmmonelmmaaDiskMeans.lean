/-
  PROVED HERE: 'Rows.DiskMeansSaid': for every number of blocks, every list of steps and every list of picks the call of the law's function returns true, and the steps and the picks read as they did. No condition. THE WALK is a run of the function's text in an abstract machine (the texts WaA to WaF show that it is sound), at any memory: the disk's functions by contracts (DmA to DmC), the law's loops by an invariant: what a block may be is what lasts and what was written into it since (DmD, DmE).
-/
import Derived.Test.YtmjmpmmonelmmaaDmE
import Derived.WalkKit
import Derived.ProofKit
import Derived.OpenShut
import Derived.ShutString
import Derived.ChangeOld
import Derived.ChangeSlices
import Derived.Below
import Derived.Deep.SlicePairs
import Derived.Deep.Grids
import Derived.WideKeyArgs
section
open Go Go.Ax Go.Proofs
namespace Go.Proofs.Ytmjmpmmonelmmaa.dsk
set_option linter.unusedVariables false
theorem aq_u {a b : Nat} : aEq0 (.int .u8) (cellU a) (cellU b) = some (eqF (.ofNat a) (.ofNat b)) := by kernel_rfl
theorem eqLs_some : ∀ (n : Nat) (xs ys : List Nat), xs.length = n → ys.length = n → ∃ b, eqLs (fun _ x y => aEq0 (.int .u8) x y) 5 n (xs.map cellU) (ys.map cellU) = some b
  | 0, _, _, _, _ => ⟨true, by unfold eqLs; rfl⟩
  | n + 1, x :: xs, y :: ys, h1, h2 => by
    show ∃ b, (match aEq0 (.int .u8) (cellU x) (cellU y) with | some true => eqLs _ 5 n (xs.map cellU) (ys.map cellU) | some false => some false | none => none) = some b
    rw [aq_u]
    cases eqF (.ofNat x) (.ofNat y)
    · exact ⟨_, rfl⟩
    · exact eqLs_some n xs ys (by simpa using h1) (by simpa using h2)
theorem eqLs_self : ∀ (n : Nat) (xs : List Nat), xs.length = n → eqLs (fun _ x y => aEq0 (.int .u8) x y) 5 n (xs.map cellU) (xs.map cellU) = some true
  | 0, _, _ => by unfold eqLs; rfl
  | n + 1, x :: xs, h1 => by
    show (match aEq0 (.int .u8) (cellU x) (cellU x) with | some true => eqLs _ 5 n (xs.map cellU) (xs.map cellU) | some false => some false | none => none) = some true
    rw [aq_u, eqF_eq]
    simp only [beq_self_eq_true]
    exact eqLs_self n xs (by simpa using h1)
theorem eqB0 (B B2 : List Nat) : aBin EK .eql 33 (.tmp 168) (.tmp 169) (.agg (bl B)) (.agg (bl B2)) = (match eqLs (fun _ x y => aEq0 (.int .u8) x y) 5 256 (bl B) (bl B2) with | some r => some (.bool r) | none => none) := by kernel_rfl
theorem bl_map (b : List Nat) : bl b = ((List.range 256).map fun i => b.getD i 0).map cellU := by unfold bl; rw [List.map_map]; rfl
theorem eqB (S : ASt) (B B2 : List Nat) : ∃ b, still S (aBin EK .eql 33 (.tmp 168) (.tmp 169) (.agg (bl B)) (.agg (bl B2))) = some (.bool b, S) ∧ (B = B2 → b = true) := by
  rw [eqB0, bl_map B, bl_map B2]
  obtain ⟨b, hb⟩ := eqLs_some 256 ((List.range 256).map fun i => B.getD i 0) ((List.range 256).map fun i => B2.getD i 0) (by simp) (by simp)
  refine ⟨b, by rw [hb]; exact still_of rfl, fun h => ?_⟩
  subst h
  rw [eqLs_self 256 _ (by simp)] at hb
  cases hb; rfl
theorem al_31 {S : ASt} : aAlloc EK 31 S = some (pO S.next, S.add (.cells (mayC []) true)) := by kernel_rfl
section
variable {S0 S : ASt} {nb d l m ma n ck : Nat} {las : List (List Nat)} {bf : Nat → List (List Nat)} {ms : List My}
theorem shD1 : LD = .seq (seqL LD) (.seq (.block 7 B7) (seqR (seqR LD))) := by kernel_rfl
theorem shD2 : dropC 2 B7 = .seq E7 (dropC 3 B7) := by kernel_rfl
theorem shD3 : E7 = .seq (seqL E7) (.block 8 (.loop LE)) := by kernel_rfl
theorem roundD (h20 : n ≤ 20) (hI : LI S0 nb d l m ma n las [] ck bf ms S) (hn : ms.length = n) (hb : ∀ j, j < n → las.getD j [] ∈ bf j) (hbl : ∀ j, j < n → (bf j).length < 1000000) {k : Nat} (hk : k ≤ n) :
    Trip Try.prog nb none LD (frD d ma n k) S fun r => (∃ S', k < n ∧ LI S0 nb d l m ma n las [] ck bf ms S' ∧ Stops nb .normal (frD d ma n (k + 1)) S' r) ∨ (k = n ∧ Stops nb (.exit 6) (frD d ma n k) S r) := by
  by_cases hlt : k < n
  · have hkl : k < las.length := by rw [hI.ln]; exact hlt
    obtain ⟨S1, hc, t1, n1, g1⟩ := read_at hI.dk hI.tid hkl (by rw [vers_nil (fun e he => by cases he)]; decide)
    have hcur : curB las [] k = las.getD k [] := curB_none fun e he => by cases he
    rw [hcur] at hc
    obtain ⟨b, eb⟩ : ∃ b, b = las.getD k [] := ⟨_, rfl⟩
    rw [← eb] at hc
    have I1 := hI.keep g1 t1
    obtain ⟨S2, e2⟩ : ∃ X, X = S1.add (.cells (bl []) true) := ⟨_, rfl⟩
    have al : aAlloc EK 33 S1 = some (pO S1.next, S2) := by rw [e2]; exact al_b
    obtain ⟨S3, e3⟩ : ∃ X, X = S2.put S1.next (.cells (bl b) true) := ⟨_, rfl⟩
    have st : aStore EK 33 (pO S1.next) (.agg (bl b)) S2 = some S3 := by rw [e3]; exact storeW_at sz_b (bl_len _) (bl_len []) (by rw [e2]; exact add_at)
    have a3 : S3.h.get S1.next = some (.cells (bl b) true) := by rw [e3]; exact put_at
    have g3 : ∀ j, j < S1.next → S3.h.get j = S1.h.get j := fun j hj => by rw [e3, put_ne (by omega), e2, add_ne (by omega)]
    have n2 : S2.next = S1.next + 1 := by rw [e2]; rfl
    have t3 : Tidy S3 := by rw [e3]; exact (by rw [e2]; exact t1.add : Tidy S2).put (by omega)
    have I3 := I1.keep g3 t3
    obtain ⟨A, q, C, hmsE, hA⟩ := split_ix (ms := ms) (w := k) (by omega)
    subst hA
    subst hmsE
    have hqb : q.bs = bf A.length := hI.bs A.length q (by simp)
    have hbq : b ∈ q.bs := by rw [hqb, eb]; exact hb _ hlt
    have hql : q.bs.length < 1000000 := by rw [hqb]; exact hbl _ hlt
    rw [shD1]
    refine Trip.seq (R := Stops nb .normal (frD d ma n A.length) S) ((Trip.runY EKok noSum_ok (Eq.mp (vcDh n d ma A.length S (fun r => r = (.normal, frD d ma n A.length, S))) ⟨by rw [gLss, decide_eq_true (by simp only [Int.ofNat_eq_natCast]; omega)], rfl⟩)).mono fun r hr => Stops.rawE hr) (fun fr' st' hq => Trip.less hq.2 ?_) (fun e fr' st' hne hq => absurd hq.1 hne)
    refine Trip.seq (R := fun r => ∃ S5, LI S0 nb d l m ma n las [] ck bf (A ++ q :: C) S5 ∧ Stops nb .normal (frD d ma n A.length) S5 r) (Trip.block ?_) ?_ (fun e fr' st' hne ⟨S5, _, hq⟩ => absurd hq.1 hne)
    · refine Trip.preR EKok (sum := onlyC [18] (tabC [(18, [pO d, nI A.length], S, (.tuple [.agg (bl b), nI 0], S1))])) (onlyC_ok (tabC_ok fun w hw => by
          simp only [List.mem_cons, List.not_mem_nil, or_false] at hw
          subst hw
          exact hc)) (k := 2) (kf := [0, 7, 9, 13, 14, 16, 17]) (by kernel_rfl) (Q1 := fun q => q = (.normal, frE d ma n A.length S1.next false, S3)) (Eq.mp (vcD7 (tabC [(18, [pO d, nI A.length], S, (.tuple [.agg (bl b), nI 0], S1))]) n d ma A.length S1.next b S S1 S2 S3 (fun q => q = (.normal, frE d ma n A.length S1.next false, S3)))
          ⟨call_at (onlyC_at rfl (tabC_hd ..)), al, okS_of st, rfl⟩) ?_ (fun q h1 h2 => absurd (congrArg Prod.fst h2) h1)
      rintro F' S' hq
      cases hq
      rw [shD2]
      refine Trip.seq (R := fun r => ∃ S5, LI S0 nb d l m ma n las [] ck bf (A ++ q :: C) S5 ∧ Stops nb .normal (frE d ma n A.length S1.next true) S5 r) ?_ ?_ (fun e fr' st' hne ⟨S5, _, hq⟩ => absurd hq.1 hne)
      · rw [shD3]
        refine Trip.seq (R := Stops nb .normal (frF2 d ma n A.length S1.next 0 false) S3) ((Trip.runY EKok noSum_ok (Eq.mp (vcQ0 n d ma A.length S1.next false S3 (fun r => r = (.normal, frF2 d ma n A.length S1.next 0 false, S3))) rfl)).mono fun r hr => Stops.rawE hr) (fun fr' st' hq => Trip.less hq.2 ?_) (fun e fr' st' hne hq => absurd hq.1 hne)
        refine Trip.block (Trip.loop (fun μ fr st => ∃ j a, j ≤ q.bs.length ∧ μ = q.bs.length - j ∧ fr = frF2 d ma n A.length S1.next j a ∧ (a = false → ∀ j', j' < j → q.bs[j']? ≠ some b) ∧ st.h.get S1.next = some (.cells (bl b) true) ∧ LI S0 nb d l m ma n las [] ck bf (A ++ q :: C) st) ?_ (q.bs.length - 0) ⟨0, false, Nat.zero_le _, rfl, rfl, (fun _ j' h => absurd h (Nat.not_lt_zero _)), a3, I3⟩)
        rintro μ F S' ⟨j, a, h1, rfl, rfl, h2, h3, h4⟩
        by_cases hj : j < q.bs.length
        · obtain ⟨R, eR⟩ : ∃ X, X = ASt.mk S'.h (S'.next + 12) := ⟨_, rfl⟩
          have tR : Tidy R := by rw [eR]; exact h4.tid.mk (by omega)
          have IR := h4.keep (S' := R) (fun k _ => by rw [eR]) tR
          have aR : R.h.get S1.next = some (.cells (bl b) true) := by rw [eR]; exact h3
          have tl : still S' (aBin EK BinOp.lss 3 (Operand.tmp 153) (Operand.tmp 157) (AV.int IntKind.i64 (Int.ofNat j)) (AV.int IntKind.i64 (Int.ofNat q.bs.length))) = some (AV.bool true, S') := by rw [gLss, decide_eq_true (by simp only [Int.ofNat_eq_natCast]; omega)]
          cases a with
          | true =>
            refine (Trip.runY EKok noSum_ok (Eq.mp (vcQt n d ma A.length S1.next j q.bs.length (myV q) S' (fun r => r = (.normal, frF2 d ma n A.length S1.next (j + 1) true, R))) ?_)).mono ?_
            · rw [← eR]
              exact ⟨ix_m (by omega), ld_my h4.hma, len_my, tl, gInc (by omega), rfl⟩
            · intro r hr
              obtain ⟨e, F', S2'⟩ := r
              obtain ⟨hr1, hr2⟩ := Stops.rawE (kb := nb) hr
              simp only at hr1
              subst hr1
              exact ⟨q.bs.length - (j + 1), _, _, by omega, hr2, j + 1, true, by omega, rfl, rfl, (fun h => by cases h), aR, IR⟩
          | false =>
            obtain ⟨B, hB⟩ : ∃ B, q.bs[j]? = some B := ⟨q.bs[j], List.getElem?_eq_getElem hj⟩
            obtain ⟨b', hb', hbe⟩ := eqB R B b
            refine (Trip.runY EKok noSum_ok (Eq.mp (vcQf n d ma A.length S1.next j q.bs.length q.r ((q.J.length + j) * 256) b' (myV q) B b S' (fun r => r = (.normal, frF2 d ma n A.length S1.next (j + 1) b', R))) ?_)).mono ?_
            · rw [← eR]
              exact ⟨ix_m (by omega), ld_my h4.hma, len_my, tl, ix_m (by omega), ld_my IR.hma, ix_my hj, ld_mb (IR.row q (by simp)).1 hB, ld_blk aR, hb', gInc (by omega), rfl⟩
            · intro r hr
              obtain ⟨e, F', S2'⟩ := r
              obtain ⟨hr1, hr2⟩ := Stops.rawE (kb := nb) hr
              simp only at hr1
              subst hr1
              refine ⟨q.bs.length - (j + 1), _, _, by omega, hr2, j + 1, b', by omega, rfl, rfl, (fun h j' hj' hx => ?_), aR, IR⟩
              by_cases hjj : j' = j
              · subst hjj
                rw [hB] at hx
                rw [hbe (Option.some.inj hx)] at h
                cases h
              · exact h2 rfl j' (by omega) hx
        · have ha : a = true := by
            cases a with
            | true => rfl
            | false =>
              obtain ⟨j', hj'⟩ := List.getElem?_of_mem hbq
              have := (List.getElem?_eq_some_iff.1 hj').1
              exact absurd hj' (h2 rfl j' (by omega))
          subst ha
          refine (Trip.runY EKok noSum_ok (Eq.mp (vcQx n d ma A.length S1.next j q.bs.length true (myV q) S' (fun r => r = (.exit 8, frE d ma n A.length S1.next true, S'))) ⟨ix_m (by omega), ld_my h4.hma, len_my, by rw [gLss, decide_eq_false (by simp only [Int.ofNat_eq_natCast]; omega)], rfl⟩)).mono ?_
          intro r hr
          obtain ⟨e, F', S2'⟩ := r
          obtain ⟨hr1, hr2⟩ := Stops.rawE (kb := nb) hr
          simp only at hr1
          subst hr1
          exact ⟨fun _ => ⟨S', h4, rfl, hr2⟩, fun h => absurd rfl h⟩
      · rintro F' S' ⟨S5, h5, hq⟩
        exact Trip.less hq.2 ((Trip.runY EKok noSum_ok (Eq.mp (vcDe2 n d ma A.length S1.next S5 (fun r => r = (.normal, frD d ma n A.length, S5))) rfl)).mono fun r hr => by
          obtain ⟨e, F2, S2'⟩ := r
          obtain ⟨hr1, hr2⟩ := Stops.rawE (kb := nb) hr
          simp only at hr1
          subst hr1
          exact ⟨S5, h5, rfl, hr2⟩)
    · rintro F' S' ⟨S5, h5, hq⟩
      exact Trip.less hq.2 ((Trip.runY EKok noSum_ok (Eq.mp (vcDz n d ma A.length S5 (fun r => r = (.normal, frD d ma n (A.length + 1), S5))) ⟨gInc (by omega), rfl⟩)).mono fun r hr => .inl ⟨S5, hlt, h5, Stops.rawE hr⟩)
  · exact (Trip.runY EKok noSum_ok (Eq.mp (vcDx n d ma k S (fun r => r = (.exit 6, frD d ma n k, S))) ⟨by rw [gLss, decide_eq_false (by simp only [Int.ofNat_eq_natCast]; omega)], rfl⟩)).mono fun r hr => .inr ⟨by omega, Stops.rawE hr⟩
end
end Go.Proofs.Ytmjmpmmonelmmaa.dsk
end

section
open Go Go.Ax Go.Proofs
namespace Go.Proofs.Ytmjmpmmonelmmaa.dsk
set_option linter.unusedVariables false
open Classical in
theorem crashed_mem {las : List (List Nat)} {es : List En} {zs : List Int} {j : Nat} (hj : j < las.length) : (crashed las es zs).getD j [] ∈ mayB las es j := by
  rw [crashed_get hj]
  split
  · unfold crB
    have h := pkF_lt (zs := zs) (c := (mayB las es j).length) (q := (openK es).idxOf j) (by unfold mayB; simp)
    rw [List.getD_eq_getElem?_getD, List.getElem?_eq_getElem h]
    exact List.getElem_mem h
  · exact List.mem_cons_self
theorem shL1 : dropC 2 (dropC 2 cL) = .seq P6 (.seq P7 (.seq P8 (.seq P9 (dropC 9 cL)))) := by kernel_rfl
theorem shL6 : P6 = .seq (seqL P6) (.block 0 (.loop LA)) := by kernel_rfl
theorem shL7 : P7 = .seq (seqL P7) (.block 2 (.loop LBb)) := by kernel_rfl
theorem shL9 : P9 = .seq (seqL P9) (.block 6 (.loop LD)) := by kernel_rfl
theorem canA {d ma n i : Nat} {St P : AV} : canF [0, 1, 2, 7, 9] (frA d ma n i St P) = frG d ma n St P := by kernel_rfl
theorem canB {d ma n i : Nat} {St P : AV} : canF [0, 1, 2, 7, 9] (frB d ma n i St P) = frG d ma n St P := by kernel_rfl
theorem canD {d ma n i : Nat} : canF [0, 7, 9] (frD d ma n i) = xFr [(0, nI n), (7, pO d), (9, pO ma)] 189 := by kernel_rfl
section
variable {S : ASt} {si N pi : Nat} {ps : List Sp} {zs : List Int} {St P : AV} {o : AO}
theorem law_run (ht : Tidy S) (hSt : Steps S St si N ps) (hsi : 0 < N → si < S.next) (hP : SlArg EK 23 1 pi zs.length P o (zs.map (AV.int .i64 ·))) (hpo : 0 < zs.length → S.h.get pi = some o ∧ pi < S.next) (z : Int) :
    AtMem Try.prog 3 [.int .i64 z, St, P] S (.bool true) := by
  obtain ⟨b, hM, hbN⟩ := much_at hSt
  have hq : CallsOK Try.prog (onlyC [9, 10] (tabC [(9, [], S, (.bool true, S)), (10, [St, nI 40], S, (.bool b, S))])) := onlyC_ok (tabC_ok fun w hw => by
    simp only [List.mem_cons, List.not_mem_nil, or_false] at hw
    rcases hw with rfl | rfl
    · exact known_at S
    · exact hM)
  have c9 : ∀ {n : Nat}, (M EK (drawA EK) (onlyC [9, 10] (tabC [(9, [], S, (.bool true, S)), (10, [St, nI 40], S, (.bool b, S))])) (n + 1)).call 9 [] S = some (.bool true, S) := fun {n} => call_at (onlyC_at rfl (tabC_hd ..))
  have c10 : ∀ {n : Nat}, (M EK (drawA EK) (onlyC [9, 10] (tabC [(9, [], S, (.bool true, S)), (10, [St, nI 40], S, (.bool b, S))])) (n + 1)).call 10 [St, nI 40] S = some (.bool b, S) := fun {n} => call_at (onlyC_at rfl (by rw [tabC_tlf rfl]; exact tabC_hd ..))
  by_cases h1 : z < 1
  · exact AtMem.of_tm EKok hq (Eq.mp (vcE1 _ z St P S (fun r => r.1 = .bool true)) ⟨c9, by rw [gLss, decide_eq_true (by simp only [Int.ofNat_eq_natCast]; omega)], rfl⟩)
  have t1 : ∀ {x y : Operand}, still S (aBin EK .lss 3 x y (.int .i64 z) (.int .i64 (.ofNat 1))) = some (.bool false, S) := fun {x y} => by rw [gLss, decide_eq_false (by simp only [Int.ofNat_eq_natCast]; omega)]
  by_cases h2 : 20 < z
  · exact AtMem.of_tm EKok hq (Eq.mp (vcE2 _ z St P S (fun r => r.1 = .bool true)) ⟨c9, t1, by rw [gGtr, decide_eq_true (by simp only [Int.ofNat_eq_natCast]; omega)], rfl⟩)
  have t2 : ∀ {x y : Operand}, still S (aBin EK .gtr 3 x y (.int .i64 z) (.int .i64 (.ofNat 20))) = some (.bool false, S) := fun {x y} => by rw [gGtr, decide_eq_false (by simp only [Int.ofNat_eq_natCast]; omega)]
  cases b with
  | true => exact AtMem.of_tm EKok hq (Eq.mp (vcE3 _ z St P S (fun r => r.1 = .bool true)) ⟨c9, t1, t2, c10, rfl⟩)
  | false =>
  have hN := hbN rfl
  by_cases h3 : 1000 < zs.length
  · exact AtMem.of_tm EKok hq (Eq.mp (vcE4 _ z zs.length St P S (fun r => r.1 = .bool true)) ⟨c9, t1, t2, c10, hP.len S, by rw [gGtr, decide_eq_true (by simp only [Int.ofNat_eq_natCast]; omega)], rfl⟩)
  obtain ⟨n, rfl⟩ : ∃ n : Nat, z = .ofNat n := ⟨z.toNat, by simp only [Int.ofNat_eq_natCast]; omega⟩
  have hn1 : 1 ≤ n := by simp only [Int.ofNat_eq_natCast] at h1; omega
  have hn20 : n ≤ 20 := by simp only [Int.ofNat_eq_natCast] at h2; omega
  refine AtMem.of_trip EKok (fn := Try.f3) (c := cL) (by kernel_rfl) (by kernel_rfl) (by kernel_rfl) ?_
  refine Trip.preR EKok hq (k := 2) (kf := [0, 1, 2]) (by kernel_rfl) (Q1 := fun q => q = (.normal, frL n St P, S)) (Eq.mp (vcE5 _ n zs.length St P S (fun q => q = (.normal, frL n St P, S))) ⟨c9, t1, t2, c10, hP.len S, by rw [gGtr, decide_eq_false (by simp only [Int.ofNat_eq_natCast]; omega)], rfl⟩) ?_ (fun q h1 h2 => absurd (congrArg Prod.fst h2) h1)
  rintro F' S' hq1
  cases hq1
  obtain ⟨S1, d, l, m, hc, D1, t1', n1, hd, hl, hm, g1⟩ := new_at ht hn1 (show n ≤ 1000 by omega)
  obtain ⟨S2, e2⟩ : ∃ X, X = S1.add (.cells (mayC []) true) := ⟨_, rfl⟩
  have al : aAlloc EK 31 S1 = some (pO S1.next, S2) := by rw [e2]; exact al_31
  have g2 : ∀ k, k < S1.next → S2.h.get k = S1.h.get k := fun k hk => by rw [e2, add_ne (by omega)]
  have t2' : Tidy S2 := by rw [e2]; exact t1'.add
  have hdn := t1'.lt D1.hd
  have hln := t1'.lt D1.hl
  have hmn := t1'.lt D1.hm
  have I0 : LI S S.next d l m S1.next n (List.replicate n []) [] 0 (fun _ => [[]]) [] S2 := ⟨D1.keep t1' g2, by simp, t2', by rw [e2]; exact add_at, (fun j q h => by simp at h), (fun q h => by cases h), List.nodup_nil, (fun e h => by cases h), ⟨by omega, by omega⟩, ⟨hd, hl, hm, n1⟩, fun k hk => by rw [g2 k (by omega), g1 k hk]⟩
  refine Trip.preR EKok (sum := onlyC [11] (tabC [(11, [nI n], S, (.tuple [pO d, nI 0], S1))])) (onlyC_ok (tabC_ok fun w hw => by
      simp only [List.mem_cons, List.not_mem_nil, or_false] at hw
      subst hw
      exact hc)) (k := 2) (kf := [0, 1, 2, 7, 9]) (by kernel_rfl) (Q1 := fun q => q = (.normal, frG d S1.next n St P, S2)) (Eq.mp (vcN1 (tabC [(11, [nI n], S, (.tuple [pO d, nI 0], S1))]) n d S1.next St P S S1 S2 (fun q => q = (.normal, frG d S1.next n St P, S2)))
      ⟨call_at (onlyC_at rfl (tabC_hd ..)), al, rfl⟩) ?_ (fun q h1 h2 => absurd (congrArg Prod.fst h2) h1)
  rintro F' S' hq1
  cases hq1
  generalize hma : S1.next = ma at *
  rw [shL1]
  -- the rows
  refine Trip.seq (R := fun r => ∃ S3 ms, ms.length = n ∧ LI S S.next d l m ma n (List.replicate n []) [] 0 (fun _ => [[]]) ms S3 ∧ Stops S.next .normal (frA d ma n n St P) S3 r) ?_ ?_ (fun e fr' st' hne ⟨_, _, _, _, hq⟩ => absurd hq.1 hne)
  · rw [shL6]
    refine Trip.seq (R := Stops S.next .normal (frA d ma n 0 St P) S2) ((Trip.runY EKok noSum_ok (Eq.mp (vcA0 n d ma St P S2 (fun r => r = (.normal, frA d ma n 0 St P, S2))) rfl)).mono fun r hr => Stops.rawE hr) (fun fr' st' hq => Trip.less hq.2 ?_) (fun e fr' st' hne hq => absurd hq.1 hne)
    refine Trip.block (Trip.loop (fun μ fr st => ∃ ms, ms.length ≤ n ∧ μ = n - ms.length ∧ fr = frA d ma n ms.length St P ∧ LI S S.next d l m ma n (List.replicate n []) [] 0 (fun _ => [[]]) ms st) ?_ (n - 0) ⟨[], Nat.zero_le _, rfl, rfl, I0⟩)
    rintro μ F S' ⟨ms, k1, rfl, rfl, k2⟩
    refine (roundA hn20 k2 k1).mono ?_
    rintro ⟨e, F', S3⟩ (⟨ms2, S4, j1, j2, j3, j4, j5⟩ | ⟨j1, j4, j5⟩)
    · simp only at j4
      subst j4
      exact ⟨n - ms2.length, _, _, by omega, j5, ms2, by omega, rfl, by rw [j2], j3⟩
    · simp only at j4
      subst j4
      exact ⟨fun _ => ⟨S', ms, j1, k2, rfl, by rw [← j1]; rw [← j1] at j5; exact j5⟩, fun h => absurd rfl h⟩
  rintro F' S' ⟨S3, ms, hms, I3, hq⟩
  refine Trip.less hq.2 ?_
  -- the steps
  have hB0 : BI S S.next d l m ma n 0 S3 := ⟨_, [], 0, ms, hms, fun j => by rw [vers_nil (fun e he => by cases he)]; exact Nat.le_refl _, I3.bfc fun j hj => by
    unfold mayB
    rw [vers_nil (es := []) (fun e he => by cases he), List.getD_eq_getElem?_getD, List.getElem?_replicate]
    split <;> rfl⟩
  refine Trip.seq (R := fun r => ∃ S4, BI S S.next d l m ma n N S4 ∧ Stops S.next .normal (frB d ma n N St P) S4 r) ?_ ?_ (fun e fr' st' hne ⟨_, _, hq⟩ => absurd hq.1 hne)
  · rw [shL7]
    refine Trip.less (Wk.canF S.next [0, 1, 2, 7, 9] _ S3) ?_
    rw [canA]
    refine Trip.seq (R := Stops S.next .normal (frB d ma n 0 St P) S3) ((Trip.runY EKok noSum_ok (Eq.mp (vcB0 n d ma St P S3 (fun r => r = (.normal, frB d ma n 0 St P, S3))) rfl)).mono fun r hr => Stops.rawE hr) (fun fr' st' hq => Trip.less hq.2 ?_) (fun e fr' st' hne hq => absurd hq.1 hne)
    refine Trip.block (Trip.loop (fun μ fr st => ∃ i, i ≤ N ∧ μ = N - i ∧ fr = frB d ma n i St P ∧ BI S S.next d l m ma n i st) ?_ (N - 0) ⟨0, Nat.zero_le _, rfl, rfl, hB0⟩)
    rintro μ F S' ⟨i, k1, rfl, rfl, k2⟩
    by_cases hi : i < N
    · refine (stepB hSt hsi hN hn1 hn20 k2 hi).mono ?_
      rintro ⟨e, F', S4⟩ ⟨S5, j1, j4, j5⟩
      simp only at j4
      subst j4
      exact ⟨N - (i + 1), _, _, by omega, j5, i + 1, by omega, rfl, rfl, j1⟩
    · have hiN : i = N := by omega
      subst hiN
      refine (Trip.runY EKok noSum_ok (Eq.mp (vcBx n d ma i i St P S' (fun r => r = (.exit 2, frB d ma n i St P, S'))) ⟨hSt.len S', by rw [gLss, decide_eq_false (by simp only [Int.ofNat_eq_natCast]; omega)], rfl⟩)).mono ?_
      intro r hr
      obtain ⟨e, F', S2'⟩ := r
      obtain ⟨hr1, hr2⟩ := Stops.rawE (kb := S.next) hr
      simp only at hr1
      subst hr1
      exact ⟨fun _ => ⟨S', k2, rfl, hr2⟩, fun h => absurd rfl h⟩
  rintro F' S' ⟨S4, ⟨las, es, ck, ms4, hms4, hvl, I4⟩, hq⟩
  refine Trip.less hq.2 ?_
  -- the loss of power
  have hlo := I4.lo
  have hE : ∀ e, e ∈ es → e.vs.length < 1000000 := fun e he => by
    have := vers_ge he
    have := hvl e.k
    omega
  obtain ⟨S5, hcC, D5, t5, n5, g5⟩ := crash_at (zs := zs) (P := P) (pi := pi) (o := o) I4.dk I4.tid (by rw [I4.ln]; omega) hE hP (fun h => by
    obtain ⟨p1, p2⟩ := hpo h
    have := I4.tid.lt I4.dk.hd
    exact ⟨by rw [I4.fr pi p2]; exact p1, by omega, by omega, by omega⟩)
  have I5 := I4.disk D5 (by rw [crashed_len]; exact I4.ln) t5 g5 (fun e he => by cases he)
  have hO : Call1 Try.prog 16 [pO d] S5 (.slice none 0 (.known 0), S5) := by
    have := open_at D5
    unfold openV openS at this
    rw [if_pos rfl, if_pos rfl] at this
    exact this
  have hmem : ∀ j, j < n → (crashed las es zs).getD j [] ∈ mayB las es j := fun j hj => crashed_mem (by rw [I4.ln]; exact hj)
  refine Trip.seq (R := Stops S.next .normal (xFr [(0, nI n), (7, pO d), (9, pO ma)] 189) S5) ?_ ?_ (fun e fr' st' hne hq => absurd hq.1 hne)
  · refine Trip.less (Wk.canF S.next [0, 1, 2, 7, 9] _ S4) ?_
    rw [canB]
    exact (Trip.runY EKok (sum := onlyC [15, 16, 17] (tabC [(15, [pO d, P], S4, (nI 0, S5)), (16, [pO d], S5, (.slice none 0 (.known 0), S5)), (17, [pO d], S5, (.bool false, S5))])) (onlyC_ok (tabC_ok fun w hw => by
      simp only [List.mem_cons, List.not_mem_nil, or_false] at hw
      rcases hw with rfl | rfl | rfl
      · exact hcC
      · exact hO
      · exact dead_at D5)) (Eq.mp (vcG8 (tabC [(15, [pO d, P], S4, (nI 0, S5)), (16, [pO d], S5, (.slice none 0 (.known 0), S5)), (17, [pO d], S5, (.bool false, S5))]) n d ma (.slice none 0 (.known 0)) St P S4 S5 S5 (fun r => r = (.normal, xFr [(0, nI n), (7, pO d), (9, pO ma)] 189, S5)))
      ⟨call_at (onlyC_at rfl (tabC_hd ..)), call_at (onlyC_at rfl (by rw [tabC_tlf rfl]; exact tabC_hd ..)), len_nil S5, call_at (onlyC_at rfl (by rw [tabC_tlf rfl, tabC_tlf rfl]; exact tabC_hd ..)), rfl⟩)).mono fun r hr => Stops.rawE hr
  rintro F' S' hq
  obtain ⟨hq1, hq2⟩ := hq
  refine Trip.less hq2 ?_
  -- what is read
  refine Trip.seq (R := fun r => ∃ S6, LI S S.next d l m ma n (crashed las es zs) [] ck (mayB las es) ms4 S6 ∧ Stops S.next .normal (frD d ma n n) S6 r) ?_ ?_ (fun e fr' st' hne ⟨_, _, hq⟩ => absurd hq.1 hne)
  · rw [shL9]
    refine Trip.seq (R := Stops S.next .normal (frD d ma n 0) S5) ((Trip.runY EKok noSum_ok (Eq.mp (vcD0 n d ma S5 (fun r => r = (.normal, frD d ma n 0, S5))) rfl)).mono fun r hr => Stops.rawE hr) (fun fr' st' hq => Trip.less hq.2 ?_) (fun e fr' st' hne hq => absurd hq.1 hne)
    refine Trip.block (Trip.loop (fun μ fr st => ∃ k, k ≤ n ∧ μ = n - k ∧ fr = frD d ma n k ∧ LI S S.next d l m ma n (crashed las es zs) [] ck (mayB las es) ms4 st) ?_ (n - 0) ⟨0, Nat.zero_le _, rfl, rfl, I5⟩)
    rintro μ F S' ⟨k, k1, rfl, rfl, k2⟩
    refine (roundD hn20 k2 hms4 hmem (fun j _ => by
      have := hvl j
      show (vers es j).length + 1 < _
      omega) k1).mono ?_
    rintro ⟨e, F', S6⟩ (⟨S7, j1, j2, j4, j5⟩ | ⟨j1, j4, j5⟩)
    · simp only at j4
      subst j4
      exact ⟨n - (k + 1), _, _, by omega, j5, k + 1, by omega, rfl, rfl, j2⟩
    · simp only at j4
      subst j4
      subst j1
      exact ⟨fun _ => ⟨S', k2, rfl, j5⟩, fun h => absurd rfl h⟩
  rintro F' S' ⟨S6, I6, hq⟩
  refine Trip.less hq.2 ?_
  refine Trip.less (Wk.canF S.next [0, 7, 9] _ S6) ?_
  rw [canD]
  -- a last write, a last flush
  have hl6 : 0 < (crashed las es zs).length := by rw [I6.ln]; omega
  obtain ⟨S7, es7, ck7, hW, D7, t7, n7, g7, hv7, _⟩ := write_at (i := 0) (b := []) I6.dk I6.tid hl6 (by rw [vers_nil (fun e he => by cases he)]; decide)
  have hE7 : ∀ e, e ∈ es7 → e.vs.length < 1000000 := fun e he => by
    have h := vers_ge he
    rw [hv7 e.k, vers_nil (es := []) (fun e he => by cases he), vers_nil (es := []) (fun e he => by cases he)] at h
    split at h
    · simp at h; omega
    · simp at h; rw [h]; decide
  obtain ⟨S8, hF, D8, t8, n8, g8⟩ := flush_at D7 t7 hl6 hE7
  exact (Trip.runY EKok (sum := onlyC [19, 20] (tabC [(19, [pO d, nI 0, .agg (bl [])], S6, (nI 0, S7)), (20, [pO d], S7, (nI 0, S8))])) (onlyC_ok (tabC_ok fun w hw => by
    simp only [List.mem_cons, List.not_mem_nil, or_false] at hw
    rcases hw with rfl | rfl
    · exact hW
    · exact hF)) (Eq.mp (vcLz (tabC [(19, [pO d, nI 0, .agg (bl [])], S6, (nI 0, S7)), (20, [pO d], S7, (nI 0, S8))]) n d ma S6 S7 S8 (fun q => q = (.ret, some (.bool true, S8)))) ⟨call_at (onlyC_at rfl (tabC_hd ..)), call_at (onlyC_at rfl (by rw [tabC_tlf rfl]; exact tabC_hd ..)), rfl⟩)).mono fun r hr => by
      have h1 := congrArg Prod.fst hr
      have h2 := congrArg Prod.snd hr
      refine ⟨.inr h1, ?_⟩
      have h3 : leaveA EK Try.f3 r.2.1 r.2.2 = some (.bool true, S8) := h2
      rw [h3]; rfl
end
end Go.Proofs.Ytmjmpmmonelmmaa.dsk
end

section
open Go Go.Ax Go.Proofs
namespace Go.Proofs.Ytmjmpmmonelmmaa.dsk
set_option linter.unusedVariables false
noncomputable section
open Go.ChangeShapes Go.WideShapes Go.ChangeAt Go.RowKit Go.Deep
section
variable {H : Type} {enc : TypeId × Value → H} {P : Program} {w : World} {base : Nat} {spare : Nat → Bool} {held : Bool} {fuel : Nat} {t : TypeId} {cs : List Value} {x : DataW H × List MemPlace}
theorem fieldOf {fs : Array Field} (ht : P.underlying t = some (.struct fs)) (h : DataW.trod enc P w base spare held fuel t cs = some x) {i : Nat} {f : Field} (hi : fs[i]? = some f) :
    ∃ n y, DataW.trod enc P w base spare held n f.type ((cs.drop f.offset).take (P.cellsOf f.type)) = some y := by
  obtain ⟨xs, n, _, _, _, hl, hf⟩ := DataW.trod_struct ht h
  have h1 := (Array.getElem?_eq_some_iff.1 hi).1
  exact ⟨n, xs[i]'(by omega), by rw [hf i f hi]; simp⟩
theorem elemOf {n : Nat} {e : TypeId} (ht : P.underlying t = some (.array n e)) (h : DataW.trod enc P w base spare held fuel t cs = some x) {i : Nat} (hi : i < n) :
    ∃ m y, DataW.trod enc P w base spare held m e ((cs.drop (i * P.cellsOf e)).take (P.cellsOf e)) = some y := by
  obtain ⟨xs, m, _, _, _, hl, hf⟩ := DataW.trod_array ht h
  exact ⟨m, xs[i]'(by omega), by rw [hf i hi]; simp⟩
theorem one_int {k : IntKind} {o : Nat} (ht : P.underlying t = some (.int k)) (h : DataW.trod enc P w base spare held fuel t ((cs.drop o).take 1) = some x) : ∃ z, cs[o]? = some (.int k z) ∧ (Lit.int k z).wf = true := by
  obtain ⟨z, e, _, hw⟩ := DataW.trod_int ht h
  refine ⟨z, ?_, hw⟩
  have : ((cs.drop o).take 1)[0]? = some (.int k z) := by rw [e]; rfl
  simpa using this
end
theorem own : ownKnob Try.prog.godebug = none := by kernel_rfl
theorem laidOut : laidOutB Try.prog = true := by kernel_rfl
theorem same_below {W W' : World} (h : Below W.heap.size W W') {p : MemPlace} (hp : p.block < W.heap.size) : W.sameAt W' p := by
  cases p with
  | cell b off => exact h.cell (p := ⟨b, off, none⟩) hp
  | map b => exact h.block b hp
theorem spot_none {W : World} {a : Addr} {v : Value} (h : W.cell? (a.add 0) = some v) : a.spot = none := by
  obtain ⟨b, off, spot⟩ := a
  cases spot with
  | none => rfl
  | some s =>
    unfold World.cell? at h
    simp only [Addr.add, if_true] at h
    split at h
    · simp at h
    · cases h
theorem law_at {P : Program} {f : Nat} {args : List AV} {args' : Array Value} {B : Prot} (hB : ∀ i, ¬ B.rs i) {W : World} (hall : ∀ k, k < W.heap.size → B.all k) {ι : Ren} {st : ASt} (hsr : SR B W ι st W) (hv : VRs ι args args')
    (h : AtMem P f args st (.bool true)) : Calls P f args' W fun e w' => e = .returned (.bool true) ∧ Below W.heap.size W w' := by
  have := (h B W ι W args' hB hsr hv).2
  rw [callsIn_wide] at this
  refine this.mono ?_
  rintro e w' ⟨⟨v, st'⟩, hv, x, ι', rfl, _, h2, h3⟩
  simp only at hv h3
  subst hv
  cases h3
  exact ⟨rfl, h2.below.os, h2.below.tape, h2.below.output, h2.below.size, fun k hk => h2.below.block k (hall k hk)⟩
def RowV (W : World) (ι : Ren) (b off : Nat) (cs : List AV) : Prop := ∀ (k : Nat) v, cs[k]? = some v → v.isCell = true ∧ ∃ v', W.cell? ⟨b, off + k, none⟩ = some v' ∧ VR ι v v'
theorem RowV.block {W : World} {ι : Ren} {b off : Nat} {cs : List AV} (h : RowV W ι b off cs) (h0 : cs ≠ []) : ∃ c e lo hi, W.heap[b]? = some (.cells c e (lo, hi)) ∧ off + cs.length ≤ c.size ∧ ∀ (k : Nat) v v', cs[k]? = some v → c[off + k]? = some v' → VR ι v v' := by
  have hl : cs.length - 1 < cs.length := by cases cs with | nil => exact absurd rfl h0 | cons _ _ => simp
  obtain ⟨_, v', hv', _⟩ := h (cs.length - 1) _ (List.getElem?_eq_getElem hl)
  unfold World.cell? at hv'
  cases hb : W.heap[b]? with
  | none => rw [hb] at hv'; cases hv'
  | some o =>
    rw [hb] at hv'
    cases o with
    | cells c e m =>
      obtain ⟨lo, hi⟩ := m
      simp only [Option.isSome_none, Bool.false_eq_true, if_false] at hv'
      have hs := (Array.getElem?_eq_some_iff.1 hv').1
      refine ⟨c, e, lo, hi, rfl, by omega, fun k v v' hk hk' => ?_⟩
      obtain ⟨_, x, hx, hvr⟩ := h k v hk
      unfold World.cell? at hx
      rw [hb] at hx
      simp only [Option.isSome_none, Bool.false_eq_true, if_false] at hx
      rw [hk'] at hx
      simp only [Option.some.injEq] at hx
      subst hx
      exact hvr
    | _ => cases hv'
theorem RowV.of {W : World} {ι : Ren} {b off : Nat} {cs : List AV} (h : RowAt W b off cs) : RowV W ι b off cs := fun k v hk => by
  obtain ⟨h1, v', h2, h3⟩ := h k v hk
  exact ⟨h1, v', h2, h3 ι⟩
theorem rowsV_ok {W : World} (hgl : GlobOK W) {n : Nat} {rows : Nat → Option (Nat × Nat × List AV)} (hr : ∀ i r, rows i = some r → r.2.2 ≠ [] ∧ RowV W (rowsRen W n rows) r.1 r.2.1 r.2.2) {st : ASt} (hn : st.next = n)
    (hst : ∀ i a, st.h.get i = some a → i < n ∧ (a ≠ .dead → ∃ r, rows i = some r ∧ a = .cells r.2.2 false)) :
    SR ⟨fun k => ∃ i r, i < n ∧ rows i = some r ∧ r.1 = k, fun k => k < W.heap.size, fun _ => False⟩ W (rowsRen W n rows) st W := by
  have hloc : ∀ {i : Nat} {r : Nat × Nat × List AV}, i < n → rows i = some r → ∃ c e lo hi, W.heap[r.1]? = some (.cells c e (lo, hi)) ∧ rowsRen W n rows i = some ⟨r.1, r.2.1, c.size⟩ ∧ r.2.1 + r.2.2.length ≤ c.size ∧ ∀ (k : Nat) v v', r.2.2[k]? = some v → c[r.2.1 + k]? = some v' → VR (rowsRen W n rows) v v' := fun {i r} hi h => by
    obtain ⟨h0, h1⟩ := hr i r h
    obtain ⟨c, e, lo, hh, k1, k2, k3⟩ := h1.block h0
    exact ⟨c, e, lo, hh, k1, by simp only [rowsRen, hi, if_true, h, rowLoc, k1], k2, k3⟩
  refine ⟨Keeps.refl _ _, ?_, fun i a hi hd => ?_, fun i a L hi ho hL => ?_, fun i L hL => ?_, fun i a hi => ?_, fun i a L hi hd ho hL => ?_, fun i hi => hi.elim, fun g cs hg => ⟨.inr (hgl g cs hg).lt, hgl g cs hg⟩⟩
  · rintro k (⟨i, r, hi, h, rfl⟩ | hk)
    · obtain ⟨c, e, lo, hh, k1, _⟩ := hloc hi h
      exact (Array.getElem?_eq_some_iff.1 k1).1
    · exact hk
  · obtain ⟨hin, h2⟩ := hst i a hi
    obtain ⟨r, h1, rfl⟩ := h2 hd
    obtain ⟨c, e, lo, hh, k1, k2, k3, k4⟩ := hloc hin h1
    obtain ⟨_, hra⟩ := hr i r h1
    exact ⟨_, _, k2, k1, c, e, lo, hh, rfl, rfl, k3, fun v hv => by
      obtain ⟨j, hj, e⟩ := List.getElem_of_mem hv
      exact (hra j v (by rw [← e]; simp [hj])).1, fun k v v' hk hk' => k4 k v v' hk hk', fun h => by cases h⟩
  · by_cases hd : a = .dead
    · subst hd; cases ho
    · obtain ⟨r, _, rfl⟩ := (hst i a hi).2 hd
      cases ho
  · unfold rowsRen at hL
    by_cases e : i < n
    · rw [hn]; exact e
    · simp [e] at hL
  · rw [hn]; exact (hst i a hi).1
  · obtain ⟨hin, h2⟩ := hst i a hi
    obtain ⟨r, h1, rfl⟩ := h2 hd
    obtain ⟨c, e, lo, hh, k1, k2, k3, k4⟩ := hloc hin h1
    rw [k2] at hL; cases hL
    exact ⟨i, r, hin, h1, rfl⟩
def memF (n : Nat) (F : Nat → AO) : ASt := { h := (List.range n).foldl (fun t k => t.set 20 k (F k)) .e, next := n }
theorem memF_get (F : Nat → AO) : ∀ (n i : Nat), (memF n F).h.get i = if i < n then some (F i) else none
  | 0, i => by
    rw [if_neg (Nat.not_lt_zero _)]
    exact T.get_e i
  | n + 1, i => by
    have ih := memF_get F n i
    unfold memF at ih ⊢
    simp only at ih ⊢
    rw [List.range_succ, List.foldl_append]
    show (T.set 20 _ n (F n)).get i = _
    rw [T.get_set, ih]
    by_cases h : i = n
    · subst h; rw [if_pos rfl, if_pos (Nat.lt_succ_self _)]
    · rw [if_neg h]
      by_cases h2 : i < n
      · rw [if_pos h2, if_pos (by omega)]
      · rw [if_neg h2, if_neg (by omega)]
theorem memF_tidy (n : Nat) (F : Nat → AO) : Tidy (memF n F) := fun k hk => by
  have hk : n ≤ k := hk
  rw [memF_get, if_neg (by omega)]
theorem sl_p : sliceT EK 23 = some 1 := by kernel_rfl
theorem sl_t : sliceT EK 22 = some 4 := by kernel_rfl
theorem ints_arg {H : Type} {enc : TypeId × Value → H} {W : World} {base fuel : Nat} {spare : Nat → Bool} {held : Bool} (j : Nat) {cs : List Value} {x : DataW H × List MemPlace}
    (hf : DataW.trod enc Try.prog W base spare held fuel 23 cs = some x) :
    ∃ v, cs = [v] ∧ ∃ (zs : List Int) (vl : AV) (o : AO) (r : Option (Nat × Nat × List AV)), ArgAt EK W 23 1 j zs.length v (zs.map (AV.int .i64 ·)) vl o r ∧ vl.isCell = true := by
  rcases open_ints Try.underlying23 Try.underlying3 (by kernel_rfl) hf with ⟨hcs, _⟩ | ⟨a, len, cap, zs, hcs, _, hl, hmx, hm, _, hi, hw⟩
  · exact ⟨_, hcs, [], _, _, _, ArgAt.mk_nil sl_p, rfl⟩
  · refine ⟨_, hcs, ?_⟩
    by_cases h0 : len = 0
    · subst h0
      exact ⟨[], _, _, _, ArgAt.mk_zero sl_p, rfl⟩
    · have hlz : len ≤ zs.length := by rw [hm]; split <;> omega
      have hsp := spot_none (hi 0 (by omega))
      obtain ⟨b, off, spot⟩ := a
      simp only at hsp
      subst hsp
      have hlen : (zs.take len).length = len := by rw [List.length_take]; omega
      have := ArgAt.mk_row (E := EK) (W := W) (t := 23) (z := 1) (i := j) (n := len) (b := b) (off := off) (cap := cap) (cs := (zs.take len).map (AV.int .i64 ·)) sl_p
        (by intro e; have := congrArg List.length e; rw [List.length_map, hlen] at this; exact h0 this) hl (fun k v hk => by
          rw [List.getElem?_map, Option.map_eq_some_iff] at hk
          obtain ⟨z, hz, rfl⟩ := hk
          have hk2 : k < len := by
            have := (List.getElem?_eq_some_iff.1 hz).1
            rw [hlen] at this; exact this
          refine ⟨rfl, _, by have := hi k (by omega); rw [add_none] at this; exact this, fun ι => ?_⟩
          rw [List.getElem?_take_of_lt hk2] at hz
          rw [List.getD_eq_getElem?_getD, hz]
          exact .int _ _)
      refine ⟨zs.take len, .slice (some (j, 0)) len (.atl len), .cells ((zs.take len).map (AV.int .i64 ·)) false, some (b, off, (zs.take len).map (AV.int .i64 ·)), ?_, rfl⟩
      rw [hlen]
      exact this
structure StepsIn (W : World) (v : Value) (N : Nat) (St : AV) (o0 : AO) (r0 : Option (Nat × Nat × List AV)) (ps : List Sp) (od : Nat → AO) (rd : Nat → Option (Nat × Nat × List AV)) : Prop where
  sl : SlArg EK 22 4 0 N St o0 (ps.flatMap spE)
  num : ps.length = min N 41
  obj : o0 ≠ .dead → ∃ r, r0 = some r ∧ o0 = .cells r.2.2 false
  vr : ∀ ι : Ax.Ren, (∀ r, r0 = some r → ∃ tot, ι 0 = some ⟨r.1, r.2.1, tot⟩) → VR ι St v
  pick : ∀ p, p ∈ ps → ∀ S, aBuiltinM EK .len [23] [p.v] S = some (nI p.c, S)
  row : ∀ i r, rd i = some r → r.2.2 ≠ [] ∧ RowAt W r.1 r.2.1 r.2.2
  objs : ∀ i, od i ≠ .dead → ∃ r, rd i = some r ∧ od i = .cells r.2.2 false
  own : ∀ r, r0 = some r → r.2.2 ≠ [] ∧ ∀ ι : Ax.Ren, (∀ i, i < 41 → ∀ r', rd i = some r' → ∃ tot, ι (i + 1) = some ⟨r'.1, r'.2.1, tot⟩) → RowV W ι r.1 r.2.1 r.2.2
abbrev QT := (Int × Int × Nat × Value) × (List Int × AV × AO × Option (Nat × Nat × List AV))
def QOk (W : World) (j : Nat) (q : QT) : Prop := ArgAt EK W 23 1 j q.2.1.length q.1.2.2.2 (q.2.1.map (AV.int .i64 ·)) q.2.2.1 q.2.2.2.1 q.2.2.2.2 ∧ q.2.2.1.isCell = true
theorem step_of {H : Type} {enc : TypeId × Value → H} {W : World} {base fuel : Nat} {spare : Nat → Bool} {held : Bool} {cs : List Value} {x : DataW H × List MemPlace} (j : Nat) (h : DataW.trod enc Try.prog W base spare held fuel 35 cs = some x) :
    ∃ q : QT, cs = [.int .i64 q.1.1, .int .i64 q.1.2.1, .int .u8 (.ofNat q.1.2.2.1), q.1.2.2.2] ∧ QOk W j q := by
  have hlen : cs.length = 4 := by
    obtain ⟨_, _, _, _, hl, _⟩ := DataW.trod_struct Try.underlying35 h
    rw [hl]; kernel_rfl
  have c3' : Try.prog.cellsOf 3 = 1 := by kernel_rfl
  have c5 : Try.prog.cellsOf 5 = 1 := by kernel_rfl
  have c23 : Try.prog.cellsOf 23 = 1 := by kernel_rfl
  obtain ⟨n0, g0, k0⟩ := fieldOf Try.underlying35 h (i := 0) rfl
  obtain ⟨n1, g1, k1⟩ := fieldOf Try.underlying35 h (i := 1) rfl
  obtain ⟨n2, g2, k2⟩ := fieldOf Try.underlying35 h (i := 2) rfl
  obtain ⟨n3, g3, k3⟩ := fieldOf Try.underlying35 h (i := 3) rfl
  replace k0 : DataW.trod enc Try.prog W base spare held n0 3 ((cs.drop 0).take (Try.prog.cellsOf 3)) = some g0 := k0
  replace k1 : DataW.trod enc Try.prog W base spare held n1 3 ((cs.drop 1).take (Try.prog.cellsOf 3)) = some g1 := k1
  replace k2 : DataW.trod enc Try.prog W base spare held n2 5 ((cs.drop 2).take (Try.prog.cellsOf 5)) = some g2 := k2
  replace k3 : DataW.trod enc Try.prog W base spare held n3 23 ((cs.drop 3).take (Try.prog.cellsOf 23)) = some g3 := k3
  rw [c3'] at k0 k1
  rw [c5] at k2
  rw [c23] at k3
  obtain ⟨k, e0, _⟩ := one_int Try.underlying3 k0
  obtain ⟨sz, e1, _⟩ := one_int Try.underlying3 k1
  obtain ⟨f, e2, w2⟩ := one_int Try.underlying5 k2
  obtain ⟨v, e3, l, vl, o, r, b1, b2⟩ := ints_arg j k3
  have e3' : cs[3]? = some v := by
    have : ((cs.drop 3).take 1)[0]? = some v := by rw [e3]; rfl
    simpa using this
  have hf : 0 ≤ f ∧ f ≤ 255 := by
    simp only [Lit.wf, Bool.and_eq_true, decide_eq_true_eq] at w2
    exact w2
  have hfn : f = .ofNat f.toNat := (Int.toNat_of_nonneg hf.1).symm
  refine ⟨((k, sz, f.toNat, v), (l, vl, o, r)), ?_, b1, b2⟩
  show cs = [.int .i64 k, .int .i64 sz, .int .u8 (.ofNat f.toNat), v]
  rw [← hfn]
  match cs, hlen with
  | [x0, x1, x2, x3], _ =>
    simp at e0 e1 e2 e3'
    rw [e0, e1, e2, e3']
def spOf (q : QT) : Sp := ⟨q.1.1, q.1.2.1, q.1.2.2.1, q.2.2.1, q.2.1.length⟩
theorem steps_arg {H : Type} {enc : TypeId × Value → H} {W : World} {fuel : Nat} {spare : Nat → Bool} {held : Bool} {v : Value} {x : DataW H × List MemPlace} (h : DataW.trod enc Try.prog W 0 spare held fuel 22 [v] = some x) :
    ∃ N St o0 r0 ps od rd, StepsIn W v N St o0 r0 ps od rd := by
  rcases open_slice Try.underlying22 h with ⟨hcs, _⟩ | ⟨a, len, cap, mm, n, D, Pl, hcs, _, hl, _, hmm, _, hx⟩
  · simp at hcs
    subst hcs
    exact ⟨0, _, .dead, none, [], fun _ => .dead, fun _ => none, SlArg.none sl_t, rfl, fun h => absurd rfl h, fun ι _ => VR.sliceN, (fun p hp => by cases hp), (fun i r h => by cases h), (fun i h => absurd rfl h), fun r h => by cases h⟩
  · simp at hcs
    subst hcs
    by_cases h0 : len = 0
    · subst h0
      exact ⟨0, _, .dead, none, [], fun _ => .dead, fun _ => none, SlArg.zero sl_t, rfl, fun h => absurd rfl h, fun ι _ => VR.slice0 _ _, (fun p hp => by cases hp), (fun i r h => by cases h), (fun i h => absurd rfl h), fun r h => by cases h⟩
    · have hlm : len ≤ mm := by rw [hmm]; split <;> omega
      have c35 : Try.prog.cellsOf 35 = 4 := by kernel_rfl
      have each : ∀ i, i < len → ∃ q : QT, (∀ j x, [Value.int .i64 q.1.1, .int .i64 q.1.2.1, .int .u8 (.ofNat q.1.2.2.1), q.1.2.2.2][j]? = some x → W.cell? (a.add (i * 4 + j)) = some x) ∧ QOk W (i + 1) q := fun i hi => by
        obtain ⟨cs', h1, h2⟩ := hx i (by omega)
        rw [c35] at h1
        obtain ⟨_, hlen, hcell⟩ := World.cells?_some h1
        obtain ⟨q, hq, r1⟩ := step_of (i + 1) h2
        refine ⟨q, fun j y hy => ?_, r1⟩
        have hj : j < 4 := by
          have := (List.getElem?_eq_some_iff.1 hy).1
          simpa using this
        have e := hcell j (by omega)
        rw [add_add] at e
        rw [e]
        rw [← hq] at hy
        exact hy
      haveI : Inhabited QT := ⟨((0, 0, 0, .bool false), ([], .any, .dead, none))⟩
      obtain ⟨q, hq⟩ := choose_lt each
      have hsp := spot_none (a := a) (v := .int .i64 (q 0).1.1) ((hq 0 (by omega)).1 0 _ rfl)
      obtain ⟨b, off, spot⟩ := a
      simp only at hsp
      subst hsp
      obtain ⟨m, hm⟩ : ∃ m, m = min len 41 := ⟨_, rfl⟩
      have hpl : ((List.range m).map fun i => spOf (q i)).length = m := by simp
      have hps : ∀ i p, ((List.range m).map fun i => spOf (q i))[i]? = some p → i < m ∧ p = spOf (q i) := fun i p hp => by
        have hi : i < m := by rw [← hpl]; exact (List.getElem?_eq_some_iff.1 hp).1
        refine ⟨hi, ?_⟩
        simp [hi] at hp
        exact hp.symm
      have hne : ((List.range m).map fun i => spOf (q i)).flatMap spE ≠ [] := fun e => by
        have := congrArg List.length e
        rw [fm_len spE_len, hpl] at this
        simp at this
        omega
      refine ⟨len, .slice (some (0, 0)) len (.atl len), .cells (((List.range m).map fun i => spOf (q i)).flatMap spE) false, some (b, off, ((List.range m).map fun i => spOf (q i)).flatMap spE), (List.range m).map fun i => spOf (q i), (fun i => if i < m then (q i).2.2.2.1 else .dead), (fun i => if i < m then (q i).2.2.2.2 else none), SlArg.row sl_t, by rw [hpl, hm], fun _ => ⟨_, rfl, rfl⟩, fun ι hι => ?_, fun p hp S => ?_, fun i r hr => ?_, fun i hi => ?_, fun r hr => ?_⟩
      · obtain ⟨tot, ht⟩ := hι _ rfl
        have := VR.slice (ι := ι) 0 0 len cap ⟨b, off, tot⟩ (.atl len) ht hl hl
        exact this
      · obtain ⟨i, hi⟩ := List.getElem?_of_mem hp
        obtain ⟨hi, rfl⟩ := hps i p hi
        exact (hq i (by omega)).2.1.sl.len S
      · by_cases hi : i < m
        · have hr : (if i < m then (q i).2.2.2.2 else none) = some r := hr
          rw [if_pos hi] at hr
          exact (hq i (by omega)).2.1.row r hr
        · have hr : (if i < m then (q i).2.2.2.2 else none) = some r := hr
          rw [if_neg hi] at hr; cases hr
      · show ∃ r, (if i < m then (q i).2.2.2.2 else none) = some r ∧ (if i < m then (q i).2.2.2.1 else .dead) = _
        have hi : (if i < m then (q i).2.2.2.1 else .dead) ≠ .dead := hi
        by_cases h : i < m
        · rw [if_pos h] at hi
          rw [if_pos h, if_pos h]
          exact (hq i (by omega)).2.1.obj hi
        · rw [if_neg h] at hi; exact absurd rfl hi
      · cases hr
        refine ⟨hne, fun ι hι k v hk => ?_⟩
        have hk4 : k < m * 4 := by
          have := (List.getElem?_eq_some_iff.1 hk).1
          rw [fm_len spE_len, hpl] at this
          exact this
        have hd : k / 4 < m := by omega
        have hp : ((List.range m).map fun i => spOf (q i))[k / 4]? = some (spOf (q (k / 4))) := by simp [hd]
        have hr : k % 4 < (spE (spOf (q (k / 4)))).length := by rw [spE_len]; exact Nat.mod_lt _ (by decide)
        have hv := fm_get (enc := spE) spE_len hp (List.getElem?_eq_getElem hr)
        rw [show k / 4 * 4 + k % 4 = k by omega] at hv
        have hkv : (spE (spOf (q (k / 4))))[k % 4]? = some v := by
          rw [List.getElem?_eq_getElem hr]
          exact hv.symm.trans hk
        have hc := (hq (k / 4) (by omega)).1
        have at_ : ∀ j x, k % 4 = j → [Value.int .i64 (q (k / 4)).1.1, .int .i64 (q (k / 4)).1.2.1, .int .u8 (.ofNat (q (k / 4)).1.2.2.1), (q (k / 4)).1.2.2.2][j]? = some x → W.cell? ⟨b, off + k, none⟩ = some x := fun j x hj hx => by
          have := hc j x hx
          rw [add_plain] at this
          rw [show off + k = off + (k / 4 * 4 + j) by omega]
          exact this
        have hlt : k % 4 < 4 := Nat.mod_lt _ (by decide)
        have h4 : k % 4 = 0 ∨ k % 4 = 1 ∨ k % 4 = 2 ∨ k % 4 = 3 := by omega
        rcases h4 with h4 | h4 | h4 | h4 <;> rw [h4] at hkv <;> (simp [spE, spOf] at hkv; subst hkv)
        · exact ⟨rfl, _, at_ 0 _ h4 rfl, .int _ _⟩
        · exact ⟨rfl, _, at_ 1 _ h4 rfl, .int _ _⟩
        · exact ⟨rfl, _, at_ 2 _ h4 rfl, .int _ _⟩
        · obtain ⟨g1, g2⟩ := (hq (k / 4) (by omega)).2
          refine ⟨g2, _, at_ 3 _ h4 rfl, g1.vr ι fun r hr => hι (k / 4) (by omega) r ?_⟩
          show (if k / 4 < m then (q (k / 4)).2.2.2.2 else none) = some r
          rw [if_pos hd]; exact hr
theorem walk {W : World} {z : Int} {v1 v2 : Value} {N : Nat} {St : AV} {o0 : AO} {r0 : Option (Nat × Nat × List AV)} {ps : List Sp} {od : Nat → AO} {rd : Nat → Option (Nat × Nat × List AV)} (A : StepsIn W v1 N St o0 r0 ps od rd)
    {zs : List Int} {P : AV} {oP : AO} {rP : Option (Nat × Nat × List AV)} (B : ArgAt EK W 23 1 42 zs.length v2 (zs.map (AV.int .i64 ·)) P oP rP) :
    Calls Try.prog 3 #[.int .i64 z, v1, v2] W fun e w' => e = .returned (.bool true) ∧ Below W.heap.size W w' := by
  have hgl : GlobOK W := by intro _ _ h; cases h
  obtain ⟨rF, hF⟩ : ∃ rF : Nat → Option (Nat × Nat × List AV), rF = fun i => match i with | 0 => r0 | i + 1 => if i < 41 then rd i else if i = 41 then rP else none := ⟨_, rfl⟩
  obtain ⟨ob, hO⟩ : ∃ ob : Nat → AO, ob = fun i => match i with | 0 => o0 | i + 1 => if i < 41 then od i else if i = 41 then oP else .dead := ⟨_, rfl⟩
  have f0 : rF 0 = r0 := by rw [hF]
  have fi : ∀ i, i < 41 → rF (i + 1) = rd i := fun i hi => by rw [hF]; show (if i < 41 then rd i else _) = _; rw [if_pos hi]
  have f42 : rF 42 = rP := by rw [hF]; rfl
  have b0 : ob 0 = o0 := by rw [hO]
  have bi : ∀ i, i < 41 → ob (i + 1) = od i := fun i hi => by rw [hO]; show (if i < 41 then od i else _) = _; rw [if_pos hi]
  have b42 : ob 42 = oP := by rw [hO]; rfl
  have hrd : ∀ i, i < 41 → ∀ r', rd i = some r' → ∃ tot, rowsRen W 43 rF (i + 1) = some ⟨r'.1, r'.2.1, tot⟩ := fun i hi r' hr => by
    obtain ⟨g1, g2⟩ := A.row i r' hr
    exact rowsRen_at (by omega) (by rw [fi i hi]; exact hr) g1 g2
  have hrow : ∀ i r, rF i = some r → r.2.2 ≠ [] ∧ RowV W (rowsRen W 43 rF) r.1 r.2.1 r.2.2 := fun i r h => by
    cases i with
    | zero =>
      rw [f0] at h
      obtain ⟨g1, g2⟩ := A.own r h
      exact ⟨g1, g2 _ hrd⟩
    | succ i =>
      by_cases hi : i < 41
      · rw [fi i hi] at h
        obtain ⟨g1, g2⟩ := A.row i r h
        exact ⟨g1, RowV.of g2⟩
      · by_cases hi2 : i = 41
        · subst hi2
          rw [f42] at h
          obtain ⟨g1, g2⟩ := B.row r h
          exact ⟨g1, RowV.of g2⟩
        · have : rF (i + 1) = none := by rw [hF]; show (if i < 41 then rd i else if i = 41 then rP else none) = _; rw [if_neg hi, if_neg hi2]
          rw [this] at h; cases h
  have hsr := rowsV_ok hgl (n := 43) (rows := rF) hrow (st := memF 43 ob) rfl (fun i x hi => by
    rw [memF_get] at hi
    by_cases h : i < 43
    · rw [if_pos h] at hi
      cases hi
      refine ⟨h, fun hd => ?_⟩
      cases i with
      | zero => rw [b0] at hd ⊢; rw [f0]; exact A.obj hd
      | succ i =>
        by_cases hi : i < 41
        · rw [bi i hi] at hd ⊢
          rw [fi i hi]
          exact A.objs i hd
        · have : i = 41 := by omega
          subst this
          rw [b42] at hd ⊢
          rw [f42]
          exact B.obj hd
    · rw [if_neg h] at hi; cases hi)
  have w0 : VR (rowsRen W 43 rF) St v1 := A.vr _ fun r hr => by
    obtain ⟨g1, g2⟩ := A.own r hr
    obtain ⟨c, e, lo, hi, k1, _⟩ := (g2 _ hrd).block g1
    exact ⟨c.size, by simp only [rowsRen, f0, hr, rowLoc, k1]; rfl⟩
  have w1 : VR (rowsRen W 43 rF) P v2 := B.vr _ fun r hr => by
    obtain ⟨g1, g2⟩ := B.row r hr
    exact rowsRen_at (by omega) (by rw [f42]; exact hr) g1 g2
  have hv : VRs (rowsRen W 43 rF) [.int .i64 z, St, P] #[.int .i64 z, v1, v2] := ⟨rfl, fun i x x' hx hx' => by
    match i with
    | 0 => simp at hx hx'; subst hx; subst hx'; exact .int _ _
    | 1 => simp at hx hx'; subst hx; subst hx'; exact w0
    | 2 => simp at hx hx'; subst hx; subst hx'; exact w1
    | i + 3 => simp at hx⟩
  have hg : ∀ i, i < 43 → (memF 43 ob).h.get i = some (ob i) := fun i hi => by rw [memF_get, if_pos hi]
  refine law_at (fun _ h => h) (fun k hk => .inr hk) hsr hv (law_run (memF_tidy _ _) (si := 0) (N := N) (ps := ps) ⟨fun S => A.sl.len S, fun i hi => ?_, fun h => ?_, A.num, A.pick⟩ (fun _ => by show 0 < 43; omega) (pi := 42) (zs := zs) (o := oP) B.sl (fun _ => ⟨by rw [hg 42 (by omega), b42], by show 42 < 43; omega⟩) z)
  · have := A.sl.idx i .i64 hi
    rw [Nat.zero_add] at this
    exact this
  · rw [hg 0 (by omega), b0, A.sl.obj h]
set_option maxRecDepth 100000 in
theorem lifted (os : Os) (started : os.Started) (H : Type) (enc : TypeId × Value → H) :
    ReturnsInHanded {} Try.checked os 3 .any (Rows.diskMeansSpec.pre6 enc Try.prog Try.f3 Rows.diskMeansRow.domain false) (Rows.diskMeansSpec.post enc Try.prog Try.f3 false true false false) := by
  refine returnsInHanded_of_change (C := Try.checked) own started (by kernel_rfl) Try.func3
    (ChangeSpec.witness6 (enc := enc) (C := Try.checked) false ⟨#[], #[.int .i64 0, .slice none 0 0, .slice none 0 0], []⟩ 8 (by kernel_rfl) (by kernel_rfl) (by kernel_rfl) (by kernel_rfl)) ?_
  intro W base args ds gs before hval0 hW hcnd _
  have hval : ∀ (j : Nat) t v, Try.f3.params[j]? = some t → args[j]? = some v → Value.okWide Try.prog W .any base t v := hval0
  have hW' := hW
  obtain ⟨p, q, hA0, hV, rfl, hfz, hnd⟩ := hW
  have hA : DataW.TrodAll enc Try.prog W 0 (fun _ => true) true Try.f3.params.toList args.toList ds p := hA0
  rw [Try.params3] at hA hval
  obtain ⟨v0, v1, v2, d0, d1, d2, p0, p1, p2, rfl, rfl, rfl, h0, h1, h2⟩ := trodAll_three hA
  obtain ⟨rfl, rfl⟩ := trodVars_none hV
  obtain ⟨z, rfl⟩ := okWide_int Try.underlying3 (hval 0 3 v0 rfl rfl)
  obtain ⟨a1, len1, cap1, rfl⟩ := okWide_slice Try.underlying22 (hval 1 22 v1 rfl rfl)
  obtain ⟨a2, len2, cap2, rfl⟩ := okWide_slice Try.underlying23 (hval 2 23 v2 rfl rfl)
  have h0k := h0
  have h1k := h1
  have h2k := h2
  obtain ⟨fu1, hf1⟩ := h1
  obtain ⟨fu2, hf2⟩ := h2
  clear hA0 hval0
  simp only [List.append_nil] at hW'
  have hlt : ∀ x ∈ p0 ++ (p1 ++ p2), x.block < W.heap.size := fun x hx => hW'.lt x (by simpa using hx)
  have hcs : ∀ a len cap, (Value.slice a len cap).cells.toList = [.slice a len cap] := fun a len cap => by simp [Value.cells]
  rw [hcs] at hf1 hf2
  obtain ⟨N, St, o0, r0, ps, od, rd, A⟩ := steps_arg hf1
  obtain ⟨v2', hv2, zs, P, oP, rP, B, _⟩ := ints_arg 42 hf2
  simp at hv2
  subst hv2
  refine (walk (z := z) A B).mono fun e W' ⟨he, bel⟩ => ?_
  subst he
  have ARG0 : DataW.Trod enc Try.prog W' 0 (fun x => decide (x < W.heap.size)) true 3 (.int .i64 z) d0 p0 :=
    WideElems.Trod_stays laidOut (by kernel_rfl) (of_decide_eq_true (by kernel_rfl)) h0k (fun x hx => same_below bel (hlt x (List.mem_append_left _ hx))) (fun x hx => by simpa using hlt x (List.mem_append_left _ hx))
  have ARG1 : DataW.Trod enc Try.prog W' 0 (fun x => decide (x < W.heap.size)) true 22 (.slice a1 len1 cap1) d1 p1 :=
    WideElems.Trod_stays laidOut (by kernel_rfl) (of_decide_eq_true (by kernel_rfl)) h1k (fun x hx => same_below bel (hlt x (List.mem_append_right _ (List.mem_append_left _ hx)))) (fun x hx => by simpa using hlt x (List.mem_append_right _ (List.mem_append_left _ hx)))
  have ARG2 : DataW.Trod enc Try.prog W' 0 (fun x => decide (x < W.heap.size)) true 23 (.slice a2 len2 cap2) d2 p2 :=
    WideElems.Trod_stays laidOut (by kernel_rfl) (of_decide_eq_true (by kernel_rfl)) h2k (fun x hx => same_below bel (hlt x (List.mem_append_right _ (List.mem_append_right _ hx)))) (fun x hx => by simpa using hlt x (List.mem_append_right _ (List.mem_append_right _ hx)))
  exact ⟨_, rfl, _, _, _, [], _, [], hW', trodAll_mk1 (shut_bool Try.underlying4 _), trodAll_mk3 ARG0 ARG1 ARG2, rfl, bel.frame _, fun h => by cases h⟩
theorem over : Rows.diskMeansRow.holds Try.pinned (OpenSpec.ofChange Rows.diskMeansSpec) :=
  OpenClaim.holds_of_wide 3 Try.f3 rfl rfl rfl rfl rfl rfl rfl ⟨rfl, rfl, rfl, rfl, rfl⟩ rfl rfl rfl rfl rfl (by kernel_rfl) Try.func3 (by kernel_rfl)
    (of_decide_eq_true (by kernel_rfl)) (by unfold Func.isWrapper; first | (rw [if_pos (by decide +kernel)]; kernel_rfl) | (rw [if_neg (by decide +kernel)]; exact ⟨rfl, rfl⟩))
    (fun os started H enc _ => lifted os started H enc)
theorem proved : Rows.DiskMeansSaid := over
#print axioms proved
end
end Go.Proofs.Ytmjmpmmonelmmaa.dsk
end
