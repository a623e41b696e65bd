/-
  OWN WORK, A PART: an abstract machine for the program's text that the kernel can run, and the proof that it is sound: what it answers is what the program answers; contracts of functions by it. No condition.
-/
import Derived.Test.YtidmijpfoodkoaaWgA
section
open Go Go.Ax Go.Proofs
namespace Go.Proofs.Ytidmijpfoodkoaa.gho
set_option linter.unusedVariables false
def inY (l : List (Int × Int)) (b p : Int) : Bool := (b :: up l b).any (eqF p)
def comm (l : List (Int × Int)) (a b : Int) : Option Int := (a :: up l a).find? (inY l b)
section
variable {l : List (Int × Int)} {g p a b : Int} {n k m : Nat} {c cp : Cap} {cs : List AV} {S : ASt} {y : List Int}
def rY (y : List Int) : AO := .cells (y.map gU) true
noncomputable abbrev SCl (l : List (Int × Int)) (n : Nat) (c : Cap) (cs : List AV) (y : List Int) (cp : Cap) (g : Int) : ASt := SC (vR n c) (mO l) (.cells cs true) (rY y) y.length cp g
noncomputable def lrD : AO := .loop .done (some .ret) frD [33] as24 bo24 9
noncomputable abbrev SCf (l : List (Int × Int)) (n : Nat) (c : Cap) (cs : List AV) (y : List Int) (cp : Cap) (p : Int) : ASt := mkSt [(0, tO (vR n c)), (1, mO l), (2, .cells cs true), (3, cG p), (4, cB true), (5, rY y), (6, bxS (vY y.length cp)), (7, bxT), (8, bxG p), (9, .defd), (10, lrD)] 11
theorem frD_refs : ∀ t, refsV 11 ((frD.m.get t).getD undefA) := by
  intro t
  unfold frD
  rw [xFr_get]
  by_cases ht : t < 38
  · simp only [ht, if_true]
    rcases lkp_mem (l := [(6, pO 3), (7, pO 4), (8, pO 6), (32, clO 7 8)]) (t := t) with e | ⟨p, p1, _, p3⟩
    · rw [e]; simp [refsV]
    · rw [← p3]
      simp only [List.mem_cons, List.not_mem_nil, or_false] at p1
      rcases p1 with rfl | rfl | rfl | rfl <;> simp [refsV, pO, clO]
  · simp only [ht, if_false]; simp [undefA, refsV]
def QP (l : List (Int × Int)) (n : Nat) (c : Cap) (cs : List AV) (y : List Int) (cp : Cap) (g : Int) (q : Exit × AFr × ASt) : Prop :=
  (hasK l g = false ∧ Stops 11 (.exit 0) (fr55 10 7 8) (SCl l n c cs y cp g) q) ∨
  (hasK l g = true ∧ eqF (parK l g) (.ofNat 0) = true ∧ Stops 11 .ret (fr55 10 7 8) (SCl l n c cs y cp (parK l g)) q) ∨
  (hasK l g = true ∧ eqF (parK l g) (.ofNat 0) = false ∧ y.any (eqF (parK l g)) = true ∧ Stops 11 .ret (fr55 10 7 8) (SCf l n c cs y cp (parK l g)) q) ∨
  (hasK l g = true ∧ eqF (parK l g) (.ofNat 0) = false ∧ y.any (eqF (parK l g)) = false ∧ Stops 11 .normal (fr55 10 7 8) (SCl l n c cs y cp (parK l g)) q)
theorem QP.can {q : Exit × AFr × ASt} {ko : List Nat} (h : QP l n c cs y cp g (canR [0, 1, 2] ko q)) : QP l n c cs y cp g q :=
  h.imp (fun h => ⟨h.1, h.2.can⟩) (fun h => h.imp (fun h => ⟨h.1, h.2.1, h.2.2.can⟩) (fun h => h.imp (fun h => ⟨h.1, h.2.1, h.2.2.1, h.2.2.2.can⟩) (fun h => ⟨h.1, h.2.1, h.2.2.1, h.2.2.2.can⟩)))
theorem rY_slv (h : S.h.get 5 = some (rY y)) : SlV S (.slice (some (5, 0)) y.length cp) y := .row h (by rw [← List.length_map (f := gU)]; exact takeL_all)
theorem con_at (h : S.h.get 5 = some (rY y)) (hl : y.length < 100000) {w : Bool} (hw : y.any (eqF p) = w) : Call1 Try.prog 44 [.slice (some (5, 0)) y.length cp, .int .u64 p] S (.bool w, S) := by
  rw [← hw]
  exact contains_any (rY_slv h) (by omega)
theorem roundP (hc : ∀ v, v ∈ cs → refsV 0 v) (hl : y.length < 100000) : Trip Try.prog 11 none L55 (fr55 10 7 8) (SCl l n c cs y cp g) (QP l n c cs y cp g) := by
  have hs : ∀ {st : ASt} {z g' : Int} {w : Bool} {lr : AO}, refsO2 11 lr → st.h.get 0 = some (tO (vR n c)) → st.h.get 1 = some (mO l) → st.h.get 2 = some (.cells cs true) → st.h.get 3 = some (cG z) → st.h.get 4 = some (cB w) → st.h.get 5 = some (rY y) → st.h.get 6 = some (bxS (vY y.length cp)) →
      st.h.get 7 = some bxT → st.h.get 8 = some (bxG g') → st.h.get 9 = some .defd → st.h.get 10 = some lr →
      StP [0, 1, 2, 3, 4, 5, 6, 7, 8, 9, 10] st [(0, tO (vR n c)), (1, mO l), (2, .cells cs true), (3, cG z), (4, cB w), (5, rY y), (6, bxS (vY y.length cp)), (7, bxT), (8, bxG g'), (9, .defd), (10, lr)] := fun hlr h0 h1 h2 h3 h4 h5 h6 h7 h8 h9 h10 =>
    .cons 0 _ rfl h0 (.of rfl) <| .cons 1 _ rfl h1 mO_ren <| .cons 2 _ rfl h2 (.row hc) <| .cons 3 _ rfl h3 (.of rfl) <| .cons 4 _ rfl h4 (.of rfl) <| .cons 5 _ rfl h5 (.row gU_refs) <| .cons 6 _ rfl h6 (.of rfl) <| .cons 7 _ rfl h7 (.of rfl) <| .cons 8 _ rfl h8 (.of rfl) <|
      .cons 9 _ rfl h9 (.keep (kb := 11) rfl trivial) <| .cons 10 _ rfl h10 (.keep (kb := 11) rfl hlr) .nil
  have hlC : refsO2 11 lrC := ⟨frD_refs, by decide⟩
  have hlD : refsO2 11 lrD := ⟨frD_refs, by decide⟩
  cases hg : hasK l g with
  | false =>
    exact (Trip.runY EUok noSum_ok (Eq.mp (vcPx (vR n c) (mO l) (.cells cs true) (rY y) y.length cp g (QP l n c cs y cp g)) ⟨lk_n (by kernel_rfl) hg, .inl ⟨hg, rfl, Wk.refl _ _ _⟩⟩)).mono fun q hq => hq.can
  | true =>
    cases hp : eqF (parK l g) (.ofNat 0) with
    | true =>
      refine (Trip.runY EUok noSum_ok (Eq.mp (vcPy (vR n c) (mO l) (.cells cs true) (rY y) y.length cp g (parK l g) (QP l n c cs y cp g)) ⟨lk_t (by kernel_rfl) hg, lk_p (by kernel_rfl) hg, trivial, eq_b (fun z => by kernel_rfl) hp, .inr (.inl ⟨hg, hp, rfl, ?_⟩)⟩)).mono fun q hq => hq.can
      exact Wk.heldX (kb := 11) [0, 1, 2, 3, 4, 5, 6, 7, 8, 9, 10] (by kernel_rfl) (by kernel_rfl) [0, 1, 2] (by kernel_rfl) (hs hlC (by kernel_rfl) (by kernel_rfl) (by kernel_rfl) (by kernel_rfl) (by kernel_rfl) (by kernel_rfl) (by kernel_rfl) (by kernel_rfl) (by kernel_rfl) (by kernel_rfl) (by kernel_rfl))
    | false =>
      cases hy : y.any (eqF (parK l g)) with
      | true =>
        refine (Trip.runY EUok (sum := onlyC [44] (tabC [_])) (onlyC_ok (tabC_ok fun e he => by
          simp only [List.mem_cons, List.not_mem_nil, or_false] at he
          subst he; exact con_at (cp := cp) (by kernel_rfl) hl hy)) (Eq.mp (vcPf (tabC [_]) (vR n c) (mO l) (.cells cs true) (rY y) y.length cp g (parK l g) (QP l n c cs y cp g)) ⟨lk_t (by kernel_rfl) hg, lk_p (by kernel_rfl) hg, trivial, eq_b (fun z => by kernel_rfl) hp, call_at (onlyC_at rfl (tabC_hd ..)), .inr (.inr (.inl ⟨hg, hp, hy, rfl, ?_⟩))⟩)).mono fun q hq => hq.can
        exact Wk.heldX (kb := 11) [0, 1, 2, 3, 4, 5, 6, 7, 8, 9, 10] (by kernel_rfl) (by kernel_rfl) [0, 1, 2] (by kernel_rfl) (hs hlD (by kernel_rfl) (by kernel_rfl) (by kernel_rfl) (by kernel_rfl) (by kernel_rfl) (by kernel_rfl) (by kernel_rfl) (by kernel_rfl) (by kernel_rfl) (by kernel_rfl) (by kernel_rfl))
      | false =>
        refine (Trip.runY EUok (sum := onlyC [44] (tabC [_])) (onlyC_ok (tabC_ok fun e he => by
          simp only [List.mem_cons, List.not_mem_nil, or_false] at he
          subst he; exact con_at (cp := cp) (by kernel_rfl) hl hy)) (Eq.mp (vcPn (tabC [_]) (vR n c) (mO l) (.cells cs true) (rY y) y.length cp g (parK l g) (QP l n c cs y cp g)) ⟨lk_t (by kernel_rfl) hg, lk_p (by kernel_rfl) hg, trivial, eq_b (fun z => by kernel_rfl) hp, call_at (onlyC_at rfl (tabC_hd ..)), .inr (.inr (.inr ⟨hg, hp, hy, rfl, ?_⟩))⟩)).mono fun q hq => hq.can
        exact Wk.heldX (kb := 11) [0, 1, 2, 3, 4, 5, 6, 7, 8, 9, 10] (by kernel_rfl) (by kernel_rfl) [0, 1, 2] (by kernel_rfl) (hs hlC (by kernel_rfl) (by kernel_rfl) (by kernel_rfl) (by kernel_rfl) (by kernel_rfl) (by kernel_rfl) (by kernel_rfl) (by kernel_rfl) (by kernel_rfl) (by kernel_rfl) (by kernel_rfl))
def foundP (l : List (Int × Int)) (y : List Int) (g : Int) : Option Int := (up l g).find? fun p => y.any (eqF p)
theorem loopP (hc : ∀ v, v ∈ cs → refsV 0 v) (hT : TreeOk l) (hl : y.length < 100000) :
    Trip Try.prog 11 none c55 (fr55 10 7 8) (SCl l n c cs y cp g) fun q => (q.1 = .normal ∨ q.1 = .ret) ∧ ((foundP l y g = none ∧ ∃ g', Wk 11 q.2.1 q.2.2 (fr55 10 7 8) (SCl l n c cs y cp g')) ∨ (∃ p, foundP l y g = some p ∧ Wk 11 q.2.1 q.2.2 (fr55 10 7 8) (SCf l n c cs y cp p))) := by
  have hsh : c55 = .block 0 (.loop L55) := by kernel_rfl
  rw [hsh]
  refine Trip.block (Trip.loop (fun μ fr st => ∃ g', foundP l y g = foundP l y g' ∧ μ = rankK l g' ∧ fr = fr55 10 7 8 ∧ st = SCl l n c cs y cp g') ?_ (rankK l g) ⟨g, rfl, rfl, rfl, rfl⟩)
  rintro μ fr st ⟨g', he, rfl, rfl, rfl⟩
  refine (roundP hc hl).mono ?_
  rintro ⟨x, fr', st'⟩ (⟨h1, h2, h3⟩ | ⟨h1, h2, h3, h4⟩ | ⟨h1, h2, h3, h4, h5⟩ | ⟨h1, h2, h3, h4, h5⟩)
  · simp only at h2
    subst h2
    have hf : foundP l y g = none := by rw [he]; unfold foundP; rw [up_none h1]; rfl
    exact ⟨fun _ => ⟨.inl rfl, .inl ⟨hf, _, h3⟩⟩, fun h => absurd rfl h⟩
  · simp only at h3
    subst h3
    have hf : foundP l y g = none := by rw [he]; unfold foundP; rw [up_root h2]; rfl
    exact ⟨.inr rfl, .inl ⟨hf, _, h4⟩⟩
  · simp only at h4
    subst h4
    have hf : foundP l y g = some (parK l g') := by rw [he]; unfold foundP; rw [up_step hT h1 h2, List.find?_cons, h3]
    exact ⟨.inr rfl, .inr ⟨_, hf, h5⟩⟩
  · simp only at h4
    subst h4
    have hf : foundP l y g' = foundP l y (parK l g') := by unfold foundP; rw [up_step hT h1 h2, List.find?_cons, h3]
    exact ⟨rankK l (parK l g'), _, _, (hT.par g' h1 h2).2, h5, parK l g', by rw [he, hf], rfl, rfl, rfl⟩
end
end Go.Proofs.Ytidmijpfoodkoaa.gho
end

section
open Go Go.Ax Go.Proofs
namespace Go.Proofs.Ytidmijpfoodkoaa.gho
set_option linter.unusedVariables false
section
variable {l : List (Int × Int)} {g p a b z : Int} {n k m : Nat} {c cp : Cap} {cs : List AV} {S : ASt} {y : List Int} {w : Bool}
def comV (l : List (Int × Int)) (a b : Int) : Int × Bool := bif hasK l a && hasK l b then (match comm l a b with | some p => (p, true) | none => (0, false)) else (0, false)
def QK (l : List (Int × Int)) (n : Nat) (c : Cap) (cs : List AV) (z : Int) (w : Bool) (v : AV × ASt) : Prop := v.1 = .tuple [gU z, .bool w] ∧ v.2.next ≤ 100 ∧ v.2.h.get 0 = some (tO (vR n c)) ∧ v.2.h.get 1 = some (mO l) ∧ v.2.h.get 2 = some (.cells cs true)
def QE (l : List (Int × Int)) (n : Nat) (c : Cap) (cs : List AV) (z : Int) (w : Bool) (q : Exit × AFr × ASt) : Prop := (q.1 = .normal ∨ q.1 = .ret) ∧ ∃ v, leaveA EU Try.f24 q.2.1 q.2.2 = some v ∧ QK l n c cs z w v
def QW (Q : Exit × AFr × ASt → Prop) (r : Exit × AFr × ASt) : Prop := ∃ F S, Wk 3 r.2.1 r.2.2 F S ∧ Q (r.1, F, S)
theorem QW.self {Q : Exit × AFr × ASt → Prop} {r : Exit × AFr × ASt} (h : Q r) : QW Q r := ⟨_, _, Wk.refl _ _ _, h⟩
theorem QW.end {Q : Exit × AFr × ASt → Prop} {kf ko : List Nat} {r : Exit × AFr × ASt} {x : Exit} {F : AFr} {S : ASt} (h : canR kf ko r = (x, F, S)) (hq : Q (x, F, S)) : QW Q r := by
  obtain ⟨r1, r2, r3⟩ := r
  simp only [canR, Prod.mk.injEq] at h
  obtain ⟨rfl, rfl, rfl⟩ := h
  exact ⟨_, _, Wk.can _ _ _ _ _, hq⟩
noncomputable abbrev frX : AFr := xFr [(6, .ptr (some (3, 0))), (7, .ptr (some (4, 0)))] 38
theorem shape24 : dropC 2 c24 = .seq (seqL (dropC 2 c24)) (.seq (.seq (seqL (seqL (dropC 3 c24))) (.block 0 r24)) (dropC 4 c24)) := by kernel_rfl
theorem range24 : r24 = .rangeFunc (.tmp 32) #[33] as24 bo24 := by kernel_rfl
theorem tail24 (hc : ∀ v, v ∈ cs → refsV 0 v) (hT : TreeOk l) (hl : y.length < 100000) (hz : (z, w) = (match foundP l y a with | some p => (p, true) | none => ((0 : Int), false))) :
    Trip Try.prog 3 none (dropC 3 c24) (fr24b a) (SC1 (vR n c) (mO l) (.cells cs true) (rY y) y.length cp) (QW (QE l n c cs z w)) := by
  have hsh : dropC 3 c24 = .seq (.seq (seqL (seqL (dropC 3 c24))) (.block 0 r24)) (dropC 4 c24) := by kernel_rfl
  rw [hsh]
  refine Trip.seq (R := fun q => (q.1 = .normal ∧ (z, w) = (0, false) ∧ Wk 3 q.2.1 q.2.2 frE24 (SCz (vR n c) (mO l) (.cells cs true) 0 false)) ∨ (q.1 ≠ .normal ∧ QW (QE l n c cs z w) q)) ?_ (fun fr' st' hq => ?_) (fun e fr' st' hne hq => ?_)
  · refine Trip.seq (R := fun q => canR [6, 7, 8, 32] KO130 q = (.normal, frD, vcNe_s0 (vR n c) (mO l) (.cells cs true) (rY y) y.length cp a)) (Trip.runY EUok noSum_ok (Eq.mp (vcNe (vR n c) (mO l) (.cells cs true) (rY y) y.length cp a (fun q => q = (.normal, frD, vcNe_s0 (vR n c) (mO l) (.cells cs true) (rY y) y.length cp a))) rfl)) (fun fr' st' hq => ?_) (fun e fr' st' hne hq => absurd (congrArg Prod.fst hq) hne)
    simp only [canR, Prod.mk.injEq, true_and] at hq
    obtain ⟨q1, q2⟩ := hq
    refine Trip.less (Wk.can 3 [6, 7, 8, 32] KO130 fr' st') ?_
    rw [q1, q2, range24]
    refine Trip.block (Trip.range EUok (f := 55) (caps := [pO 7, pO 8]) (by kernel_rfl) (fn := Try.f55) (by kernel_rfl) (cb := c55) (by kernel_rfl) (l := 10) (by kernel_rfl) (by kernel_rfl)
      (R := fun v => (foundP l y a = none ∧ ∃ g', v.2 = SCl l n c cs y cp g') ∨ (∃ p, foundP l y a = some p ∧ v.2 = SCf l n c cs y cp p)) ?_ ?_)
    · have e1 : ({ m := putArgs (AV.yield 10 :: [pO 7, pO 8]) 0 .e, n := Try.f55.ntmps, defs := [] } : AFr) = { m := putArgs [.yield 10, pO 7, pO 8] 0 .e, n := 21, defs := [] } := by kernel_rfl
      rw [e1]
      have e2 : ((vcNe_s0 (vR n c) (mO l) (.cells cs true) (rY y) y.length cp a).add .defd).add (.loop .ready none frD (#[33] : Array Tmp).toList as24 bo24 (vcNe_s0 (vR n c) (mO l) (.cells cs true) (rY y) y.length cp a).next) = SCl l n c cs y cp a := by kernel_rfl
      rw [e2]
      refine Trip.less (fr' := fr55 10 7 8) (st' := SCl l n c cs y cp a) ?_ ?_
      · have e3 : canF [0, 1, 2] ({ m := putArgs [.yield 10, pO 7, pO 8] 0 .e, n := 21, defs := [] } : AFr) = fr55 10 7 8 := by kernel_rfl
        have e4 : canS KO130 (SCl l n c cs y cp a) = SCl l n c cs y cp a := by kernel_rfl
        have := Wk.can 11 [0, 1, 2] KO130 ({ m := putArgs [.yield 10, pO 7, pO 8] 0 .e, n := 21, defs := [] } : AFr) (SCl l n c cs y cp a)
        rw [e3, e4] at this
        exact this
      · refine Trip.weak (loopP hc hT hl) fun q ⟨h1, h2⟩ => ?_
        rcases h2 with ⟨h2, g', h3⟩ | ⟨p, h2, h3⟩
        · exact ⟨_, _, h3, h1, (retV [], SCl l n c cs y cp g'), by kernel_rfl, .inl ⟨h2, g', rfl⟩⟩
        · exact ⟨_, _, h3, h1, (retV [], SCf l n c cs y cp p), by kernel_rfl, .inr ⟨p, h2, rfl⟩⟩
    · rintro v (⟨h2, g', hv⟩ | ⟨p, h2, hv⟩)
      · refine ⟨.ready, none, frD, [33], as24, bo24, 9, by rw [hv]; kernel_rfl, (fun e => by cases e), ?_⟩
        have hzw : (z, w) = ((0 : Int), false) := by rw [hz, h2]
        refine .inl ⟨rfl, hzw, ?_⟩
        rw [hv]
        refine Wk.pick (ls := [(0, tO (vR n c)), (1, mO l), (2, .cells cs true), (3, cG 0), (4, cB false), (9, .defd)]) (nx := 11) ?_ (Nat.le_refl 11)
        intro p hp
        simp only [List.mem_cons, List.not_mem_nil, or_false] at hp
        rcases hp with rfl | rfl | rfl | rfl | rfl | rfl <;> kernel_rfl
      · refine ⟨.done, some .ret, frD, [33], as24, bo24, 9, by rw [hv]; kernel_rfl, (fun e => by cases e), ?_⟩
        have hzw : (z, w) = (p, true) := by rw [hz, h2]
        simp only [Prod.mk.injEq] at hzw
        obtain ⟨rfl, rfl⟩ := hzw
        rw [hv]
        refine Trip.exec EUok noSum_ok (n := 5) (r := (.ret, frE24, (SCf l n c cs y cp z).put 10 .dead)) (by kernel_rfl) (.inr ⟨by simp, .self ⟨.inr rfl, (.tuple [gU z, .bool true], ((SCf l n c cs y cp z).put 10 .dead).put 9 .dead), by kernel_rfl, rfl, by show 11 ≤ 100; decide, by kernel_rfl, by kernel_rfl, by kernel_rfl⟩⟩)
  · rcases hq with ⟨_, hzw, h2⟩ | ⟨h1, _⟩
    · simp only [Prod.mk.injEq] at hzw
      obtain ⟨rfl, rfl⟩ := hzw
      refine Trip.less h2 ((Trip.runY EUok noSum_ok (Eq.mp (vcPz (vR n c) (mO l) (.cells cs true) 0 false (fun q => q = (.ret, { m := frX.m, n := 38, defs := [9] }, vcPz_s0 (vR n c) (mO l) (.cells cs true)))) rfl)).mono fun q hq => ?_)
      refine QW.end hq ⟨.inr rfl, (.tuple [gU 0, .bool false], (vcPz_s0 (vR n c) (mO l) (.cells cs true)).put 9 .dead), by kernel_rfl, rfl, by show 11 ≤ 100; decide, by kernel_rfl, by kernel_rfl, by kernel_rfl⟩
    · exact absurd rfl h1
  · rcases hq with ⟨h1, _⟩ | ⟨_, h2⟩
    · exact absurd h1 hne
    · exact h2
theorem ap_nil : aBuiltinM EU .append [57, 57] [.slice (some (5, 0)) 1 (.known 1), .slice none 0 (.known 0)] S = some (.slice (some (5, 0)) 1 (.known 1), S) := by kernel_rfl
theorem found_eq (hc : ∀ v, v ∈ cs → refsV 0 v) : (match comm l a b with | some p => (p, true) | none => ((0 : Int), false)) = bif inY l b a then (a, true) else (match foundP l (b :: up l b) a with | some p => (p, true) | none => ((0 : Int), false)) := by
  unfold comm foundP
  rw [List.find?_cons]
  cases h : inY l b a <;> rfl
theorem mid24 (hc : ∀ v, v ∈ cs → refsV 0 v) (hT : TreeOk l) (hl : (b :: up l b).length < 100000) (hz : (z, w) = (match comm l a b with | some p => (p, true) | none => ((0 : Int), false))) :
    Trip Try.prog 3 none (dropC 2 c24) (fr24b a) (SC1 (vR n c) (mO l) (.cells cs true) (rY (b :: up l b)) (b :: up l b).length cp) (QW (QE l n c cs z w)) := by
  rw [found_eq hc] at hz
  generalize hyy : b :: up l b = y at *
  have hin : inY l b a = y.any (eqF a) := by unfold inY; rw [hyy]
  rw [hin] at hz
  cases hy : y.any (eqF a) with
  | true =>
    rw [hy] at hz
    simp only [cond_true, Prod.mk.injEq] at hz
    obtain ⟨rfl, rfl⟩ := hz
    refine Trip.preY EUok (sum := onlyC [44] (tabC [_])) (onlyC_ok (tabC_ok fun e he => by
          simp only [List.mem_cons, List.not_mem_nil, or_false] at he
          subst he; exact con_at (cp := cp) (by kernel_rfl) hl hy)) (k := 0) (kf := [6, 7]) (ko := KO130) (by kernel_rfl) (Q1 := fun q => q = (.ret, frX, vcNc_s1 (vR n c) (mO l) (.cells cs true) (rY y) y.length cp z)) (Eq.mp (vcNc (tabC [_]) (vR n c) (mO l) (.cells cs true) (rY y) y.length cp z (fun q => q = (.ret, frX, vcNc_s1 (vR n c) (mO l) (.cells cs true) (rY y) y.length cp z))) ⟨call_at (onlyC_at rfl (tabC_hd ..)), rfl⟩)
      (fun F S hq => by cases hq) (fun r hne hq => QW.end hq ⟨.inr rfl, (.tuple [gU z, .bool true], vcNc_s1 (vR n c) (mO l) (.cells cs true) (rY y) y.length cp z), by kernel_rfl, rfl, by show 7 ≤ 100; decide, by kernel_rfl, by kernel_rfl, by kernel_rfl⟩)
  | false =>
    rw [hy] at hz
    simp only [cond_false] at hz
    refine Trip.preY EUok (sum := onlyC [44] (tabC [_])) (onlyC_ok (tabC_ok fun e he => by
          simp only [List.mem_cons, List.not_mem_nil, or_false] at he
          subst he; exact con_at (cp := cp) (by kernel_rfl) hl hy)) (k := 0) (kf := [0, 1, 6, 7, 8]) (ko := KO130) (by kernel_rfl) (Q1 := fun q => q = (.normal, fr24b a, vcNd_s0 (vR n c) (mO l) (.cells cs true) (rY y) y.length cp)) (Eq.mp (vcNd (tabC [_]) (vR n c) (mO l) (.cells cs true) (rY y) y.length cp a (fun q => q = (.normal, fr24b a, vcNd_s0 (vR n c) (mO l) (.cells cs true) (rY y) y.length cp))) ⟨call_at (onlyC_at rfl (tabC_hd ..)), rfl⟩)
      (fun F S hq => ?_) (fun r hne hq => absurd (congrArg Prod.fst hq) hne)
    cases hq
    have e1 : dropC 0 (dropC 2 c24) = dropC 3 c24 := by kernel_rfl
    rw [e1]
    exact tail24 hc hT hl hz
theorem pre24 (hc : ∀ v, v ∈ cs → refsV 0 v) (hT : TreeOk l) (hl : (up l b).length < 90000) (hz : (z, w) = (match comm l a b with | some p => (p, true) | none => ((0 : Int), false))) :
    Trip Try.prog 3 none (dropC 1 c24) (fr24 a b) (SC0 (vR n c) (mO l) (.cells cs true)) (QW (QE l n c cs z w)) := by
  have e1 : dropC 0 (dropC 1 c24) = dropC 2 c24 := by kernel_rfl
  cases hu : up l b with
  | nil =>
    have hcall : Call1 Try.prog 26 [.ptr (some (0, 0)), .int .u64 b] (vcNa_s0 (vR n c) (mO l) (.cells cs true) b) (.slice none 0 (.known 0), vcNa_s1 (vR n c) (mO l) (.cells cs true) b) := by
      have := up_at (n := n) (c := c) (S := vcNa_s0 (vR n c) (mO l) (.cells cs true) b) (g := b) ⟨by kernel_rfl, by kernel_rfl, by kernel_rfl, hc⟩ hT (by omega)
      rw [hu] at this
      exact Call1.mem (by kernel_rfl) this
    refine Trip.preY EUok (sum := onlyC [26] (tabC [_])) (onlyC_ok (tabC_ok fun e he => by
          simp only [List.mem_cons, List.not_mem_nil, or_false] at he
          subst he; exact hcall)) (k := 0) (kf := [0, 1, 6, 7, 8]) (ko := KO130) (by kernel_rfl) (Q1 := fun q => q = (.normal, xFr [(0, .ptr (some (0, 0))), (1, .int .u64 a), (6, .ptr (some (3, 0))), (7, .ptr (some (4, 0))), (8, .ptr (some (106, 0)))] 38, vcNa_s2 (vR n c) (mO l) (.cells cs true) b)) (Eq.mp (vcNa (tabC [_]) (vR n c) (mO l) (.cells cs true) a b (fun q => q = (.normal, xFr [(0, .ptr (some (0, 0))), (1, .int .u64 a), (6, .ptr (some (3, 0))), (7, .ptr (some (4, 0))), (8, .ptr (some (106, 0)))] 38, vcNa_s2 (vR n c) (mO l) (.cells cs true) b))) ⟨call_at (onlyC_at rfl (tabC_hd ..)), ap_nil, rfl⟩)
      (fun F S hq => ?_) (fun r hne hq => absurd (congrArg Prod.fst hq) hne)
    cases hq
    rw [e1]
    refine Trip.less (fr' := fr24b a) (st' := SC1 (vR n c) (mO l) (.cells cs true) (rY (b :: up l b)) (b :: up l b).length (.known 1)) ?_ (mid24 hc hT (by simp; omega) hz)
    rw [hu]
    exact Wk.heldX (kb := 3) [0, 1, 2, 3, 4, 5, 106] (by kernel_rfl) (by kernel_rfl) [0, 1, 6, 7, 8] (by kernel_rfl)
      (.cons 0 (tO (vR n c)) rfl (by kernel_rfl) (.of rfl) <| .cons 1 (mO l) rfl (by kernel_rfl) mO_ren <| .cons 2 (.cells cs true) rfl (by kernel_rfl) (.row hc) <| .cons 3 (cG 0) rfl (by kernel_rfl) (.of rfl) <| .cons 4 (cB false) rfl (by kernel_rfl) (.of rfl) <| .cons 5 (rY [b]) rfl (by kernel_rfl) (.row gU_refs) <| .cons 106 (.cells [.slice (some (5, 0)) 1 (.known 1)] true) rfl (by kernel_rfl) (.of rfl) .nil)
  | cons u e =>
    have hcall : Call1 Try.prog 26 [.ptr (some (0, 0)), .int .u64 b] (vcNb_s0 (vR n c) (mO l) (.cells cs true) b) (slU 19 (e.length + 1), vcNb_s1 (vR n c) (mO l) (.cells cs true) b (Ux (u :: e))) := by
      have := up_at (n := n) (c := c) (S := vcNb_s0 (vR n c) (mO l) (.cells cs true) b) (g := b) ⟨by kernel_rfl, by kernel_rfl, by kernel_rfl, hc⟩ hT (by omega)
      rw [hu] at this
      exact Call1.mem (by kernel_rfl) this
    have hle : e.length + 1 < 90000 := by rw [hu] at hl; exact hl
    have hap : aBuiltinM EU .append [57, 57] [.slice (some (5, 0)) 1 (.known 1), slU 19 (e.length + 1)] (vcNb_s1 (vR n c) (mO l) (.cells cs true) b (Ux (u :: e))) = some (.slice (some (106, 0)) (e.length + 1 + 1) (.rest 1), vcNb_s2 (vR n c) (mO l) (.cells cs true) b (Ux (u :: e)) (rY (b :: u :: e))) := by
      refine (append_full_at (l := 1) (i := 5) (o := 0) (n := e.length + 1) (new := (u :: e).map gU) (old := [gU b]) ap57 rfl (first_at (cs := (u :: e).map gU) (rw := true) (by kernel_rfl) (by rw [Nat.mul_one, show e.length + 1 = ((u :: e).map gU).length by simp]; exact takeL_all)) (first_at (cs := [gU b]) (rw := true) (by kernel_rfl) rfl) (by omega) (by omega) (by omega)).trans ?_
      rw [Nat.add_comm 1 (e.length + 1)]
      kernel_rfl
    refine Trip.preY EUok (sum := onlyC [26] (tabC [_])) (onlyC_ok (tabC_ok fun e he => by
          simp only [List.mem_cons, List.not_mem_nil, or_false] at he
          subst he; exact hcall)) (k := 0) (kf := [0, 1, 6, 7, 8]) (ko := KO130) (by kernel_rfl) (Q1 := fun q => q = (.normal, xFr [(0, .ptr (some (0, 0))), (1, .int .u64 a), (6, .ptr (some (3, 0))), (7, .ptr (some (4, 0))), (8, .ptr (some (107, 0)))] 38, vcNb_s3 (vR n c) (mO l) (.cells cs true) b (e.length + 1) (Ux (u :: e)) (rY (b :: u :: e)))) (Eq.mp (vcNb (tabC [_]) (vR n c) (mO l) (.cells cs true) a b (e.length + 1) (slU 19 (e.length + 1)) (Ux (u :: e)) (rY (b :: u :: e)) (fun q => q = (.normal, xFr [(0, .ptr (some (0, 0))), (1, .int .u64 a), (6, .ptr (some (3, 0))), (7, .ptr (some (4, 0))), (8, .ptr (some (107, 0)))] 38, vcNb_s3 (vR n c) (mO l) (.cells cs true) b (e.length + 1) (Ux (u :: e)) (rY (b :: u :: e))))) ⟨call_at (onlyC_at rfl (tabC_hd ..)), hap, rfl⟩)
      (fun F S hq => ?_) (fun r hne hq => absurd (congrArg Prod.fst hq) hne)
    cases hq
    rw [e1]
    refine Trip.less (fr' := fr24b a) (st' := SC1 (vR n c) (mO l) (.cells cs true) (rY (b :: up l b)) (b :: up l b).length (.rest 1)) ?_ (mid24 hc hT (by simp; omega) hz)
    rw [hu]
    exact Wk.heldX (kb := 3) [0, 1, 2, 3, 4, 106, 107] (by kernel_rfl) (by kernel_rfl) [0, 1, 6, 7, 8] (by kernel_rfl)
      (.cons 0 (tO (vR n c)) rfl (by kernel_rfl) (.of rfl) <| .cons 1 (mO l) rfl (by kernel_rfl) mO_ren <| .cons 2 (.cells cs true) rfl (by kernel_rfl) (.row hc) <| .cons 3 (cG 0) rfl (by kernel_rfl) (.of rfl) <| .cons 4 (cB false) rfl (by kernel_rfl) (.of rfl) <| .cons 106 (rY (b :: u :: e)) rfl (by kernel_rfl) (.row gU_refs) <| .cons 107 (.cells [.slice (some (106, 0)) (e.length + 1 + 1) (.rest 1)] true) rfl (by kernel_rfl) (.of rfl) .nil)
theorem trip24 (hc : ∀ v, v ∈ cs → refsV 0 v) (hT : TreeOk l) (hl : (up l b).length < 90000) (hz : (z, w) = comV l a b) :
    Trip Try.prog 3 none c24 (F24 a b) (TR l n c cs) (QW (QE l n c cs z w)) := by
  unfold comV at hz
  have no : ∀ {r : Exit × AFr × ASt}, canR [6, 7] KO130 r = (.ret, frX, SC0 (vR n c) (mO l) (.cells cs true)) → (z, w) = ((0 : Int), false) → QW (QE l n c cs z w) r := fun {r} hq hzw => by
    simp only [Prod.mk.injEq] at hzw
    obtain ⟨rfl, rfl⟩ := hzw
    exact QW.end hq ⟨.inr rfl, (.tuple [gU 0, .bool false], SC0 (vR n c) (mO l) (.cells cs true)), by kernel_rfl, rfl, by show 5 ≤ 100; decide, by kernel_rfl, by kernel_rfl, by kernel_rfl⟩
  cases ha : hasK l a with
  | false =>
    rw [ha] at hz
    exact Trip.preY EUok noSum_ok (k := 1) (kf := [6, 7]) (ko := KO130) (by kernel_rfl) (Q1 := fun q => q = (.ret, frX, SC0 (vR n c) (mO l) (.cells cs true))) (Eq.mp (vcMx (vR n c) (mO l) (.cells cs true) a b 0 (fun q => q = (.ret, frX, SC0 (vR n c) (mO l) (.cells cs true)))) ⟨lk_n (by kernel_rfl) ha, rfl⟩) (fun F S hq => by cases hq) (fun r hne hq => no hq hz)
  | true =>
    cases hb : hasK l b with
    | false =>
      rw [ha, hb] at hz
      exact Trip.preY EUok noSum_ok (k := 1) (kf := [6, 7]) (ko := KO130) (by kernel_rfl) (Q1 := fun q => q = (.ret, frX, SC0 (vR n c) (mO l) (.cells cs true))) (Eq.mp (vcMy (vR n c) (mO l) (.cells cs true) a b (parK l a) (fun q => q = (.ret, frX, SC0 (vR n c) (mO l) (.cells cs true)))) ⟨lk_t (by kernel_rfl) ha, lk_n (by kernel_rfl) hb, rfl⟩) (fun F S hq => by cases hq) (fun r hne hq => no hq hz)
    | true =>
      rw [ha, hb] at hz
      refine Trip.preY EUok noSum_ok (k := 1) (kf := [0, 1, 2, 6, 7]) (ko := KO130) (by kernel_rfl) (Q1 := fun q => q = (.normal, fr24 a b, SC0 (vR n c) (mO l) (.cells cs true))) (Eq.mp (vcMz (vR n c) (mO l) (.cells cs true) a b (parK l a) (parK l b) (fun q => q = (.normal, fr24 a b, SC0 (vR n c) (mO l) (.cells cs true)))) ⟨lk_t (by kernel_rfl) ha, lk_t (by kernel_rfl) hb, rfl⟩) (fun F S hq => ?_) (fun r hne hq => absurd (congrArg Prod.fst hq) hne)
      cases hq
      exact pre24 hc hT hl hz
theorem common_at (hS : TreeAt S l n c cs) (hT : TreeOk l) (hl : (up l b).length < 90000) :
    Call1 Try.prog 24 [pO 0, gU a, gU b] S (.tuple [gU (comV l a b).1, .bool (comV l a b).2], outS (gK 3 S.next) [(0, tO (vR n c)), (1, mO l), (2, .cells cs true)] S (S.next + 100)) := by
  have hcall := Trip.call EUok (f := 24) (fn := Try.f24) (c := c24) (by kernel_rfl) (by kernel_rfl) (args := [pO 0, gU a, gU b]) (st := TR l n c cs) (by kernel_rfl) (R := QK l n c cs (comV l a b).1 (comV l a b).2)
    (by
      have e1 : ({ m := putArgs [pO 0, gU a, gU b] 0 .e, n := Try.f24.ntmps, defs := [] } : AFr) = F24 a b := by kernel_rfl
      rw [e1]
      exact Trip.weak (trip24 (z := (comV l a b).1) (w := (comV l a b).2) hS.refs hT hl rfl) fun r hr => hr)
  refine tree_same (ot := []) (Q1 := QK l n c cs (comV l a b).1 (comV l a b).2) hS (fun B w0 ι W args' hB hsr hv => hcall B hB w0 ι W args' hsr hv) (fun v hv => ?_) fun q hq => ?_
  · simp only [List.mem_cons, List.not_mem_nil, or_false] at hv
    rcases hv with rfl | rfl | rfl <;> kernel_rfl
  · obtain ⟨h1, h2, h3, h4, h5⟩ := hq
    exact ⟨by rw [h1]; exact .keep (by simp [refsV, gU]), h2, h3, h4, h5, fun p hp => by cases hp⟩
end
end Go.Proofs.Ytidmijpfoodkoaa.gho
end

section
open Go Go.Ax Go.Proofs
namespace Go.Proofs.Ytidmijpfoodkoaa.gho
set_option linter.unusedVariables false
noncomputable def EO : Env := envEx Try.prog [0, 3, 4, 28, 48, 49, 51, 52, 54, 57, 73, 89, 91] [(22, Try.f22), (25, Try.f25), (46, Try.f46)] []
noncomputable def c22 : Code := Option.getD Try.f22.body .skip
noncomputable def L22 : Code := lopB (blkB (seqR (seqL (dropC 2 c22))))
def tA (V : AV) : AO := .cells [.map (some 2), V] true
noncomputable def S0 (O : AO) : ASt := mkSt [(0, O)] 1
noncomputable def SO (O : AO) (V : AV) (M R : AO) : ASt := mkSt [(0, O), (1, tA V), (2, M), (3, R)] 4
noncomputable def F22 (g : Int) (V : AV) : AFr := { m := putArgs [gU g, V] 0 .e, n := 61, defs := [] }
noncomputable def fr22 (A : AV) (n i : Nat) : AFr := xFr [(6, pO 1), (18, A), (19, nI n), (20, nI i)] 61
noncomputable def tOx (g : Int) (A : AV) (O : AO) : Tr (Exit × AFr × ASt) := (TM EO noSum flH fl0 60).ex ⟨[10], [], [], []⟩ none (preC 2 c22) (F22 g A) (S0 O)
noncomputable def tOa (g : Int) (A : AV) (O : AO) : Tr (Exit × AFr × ASt) := (TM EO noSum flH fl0 60).ex ⟨[10], [], [], []⟩ none (preC 2 c22) (F22 g A) (S0 O)
noncomputable def tOb (g : Int) (A V : AV) (O M R : AO) (n : Nat) : Tr (Exit × AFr × ASt) := (TM EO noSum flH fl0 60).ex ⟨[19], [], [], []⟩ none (seqL (seqL (dropC 2 c22))) (xFr [(1, A), (6, pO 1)] 61) (SO O V M R)
noncomputable def tRc (A V : AV) (O M R : AO) (n i : Nat) (p c : Int) : Tr (Exit × AFr × ASt) := (TM EO noSum flH fl0 60).ex ⟨[22, 23, 27], [32, 38], [21], []⟩ none L22 (fr22 A n i) (SO O V M R)
noncomputable def tRh (A V : AV) (O M R : AO) (n i : Nat) (p c z : Int) : Tr (Exit × AFr × ASt) := (TM EO noSum flH fl0 60).ex ⟨[22, 23, 27], [32, 38], [21], []⟩ none L22 (fr22 A n i) (SO O V M R)
noncomputable def tRn (A V : AV) (O M R : AO) (n i : Nat) (p c : Int) : Tr (Exit × AFr × ASt) := (TM EO noSum flH fl0 60).ex ⟨[22, 23, 27], [32, 38], [21], []⟩ none L22 (fr22 A n i) (SO O V M R)
noncomputable def tRe (A V : AV) (O M R : AO) (n i m : Nat) (p c z : Int) (M' R' : AO) : Tr (Exit × AFr × ASt) := (TM EO noSum flH fl0 60).ex ⟨[22, 23, 27, 56, 4095], [32, 38], [21], []⟩ none L22 (fr22 A n i) (SO O V M R)
noncomputable def tRg (A V : AV) (O M R : AO) (n i m : Nat) (p c z : Int) (M' R' : AO) : Tr (Exit × AFr × ASt) := (TM EO noSum flH fl0 60).ex ⟨[22, 23, 27, 56, 4095], [32, 38], [21], []⟩ none L22 (fr22 A n i) (SO O V M R)
noncomputable def tOz (A V : AV) (O M R : AO) : Tr (Exit × AFr × ASt) := (TM EO noSum flH fl0 60).ex fl0 none (dropC 3 c22) (xFr [(6, pO 1)] 61) (SO O V M R)
noncomputable def vcOx_s0 (O : AO) : ASt := mkSt [(0, O)] 1
theorem vcOx (g : Int) (A : AV) (O : AO) (Q : Exit × AFr × ASt → Prop) :
  (still (vcOx_s0 O) (aBin EO .eql 48 (.tmp 9) (.const (.int .u64 0)) (.int .u64 g) (.int .u64 (.ofNat 0))) = some (.bool true, vcOx_s0 O) ∧ Q (.ret, xFr [(4, .ptr none), (5, .int .i64 (.ofNat 2))] 61, vcOx_s0 O)) =
  (tOx g A O).allY (fun r => Q (canR [4, 5] KO130 r)) (.v (.bool true, vcOx_s0 O) .nil) := by kernel_rfl
noncomputable def vcOa_s0 (O : AO) : ASt := mkSt [(0, O)] 1
noncomputable def vcOa_s1 (g : Int) (O : AO) : ASt := mkSt [(0, O), (1, .map [(.int .u64 g, .int .u64 (.ofNat 0), 0)] 1), (2, .cells [.int .u64 g] true), (3, .cells [.map (some 1), .slice (some (2, 0)) 1 (.known 1)] true)] 4
theorem vcOa (g : Int) (A : AV) (O : AO) (Q : Exit × AFr × ASt → Prop) :
  (still (vcOa_s0 O) (aBin EO .eql 48 (.tmp 9) (.const (.int .u64 0)) (.int .u64 g) (.int .u64 (.ofNat 0))) = some (.bool false, vcOa_s0 O) ∧ Q (.normal, xFr [(1, A), (6, .ptr (some (3, 0)))] 61, vcOa_s1 g O)) =
  (tOa g A O).allY (fun r => Q (canR [1, 6] KO130 r)) (.v (.bool false, vcOa_s0 O) .nil) := by kernel_rfl
noncomputable def vcOb_s0 (V : AV) (O : AO) (M : AO) (R : AO) : ASt := mkSt [(0, O), (1, .cells [.map (some 2), V] true), (2, M), (3, R)] 4
theorem vcOb (g : Int) (A : AV) (V : AV) (O : AO) (M : AO) (R : AO) (n : Nat) (Q : Exit × AFr × ASt → Prop) :
  (aBuiltinM EO .len [49] [A] (vcOb_s0 V O M R) = some (.int .i64 (.ofNat n), vcOb_s0 V O M R) ∧ Q (.normal, xFr [(6, .ptr (some (1, 0))), (18, A), (19, .int .i64 (.ofNat n)), (20, .int .i64 (.ofNat 0))] 61, vcOb_s0 V O M R)) =
  (tOb g A V O M R n).allY (fun r => Q (canR [6, 18, 19, 20] KO130 r)) (.v (.int .i64 (.ofNat n), vcOb_s0 V O M R) .nil) := by kernel_rfl
noncomputable def vcRc_s0 (V : AV) (O : AO) (M : AO) (R : AO) : ASt := mkSt [(0, O), (1, .cells [.map (some 2), V] true), (2, M), (3, R)] 4
noncomputable def vcRc_s1 (V : AV) (O : AO) (M : AO) (R : AO) (p : Int) (c : Int) : ASt := mkSt [(0, O), (1, .cells [.map (some 2), V] true), (2, M), (3, R), (4, .cells [.int .u64 p, .int .u64 c] true)] 5
theorem vcRc (A : AV) (V : AV) (O : AO) (M : AO) (R : AO) (n : Nat) (i : Nat) (p : Int) (c : Int) (Q : Exit × AFr × ASt → Prop) :
  (ifB (ltF (.ofNat i) (.ofNat n)) (still (vcRc_s0 V O M R) (aIndexAddr EO 49 A (.int .i64 (.ofNat i))) = some (.ptr (some (0, i * 2)), vcRc_s0 V O M R) ∧ aLoad EO 73 (.ptr (some (0, i * 2))) (vcRc_s0 V O M R) = some (.agg [.int .u64 p, .int .u64 c], vcRc_s0 V O M R) ∧ still (vcRc_s1 V O M R p c) (aBin EO .eql 48 (.tmp 26) (.const (.int .u64 0)) (.int .u64 c) (.int .u64 (.ofNat 0))) = some (.bool true, vcRc_s1 V O M R p c) ∧ Q (.ret, xFr [(4, .ptr none), (5, .int .i64 (.ofNat 2)), (6, .ptr (some (1, 0))), (18, A), (19, .int .i64 (.ofNat n)), (20, .int .i64 (.ofNat i))] 61, vcRc_s1 V O M R p c)) (Q (.exit 0, xFr [(4, .any), (5, .any), (6, .ptr (some (1, 0))), (18, A), (19, .int .i64 (.ofNat n)), (20, .int .i64 (.ofNat i))] 61, vcRc_s0 V O M R))) =
  (tRc A V O M R n i p c).allY (fun r => Q (canR [4, 5, 6, 18, 19, 20] KO130 r)) (.b (.v (.ptr (some (0, i * 2)), vcRc_s0 V O M R) (.v (.agg [.int .u64 p, .int .u64 c], vcRc_s0 V O M R) (.v (.bool true, vcRc_s1 V O M R p c) .nil))) .nil) := by kernel_rfl
noncomputable def vcRh_s0 (V : AV) (O : AO) (M : AO) (R : AO) : ASt := mkSt [(0, O), (1, .cells [.map (some 2), V] true), (2, M), (3, R)] 4
noncomputable def vcRh_s1 (V : AV) (O : AO) (M : AO) (R : AO) (p : Int) (c : Int) : ASt := mkSt [(0, O), (1, .cells [.map (some 2), V] true), (2, M), (3, R), (4, .cells [.int .u64 p, .int .u64 c] true)] 5
theorem vcRh (A : AV) (V : AV) (O : AO) (M : AO) (R : AO) (n : Nat) (i : Nat) (p : Int) (c : Int) (z : Int) (Q : Exit × AFr × ASt → Prop) :
  (ifB (ltF (.ofNat i) (.ofNat n)) (still (vcRh_s0 V O M R) (aIndexAddr EO 49 A (.int .i64 (.ofNat i))) = some (.ptr (some (0, i * 2)), vcRh_s0 V O M R) ∧ aLoad EO 73 (.ptr (some (0, i * 2))) (vcRh_s0 V O M R) = some (.agg [.int .u64 p, .int .u64 c], vcRh_s0 V O M R) ∧ still (vcRh_s1 V O M R p c) (aBin EO .eql 48 (.tmp 26) (.const (.int .u64 0)) (.int .u64 c) (.int .u64 (.ofNat 0))) = some (.bool false, vcRh_s1 V O M R p c) ∧ still (vcRh_s1 V O M R p c) (aLookup EO 89 (.map (some 2)) (.int .u64 c) true (vcRh_s1 V O M R p c)) = some (.tuple [.int .u64 z, .bool true], vcRh_s1 V O M R p c) ∧ Q (.ret, xFr [(4, .ptr none), (5, .int .i64 (.ofNat 2)), (6, .ptr (some (1, 0))), (18, A), (19, .int .i64 (.ofNat n)), (20, .int .i64 (.ofNat i))] 61, vcRh_s1 V O M R p c)) (Q (.exit 0, xFr [(4, .any), (5, .any), (6, .ptr (some (1, 0))), (18, A), (19, .int .i64 (.ofNat n)), (20, .int .i64 (.ofNat i))] 61, vcRh_s0 V O M R))) =
  (tRh A V O M R n i p c z).allY (fun r => Q (canR [4, 5, 6, 18, 19, 20] KO130 r)) (.b (.v (.ptr (some (0, i * 2)), vcRh_s0 V O M R) (.v (.agg [.int .u64 p, .int .u64 c], vcRh_s0 V O M R) (.v (.bool false, vcRh_s1 V O M R p c) (.v (.tuple [.int .u64 z, .bool true], vcRh_s1 V O M R p c) .nil)))) .nil) := by kernel_rfl
noncomputable def vcRn_s0 (V : AV) (O : AO) (M : AO) (R : AO) : ASt := mkSt [(0, O), (1, .cells [.map (some 2), V] true), (2, M), (3, R)] 4
noncomputable def vcRn_s1 (V : AV) (O : AO) (M : AO) (R : AO) (p : Int) (c : Int) : ASt := mkSt [(0, O), (1, .cells [.map (some 2), V] true), (2, M), (3, R), (4, .cells [.int .u64 p, .int .u64 c] true)] 5
theorem vcRn (A : AV) (V : AV) (O : AO) (M : AO) (R : AO) (n : Nat) (i : Nat) (p : Int) (c : Int) (Q : Exit × AFr × ASt → Prop) :
  (ifB (ltF (.ofNat i) (.ofNat n)) (still (vcRn_s0 V O M R) (aIndexAddr EO 49 A (.int .i64 (.ofNat i))) = some (.ptr (some (0, i * 2)), vcRn_s0 V O M R) ∧ aLoad EO 73 (.ptr (some (0, i * 2))) (vcRn_s0 V O M R) = some (.agg [.int .u64 p, .int .u64 c], vcRn_s0 V O M R) ∧ still (vcRn_s1 V O M R p c) (aBin EO .eql 48 (.tmp 26) (.const (.int .u64 0)) (.int .u64 c) (.int .u64 (.ofNat 0))) = some (.bool false, vcRn_s1 V O M R p c) ∧ still (vcRn_s1 V O M R p c) (aLookup EO 89 (.map (some 2)) (.int .u64 c) true (vcRn_s1 V O M R p c)) = some (.tuple [.int .u64 (.ofNat 0), .bool false], vcRn_s1 V O M R p c) ∧ still (vcRn_s1 V O M R p c) (aLookup EO 89 (.map (some 2)) (.int .u64 p) true (vcRn_s1 V O M R p c)) = some (.tuple [.int .u64 (.ofNat 0), .bool false], vcRn_s1 V O M R p c) ∧ Q (.ret, xFr [(4, .ptr none), (5, .int .i64 (.ofNat 6)), (6, .ptr (some (1, 0))), (18, A), (19, .int .i64 (.ofNat n)), (20, .int .i64 (.ofNat i))] 61, vcRn_s1 V O M R p c)) (Q (.exit 0, xFr [(4, .any), (5, .any), (6, .ptr (some (1, 0))), (18, A), (19, .int .i64 (.ofNat n)), (20, .int .i64 (.ofNat i))] 61, vcRn_s0 V O M R))) =
  (tRn A V O M R n i p c).allY (fun r => Q (canR [4, 5, 6, 18, 19, 20] KO130 r)) (.b (.v (.ptr (some (0, i * 2)), vcRn_s0 V O M R) (.v (.agg [.int .u64 p, .int .u64 c], vcRn_s0 V O M R) (.v (.bool false, vcRn_s1 V O M R p c) (.v (.tuple [.int .u64 (.ofNat 0), .bool false], vcRn_s1 V O M R p c) (.v (.tuple [.int .u64 (.ofNat 0), .bool false], vcRn_s1 V O M R p c) .nil))))) .nil) := by kernel_rfl
noncomputable def vcRe_s0 (V : AV) (O : AO) (M : AO) (R : AO) : ASt := mkSt [(0, O), (1, .cells [.map (some 2), V] true), (2, M), (3, R)] 4
noncomputable def vcRe_s1 (V : AV) (O : AO) (M : AO) (R : AO) : ASt := mkSt [(0, O), (1, .cells [.map (some 2), V] true), (2, M), (3, R), (4, .cells [.int .u64 (.ofNat 0), .int .u64 (.ofNat 0)] true)] 5
noncomputable def vcRe_s2 (V : AV) (O : AO) (M : AO) (R : AO) (p : Int) (c : Int) : ASt := mkSt [(0, O), (1, .cells [.map (some 2), V] true), (2, M), (3, R), (4, .cells [.int .u64 p, .int .u64 c] true)] 5
noncomputable def vcRe_s3 (V : AV) (O : AO) (M : AO) (R : AO) (p : Int) (c : Int) : ASt := mkSt [(0, O), (1, .cells [.map (some 2), V] true), (2, M), (3, R), (4, .cells [.int .u64 p, .int .u64 c] true)] 14
noncomputable def vcRe_s4 (V : AV) (O : AO) (R : AO) (p : Int) (c : Int) (M' : AO) : ASt := mkSt [(0, O), (1, .cells [.map (some 2), V] true), (2, M'), (3, R), (4, .cells [.int .u64 p, .int .u64 c] true)] 14
noncomputable def vcRe_s5 (V : AV) (O : AO) (R : AO) (p : Int) (c : Int) (M' : AO) : ASt := mkSt [(0, O), (1, .cells [.map (some 2), V] true), (2, M'), (3, R), (4, .cells [.int .u64 p, .int .u64 c] true), (21, .cells [.int .u64 c] true)] 26
noncomputable def vcRe_s6 (V : AV) (O : AO) (R : AO) (p : Int) (c : Int) (M' : AO) (R' : AO) : ASt := mkSt [(0, O), (1, .cells [.map (some 2), V] true), (2, M'), (3, R), (4, .cells [.int .u64 p, .int .u64 c] true), (21, .cells [.int .u64 c] true), (26, R')] 27
noncomputable def vcRe_s7 (O : AO) (R : AO) (m : Nat) (p : Int) (c : Int) (M' : AO) (R' : AO) : ASt := mkSt [(0, O), (1, .cells [.map (some 2), .slice (some (26, 0)) (m + 1) (.rest 1)] true), (2, M'), (3, R), (4, .cells [.int .u64 p, .int .u64 c] true), (21, .cells [.int .u64 c] true), (26, R')] 27
theorem vcRe (A : AV) (V : AV) (O : AO) (M : AO) (R : AO) (n : Nat) (i : Nat) (m : Nat) (p : Int) (c : Int) (z : Int) (M' : AO) (R' : AO) (Q : Exit × AFr × ASt → Prop) :
  (ifB (ltF (.ofNat i) (.ofNat n)) (still (vcRe_s0 V O M R) (aIndexAddr EO 49 A (.int .i64 (.ofNat i))) = some (.ptr (some (0, i * 2)), vcRe_s0 V O M R) ∧ aLoad EO 73 (.ptr (some (0, i * 2))) (vcRe_s0 V O M R) = some (.agg [.int .u64 p, .int .u64 c], vcRe_s0 V O M R) ∧ Option.map (fun s => (undefA, s)) (aStore EO 73 (.ptr (some (4, 0))) (.agg [.int .u64 p, .int .u64 c]) (vcRe_s1 V O M R)) = some (.tuple [], vcRe_s2 V O M R p c) ∧ still (vcRe_s2 V O M R p c) (aBin EO .eql 48 (.tmp 26) (.const (.int .u64 0)) (.int .u64 c) (.int .u64 (.ofNat 0))) = some (.bool false, vcRe_s2 V O M R p c) ∧ still (vcRe_s2 V O M R p c) (aLookup EO 89 (.map (some 2)) (.int .u64 c) true (vcRe_s2 V O M R p c)) = some (.tuple [.int .u64 (.ofNat 0), .bool false], vcRe_s2 V O M R p c) ∧ still (vcRe_s2 V O M R p c) (aLookup EO 89 (.map (some 2)) (.int .u64 p) true (vcRe_s2 V O M R p c)) = some (.tuple [.int .u64 z, .bool true], vcRe_s2 V O M R p c) ∧ Option.map (fun s => (undefA, s)) (aMapUpdate EO 89 (.map (some 2)) (.int .u64 c) (.int .u64 p) (vcRe_s3 V O M R p c)) = some (.tuple [], vcRe_s4 V O R p c M') ∧ holdsO [] ∧ aBuiltinM EO .append [57, 57] [V, .slice (some (21, 0)) 1 (.known 1)] (vcRe_s5 V O R p c M') = some (.slice (some (26, 0)) (m + 1) (.rest 1), vcRe_s6 V O R p c M' R') ∧ Option.map (fun s => (undefA, s)) (aStore EO 57 (.ptr (some (1, 1))) (.slice (some (26, 0)) (m + 1) (.rest 1)) (vcRe_s6 V O R p c M' R')) = some (.tuple [], vcRe_s7 O R m p c M' R') ∧ holdsO [] ∧ Q (.normal, xFr [(6, .ptr (some (1, 0))), (18, A), (19, .int .i64 (.ofNat n)), (20, .int .i64 (wrapF .i64 (.ofNat i + .ofNat 1)))] 61, vcRe_s7 O R m p c M' R')) (Q (.exit 0, xFr [(6, .ptr (some (1, 0))), (18, A), (19, .int .i64 (.ofNat n)), (20, .int .i64 (.ofNat i))] 61, vcRe_s0 V O M R))) =
  (tRe A V O M R n i m p c z M' R').allY (fun r => Q (canR [6, 18, 19, 20] KO130 r)) (.b (.v (.ptr (some (0, i * 2)), vcRe_s0 V O M R) (.v (.agg [.int .u64 p, .int .u64 c], vcRe_s0 V O M R) (.v (.tuple [], vcRe_s2 V O M R p c) (.v (.bool false, vcRe_s2 V O M R p c) (.v (.tuple [.int .u64 (.ofNat 0), .bool false], vcRe_s2 V O M R p c) (.v (.tuple [.int .u64 z, .bool true], vcRe_s2 V O M R p c) (.v (.tuple [], vcRe_s4 V O R p c M') (.v (.slice (some (26, 0)) (m + 1) (.rest 1), vcRe_s6 V O R p c M' R') (.v (.tuple [], vcRe_s7 O R m p c M' R') .nil))))))))) .nil) := by kernel_rfl
noncomputable def vcRg_s0 (V : AV) (O : AO) (M : AO) (R : AO) : ASt := mkSt [(0, O), (1, .cells [.map (some 2), V] true), (2, M), (3, R)] 4
noncomputable def vcRg_s1 (V : AV) (O : AO) (M : AO) (R : AO) : ASt := mkSt [(0, O), (1, .cells [.map (some 2), V] true), (2, M), (3, R), (4, .cells [.int .u64 (.ofNat 0), .int .u64 (.ofNat 0)] true)] 5
noncomputable def vcRg_s2 (V : AV) (O : AO) (M : AO) (R : AO) (p : Int) (c : Int) : ASt := mkSt [(0, O), (1, .cells [.map (some 2), V] true), (2, M), (3, R), (4, .cells [.int .u64 p, .int .u64 c] true)] 5
noncomputable def vcRg_s3 (V : AV) (O : AO) (M : AO) (R : AO) (p : Int) (c : Int) : ASt := mkSt [(0, O), (1, .cells [.map (some 2), V] true), (2, M), (3, R), (4, .cells [.int .u64 p, .int .u64 c] true)] 14
noncomputable def vcRg_s4 (V : AV) (O : AO) (R : AO) (p : Int) (c : Int) (M' : AO) : ASt := mkSt [(0, O), (1, .cells [.map (some 2), V] true), (2, M'), (3, R), (4, .cells [.int .u64 p, .int .u64 c] true)] 14
noncomputable def vcRg_s5 (V : AV) (O : AO) (R : AO) (p : Int) (c : Int) (M' : AO) : ASt := mkSt [(0, O), (1, .cells [.map (some 2), V] true), (2, M'), (3, R), (4, .cells [.int .u64 p, .int .u64 c] true), (21, .cells [.int .u64 c] true)] 26
noncomputable def vcRg_s6 (V : AV) (O : AO) (p : Int) (c : Int) (M' : AO) (R' : AO) : ASt := mkSt [(0, O), (1, .cells [.map (some 2), V] true), (2, M'), (3, .dead), (4, .cells [.int .u64 p, .int .u64 c] true), (21, .cells [.int .u64 c] true), (26, R')] 27
noncomputable def vcRg_s7 (O : AO) (m : Nat) (p : Int) (c : Int) (M' : AO) (R' : AO) : ASt := mkSt [(0, O), (1, .cells [.map (some 2), .slice (some (26, 0)) (m + 1) (.rest 1)] true), (2, M'), (3, .dead), (4, .cells [.int .u64 p, .int .u64 c] true), (21, .cells [.int .u64 c] true), (26, R')] 27
theorem vcRg (A : AV) (V : AV) (O : AO) (M : AO) (R : AO) (n : Nat) (i : Nat) (m : Nat) (p : Int) (c : Int) (z : Int) (M' : AO) (R' : AO) (Q : Exit × AFr × ASt → Prop) :
  (ifB (ltF (.ofNat i) (.ofNat n)) (still (vcRg_s0 V O M R) (aIndexAddr EO 49 A (.int .i64 (.ofNat i))) = some (.ptr (some (0, i * 2)), vcRg_s0 V O M R) ∧ aLoad EO 73 (.ptr (some (0, i * 2))) (vcRg_s0 V O M R) = some (.agg [.int .u64 p, .int .u64 c], vcRg_s0 V O M R) ∧ Option.map (fun s => (undefA, s)) (aStore EO 73 (.ptr (some (4, 0))) (.agg [.int .u64 p, .int .u64 c]) (vcRg_s1 V O M R)) = some (.tuple [], vcRg_s2 V O M R p c) ∧ still (vcRg_s2 V O M R p c) (aBin EO .eql 48 (.tmp 26) (.const (.int .u64 0)) (.int .u64 c) (.int .u64 (.ofNat 0))) = some (.bool false, vcRg_s2 V O M R p c) ∧ still (vcRg_s2 V O M R p c) (aLookup EO 89 (.map (some 2)) (.int .u64 c) true (vcRg_s2 V O M R p c)) = some (.tuple [.int .u64 (.ofNat 0), .bool false], vcRg_s2 V O M R p c) ∧ still (vcRg_s2 V O M R p c) (aLookup EO 89 (.map (some 2)) (.int .u64 p) true (vcRg_s2 V O M R p c)) = some (.tuple [.int .u64 z, .bool true], vcRg_s2 V O M R p c) ∧ Option.map (fun s => (undefA, s)) (aMapUpdate EO 89 (.map (some 2)) (.int .u64 c) (.int .u64 p) (vcRg_s3 V O M R p c)) = some (.tuple [], vcRg_s4 V O R p c M') ∧ holdsO [] ∧ aBuiltinM EO .append [57, 57] [V, .slice (some (21, 0)) 1 (.known 1)] (vcRg_s5 V O R p c M') = some (.slice (some (26, 0)) (m + 1) (.rest 1), vcRg_s6 V O p c M' R') ∧ Option.map (fun s => (undefA, s)) (aStore EO 57 (.ptr (some (1, 1))) (.slice (some (26, 0)) (m + 1) (.rest 1)) (vcRg_s6 V O p c M' R')) = some (.tuple [], vcRg_s7 O m p c M' R') ∧ holdsO [] ∧ Q (.normal, xFr [(6, .ptr (some (1, 0))), (18, A), (19, .int .i64 (.ofNat n)), (20, .int .i64 (wrapF .i64 (.ofNat i + .ofNat 1)))] 61, vcRg_s7 O m p c M' R')) (Q (.exit 0, xFr [(6, .ptr (some (1, 0))), (18, A), (19, .int .i64 (.ofNat n)), (20, .int .i64 (.ofNat i))] 61, vcRg_s0 V O M R))) =
  (tRg A V O M R n i m p c z M' R').allY (fun r => Q (canR [6, 18, 19, 20] KO130 r)) (.b (.v (.ptr (some (0, i * 2)), vcRg_s0 V O M R) (.v (.agg [.int .u64 p, .int .u64 c], vcRg_s0 V O M R) (.v (.tuple [], vcRg_s2 V O M R p c) (.v (.bool false, vcRg_s2 V O M R p c) (.v (.tuple [.int .u64 (.ofNat 0), .bool false], vcRg_s2 V O M R p c) (.v (.tuple [.int .u64 z, .bool true], vcRg_s2 V O M R p c) (.v (.tuple [], vcRg_s4 V O R p c M') (.v (.slice (some (26, 0)) (m + 1) (.rest 1), vcRg_s6 V O p c M' R') (.v (.tuple [], vcRg_s7 O m p c M' R') .nil))))))))) .nil) := by kernel_rfl
noncomputable def vcOz_s0 (V : AV) (O : AO) (M : AO) (R : AO) : ASt := mkSt [(0, O), (1, .cells [.map (some 2), V] true), (2, M), (3, R)] 4
theorem vcOz (A : AV) (V : AV) (O : AO) (M : AO) (R : AO) (Q : Exit × AFr × ASt → Prop) :
  (Q (.ret, xFr [(4, .ptr (some (1, 0))), (5, .int .i64 (.ofNat 0))] 61, vcOz_s0 V O M R)) =
  (tOz A V O M R).allY (fun r => Q (canR [4, 5] KO130 r)) (.nil) := by kernel_rfl
end Go.Proofs.Ytidmijpfoodkoaa.gho
end

section
open Go Go.Ax Go.Proofs
namespace Go.Proofs.Ytidmijpfoodkoaa.gho
set_option linter.unusedVariables false
theorem EOok : Env.Ok Try.prog EO := envEx_ok (xs := []) ⟨⟨Try.func22, Try.call22⟩, ⟨Try.func25, Try.call25⟩, ⟨Try.func46, Try.call46⟩, trivial⟩ trivial (by kernel_rfl)
abbrev Br := Int × Int
def encB (p : Br) : List AV := [gU p.1, gU p.2]
theorem encB_len (p : Br) : (encB p).length = 2 := rfl
inductive OfR
  | no (e : Nat)
  | ok (t : List (Int × Int))
def ofL : List (Int × Int) → List Br → OfR
  | t, [] => .ok t
  | t, x :: r => bif eqF x.2 (.ofNat 0) || hasK t x.2 then .no 2 else bif hasK t x.1 then ofL (t ++ [(x.2, x.1)]) r else .no 6
def ofR (g : Int) (bs : List Br) : OfR := bif eqF g (.ofNat 0) then .no 2 else ofL [(g, .ofNat 0)] bs
def capT : List (Int × Int) → Cap
  | [_] => .known 1
  | _ => .rest 1
def vT (k : Nat) (t : List (Int × Int)) : AV := .slice (some (k, 0)) t.length (capT t)
def rT (t : List (Int × Int)) : AO := .cells ((t.map Prod.fst).map gU) true
section
variable {A : AV} {O : AO} {bs : List Br} {t : List (Int × Int)} {i n : Nat} {g p c z : Int} {S : ASt}
noncomputable abbrev SOt (O : AO) (t : List (Int × Int)) : ASt := SO O (vT 3 t) (mO t) (rT t)
theorem lkO_t {st : ASt} (hS : st.h.get 2 = some (mO t)) (h : hasK t g = true) : still st (aLookup EO 89 (.map (some 2)) (.int .u64 g) true st) = some (.tuple [.int .u64 (parK t g), .bool true], st) := by
  rw [lookup_at (by kernel_rfl) hS, h]; rfl
theorem lkO_n {st : ASt} (hS : st.h.get 2 = some (mO t)) (h : hasK t g = false) : still st (aLookup EO 89 (.map (some 2)) (.int .u64 g) true st) = some (.tuple [.int .u64 (.ofNat 0), .bool false], st) := by
  rw [lookup_at (by kernel_rfl) hS, h]; rfl
theorem eqO_b {t ty : Nat} {x : Operand} {kd : IntKind} {w : Bool} (h : ∀ z : Int, aBin EO .eql ty (.tmp t) x (.int kd z) (.int kd (.ofNat 0)) = some (.bool (eqF z (.ofNat 0)))) (hw : eqF p (.ofNat 0) = w) : still S (aBin EO .eql ty (.tmp t) x (.int kd p) (.int kd (.ofNat 0))) = some (.bool w, S) := by
  rw [h, hw]; rfl
theorem brLoad {x : Br} (hs : SlArg EO 49 2 0 bs.length A O (bs.flatMap encB)) (hS : S.h.get 0 = some O) (hx : bs[i]? = some x) : aLoad EO 73 (.ptr (some (0, i * 2))) S = some (.agg [.int .u64 x.1, .int .u64 x.2], S) := by
  have h0 : 0 < bs.length := by have := (List.getElem?_eq_some_iff.1 hx).1; omega
  rw [hs.obj h0] at hS
  exact load_agg (by kernel_rfl) hS (fm_one encB_len hx)
theorem brIdx (hs : SlArg EO 49 2 0 bs.length A O (bs.flatMap encB)) (hi : i < bs.length) : still S (aIndexAddr EO 49 A (.int .i64 (.ofNat i))) = some (.ptr (some (0, i * 2)), S) := by
  have := hs.idx i .i64 hi
  rw [Nat.zero_add] at this
  exact still_of this
def QOe (e : Nat) (q : Exit × AFr × ASt) : Prop := q.1 = .ret ∧ ∃ F S, Wk 1 q.2.1 q.2.2 F S ∧ leaveA EO Try.f22 F S = some (.tuple [.ptr none, .int .i64 (.ofNat e)], S) ∧ S.next ≤ 100
def QO (A : AV) (O : AO) (bs : List Br) (t : List (Int × Int)) (i : Nat) (q : Exit × AFr × ASt) : Prop :=
  (i = bs.length ∧ Stops 1 (.exit 0) (fr22 A bs.length i) (SOt O t) q) ∨
  (∃ x, bs[i]? = some x ∧ (((eqF x.2 (.ofNat 0) || hasK t x.2) = true ∧ QOe 2 q) ∨ ((eqF x.2 (.ofNat 0) || hasK t x.2) = false ∧ hasK t x.1 = false ∧ QOe 6 q) ∨
    ((eqF x.2 (.ofNat 0) || hasK t x.2) = false ∧ hasK t x.1 = true ∧ Stops 1 .normal (fr22 A bs.length (i + 1)) (SOt O (t ++ [(x.2, x.1)])) q)))
theorem QOe.can {e : Nat} {kf ko : List Nat} {q : Exit × AFr × ASt} (h : QOe e (canR kf ko q)) : QOe e q := by
  obtain ⟨h1, F, S, h2, h3⟩ := h
  exact ⟨h1, F, S, Wk.trans (Wk.can _ _ _ _ _) h2, h3⟩
theorem QO.can {kf ko : List Nat} {q : Exit × AFr × ASt} (h : QO A O bs t i (canR kf ko q)) : QO A O bs t i q := by
  rcases h with ⟨h1, h2⟩ | ⟨x, hx, ⟨h1, h2⟩ | ⟨h1, h2, h3⟩ | ⟨h1, h2, h3⟩⟩
  · exact .inl ⟨h1, h2.can⟩
  · exact .inr ⟨x, hx, .inl ⟨h1, h2.can⟩⟩
  · exact .inr ⟨x, hx, .inr (.inl ⟨h1, h2, h3.can⟩)⟩
  · exact .inr ⟨x, hx, .inr (.inr ⟨h1, h2, h3.can⟩)⟩
theorem apO57 : appT EO 57 57 = some (1, 8) := by kernel_rfl
theorem capT_app {x : Int × Int} (h : t ≠ []) : capT (t ++ [x]) = .rest 1 := by
  match t, h with
  | [_], _ => rfl
  | _ :: _ :: _, _ => rfl
theorem vT_app {x : Int × Int} {k : Nat} (h : t ≠ []) : vT k (t ++ [x]) = slU k (t.length + 1) := by
  unfold vT
  rw [capT_app h, List.length_append]; rfl
theorem roundO (I : SlArg EO 49 2 0 bs.length A O (bs.flatMap encB)) (hO : Came O) (hA : KeptV 1 A) (ht : t ≠ []) (htl : t.length < 90000) (hbl : bs.length < 90000) (hi : i ≤ bs.length) :
    Trip Try.prog 1 none L22 (fr22 A bs.length i) (SOt O t) (QO A O bs t i) := by
  by_cases e : i < bs.length
  · obtain ⟨x, hx⟩ : ∃ x, bs[i]? = some x := ⟨_, List.getElem?_eq_getElem e⟩
    cases hc0 : eqF x.2 (.ofNat 0) with
    | true =>
      refine (Trip.runY EOok noSum_ok (Eq.mp (vcRc A (vT 3 t) O (mO t) (rT t) bs.length i x.1 x.2 (QO A O bs t i)) (ifB_mk (fun _ => ⟨brIdx I e, brLoad I (by kernel_rfl) hx, eqO_b (fun z => by kernel_rfl) hc0, .inr ⟨x, hx, .inl ⟨by rw [hc0]; rfl, rfl, _, _, Wk.refl _ _ _, (by kernel_rfl : _ = some (AV.tuple [.ptr none, .int .i64 (.ofNat 2)], vcRc_s1 (vT 3 t) O (mO t) (rT t) x.1 x.2)), by show 5 ≤ 100; decide⟩⟩⟩) fun h => nlt' e h))).mono fun q hq => hq.can
    | false =>
      cases hch : hasK t x.2 with
      | true =>
        refine (Trip.runY EOok noSum_ok (Eq.mp (vcRh A (vT 3 t) O (mO t) (rT t) bs.length i x.1 x.2 (parK t x.2) (QO A O bs t i)) (ifB_mk (fun _ => ⟨brIdx I e, brLoad I (by kernel_rfl) hx, eqO_b (fun z => by kernel_rfl) hc0, lkO_t (by kernel_rfl) hch, .inr ⟨x, hx, .inl ⟨by rw [hc0, hch]; rfl, rfl, _, _, Wk.refl _ _ _, (by kernel_rfl : _ = some (AV.tuple [.ptr none, .int .i64 (.ofNat 2)], vcRh_s1 (vT 3 t) O (mO t) (rT t) x.1 x.2)), by show 5 ≤ 100; decide⟩⟩⟩) fun h => nlt' e h))).mono fun q hq => hq.can
      | false =>
        cases hph : hasK t x.1 with
        | false =>
          refine (Trip.runY EOok noSum_ok (Eq.mp (vcRn A (vT 3 t) O (mO t) (rT t) bs.length i x.1 x.2 (QO A O bs t i)) (ifB_mk (fun _ => ⟨brIdx I e, brLoad I (by kernel_rfl) hx, eqO_b (fun z => by kernel_rfl) hc0, lkO_n (by kernel_rfl) hch, lkO_n (by kernel_rfl) hph, .inr ⟨x, hx, .inr (.inl ⟨by rw [hc0, hch]; rfl, hph, rfl, _, _, Wk.refl _ _ _, (by kernel_rfl : _ = some (AV.tuple [.ptr none, .int .i64 (.ofNat 6)], vcRn_s1 (vT 3 t) O (mO t) (rT t) x.1 x.2)), by show 5 ≤ 100; decide⟩)⟩⟩) fun h => nlt' e h))).mono fun q hq => hq.can
        | true =>
          have e1 : wrapF .i64 (Int.ofNat i + Int.ofNat 1) = .ofNat (i + 1) := wI e (by omega)
          have hupd : ∀ {st : ASt}, st.h.get 2 = some (mO t) → Option.map (fun s => (undefA, s)) (aMapUpdate EO 89 (.map (some 2)) (.int .u64 x.2) (.int .u64 x.1) st) = some (undefA, st.put 2 (mO (t ++ [(x.2, x.1)]))) := fun {st} hS => by
            exact (congrArg (Option.map fun s => (undefA, s)) (update_at (E := EO) (t := 89) (kd := .u64) (m := 2) (n := 0) (l := t) (g := x.2) (v := x.1) (by kernel_rfl) hS hch)).trans rfl
          have hrT : rT (t ++ [(x.2, x.1)]) = .cells ((t.map Prod.fst).map gU ++ [gU x.2]) true := by unfold rT; rw [List.map_append, List.map_append]; rfl
          have hs : ∀ {st : ASt}, st.h.get 0 = some O → st.h.get 1 = some (.cells [.map (some 2), slU 26 (t.length + 1)] true) → st.h.get 2 = some (mO (t ++ [(x.2, x.1)])) → st.h.get 26 = some (rT (t ++ [(x.2, x.1)])) →
              StP [0, 1, 2, 26] st [(0, O), (1, tA (vT 3 (t ++ [(x.2, x.1)]))), (2, mO (t ++ [(x.2, x.1)])), (3, rT (t ++ [(x.2, x.1)]))] := fun h0 h1 h2 h3 => by
            rw [vT_app ht]
            exact .came hO rfl h0 <| .cons 1 _ rfl h1 (.of rfl) <| .cons 2 _ rfl h2 mO_ren <| .cons 26 _ rfl h3 (.row gU_refs) .nil
          have hfr : ∀ {st : ASt} {ls : List (Nat × AO)}, StP [0, 1, 2, 26] st ls → Wk 1 (xFr [(6, .ptr (some (1, 0))), (18, A), (19, .int .i64 (.ofNat bs.length)), (20, .int .i64 (.ofNat (i + 1)))] 61) st (fr22 A bs.length (i + 1)) (mkSt ls 4) := fun {st ls} hst =>
            Wk.heldX (kb := 1) [0, 1, 2, 26] (by kernel_rfl) (by kernel_rfl) [6, 18, 19, 20] (frE_cons (v := pO 1) (by kernel_rfl) rfl (frE_cons (by kernel_rfl) (hA _ (by kernel_rfl)) (frE_cons (v := nI bs.length) (by kernel_rfl) rfl (frE_cons (v := nI (i + 1)) (by kernel_rfl) rfl rfl)))) hst
          match t, ht with
          | [y], _ =>
            have hap : aBuiltinM EO .append [57, 57] [vT 3 [y], .slice (some (21, 0)) 1 (.known 1)] (vcRe_s5 (vT 3 [y]) O (rT [y]) x.1 x.2 (mO ([y] ++ [(x.2, x.1)]))) = some (.slice (some (26, 0)) (1 + 1) (.rest 1), vcRe_s6 (vT 3 [y]) O (rT [y]) x.1 x.2 (mO ([y] ++ [(x.2, x.1)])) (rT ([y] ++ [(x.2, x.1)]))) := by
              refine (append_full_at (l := 1) (i := 3) (o := 0) (n := 1) (new := [gU x.2]) (old := [gU y.1]) apO57 rfl (first_at (cs := [gU x.2]) (rw := true) (by kernel_rfl) rfl) (first_at (cs := [gU y.1]) (rw := true) (by kernel_rfl) rfl) (by decide) (by decide) (by decide)).trans ?_
              rw [hrT]; kernel_rfl
            refine (Trip.runY EOok noSum_ok (Eq.mp (vcRe A (vT 3 [y]) O (mO [y]) (rT [y]) bs.length i 1 x.1 x.2 (parK [y] x.1) (mO ([y] ++ [(x.2, x.1)])) (rT ([y] ++ [(x.2, x.1)])) (QO A O bs [y] i)) (ifB_mk (fun _ => ⟨brIdx I e, brLoad I (by kernel_rfl) hx, by kernel_rfl, eqO_b (fun z => by kernel_rfl) hc0, lkO_n (by kernel_rfl) hch, lkO_t (by kernel_rfl) hph, (hupd (by kernel_rfl)).trans (by kernel_rfl), trivial, hap, by kernel_rfl, trivial, .inr ⟨x, hx, .inr (.inr ⟨by rw [hc0, hch]; rfl, hph, rfl, ?_⟩)⟩⟩) fun h => nlt' e h))).mono fun q hq => hq.can
            rw [e1]
            exact hfr (hs (by kernel_rfl) (by kernel_rfl) (by kernel_rfl) (by kernel_rfl))
          | y :: y' :: t, _ =>
            have hTl : t.length + 2 < 90000 := htl
            have hap : aBuiltinM EO .append [57, 57] [vT 3 (y :: y' :: t), .slice (some (21, 0)) 1 (.known 1)] (vcRg_s5 (vT 3 (y :: y' :: t)) O (rT (y :: y' :: t)) x.1 x.2 (mO (y :: y' :: t ++ [(x.2, x.1)]))) = some (.slice (some (26, 0)) (t.length + 2 + 1) (.rest 1), vcRg_s6 (vT 3 (y :: y' :: t)) O x.1 x.2 (mO (y :: y' :: t ++ [(x.2, x.1)])) (rT (y :: y' :: t ++ [(x.2, x.1)]))) := by
              refine (append_grow_at (l := t.length + 2) (i := 3) (n := 1) (new := [gU x.2]) (cs := ((y :: y' :: t).map Prod.fst).map gU) apO57 rfl (first_at (cs := [gU x.2]) (rw := true) (by kernel_rfl) rfl) (by kernel_rfl) (by simp) (by decide) (by decide) (by omega) (by omega)).trans ?_
              rw [hrT]; kernel_rfl
            refine (Trip.runY EOok noSum_ok (Eq.mp (vcRg A (vT 3 (y :: y' :: t)) O (mO (y :: y' :: t)) (rT (y :: y' :: t)) bs.length i (t.length + 2) x.1 x.2 (parK (y :: y' :: t) x.1) (mO (y :: y' :: t ++ [(x.2, x.1)])) (rT (y :: y' :: t ++ [(x.2, x.1)])) (QO A O bs (y :: y' :: t) i)) (ifB_mk (fun _ => ⟨brIdx I e, brLoad I (by kernel_rfl) hx, by kernel_rfl, eqO_b (fun z => by kernel_rfl) hc0, lkO_n (by kernel_rfl) hch, lkO_t (by kernel_rfl) hph, (hupd (by kernel_rfl)).trans (by kernel_rfl), trivial, hap, by kernel_rfl, trivial, .inr ⟨x, hx, .inr (.inr ⟨by rw [hc0, hch]; rfl, hph, rfl, ?_⟩)⟩⟩) fun h => nlt' e h))).mono fun q hq => hq.can
            rw [e1]
            exact hfr (hs (by kernel_rfl) (by kernel_rfl) (by kernel_rfl) (by kernel_rfl))
  · have ek : i = bs.length := by omega
    refine (Trip.runY EOok noSum_ok (Eq.mp (vcRc A (vT 3 t) O (mO t) (rT t) bs.length i 0 0 (QO A O bs t i)) (ifB_mk (fun h => ?_) fun _ => .inl ⟨ek, rfl, ?_⟩))).mono fun q hq => hq.can
    · rw [ltF_nn] at h
      exact absurd (of_decide_eq_true h) e
    · have e2 : (xFr [(4, .any), (5, .any), (6, .ptr (some (1, 0))), (18, A), (19, .int .i64 (.ofNat bs.length)), (20, .int .i64 (.ofNat i))] 61 : AFr) = fr22 A bs.length i := by kernel_rfl
      rw [e2]
      exact Wk.refl _ _ _
theorem ofL_done : ofL t (bs.drop bs.length) = .ok t := by rw [List.drop_length]; rfl
theorem ofL_step {x : Br} (hx : bs[i]? = some x) : ofL t (bs.drop i) = bif eqF x.2 (.ofNat 0) || hasK t x.2 then .no 2 else bif hasK t x.1 then ofL (t ++ [(x.2, x.1)]) (bs.drop (i + 1)) else .no 6 := by
  have hi := (List.getElem?_eq_some_iff.1 hx)
  obtain ⟨h1, h2⟩ := hi
  rw [List.drop_eq_getElem_cons h1, h2]; rfl
theorem shape22 : dropC 2 c22 = .seq (.seq (seqL (seqL (dropC 2 c22))) (.block 0 (.loop L22))) (dropC 3 c22) := by kernel_rfl
def QOf (O : AO) (r : OfR) (q : Exit × AFr × ASt) : Prop := match r with
  | .no e => QOe e q
  | .ok t => q.1 = .ret ∧ ∃ F S, Wk 1 q.2.1 q.2.2 F S ∧ leaveA EO Try.f22 F S = some (.tuple [pO 1, nI 0], S) ∧ S = SOt O t
theorem loopO (I : SlArg EO 49 2 0 bs.length A O (bs.flatMap encB)) (hO : Came O) (hA : KeptV 1 A) (hbl : bs.length < 80000) :
    Trip Try.prog 1 none (.block 0 (.loop L22)) (fr22 A bs.length 0) (SOt O [(g, .ofNat 0)]) fun q => (q.1 ≠ .normal ∧ QOf O (ofL [(g, .ofNat 0)] bs) q) ∨ (∃ t, ofL [(g, .ofNat 0)] bs = .ok t ∧ Stops 1 .normal (fr22 A bs.length bs.length) (SOt O t) q) := by
  refine Trip.block (Trip.loop (fun μ fr st => ∃ i t, i ≤ bs.length ∧ μ = bs.length - i ∧ t ≠ [] ∧ t.length = i + 1 ∧ ofL [(g, .ofNat 0)] bs = ofL t (bs.drop i) ∧ fr = fr22 A bs.length i ∧ st = SOt O t) ?_ bs.length ⟨0, _, by omega, by omega, by simp, rfl, rfl, rfl, rfl⟩)
  rintro μ fr st ⟨i, t, hi, rfl, ht, htl, he, rfl, rfl⟩
  refine (roundO I hO hA ht (by omega) (by omega) hi).mono ?_
  rintro ⟨x, fr', st'⟩ (⟨h1, h2, h3⟩ | ⟨y, hy, ⟨h1, h2⟩ | ⟨h1, h2, h3⟩ | ⟨h1, h2, h3, h4⟩⟩)
  · simp only at h2
    subst h2
    subst h1
    rw [ofL_done] at he
    exact ⟨fun _ => .inr ⟨t, he, rfl, h3⟩, fun h => absurd rfl h⟩
  · have hr : x = .ret := h2.1
    subst hr
    rw [ofL_step hy, h1] at he
    refine .inl ⟨by simp, ?_⟩
    rw [he]; exact h2
  · have hr : x = .ret := h3.1
    subst hr
    rw [ofL_step hy, h1, h2] at he
    refine .inl ⟨by simp, ?_⟩
    rw [he]; exact h3
  · simp only at h3
    subst h3
    have hi2 : i < bs.length := (List.getElem?_eq_some_iff.1 hy).1
    rw [ofL_step hy, h1, h2] at he
    exact ⟨bs.length - (i + 1), _, _, by omega, h4, i + 1, t ++ [(y.2, y.1)], by omega, rfl, by simp, by rw [List.length_append, htl]; rfl, he, rfl, rfl⟩
theorem trip22 (I : SlArg EO 49 2 0 bs.length A O (bs.flatMap encB)) (hO : Came O) (hA : KeptV 1 A) (hbl : bs.length < 80000) :
    Trip Try.prog 1 none c22 (F22 g A) (S0 O) (QOf O (ofR g bs)) := by
  unfold ofR
  cases hg : eqF g (.ofNat 0) with
  | true =>
    refine Trip.preY EOok noSum_ok (k := 2) (kf := [4, 5]) (ko := KO130) (by kernel_rfl) (Q1 := fun q => QOe 2 q ∧ q.1 = .ret) (Eq.mp (vcOx g A O (fun q => QOe 2 q ∧ q.1 = .ret)) ⟨eqO_b (fun z => by kernel_rfl) hg, ⟨rfl, _, _, Wk.refl _ _ _, (by kernel_rfl : _ = some (AV.tuple [.ptr none, .int .i64 (.ofNat 2)], vcOx_s0 O)), by show 1 ≤ 100; decide⟩, rfl⟩)
      (fun F S hq => by cases hq.2) (fun r hne hq => hq.1.can)
  | false =>
    refine Trip.preY EOok noSum_ok (k := 2) (kf := [1, 6]) (ko := KO130) (by kernel_rfl) (Q1 := fun q => q = (.normal, xFr [(1, A), (6, .ptr (some (3, 0)))] 61, vcOa_s1 g O)) (Eq.mp (vcOa g A O (fun q => q = (.normal, xFr [(1, A), (6, .ptr (some (3, 0)))] 61, vcOa_s1 g O))) ⟨eqO_b (fun z => by kernel_rfl) hg, rfl⟩)
      (fun F S hq => ?_) (fun r hne hq => absurd (congrArg Prod.fst hq) hne)
    cases hq
    rw [shape22]
    refine Trip.less (fr' := xFr [(1, A), (6, pO 1)] 61) (st' := SOt O [(g, .ofNat 0)]) ?_ ?_
    · exact Wk.heldX (kb := 1) [0, 3, 1, 2] (by kernel_rfl) (by kernel_rfl) [1, 6] (frE_cons (by kernel_rfl) (hA _ (by kernel_rfl)) (frE_cons (v := .ptr (some (3, 0))) (by kernel_rfl) rfl rfl))
        (.came hO rfl (by kernel_rfl) <| .cons 3 (.cells [.map (some 1), .slice (some (2, 0)) 1 (.known 1)] true) rfl (by kernel_rfl) (.of rfl) <| .cons 1 (mO [(g, .ofNat 0)]) rfl (by kernel_rfl) mO_ren <| .cons 2 (rT [(g, .ofNat 0)]) rfl (by kernel_rfl) (.row gU_refs) .nil)
    · refine Trip.seq (R := fun q => (q.1 ≠ .normal ∧ QOf O (ofL [(g, .ofNat 0)] bs) q) ∨ (∃ t, ofL [(g, .ofNat 0)] bs = .ok t ∧ Stops 1 .normal (fr22 A bs.length bs.length) (SOt O t) q)) (Trip.seq (R := fun q => canR [6, 18, 19, 20] KO130 q = (.normal, fr22 A bs.length 0, vcOb_s0 (vT 3 [(g, .ofNat 0)]) O (mO [(g, .ofNat 0)]) (rT [(g, .ofNat 0)]))) (Trip.runY EOok noSum_ok (Eq.mp (vcOb g A (vT 3 [(g, .ofNat 0)]) O (mO [(g, .ofNat 0)]) (rT [(g, .ofNat 0)]) bs.length (fun q => q = (.normal, fr22 A bs.length 0, vcOb_s0 (vT 3 [(g, .ofNat 0)]) O (mO [(g, .ofNat 0)]) (rT [(g, .ofNat 0)])))) ⟨I.len _, rfl⟩)) (fun fr' st' hq => ?_) (fun e fr' st' hne hq => absurd (congrArg Prod.fst hq) hne)) (fun fr' st' hq => ?_) (fun e fr' st' hne hq => ?_)
      · simp only [canR, Prod.mk.injEq, true_and] at hq
        obtain ⟨q1, q2⟩ := hq
        refine Trip.less (Wk.can 1 [6, 18, 19, 20] KO130 fr' st') ?_
        rw [q1, q2]
        exact loopO I hO hA hbl
      · rcases hq with ⟨h1, _⟩ | ⟨t, h1, h2, h3⟩
        · exact absurd rfl h1
        · simp only [cond_false, h1]
          refine Trip.less h3 ?_
          refine Trip.less (fr' := xFr [(6, pO 1)] 61) (st' := SOt O t) ?_ ?_
          · have e3 : canF [6] (fr22 A bs.length bs.length) = xFr [(6, pO 1)] 61 := by kernel_rfl
            have e4 : canS KO130 (SOt O t) = SOt O t := by kernel_rfl
            have := Wk.can 1 [6] KO130 (fr22 A bs.length bs.length) (SOt O t)
            rw [e3, e4] at this
            exact this
          · refine (Trip.runY EOok noSum_ok (Eq.mp (vcOz A (vT 3 t) O (mO t) (rT t) (fun q => q = (.ret, xFr [(4, .ptr (some (1, 0))), (5, .int .i64 (.ofNat 0))] 61, vcOz_s0 (vT 3 t) O (mO t) (rT t)))) rfl)).mono fun q hq => ?_
            obtain ⟨r1, r2, r3⟩ := q
            simp only [canR, Prod.mk.injEq] at hq
            obtain ⟨rfl, q1, q2⟩ := hq
            exact ⟨rfl, _, _, Wk.can 1 [4, 5] KO130 r2 r3, by rw [q1, q2]; kernel_rfl, by rw [q2]; kernel_rfl⟩
      · rcases hq with ⟨_, h1⟩ | ⟨t, _, h1, _⟩
        · exact h1
        · exact absurd h1 hne
end
end Go.Proofs.Ytidmijpfoodkoaa.gho
end

section
open Go Go.Ax Go.Proofs
namespace Go.Proofs.Ytidmijpfoodkoaa.gho
set_option linter.unusedVariables false
section
variable {A : AV} {O : AO} {bs : List Br} {t : List (Int × Int)} {i n : Nat} {g p c z a b : Int} {S : ASt}
def CameF (O : AO) (A : AV) : Prop := (O = .dead ∧ ∀ ids, renV ids A = some A) ∨ ∃ cs, O = .cells cs false ∧ ∀ c, c ∈ cs → refsV 0 c
theorem CameF.came (h : CameF O A) : Came O := h.imp (fun h => h.1) fun ⟨cs, h1, h2⟩ => ⟨cs, false, h1, h2⟩
theorem get1' {o : AO} {j : Nat} {x : AO} (h : (S0 o).h.get j = some x) : j = 0 ∧ x = o := get1 h
theorem row_same {f : Nat} {args : List AV} {Q1 : AV × ASt → Prop} {ot : List (Nat × AO)} {v : AV} (hot : ∀ p, p ∈ ot → 1 ≤ p.1) (hO : CameF O A) (hA : KeptV 1 A)
    (hrun : ∀ B w0 ι W args', (∀ i, ¬ B.rs i) → SR B w0 ι (S0 O) W → VRs ι args args' → (callFunc f args').run Try.prog W = .ok (.enter f args') W ∧ CallsIn Fence.wide 0 Try.prog f args' W fun e w' => ∃ v, Q1 v ∧ Post B w0 ι v e w')
    (hargs : ∀ v, v ∈ args → v = A ∨ ∀ ids, renV ids v = some v)
    (hb : ∀ q, Q1 q → BackV (1 + ·) q.1 v ∧ q.2.next ≤ 100 ∧
      ∀ p, p ∈ ot → 1 ≤ p.1 ∧ p.1 < 100 ∧ (p.2 = .dead ∨ p.2.own = true ∧ ∃ a, q.2.h.get p.1 = some a ∧ BackO (1 + ·) a p.2)) (hv0 : ∀ q, Q1 q → BackV (gK 1 1) q.1 v) (ho0 : ∀ q, Q1 q → ∀ p, p ∈ ot → p.2 = .dead ∨ p.2.own = true ∧ ∃ a, q.2.h.get p.1 = some a ∧ BackO (gK 1 1) a p.2) :
    Call1 Try.prog f args (S0 O) (v, outS (1 + ·) ot (S0 O) 101) := by
  rcases hO with ⟨rfl, hA0⟩ | ⟨cs, rfl, hcs⟩
  · have hg : gK 0 1 = (1 + ·) := by
      funext j; unfold gK
      cases h : Nat.blt j 0 with
      | false => rfl
      | true => rw [Nat.blt_eq] at h; omega
    rw [← hg]
    refine Call1.same (S := S0 .dead) 0 1 (by decide) hrun rfl (fun j hj => absurd hj (by omega)) (fun j x hj => ?_) (fun v hv => ?_) fun q hq => ?_
    · obtain ⟨rfl, rfl⟩ := get1' hj
      exact ⟨by decide, fun h => absurd rfl h⟩
    · rcases hargs v hv with rfl | h
      · exact hA0 _
      · exact h _
    · obtain ⟨b1, b2, b3⟩ := hb q hq
      refine ⟨by rw [show (S0 AO.dead).next = 1 from rfl, hg]; exact b1, by show 1 + q.2.next ≤ 101; omega, by show 1 + 1 ≤ 101; decide, fun p hp => ?_, fun j x hj ho => ?_⟩
      · obtain ⟨c1, c2, c3⟩ := b3 p hp
        rw [show (S0 AO.dead).next = 1 from rfl, hg]
        exact ⟨by show 1 + p.1 < 101; omega, .inr c1, fun h => absurd h (by omega), c3⟩
      · obtain ⟨rfl, rfl⟩ := get1' hj
        cases ho
  · have hgk : ∀ j, 1 ≤ j → gK 1 1 j = 1 + j := fun j hj => by
      unfold gK
      cases h : Nat.blt j 1 with
      | false => rfl
      | true => rw [Nat.blt_eq] at h; omega
    have hout : outS (1 + ·) ot (S0 (.cells cs false)) 101 = outS (gK 1 1) ot (S0 (.cells cs false)) 101 → Call1 Try.prog f args (S0 (.cells cs false)) (v, outS (1 + ·) ot (S0 (.cells cs false)) 101) := fun h => by
      rw [h]
      refine Call1.same (S := S0 (.cells cs false)) 1 1 (by decide) hrun rfl (fun j hj => ?_) (fun j x hj => ?_) (fun v hv => ?_) fun q hq => ?_
      · match j, hj with
        | 0, _ => exact ⟨_, (by kernel_rfl : _ = some (AO.cells cs false)), by simp⟩
      · obtain ⟨rfl, rfl⟩ := get1' hj
        exact ⟨by decide, fun _ => ⟨by decide, by kernel_rfl, .row hcs⟩⟩
      · rcases hargs v hv with rfl | h
        · exact hA _ (by kernel_rfl)
        · exact h _
      · obtain ⟨b1, b2, b3⟩ := hb q hq
        refine ⟨hv0 q hq, by show 1 + q.2.next ≤ 101; omega, by show 1 + 1 ≤ 101; decide, fun p hp => ?_, fun j x hj ho => ?_⟩
        · obtain ⟨c1, c2, _⟩ := b3 p hp
          refine ⟨?_, .inr c1, fun h => absurd h (by omega), ho0 q hq p hp⟩
          show gK 1 1 p.1 < 101
          rw [hgk _ c1]; omega
        · obtain ⟨rfl, rfl⟩ := get1' hj
          cases ho
    refine hout ?_
    unfold outS
    congr 1
    have : ∀ (l : List (Nat × AO)) (h : T AO), (∀ p, p ∈ l → 1 ≤ p.1) → l.foldl (fun h p => h.set D (1 + p.1) p.2) h = l.foldl (fun h p => h.set D (gK 1 1 p.1) p.2) h := fun l => by
      induction l with
      | nil => intro h _; rfl
      | cons x l ih =>
        intro h hl
        rw [List.foldl_cons, List.foldl_cons, hgk _ (hl x List.mem_cons_self)]
        exact ih _ fun p hp => hl p (List.mem_cons_of_mem _ hp)
    exact this ot _ hot
noncomputable def SLt (O : AO) (t : List (Int × Int)) : ASt := mkSt [(0, O), (2, .cells [.map (some 3), vT 4 t] true), (3, mO t), (4, rT t)] 101
theorem of_run (I : SlArg EO 49 2 0 bs.length A O (bs.flatMap encB)) (hO : CameF O A) (hA : KeptV 1 A) (hbl : bs.length < 80000) (B : Prot) (w0 : World) (ι : Ren) (W : World) (args' : Array Value) (hB : ∀ i, ¬ B.rs i) (hsr : SR B w0 ι (S0 O) W) (hv : VRs ι [gU g, A] args') :
    (callFunc 22 args').run Try.prog W = .ok (.enter 22 args') W ∧ CallsIn Fence.wide 0 Try.prog 22 args' W fun e w' => ∃ v, (match ofR g bs with | .no e => v.1 = .tuple [.ptr none, nI e] ∧ v.2.next ≤ 100 | .ok t => v = (.tuple [pO 1, nI 0], SOt O t)) ∧ Post B w0 ι v e w' := by
  refine Trip.call EOok (f := 22) (fn := Try.f22) (c := c22) (by kernel_rfl) (by kernel_rfl) (args := [gU g, A]) (st := S0 O) (by kernel_rfl) ?_ B hB w0 ι W args' hsr hv
  have e1 : ({ m := putArgs [gU g, A] 0 .e, n := Try.f22.ntmps, defs := [] } : AFr) = F22 g A := by kernel_rfl
  rw [e1]
  refine Trip.weak (trip22 I hO.came hA hbl) fun q hq => ?_
  unfold QOf at hq
  cases h : ofR g bs with
  | no e =>
    rw [h] at hq
    obtain ⟨h1, F, S, h2, h3, h4⟩ := hq
    exact ⟨F, S, h2, .inr h1, _, h3, rfl, h4⟩
  | ok t =>
    rw [h] at hq
    obtain ⟨h1, F, S, h2, h3, h4⟩ := hq
    refine ⟨F, S, h2, .inr h1, _, h3, ?_⟩
    rw [h4]
theorem of_no {e : Nat} (I : SlArg EO 49 2 0 bs.length A O (bs.flatMap encB)) (hO : CameF O A) (hA : KeptV 1 A) (hbl : bs.length < 80000) (h : ofR g bs = .no e) : Call1 Try.prog 22 [gU g, A] (S0 O) (.tuple [.ptr none, nI e], mkSt [(0, O)] 101) := by
  refine Call1.mem (S1 := outS (1 + ·) [] (S0 O) 101) (by kernel_rfl) ?_
  refine row_same (Q1 := fun v => v.1 = .tuple [.ptr none, nI e] ∧ v.2.next ≤ 100) (fun p hp => by cases hp) hO hA (fun B w0 ι W args' hB hsr hv => ?_) (fun v hv => ?_) (fun q hq => ⟨by rw [hq.1]; exact .eq rfl, hq.2, fun p hp => by cases hp⟩) (fun q hq => by rw [hq.1]; exact .eq rfl) fun q hq p hp => by cases hp
  · have := of_run (g := g) I hO hA hbl B w0 ι W args' hB hsr hv
    rw [h] at this
    exact this
  · simp only [List.mem_cons, List.not_mem_nil, or_false] at hv
    rcases hv with rfl | rfl
    · exact .inr fun ids => rfl
    · exact .inl rfl
theorem of_ok (I : SlArg EO 49 2 0 bs.length A O (bs.flatMap encB)) (hO : CameF O A) (hA : KeptV 1 A) (hbl : bs.length < 80000) (h : ofR g bs = .ok t) : Call1 Try.prog 22 [gU g, A] (S0 O) (.tuple [pO 2, nI 0], SLt O t) := by
  have hb : ∀ gg : Nat → Nat, gg 1 = 2 → gg 2 = 3 → gg 3 = 4 → ∀ p, p ∈ [(1, AO.cells [.map (some 3), vT 4 t] true), (2, mO t), (3, rT t)] → p.2 = .dead ∨ p.2.own = true ∧ ∃ a, (SOt O t).h.get p.1 = some a ∧ BackO gg a p.2 := fun gg h1 h2 h3 p hp => by
    simp only [List.mem_cons, List.not_mem_nil, or_false] at hp
    rcases hp with rfl | rfl | rfl
    · exact .inr ⟨rfl, _, (by kernel_rfl : _ = some (tA (vT 3 t))), .cells (by simp [mapVs, mapV, vT, h2, h3])⟩
    · exact .inr ⟨rfl, _, (by kernel_rfl : _ = some (mO t)), mO_back⟩
    · exact .inr ⟨rfl, _, (by kernel_rfl : _ = some (rT t)), .row gU_refs⟩
  refine Call1.mem (S1 := outS (1 + ·) [(1, .cells [.map (some 3), vT 4 t] true), (2, mO t), (3, rT t)] (S0 O) 101) (by kernel_rfl) ?_
  refine row_same (Q1 := fun v => v = (.tuple [pO 1, nI 0], SOt O t)) (fun p hp => ?_) hO hA (fun B w0 ι W args' hB hsr hv => ?_) (fun v hv => ?_) (fun q hq => ⟨by rw [hq]; exact .eq rfl, by rw [hq]; show 4 ≤ 100; decide, fun p hp => ⟨?_, ?_, ?_⟩⟩) (fun q hq => by rw [hq]; exact .eq rfl) fun q hq p hp => by rw [hq]; exact hb _ rfl rfl rfl p hp
  · simp only [List.mem_cons, List.not_mem_nil, or_false] at hp
    rcases hp with rfl | rfl | rfl <;> simp
  · have := of_run (g := g) I hO hA hbl B w0 ι W args' hB hsr hv
    rw [h] at this
    exact this
  · simp only [List.mem_cons, List.not_mem_nil, or_false] at hv
    rcases hv with rfl | rfl
    · exact .inr fun ids => rfl
    · exact .inl rfl
  · simp only [List.mem_cons, List.not_mem_nil, or_false] at hp
    rcases hp with rfl | rfl | rfl <;> simp
  · simp only [List.mem_cons, List.not_mem_nil, or_false] at hp
    rcases hp with rfl | rfl | rfl <;> simp
  · rw [hq]; exact hb _ rfl rfl rfl p hp
end
end Go.Proofs.Ytidmijpfoodkoaa.gho
end

section
open Go Go.Ax Go.Proofs
namespace Go.Proofs.Ytidmijpfoodkoaa.gho
set_option linter.unusedVariables false
noncomputable def EK : Env := envEx Try.prog (List.range 119) [(20, Try.f20), (21, Try.f21), (22, Try.f22), (23, Try.f23), (24, Try.f24), (25, Try.f25), (26, Try.f26), (27, Try.f27), (28, Try.f28), (29, Try.f29), (30, Try.f30), (31, Try.f31), (32, Try.f32), (33, Try.f33), (34, Try.f34), (37, Try.f37), (44, Try.f44), (45, Try.f45), (46, Try.f46), (47, Try.f47), (48, Try.f48), (49, Try.f49), (50, Try.f50), (51, Try.f51), (52, Try.f52), (53, Try.f53), (54, Try.f54), (55, Try.f55), (56, Try.f56), (57, Try.f57), (58, Try.f58)] []
theorem EKok : Env.Ok Try.prog EK := envEx_ok (xs := []) ⟨⟨Try.func20, Try.call20⟩, ⟨Try.func21, Try.call21⟩, ⟨Try.func22, Try.call22⟩, ⟨Try.func23, Try.call23⟩, ⟨Try.func24, Try.call24⟩, ⟨Try.func25, Try.call25⟩, ⟨Try.func26, Try.call26⟩, ⟨Try.func27, Try.call27⟩, ⟨Try.func28, Try.call28⟩, ⟨Try.func29, Try.call29⟩, ⟨Try.func30, Try.call30⟩, ⟨Try.func31, Try.call31⟩, ⟨Try.func32, Try.call32⟩, ⟨Try.func33, Try.call33⟩, ⟨Try.func34, Try.call34⟩, ⟨Try.func37, Try.call37⟩, ⟨Try.func44, Try.call44⟩, ⟨Try.func45, Try.call45⟩, ⟨Try.func46, Try.call46⟩, ⟨Try.func47, Try.call47⟩, ⟨Try.func48, Try.call48⟩, ⟨Try.func49, Try.call49⟩, ⟨Try.func50, Try.call50⟩, ⟨Try.func51, Try.call51⟩, ⟨Try.func52, Try.call52⟩, ⟨Try.func53, Try.call53⟩, ⟨Try.func54, Try.call54⟩, ⟨Try.func55, Try.call55⟩, ⟨Try.func56, Try.call56⟩, ⟨Try.func57, Try.call57⟩, ⟨Try.func58, Try.call58⟩, trivial⟩ trivial (by kernel_rfl)
theorem known_mem : AtMem Try.prog 21 [] (mkSt [] 0) (.bool true) := AtMem.of_run EKok noSum_ok (n := 300) (by kernel_rfl)
theorem known_at {S : ASt} : Call1 Try.prog 21 [] S (.bool true, S) :=
  Call1.read known_mem (by simp [refsV]) (l := []) rfl (fun j x hj => by
      have : (mkSt [] 0).h.get j = Option.none := T.get_e j
      rw [this] at hj; cases hj) (fun j q hq => by simp at hq) fun ι args' hv => ⟨hv.size, fun i v v' h => by simp at h⟩
section
variable {t : List (Int × Int)} {g a b : Int} {S : ASt} {O : AO}
structure TreeB (S : ASt) (t : List (Int × Int)) : Prop where
  o : S.h.get 1 = some (tA (vT 3 t))
  m : S.h.get 2 = some (mO t)
  r : S.h.get 3 = some (rT t)
  next : 4 ≤ S.next
noncomputable abbrev TRt (t : List (Int × Int)) : ASt := TR t t.length (capT t) ((t.map Prod.fst).map gU)
theorem TRt_at : TreeAt (TRt t) t t.length (capT t) ((t.map Prod.fst).map gU) := ⟨by kernel_rfl, by kernel_rfl, by kernel_rfl, gU_refs⟩
theorem treeB_same {f : Nat} {args args1 : List AV} {Q1 : AV × ASt → Prop} {ot : List (Nat × AO)} {v : AV} (hS : TreeB S t)
    (hrun : ∀ B w0 ι W args', (∀ i, ¬ B.rs i) → SR B w0 ι (TRt t) W → VRs ι args1 args' → (callFunc f args').run Try.prog W = .ok (.enter f args') W ∧ CallsIn Fence.wide 0 Try.prog f args' W fun e w' => ∃ v, Q1 v ∧ Post B w0 ι v e w')
    (hargs : args.map (renV (idsA 1 3)) = args1.map some)
    (hb : ∀ q, Q1 q → BackV (gA 1 3 S.next) q.1 v ∧ q.2.next ≤ 110 ∧ q.2.h.get 0 = some (tO (vR t.length (capT t))) ∧ q.2.h.get 1 = some (mO t) ∧ q.2.h.get 2 = some (rT t) ∧
      ∀ p, p ∈ ot → 3 ≤ p.1 ∧ p.1 < 110 ∧ (p.2 = .dead ∨ p.2.own = true ∧ ∃ a, q.2.h.get p.1 = some a ∧ BackO (gA 1 3 S.next) a p.2)) :
    Call1 Try.prog f args S (v, outS (gA 1 3 S.next) ((0, tA (vT 3 t)) :: (1, mO t) :: (2, rT t) :: ot) S (S.next + 110)) := by
  have hn := hS.next
  refine Call1.sameAt (S := S) (S1 := TRt t) (args1 := args1) 1 3 3 (Nat.le_refl 3) hrun rfl (by omega) (fun j hj => ?_) (fun j x hj => ?_) hargs fun q hq => ?_
  · match j, hj with
    | 0, _ => exact ⟨_, hS.o, by simp [tA]⟩
    | 1, _ => exact ⟨_, hS.m, by simp [mO]⟩
    | 2, _ => exact ⟨_, hS.r, by simp [rT]⟩
  · rcases get3 hj with ⟨rfl, rfl⟩ | ⟨rfl, rfl⟩ | ⟨rfl, rfl⟩
    · exact ⟨by decide, fun _ => ⟨by decide, _, hS.o, .of (by kernel_rfl)⟩⟩
    · exact ⟨by decide, fun _ => ⟨by decide, _, hS.m, mO_ren⟩⟩
    · exact ⟨by decide, fun _ => ⟨by decide, _, hS.r, .row gU_refs⟩⟩
  · obtain ⟨b1, b2, b3, b4, b5, b6⟩ := hb q hq
    refine ⟨b1, by omega, by omega, fun p hp => ?_, fun j x hj ho => ?_⟩
    · rcases List.mem_cons.1 hp with rfl | hp
      · exact ⟨.inl (by show 0 < 3; decide), (by show S.next + 0 < S.next + 110; omega), fun _ => ⟨_, (by kernel_rfl : _ = some (tO (vR t.length (capT t)))), rfl⟩, .inr ⟨rfl, _, b3, .cells rfl⟩⟩
      · rcases List.mem_cons.1 hp with rfl | hp
        · exact ⟨.inl (by show 1 < 3; decide), (by show S.next + 1 < S.next + 110; omega), fun _ => ⟨_, (by kernel_rfl : _ = some (mO t)), rfl⟩, .inr ⟨rfl, _, b4, mO_back⟩⟩
        · rcases List.mem_cons.1 hp with rfl | hp
          · exact ⟨.inl (by show 2 < 3; decide), (by show S.next + 2 < S.next + 110; omega), fun _ => ⟨_, (by kernel_rfl : _ = some (rT t)), rfl⟩, .inr ⟨rfl, _, b5, .row gU_refs⟩⟩
          · obtain ⟨c1, c2, c3⟩ := b6 p hp
            exact ⟨.inr c1, by omega, fun h => absurd h (by omega), c3⟩
    · rcases get3 hj with ⟨rfl, rfl⟩ | ⟨rfl, rfl⟩ | ⟨rfl, rfl⟩
      · exact ⟨_, List.mem_cons_self, rfl⟩
      · exact ⟨_, List.mem_cons_of_mem _ List.mem_cons_self, rfl⟩
      · exact ⟨_, List.mem_cons_of_mem _ (List.mem_cons_of_mem _ List.mem_cons_self), rfl⟩
theorem upB_at (hS : TreeB S t) (hT : TreeOk t) (hl : (up t g).length < 100000) :
    Call1 Try.prog 26 [pO 1, gU g] S (Uv (S.next + 16) (up t g), outS (gA 1 3 S.next) [(0, tA (vT 3 t)), (1, mO t), (2, rT t), (16, Ux (up t g))] S (S.next + 110)) := by
  have h0 := up_at (S := TRt t) (g := g) TRt_at hT hl
  refine treeB_same (args1 := [pO 0, gU g]) (ot := [(16, Ux (up t g))]) (Q1 := fun q => q = (Uv 16 (up t g), outS (gK 3 3) [(0, tO (vR t.length (capT t))), (1, mO t), (2, rT t), (13, Ux (up t g))] (TRt t) 103)) hS (fun B w0 ι W args' hB hsr hv => ?_) rfl fun q hq => ?_
  · obtain ⟨k1, k2⟩ := h0 B w0 ι W args' hsr hv
    exact ⟨k1, k2.mono fun e w' hp => ⟨_, rfl, hp⟩⟩
  · subst hq
    refine ⟨Uv_back (by unfold gA; rfl), by show 103 ≤ 110; decide, by kernel_rfl, by kernel_rfl, by kernel_rfl, fun p hp => ?_⟩
    simp only [List.mem_cons, List.not_mem_nil, or_false] at hp
    subst hp
    exact ⟨by show 3 ≤ 16; decide, by show 16 < 110; decide, Ux_back (by kernel_rfl)⟩
theorem commonB_at (hS : TreeB S t) (hT : TreeOk t) (hl : (up t b).length < 90000) :
    Call1 Try.prog 24 [pO 1, gU a, gU b] S (.tuple [gU (comV t a b).1, .bool (comV t a b).2], outS (gA 1 3 S.next) [(0, tA (vT 3 t)), (1, mO t), (2, rT t)] S (S.next + 110)) := by
  have h0 := common_at (S := TRt t) (a := a) (b := b) TRt_at hT hl
  refine treeB_same (args1 := [pO 0, gU a, gU b]) (ot := []) (Q1 := fun q => q = (.tuple [gU (comV t a b).1, .bool (comV t a b).2], outS (gK 3 3) [(0, tO (vR t.length (capT t))), (1, mO t), (2, rT t)] (TRt t) 103)) hS (fun B w0 ι W args' hB hsr hv => ?_) rfl fun q hq => ?_
  · obtain ⟨k1, k2⟩ := h0 B w0 ι W args' hsr hv
    exact ⟨k1, k2.mono fun e w' hp => ⟨_, rfl, hp⟩⟩
  · subst hq
    exact ⟨.keep (by simp [refsV, gU]), by show 103 ≤ 110; decide, by kernel_rfl, by kernel_rfl, by kernel_rfl, fun p hp => by cases hp⟩
end
end Go.Proofs.Ytidmijpfoodkoaa.gho
end

section
open Go Go.Ax Go.Proofs
namespace Go.Proofs.Ytidmijpfoodkoaa.gho
set_option linter.unusedVariables false
section
variable {t : List (Int × Int)} {g a b c p v : Int} {x : Int × Int} {bs : List Br} {i j k : Nat}
theorem hasK_app : hasK (t ++ [x]) g = (hasK t g || eqF g x.1) := by unfold hasK; rw [List.any_append]; simp
theorem rank_le : rankK t g ≤ t.length := by
  induction t with
  | nil => exact Nat.le_refl _
  | cons y t ih =>
    unfold rankK
    cases eqF g y.1
    · simp only [cond_false, List.length_cons]; omega
    · simp only [cond_true, List.length_cons]; omega
theorem rank_lt (h : hasK t g = true) : rankK t g < t.length := by
  induction t with
  | nil => cases h
  | cons y t ih =>
    unfold rankK
    cases e : eqF g y.1
    · simp only [cond_false, List.length_cons]
      have : hasK t g = true := by unfold hasK at h ⊢; rw [List.any_cons, e] at h; simpa using h
      have := ih this
      omega
    · simp only [cond_true, List.length_cons]; omega
theorem rank_app : rankK (t ++ [x]) g = bif hasK t g then rankK t g else bif eqF g x.1 then t.length else t.length + 1 := by
  induction t with
  | nil => unfold hasK; simp [rankK]
  | cons y t ih =>
    rw [List.cons_append]
    unfold rankK
    rw [ih]
    unfold hasK
    rw [List.any_cons]
    cases e : eqF g y.1 with
    | true => simp
    | false =>
      simp only [Bool.false_or, cond_false, List.length_cons]
      cases t.any fun p => eqF g p.1
      · cases eqF g x.1 <;> rfl
      · rfl
theorem parK_cons : parK (x :: t) g = bif eqF g x.1 then x.2 else parK t g := by unfold parK; cases t <;> rfl
theorem par_app (h : hasK t g = true) : parK (t ++ [x]) g = parK t g := by
  induction t with
  | nil => cases h
  | cons y t ih =>
    rw [List.cons_append, parK_cons, parK_cons]
    cases e : eqF g y.1 with
    | true => rfl
    | false =>
      simp only [cond_false]
      exact ih (by unfold hasK at h ⊢; rw [List.any_cons, e] at h; simpa using h)
theorem par_new (h : hasK t g = false) (e : eqF g x.1 = true) : parK (t ++ [x]) g = x.2 := by
  induction t with
  | nil => rw [List.nil_append, parK_cons, e]; rfl
  | cons y t ih =>
    have h1 : eqF g y.1 = false ∧ hasK t g = false := by unfold hasK at h ⊢; rw [List.any_cons, Bool.or_eq_false_iff] at h; exact h
    rw [List.cons_append, parK_cons, h1.1]
    exact ih h1.2
theorem TreeOk.one : TreeOk [(g, .ofNat 0)] := ⟨fun g' h hp => by
  exfalso
  unfold hasK at h
  rw [List.any_cons, List.any_nil, Bool.or_false] at h
  rw [parK_cons, h, cond_true, eqF_self] at hp
  cases hp⟩
theorem TreeOk.app (h : TreeOk t) (hc : hasK t c = false) (hp : hasK t p = true) : TreeOk (t ++ [(c, p)]) := ⟨fun g h1 h2 => by
  cases hg : hasK t g with
  | true =>
    rw [par_app hg] at h2 ⊢
    obtain ⟨k1, k2⟩ := h.par g hg h2
    refine ⟨by rw [hasK_app, k1]; rfl, ?_⟩
    rw [rank_app, rank_app, k1, hg]
    exact k2
  | false =>
    have he : eqF g c = true := by rw [hasK_app, hg] at h1; simpa using h1
    rw [par_new hg he] at h2 ⊢
    refine ⟨by rw [hasK_app, hp]; rfl, ?_⟩
    rw [rank_app, rank_app, hp, hg, he]
    exact rank_lt hp⟩
theorem ofL_ok : ∀ (bs : List Br) (t0 : List (Int × Int)), TreeOk t0 → ofL t0 bs = .ok t → TreeOk t ∧ t.length ≤ t0.length + bs.length
  | [], t0, h, he => by
    cases he
    exact ⟨h, by simp⟩
  | y :: bs, t0, h, he => by
    unfold ofL at he
    cases h1 : (eqF y.2 (.ofNat 0) || hasK t0 y.2) with
    | true => rw [h1] at he; cases he
    | false =>
      rw [h1] at he
      cases h2 : hasK t0 y.1 with
      | false => rw [h2] at he; cases he
      | true =>
        rw [h2] at he
        simp only [cond_false, cond_true] at he
        rw [Bool.or_eq_false_iff] at h1
        obtain ⟨k1, k2⟩ := ofL_ok bs _ (h.app h1.2 h2) he
        exact ⟨k1, by rw [List.length_append] at k2; simp only [List.length_cons, List.length_nil] at k2 ⊢; omega⟩
theorem ofR_ok (h : ofR g bs = .ok t) : TreeOk t ∧ t.length ≤ bs.length + 1 := by
  unfold ofR at h
  cases hg : eqF g (.ofNat 0) with
  | true => rw [hg] at h; cases h
  | false =>
    rw [hg] at h
    obtain ⟨h1, h2⟩ := ofL_ok bs _ TreeOk.one h
    exact ⟨h1, by simp only [List.length_cons, List.length_nil] at h2; omega⟩
theorem ofL_err : ∀ (bs : List Br) (t0 : List (Int × Int)) {e : Nat}, ofL t0 bs = .no e → e = 2 ∨ e = 6
  | [], t0, e, h => by cases h
  | y :: bs, t0, e, h => by
    unfold ofL at h
    cases h1 : (eqF y.2 (.ofNat 0) || hasK t0 y.2) with
    | true => rw [h1] at h; cases h; exact .inl rfl
    | false =>
      rw [h1] at h
      cases h2 : hasK t0 y.1 with
      | false => rw [h2] at h; cases h; exact .inr rfl
      | true => rw [h2] at h; exact ofL_err bs _ h
theorem ofR_err {e : Nat} (h : ofR g bs = .no e) : e = 2 ∨ e = 6 := by
  unfold ofR at h
  cases hg : eqF g (.ofNat 0) with
  | true => rw [hg] at h; cases h; exact .inl rfl
  | false => rw [hg] at h; exact ofL_err _ _ h
theorem upF_len : ∀ (n : Nat) (g : Int), (upF t n g).length ≤ n
  | 0, g => Nat.le_refl _
  | n + 1, g => by
    unfold upF
    cases hasK t g with
    | false => exact Nat.zero_le _
    | true =>
      cases eqF (parK t g) (.ofNat 0) with
      | true => exact Nat.zero_le _
      | false =>
        have := upF_len n (parK t g)
        simp only [cond_true, cond_false, List.length_cons]
        omega
theorem up_len : (up t g).length ≤ t.length + 1 := by
  have h1 := upF_len (t := t) (rankK t g + 1) g
  have h2 := rank_le (t := t) (g := g)
  unfold up; omega
def chn (t : List (Int × Int)) (g : Int) : List Int := g :: up t g
theorem up_cases (hT : TreeOk t) (g : Int) : up t g = [] ∨ ∃ p, up t g = chn t p ∧ rankK t p < rankK t g := by
  cases hg : hasK t g with
  | false => exact .inl (up_none hg)
  | true =>
    cases hp : eqF (parK t g) (.ofNat 0) with
    | true => exact .inl (up_root hp)
    | false => exact .inr ⟨_, up_step hT hg hp, (hT.par g hg hp).2⟩
theorem chn_at (hT : TreeOk t) : ∀ (j : Nat) (g : Int), (chn t g)[j]? = some v → (chn t g).drop j = chn t v ∧ rankK t v + j ≤ rankK t g
  | 0, g, h => by cases h; exact ⟨rfl, Nat.le_refl _⟩
  | j + 1, g, h => by
    unfold chn at h
    rw [List.getElem?_cons_succ] at h
    rcases up_cases hT g with hu | ⟨p, hu, hr⟩
    · rw [hu] at h; cases h
    · rw [hu] at h
      obtain ⟨h1, h2⟩ := chn_at hT j p h
      refine ⟨?_, by omega⟩
      show (g :: up t g).drop (j + 1) = _
      rw [List.drop_succ_cons, hu, h1]
theorem inY_iff {p : Int} : inY t b p = true ↔ p ∈ chn t b := by
  unfold inY chn
  rw [List.any_eq_true]
  exact ⟨fun ⟨q, h1, h2⟩ => eqF_t h2 ▸ h1, fun h => ⟨p, h, eqF_self p⟩⟩
theorem comm_some (h : comm t a b = some c) : ∃ i : Nat, (chn t a)[i]? = some c ∧ c ∈ chn t b ∧ ∀ (j : Nat) r, j < i → (chn t a)[j]? = some r → r ∉ chn t b := by
  unfold comm at h
  rw [List.find?_eq_some_iff_getElem] at h
  obtain ⟨h1, i, hi, h2, h3⟩ := h
  refine ⟨i, by rw [← h2]; exact List.getElem?_eq_getElem hi, inY_iff.1 h1, fun j r hj hr hm => ?_⟩
  have := h3 j hj
  have hr' : (a :: up t a)[j]? = some r := hr
  rw [List.getElem?_eq_getElem (by omega)] at hr'
  simp only [Option.some.injEq] at hr'
  rw [hr', inY_iff.2 hm] at this
  cases this
theorem comm_of {i : Nat} (h1 : (chn t a)[i]? = some c) (h2 : c ∈ chn t b) (h3 : ∀ (j : Nat) r, j < i → (chn t a)[j]? = some r → r ∉ chn t b) : comm t a b = some c := by
  unfold comm
  rw [List.find?_eq_some_iff_getElem]
  obtain ⟨hi, he⟩ := List.getElem?_eq_some_iff.1 h1
  refine ⟨inY_iff.2 h2, i, hi, he, fun j hj => ?_⟩
  have hj2 : j < (a :: up t a).length := Nat.lt_trans hj hi
  have := h3 j _ hj (List.getElem?_eq_getElem hj2)
  cases hq : inY t b (a :: up t a)[j] with
  | true => exact absurd (inY_iff.1 hq) this
  | false => rfl
theorem first_ix {l : List Int} (h : c ∈ l) : ∃ k : Nat, l[k]? = some c ∧ ∀ (j : Nat) r, j < k → l[j]? = some r → eqF r c = false := by
  induction l with
  | nil => cases h
  | cons x l ih =>
    cases e : eqF x c with
    | true => exact ⟨0, by rw [← eqF_t e]; rfl, fun j r hj => absurd hj (by omega)⟩
    | false =>
      have hm : c ∈ l := by
        rcases List.mem_cons.1 h with rfl | h
        · rw [eqF_self] at e; cases e
        · exact h
      obtain ⟨k, h1, h2⟩ := ih hm
      refine ⟨k + 1, h1, fun j r hj hr => ?_⟩
      cases j with
      | zero => cases hr; exact e
      | succ j => exact h2 j r (by omega) hr
theorem comm_sym1 (hT : TreeOk t) (h : comm t a b = some c) : comm t b a = some c := by
  obtain ⟨i, h1, h2, h3⟩ := comm_some h
  obtain ⟨k, k1, k2⟩ := first_ix h2
  refine comm_of k1 (List.mem_of_getElem? h1) fun j r hj hr hm => ?_
  obtain ⟨m, hm⟩ := List.getElem?_of_mem hm
  obtain ⟨q1, q2⟩ := chn_at hT j b hr
  have hc : (chn t r)[k - j]? = some c := by rw [← q1, List.getElem?_drop, show j + (k - j) = k by omega]; exact k1
  have r1 := (chn_at hT _ r hc).2
  by_cases hmi : m < i
  · exact h3 m r hmi hm (List.mem_of_getElem? hr)
  · obtain ⟨p1, p2⟩ := chn_at hT i a h1
    have hd : (chn t c)[m - i]? = some r := by rw [← p1, List.getElem?_drop, show i + (m - i) = m by omega]; exact hm
    have r2 := (chn_at hT _ c hd).2
    omega
theorem comm_sym (hT : TreeOk t) : comm t a b = comm t b a := by
  cases h : comm t a b with
  | some c => rw [comm_sym1 hT h]
  | none =>
    cases h' : comm t b a with
    | none => rfl
    | some c => rw [comm_sym1 hT h'] at h; cases h
theorem comV_sym (hT : TreeOk t) : comV t a b = comV t b a := by
  unfold comV
  rw [comm_sym hT, Bool.and_comm]
theorem comm_law (hT : TreeOk t) (h : comm t a b = some c) : ∃ i k : Nat, (chn t a)[i]? = some c ∧ (chn t b)[k]? = some c ∧ idxP (fun r => eqF r c) (chn t a) = .ofNat i ∧ idxP (fun r => eqF r c) (chn t b) = .ofNat k ∧
    (∀ (j : Nat) r, j < i → (chn t a)[j]? = some r → idxP (fun q => eqF q r) (chn t b) = .negSucc 0) ∧ (chn t a).drop i = (chn t b).drop k := by
  obtain ⟨i, h1, h2, h3⟩ := comm_some h
  obtain ⟨k, k1, k2⟩ := first_ix h2
  refine ⟨i, k, h1, k1, idx_found (p := fun r => eqF r c) (fun j r hj hr => ?_) h1 (eqF_self c), idx_found (p := fun r => eqF r c) k2 k1 (eqF_self c), fun j r hj hr => idx_none (p := fun q => eqF q r) fun m q hm hq => ?_, ?_⟩
  · cases e : eqF r c with
    | false => rfl
    | true => exact absurd (eqF_t e ▸ h2) (h3 j r hj hr)
  · cases e : eqF q r with
    | false => rfl
    | true => exact absurd (eqF_t e ▸ List.mem_of_getElem? hq) (h3 j r hj hr)
  · rw [(chn_at hT i a h1).1, (chn_at hT k b k1).1]
structure RootOk (t : List (Int × Int)) (r : Int) : Prop where
  root : ∀ g, hasK t g = true → eqF (parK t g) (.ofNat 0) = true → g = r
  none : hasK t (.ofNat 0) = false
theorem RootOk.one (h : eqF g (.ofNat 0) = false) : RootOk [(g, .ofNat 0)] g := by
  constructor
  · intro g' h1 _
    unfold hasK at h1
    rw [List.any_cons, List.any_nil, Bool.or_false] at h1
    exact eqF_t h1
  · unfold hasK
    rw [List.any_cons, List.any_nil, Bool.or_false]
    cases e : eqF (.ofNat 0) g with
    | false => rfl
    | true => rw [← eqF_t e, eqF_self] at h; cases h
theorem RootOk.app (h : RootOk t g) (hc0 : eqF c (.ofNat 0) = false) (hc : hasK t c = false) (hp : hasK t p = true) : RootOk (t ++ [(c, p)]) g := by
  constructor
  · intro g' h1 h2
    cases hg : hasK t g' with
    | true => rw [par_app hg] at h2; exact h.root g' hg h2
    | false =>
      have he : eqF g' c = true := by rw [hasK_app, hg] at h1; simpa using h1
      rw [par_new hg he] at h2
      have : p = .ofNat 0 := eqF_t h2
      rw [this, h.none] at hp
      cases hp
  · rw [hasK_app, h.none]
    cases e : eqF (.ofNat 0) c with
    | false => rfl
    | true => rw [← eqF_t e, eqF_self] at hc0; cases hc0
theorem ofL_root {r : Int} : ∀ (bs : List Br) (t0 : List (Int × Int)), RootOk t0 r → ofL t0 bs = .ok t → RootOk t r
  | [], t0, h, he => by cases he; exact h
  | y :: bs, t0, h, he => by
    unfold ofL at he
    cases h1 : (eqF y.2 (.ofNat 0) || hasK t0 y.2) with
    | true => rw [h1] at he; cases he
    | false =>
      rw [h1] at he
      cases h2 : hasK t0 y.1 with
      | false => rw [h2] at he; cases he
      | true =>
        rw [h2] at he
        simp only [cond_false, cond_true] at he
        rw [Bool.or_eq_false_iff] at h1
        exact ofL_root bs _ (h.app h1.1 h1.2 h2) he
theorem ofR_root (h : ofR g bs = .ok t) : RootOk t g := by
  unfold ofR at h
  cases hg : eqF g (.ofNat 0) with
  | true => rw [hg] at h; cases h
  | false => rw [hg] at h; exact ofL_root bs _ (RootOk.one hg) h
theorem root_in {r : Int} (hT : TreeOk t) (hR : RootOk t r) : ∀ (n : Nat) (g : Int), rankK t g < n → hasK t g = true → r ∈ chn t g
  | 0, g, h, _ => absurd h (by omega)
  | n + 1, g, h, hg => by
    cases hp : eqF (parK t g) (.ofNat 0) with
    | true => rw [hR.root g hg hp]; exact List.mem_cons_self
    | false =>
      obtain ⟨k1, k2⟩ := hT.par g hg hp
      have := root_in hT hR n (parK t g) (by omega) k1
      unfold chn
      rw [up_step hT hg hp]
      exact List.mem_cons_of_mem _ this
theorem comm_is {r : Int} (hT : TreeOk t) (hR : RootOk t r) (ha : hasK t a = true) (hb : hasK t b = true) : ∃ c, comm t a b = some c := by
  cases h : comm t a b with
  | some c => exact ⟨c, rfl⟩
  | none =>
    unfold comm at h
    rw [List.find?_eq_none] at h
    have h1 := h r (root_in hT hR _ a (Nat.lt_succ_self _) ha)
    exact absurd (inY_iff.2 (root_in hT hR _ b (Nat.lt_succ_self _) hb)) h1
end
end Go.Proofs.Ytidmijpfoodkoaa.gho
end
