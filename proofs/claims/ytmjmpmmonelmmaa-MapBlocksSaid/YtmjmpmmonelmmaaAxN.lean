/-
  OWN WORK, TOLD ONCE FOR ALL TEXTS YtmjmpmmonelmmaaAxA TO YtmjmpmmonelmmaaAxU: an abstract machine for the program's text that the kernel can run, and the proof that it is sound: what it answers is what the program answers. No condition.
-/
import Derived.Test.YtmjmpmmonelmmaaAxM
namespace Go.Ax
noncomputable section
open Go.RowKit

def DR (ι : Ren) : List Nat → List Deferred → Prop
  | [], [] => True
  | i :: is, d :: ds => (∃ L, ι i = some L ∧ d = { target := .collected L.b, args := #[] }) ∧ DR ι is ds
  | _, _ => False

theorem DR.mono {ι κ : Ren} (hle : ι.le κ) : ∀ {is : List Nat} {ds : List Deferred}, DR ι is ds → DR κ is ds
  | [], [], _ => trivial
  | _ :: _, _ :: _, ⟨⟨L, h1, h2⟩, h3⟩ => ⟨⟨L, hle _ _ h1, h2⟩, DR.mono hle h3⟩
  | [], _ :: _, h => h.elim
  | _ :: _, [], h => h.elim

structure FRA (ι : Ren) (fr : AFr) (a : Act) : Prop where
  hf : FR ι fr a.tmps
  hd : DR ι fr.defs a.defers

theorem FRA.mono {ι κ : Ren} (hle : ι.le κ) {fr : AFr} {a : Act} (h : FRA ι fr a) : FRA κ fr a := ⟨h.hf.mono hle, h.hd.mono hle⟩

/-- what a call comes to -/
def Post (B : Prot) (w0 : World) (ι : Ren) (r : AV × ASt) (e : Ending) (w' : World) : Prop :=
  ∃ v ι', e = .returned v ∧ ι.le ι' ∧ SR B w0 ι' r.2 w' ∧ VR ι' r.1 v

def CallOK (P : Program) (B : Prot) (w0 : World) (call : CallT) : Prop :=
  ∀ f args st r, call f args st = some r → ∀ ι w args', SR B w0 ι st w → VRs ι args args' →
    (callFunc f args').run P w = .ok (.enter f args') w ∧ CallsIn Fence.wide 0 P f args' w (Post B w0 ι r)

def RoundOK (P : Program) (B : Prot) (w0 : World) (round : CallT) : Prop :=
  ∀ l args st r, round l args st = some r → ∀ ι w args' L, SR B w0 ι st w → VRs ι args args' → ι l = some L →
    ∃ fn tmps as bo, (Instr.yield L.b args').run P w = .ok (.round L.b fn tmps as bo) w ∧ RoundIn Fence.wide 0 P L.b fn tmps as bo w (Post B w0 ι r)

def CallsOK (P : Program) (call : CallT) : Prop := ∀ B w0, CallOK P B w0 call
def RoundsOK (P : Program) (round : CallT) : Prop := ∀ B w0, RoundOK P B w0 round

/-- the fence of a frame -/
def FF : Option Nat → Fence
  | none => Fence.wide
  | some l => Fence.wide.inRound l

theorem FF_fn (ro : Option Nat) (f : FuncId) : (FF ro).fn f := by cases ro <;> trivial
theorem FF_depth (ro : Option Nat) : (FF ro).depth.isSome = true → 1 ≤ 0 := by cases ro <;> intro h <;> simp [FF, Fence.wide, Fence.inRound] at h
theorem FF_round (ro : Option Nat) : (FF ro).round = ro := by cases ro <;> rfl
theorem FF_calls {ro : Option Nat} {P : Program} {f : FuncId} {args : Array Value} {w : World} {R : Ending → World → Prop} (h : CallsIn Fence.wide 0 P f args w R) :
    CallsIn (FF ro) 0 P f args w R := by cases ro <;> exact h
theorem FF_rounds {ro : Option Nat} {P : Program} {l : Nat} {f : FuncId} {tmps : Array Value} {as bo : Code} {w : World} {R : Ending → World → Prop}
    (h : RoundIn Fence.wide 0 P l f tmps as bo w R) : RoundIn (FF ro) 0 P l f tmps as bo w R := by cases ro <;> exact h

section
variable {P : Program} {E : Env} {B : Prot} {w0 : World} {ι : Ren} {st : ASt} {w : World} {fr : AFr} {a : Act}

theorem evA_ok (h : FR ι fr a.tmps) {x : Operand} {v : AV} (hv : evA fr x = some v) : VR ι v (a.eval x) := by
  cases x with
  | tmp t => simp only [evA, Option.some.injEq] at hv; subst hv; exact h.2 t
  | const c => exact ofValue_ok hv
  | global g =>
    simp only [evA] at hv
    cases hg : glV g with
    | none => rw [hg] at hv; cases hv
    | some cs => rw [hg] at hv; simp only [Option.some.injEq] at hv; subst hv; exact .gptr g 0
  | func f => simp only [evA, Option.some.injEq] at hv; subst hv; exact .clos f [] #[] rfl (fun i v v' h => by simp at h)

theorem evL_ok (h : FR ι fr a.tmps) : ∀ (l : List Operand) (vs : List AV), evL fr l = some vs → VRs ι vs (l.map a.eval).toArray
  | [], vs, hv => by simp [evL] at hv; subst hv; exact ⟨rfl, fun i v v' h => by simp at h⟩
  | x :: l, vs, hv => by
    simp only [evL] at hv
    split at hv
    · rename_i v hx
      split at hv
      · rename_i vs' hl
        simp only [Option.some.injEq] at hv; subst hv
        have ih := evL_ok h l vs' hl
        refine ⟨by have := ih.size; simp at this; simp [this], fun i y y' hy hy' => ?_⟩
        cases i with
        | zero => simp at hy hy'; subst hy; subst hy'; exact evA_ok h hx
        | succ i => simp at hy hy'; exact ih.at_ i y y' hy (by simpa using hy')
      · simp at hv
    · simp at hv

theorem evO_ok (h : FR ι fr a.tmps) {x : Option Operand} {v : Option AV} (hv : evO fr x = some v) : OVR ι v (x.map a.eval) := by
  cases x with
  | none => simp [evO] at hv; subst hv; trivial
  | some x =>
    simp only [evO] at hv
    split at hv
    · rename_i y hy
      simp only [Option.some.injEq] at hv; subst hv
      exact evA_ok h hy
    · simp at hv

theorem evP_ok (h : FR ι fr a.tmps) : ∀ (l : List (Nat × Operand)) (vs : List (Nat × AV)), evP fr l = some vs →
    vs.map (·.1) = (l.map fun (i, x) => (i, a.eval x)).map (·.1) ∧ ∀ (k : Nat) p p', vs[k]? = some p → (l.map fun (i, x) => (i, a.eval x))[k]? = some p' → VR ι p.2 p'.2
  | [], vs, hv => by simp [evP] at hv; subst hv; exact ⟨rfl, fun k p p' h => by simp at h⟩
  | (i, x) :: l, vs, hv => by
    simp only [evP] at hv
    split at hv
    · rename_i v hx
      split at hv
      · rename_i vs' hl
        simp only [Option.some.injEq] at hv; subst hv
        obtain ⟨h1, h2⟩ := evP_ok h l vs' hl
        refine ⟨by simpa using h1, fun k p p' hp hp' => ?_⟩
        cases k with
        | zero => simp at hp hp'; subst hp; subst hp'; exact evA_ok h hx
        | succ k => simp only [List.map_cons, List.getElem?_cons_succ] at hp hp'; exact h2 k p p' hp hp'
      · simp at hv
    · simp at hv

theorem put_ok (h : FRA ι fr a) {dst : Option Tmp} {v : AV} {v' : Value} {fr' : AFr} (hv : VR ι v v') (hp : fr.put dst v = some fr') : FRA ι fr' (a.put dst v') := by
  obtain ⟨m, n, ds⟩ := fr
  obtain ⟨⟨hs, hg⟩, hd⟩ := h
  cases dst with
  | none => simp only [AFr.put, Option.some.injEq] at hp; subst hp; exact ⟨⟨hs, hg⟩, hd⟩
  | some d =>
    simp only [AFr.put] at hp
    cases hb : Nat.ble (Nat.succ d) n
    · simp only [hb, cond_false, reduceCtorEq] at hp
    · simp only [hb, cond_true, Option.some.injEq] at hp; subst hp
      have hlt : d < a.tmps.size := by rw [hs]; exact ble_le hb
      refine ⟨⟨by simpa [Act.put] using hs, fun t => ?_⟩, hd⟩
      simp only [T.get_set, Act.put]
      by_cases ht : t = d
      · subst ht; simp [hlt]; exact hv
      · have : ¬ d = t := fun e => ht e.symm
        simp only [ht, if_false]
        have := hg t
        simp only [Array.getD_eq_getD_getElem?, Array.getElem?_setIfInBounds] at this ⊢
        simp only [show ¬ d = t from fun e => ht e.symm, if_false]
        exact this

theorem wanted_ok (h : FR ι fr a.tmps) (ops : Array Oper) (o : Oper) (hg : guardAny ops.toList fr o = false) : Region.wanted o (yielded ops a.tmps) = wantedA ops.toList fr o := by
  unfold guardAny at hg
  unfold Region.wanted wantedA
  cases hog : o.guard with
  | none => rfl
  | some g =>
    obtain ⟨j, want⟩ := g
    simp only [yielded]
    have e : ops.toList[j]? = ops[j]? := by simp
    rw [hog] at hg
    simp only [e] at hg
    rw [e]
    cases hoj : ops[j]? with
    | none => simp
    | some oj =>
      rw [hoj] at hg
      simp only at hg
      simp only [Option.bind_some]
      cases hdj : oj.dst with
      | none => simp
      | some d =>
        rw [hdj] at hg
        simp only at hg
        simp only [Option.bind_some]
        have hd := h.2 d
        cases ht : a.tmps[d]? with
        | none =>
          have e2 : a.tmps.getD d undef = undef := by simp [ht]
          rw [e2] at hd
          generalize (fr.m.get d).getD undefA = x at hd hg
          cases hd <;> simp at hg ⊢
        | some y =>
          have e2 : a.tmps.getD d undef = y := by simp [ht]
          rw [e2] at hd
          generalize (fr.m.get d).getD undefA = x at hd hg
          cases hd with
          | bool b => cases b <;> cases want <;> rfl
          | any v => simp at hg
          | _ => simp

/-- an operation's run, whatever becomes of it -/
def Runs (P : Program) (B : Prot) (w0 : World) (ι : Ren) (w : World) (s : Sem Next) (r : AV × ASt) : Prop :=
  (∃ ι' v w', s.run P w = .ok (.value v) w' ∧ ι.le ι' ∧ SR B w0 ι' r.2 w' ∧ VR ι' r.1 v) ∨
  (∃ w', s.run P w = .ok .skip w' ∧ SR B w0 ι r.2 w' ∧ r.1 = undefA) ∨
  (∃ f args, s.run P w = .ok (.enter f args) w ∧ CallsIn Fence.wide 0 P f args w (Post B w0 ι r)) ∨
  (∃ l fn tmps as bo, s.run P w = .ok (.round l fn tmps as bo) w ∧ RoundIn Fence.wide 0 P l fn tmps as bo w (Post B w0 ι r))

theorem Runs.val (hsr : SR B w0 ι st w) {s : Sem Value} {x : Option AV} {r : AV × ASt} (hs : still st x = some r) (h : ∀ y, x = some y → ∃ v, s.run P w = .ok v w ∧ VR ι y v) :
    Runs P B w0 ι w (do pure (.value (← s))) r := by
  cases x with
  | none => simp [still] at hs
  | some y =>
    simp only [still, Option.some.injEq] at hs; subst hs
    obtain ⟨v, h1, h2⟩ := h y rfl
    exact .inl ⟨ι, v, w, by simp only [Sem.run_bind, h1, Result.andThen_ok, Sem.run_pure], ι.le_refl, hsr, h2⟩

theorem Runs.did {s : Sem Value} {r : AV × ASt} (h : Did P B w0 ι w s r) : Runs P B w0 ι w (do pure (.value (← s))) r := by
  obtain ⟨ι', v, w', h1, h2, h3, h4⟩ := h
  exact .inl ⟨ι', v, w', by simp only [Sem.run_bind, h1, Result.andThen_ok, Sem.run_pure], h2, h3, h4⟩

theorem aCall_ok (hE : E.Ok P) (hsr : SR B w0 ι st w) (hfr : FR ι fr a.tmps) {call round : CallT} (hc : CallOK P B w0 call) (hr : RoundOK P B w0 round) {c : Call} {type : TypeId} {r : AV × ASt}
    (h : aCall E call round c fr st = some r) : Runs P B w0 ι w (do let d ← resolve a.eval c type; invoke d.target d.args) r := by
  simp only [aCall] at h
  split at h
  · simp at h
  rename_i args hargs
  have ha : VRs ι args (c.args.map a.eval) := by
    have := evL_ok hfr c.args.toList args hargs
    have e : (c.args.map a.eval) = (c.args.toList.map a.eval).toArray := by
      apply Array.ext'; simp
    rw [e]; exact this
  split at h
  · rename_i b hb
    obtain ⟨ι', v, w', h1, h2, h3, h4⟩ := aBuiltinM_ok (rT := type) (cs := c.args.map fun | .const _ => true | _ => false) hE hsr ha h
    refine .inl ⟨ι', v, w', ?_, h2, h3, h4⟩
    simp only [resolve, hb, Sem.run_bind, Sem.run_pure, Result.andThen_ok, invoke]
    have e : c.argTypes = c.argTypes.toList.toArray := by simp
    rw [e]; exact h1
  · rename_i f hf
    split at h
    · rename_i g caps hg
      have hfv := evA_ok hfr hg
      generalize hfe : a.eval f = fv at hfv
      cases hfv with
      | clos _ _ cs' hs hv =>
        have hall : VRs ι (args ++ caps) (c.args.map a.eval ++ cs') := ha.append ⟨hs, hv⟩
        have e : ∀ w, (do let d ← resolve a.eval c type; invoke d.target d.args : Sem Next).run P w = (callFunc g (c.args.map a.eval ++ cs')).run P w := fun w => by
          simp only [resolve, hf, hfe, Deferred.ofValue, Sem.run_bind, Sem.run_pure, Result.andThen_ok, invoke, Array.empty_append]
        split at h
        · rename_i x hx
          cases hxv : x (args ++ caps) with
          | none => rw [hxv] at h; simp [still] at h
          | some y =>
            rw [hxv] at h
            simp only [still, Option.some.injEq] at h; subst h
            rcases hE.ex g x hx ι _ _ y w hsr.globw hxv hall.size hall.at_ with ⟨v, h1, h2⟩ | ⟨h1, h2⟩
            · exact .inl ⟨ι, v, w, by rw [e, h1], ι.le_refl, hsr, h2⟩
            · exact .inr (.inr (.inl ⟨g, _, by rw [e, h1], h2.mono fun e w' ⟨x, he, hx, hk⟩ => ⟨x, ι, he, ι.le_refl, hsr.later hk, hx⟩⟩))
        · obtain ⟨h1, h2⟩ := hc g _ _ _ h ι w _ hsr hall
          exact .inr (.inr (.inl ⟨g, _, by rw [e, h1], h2⟩))
    · rename_i g fs caps hg
      have hfv := evA_ok hfr hg
      generalize hfe : a.eval f = fv at hfv
      cases hfv with
      | bound _ _ _ fs' cs' hs hf' hv hvf =>
        have hall : VRs ι (fs ++ args ++ caps) (fs' ++ c.args.map a.eval ++ cs') := ((⟨hf', hvf⟩ : VRs ι fs fs').append ha).append ⟨hs, hv⟩
        have e : ∀ w, (do let d ← resolve a.eval c type; invoke d.target d.args : Sem Next).run P w = (callFunc g (fs' ++ c.args.map a.eval ++ cs')).run P w := fun w => by
          simp only [resolve, hf, hfe, Deferred.ofValue, Sem.run_bind, Sem.run_pure, Result.andThen_ok, invoke]
        obtain ⟨h1, h2⟩ := hc g _ _ _ h ι w _ hsr hall
        exact .inr (.inr (.inl ⟨g, _, by rw [e, h1], h2⟩))
    · rename_i l hg
      have hfv := evA_ok hfr hg
      generalize hfe : a.eval f = fv at hfv
      cases hfv with
      | yield _ L hL =>
        obtain ⟨fn, tmps, as, bo, h1, h2⟩ := hr l _ _ _ h ι w _ L hsr ha hL
        refine .inr (.inr (.inr ⟨L.b, fn, tmps, as, bo, ?_, h2⟩))
        simp only [resolve, hf, hfe, Deferred.ofValue, Sem.run_bind, Sem.run_pure, Result.andThen_ok, invoke, Array.empty_append, h1]
    · simp at h
  · simp at h

theorem aOp_ok (hE : E.Ok P) (hsr : SR B w0 ι st w) (hfr : FR ι fr a.tmps) {call round : CallT} (hc : CallOK P B w0 call) (hr : RoundOK P B w0 round) {o : Oper} {r : AV × ASt}
    (h : aOp E call round o fr st = some r) : Runs P B w0 ι w (execOp a.eval o) r ∧ ∀ c, o.op ≠ .defer c := by
  have hev : ∀ {x v}, evA fr x = some v → VR ι v (a.eval x) := fun h => evA_ok hfr h
  unfold aOp at h
  split at h
  case h_1 x ho =>
    refine ⟨?_, by simp [ho]⟩
    cases hx : evA fr x with
    | none => simp [hx, still] at h
    | some v =>
      simp only [hx, still, Option.some.injEq] at h; subst h
      exact .inl ⟨ι, a.eval x, w, by simp only [execOp, ho, Sem.run_pure], ι.le_refl, hsr, hev hx⟩
  case h_2 x ho =>
    refine ⟨?_, by simp [ho]⟩
    cases hx : evA fr x with
    | none => simp [hx, still] at h
    | some v =>
      simp only [hx, still, Option.some.injEq] at h; subst h
      exact .inl ⟨ι, a.eval x, w, by simp only [execOp, ho, Sem.run_pure], ι.le_refl, hsr, hev hx⟩
  case h_3 c x y ho =>
    refine ⟨?_, by simp [ho]⟩
    split at h
    · rename_i t ht
      have hcv := hev ht
      generalize hce : a.eval c = cv at hcv
      cases hcv
      have key : ∀ z, still st (evA fr z) = some r → (if t then a.eval x else a.eval y) = a.eval z → Runs P B w0 ι w (execOp a.eval o) r := by
        intro z hz he
        cases hx : evA fr z with
        | none => simp [hx, still] at hz
        | some v =>
          simp only [hx, still, Option.some.injEq] at hz; subst hz
          exact .inl ⟨ι, a.eval z, w, by simp only [execOp, ho, hce, asBool, Sem.run_bind, Sem.run_pure, Result.andThen_ok, he], ι.le_refl, hsr, hev hx⟩
      cases t
      · exact key y h rfl
      · exact key x h rfl
    · simp at h
  case h_4 t ho =>
    refine ⟨?_, by simp [ho]⟩
    have := Runs.did (aAlloc_ok hE hsr h)
    simpa only [execOp, ho] using this
  case h_5 t x ho =>
    refine ⟨?_, by simp [ho]⟩
    split at h
    · rename_i v hv
      have := Runs.did (aBox_ok (P := P) hsr t (hev hv) h)
      simpa only [execOp, ho] using this
    · simp at h
  case h_6 t ps ho =>
    refine ⟨?_, by simp [ho]⟩
    split at h
    · rename_i l hl
      obtain ⟨h1, h2⟩ := evP_ok hfr ps.toList l hl
      have := Runs.val (P := P) hsr h (s := Instr.build t (ps.map fun (i, x) => (i, a.eval x))) (fun y hy => aBuild_ok hE (by simpa using h1) (by simpa using h2) hy)
      simpa only [execOp, ho] using this
    · simp at h
  case h_7 t n ps ho =>
    refine ⟨?_, by simp [ho]⟩
    split at h
    · rename_i l hl
      obtain ⟨h1, h2⟩ := evP_ok hfr ps.toList l hl
      have := Runs.did (aBuildSlice_ok (parts' := ps.map fun (i, x) => (i, a.eval x)) hE hsr (by simpa using h1) (by simpa using h2) h)
      simpa only [execOp, ho] using this
    · simp at h
  case h_8 t x ho =>
    refine ⟨?_, by simp [ho]⟩
    split at h
    · rename_i v hv
      have := Runs.did (aLoad_ok hE hsr (hev hv) h)
      simpa only [execOp, ho] using this
    · simp at h
  case h_9 t x y ho =>
    refine ⟨?_, by simp [ho]⟩
    split at h
    · rename_i p hp
      split at h
      · rename_i v hv
        split at h
        · rename_i st' hst
          simp only [Option.some.injEq] at h; subst h
          obtain ⟨w', h1, h2⟩ := aStore_ok (P := P) hE hsr (hev hp) (hev hv) hst
          exact .inr (.inl ⟨w', by simp only [execOp, ho, Sem.run_bind, h1, Result.andThen_ok, Sem.run_pure], h2, rfl⟩)
        · simp at h
      · simp at h
    · simp at h
  case h_10 x ho =>
    refine ⟨?_, by simp [ho]⟩
    split at h
    · rename_i v hv
      cases hn : aNilCheck v with
      | none => simp [hn, still] at h
      | some y =>
        simp only [hn, still, Option.some.injEq] at h; subst h
        obtain ⟨v', h1, h2⟩ := aNilCheck_ok (P := P) (w := w) (ρ := a.eval) ho (hev hv) hn
        exact .inl ⟨ι, v', w, h1, ι.le_refl, hsr, h2⟩
    · simp at h
  case h_11 op t x y yt ho =>
    refine ⟨?_, by simp [ho]⟩
    split at h
    · rename_i p hp
      split at h
      · rename_i q hq
        have := Runs.val (P := P) hsr h (fun z hz => aBin_ok (w := w) hE (hev hp) (hev hq) hz)
        simpa only [execOp, ho] using this
      · simp at h
    · simp at h
  case h_12 op t x ho =>
    refine ⟨?_, by simp [ho]⟩
    split at h
    · rename_i p hp
      have := Runs.val (P := P) hsr h (fun z hz => aUn_ok (w := w) (hev hp) hz)
      simpa only [execOp, ho] using this
    · simp at h
  case h_13 s d x ho =>
    refine ⟨?_, by simp [ho]⟩
    split at h
    · rename_i p hp
      have := Runs.did (aConvert_ok hE hsr (hev hp) h)
      simpa only [execOp, ho] using this
    · simp at h
  case h_14 t x ho =>
    refine ⟨?_, by simp [ho]⟩
    split at h
    · rename_i p hp
      have := Runs.val (P := P) hsr h (fun z hz => aMakeIface_ok (w := w) hE (hev hp) hz)
      simpa only [execOp, ho] using this
    · simp at h
  case h_15 f first caps ho =>
    refine ⟨?_, by simp [ho]⟩
    split at h
    · rename_i g
      split at h
      · rename_i hfirst
        split at h
        · rename_i l hl
          simp only [Option.some.injEq] at h; subst h
          have h1 := evL_ok hfr caps.toList l hl
          have e : (caps.map a.eval) = (caps.toList.map a.eval).toArray := by apply Array.ext'; simp
          have e2 : first = #[] := by apply Array.ext'; simpa using hfirst
          refine .inl ⟨ι, .func (.func g) #[] (caps.map a.eval), w, ?_, ι.le_refl, hsr, ?_⟩
          · simp only [execOp, ho, Instr.makeFunc, Sem.run_bind, Sem.run_pure, Result.andThen_ok, e2, Array.map_empty]
          · rw [e]; exact .clos g l _ h1.size h1.at_
        · simp at h
      · rename_i f0 fs0 hfirst
        split at h
        · rename_i fs hfs
          split at h
          · rename_i l hl
            simp only [Option.some.injEq] at h; subst h
            have h1 := evL_ok hfr caps.toList l hl
            rw [← hfirst] at hfs
            have h2 := evL_ok hfr first.toList fs hfs
            have e : (caps.map a.eval) = (caps.toList.map a.eval).toArray := by apply Array.ext'; simp
            have e2 : (first.map a.eval) = (first.toList.map a.eval).toArray := by apply Array.ext'; simp
            refine .inl ⟨ι, .func (.func g) (first.map a.eval) (caps.map a.eval), w, ?_, ι.le_refl, hsr, ?_⟩
            · simp only [execOp, ho, Instr.makeFunc, Sem.run_bind, Sem.run_pure, Result.andThen_ok]
            · rw [e, e2]; exact .bound g fs l _ _ h1.size h2.size h1.at_ h2.at_
          · simp at h
        · simp at h
    · simp at h
  case h_16 t x y ho =>
    refine ⟨?_, by simp [ho]⟩
    split at h
    · rename_i p hp
      split at h
      · rename_i q hq
        have := Runs.did (aMake_ok hE hsr (hev hp) (hev hq) h)
        simpa only [execOp, ho] using this
      · simp at h
    · simp at h
  case h_17 t x lo hi mx ho =>
    refine ⟨?_, by simp [ho]⟩
    split at h
    · rename_i p hp
      split at h
      · rename_i l hl
        split at h
        · rename_i q hq
          split at h
          · rename_i m hm
            have := Runs.val (P := P) hsr h (fun z hz => aSlice_ok (w := w) hE hsr (hev hp) (evO_ok hfr hl) (evO_ok hfr hq) (evO_ok hfr hm) hz)
            simpa only [execOp, ho] using this
          · simp at h
        · simp at h
      · simp at h
    · simp at h
  case h_18 s x f ho =>
    refine ⟨?_, by simp [ho]⟩
    split at h
    · rename_i p hp
      have := Runs.val (P := P) hsr h (fun z hz => aFieldAddr_ok (w := w) hE (hev hp) hz)
      simpa only [execOp, ho] using this
    · simp at h
  case h_19 s x f ho =>
    refine ⟨?_, by simp [ho]⟩
    split at h
    · rename_i p hp
      have := Runs.val (P := P) hsr h (fun z hz => aField_ok (w := w) hE (hev hp) hz)
      simpa only [execOp, ho] using this
    · simp at h
  case h_20 t x y ho =>
    refine ⟨?_, by simp [ho]⟩
    split at h
    · rename_i p hp
      split at h
      · rename_i q hq
        have := Runs.val (P := P) hsr h (fun z hz => aIndexAddr_ok (w := w) hE (hev hp) (hev hq) hz)
        simpa only [execOp, ho] using this
      · simp at h
    · simp at h
  case h_21 t x y ho =>
    refine ⟨?_, by simp [ho]⟩
    split at h
    · rename_i p hp
      split at h
      · rename_i q hq
        have := Runs.val (P := P) hsr h (fun z hz => aIndex_ok (w := w) hE (hev hp) (hev hq) hz)
        simpa only [execOp, ho] using this
      · simp at h
    · simp at h
  case h_22 x xt t ok ho =>
    refine ⟨?_, by simp [ho]⟩
    split at h
    · rename_i p hp
      have := Runs.val (P := P) hsr h (fun z hz => aAssert_ok (w := w) (xt := xt) hE (hev hp) hz)
      simpa only [execOp, ho] using this
    · simp at h
  case h_23 x i ho =>
    refine ⟨?_, by simp [ho]⟩
    split at h
    · rename_i p hp
      have := Runs.val (P := P) hsr h (fun z hz => aExtract_ok (w := w) (hev hp) hz)
      simpa only [execOp, ho] using this
    · simp at h
  case h_24 c ho =>
    refine ⟨?_, by simp [ho]⟩
    have := aCall_ok (type := o.type) hE hsr hfr hc hr h
    simpa only [execOp, ho] using this
  case h_25 t rs ho =>
    refine ⟨?_, by simp [ho]⟩
    split at h
    · simp only [Option.some.injEq] at h; subst h
      have := Runs.did (aMakeMap_ok (P := P) (t := t) hsr)
      simpa only [execOp, ho, Option.map_none] using this
    · simp at h
  case h_26 t m k x ho =>
    refine ⟨?_, by simp [ho]⟩
    split at h
    · rename_i mv hm
      split at h
      · rename_i kv hk
        split at h
        · rename_i xv hx
          split at h
          · rename_i st' hst
            simp only [Option.some.injEq] at h; subst h
            obtain ⟨w', h1, h2⟩ := aMapUpdate_ok (P := P) hE hsr (hev hm) (hev hk) (hev hx) hst
            exact .inr (.inl ⟨w', by simp only [execOp, ho, Sem.run_bind, h1, Result.andThen_ok, Sem.run_pure], h2, rfl⟩)
          · simp at h
        · simp at h
      · simp at h
    · simp at h
  case h_27 t m k x ho =>
    refine ⟨?_, by simp [ho]⟩
    split at h
    · rename_i mv hm
      split at h
      · rename_i kv hk
        split at h
        · rename_i xv hx
          split at h
          · rename_i st' hst
            simp only [Option.some.injEq] at h; subst h
            obtain ⟨w', h1, h2⟩ := aMapUpdate_ok (P := P) hE hsr (hev hm) (hev hk) (hev hx) hst
            exact .inr (.inl ⟨w', by simp only [execOp, ho, Sem.run_bind, h1, Result.andThen_ok, Sem.run_pure], h2, rfl⟩)
          · simp at h
        · simp at h
      · simp at h
    · simp at h
  case h_28 t x y ok ho =>
    refine ⟨?_, by simp [ho]⟩
    split at h
    · rename_i p hp
      split at h
      · rename_i q hq
        have := Runs.val (P := P) hsr h (fun z hz => aLookup_ok (w := w) hE hsr (hev hp) (hev hq) hz)
        simpa only [execOp, ho] using this
      · simp at h
    · simp at h
  case h_29 t x ho =>
    refine ⟨?_, by simp [ho]⟩
    split at h
    · rename_i p hp
      have := Runs.did (aRange_ok hE hsr (hev hp) h)
      simpa only [execOp, ho] using this
    · simp at h
  case h_30 x isS ho =>
    refine ⟨?_, by simp [ho]⟩
    split at h
    · rename_i p hp
      have := Runs.did (aNext_ok (P := P) (ty := o.type) hsr (hev hp) h)
      simpa only [execOp, ho] using this
    · simp at h
  case h_31 x ho =>
    refine ⟨?_, by simp [ho]⟩
    split at h
    · rename_i p hp
      have := Runs.val (P := P) hsr h (fun z hz => aEntry_ok (w := w) hsr (hev hp) hz)
      simpa only [execOp, ho] using this
    · simp at h
  case h_32 => simp at h

/-- one operation of a region -/
theorem step_ok (hE : E.Ok P) (hsr : SR B w0 ι st w) (hfr : FRA ι fr a) {call round : CallT} (hc : CallOK P B w0 call) (hr : RoundOK P B w0 round) {ops : Array Oper} {o : Oper} {fr' : AFr} {st' : ASt}
    (h : step E call round ops.toList o fr st = some (fr', st')) {ro : Option Nat} {K : Act → World → Prop} {Q : Exit → Act → World → Prop}
    (hK : ∀ ι' a' w', ι.le ι' → FRA ι' fr' a' → SR B w0 ι' st' w' → K a' w') :
    if Region.wanted o (yielded ops a.tmps) then o.wpIn (FF ro) 0 P a w K Q else (∀ f, o.about P w a.eval = some f → (FF ro).fn f) ∧ K (a.put o.dst undef) w := by
  simp only [step, stepV] at h
  cases hgd : guardAny ops.toList fr o
  rotate_left
  · simp only [hgd, cond_true, reduceCtorEq] at h
  simp only [hgd, cond_false] at h
  rw [wanted_ok hfr.hf ops o hgd]
  cases hw : wantedA ops.toList fr o
  · simp only [hw, cond_false] at h
    simp only [Bool.false_eq_true, if_false]
    refine ⟨fun f _ => FF_fn ro f, ?_⟩
    split at h
    · rename_i fr1 hp
      simp only [Option.some.injEq, Prod.mk.injEq] at h
      obtain ⟨rfl, rfl⟩ := h
      exact hK ι _ w ι.le_refl (put_ok hfr (VR.undef ι) hp) hsr
    · simp at h
  · simp only [hw, cond_true] at h
    simp only [if_true]
    split at h
    · rename_i v st1 hop
      split at h
      · rename_i fr1 hp
        simp only [Option.some.injEq, Prod.mk.injEq] at h
        obtain ⟨rfl, rfl⟩ := h
        obtain ⟨hrun, hnd⟩ := aOp_ok hE hsr hfr.hf hc hr hop
        refine ⟨fun f _ => FF_fn ro f, ?_⟩
        rw [Oper.semAt_eq _ _ _ hnd]
        have post : ∀ {R : Ending → World → Prop}, (∀ e w', Post B w0 ι (v, st1) e w' → R e w') → True := fun _ => trivial
        have after : ∀ e w', Post B w0 ι (v, st1) e w' → (match (motive := Ending → World → Prop) e, w' with
            | .returned v, w'' => K (a.put o.dst v) w''
            | .panicked chain, w'' => Q (.panic chain) a w''
            | .outgrown, _ => LetsOut Q) := by
          rintro e w' ⟨x, ι', rfl, h2, h3, h4⟩
          exact hK ι' _ w' h2 (put_ok (hfr.mono h2) h4 hp) h3
        rcases hrun with ⟨ι', x, w', h1, h2, h3, h4⟩ | ⟨w', h1, h3, h4⟩ | ⟨f, args, h1, h2⟩ | ⟨l, fn, tmps, as, bo, h1, h2⟩
        · rw [h1, Oper.uponIn_value]
          exact hK ι' _ w' h2 (put_ok (hfr.mono h2) h4 hp) h3
        · rw [h1, Oper.uponIn_skip]
          simp only at h4; subst h4
          exact hK ι _ w' ι.le_refl (put_ok hfr (VR.undef ι) hp) h3
        · rw [h1, Oper.uponIn_enter]
          refine ⟨FF_depth ro, ?_⟩
          exact (FF_calls (ro := ro) h2).mono fun e w' he => by
            have := after e w' he
            cases e <;> exact this
        · rw [h1, Oper.uponIn_round]
          refine ⟨FF_depth ro, ?_⟩
          exact (FF_rounds (ro := ro) h2).mono fun e w' he => by
            have := after e w' he
            cases e <;> exact this
      · simp at h
    · simp at h
end
end
end Go.Ax
