/-
  OWN WORK, TOLD ONCE FOR ALL TEXTS YtmjmpmmonelmmaaAxA TO YtmjmpmmonelmmaaAxU: an abstract machine for the program's text that the kernel can run, and the proof that it is sound: what it answers is what the program answers. No condition.
-/
import Derived.Test.YtmjmpmmonelmmaaAxOx
import Derived.RangeFuncRecord
namespace Go.Ax
noncomputable section
open Go.RowKit

section
variable {P : Program} {E : Env} {B : Prot} {w0 : World} {ι : Ren} {st : ASt} {w : World} {fr : AFr} {a : Act}

theorem putArgs_get : ∀ (vs : List AV) (k : Nat) (m : T AV) (t : Nat), (putArgs vs k m).get t = if k ≤ t ∧ t < k + vs.length then vs[t - k]? else m.get t
  | [], k, m, t => by
    have : ¬ (k ≤ t ∧ t < k + ([] : List AV).length) := by simp
    rw [if_neg this]; rfl
  | v :: vs, k, m, t => by
    simp only [putArgs, putArgs_get vs (k + 1), T.get_set, List.length_cons]
    by_cases h : t = k
    · subst h
      have h1 : ¬ (t + 1 ≤ t ∧ t < t + 1 + vs.length) := by omega
      have h2 : t ≤ t ∧ t < t + (vs.length + 1) := by omega
      rw [if_neg h1, if_pos rfl, if_pos h2]; simp
    · by_cases h3 : k + 1 ≤ t ∧ t < k + 1 + vs.length
      · have h4 : k ≤ t ∧ t < k + (vs.length + 1) := by omega
        rw [if_pos h3, if_pos h4]
        have : t - k = (t - (k + 1)) + 1 := by omega
        rw [this, List.getElem?_cons_succ]
      · have h4 : ¬ (k ≤ t ∧ t < k + (vs.length + 1)) := by omega
        rw [if_neg h3, if_neg h4, if_neg h]

theorem enter_FR {args : List AV} {args' : Array Value} {n : Nat} (hn : args.length ≤ n) (h : VRs ι args args') :
    FR ι { m := putArgs args 0 .e, n := n, defs := [] } (args' ++ Array.replicate (n - args'.size) undef) := by
  have hs := h.size
  refine ⟨by simp; omega, fun t => ?_⟩
  simp only [putArgs_get, T.get_e]
  by_cases ht : t < args.length
  · have h1 : 0 ≤ t ∧ t < 0 + args.length := by omega
    rw [if_pos h1]
    have e1 : args[t - 0]? = some (args[t]'ht) := by simp [ht]
    have ht' : t < args'.size := by omega
    have e2 : (args' ++ Array.replicate (n - args'.size) undef).getD t undef = args'[t]'ht' := by
      simp [Array.getD_eq_getD_getElem?, Array.getElem?_append, ht']
    rw [e1, e2]
    exact h.at_ t _ _ (by simp [ht]) (by simp [ht'])
  · have h1 : ¬ (0 ≤ t ∧ t < 0 + args.length) := by omega
    rw [if_neg h1]
    have ht' : ¬ t < args'.size := by omega
    have e2 : (args' ++ Array.replicate (n - args'.size) undef).getD t undef = undef := by
      rw [Array.getD_eq_getD_getElem?, Array.getElem?_append, if_neg ht']
      by_cases h2 : t - args'.size < n - args'.size <;> simp [h2]
    rw [e2]; exact VR.undef ι

theorem setPs_ok : ∀ (ps : List Tmp) (vs : List AV) (fr fr' : AFr) (tmps : Array Value) (vs' : List Value), setPs ps vs fr = some fr' → FR ι fr tmps → VRs ι vs vs'.toArray →
    ps.length = vs'.length ∧ FR ι fr' ((ps.zip vs').foldl (fun tmps p => tmps.setIfInBounds p.1 p.2) tmps) ∧ fr'.defs = fr.defs
  | [], [], fr, fr', tmps, vs', h, hf, hv => by
    simp only [setPs, Option.some.injEq] at h; subst h
    have := hv.size; simp at this
    have : vs' = [] := List.eq_nil_of_length_eq_zero this.symm
    subst this
    exact ⟨rfl, hf, rfl⟩
  | t :: ts, v :: vs, fr, fr', tmps, vs', h, hf, hv => by
    simp only [setPs] at h
    split at h
    · rename_i fr1 hp
      cases vs' with
      | nil => have := hv.size; simp at this
      | cons v' vs' =>
        have h0 : VR ι v v' := hv.at_ 0 v v' rfl rfl
        have hput := put_ok (a := { tmps := tmps, defers := [] }) (fr := { fr with defs := [] }) ⟨hf, trivial⟩ (dst := some t) (fr' := { fr1 with defs := [] }) h0 (by
          obtain ⟨m, n, ds⟩ := fr
          simp only [AFr.put] at hp ⊢
          cases hb : Nat.ble (Nat.succ t) n
          · simp [hb] at hp
          · simp only [hb, cond_true, Option.some.injEq] at hp ⊢; subst hp; rfl)
        have hd : fr1.defs = fr.defs := by
          obtain ⟨m, n, ds⟩ := fr
          simp only [AFr.put] at hp
          cases hb : Nat.ble (Nat.succ t) n
          · simp [hb] at hp
          · simp only [hb, cond_true, Option.some.injEq] at hp; subst hp; rfl
        have hv1 : VRs ι vs vs'.toArray := ⟨by have := hv.size; simpa using this, fun i x x' hx hx' => hv.at_ (i + 1) x x' (by simpa using hx) (by simpa using hx')⟩
        obtain ⟨i1, i2, i3⟩ := setPs_ok ts vs fr1 fr' (tmps.setIfInBounds t v') vs' h hput.hf hv1
        exact ⟨by simp [i1], by simpa using i2, by rw [i3, hd]⟩
    · simp at h
  | [], _ :: _, _, _, _, _, h, _, _ => by simp [setPs] at h
  | _ :: _, [], _, _, _, _, h, _, _ => by simp [setPs] at h

theorem zipfold (ps : Array Tmp) (vs : Array Value) (tmps : Array Value) :
    (ps.zip vs).foldl (fun tmps (t, a) => tmps.setIfInBounds t a) tmps = (ps.toList.zip vs.toList).foldl (fun tmps p => tmps.setIfInBounds p.1 p.2) tmps := by
  rw [← Array.foldl_toList, Array.toList_zip]

theorem killAll_ok {F : Fence} {fn : Func} {tmps : Array Value} {R : Ending → World → Prop} : ∀ (is : List Nat) (st st' : ASt) (ds : List Deferred) (w : World), killAll is st = some st' → SR B w0 ι st w → DR ι is ds →
    (∀ w', SR B w0 ι st' w' → LeavesIn F 0 P fn tmps R [] .returning w') → LeavesInM F 0 P fn tmps R ds .returning w
  | [], st, st', [], w, h, hsr, _, hk => by
    simp only [killAll, Option.some.injEq] at h; subst h
    exact hk w hsr
  | i :: is, st, st', d :: ds, w, h, hsr, ⟨⟨L, hL, hd⟩, hr⟩, hk => by
    simp only [killAll] at h
    split at h
    · rename_i hi
      obtain ⟨L', o, h1, h2, h3⟩ := hsr.obj i .defd hi (by simp)
      rw [hL] at h1; cases h1
      have h3 : o = .deferred (some []) := h3
      rw [h3] at h2
      refine ⟨by simp, .inl ⟨L.b, _, by rw [hd], run_takeDeferred h2, ?_⟩⟩
      have hw : SR B w0 ι (st.put i .dead) (w.putObj L.b (.deferred none)) := by
        have hlt : L.b < w.heap.size := by
          have := Array.getElem?_eq_some_iff.1 h2; exact this.1
        have hB := (hsr.own i .defd L hi rfl hL)
        refine ⟨Keeps.setObjW hsr.below hB.1 _, ?_, ?_, ?_, hsr.dom, ?_, ?_, hsr.res, hsr.glob⟩
        · intro k hk; have := hsr.base k hk; simpa using this
        · intro j x hj hx
          have hget : (st.put i .dead).h.get j = if j = i then some .dead else st.h.get j := T.get_set _ _ _ _ _
          rw [hget] at hj
          by_cases e : j = i
          · simp only [e, if_true, Option.some.injEq] at hj; exact absurd hj.symm hx
          · simp only [e, if_false] at hj
            obtain ⟨L2, o2, g1, g2, g3⟩ := hsr.obj j x hj hx
            refine ⟨L2, o2, g1, ?_, g3⟩
            rw [World.putObj_heap_other]
            · exact g2
            · intro hb; exact e (hB.2 j x L2 hj hx g1 hb)
        · exact (hsr.kill hi).own
        · exact (hsr.kill hi).hdom
        · exact (hsr.kill hi).ro
      exact killAll_ok is _ st' ds _ h hw hr hk
    · simp at h
  | [], _, _, _ :: _, _, _, _, h, _ => h.elim
  | _ :: _, _, _, [], _, _, _, h, _ => h.elim

theorem resV_ok (hE : E.Ok P) (hsr : SR B w0 ι st w) (hf : FR ι fr a.tmps) : ∀ (rs : List ResultVar) (vs : List AV), resV E fr st rs = some vs →
    ∃ vs' : List Value, (rs.mapM (m := Sem) fun
      | .tmp t => pure (a.tmps.getD t undef)
      | .cell x t => do loadVar t (← asAddr (a.tmps.getD x undef))).run P w = .ok vs' w ∧ VRs ι vs vs'.toArray
  | [], vs, h => by
    simp only [resV, Option.some.injEq] at h; subst h
    exact ⟨[], by simp [Sem.run_pure], ⟨rfl, fun i v v' h => by simp at h⟩⟩
  | r :: rs, vs, h => by
    simp only [resV] at h
    split at h
    · rename_i v hv
      split at h
      · rename_i vs1 h1
        simp only [Option.some.injEq] at h; subst h
        obtain ⟨vs', i1, i2⟩ := resV_ok hE hsr hf rs vs1 h1
        have one : ∃ v', ((match r with
            | .tmp t => pure (a.tmps.getD t undef)
            | .cell x t => do loadVar t (← asAddr (a.tmps.getD x undef)) : Sem Value)).run P w = .ok v' w ∧ VR ι v v' := by
          cases r with
          | tmp t =>
            simp only [Option.some.injEq] at hv; subst hv
            exact ⟨_, Sem.run_pure _ _ _, hf.2 t⟩
          | cell x t =>
            simp only at hv
            split at hv
            · rename_i y hy
              simp only [Option.some.injEq] at hv; subst hv
              have hx := hf.2 x
              revert hy hx
              generalize (fr.m.get x).getD undefA = av
              show _ → _ → ∃ v', (do loadVar t (← asAddr (a.tmps.getD x undef))).run P w = _ ∧ _
              generalize a.tmps.getD x undef = xv
              intro hy hx
              cases hx with
              | ptr i o L hL =>
                obtain ⟨v', g1, g2, g3⟩ := aLoad_var hE hsr hL hy
                refine ⟨v', ?_, g2⟩
                simp only [asAddr, Sem.run_bind, Sem.run_pure, Result.andThen_ok, g1]
              | gptr g o =>
                obtain ⟨v', g1, g2, g3⟩ := aLoad_glob hE hsr hy
                refine ⟨v', ?_, g2⟩
                simp only [asAddr, Sem.run_bind, Sem.run_pure, Result.andThen_ok, g1]
              | _ => simp [aLoad] at hy
            · simp at hv
        obtain ⟨v', o1, o2⟩ := one
        refine ⟨v' :: vs', ?_, ⟨by have := i2.size; simpa using this, fun i x x' hx hx' => ?_⟩⟩
        · simp only [List.mapM_cons, Sem.run_bind, Sem.run_pure]
          rw [o1]
          simp only [Result.andThen_ok, i1]
        · cases i with
          | zero => simp at hx hx'; subst hx; subst hx'; exact o2
          | succ i => simp at hx hx'; exact i2.at_ i x x' hx (by simpa using hx')
      · simp at h
    · simp at h

theorem leaveA_ok (hE : E.Ok P) {fn : Func} {r : AV × ASt} (hsr : SR B w0 ι st w) (hf : FRA ι fr a) (h : leaveA E fn fr st = some r) {ι0 : Ren} (hle : ι0.le ι) :
    LeavesInM Fence.wide 0 P fn a.tmps (Post B w0 ι0 r) a.defers .returning w := by
  simp only [leaveA] at h
  split at h
  · rename_i st' hk
    split at h
    · rename_i vs hv
      simp only [Option.some.injEq] at h; subst h
      refine killAll_ok fr.defs st st' a.defers w hk hsr hf.hd fun w' hsr' => ?_
      obtain ⟨vs', h1, h2⟩ := resV_ok hE hsr' hf.hf fn.results.toList vs hv
      have hrun : (results fn a.tmps).run P w' = .ok (if h : vs'.toArray.size = 1 then vs'.toArray[0] else .tuple vs'.toArray) w' := by
        unfold results
        rw [Array.mapM_eq_mapM_toList]
        simp only [Sem.run_bind, map_eq_pure_bind, Sem.run_pure]
        exact congrArg (fun r : Result (List Value) => (r.andThen fun a w' => Result.ok a.toArray w').andThen fun a w' => Result.ok (if h : a.size = 1 then a[0] else Value.tuple a) w') h1
      refine ⟨_, hrun, _, ι, rfl, hle, hsr', ?_⟩
      show VR ι (retV vs) _
      have hs := h2.size
      match vs, hs, h2 with
      | [], hs, h2 =>
        have : ¬ vs'.toArray.size = 1 := by simp at hs ⊢; omega
        simp only [this, dite_false]
        exact .tuple _ _ h2.size h2.at_
      | [x], hs, h2 =>
        have : vs'.toArray.size = 1 := by simp at hs ⊢; omega
        simp only [this, dite_true]
        exact h2.at_ 0 x _ rfl (by simp)
      | x :: y :: zs, hs, h2 =>
        have : ¬ vs'.toArray.size = 1 := by simp at hs ⊢; omega
        simp only [this, dite_false]
        exact .tuple _ _ h2.size h2.at_
    · simp at h
  · simp at h

theorem callF_ok (hE : E.Ok P) {ex : ExecT} (hex : ExecOK P B w0 ex) : CallOK P B w0 (callF E ex) := by
  intro f args st r h ι w args' hsr hargs
  simp only [callF] at h
  split at h
  · simp at h
  rename_i fn hfn
  split at h
  · simp at h
  rename_i c hc
  cases hb : Nat.ble args.length fn.ntmps
  · simp [hb] at h
  simp only [hb, cond_true] at h
  refine ⟨hE.call f fn hfn args' w, callsIn_of_wp_marks (hE.fn f fn hfn) hc trivial ?_⟩
  have hfr : FRA ι { m := putArgs args 0 .e, n := fn.ntmps, defs := [] } { tmps := args' ++ Array.replicate (fn.ntmps - args'.size) undef, defers := [] } :=
    ⟨enter_FR (Nat.le_of_ble_eq_true hb) hargs, trivial⟩
  have key : ∀ fr1 st1 e, ex none c { m := putArgs args 0 .e, n := fn.ntmps, defs := [] } st = some (e, fr1, st1) → leaveA E fn fr1 st1 = some r → (e = .normal ∨ e = .ret) →
      c.wpIn Fence.wide 0 P (bodyPostM Fence.wide 0 P fn (Post B w0 ι r)) { tmps := args' ++ Array.replicate (fn.ntmps - args'.size) undef, defers := [] } w := by
    intro fr1 st1 e h1 h2 he
    refine wpIn_mono (hex none c _ st _ h1 ι w _ none hsr hfr trivial) fun e' a' w' ⟨he', ι', g1, g2, g3⟩ => ?_
    simp only at he'; subst he'
    have := leaveA_ok hE g2 g3 h2 g1
    rcases he with rfl | rfl <;> exact this
  split at h
  · rename_i fr1 st1 h1; exact key fr1 st1 _ h1 h (.inl rfl)
  · rename_i fr1 st1 h1; exact key fr1 st1 _ h1 h (.inr rfl)
  · simp at h

theorem endR_ok {l : Nat} {j : Option Code} {r : AV × ASt} (hsr : SR B w0 ι st w) {L : Loc} (hL : ι l = some L) (h : endR l j st = some r) {ι0 : Ren} (hle : ι0.le ι) :
    ∃ v w', (Instr.endRound L.b j).run P w = .ok v w' ∧ Post B w0 ι0 r (.returned v) w' := by
  simp only [endR] at h
  split at h
  · rename_i s pe tm ps as bo de hl
    obtain ⟨q, q1, q2, q3, q4, q5, q6, q7, D0, q8, q9⟩ := loop_at hsr hl hL
    refine ⟨_, _, run_endRound j q1, _, ι, rfl, hle, ?_⟩
    cases j with
    | none =>
      simp only [Option.some.injEq] at h; subst h
      exact ⟨hsr.write hl rfl hL ⟨_, rfl, rfl, rfl, q4, q5, q6, q7, D0, q8, q9⟩, .bool true⟩
    | some c =>
      simp only [Option.some.injEq] at h; subst h
      exact ⟨hsr.write hl rfl hL ⟨_, rfl, rfl, rfl, q4, q5, q6, q7, D0, q8, q9⟩, .bool false⟩
  · simp at h

theorem roundF_ok {ex : ExecT} (hex : ExecOK P B w0 ex) : RoundOK P B w0 (roundF ex) := by
  intro l args st r h ι w args' L hsr hargs hL
  simp only [roundF] at h
  split at h
  rotate_left
  · simp at h
  rename_i s pe tm ps as bo de hl
  obtain ⟨q, q1, q2, q3, q4, q5, q6, q7, D0, q8, q9⟩ := loop_at hsr hl hL
  split at h
  · simp at h
  rename_i fr hps
  have hargs' : VRs ι args args'.toList.toArray := by simpa using hargs
  obtain ⟨s1, s2, s3⟩ := setPs_ok ps args _ fr q.tmps args'.toList hps q4 hargs'
  have hsz : args'.size = q.params.size := by
    have : ps.length = q.params.size := by rw [← q5]; simp
    simp at s1; omega
  refine ⟨q.fn, _, q.assign, q.body, run_yield q1 hsz, ?_⟩
  rw [zipfold, q5, q6, q7]
  have hfr : FRA ι fr { tmps := (ps.zip args'.toList).foldl (fun tmps p => tmps.setIfInBounds p.1 p.2) q.tmps, defers := [] } := ⟨s2, by rw [s3]; trivial⟩
  split at h
  rotate_left
  · simp at h
  rename_i fr1 st1 h1
  split at h
  rotate_left
  · simp at h
  rename_i pe1 tm1 ps1 as1 bo1 de1 hl1
  refine roundIn_of_wpIn trivial ?_
  refine wpIn_mono (hex (some l) as fr st _ h1 ι w _ (some L.b) hsr hfr ⟨L, hL, rfl⟩) fun e a1 w1 ⟨he, ι1, g1, g2, g3⟩ => ?_
  simp only at he g2 g3; subst he
  have hL1 := g1 _ _ hL
  obtain ⟨p, p1, p2, p3, p4, p5, p6, p7, D1, p8, p9⟩ := loop_at g2 hl1 hL1
  refine ⟨_, run_beginRound p1 p2, ?_⟩
  have hsr1 : SR B w0 ι1 (st1.put l (.loop .busy pe1 tm1 ps1 as1 bo1 de1)) (w1.putObj L.b (.loop { p with state := .busy })) :=
    g2.write hl1 rfl hL1 ⟨_, rfl, rfl, p3, p4, p5, p6, p7, D1, p8, p9⟩
  have fin : ∀ e fr2 st2 j, ex (some l) bo fr1 (st1.put l (.loop .busy pe1 tm1 ps1 as1 bo1 de1)) = some (e, fr2, st2) → endR l j st2 = some r →
      (∀ a2 w2, (∃ v w', (Instr.endRound L.b j).run P w2 = .ok v w' ∧ Post B w0 ι r (.returned v) w') → roundPost P L.b (Post B w0 ι r) e a2 w2) →
      bo.wpIn (Fence.wide.inRound L.b) 0 P (roundPost P L.b (Post B w0 ι r)) a1 (w1.putObj L.b (.loop { p with state := .busy })) := by
    intro e fr2 st2 j h2 h3 hq
    refine wpIn_mono (hex (some l) bo fr1 _ _ h2 ι1 _ a1 (some L.b) hsr1 g3 ⟨L, hL1, rfl⟩) fun e2 a2 w2 ⟨he2, ι2, k1, k2, k3⟩ => ?_
    simp only at he2; subst he2
    exact hq a2 w2 (endR_ok k2 (k1 _ _ hL1) h3 (Ren.le_trans g1 k1))
  split at h
  · rename_i fr2 st2 h2; exact fin _ fr2 st2 none h2 h (fun _ _ h => h)
  · rename_i fr2 st2 h2; exact fin _ fr2 st2 _ h2 h (fun _ _ h => h)
  · rename_i id fr2 st2 h2; exact fin _ fr2 st2 _ h2 h (fun _ _ h => h)
  · rename_i t fr2 st2 h2; exact fin _ fr2 st2 _ h2 h (fun _ _ h => h)
  · simp at h

structure Mach.Ok (P : Program) (m : Mach) : Prop where
  ex : ∀ B w0, ExecOK P B w0 m.ex
  call : CallsOK P m.call
  round : RoundsOK P m.round

theorem M_ok (hE : E.Ok P) {draw : DrawT} (hd : DrawOK P E draw) {sum : CallT} (hs : CallsOK P sum) : ∀ n, (M E draw sum n).Ok P
  | 0 => ⟨fun _ _ _ _ _ _ _ h => by simp [M] at h, fun _ _ _ _ _ _ h => by simp [M] at h, fun _ _ _ _ _ _ h => by simp [M] at h⟩
  | n + 1 => by
    have ih := M_ok hE hd hs n
    refine ⟨fun B w0 => execF_ok hE hd (ih.ex B w0) ih.call ih.round, ?_, fun B w0 => roundF_ok (ih.ex B w0)⟩
    intro B w0 f args st r h
    have h : (match sum f args st with | some r => some r | none => callF E (M E draw sum n).ex f args st) = some r := h
    split at h
    · rename_i r1 h1
      simp only [Option.some.injEq] at h; subst h
      exact hs B w0 f args st _ h1
    · exact callF_ok hE (ih.ex B w0) f args st r h

def st0 : ASt := { h := .e, next := 0 }

def Old (w : World) : Prot := ⟨fun _ => False, fun k => k < w.heap.size, fun _ => False⟩

theorem st0_ok (w : World) (hg : GlobOK w := by intro _ _ h; cases h) : SR (Old w) w (fun _ => none) st0 w :=
  ⟨Keeps.refl _ _, fun _ h => h.elim (fun h => h.elim) (fun h => h), fun i a h => by simp [st0, T.get_e] at h, fun i a L h => by simp [st0, T.get_e] at h, fun i L h => by simp at h, fun i a h => by simp [st0, T.get_e] at h, fun i a L h => by simp [st0, T.get_e] at h, fun i h => h.elim, fun g cs h => ⟨.inr (hg g cs h).lt, hg g cs h⟩⟩

def isTrue : Option (AV × ASt) → Bool
  | some (.bool b, _) => b
  | _ => false

/-- **A CLOSED CALL, RUN**: what the machine of this text answers is what the program answers. -/
theorem run_true {P : Program} {E : Env} (hE : E.Ok P) {draw : DrawT} (hd : DrawOK P E draw) {sum : CallT} (hs : CallsOK P sum) {n : Nat} {f : FuncId}
    (h : isTrue ((M E draw sum n).call f [] st0) = true) (w : World) (hgl : GlobOK w := by intro _ _ h; cases h) : Calls P f #[] w fun e w' => e = .returned (.bool true) ∧ Below w.heap.size w w' := by
  revert h
  generalize hq : (M E draw sum n).call f [] st0 = q
  intro h
  match q, h with
  | some (.bool true, st), _ =>
    obtain ⟨_, hc⟩ := (M_ok hE hd hs n).call (Old w) w f [] st0 _ hq _ w #[] (st0_ok w hgl) ⟨rfl, fun i v v' h => by simp at h⟩
    rw [callsIn_wide] at hc
    refine hc.mono ?_
    rintro e w' ⟨v, ι', rfl, _, h2, h3⟩
    simp only at h3
    cases h3
    exact ⟨rfl, h2.below.os, h2.below.tape, h2.below.output, h2.below.size, fun k hk => h2.below.block k (.inr hk)⟩
end
end
end Go.Ax
