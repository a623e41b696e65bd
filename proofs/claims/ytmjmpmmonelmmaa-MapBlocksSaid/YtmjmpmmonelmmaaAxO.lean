/-
  OWN WORK, TOLD ONCE FOR ALL TEXTS YtmjmpmmonelmmaaAxA TO YtmjmpmmonelmmaaAxU: an abstract machine for the program's text that the kernel can run, and the proof that it is sound: what it answers is what the program answers. No condition.
-/
import Derived.Test.YtmjmpmmonelmmaaAxSc
import Derived.RangeFuncNested
namespace Go.Ax
noncomputable section
open Go.RowKit

/-- whose round a frame goes, as the concrete heap has it -/
def RO (ι : Ren) : Option Nat → Option Nat → Prop
  | none, none => True
  | some l, some b => ∃ L, ι l = some L ∧ L.b = b
  | _, _ => False

theorem RO.mono {ι κ : Ren} (hle : ι.le κ) {ro rl : Option Nat} (h : RO ι ro rl) : RO κ ro rl := by
  cases ro <;> cases rl <;> first | exact h | (obtain ⟨L, h1, h2⟩ := h; exact ⟨L, hle _ _ h1, h2⟩)

def ExPost (B : Prot) (w0 : World) (ι : Ren) (r : Exit × AFr × ASt) (e : Exit) (a' : Act) (w' : World) : Prop :=
  e = r.1 ∧ ∃ ι', ι.le ι' ∧ SR B w0 ι' r.2.2 w' ∧ FRA ι' r.2.1 a'

def ExecOK (P : Program) (B : Prot) (w0 : World) (ex : ExecT) : Prop :=
  ∀ ro c fr st r, ex ro c fr st = some r → ∀ ι w a rl, SR B w0 ι st w → FRA ι fr a → RO ι ro rl → c.wpIn (FF rl) 0 P (ExPost B w0 ι r) a w

def DrawOK (P : Program) (E : Env) (draw : DrawT) : Prop :=
  ∀ call round, CallsOK P call → RoundsOK P round → ∀ B w0 (ops : Array Oper) fr st fr' st', draw (stepV E call round ops.toList) ops.toList fr st = some (fr', st') →
    ∀ ι w a rl id, SR B w0 ι st w → FRA ι fr a → (Code.region id ops true).wpIn (FF rl) 0 P (ExPost B w0 ι (.normal, fr', st')) a w

theorem ExPost.le {B : Prot} {w0 : World} {ι κ : Ren} (hle : ι.le κ) {r : Exit × AFr × ASt} {e : Exit} {a' : Act} {w' : World} (h : ExPost B w0 κ r e a' w') : ExPost B w0 ι r e a' w' :=
  ⟨h.1, let ⟨ι', h1, h2⟩ := h.2; ⟨ι', Ren.le_trans hle h1, h2⟩⟩

section
variable {P : Program} {E : Env} {B : Prot} {w0 : World} {ι : Ren} {st : ASt} {w : World} {fr : AFr} {a : Act}

theorem Ren.le.le_trans' {ι κ μ : Ren} (h : ι.le κ) (h' : κ.le μ) : ι.le μ := Ren.le_trans h h'

/-- a region in the order of its text -/
theorem regL_ok (hE : E.Ok P) {call round : CallT} (hc : CallOK P B w0 call) (hr : RoundOK P B w0 round) {ops : Array Oper} {ro : Option Nat} :
    ∀ (l : List Oper) (k : Nat) (fr : AFr) (st : ASt) (fr' : AFr) (st' : ASt) (ι : Ren) (w : World) (a : Act), (∀ j, l[j]? = ops[k + j]?) → regL (step E call round ops.toList) l fr st = some (fr', st') →
      SR B w0 ι st w → FRA ι fr a → ∀ {Q : Exit → Act → World → Prop}, (∀ ι' a' w', ι.le ι' → SR B w0 ι' st' w' → FRA ι' fr' a' → Q .normal a' w') →
      wpOpsIn (FF ro) 0 P ops Q (List.range' k l.length) a w
  | [], k, fr, st, fr', st', ι, w, a, hl, h, hsr, hfr, Q, hQ => by
    simp only [regL, Option.some.injEq, Prod.mk.injEq] at h
    obtain ⟨rfl, rfl⟩ := h
    exact hQ ι a w ι.le_refl hsr hfr
  | o :: l, k, fr, st, fr', st', ι, w, a, hl, h, hsr, hfr, Q, hQ => by
    simp only [regL] at h
    split at h
    · rename_i fr1 st1 hs
      have ho : ops[k]? = some o := by have := hl 0; simpa using this.symm
      have hl' : ∀ j, l[j]? = ops[(k + 1) + j]? := fun j => by have := hl (j + 1); simp at this; rw [this]; congr 1; omega
      have := step_ok (ro := ro) (Q := Q) hE hsr hfr hc hr (ops := ops) hs (K := wpOpsIn (FF ro) 0 P ops Q (List.range' (k + 1) l.length))
        (fun ι' a' w' hle hfr' hsr' => regL_ok hE hc hr l (k + 1) fr1 st1 fr' st' ι' w' a' hl' h hsr' hfr' (fun ι'' a'' w'' hle' h1 h2 => hQ ι'' a'' w'' (Ren.le_trans hle hle') h1 h2))
      simp only [List.length_cons, List.range'_succ, wpOpsIn, ho]
      exact this
    · simp at h

theorem loop_ok {ex : ExecT} (hex : ExecOK P B w0 ex) {ro rl : Option Nat} {body : Code} {Q : Exit → Act → World → Prop} :
    ∀ (d : Nat) (fr : AFr) (st : ASt) (r : Exit × AFr × ASt), loopN (ex ro body) d fr st = some r → ∀ (ι : Ren) (w : World) (a : Act) (k : Nat), SR B w0 ι st w → FRA ι fr a → RO ι ro rl →
      (r.1 = .normal → ∀ ι' a' w', ι.le ι' → SR B w0 ι' r.2.2 w' → FRA ι' r.2.1 a' → Code.roundsIn (FF rl) 0 P body Q k a' w') →
      (r.1 ≠ .normal → ∀ ι' a' w', ι.le ι' → SR B w0 ι' r.2.2 w' → FRA ι' r.2.1 a' → Q r.1 a' w') →
      Code.roundsIn (FF rl) 0 P body Q (k + 2 ^ d) a w
  | 0, fr, st, r, h, ι, w, a, k, hsr, hfr, hro, hn, hq => by
    simp only [loopN] at h
    show (body).wpIn (FF rl) 0 P (Exit.then (Code.roundsIn (FF rl) 0 P body Q k) Q) a w
    refine wpIn_mono (hex ro body fr st r h ι w a rl hsr hfr hro) fun e a' w' ⟨he, ι', h1, h2, h3⟩ => ?_
    subst he
    cases hr : r.1 with
    | normal => exact hn hr ι' a' w' h1 h2 h3
    | _ => have := hq (by rw [hr]; simp) ι' a' w' h1 h2 h3
           rw [hr] at this; exact this
  | d + 1, fr, st, r, h, ι, w, a, k, hsr, hfr, hro, hn, hq => by
    simp only [loopN] at h
    have e : k + 2 ^ (d + 1) = (k + 2 ^ d) + 2 ^ d := by rw [Nat.pow_succ]; omega
    rw [e]
    split at h
    · rename_i fr1 st1 h1
      refine loop_ok hex d fr st _ h1 ι w a (k + 2 ^ d) hsr hfr hro (fun _ ι' a' w' hle hsr' hfr' => ?_) (fun hne => absurd rfl hne)
      exact loop_ok hex d fr1 st1 r h ι' w' a' k hsr' hfr' (hro.mono hle)
        (fun hr ι'' a'' w'' hle' => hn hr ι'' a'' w'' (Ren.le_trans hle hle')) (fun hr ι'' a'' w'' hle' => hq hr ι'' a'' w'' (Ren.le_trans hle hle'))
    · rename_i r1 hne
      have hnn : r.1 ≠ .normal := by
        intro hr
        obtain ⟨e1, f1, s1⟩ := r
        simp only at hr; subst hr
        exact hne f1 s1 h
      exact loop_ok hex d fr st r h ι w a (k + 2 ^ d) hsr hfr hro (fun hr => absurd hr hnn) hq

theorem exBlock {ex : ExecT} (hex : ExecOK P B w0 ex) {ro rl : Option Nat} {id : Nat} {body : Code} {r : Exit × AFr × ASt} (hsr : SR B w0 ι st w) (hfr : FRA ι fr a) (hro : RO ι ro rl)
    (h : (match ex ro body fr st with
    | some (.exit i, fr', st') => bif Nat.beq i id then some (.normal, fr', st') else some (.exit i, fr', st')
    | r => r) = some r) : (Code.block id body).wpIn (FF rl) 0 P (ExPost B w0 ι r) a w := by
  refine wpIn_block ?_
  split at h
  · rename_i i fr1 st1 h1
    refine wpIn_mono (hex ro body fr st _ h1 ι w a rl hsr hfr hro) fun e a' w' ⟨he, ι', h2, h3, h4⟩ => ?_
    simp only at he; subst he
    simp only [Exit.inBlock]
    cases hb : Nat.beq i id
    · simp only [hb, cond_false, Option.some.injEq] at h; subst h
      have hne : ¬ i = id := by intro e; subst e; simp at hb
      simp only [hne, if_false]
      exact ⟨rfl, ι', h2, h3, h4⟩
    · simp only [hb, cond_true, Option.some.injEq] at h; subst h
      have he := Nat.eq_of_beq_eq_true hb
      simp only [he, if_true]
      exact ⟨rfl, ι', h2, h3, h4⟩
  · rename_i r1 hne
    refine wpIn_mono (hex ro body fr st _ h ι w a rl hsr hfr hro) fun e a' w' hp => ?_
    have he := hp.1
    cases e with
    | exit i =>
      exfalso
      obtain ⟨e1, f1, s1⟩ := r
      simp only at he; subst he
      exact hne i f1 s1 h
    | _ => exact hp

/-- a loop's record in the heap -/
theorem loop_at (hsr : SR B w0 ι st w) {l : Nat} {s : LoopState} {pe : Option Code} {tm : AFr} {ps : List Tmp} {as bo : Code} {de : Nat} {L : Loc} (hl : st.h.get l = some (.loop s pe tm ps as bo de))
    (hL : ι l = some L) : ∃ r : Loop, w.heap[L.b]? = some (.loop r) ∧ r.state = s ∧ r.pending = pe ∧ FR ι tm r.tmps ∧ r.params.toList = ps ∧ r.assign = as ∧ r.body = bo ∧ ∃ D, ι de = some D ∧ D.b = r.defers := by
  obtain ⟨L', o, h1, h2, r, h3, h4⟩ := hsr.obj l _ hl (by simp)
  rw [hL] at h1; cases h1
  exact ⟨r, by rw [h2, h3], h4⟩

theorem putObj_eq (w : World) (b : Nat) (o : Obj) : w.putObj b o = setObjW w b o := rfl

theorem loop_loc (hsr : SR B w0 ι st w) {l : Nat} {x : AO} (hl : st.h.get l = some x) (hd : x ≠ .dead) : ∃ L, ι l = some L := by
  obtain ⟨L, o, h1, _⟩ := hsr.obj l x hl hd
  exact ⟨L, h1⟩

theorem list_cons1 {v : AV} {caps : List AV} {x : Value} {cs' : Array Value} (h1 : VR ι v x) (h2 : VRs ι caps cs') : VRs ι (v :: caps) (#[x] ++ cs') := by
  have : VRs ι [v] #[x] := ⟨rfl, fun i y y' hy hy' => by
    cases i with
    | zero => simp at hy hy'; subst hy; subst hy'; exact h1
    | succ i => simp at hy⟩
  exact this.append h2

theorem res_range {g : Operand} {f : FuncId} {cs' : Array Value} (l : Nat) (w : World) (hge : a.eval g = .func (.func f) #[] cs') :
    (resolve a.eval (rangeCall g l) 0).run P w = .ok { target := .fn (.func f) cs', args := #[.func (.yield l) #[] #[]] } w := by
  have e : a.eval (.const (.func (.yield l) #[] #[])) = .func (.yield l) #[] #[] := rfl
  simp only [resolve, hge, Deferred.ofValue, Sem.run_pure, List.map_toArray, List.map_cons, List.map_nil, e]
  rfl

theorem range_ok {ex : ExecT} {call : CallT} (hex : ExecOK P B w0 ex) (hc : CallOK P B w0 call) {ro rl : Option Nat} {g : Operand} {ps : Array Tmp} {as bo : Code} {r : Exit × AFr × ASt}
    (hsr : SR B w0 ι st w) (hfr : FRA ι fr a) (hro : RO ι ro rl) (h : rangeA call ex ro g ps as bo fr st = some r) : (Code.rangeFunc g ps as bo).wpIn (FF rl) 0 P (ExPost B w0 ι r) a w := by
  simp only [rangeA] at h
  split at h
  rotate_left
  · simp at h
  rename_i f caps hg
  have hgv := evA_ok hfr.hf hg
  generalize hge : a.eval g = gv at hgv
  cases hgv with
  | clos _ _ cs' hs hv =>
  -- the call and what is behind it, in whichever world
  have go : ∀ (de : Nat) (fr1 : AFr) (st1 : ASt) (ι1 : Ren) (w1 : World) (defs : List Deferred) (fn : FuncId) (D : Loc) (hle : ι.le ι1), SR B w0 ι1 st1 w1 → FRA ι1 fr1 { a with defers := defs } → ι1 de = some D →
      (match call f (.yield st1.next :: caps) (st1.add (.loop .ready none fr ps.toList as bo de)) with
      | some (_, st2) =>
        match st2.h.get st1.next with
        | some (.loop s pe _ _ _ _ _) =>
          match s with
          | .busy => none
          | _ =>
            match pe with
            | none => some (.normal, fr1, st2.put st1.next .dead)
            | some c => ex ro c fr1 (st2.put st1.next .dead)
        | _ => none
      | none => none) = some r →
      ∃ (w2 : World), (callFunc f (#[.func (.yield w1.heap.size) #[] #[]] ++ cs')).run P (w1.alloc (.loop { state := .ready, pending := none, fn, tmps := a.tmps, params := ps, assign := as, body := bo, defers := D.b })) = .ok (.enter f (#[.func (.yield w1.heap.size) #[] #[]] ++ cs')) w2 ∧
        CallsIn (FF rl) 0 P f (#[.func (.yield w1.heap.size) #[] #[]] ++ cs') w2 (rangePost (FF rl) 0 P w1.heap.size (ExPost B w0 ι r) { a with defers := defs }) := by
    intro de fr1 st1 ι1 w1 defs fn D hle hsr1 hfr1 hD h
    let rec1 : Loop := { state := .ready, pending := none, fn, tmps := a.tmps, params := ps, assign := as, body := bo, defers := D.b }
    obtain ⟨k1, k2, k3⟩ := hsr1.alloc (.loop .ready none fr ps.toList as bo de) (.loop rec1) 0 ⟨rec1, rfl, rfl, rfl, hfr.hf.mono hle, rfl, rfl, rfl, D, hD, rfl⟩
    split at h
    rotate_left
    · simp at h
    rename_i v0 st2 hcall
    have hargs := list_cons1 (ι := ι1.ext st1.next ⟨w1.heap.size, 0, 0⟩) (.yield st1.next _ k3) ((⟨hs, hv⟩ : VRs ι caps cs').mono (Ren.le_trans hle k2))
    obtain ⟨c1, c2⟩ := hc f _ _ _ hcall _ _ _ k1 hargs
    · refine ⟨_, c1, (FF_calls (ro := rl) c2).mono ?_⟩
      rintro e w3 ⟨x, ι3, rfl, hle3, hsr3, _⟩
      simp only at hsr3
      split at h
      rotate_left
      · simp at h
      rename_i s pe tm2 ps2 as2 bo2 de2 hlp
      have hL3 := hle3 _ _ k3
      obtain ⟨q, q1, q2, q3, q4, q5, q6, q7, D3, q8, q9⟩ := loop_at hsr3 hlp hL3
      have hnb : q.state ≠ .busy := by
        rw [q2]; intro e; subst e; simp at h
      have hend := run_endLoop (P := P) q1 hnb
      have hkill : SR B w0 ι3 (st2.put st1.next .dead) (w3.putObj w1.heap.size (.loop { q with state := .exhausted })) := by
        have hw := hsr3.write (a' := .loop .exhausted pe tm2 ps2 as2 bo2 de2) hlp rfl hL3 (o' := .loop { q with state := .exhausted }) ⟨_, rfl, rfl, q3, q4, q5, q6, q7, D3, q8, q9⟩
        have hk := hw.kill (put_get _ _ _)
        exact hk.congr (fun j => put_put st2 st1.next _ _ j) rfl
      have hle' : ι.le ι3 := Ren.le_trans hle (Ren.le_trans k2 hle3)
      refine ⟨pe, w3.putObj w1.heap.size (.loop { q with state := .exhausted }), ?_, ?_⟩
      · rw [← q3]; exact hend
      · cases pe with
        | none =>
          have h' : some (Exit.normal, fr1, st2.put st1.next .dead) = some r := by
            cases s <;> first | exact h | (simp at h)
          simp only [Option.some.injEq] at h'; subst h'
          exact ⟨rfl, ι3, hle', hkill, hfr1.mono (Ren.le_trans k2 hle3)⟩
        | some c =>
          have h' : ex ro c fr1 (st2.put st1.next .dead) = some r := by
            cases s <;> first | exact h | (simp at h)
          exact wpIn_mono (hex ro c fr1 _ r h' ι3 _ _ rl hkill (hfr1.mono (Ren.le_trans k2 hle3)) (hro.mono hle')) fun e a' w' hp => hp.le hle'
  refine wpIn_rangeFunc fun fn _ => ?_
  cases ro with
  | none =>
    cases rl with
    | some _ => exact hro.elim
    | none =>
      obtain ⟨k1, k2, k3⟩ := hsr.alloc .defd (.deferred (some [])) 0 rfl
      have hfr1 : FRA (ι.ext st.next ⟨w.heap.size, 0, 0⟩) { fr with defs := st.next :: fr.defs } { a with defers := [{ target := .collected w.heap.size, args := #[] }] ++ a.defers } :=
        ⟨hfr.hf.mono k2, ⟨_, k3, rfl⟩, hfr.hd.mono k2⟩
      obtain ⟨w2, g1, g2⟩ := go st.next { fr with defs := st.next :: fr.defs } (st.add .defd) _ _ _ fn _ k2 k1 hfr1 k3 h
      refine ⟨w.heap.size + 1, [{ target := .collected w.heap.size, args := #[] }], (w.alloc (.deferred (some []))).alloc (.loop { state := .ready, pending := none, fn, tmps := a.tmps, params := ps, assign := as, body := bo, defers := w.heap.size }),
        { target := .fn (.func f) cs', args := #[.func (.yield (w.heap.size + 1)) #[] #[]] }, (w.alloc (.deferred (some []))).alloc (.loop { state := .ready, pending := none, fn, tmps := a.tmps, params := ps, assign := as, body := bo, defers := w.heap.size }),
        f, #[.func (.yield (w.heap.size + 1)) #[] #[]] ++ cs', w2, run_enterLoop_outer fn a.tmps ps as bo, ?_, fun _ _ => FF_fn none _, ?_, FF_depth none, ?_⟩
      · exact res_range _ _ hge
      · simp only [invoke]
        have : (w.alloc (.deferred (some []))).heap.size = w.heap.size + 1 := by simp
        rw [← this]; exact g1
      · have : (w.alloc (.deferred (some []))).heap.size = w.heap.size + 1 := by simp
        rw [← this]; exact g2
  | some l0 =>
    cases rl with
    | none => exact hro.elim
    | some b0 =>
      dsimp only at h
      split at h
      · rename_i s0 pe0 tm0 ps0 as0 bo0 de0 hl0
        obtain ⟨L0, hL0, rfl⟩ := hro
        obtain ⟨q, q1, q2, q3, q4, q5, q6, q7, D0, q8, q9⟩ := loop_at hsr hl0 hL0
        obtain ⟨w2, g1, g2⟩ := go de0 fr st ι w a.defers fn D0 ι.le_refl hsr hfr q8 h
        refine ⟨w.heap.size, [], w.alloc (.loop { state := .ready, pending := none, fn, tmps := a.tmps, params := ps, assign := as, body := bo, defers := q.defers }),
          { target := .fn (.func f) cs', args := #[.func (.yield w.heap.size) #[] #[]] }, w.alloc (.loop { state := .ready, pending := none, fn, tmps := a.tmps, params := ps, assign := as, body := bo, defers := q.defers }),
          f, #[.func (.yield w.heap.size) #[] #[]] ++ cs', w2, run_enterLoop_inner q1 fn a.tmps ps as bo, ?_, fun _ _ => FF_fn (some L0.b) _, ?_, FF_depth (some L0.b), ?_⟩
        · exact res_range _ _ hge
        · simp only [invoke]
          rw [q9] at g1; exact g1
        · exact g2
      · simp at h

theorem exLoop {ex : ExecT} (hex : ExecOK P B w0 ex) {ro rl : Option Nat} {body : Code} {r : Exit × AFr × ASt} (hsr : SR B w0 ι st w) (hfr : FRA ι fr a) (hro : RO ι ro rl) (d : Nat)
    (h : loopN (ex ro body) d fr st = some r) (hne : r.1 ≠ .normal) : (Code.loop body).wpIn (FF rl) 0 P (ExPost B w0 ι r) a w :=
  wpIn_loop_rounds (0 + 2 ^ d) (loop_ok hex d fr st r h ι w a 0 hsr hfr hro (fun hr => absurd hr hne) (fun _ ι' _ _ h1 h2 h3 => ⟨rfl, ι', h1, h2, h3⟩))
end
end
end Go.Ax
