/-
  OWN WORK, TOLD ONCE FOR ALL TEXTS YtmjmpmmonelmmaaAxA TO YtmjmpmmonelmmaaAxU: an abstract machine for the program's text that the kernel can run, and the proof that it is sound: what it answers is what the program answers. No condition.
-/
import Derived.Test.YtmjmpmmonelmmaaAxMs
namespace Go.Ax
noncomputable section
open Go.RowKit

section
variable {P : Program} {E : Env} {B : Prot} {w0 : World} {ι : Ren} {st : ASt} {w : World} {fr : AFr} {a : Act}

section
variable (E : Env) (draw : DrawT) (ex : ExecT) (call round : CallT) (ro : Option Nat) (fr : AFr) (st : ASt)
theorem execF_skip : execF E draw ex call round ro .skip fr st = some (.normal, fr, st) := rfl
theorem execF_label (l : Nat) : execF E draw ex call round ro (.label l) fr st = some (.normal, fr, st) := rfl
theorem execF_exit (l : Nat) : execF E draw ex call round ro (.exit l) fr st = some (.exit l, fr, st) := rfl
theorem execF_goto (l : Nat) : execF E draw ex call round ro (.goto l) fr st = some (.goto l, fr, st) := rfl
theorem execF_ret : execF E draw ex call round ro .ret fr st = some (.ret, fr, st) := rfl
theorem execF_region (id : Nat) (ops : Array Oper) : execF E draw ex call round ro (.region id ops false) fr st =
    (match regL (step E call round ops.toList) ops.toList fr st with | some (fr', st') => some (.normal, fr', st') | none => none) := rfl
theorem execF_draw (id : Nat) (ops : Array Oper) : execF E draw ex call round ro (.region id ops true) fr st =
    (match draw (stepV E call round ops.toList) ops.toList fr st with | some (fr', st') => some (.normal, fr', st') | none => none) := rfl
theorem execF_seq (a b : Code) : execF E draw ex call round ro (.seq a b) fr st = (match ex ro a fr st with | some (.normal, fr', st') => ex ro b fr' st' | r => r) := rfl
theorem execF_cond (x : Operand) (t e : Code) : execF E draw ex call round ro (.cond x t e) fr st = (match evA fr x with | some (.bool v) => bif v then ex ro t fr st else ex ro e fr st | _ => none) := rfl
theorem execF_block (id : Nat) (b : Code) : execF E draw ex call round ro (.block id b) fr st =
    (match ex ro b fr st with | some (.exit i, fr', st') => bif Nat.beq i id then some (.normal, fr', st') else some (.exit i, fr', st') | r => r) := rfl
theorem execF_range (g : Operand) (ps : Array Tmp) (as bo : Code) : execF E draw ex call round ro (.rangeFunc g ps as bo) fr st = rangeA call ex ro g ps as bo fr st := rfl
theorem execF_scope (b : Code) : execF E draw ex call round ro (.scope b) fr st = scopeA (ex ro) b 8 (ex ro b fr st) := rfl
theorem execF_refuse (s : String) : execF E draw ex call round ro (.refuse s) fr st = none := rfl
end

theorem scopeA_none (f : Code → AFr → ASt → Option (Exit × AFr × ASt)) (c : Code) (d : Nat) : scopeA f c d none = none := by cases d <;> rfl

theorem scopeA_ok {ex : ExecT} (hex : ExecOK P B w0 ex) {c : Code} {ro rl : Option Nat} {ι : Ren} (hro : RO ι ro rl) :
    ∀ (d : Nat) (r1 r : Exit × AFr × ASt), scopeA (ex ro) c d (some r1) = some r → ∀ (e : Exit) (a' : Act) (w' : World), ExPost B w0 ι r1 e a' w' → JumpsIn (FF rl) 0 P c (ExPost B w0 ι r) d e a' w'
  | 0, (e1, fr, st), r, h, e, a', w', hp => by
    have he : e = e1 := hp.1
    subst he
    cases e with
    | goto l =>
      simp only [scopeA] at h
      split at h
      · simp at h
      · rename_i hf
        simp only [Option.some.injEq] at h; subst h
        exact ⟨(fun l' hl => by cases hl; exact hf), hp⟩
    | _ => simp only [scopeA, Option.some.injEq] at h; subst h; exact ⟨(fun l' hl => by cases hl), hp⟩
  | d + 1, (e1, fr, st), r, h, e, a', w', hp => by
    have he : e = e1 := hp.1
    subst he
    cases e with
    | goto l =>
      simp only [scopeA] at h
      split at h
      · rename_i rest hf
        cases hq : ex ro rest fr st with
        | none => rw [hq, scopeA_none] at h; simp at h
        | some r2 =>
          rw [hq] at h
          obtain ⟨_, ι', h2, h3, h4⟩ := hp
          refine .inl ⟨l, rest, rfl, hf, wpIn_mono (hex ro rest fr st r2 hq ι' w' a' rl h3 h4 (hro.mono h2)) fun e2 a2 w2 hp2 => ?_⟩
          exact scopeA_ok hex hro d r2 r h e2 a2 w2 (hp2.le h2)
      · rename_i hf
        simp only [Option.some.injEq] at h; subst h
        exact .inr ⟨(fun l' hl => by cases hl; exact hf), hp⟩
    | _ => simp only [scopeA, Option.some.injEq] at h; subst h; exact .inr ⟨(fun l' hl => by cases hl), hp⟩

theorem execF_ok (hE : E.Ok P) {draw : DrawT} (hd : DrawOK P E draw) {ex : ExecT} {call round : CallT} (hex : ExecOK P B w0 ex) (hc : CallsOK P call) (hr : RoundsOK P round) :
    ExecOK P B w0 (execF E draw ex call round) := by
  intro ro c fr st r h ι w a rl hsr hfr hro
  have now : ∀ {e : Exit}, some (e, fr, st) = some r → ExPost B w0 ι r e a w := fun h => by
    simp only [Option.some.injEq] at h; subst h; exact ⟨rfl, ι, ι.le_refl, hsr, hfr⟩
  cases c with
  | skip => rw [execF_skip] at h; exact wpIn_skip (now h)
  | label l => rw [execF_label] at h; exact wpIn_label (now h)
  | exit id => rw [execF_exit] at h; exact wpIn_exit (now h)
  | goto l => rw [execF_goto] at h; exact wpIn_goto (now h)
  | ret => rw [execF_ret] at h; exact wpIn_ret (now h)
  | region id ops dr =>
    cases dr with
    | false =>
      rw [execF_region] at h
      split at h
      · rename_i fr1 st1 h1
        simp only [Option.some.injEq] at h; subst h
        refine wpIn_region ?_
        have := regL_ok (ro := rl) hE (hc B w0) (hr B w0) ops.toList 0 fr st fr1 st1 ι w a (fun j => by simp) h1 hsr hfr (Q := ExPost B w0 ι (.normal, fr1, st1)) (fun ι' a' w' h1 h2 h3 => ⟨rfl, ι', h1, h2, h3⟩)
        rw [List.range_eq_range']
        simpa using this
      · simp at h
    | true =>
      rw [execF_draw] at h
      split at h
      · rename_i fr1 st1 h1
        simp only [Option.some.injEq] at h; subst h
        exact hd call round hc hr B w0 ops fr st fr1 st1 h1 ι w a rl id hsr hfr
      · simp at h
  | seq x y =>
    rw [execF_seq] at h
    refine wpIn_seq ?_
    split at h
    · rename_i fr1 st1 h1
      refine wpIn_mono (hex ro x fr st _ h1 ι w a rl hsr hfr hro) fun e a' w' ⟨he, ι', h2, h3, h4⟩ => ?_
      simp only at he; subst he
      exact wpIn_mono (hex ro y fr1 st1 r h ι' w' a' rl h3 h4 (hro.mono h2)) fun e a'' w'' hp => hp.le h2
    · rename_i r1 hne
      refine wpIn_mono (hex ro x fr st _ h ι w a rl hsr hfr hro) fun e a' w' hp => ?_
      have he := hp.1
      cases e with
      | normal =>
        exfalso
        obtain ⟨e1, f1, s1⟩ := r
        simp only at he; subst he
        exact hne f1 s1 h
      | _ => exact hp
  | cond x t e =>
    rw [execF_cond] at h
    split at h
    · rename_i v hv
      have hxv := evA_ok hfr.hf hv
      generalize hxe : a.eval x = xv at hxv
      cases hxv
      refine wpIn_cond hxe ?_
      cases v
      · exact hex ro e fr st r h ι w a rl hsr hfr hro
      · exact hex ro t fr st r h ι w a rl hsr hfr hro
    · simp at h
  | block id body => rw [execF_block] at h; exact exBlock hex hsr hfr hro h
  | loop body =>
    have h0 : (match leftHas body with
      | some _ => (match loopM E call round ex ro body 1000 fr st with | some (.normal, _, _) => none | r => r)
      | none => (match loopN (ex ro body) 24 fr st with | some (.normal, _, _) => none | r => r)) = some r := h
    clear h
    split at h0
    · generalize hq : loopM E call round ex ro body 1000 fr st = q at h0
      split at h0
      · simp at h0
      · rename_i r1 hne
        subst h0
        exact wpIn_loop_rounds 1000 (loopM_ok hE hex (hc B w0) (hr B w0) 1000 fr st r hq (fun hr => by
          obtain ⟨e1, f1, s1⟩ := r
          simp only at hr; subst hr
          exact hne f1 s1 rfl) ι w a hsr hfr hro (fun _ _ _ hp => hp))
    · rename_i hlh
      generalize hq : loopN (ex ro body) 24 fr st = q at h0
      split at h0
      · simp at h0
      · rename_i r1 hne
        subst h0
        refine exLoop hex hsr hfr hro 24 hq fun hr => ?_
        obtain ⟨e1, f1, s1⟩ := r
        simp only at hr; subst hr
        exact hne f1 s1 rfl
  | rangeFunc g ps as bo => rw [execF_range] at h; exact range_ok hex (hc B w0) hsr hfr hro h
  | scope b =>
    rw [execF_scope] at h
    cases hq : ex ro b fr st with
    | none => rw [hq, scopeA_none] at h; simp at h
    | some r1 =>
      rw [hq] at h
      exact wpIn_scope 8 (wpIn_mono (hex ro b fr st r1 hq ι w a rl hsr hfr hro) fun e a' w' hp => scopeA_ok hex hro 8 r1 r h e a' w' hp)
  | refuse s => rw [execF_refuse] at h; simp at h
end
end
end Go.Ax
