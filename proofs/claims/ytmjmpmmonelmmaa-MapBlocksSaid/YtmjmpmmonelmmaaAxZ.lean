/-
  OWN WORK, TOLD ONCE FOR ALL TEXTS YtmjmpmmonelmmaaAxA TO YtmjmpmmonelmmaaAxU: an abstract machine for the program's text that the kernel can run, and the proof that it is sound: what it answers is what the program answers. No condition.
-/
import Derived.Test.YtmjmpmmonelmmaaAxU
import Derived.Laws.Externs
import Derived.KernelRfl
namespace Go.Ax
noncomputable section
open Go.RowKit

/-! ### math/bits.Add64 -/
def add64A (args : List AV) : Option AV :=
  match args with
  | [.int .u64 (.ofNat x), .int .u64 (.ofNat y), .int .u64 (.ofNat c)] =>
    bif Nat.ble c 1 then some (.tuple [.int .u64 (.ofNat ((x + y + c) % 18446744073709551616)), .int .u64 (.ofNat ((x + y + c) / 18446744073709551616))]) else none
  | _ => none

/-- what the model's own entry answers, or what a call that only computes comes to -/
structure ExOK (P : Program) (f : Nat) (g : List AV → Option AV) : Prop where
  ok : ∀ ι args args' v w, GlobOK w → g args = some v → args.length = args'.size → (∀ (i : Nat) x x', args[i]? = some x → args'[i]? = some x' → VR ι x x') →
    (∃ v', (callFunc f args').run P w = .ok (.value v') w ∧ VR ι v v') ∨
    ((callFunc f args').run P w = .ok (.enter f args') w ∧ CallsIn Fence.wide 0 P f args' w fun e w' => ∃ x, e = .returned x ∧ VR ι v x ∧ Keeps (fun k => k < w.heap.size) w w')

theorem add64_ex {P : Program} {f : Nat} (h : ∀ args w, (callFunc f args).run P w = ((add64Entry args).run P w).andThen fun v w' => .ok (.value v) w') : ExOK P f add64A := by
  refine ⟨fun ι args args' v w _ hg hs hr => ?_⟩
  unfold add64A at hg
  split at hg
  rotate_left
  · simp at hg
  rename_i x y c
  cases hc : Nat.ble c 1
  · simp [hc] at hg
  simp only [hc, cond_true, Option.some.injEq] at hg
  subst hg
  have hc1 := ble_le hc
  obtain ⟨l⟩ := args'
  match l, hs with
  | [a, b, d], _ =>
    have h0 := hr 0 _ a rfl (by simp)
    have h1 := hr 1 _ b rfl (by simp)
    have h2 := hr 2 _ d rfl (by simp)
    cases h0; cases h1; cases h2
    have hrun := run_add64 (P := P) (x : Int) (y : Int) (c : Int) (by omega) (by omega) (by omega) (by omega) w
    refine .inl ⟨.tuple #[.int .u64 (((x + y + c) % 18446744073709551616 : Nat) : Int), .int .u64 (((x + y + c) / 18446744073709551616 : Nat) : Int)], ?_, ?_⟩
    · rw [h]
      have e : ∀ n : Nat, (Int.ofNat n) = (n : Int) := fun _ => rfl
      have e1 : ((x : Int) + (y : Int) + (c : Int)) % 18446744073709551616 = (((x + y + c) % 18446744073709551616 : Nat) : Int) := by omega
      have e2 : ((x : Int) + (y : Int) + (c : Int)) / 18446744073709551616 = (((x + y + c) / 18446744073709551616 : Nat) : Int) := by omega
      simp only [e]
      rw [hrun, e1, e2]
      rfl
    · refine .tuple _ _ rfl (fun i u u' hu hu' => ?_)
      match i with
      | 0 => simp at hu hu'; subst hu; subst hu'; exact .int _ _
      | 1 => simp at hu hu'; subst hu; subst hu'; exact .int _ _
      | i + 2 => simp at hu

def AllEx (P : Program) : List (Nat × (List AV → Option AV)) → Prop
  | [] => True
  | p :: ps => ExOK P p.1 p.2 ∧ AllEx P ps

def exT (l : List (Nat × (List AV → Option AV))) : T (List AV → Option AV) := l.foldl (fun t p => t.set 11 p.1 p.2) .e

theorem exT_ok {P : Program} {l : List (Nat × (List AV → Option AV))} (h : AllEx P l) : ∀ f g, (exT l).get f = some g → ExOK P f g := by
  have key : ∀ (l : List (Nat × (List AV → Option AV))), AllEx P l → ∀ (s : T (List AV → Option AV)), (∀ f g, s.get f = some g → ExOK P f g) → ∀ f g, (l.foldl (fun t p => t.set 11 p.1 p.2) s).get f = some g → ExOK P f g := by
    intro l
    induction l with
    | nil => intro _ s hs f fn h; exact hs f fn h
    | cons p l ih =>
      intro hl s hs f fn h
      refine ih hl.2 _ (fun f fn hf => ?_) f fn h
      simp only [T.get_set] at hf
      by_cases e : f = p.1
      · subst e; simp at hf; rw [← hf]; exact hl.1
      · simp only [e, if_false] at hf; exact hs f fn hf
  exact key l h .e (fun f fn h => by simp [T.get_e] at h)

def envEx (P : Program) (ts : List Nat) (fs : List (Nat × Func)) (xs : List (Nat × (List AV → Option AV))) : Env := { ty := tyT P ts, fn := fnT fs, ex := exT xs }

theorem envEx_ok {P : Program} {ts : List Nat} {fs : List (Nat × Func)} {xs : List (Nat × (List AV → Option AV))} (h : AllFn P fs) (hx : AllEx P xs) (hm : P.follows .mixedOrders = true) : Env.Ok P (envEx P ts fs xs) where
  ty := tyT_ok ts
  fn := fun f fn hf => (fnT_ok h f fn hf).at_
  call := fun f fn hf args w => (fnT_ok h f fn hf).call args w
  ex := fun f g hg => (exT_ok hx f g hg).ok
  mixed := hm

/-! ### Values without references -/
def pureC : AV → Bool
  | .bool _ => true
  | .int _ _ => true
  | .str _ => true
  | _ => false
def pureV : AV → Bool
  | .agg l => l.all pureC
  | v => pureC v

theorem pureC_VR {ι κ : Ren} {v : AV} {x : Value} (hp : pureC v = true) (h : VR ι v x) : VR κ v x := by
  cases h <;> simp [pureC] at hp
  · exact .bool _
  · exact .int _ _
  · exact .str _ _ (by assumption)

theorem pureV_VR {ι κ : Ren} {v : AV} {x : Value} (hp : pureV v = true) (h : VR ι v x) : VR κ v x := by
  cases h with
  | agg cs cs' hs hc h =>
    exact .agg cs cs' hs hc (fun i y y' hy hy' => pureC_VR (List.all_eq_true.1 hp y (List.mem_of_getElem? hy)) (h i y y' hy hy'))
  | bool b => exact .bool b
  | int k n => exact .int k n
  | str l s hl => exact .str l s hl
  | _ => simp [pureV, pureC] at hp

theorem pureVs_VRs {ι κ : Ren} {l : List AV} {r : Array Value} (hp : l.all pureV = true) (h : VRs ι l r) : VRs κ l r :=
  ⟨h.size, fun i v v' hv hv' => pureV_VR (List.all_eq_true.1 hp v (List.mem_of_getElem? hv)) (h.at_ i v v' hv hv')⟩

/-! ### Calls whose answers are known: of arguments and answers without references -/
structure Memo where
  f : Nat
  args : List AV
  v : AV

structure MemoOK (P : Program) (m : Memo) : Prop where
  enter : ∀ args w, (callFunc m.f args).run P w = .ok (.enter m.f args) w
  pa : m.args.all pureV = true
  pv : pureV m.v = true
  run : ∀ w args', GlobOK w → VRs (fun _ => none) m.args args' → CallsIn Fence.wide 0 P m.f args' w fun e w' => ∃ x, e = .returned x ∧ VR (fun _ => none) m.v x ∧ Keeps (fun k => k < w.heap.size) w w'

def AllMemo (P : Program) : List Memo → Prop
  | [] => True
  | p :: ps => MemoOK P p ∧ AllMemo P ps

def sumC : List Memo → CallT
  | [], _, _, _ => none
  | m :: ms, f, args, st => bif (bif Nat.beq m.f f then avsEq m.args args else false) then some (m.v, st) else sumC ms f args st

theorem sumC_ok {P : Program} : ∀ {l : List Memo}, AllMemo P l → CallsOK P (sumC l)
  | [], _ => fun _ _ _ _ _ _ h => by simp [sumC] at h
  | m :: ms, hm => fun B w0 f args st r h ι w args' hsr hv => by
    simp only [sumC] at h
    cases hb : (bif Nat.beq m.f f then avsEq m.args args else false)
    · rw [hb, cond_false] at h
      exact sumC_ok hm.2 B w0 f args st r h ι w args' hsr hv
    · rw [hb, cond_true] at h
      simp only [Option.some.injEq] at h
      cases hf : Nat.beq m.f f
      · rw [hf] at hb; simp at hb
      rw [hf, cond_true] at hb
      have e1 := nbeq hf
      have e2 := avsEq_eq _ _ hb
      subst e1; subst e2; subst h
      obtain ⟨k1, k2, k3, k4⟩ := hm.1
      refine ⟨k1 args' w, (k4 w args' hsr.globw (pureVs_VRs k2 hv)).mono fun e w' ⟨x, he, hx, hk⟩ => ?_⟩
      exact ⟨x, ι, he, ι.le_refl, hsr.later hk, pureV_VR k3 hx⟩

def isVal (v : AV) : Option (AV × ASt) → Bool
  | some (x, _) => avEq x v
  | none => false

/-- a run of such a call -/
theorem memo_ok {P : Program} {E : Env} (hE : E.Ok P) {sum : CallT} (hs : CallsOK P sum) {n : Nat} {m : Memo} (henter : ∀ args w, (callFunc m.f args).run P w = .ok (.enter m.f args) w)
    (hp : (bif m.args.all pureV then pureV m.v else false) = true) (h : isVal m.v ((M E (drawA E) sum n).call m.f m.args st0) = true) : MemoOK P m := by
  cases hp1 : m.args.all pureV
  · rw [hp1] at hp; simp at hp
  rw [hp1, cond_true] at hp
  refine ⟨henter, hp1, hp, fun w args' hgl hv => ?_⟩
  revert h
  generalize hq : (M E (drawA E) sum n).call m.f m.args st0 = q
  intro h
  match q, h with
  | some (x, st), h =>
    have := avEq_eq _ _ h
    subst this
    obtain ⟨_, hc⟩ := (M_ok hE (drawA_ok hE) hs n).call (Old w) w m.f m.args st0 _ hq _ w args' (st0_ok w hgl) hv
    refine hc.mono ?_
    rintro e w' ⟨v, ι', rfl, _, h2, h3⟩
    exact ⟨v, rfl, pureV_VR hp h3, h2.below.os, h2.below.tape, h2.below.output, h2.below.size, fun k hk => h2.below.block k (.inr hk)⟩

/-- a function that only computes: what it answers to arguments of one shape, run at an empty memory -/
theorem pure_ex {P : Program} {E : Env} (hE : E.Ok P) {sum : CallT} (hs : CallsOK P sum) {n : Nat} {f : Nat} {g : List AV → Option AV} (henter : ∀ args w, (callFunc f args).run P w = .ok (.enter f args) w)
    (hrun : ∀ args v, g args = some v → args.all pureV = true ∧ pureV v = true ∧ ∃ st, (M E (drawA E) sum n).call f args st0 = some (v, st)) : ExOK P f g := by
  refine ⟨fun ι args args' v w hgl hg hsz hr => .inr ⟨henter args' w, ?_⟩⟩
  obtain ⟨h1, h2, st, h3⟩ := hrun args v hg
  obtain ⟨_, hc⟩ := (M_ok hE (drawA_ok hE) hs n).call (Old w) w f args st0 _ h3 _ w args' (st0_ok w hgl) (pureVs_VRs h1 ⟨hsz, hr⟩)
  refine hc.mono ?_
  rintro e w' ⟨x, ι', rfl, _, h4, h5⟩
  exact ⟨x, rfl, pureV_VR h2 h5, h4.below.os, h4.below.tape, h4.below.output, h4.below.size, fun k hk => h4.below.block k (.inr hk)⟩

theorem closed_true' {P : Program} {E : Env} (hE : E.Ok P) {sum : CallT} (hs : CallsOK P sum) {n : Nat} {f : FuncId}
    (hr : isTrue ((M E (drawA E) sum n).call f [] st0) = true) (w : World) (hgl : GlobOK w := by intro _ _ h; cases h) : Calls P f #[] w fun e w' => e = .returned (.bool true) ∧ Below w.heap.size w w' :=
  run_true hE (drawA_ok hE) hs hr w hgl
end
end Go.Ax
