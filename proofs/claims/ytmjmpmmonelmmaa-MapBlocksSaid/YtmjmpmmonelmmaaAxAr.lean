/-
  OWN WORK, TOLD ONCE FOR ALL TEXTS YtmjmpmmonelmmaaAxA TO YtmjmpmmonelmmaaAxU: an abstract machine for the program's text that the kernel can run, and the proof that it is sound: what it answers is what the program answers. No condition.
-/
import Derived.Test.YtmjmpmmonelmmaaAxSs
namespace Go.Ax
noncomputable section
open Go.RowKit

/-- a call with arguments that bear no references, run -/
theorem run_args {P : Program} {E : Env} (hE : E.Ok P) {sum : CallT} (hs : CallsOK P sum) {n : Nat} {f : FuncId} {args : List AV} {args' : Array Value} (hv : VRs (fun _ => none) args args')
    (h : isTrue ((M E (drawA E) sum n).call f args st0) = true) (w : World) (hgl : GlobOK w := by intro _ _ h; cases h) : Calls P f args' w fun e w' => e = .returned (.bool true) ∧ Below w.heap.size w w' := by
  revert h
  generalize hq : (M E (drawA E) sum n).call f args st0 = q
  intro h
  match q, h with
  | some (.bool true, st), _ =>
    obtain ⟨_, hc⟩ := (M_ok hE (drawA_ok hE) hs n).call (Old w) w f args st0 _ hq _ w args' (st0_ok w hgl) hv
    rw [callsIn_wide] at hc
    refine hc.mono ?_
    rintro e w' ⟨v, ι', rfl, _, h2, h3⟩
    simp only at h3
    cases h3
    exact ⟨rfl, h2.below.os, h2.below.tape, h2.below.output, h2.below.size, fun k hk => h2.below.block k (.inr hk)⟩

theorem VRs_int1 {ι : Ren} {k : IntKind} {n : Int} : VRs ι [.int k n] #[.int k n] :=
  ⟨rfl, fun i v v' h h' => by
    match i with
    | 0 => simp at h h'; subst h; subst h'; exact .int _ _
    | i + 1 => simp at h⟩
end
end Go.Ax
