/-
PROVED HERE: 'Rows.CommandRightsSaid': for every table and any two numbers the call of the law's function returns true, and the arguments read as they did. No condition.
  THE WALK: each function of tables (kind, all, who, anybody, May, Holds, Reads, Writes of the package, May and many of the reference, Allowed of both) is shown once to compute a plain function of the table's 19 numbers (runs of its text in an abstract machine, the texts YtlnohbilfogheaaAxA to YtlnohbilfogheaaAxFm show that it is sound); the law's text is run over these. THE PLAIN LAW: 'alw6', 'wr', 'free'.
-/
import Derived.Test.YtlnohbilfogheaaRows
import Derived.Test.YtlnohbilfogheaaAxFm
import Derived.KernelRfl
import Derived.WalkKit
import Derived.ProofKit
import Derived.OpenShut
import Derived.Below
import Derived.WideKeyArgs
import Derived.ShutString
import Derived.ChangeOld
import Derived.Deep.SlicePairs
import Derived.Deep.Grids
set_option linter.unusedVariables false
section
open Go Go.Ax Go.Proofs.Ytlnohbilfogheaa
namespace Go.Proofs.Ytlnohbilfogheaa.cri
noncomputable def fns : List (Nat × Func) := [(5, Try.f5), (14, Try.f14), (16, Try.f16), (18, Try.f18), (19, Try.f19), (20, Try.f20), (21, Try.f21), (37, Try.f37), (46, Try.f46), (47, Try.f47), (48, Try.f48), (50, Try.f50), (51, Try.f51), (52, Try.f52), (53, Try.f53), (54, Try.f54), (55, Try.f55), (56, Try.f56), (57, Try.f57), (78, Try.f78), (79, Try.f79), (82, Try.f82), (83, Try.f83), (84, Try.f84), (85, Try.f85), (86, Try.f86), (87, Try.f87), (88, Try.f88), (89, Try.f89), (121, Try.f121), (122, Try.f122)]
noncomputable def E : Env := envEx Try.prog (List.range 190) fns []
def fl0 : Fl := ⟨[], [], [], []⟩
theorem fnsOk : AllFn Try.prog fns :=
  ⟨⟨Try.func5, Try.call5⟩, ⟨Try.func14, Try.call14⟩, ⟨Try.func16, Try.call16⟩, ⟨Try.func18, Try.call18⟩, ⟨Try.func19, Try.call19⟩, ⟨Try.func20, Try.call20⟩, ⟨Try.func21, Try.call21⟩, ⟨Try.func37, Try.call37⟩, ⟨Try.func46, Try.call46⟩, ⟨Try.func47, Try.call47⟩, ⟨Try.func48, Try.call48⟩, ⟨Try.func50, Try.call50⟩, ⟨Try.func51, Try.call51⟩, ⟨Try.func52, Try.call52⟩, ⟨Try.func53, Try.call53⟩, ⟨Try.func54, Try.call54⟩, ⟨Try.func55, Try.call55⟩, ⟨Try.func56, Try.call56⟩, ⟨Try.func57, Try.call57⟩, ⟨Try.func78, Try.call78⟩, ⟨Try.func79, Try.call79⟩, ⟨Try.func82, Try.call82⟩, ⟨Try.func83, Try.call83⟩, ⟨Try.func84, Try.call84⟩, ⟨Try.func85, Try.call85⟩, ⟨Try.func86, Try.call86⟩, ⟨Try.func87, Try.call87⟩, ⟨Try.func88, Try.call88⟩, ⟨Try.func89, Try.call89⟩, ⟨Try.func121, Try.call121⟩, ⟨Try.func122, Try.call122⟩, trivial⟩
theorem mixed : Try.prog.follows .mixedOrders = true := by kernel_rfl
theorem Eok : Env.Ok Try.prog E := envEx_ok (xs := []) fnsOk trivial mixed
theorem known : MemoOK Try.prog ⟨16, [], .bool true⟩ := memo_ok (n := 80) Eok noSum_ok Try.call16 (by kernel_rfl) (by kernel_rfl)

/-! ### Tables, and what is said of them -/
def tL (Z : Nat → Int) : List AV := .int .u64 (Z 0) :: (((List.range 16).map fun i => .int .u64 (Z (i + 1))) ++ [.int .i64 (Z 17), .int .i64 (Z 18)])
def zAt (l : List AV) (k : Nat) : Int := match l[k]? with
  | some (.int _ z) => z
  | _ => 0
theorem z_key (Z : Nat → Int) {k : Nat} (h : k < 16) : (tL Z)[k + 1]? = some (.int .u64 (Z (k + 1))) := by
  show ((((List.range 16).map fun i => AV.int .u64 (Z (i + 1))) ++ [.int .i64 (Z 17), .int .i64 (Z 18)]))[k]? = _
  rw [List.getElem?_append_left (by simp; omega)]
  simp [h]
theorem z_at (Z : Nat → Int) {k : Nat} (h : k < 16) : zAt (tL Z) (k + 1) = Z (k + 1) := by
  unfold zAt; rw [z_key Z h]
def kindB (z : Int) : Bool := bif !ltF z (.ofNat 1) then !ltF (.ofNat 6) z else false
def allB (z : Int) : Bool := bif eqF z (.ofNat 5) then true else eqF z (.ofNat 6)
def whoB (z : Int) : Bool := bif !ltF z (.ofNat 0) then ltF z (.ofNat 16) else false
def anyN (l : List AV) : Nat → Bool
  | 0 => false
  | k + 1 => anyN l k || !eqF (zAt l (k + 1)) (.ofNat 0)
def cntN (l : List AV) : Nat → Nat
  | 0 => 0
  | k + 1 => bif eqF (zAt l (k + 1)) (.ofNat 0) then cntN l k else cntN l k + 1
def anyL (l : List AV) : Bool := anyN l 16
def cntL (l : List AV) : Nat := cntN l 16
theorem cnt_any (l : List AV) : ∀ k, ltF (.ofNat 0) (.ofNat (cntN l k)) = anyN l k
  | 0 => rfl
  | k + 1 => by
    have ih := cnt_any l k
    unfold cntN anyN
    cases h : eqF (zAt l (k + 1)) (.ofNat 0)
    · rw [cond_false, ltF_nn]; simp
    · rw [cond_true, ih]; simp
theorem cnt_le (l : List AV) : ∀ k, cntN l k ≤ k
  | 0 => Nat.le_refl 0
  | k + 1 => by
    have ih := cnt_le l k
    unfold cntN
    cases eqF (zAt l (k + 1)) (.ofNat 0) <;> simp only [cond_true, cond_false] <;> omega
def tyL (l : List AV) : Int := zAt l 17
def hoL (l : List AV) : Int := zAt l 18
def keyL (l : List AV) (h : Int) : Int := zAt l (h.toNat + 1)
def nzL (l : List AV) (h : Int) : Bool := !eqF (keyL l h) (.ofNat 0)
def mayL (l : List AV) : Bool :=
  bif eqF (tyL l) (.ofNat 0) then eqF (hoL l) (.ofNat 0) else bif !kindB (tyL l) then false else bif allB (tyL l) then (bif eqF (hoL l) (.ofNat 0) then anyL l else false) else bif whoB (hoL l) then nzL l (hoL l) else false
def holdsL (l : List AV) (n : Int) : Bool :=
  bif !mayL l then false else bif !whoB n then false else bif eqF (tyL l) (.ofNat 0) then false else bif allB (tyL l) then nzL l n else eqF (hoL l) n
def readsL (l : List AV) (n : Int) : Bool :=
  bif !mayL l then false else bif !whoB n then false else bif eqF (tyL l) (.ofNat 0) then true else bif eqF (tyL l) (.ofNat 1) then true else bif eqF (tyL l) (.ofNat 3) then true else bif eqF (tyL l) (.ofNat 5) then true else
    bif eqF (tyL l) (.ofNat 2) then holdsL l n else nzL l n
def writesL (l : List AV) (n : Int) : Bool :=
  bif !mayL l then false else bif !whoB n then false else bif eqF (tyL l) (.ofNat 0) then true else bif eqF (tyL l) (.ofNat 1) then holdsL l n else bif eqF (tyL l) (.ofNat 2) then holdsL l n else nzL l n
def alwL (l : List AV) (n kind : Int) : Bool :=
  bif !mayL l then false else bif eqF kind (.ofNat 1) then readsL l n else bif eqF kind (.ofNat 2) then writesL l n else bif eqF kind (.ofNat 4) then writesL l n else bif eqF kind (.ofNat 5) then writesL l n else bif eqF kind (.ofNat 3) then writesL l n else true
theorem ty_Z (Z : Nat → Int) : tyL (tL Z) = Z 17 := rfl
theorem ho_Z (Z : Nat → Int) : hoL (tL Z) = Z 18 := rfl
/-- is it of a table's form? -/
def okU : List AV → Nat → Bool
  | [.int .i64 _, .int .i64 _], 0 => true
  | .int .u64 _ :: l, k + 1 => okU l k
  | _, _ => false
def okT (l : List AV) : Bool := okU l 17
theorem okU_get : ∀ {l : List AV} {k : Nat}, okU l k = true → ∃ Z : Nat → Int, l = ((List.range k).map fun i => .int .u64 (Z i)) ++ [.int .i64 (Z k), .int .i64 (Z (k + 1))]
  | l, 0, h => by
    unfold okU at h
    split at h
    · rename_i a b _
      exact ⟨fun i => if i = 0 then a else b, by simp⟩
    · rename_i h0; simp at h0
    · cases h
  | l, k + 1, h => by
    unfold okU at h
    split at h
    · rename_i h0; simp at h0
    · rename_i z l' k' h0
      obtain rfl : k = k' := by simpa using h0
      obtain ⟨Z, e⟩ := okU_get h
      refine ⟨fun i => if i = 0 then z else Z (i - 1), ?_⟩
      rw [e, List.range_succ_eq_map]
      simp [Function.comp_def]
    · cases h
theorem okT_ok {l : List AV} (h : okT l = true) : ∃ Z, l = tL Z := by
  obtain ⟨Z, e⟩ := okU_get h
  exact ⟨Z, by rw [e]; rfl⟩
theorem view0 (st : ASt) : View [] st (mkSt [] 0) := ⟨rfl, fun j x hj => by
  have : (mkSt [] 0).h.get j = none := by show (T.e : T AO).get j = none; rw [T.get_e]
  rw [this] at hj; cases hj⟩
theorem ren_tL (Z : Nat → Int) : renVs [] (tL Z) = some (tL Z) := by kernel_rfl
noncomputable def stT (Z : Nat → Int) : ASt := mkSt [(0, .cells (tL Z) true)] 1
theorem idx40 {i o : Nat} {n : Int} (h : whoB n = true) (st : ASt) : still st (aIndexAddr E 40 (.ptr (some (i, o))) (.int .i64 n)) = some (.ptr (some (i, o + n.toNat * 1)), st) := by
  match n, h with
  | .ofNat k, h =>
    have hk : k < 16 := by
      unfold whoB at h
      cases h2 : ltF (.ofNat k) (.ofNat 16)
      · rw [h2] at h; cases h3 : (!ltF (.ofNat k) (.ofNat 0)) <;> rw [h3] at h <;> cases h
      · rw [ltF_nn] at h2; simpa using h2
    have e : aIndexAddr E 40 (.ptr (some (i, o))) (.int .i64 (.ofNat k)) = bif Nat.blt k 16 then some (.ptr (some (i, o + k * 1))) else none := by kernel_rfl
    rw [e, blt_t hk]; rfl
  | .negSucc k, h => cases h
theorem who_nat {n : Int} (h : whoB n = true) : n.toNat < 16 := by
  match n, h with
  | .ofNat k, h =>
    unfold whoB at h
    cases h2 : ltF (.ofNat k) (.ofNat 16)
    · rw [h2] at h; cases h3 : (!ltF (.ofNat k) (.ofNat 0)) <;> rw [h3] at h <;> cases h
    · rw [ltF_nn] at h2; simpa using h2
  | .negSucc k, h => cases h
theorem ce28 : cellT E 28 = true := by kernel_rfl
theorem ld_key (Z : Nat → Int) {n : Int} (h : n.toNat < 16) : aLoad E 28 (.ptr (some (0, 1 + n.toNat * 1))) (stT Z) = some (.int .u64 (keyL (tL Z) n), stT Z) := by
  refine load_at (rw := true) (cs := tL Z) ce28 (by kernel_rfl) ?_
  rw [Nat.mul_one, Nat.add_comm, z_key Z h]
  unfold keyL
  rw [z_at Z h]
end Go.Proofs.Ytlnohbilfogheaa.cri
end

section
open Go Go.Ax Go.Proofs.Ytlnohbilfogheaa
namespace Go.Proofs.Ytlnohbilfogheaa.cri
def B (b : Bool) : Exit × Option AV := (.ret, some (.bool b))
def Ok (v : AV) (q : Exit × Option AV) : Prop := (q.1 = .normal ∨ q.1 = .ret) ∧ q.2 = some v
theorem okB {a b : Bool} (h : a = b) : Ok (.bool b) (B a) := by subst h; exact ⟨.inr rfl, rfl⟩
noncomputable def cd (f : Func) : Code := Option.getD f.body .skip
noncomputable def anF (f : Func) (r : Exit × AFr × ASt) : Exit × Option AV := (r.1, ans (leaveA E f r.2.1 r.2.2))
noncomputable def fr (args : List AV) (n : Nat) : AFr := { m := putArgs args 0 .e, n := n, defs := [] }
noncomputable def st0 : ASt := mkSt [] 0
/-- a contract out of a run -/
theorem at_run {sm : CallT} (hs : CallsOK Try.prog sm) {f : Nat} {fn : Func} (hf : E.fn.get f = some fn) (hc : fn.body = some (cd fn)) {args : List AV} (hb : Nat.ble args.length fn.ntmps = true) {v : AV} {fls : List (Nat × Fl)} {fl : Fl} {y : An}
    (h : ((TM E sm fls fl0 80).ex fl none (cd fn) (fr args fn.ntmps) st0).allY (fun r => Ok v (anF fn r)) y) : AtMem Try.prog f args st0 v :=
  AtMem.of_trip Eok hf hc hb (Trip.runY Eok hs h)
theorem pure_ok {f : Nat} {args : List AV} {v : AV} (h : AtMem Try.prog f args st0 v) (hp : pureV v = true) (hr : renVs [] args = some args) {Bp : Prot} {w0 : World} {ι : Ren} {st : ASt} {w : World} (hsr : SR Bp w0 ι st w) {args' : Array Value} (hv : VRs ι args args') :
    (callFunc f args').run Try.prog w = .ok (.enter f args') w ∧ CallsIn Fence.wide 0 Try.prog f args' w (Post Bp w0 ι (v, st)) := local_ro h hp hsr (ids := []) (view0 st) hr hv
noncomputable def t83 (z : Int) : Tr (Exit × AFr × ASt) := (TM E noSum [] fl0 80).ex ⟨[], [], [5], []⟩ none (cd Try.f83) (fr [.int .i64 z] Try.f83.ntmps) st0
noncomputable def t84 (z : Int) : Tr (Exit × AFr × ASt) := (TM E noSum [] fl0 80).ex ⟨[], [], [5], []⟩ none (cd Try.f84) (fr [.int .i64 z] Try.f84.ntmps) st0
noncomputable def t86 (z : Int) : Tr (Exit × AFr × ASt) := (TM E noSum [] fl0 80).ex ⟨[], [], [5], []⟩ none (cd Try.f86) (fr [.int .i64 z] Try.f86.ntmps) st0
theorem vc83 (z : Int) (Q : Exit × Option AV → Prop) : ifB (!ltF z (.ofNat 1)) (Q (B (!ltF (.ofNat 6) z))) (Q (B false)) = (t83 z).allY (fun r => Q (anF Try.f83 r)) (.b .nil .nil) := by kernel_rfl
theorem vc84 (z : Int) (Q : Exit × Option AV → Prop) : ifB (eqF z (.ofNat 5)) (Q (B true)) (Q (B (eqF z (.ofNat 6)))) = (t84 z).allY (fun r => Q (anF Try.f84 r)) (.b .nil .nil) := by kernel_rfl
theorem vc86 (z : Int) (Q : Exit × Option AV → Prop) : ifB (!ltF z (.ofNat 0)) (Q (B (ltF z (.ofNat 16)))) (Q (B false)) = (t86 z).allY (fun r => Q (anF Try.f86 r)) (.b .nil .nil) := by kernel_rfl
theorem at83 (z : Int) : AtMem Try.prog 83 [.int .i64 z] st0 (.bool (kindB z)) :=
  at_run noSum_ok (fn := Try.f83) (by kernel_rfl) (by kernel_rfl) (by kernel_rfl) (Eq.mp (vc83 z (Ok (.bool (kindB z)))) (ifB_mk (fun h => okB (by unfold kindB; rw [h]; rfl)) (fun h => okB (by unfold kindB; rw [h]; rfl))))
theorem at84 (z : Int) : AtMem Try.prog 84 [.int .i64 z] st0 (.bool (allB z)) :=
  at_run noSum_ok (fn := Try.f84) (by kernel_rfl) (by kernel_rfl) (by kernel_rfl) (Eq.mp (vc84 z (Ok (.bool (allB z)))) (ifB_mk (fun h => okB (by unfold allB; rw [h]; rfl)) (fun h => okB (by unfold allB; rw [h]; rfl))))
theorem at86 (z : Int) : AtMem Try.prog 86 [.int .i64 z] st0 (.bool (whoB z)) :=
  at_run noSum_ok (fn := Try.f86) (by kernel_rfl) (by kernel_rfl) (by kernel_rfl) (Eq.mp (vc86 z (Ok (.bool (whoB z)))) (ifB_mk (fun h => okB (by unfold whoB; rw [h]; rfl)) (fun h => okB (by unfold whoB; rw [h]; rfl))))
/-- functions of a number, of a table, of a table and a number, as summaries -/
noncomputable def sumI (f : Nat) (g : Int → Bool) : CallT := fun f' args st => bif Nat.beq f f' then (match args with | [.int .i64 z] => some (.bool (g z), st) | _ => none) else none
noncomputable def sumT (f : Nat) (g : List AV → AV) : CallT := fun f' args st => bif Nat.beq f f' then (match args with | [.agg l] => bif okT l then some (g l, st) else none | _ => none) else none
noncomputable def sumTI (f : Nat) (g : List AV → Int → Bool) : CallT := fun f' args st => bif Nat.beq f f' then (match args with | [.agg l, .int .i64 n] => bif okT l then some (.bool (g l n), st) else none | _ => none) else none
theorem sumI_ok {f : Nat} {g : Int → Bool} (h : ∀ z, AtMem Try.prog f [.int .i64 z] st0 (.bool (g z))) : CallsOK Try.prog (sumI f g) := by
  intro Bp w0 f' args st r hr ι w args' hsr hv
  unfold sumI at hr
  cases hf : Nat.beq f f'
  · simp [hf] at hr
  simp only [hf, cond_true] at hr
  have := nbeq hf
  subst this
  split at hr
  · simp only [Option.some.injEq] at hr
    subst hr
    exact pure_ok (h _) rfl rfl hsr hv
  · cases hr
theorem sumT_ok {f : Nat} {g : List AV → AV} (hp : ∀ l, pureV (g l) = true) (h : ∀ Z, AtMem Try.prog f [.agg (tL Z)] st0 (g (tL Z))) : CallsOK Try.prog (sumT f g) := by
  intro Bp w0 f' args st r hr ι w args' hsr hv
  unfold sumT at hr
  cases hf : Nat.beq f f'
  · simp [hf] at hr
  simp only [hf, cond_true] at hr
  have := nbeq hf
  subst this
  split at hr
  · rename_i l
    cases ho : okT l
    · simp [ho] at hr
    simp only [ho, cond_true, Option.some.injEq] at hr
    subst hr
    obtain ⟨Z, rfl⟩ := okT_ok ho
    exact pure_ok (h Z) (hp _) (by simp [renVs, renV, ren_tL]) hsr hv
  · cases hr
theorem sumTI_ok {f : Nat} {g : List AV → Int → Bool} (h : ∀ Z n, AtMem Try.prog f [.agg (tL Z), .int .i64 n] st0 (.bool (g (tL Z) n))) : CallsOK Try.prog (sumTI f g) := by
  intro Bp w0 f' args st r hr ι w args' hsr hv
  unfold sumTI at hr
  cases hf : Nat.beq f f'
  · simp [hf] at hr
  simp only [hf, cond_true] at hr
  have := nbeq hf
  subst this
  split at hr
  · rename_i l n
    cases ho : okT l
    · simp [ho] at hr
    simp only [ho, cond_true, Option.some.injEq] at hr
    subst hr
    obtain ⟨Z, rfl⟩ := okT_ok ho
    exact pure_ok (h Z n) rfl (by simp [renVs, renV, ren_tL]) hsr hv
  · cases hr
noncomputable def s1 : CallT := orC (sumI 83 kindB) (orC (sumI 84 allB) (sumI 86 whoB))
theorem s1_ok : CallsOK Try.prog s1 := orC_ok (sumI_ok at83) (orC_ok (sumI_ok at84) (sumI_ok at86))
/-! ### anybody -/
def ksL (Z : Nat → Int) : List AV := (List.range 16).map fun k => .int .u64 (Z (k + 1))
def zeL : List AV := (List.range 16).map fun _ => .int .u64 (.ofNat 0)
def allZ (Z : Nat → Int) : Nat → Nat → Bool
  | 0, _ => true
  | n + 1, i => bif eqF (Z (i + 1)) (.ofNat 0) then allZ Z n (i + 1) else false
theorem eqLs_Z {e : TypeId} (Z : Nat → Int) : ∀ (n i : Nat), eqLs (fun _ x y => aEq0 (.int .u64) x y) e n ((List.range n).map fun k => AV.int .u64 (Z (k + i + 1))) ((List.range n).map fun _ => AV.int .u64 (.ofNat 0)) = some (allZ Z n i)
  | 0, i => by unfold eqLs; rfl
  | n + 1, i => by
    rw [List.range_succ_eq_map]
    simp only [List.map_cons, List.map_map, Function.comp_def]
    unfold eqLs
    have h0 : aEq0 (.int .u64) (.int .u64 (Z (0 + i + 1))) (.int .u64 (.ofNat 0)) = some (eqF (Z (i + 1)) (.ofNat 0)) := by rw [Nat.zero_add]; rfl
    simp only [h0]
    have ih := eqLs_Z (e := e) Z n (i + 1)
    have e1 : (fun k => AV.int .u64 (Z (k.succ + i + 1))) = fun k => AV.int .u64 (Z (k + (i + 1) + 1)) := by funext k; rw [show k.succ + i + 1 = k + (i + 1) + 1 by omega]
    rw [e1, ih]
    have e2 : allZ Z (n + 1) i = bif eqF (Z (i + 1)) (.ofNat 0) then allZ Z n (i + 1) else false := rfl
    rw [e2]
    cases eqF (Z (i + 1)) (.ofNat 0) <;> rfl
theorem allZ_iff (Z : Nat → Int) : ∀ (n i : Nat), allZ Z n i = true ↔ ∀ k, k < n → Z (k + i + 1) = 0
  | 0, i => by simp [allZ]
  | n + 1, i => by
    unfold allZ
    cases h : eqF (Z (i + 1)) (.ofNat 0)
    · have h2 := eqF_f h
      simp only [cond_false, Bool.false_eq_true, false_iff]
      intro hc
      exact h2 (by simpa using hc 0 (by omega))
    · have h2 := eqF_t h
      simp only [cond_true]
      rw [allZ_iff Z n (i + 1)]
      constructor
      · intro hc k hk
        cases k with
        | zero => simpa using h2
        | succ k => have := hc k (by omega); rwa [show k + (i + 1) + 1 = k + 1 + i + 1 by omega] at this
      · intro hc k hk
        have := hc (k + 1) (by omega)
        rwa [show k + 1 + i + 1 = k + (i + 1) + 1 by omega] at this
theorem anyN_iff (Z : Nat → Int) : ∀ n, n ≤ 16 → (anyN (tL Z) n = true ↔ ∃ k, k < n ∧ Z (k + 1) ≠ 0)
  | 0, _ => by simp [anyN]
  | n + 1, hn => by
    unfold anyN
    rw [Bool.or_eq_true, anyN_iff Z n (by omega), z_at Z (by omega)]
    constructor
    · rintro (⟨k, h1, h2⟩ | h)
      · exact ⟨k, by omega, h2⟩
      · exact ⟨n, by omega, neqF_t h⟩
    · rintro ⟨k, h1, h2⟩
      by_cases e : k = n
      · subst e
        refine .inr ?_
        cases h : eqF (Z (k + 1)) (.ofNat 0)
        · rfl
        · exact absurd (eqF_t h) h2
      · exact .inl ⟨k, by omega, h2⟩
theorem any_all (Z : Nat → Int) : (!allZ Z 16 0) = anyL (tL Z) := by
  have h1 := allZ_iff Z 16 0
  have h2 := anyN_iff Z 16 (by omega)
  unfold anyL
  cases ha : allZ Z 16 0
  · cases hb : anyN (tL Z) 16
    · exfalso
      have : allZ Z 16 0 = true := h1.2 fun k hk => Classical.byContradiction fun hc => by
        have := h2.2 ⟨k, hk, hc⟩
        rw [hb] at this; cases this
      rw [ha] at this; cases this
    · rfl
  · cases hb : anyN (tL Z) 16
    · rfl
    · obtain ⟨k, hk, hc⟩ := h2.1 hb
      exact absurd (h1.1 ha k hk) hc
noncomputable def t85 (Z : Nat → Int) (b : Bool) : Tr (Exit × AFr × ASt) := (TM E noSum [] fl0 80).ex ⟨[6], [], [], []⟩ none (cd Try.f85) (fr [.agg (tL Z)] Try.f85.ntmps) st0
theorem vc85 (Z : Nat → Int) (b : Bool) (Q : Exit × Option AV → Prop) :
  (still (stT Z) (aBin E .neq 40 (.tmp 4) (.tmp 5) (.agg (ksL Z)) (.agg zeL)) = some (.bool b, stT Z) ∧ Q (B b)) = (t85 Z b).allY (fun r => Q (anF Try.f85 r)) (.v (.bool b, stT Z) .nil) := by kernel_rfl
theorem bin40 (Z : Nat → Int) (x y : Operand) : aBin E .neq 40 x y (.agg (ksL Z)) (.agg zeL) = some (.bool (anyL (tL Z))) := by
  have e : aBin E .neq 40 x y (.agg (ksL Z)) (.agg zeL) = (match eqLs (fun _ x y => aEq0 (.int .u64) x y) 28 16 (ksL Z) zeL with | some r => some (.bool (!r)) | none => none) := by kernel_rfl
  have h := eqLs_Z (e := 28) Z 16 0
  rw [e, show eqLs (fun _ x y => aEq0 (.int .u64) x y) 28 16 (ksL Z) zeL = some (allZ Z 16 0) from h]
  show some (AV.bool (!allZ Z 16 0)) = _
  rw [any_all]
theorem at85 (Z : Nat → Int) : AtMem Try.prog 85 [.agg (tL Z)] st0 (.bool (anyL (tL Z))) :=
  at_run noSum_ok (fn := Try.f85) (by kernel_rfl) (by kernel_rfl) (by kernel_rfl) (Eq.mp (vc85 Z (anyL (tL Z)) (Ok (.bool (anyL (tL Z))))) ⟨still_of (bin40 Z _ _), okB rfl⟩)
noncomputable def s2 : CallT := orC s1 (sumT 85 fun l => .bool (anyL l))
theorem s2_ok : CallsOK Try.prog s2 := orC_ok s1_ok (sumT_ok (fun _ => rfl) at85)
end Go.Proofs.Ytlnohbilfogheaa.cri
end

section
open Go Go.Ax Go.Proofs.Ytlnohbilfogheaa
namespace Go.Proofs.Ytlnohbilfogheaa.cri
/-! ### many -/
noncomputable def c88 : Code := cd Try.f88
noncomputable def r88 : Code := seqL (seqL (dropC 1 c88))
noncomputable def B88 : Code := lopB (blkB (seqR (seqL (dropC 1 c88))))
noncomputable def f88 (x : List (Nat × AV)) : AFr := xFr ([(1, .ptr (some (0, 0)))] ++ x) 17
def nI (n : Nat) : AV := .int .i64 (.ofNat n)
noncomputable def t88a (Z : Nat → Int) : Tr (Exit × AFr × ASt) := (TM E noSum [] fl0 80).ex fl0 none (preC 1 c88) (fr [.agg (tL Z)] 17) st0
noncomputable def t88b (Z : Nat → Int) : Tr (Exit × AFr × ASt) := (TM E noSum [] fl0 80).ex fl0 none r88 (f88 [(3, nI 0)]) (stT Z)
noncomputable def t88c (Z : Nat → Int) (n i : Nat) : Tr (Exit × AFr × ASt) := (TM E noSum [] fl0 80).ex ⟨[11, 12], [], [6, 13], []⟩ none B88 (f88 [(3, nI n), (4, nI i)]) (stT Z)
noncomputable def t88d (Z : Nat → Int) (n i : Nat) : Tr (Exit × AFr × ASt) := (TM E noSum [] fl0 80).ex fl0 none (dropC 2 c88) (f88 [(3, nI n), (4, nI i)]) (stT Z)
theorem vc88a (Z : Nat → Int) (Q : Exit × AFr × ASt → Prop) : Q (.normal, f88 [(3, nI 0)], stT Z) = (t88a Z).allY (fun r => Q (canR [1, 3] [0] r)) .nil := by kernel_rfl
theorem vc88b (Z : Nat → Int) (Q : Exit × AFr × ASt → Prop) : Q (.normal, f88 [(3, nI 0), (4, nI 0)], stT Z) = (t88b Z).allY (fun r => Q (canR [1, 3, 4] [0] r)) .nil := by kernel_rfl
theorem vc88c (Z : Nat → Int) (n i : Nat) (Q : Exit × AFr × ASt → Prop) :
  ifB (ltF (.ofNat i) (.ofNat 16)) (still (stT Z) (aIndexAddr E 40 (.ptr (some (0, 1))) (nI i)) = some (.ptr (some (0, 1 + (Int.ofNat i).toNat * 1)), stT Z) ∧ aLoad E 28 (.ptr (some (0, 1 + (Int.ofNat i).toNat * 1))) (stT Z) = some (.int .u64 (keyL (tL Z) (.ofNat i)), stT Z) ∧
    ifB (!eqF (keyL (tL Z) (.ofNat i)) (.ofNat 0)) (Q (.normal, f88 [(3, .int .i64 (wrapF .i64 (.ofNat n + .ofNat 1))), (4, .int .i64 (wrapF .i64 (.ofNat i + .ofNat 1)))], stT Z)) (Q (.normal, f88 [(3, nI n), (4, .int .i64 (wrapF .i64 (.ofNat i + .ofNat 1)))], stT Z)))
    (Q (.exit 0, f88 [(3, nI n), (4, nI i)], stT Z)) =
  (t88c Z n i).allY (fun r => Q (canR [1, 3, 4] [0] r)) (.b (.v (.ptr (some (0, 1 + (Int.ofNat i).toNat * 1)), stT Z) (.v (.int .u64 (keyL (tL Z) (.ofNat i)), stT Z) (.b .nil .nil))) .nil) := by kernel_rfl
theorem vc88d (Z : Nat → Int) (n i : Nat) (Q : Exit × Option AV → Prop) : Q (.ret, some (nI n)) = (t88d Z n i).allY (fun r => Q (anF Try.f88 r)) .nil := by kernel_rfl
theorem c88a : dropC 1 c88 = .seq (.seq r88 (.block 0 (.loop B88))) (dropC 2 c88) := by kernel_rfl
theorem who_of {i : Nat} (h : i < 16) : whoB (.ofNat i) = true := by
  unfold whoB
  have h1 : ltF (.ofNat i) (.ofNat 0) = false := by rw [ltF_nn]; simp
  have h2 : ltF (.ofNat i) (.ofNat 16) = true := by rw [ltF_nn]; simp [h]
  rw [h1, h2]; rfl
theorem at88 (Z : Nat → Int) : AtMem Try.prog 88 [.agg (tL Z)] st0 (nI (cntL (tL Z))) := by
  refine AtMem.of_trip Eok (fn := Try.f88) (by kernel_rfl) (c := c88) (by kernel_rfl) (by kernel_rfl) ?_
  have e : ({ m := putArgs [.agg (tL Z)] 0 .e, n := Try.f88.ntmps, defs := [] } : AFr) = fr [.agg (tL Z)] 17 := by kernel_rfl
  have e2 : st0.next = 0 := rfl
  rw [e, e2]
  refine Trip.preY Eok noSum_ok (k := 1) (by kernel_rfl) (Q1 := fun r => r = (.normal, f88 [(3, nI 0)], stT Z)) (Eq.mp (vc88a Z fun r => r = (.normal, f88 [(3, nI 0)], stT Z)) rfl) (fun F S hq => ?_) (fun r hne hq => absurd (congrArg (·.1) hq) hne)
  cases hq
  rw [c88a]
  refine Trip.seq (R := fun r => ∃ i, Stops 0 .normal (f88 [(3, nI (cntL (tL Z))), (4, nI i)]) (stT Z) r) ?_ (fun fr' st' hq => ?_) (fun e fr' st' hne hq => ?_)
  · refine Trip.seq (R := Stops 0 .normal (f88 [(3, nI 0), (4, nI 0)]) (stT Z)) ((Trip.runY Eok noSum_ok (Eq.mp (vc88b Z (Stops 0 .normal (f88 [(3, nI 0), (4, nI 0)]) (stT Z))) ⟨rfl, Wk.refl _ _ _⟩)).mono fun r hr => hr.can) (fun fr' st' hq => Trip.less hq.2 ?_) (fun e fr' st' hne hq => absurd hq.1 hne)
    refine Trip.block (Trip.loop (fun m fr st => ∃ i, i ≤ 16 ∧ m = 16 - i ∧ fr = f88 [(3, nI (cntN (tL Z) i)), (4, nI i)] ∧ st = stT Z) ?_ 16 ⟨0, by omega, by omega, rfl, rfl⟩)
    rintro m fr st ⟨i, hi, rfl, rfl, rfl⟩
    have hle := cnt_le (tL Z) i
    have hw := wrap_succ (i := i) (by omega)
    have hw2 := wrap_succ (i := cntN (tL Z) i) (by omega)
    refine (Trip.runY Eok noSum_ok (Eq.mp (vc88c Z (cntN (tL Z) i) i (fun r => (i < 16 ∧ Stops 0 .normal (f88 [(3, nI (cntN (tL Z) (i + 1))), (4, nI (i + 1))]) (stT Z) r) ∨ (i = 16 ∧ Stops 0 (.exit 0) (f88 [(3, nI (cntN (tL Z) i)), (4, nI i)]) (stT Z) r))) ?_)).mono ?_
    · rw [ltF_nn, hw, hw2]
      refine ifB_mk (fun h => ?_) (fun h => .inr ⟨by simp at h; omega, rfl, Wk.refl _ _ _⟩)
      have hlt : i < 16 := by simpa using h
      have hkey : keyL (tL Z) (.ofNat i) = zAt (tL Z) (i + 1) := rfl
      refine ⟨idx40 (who_of hlt) _, ld_key Z hlt, ifB_mk (fun h => .inl ⟨hlt, rfl, ?_⟩) (fun h => .inl ⟨hlt, rfl, ?_⟩)⟩
      · have : cntN (tL Z) (i + 1) = cntN (tL Z) i + 1 := by
          have hf : eqF (zAt (tL Z) (i + 1)) (.ofNat 0) = false := by rw [← hkey]; simpa using h
          show (bif eqF (zAt (tL Z) (i + 1)) (.ofNat 0) then _ else _) = _
          rw [hf]; rfl
        rw [this]; exact Wk.refl _ _ _
      · have : cntN (tL Z) (i + 1) = cntN (tL Z) i := by
          have hf : eqF (zAt (tL Z) (i + 1)) (.ofNat 0) = true := by rw [← hkey]; simpa using h
          show (bif eqF (zAt (tL Z) (i + 1)) (.ofNat 0) then _ else _) = _
          rw [hf]; rfl
        rw [this]; exact Wk.refl _ _ _
    · rintro ⟨e, fr', st'⟩ (⟨q1, q2⟩ | ⟨q1, q2⟩)
      · obtain ⟨g3, g4⟩ := q2.can
        simp only at g3 g4
        subst g3
        exact ⟨16 - (i + 1), _, _, by omega, g4, i + 1, by omega, rfl, rfl, rfl⟩
      · obtain ⟨g3, g4⟩ := q2.can
        simp only at g3 g4
        subst g3
        subst q1
        exact ⟨fun _ => ⟨16, rfl, g4⟩, fun h => absurd rfl h⟩
  · obtain ⟨i, _, hw⟩ := hq
    exact Trip.less hw (Trip.runY Eok noSum_ok (Eq.mp (vc88d Z _ i (Ok (nI (cntL (tL Z))))) ⟨.inr rfl, rfl⟩))
  · obtain ⟨i, h1, hw⟩ := hq
    exact absurd h1 hne
/-! ### May, Holds, Reads, Writes -/
noncomputable def nzV (Z : Nat → Int) (n : Int) : An := .v (.ptr (some (0, 1 + n.toNat * 1)), stT Z) (.v (.int .u64 (keyL (tL Z) n), stT Z) .nil)
end Go.Proofs.Ytlnohbilfogheaa.cri
end

section
open Go Go.Ax Go.Proofs.Ytlnohbilfogheaa
namespace Go.Proofs.Ytlnohbilfogheaa.cri
noncomputable def s3 : CallT := orC s2 (sumT 88 fun l => nI (cntL l))
theorem s3_ok : CallsOK Try.prog s3 := orC_ok s2_ok (sumT_ok (fun _ => rfl) at88)
def ixQ (Z : Nat → Int) (n : Int) (Q : Prop) : Prop :=
  still (stT Z) (aIndexAddr E 40 (.ptr (some (0, 1))) (.int .i64 n)) = some (.ptr (some (0, 1 + n.toNat * 1)), stT Z) ∧ aLoad E 28 (.ptr (some (0, 1 + n.toNat * 1))) (stT Z) = some (.int .u64 (keyL (tL Z) n), stT Z) ∧ Q
theorem ixQ_mk {Z : Nat → Int} {n : Int} {Q : Prop} (h : whoB n = true) (q : Q) : ixQ Z n Q := ⟨idx40 h _, ld_key Z (who_nat h), q⟩
noncomputable def t50 (Z : Nat → Int) : Tr (Exit × AFr × ASt) := (TM E s3 [] fl0 80).ex ⟨[33, 34], [], [6, 14, 18, 22, 29], []⟩ none (cd Try.f50) (fr [.agg (tL Z)] Try.f50.ntmps) st0
theorem vc50 (Z : Nat → Int) (Q : Exit × Option AV → Prop) :
  ifB (eqF (Z 17) (.ofNat 0)) (Q (B (eqF (Z 18) (.ofNat 0)))) (ifB (!kindB (Z 17)) (Q (B false)) (ifB (allB (Z 17)) (ifB (eqF (Z 18) (.ofNat 0)) (Q (B (anyL (tL Z)))) (Q (B false))) (ifB (whoB (Z 18)) (ixQ Z (Z 18) (Q (B (nzL (tL Z) (Z 18))))) (Q (B false))))) =
  (t50 Z).allY (fun r => Q (anF Try.f50 r)) (.b .nil (.b .nil (.b (.b .nil .nil) (.b (nzV Z (Z 18)) .nil)))) := by kernel_rfl
theorem at50 (Z : Nat → Int) : AtMem Try.prog 50 [.agg (tL Z)] st0 (.bool (mayL (tL Z))) := by
  refine at_run s3_ok (fn := Try.f50) (by kernel_rfl) (by kernel_rfl) (by kernel_rfl) (Eq.mp (vc50 Z (Ok (.bool (mayL (tL Z))))) ?_)
  have hd : mayL (tL Z) = bif eqF (Z 17) (.ofNat 0) then eqF (Z 18) (.ofNat 0) else bif !kindB (Z 17) then false else bif allB (Z 17) then (bif eqF (Z 18) (.ofNat 0) then anyL (tL Z) else false) else bif whoB (Z 18) then nzL (tL Z) (Z 18) else false := rfl
  rw [hd]
  refine ifB_mk (fun h => okB (by rw [h]; rfl)) (fun h1 => ifB_mk (fun h => okB (by rw [h1, h]; rfl)) (fun h2 => ifB_mk (fun h3 => ifB_mk (fun h => okB (by rw [h1, h2, h3, h]; rfl)) (fun h => okB (by rw [h1, h2, h3, h]; rfl))) (fun h3 => ifB_mk (fun h => ixQ_mk h (okB (by rw [h1, h2, h3, h]; rfl))) (fun h => okB (by rw [h1, h2, h3, h]; rfl)))))
noncomputable def t54 (Z : Nat → Int) : Tr (Exit × AFr × ASt) := (TM E s3 [] fl0 80).ex ⟨[44, 45], [], [6, 10, 15, 20, 25, 32, 35], []⟩ none (cd Try.f54) (fr [.agg (tL Z)] Try.f54.ntmps) st0
theorem vc54 (Z : Nat → Int) (Q : Exit × Option AV → Prop) :
  ifB (ltF (Z 17) (.ofNat 0)) (Q (B false)) (ifB (ltF (.ofNat 6) (Z 17)) (Q (B false)) (ifB (ltF (Z 18) (.ofNat 0)) (Q (B false)) (ifB (ltF (.ofNat 15) (Z 18)) (Q (B false)) (ifB (eqF (Z 17) (.ofNat 0)) (Q (B (eqF (Z 18) (.ofNat 0))))
    (ifB (!ltF (Z 17) (.ofNat 5)) (ifB (eqF (Z 18) (.ofNat 0)) (Q (B (ltF (.ofNat 0) (.ofNat (cntL (tL Z)))))) (Q (B false))) (ixQ Z (Z 18) (Q (B (nzL (tL Z) (Z 18)))))))))) =
  (t54 Z).allY (fun r => Q (anF Try.f54 r)) (.b .nil (.b .nil (.b .nil (.b .nil (.b .nil (.b (.b .nil .nil) (nzV Z (Z 18)))))))) := by kernel_rfl
theorem b_eq (z : Int) (n : Nat) : eqF z (.ofNat n) = decide (z = n) := by rw [eqF_eq]; rfl
theorem b_lt (z : Int) (n : Nat) : ltF z (.ofNat n) = decide (z < n) := by rw [ltF_eq]; rfl
theorem b_gt (z : Int) (n : Nat) : ltF (.ofNat n) z = decide ((n : Int) < z) := by rw [ltF_eq]; rfl
theorem at54 (Z : Nat → Int) : AtMem Try.prog 54 [.agg (tL Z)] st0 (.bool (mayL (tL Z))) := by
  refine at_run s3_ok (fn := Try.f54) (by kernel_rfl) (by kernel_rfl) (by kernel_rfl) (Eq.mp (vc54 Z (Ok (.bool (mayL (tL Z))))) ?_)
  have hc : ltF (.ofNat 0) (.ofNat (cntL (tL Z))) = anyL (tL Z) := cnt_any (tL Z) 16
  have hd : mayL (tL Z) = bif eqF (Z 17) (.ofNat 0) then eqF (Z 18) (.ofNat 0) else bif !kindB (Z 17) then false else bif allB (Z 17) then (bif eqF (Z 18) (.ofNat 0) then anyL (tL Z) else false) else bif whoB (Z 18) then nzL (tL Z) (Z 18) else false := rfl
  have hk : kindB (Z 17) = (decide (1 ≤ Z 17) && decide (Z 17 ≤ 6)) := by
    unfold kindB; rw [b_lt, b_gt]
    by_cases h1 : Z 17 < 1 <;> by_cases h2 : (6 : Int) < Z 17 <;> simp [h1, h2] <;> omega
  have ha : allB (Z 17) = decide (Z 17 = 5 ∨ Z 17 = 6) := by
    unfold allB; rw [b_eq, b_eq]
    by_cases h1 : Z 17 = 5 <;> by_cases h2 : Z 17 = 6 <;> simp [h1, h2]
  have hw : whoB (Z 18) = (decide (0 ≤ Z 18) && decide (Z 18 < 16)) := by
    unfold whoB; rw [b_lt, b_lt]
    by_cases h1 : Z 18 < 0 <;> by_cases h2 : Z 18 < 16 <;> simp [h1, h2] <;> omega
  rw [hd, hc, b_eq, b_eq, b_lt, b_gt, b_lt, b_gt, b_lt, hk, ha, hw]
  refine ifB_mk (fun h => okB ?_) (fun h1 => ifB_mk (fun h => okB ?_) (fun h2 => ifB_mk (fun h => okB ?_) (fun h3 => ifB_mk (fun h => okB ?_) (fun h4 => ifB_mk (fun h => okB ?_) (fun h5 => ifB_mk (fun h6 => ifB_mk (fun h => okB ?_) (fun h => okB ?_)) (fun h6 => ?_))))))
  all_goals try have h := of_decide_eq_true h
  all_goals try have h1 := of_decide_eq_false h1
  all_goals try have h2 := of_decide_eq_false h2
  all_goals try have h3 := of_decide_eq_false h3
  all_goals try have h4 := of_decide_eq_false h4
  all_goals try have h5 := of_decide_eq_false h5
  · rw [decide_eq_false (p := Z 17 = ((0 : Nat) : Int)) (by omega), decide_eq_false (p := 1 ≤ Z 17) (by omega)]; rfl
  · rw [decide_eq_false (p := Z 17 = ((0 : Nat) : Int)) (by omega), decide_eq_false (p := Z 17 ≤ 6) (by omega)]; cases decide (1 ≤ Z 17) <;> rfl
  · rw [decide_eq_false (p := Z 18 = ((0 : Nat) : Int)) (by omega), decide_eq_false (p := 0 ≤ Z 18) (by omega)]
    cases decide (Z 17 = ((0 : Nat) : Int)) <;> cases decide (1 ≤ Z 17) <;> cases decide (Z 17 ≤ 6) <;> cases decide (Z 17 = 5 ∨ Z 17 = 6) <;> rfl
  · rw [decide_eq_false (p := Z 18 = ((0 : Nat) : Int)) (by omega), decide_eq_false (p := Z 18 < 16) (by omega)]
    cases decide (Z 17 = ((0 : Nat) : Int)) <;> cases decide (1 ≤ Z 17) <;> cases decide (Z 17 ≤ 6) <;> cases decide (Z 17 = 5 ∨ Z 17 = 6) <;> cases decide (0 ≤ Z 18) <;> rfl
  · rw [decide_eq_true (p := Z 17 = ((0 : Nat) : Int)) (by omega)]; rfl
  · have h6 := of_decide_eq_false (by simpa using h6 : decide (Z 17 < ((5 : Nat) : Int)) = false)
    rw [decide_eq_false (p := Z 17 = ((0 : Nat) : Int)) (by omega), decide_eq_true (p := 1 ≤ Z 17) (by omega), decide_eq_true (p := Z 17 ≤ 6) (by omega), decide_eq_true (p := Z 17 = 5 ∨ Z 17 = 6) (by omega), decide_eq_true (p := Z 18 = ((0 : Nat) : Int)) h]; rfl
  · have h6 := of_decide_eq_false (by simpa using h6 : decide (Z 17 < ((5 : Nat) : Int)) = false)
    have h := of_decide_eq_false h
    rw [decide_eq_false (p := Z 17 = ((0 : Nat) : Int)) (by omega), decide_eq_true (p := 1 ≤ Z 17) (by omega), decide_eq_true (p := Z 17 ≤ 6) (by omega), decide_eq_true (p := Z 17 = 5 ∨ Z 17 = 6) (by omega), decide_eq_false (p := Z 18 = ((0 : Nat) : Int)) h]; rfl
  · have h6 := of_decide_eq_true (by simpa using h6 : decide (Z 17 < ((5 : Nat) : Int)) = true)
    have hwt : whoB (Z 18) = true := by rw [hw, decide_eq_true (p := 0 ≤ Z 18) (by omega), decide_eq_true (p := Z 18 < 16) (by omega)]; rfl
    refine ixQ_mk hwt (okB ?_)
    rw [decide_eq_false (p := Z 17 = ((0 : Nat) : Int)) (by omega), decide_eq_true (p := 1 ≤ Z 17) (by omega), decide_eq_true (p := Z 17 ≤ 6) (by omega), decide_eq_false (p := Z 17 = 5 ∨ Z 17 = 6) (by omega), decide_eq_true (p := 0 ≤ Z 18) (by omega), decide_eq_true (p := Z 18 < 16) (by omega)]; rfl
noncomputable def s4 : CallT := orC s3 (orC (sumT 50 fun l => .bool (mayL l)) (sumT 54 fun l => .bool (mayL l)))
theorem s4_ok : CallsOK Try.prog s4 := orC_ok s3_ok (orC_ok (sumT_ok (fun _ => rfl) at50) (sumT_ok (fun _ => rfl) at54))
noncomputable def t87 (Z : Nat → Int) (n : Int) : Tr (Exit × AFr × ASt) := (TM E s4 [] fl0 80).ex ⟨[23, 24], [], [8, 11, 16, 20], []⟩ none (cd Try.f87) (fr [.agg (tL Z), .int .i64 n] Try.f87.ntmps) st0
theorem vc87 (Z : Nat → Int) (n : Int) (Q : Exit × Option AV → Prop) :
  ifB (!mayL (tL Z)) (Q (B false)) (ifB (!whoB n) (Q (B false)) (ifB (eqF (Z 17) (.ofNat 0)) (Q (B false)) (ifB (allB (Z 17)) (ixQ Z n (Q (B (nzL (tL Z) n)))) (Q (B (eqF (Z 18) n)))))) =
  (t87 Z n).allY (fun r => Q (anF Try.f87 r)) (.b .nil (.b .nil (.b .nil (.b (nzV Z n) .nil)))) := by kernel_rfl
theorem who_n {n : Int} (h : (!whoB n) = false) : whoB n = true := by simpa using h
theorem at87 (Z : Nat → Int) (n : Int) : AtMem Try.prog 87 [.agg (tL Z), .int .i64 n] st0 (.bool (holdsL (tL Z) n)) := by
  refine at_run s4_ok (fn := Try.f87) (by kernel_rfl) (by kernel_rfl) (by kernel_rfl) (Eq.mp (vc87 Z n (Ok (.bool (holdsL (tL Z) n)))) ?_)
  have hd : holdsL (tL Z) n = bif !mayL (tL Z) then false else bif !whoB n then false else bif eqF (Z 17) (.ofNat 0) then false else bif allB (Z 17) then nzL (tL Z) n else eqF (Z 18) n := rfl
  rw [hd]
  exact ifB_mk (fun h => okB (by rw [h]; rfl)) (fun h1 => ifB_mk (fun h => okB (by rw [h1, h]; rfl)) (fun h2 => ifB_mk (fun h => okB (by rw [h1, h2, h]; rfl)) (fun h3 => ifB_mk (fun h => ixQ_mk (who_n h2) (okB (by rw [h1, h2, h3, h]; rfl))) (fun h => okB (by rw [h1, h2, h3, h]; rfl)))))
noncomputable def s5 : CallT := orC s4 (sumTI 87 holdsL)
theorem s5_ok : CallsOK Try.prog s5 := orC_ok s4_ok (sumTI_ok at87)
noncomputable def t51 (Z : Nat → Int) (n : Int) : Tr (Exit × AFr × ASt) := (TM E s5 [] fl0 80).ex ⟨[27, 28], [], [8, 11, 16, 17, 18, 19, 21], []⟩ none (cd Try.f51) (fr [.agg (tL Z), .int .i64 n] Try.f51.ntmps) st0
theorem vc51 (Z : Nat → Int) (n : Int) (Q : Exit × Option AV → Prop) :
  ifB (!mayL (tL Z)) (Q (B false)) (ifB (!whoB n) (Q (B false)) (ifB (eqF (Z 17) (.ofNat 0)) (Q (B true)) (ifB (eqF (Z 17) (.ofNat 1)) (Q (B true)) (ifB (eqF (Z 17) (.ofNat 3)) (Q (B true)) (ifB (eqF (Z 17) (.ofNat 5)) (Q (B true)) (ifB (eqF (Z 17) (.ofNat 2)) (Q (B (holdsL (tL Z) n))) (ixQ Z n (Q (B (nzL (tL Z) n)))))))))) =
  (t51 Z n).allY (fun r => Q (anF Try.f51 r)) (.b .nil (.b .nil (.b .nil (.b .nil (.b .nil (.b .nil (.b .nil (nzV Z n)))))))) := by kernel_rfl
theorem at51 (Z : Nat → Int) (n : Int) : AtMem Try.prog 51 [.agg (tL Z), .int .i64 n] st0 (.bool (readsL (tL Z) n)) := by
  refine at_run s5_ok (fn := Try.f51) (by kernel_rfl) (by kernel_rfl) (by kernel_rfl) (Eq.mp (vc51 Z n (Ok (.bool (readsL (tL Z) n)))) ?_)
  have hd : readsL (tL Z) n = bif !mayL (tL Z) then false else bif !whoB n then false else bif eqF (Z 17) (.ofNat 0) then true else bif eqF (Z 17) (.ofNat 1) then true else bif eqF (Z 17) (.ofNat 3) then true else bif eqF (Z 17) (.ofNat 5) then true else
    bif eqF (Z 17) (.ofNat 2) then holdsL (tL Z) n else nzL (tL Z) n := rfl
  rw [hd]
  exact ifB_mk (fun h => okB (by rw [h]; rfl)) (fun h1 => ifB_mk (fun h => okB (by rw [h1, h]; rfl)) (fun h2 => ifB_mk (fun h => okB (by rw [h1, h2, h]; rfl)) (fun h3 => ifB_mk (fun h => okB (by rw [h1, h2, h3, h]; rfl)) (fun h4 => ifB_mk (fun h => okB (by rw [h1, h2, h3, h4, h]; rfl)) (fun h5 =>
    ifB_mk (fun h => okB (by rw [h1, h2, h3, h4, h5, h]; rfl)) (fun h6 => ifB_mk (fun h => okB (by rw [h1, h2, h3, h4, h5, h6, h]; rfl)) (fun h => ixQ_mk (who_n h2) (okB (by rw [h1, h2, h3, h4, h5, h6, h]; rfl)))))))))
noncomputable def t53 (Z : Nat → Int) (n : Int) : Tr (Exit × AFr × ASt) := (TM E s5 [] fl0 80).ex ⟨[25, 26], [], [8, 11, 16, 18, 19], []⟩ none (cd Try.f53) (fr [.agg (tL Z), .int .i64 n] Try.f53.ntmps) st0
theorem vc53 (Z : Nat → Int) (n : Int) (Q : Exit × Option AV → Prop) :
  ifB (!mayL (tL Z)) (Q (B false)) (ifB (!whoB n) (Q (B false)) (ifB (eqF (Z 17) (.ofNat 0)) (Q (B true)) (ifB (eqF (Z 17) (.ofNat 1)) (Q (B (holdsL (tL Z) n))) (ifB (eqF (Z 17) (.ofNat 2)) (Q (B (holdsL (tL Z) n))) (ixQ Z n (Q (B (nzL (tL Z) n)))))))) =
  (t53 Z n).allY (fun r => Q (anF Try.f53 r)) (.b .nil (.b .nil (.b .nil (.b .nil (.b .nil (nzV Z n)))))) := by kernel_rfl
theorem at53 (Z : Nat → Int) (n : Int) : AtMem Try.prog 53 [.agg (tL Z), .int .i64 n] st0 (.bool (writesL (tL Z) n)) := by
  refine at_run s5_ok (fn := Try.f53) (by kernel_rfl) (by kernel_rfl) (by kernel_rfl) (Eq.mp (vc53 Z n (Ok (.bool (writesL (tL Z) n)))) ?_)
  have hd : writesL (tL Z) n = bif !mayL (tL Z) then false else bif !whoB n then false else bif eqF (Z 17) (.ofNat 0) then true else bif eqF (Z 17) (.ofNat 1) then holdsL (tL Z) n else bif eqF (Z 17) (.ofNat 2) then holdsL (tL Z) n else nzL (tL Z) n := rfl
  rw [hd]
  exact ifB_mk (fun h => okB (by rw [h]; rfl)) (fun h1 => ifB_mk (fun h => okB (by rw [h1, h]; rfl)) (fun h2 => ifB_mk (fun h => okB (by rw [h1, h2, h]; rfl)) (fun h3 => ifB_mk (fun h => okB (by rw [h1, h2, h3, h]; rfl)) (fun h4 => ifB_mk (fun h => okB (by rw [h1, h2, h3, h4, h]; rfl)) (fun h => ixQ_mk (who_n h2) (okB (by rw [h1, h2, h3, h4, h]; rfl)))))))
noncomputable def s6 : CallT := orC s5 (orC (sumTI 51 readsL) (sumTI 53 writesL))
theorem s6_ok : CallsOK Try.prog s6 := orC_ok s5_ok (orC_ok (sumTI_ok at51) (sumTI_ok at53))
end Go.Proofs.Ytlnohbilfogheaa.cri
end

section
open Go Go.Ax Go.Proofs.Ytlnohbilfogheaa
namespace Go.Proofs.Ytlnohbilfogheaa.cri
noncomputable def z58 : List AV := match E.ty.get 58 with
  | some ti => (match ti.zero with | some (.agg l) => l.drop 4 | _ => [])
  | none => []
noncomputable def cmL (who kind blk : Int) : List AV := .int .u64 (.ofNat 0) :: .int .i64 who :: .int .i64 kind :: .int .i64 blk :: z58
noncomputable def t20 (Z : Nat → Int) (who kind blk : Int) : Tr (Exit × AFr × ASt) := (TM E s6 [(52, ⟨[], [], [5, 9, 14], []⟩)] fl0 80).ex ⟨[], [19], [8, 12, 23], []⟩ none (cd Try.f20) (fr [.agg (cmL who kind blk), .agg (tL Z)] Try.f20.ntmps) st0
theorem vc20 (Z : Nat → Int) (who kind blk : Int) (Q : Exit × Option AV → Prop) :
  ifB (!mayL (tL Z)) (Q (B false)) (ifB (eqF kind (.ofNat 1)) (Q (B (readsL (tL Z) who))) (ifB (eqF kind (.ofNat 2)) (Q (B (writesL (tL Z) who))) (ifB (eqF kind (.ofNat 4)) (Q (B (writesL (tL Z) who))) (ifB (eqF kind (.ofNat 5)) (Q (B (writesL (tL Z) who))) (ifB (eqF kind (.ofNat 3)) (Q (B (writesL (tL Z) who))) (Q (B true))))))) =
  (t20 Z who kind blk).allY (fun r => Q (anF Try.f20 r)) (.b .nil (.b .nil (.b .nil (.b .nil (.b .nil (.b .nil .nil)))))) := by kernel_rfl
theorem at20 (Z : Nat → Int) (who kind blk : Int) : AtMem Try.prog 20 [.agg (cmL who kind blk), .agg (tL Z)] st0 (.bool (alwL (tL Z) who kind)) := by
  refine at_run s6_ok (fn := Try.f20) (by kernel_rfl) (by kernel_rfl) (by kernel_rfl) (Eq.mp (vc20 Z who kind blk (Ok (.bool (alwL (tL Z) who kind)))) ?_)
  unfold alwL
  exact ifB_mk (fun h => okB (by rw [h]; rfl)) (fun h1 => ifB_mk (fun h => okB (by rw [h1, h]; rfl)) (fun h2 => ifB_mk (fun h => okB (by rw [h1, h2, h]; rfl)) (fun h3 => ifB_mk (fun h => okB (by rw [h1, h2, h3, h]; rfl)) (fun h4 => ifB_mk (fun h => okB (by rw [h1, h2, h3, h4, h]; rfl)) (fun h5 =>
    ifB_mk (fun h => okB (by rw [h1, h2, h3, h4, h5, h]; rfl)) (fun h => okB (by rw [h1, h2, h3, h4, h5, h]; rfl)))))))
noncomputable def t21 (Z : Nat → Int) (who blk : Int) : Tr (Exit × AFr × ASt) := (TM E s6 [] fl0 80).ex ⟨[], [], [7], []⟩ none (cd Try.f21) (fr [.agg (cmL who (.ofNat 6) blk), .agg (tL Z)] Try.f21.ntmps) st0
theorem vc21 (Z : Nat → Int) (who blk : Int) (Q : Exit × Option AV → Prop) : ifB (!mayL (tL Z)) (Q (B false)) (Q (B true)) = (t21 Z who blk).allY (fun r => Q (anF Try.f21 r)) (.b .nil .nil) := by kernel_rfl
theorem at21 (Z : Nat → Int) (who blk : Int) : AtMem Try.prog 21 [.agg (cmL who (.ofNat 6) blk), .agg (tL Z)] st0 (.bool (mayL (tL Z))) := by
  refine at_run s6_ok (fn := Try.f21) (by kernel_rfl) (by kernel_rfl) (by kernel_rfl) (Eq.mp (vc21 Z who blk (Ok (.bool (mayL (tL Z))))) ?_)
  exact ifB_mk (fun h => okB (by cases hm : mayL (tL Z) <;> rw [hm] at h <;> first | rfl | cases h)) (fun h => okB (by cases hm : mayL (tL Z) <;> rw [hm] at h <;> first | rfl | cases h))
theorem ren_cmL (who kind blk : Int) : renVs [] (cmL who kind blk) = some (cmL who kind blk) := by kernel_rfl
theorem ren2 (who kind blk : Int) (Z : Nat → Int) : renVs [] [.agg (cmL who kind blk), .agg (tL Z)] = some [.agg (cmL who kind blk), .agg (tL Z)] := by simp only [renVs, renV, ren_cmL, ren_tL]
noncomputable def sum20 : CallT := fun f args st => bif Nat.beq 20 f then (match args with
  | [.agg (.int .u64 (.ofNat 0) :: .int .i64 who :: .int .i64 kind :: .int .i64 blk :: zs), .agg l] => bif avsEq z58 zs then (bif okT l then some (.bool (alwL l who kind), st) else none) else none
  | _ => none) else none
noncomputable def sum21 : CallT := fun f args st => bif Nat.beq 21 f then (match args with
  | [.agg (.int .u64 (.ofNat 0) :: .int .i64 who :: .int .i64 kind :: .int .i64 blk :: zs), .agg l] => bif eqF kind (.ofNat 6) then (bif avsEq z58 zs then (bif okT l then some (.bool (mayL l), st) else none) else none) else none
  | _ => none) else none
theorem sum20_ok : CallsOK Try.prog sum20 := by
  intro Bp w0 f args st r h ι w args' hsr hv
  unfold sum20 at h
  cases hf : Nat.beq 20 f
  · simp [hf] at h
  simp only [hf, cond_true] at h
  have := nbeq hf
  subst this
  split at h
  · rename_i who kind blk zs l
    cases hz : avsEq z58 zs
    · simp [hz] at h
    cases ho : okT l
    · simp [hz, ho] at h
    simp only [hz, ho, cond_true, Option.some.injEq] at h
    subst h
    obtain ⟨Z, rfl⟩ := okT_ok ho
    have e := avsEq_eq _ _ hz
    subst e
    exact pure_ok (at20 Z who kind blk) rfl (ren2 who kind blk Z) hsr hv
  · cases h
theorem sum21_ok : CallsOK Try.prog sum21 := by
  intro Bp w0 f args st r h ι w args' hsr hv
  unfold sum21 at h
  cases hf : Nat.beq 21 f
  · simp [hf] at h
  simp only [hf, cond_true] at h
  have := nbeq hf
  subst this
  split at h
  · rename_i who kind blk zs l
    cases hk : eqF kind (.ofNat 6)
    · simp only [hk, cond_false] at h; cases h
    cases hz : avsEq z58 zs
    · simp only [hk, hz, cond_true, cond_false] at h; cases h
    cases ho : okT l
    · simp only [hk, hz, ho, cond_true, cond_false] at h; cases h
    simp only [hk, hz, ho, cond_true, Option.some.injEq] at h
    subst h
    obtain ⟨Z, rfl⟩ := okT_ok ho
    have e := avsEq_eq _ _ hz
    have ek := eqF_t hk
    subst e
    subst ek
    exact pure_ok (at21 Z who blk) rfl (ren2 who (.ofNat 6) blk Z) hsr hv
  · cases h
noncomputable def s7 : CallT := orC (sumC [⟨16, [], .bool true⟩]) (orC sum20 sum21)
theorem s7_ok : CallsOK Try.prog s7 := orC_ok (sumC_ok (l := [⟨16, [], .bool true⟩]) ⟨known, trivial⟩) (orC_ok sum20_ok sum21_ok)
noncomputable def t5 (Z : Nat → Int) (blk who : Int) : Tr (Exit × AFr × ASt) := (TM E s7 [] fl0 80).ex ⟨[], [], [16, 21, 28, 35, 42, 46, 50, 55, 58, 62, 66, 70], []⟩ none (cd Try.f5) (fr [.agg (tL Z), .int .i64 blk, .int .i64 who] Try.f5.ntmps) st0
def A (Z : Nat → Int) (who : Int) (k : Nat) : Bool := alwL (tL Z) who (.ofNat k)
theorem vc5 (Z : Nat → Int) (blk who : Int) (Q : Exit × Option AV → Prop) :
  ifB (!boolEq (A Z who 6) (mayL (tL Z))) (Q (B false)) (ifB (!boolEq (A Z who 7) (mayL (tL Z))) (Q (B false)) (ifB (!boolEq (A Z who 3) (A Z who 2)) (Q (B false)) (ifB (!boolEq (A Z who 4) (A Z who 2)) (Q (B false)) (ifB (!boolEq (A Z who 5) (A Z who 2)) (Q (B false))
    (ifB (A Z who 2) (ifB (!A Z who 1) (Q (B false)) (ifB (!eqF (Z 17) (.ofNat 0)) (Q (B true)) (ifB (!mayL (tL Z)) (Q (B true)) (ifB (ltF who (.ofNat 0)) (Q (B true)) (ifB (ltF (.ofNat 15) who) (Q (B true)) (ifB (A Z who 2) (Q (B true)) (Q (B false))))))))
     (ifB (!eqF (Z 17) (.ofNat 0)) (Q (B true)) (ifB (!mayL (tL Z)) (Q (B true)) (ifB (ltF who (.ofNat 0)) (Q (B true)) (ifB (ltF (.ofNat 15) who) (Q (B true)) (ifB (A Z who 2) (Q (B true)) (Q (B false))))))))))))  =
  (t5 Z blk who).allY (fun r => Q (anF Try.f5 r)) (.b .nil (.b .nil (.b .nil (.b .nil (.b .nil (.b (.b .nil (.b .nil (.b .nil (.b .nil (.b .nil (.b .nil .nil)))))) (.b .nil (.b .nil (.b .nil (.b .nil (.b .nil .nil)))))))))))  := by kernel_rfl
end Go.Proofs.Ytlnohbilfogheaa.cri
end

section
open Go Go.Ax Go.Proofs.Ytlnohbilfogheaa
namespace Go.Proofs.Ytlnohbilfogheaa.cri
theorem alw6 (Z : Nat → Int) (who : Int) : A Z who 6 = mayL (tL Z) := by
  show (bif !mayL (tL Z) then false else true) = _
  cases mayL (tL Z) <;> rfl
theorem alw7 (Z : Nat → Int) (who : Int) : A Z who 7 = mayL (tL Z) := by
  show (bif !mayL (tL Z) then false else true) = _
  cases mayL (tL Z) <;> rfl
theorem alw3 (Z : Nat → Int) (who : Int) : A Z who 3 = A Z who 2 := rfl
theorem alw4 (Z : Nat → Int) (who : Int) : A Z who 4 = A Z who 2 := rfl
theorem alw5 (Z : Nat → Int) (who : Int) : A Z who 5 = A Z who 2 := rfl
theorem alw2 (Z : Nat → Int) (who : Int) : A Z who 2 = bif !mayL (tL Z) then false else writesL (tL Z) who := rfl
theorem alw1 (Z : Nat → Int) (who : Int) : A Z who 1 = bif !mayL (tL Z) then false else readsL (tL Z) who := rfl
theorem boolEq_t (a : Bool) : boolEq a a = true := by cases a <;> rfl
theorem wr (Z : Nat → Int) (who : Int) (h : A Z who 2 = true) : A Z who 1 = true := by
  rw [alw2] at h
  rw [alw1]
  cases hm : mayL (tL Z)
  · rw [hm] at h; cases h
  · rw [hm] at h
    have h : writesL (tL Z) who = true := h
    show readsL (tL Z) who = true
    have hw : writesL (tL Z) who = bif !mayL (tL Z) then false else bif !whoB who then false else bif eqF (Z 17) (.ofNat 0) then true else bif eqF (Z 17) (.ofNat 1) then holdsL (tL Z) who else bif eqF (Z 17) (.ofNat 2) then holdsL (tL Z) who else nzL (tL Z) who := rfl
    have hr : readsL (tL Z) who = bif !mayL (tL Z) then false else bif !whoB who then false else bif eqF (Z 17) (.ofNat 0) then true else bif eqF (Z 17) (.ofNat 1) then true else bif eqF (Z 17) (.ofNat 3) then true else bif eqF (Z 17) (.ofNat 5) then true else
      bif eqF (Z 17) (.ofNat 2) then holdsL (tL Z) who else nzL (tL Z) who := rfl
    rw [hw, hm] at h
    rw [hr, hm]
    revert h
    cases whoB who <;> cases eqF (Z 17) (.ofNat 0) <;> cases eqF (Z 17) (.ofNat 1) <;> cases eqF (Z 17) (.ofNat 2) <;> cases eqF (Z 17) (.ofNat 3) <;> cases eqF (Z 17) (.ofNat 5) <;> simp
theorem free (Z : Nat → Int) (who : Int) (h1 : eqF (Z 17) (.ofNat 0) = true) (h2 : mayL (tL Z) = true) (h3 : ltF who (.ofNat 0) = false) (h4 : ltF (.ofNat 15) who = false) : A Z who 2 = true := by
  have hw : whoB who = true := by
    unfold whoB
    have g1 := ltF_f h3
    have g2 := ltF_f h4
    have : ltF who (.ofNat 16) = true := by rw [ltF_eq]; simp at g1 g2 ⊢; omega
    rw [h3, this]; rfl
  rw [alw2, h2]
  show writesL (tL Z) who = true
  have hr : writesL (tL Z) who = bif !mayL (tL Z) then false else bif !whoB who then false else bif eqF (Z 17) (.ofNat 0) then true else bif eqF (Z 17) (.ofNat 1) then holdsL (tL Z) who else bif eqF (Z 17) (.ofNat 2) then holdsL (tL Z) who else nzL (tL Z) who := rfl
  rw [hr, h2, hw, h1]; rfl
def LawQ (r : Exit × AFr × ASt) : Prop := (r.1 = .normal ∨ r.1 = .ret) ∧ ans (leaveA E Try.f5 r.2.1 r.2.2) = some (.bool true)
theorem law (Z : Nat → Int) (blk who : Int) : Trip Try.prog 0 none (cd Try.f5) (fr [.agg (tL Z), .int .i64 blk, .int .i64 who] Try.f5.ntmps) st0 LawQ := by
  refine Trip.runY Eok s7_ok (Eq.mp (vc5 Z blk who (Ok (.bool true))) ?_)
  have no : ∀ {a : Bool} {Q : Prop}, (!boolEq a a) = true → Q := fun {a Q} h => by rw [boolEq_t] at h; cases h
  have rest : ifB (!eqF (Z 17) (.ofNat 0)) (Ok (.bool true) (B true)) (ifB (!mayL (tL Z)) (Ok (.bool true) (B true)) (ifB (ltF who (.ofNat 0)) (Ok (.bool true) (B true)) (ifB (ltF (.ofNat 15) who) (Ok (.bool true) (B true)) (ifB (A Z who 2) (Ok (.bool true) (B true)) (Ok (.bool true) (B false)))))) :=
    ifB_mk (fun _ => okB rfl) fun h1 => ifB_mk (fun _ => okB rfl) fun h2 => ifB_mk (fun _ => okB rfl) fun h3 => ifB_mk (fun _ => okB rfl) fun h4 => ifB_mk (fun _ => okB rfl) fun h5 => by
      have := free Z who (by simpa using h1) (by simpa using h2) h3 h4
      rw [this] at h5; cases h5
  rw [alw6, alw7, alw3, alw4, alw5]
  refine ifB_mk (fun h => no h) fun _ => ifB_mk (fun h => no h) fun _ => ifB_mk (fun h => no h) fun _ => ifB_mk (fun h => no h) fun _ => ifB_mk (fun h => no h) fun _ => ifB_mk (fun h => ifB_mk (fun h2 => ?_) fun _ => rest) fun _ => rest
  rw [wr Z who h] at h2; cases h2

section
open Go.ChangeShapes Go.WideShapes Go.ChangeAt Go.RowKit Go.Deep
section
variable {H : Type} {enc : TypeId × Value → H} {P : Program} {w : World} {base : Nat} {spare : Nat → Bool} {held : Bool} {fuel : Nat} {t : TypeId} {cs : List Value} {x : DataW H × List MemPlace}
theorem fieldOf {fs : Array Field} (ht : P.underlying t = some (.struct fs)) (h : DataW.trod enc P w base spare held fuel t cs = some x) {i : Nat} {f : Field} (hi : fs[i]? = some f) :
    ∃ n y, DataW.trod enc P w base spare held n f.type ((cs.drop f.offset).take (P.cellsOf f.type)) = some y := by
  obtain ⟨xs, n, _, _, _, hl, hf⟩ := DataW.trod_struct ht h
  have h1 := (Array.getElem?_eq_some_iff.1 hi).1
  exact ⟨n, xs[i]'(by omega), by rw [hf i f hi]; simp⟩
theorem elemOf {n : Nat} {e : TypeId} (ht : P.underlying t = some (.array n e)) (h : DataW.trod enc P w base spare held fuel t cs = some x) {i : Nat} (hi : i < n) :
    ∃ m y, DataW.trod enc P w base spare held m e ((cs.drop (i * P.cellsOf e)).take (P.cellsOf e)) = some y := by
  obtain ⟨xs, m, _, _, _, hl, hf⟩ := DataW.trod_array ht h
  exact ⟨m, xs[i]'(by omega), by rw [hf i hi]; simp⟩
theorem one_int {k : IntKind} {o : Nat} (ht : P.underlying t = some (.int k)) (h : DataW.trod enc P w base spare held fuel t ((cs.drop o).take 1) = some x) : ∃ z, cs[o]? = some (.int k z) := by
  obtain ⟨z, e, _⟩ := DataW.trod_int ht h
  refine ⟨z, ?_⟩
  have : ((cs.drop o).take 1)[0]? = some (.int k z) := by rw [e]; rfl
  simpa using this
theorem sub_get {o c i : Nat} {v : Value} (h : ((cs.drop o).take c)[i]? = some v) : cs[o + i]? = some v := by
  rw [List.getElem?_take] at h
  split at h
  · simpa using h
  · cases h
end
def kdT (k : Nat) : IntKind := if k < 17 then .u64 else .i64
theorem allInts {H : Type} {enc : TypeId × Value → H} {w : World} {base : Nat} {spare : Nat → Bool} {held : Bool} {fuel : Nat} {cs : List Value} {x : DataW H × List MemPlace} (h : DataW.trod enc Try.prog w base spare held fuel 43 cs = some x) :
    cs.length = 19 ∧ ∀ k, k < 19 → ∃ z, cs[k]? = some (.int (kdT k) z) := by
  have hlen : cs.length = 19 := by
    obtain ⟨_, _, _, _, hl, _⟩ := DataW.trod_struct Try.underlying43 h
    rw [hl]; kernel_rfl
  have c1 : Try.prog.cellsOf 28 = 1 := by kernel_rfl
  have c41 : Try.prog.cellsOf 41 = 1 := by kernel_rfl
  have c3 : Try.prog.cellsOf 3 = 1 := by kernel_rfl
  obtain ⟨m0, g0, k0⟩ := fieldOf Try.underlying43 h (i := 0) rfl
  obtain ⟨m1, g1, k1⟩ := fieldOf Try.underlying43 h (i := 1) rfl
  obtain ⟨m2, g2, k2⟩ := fieldOf Try.underlying43 h (i := 2) rfl
  obtain ⟨m3, g3, k3⟩ := fieldOf Try.underlying43 h (i := 3) rfl
  replace k0 : DataW.trod enc Try.prog w base spare held m0 28 ((cs.drop 0).take (Try.prog.cellsOf 28)) = some g0 := k0
  replace k1 : DataW.trod enc Try.prog w base spare held m1 40 ((cs.drop 1).take (Try.prog.cellsOf 40)) = some g1 := k1
  replace k2 : DataW.trod enc Try.prog w base spare held m2 41 ((cs.drop 17).take (Try.prog.cellsOf 41)) = some g2 := k2
  replace k3 : DataW.trod enc Try.prog w base spare held m3 3 ((cs.drop 18).take (Try.prog.cellsOf 3)) = some g3 := k3
  rw [c1] at k0
  rw [c41] at k2
  rw [c3] at k3
  refine ⟨hlen, fun k hk => ?_⟩
  by_cases e0 : k = 0
  · subst e0; exact one_int Try.underlying28 k0
  by_cases e1 : k ≤ 16
  · obtain ⟨m, y, hy⟩ := elemOf Try.underlying40 k1 (i := k - 1) (by omega)
    simp only [c1, Nat.mul_one] at hy
    obtain ⟨z, hz⟩ := one_int Try.underlying28 hy
    refine ⟨z, ?_⟩
    have := sub_get hz
    rw [show kdT k = .u64 by unfold kdT; rw [if_pos (by omega)]]
    rwa [show 1 + (k - 1) = k by omega] at this
  by_cases e2 : k = 17
  · subst e2; exact one_int Try.underlying41 k2
  · have e3 : k = 18 := by omega
    subst e3; exact one_int Try.underlying3 k3
theorem tL_get (Z : Nat → Int) : (∀ k, k < 19 → (tL Z)[k]? = some (.int (kdT k) (Z k))) ∧ (tL Z).length = 19 := by
  refine ⟨fun k hk => ?_, by simp [tL]⟩
  by_cases e0 : k = 0
  · subst e0; rfl
  by_cases e1 : k ≤ 16
  · obtain ⟨j, rfl⟩ : ∃ j, k = j + 1 := ⟨k - 1, by omega⟩
    rw [z_key Z (by omega), show kdT (j + 1) = .u64 by unfold kdT; rw [if_pos (by omega)]]
  by_cases e2 : k = 17
  · subst e2; rfl
  · have e3 : k = 18 := by omega
    subst e3; rfl
theorem own : ownKnob Try.prog.godebug = none := by kernel_rfl
theorem laidOut : laidOutB Try.prog = true := by kernel_rfl
theorem same_below {W W' : World} (h : Below W.heap.size W W') {p : MemPlace} (hp : p.block < W.heap.size) : W.sameAt W' p := by
  cases p with
  | cell b off => exact h.cell (p := ⟨b, off, none⟩) hp
  | map b => exact h.block b hp
theorem walk {W : World} {cs : Array Value} {blk who : Int} (hlen : cs.size = 19) (hi : ∀ k, k < 19 → ∃ z, cs[k]? = some (.int (kdT k) z)) :
    Calls Try.prog 5 #[.agg cs, .int .i64 blk, .int .i64 who] W fun e w' => e = .returned (.bool true) ∧ Below W.heap.size W w' := by
  have hgl : GlobOK W := by intro _ _ h; cases h
  have hg : ∀ i, st0.h.get i = none := fun i => by
    show (T.e : T AO).get i = none
    rw [T.get_e]
  have hsr := rowsO_ok hgl (n := 0) (rows := fun _ => none) (fun i r h => by cases h) (st := st0) rfl (fun i a hi => by rw [hg] at hi; cases hi)
  have hz : ∃ Z : Nat → Int, ∀ k, k < 19 → cs[k]? = some (.int (kdT k) (Z k)) := by
    refine ⟨fun k => (match cs[k]? with | some (.int _ z) => z | _ => 0), fun k hk => ?_⟩
    obtain ⟨z, e⟩ := hi k hk
    simp only [e]
  obtain ⟨Z, hZ⟩ := hz
  obtain ⟨a1, a3⟩ := tL_get Z
  have wv : VR (rowsRen W 0 fun _ => none) (.agg (tL Z)) (.agg cs) := by
    refine .agg _ cs (by rw [a3, hlen]) (fun v hv' => ?_) (fun i v v' hv1 hv2 => ?_)
    · obtain ⟨k, hk, e⟩ := List.getElem_of_mem hv'
      have hk2 : (tL Z)[k]? = some v := by rw [List.getElem?_eq_getElem hk, e]
      rw [a1 k (by omega)] at hk2; cases hk2; rfl
    · have hi2 := (List.getElem?_eq_some_iff.1 hv1).1
      rw [a1 i (by omega)] at hv1
      rw [hZ i (by omega)] at hv2
      cases hv1; cases hv2
      exact .int _ _
  have hvs : VRs (rowsRen W 0 fun _ => none) [.agg (tL Z), .int .i64 blk, .int .i64 who] #[.agg cs, .int .i64 blk, .int .i64 who] := ⟨rfl, fun i x x' hx hx' => by
    match i with
    | 0 => simp at hx hx'; subst hx; subst hx'; exact wv
    | 1 => simp at hx hx'; subst hx; subst hx'; exact .int _ _
    | 2 => simp at hx hx'; subst hx; subst hx'; exact .int _ _
    | i + 3 => simp at hx⟩
  exact law_calls Eok (fn := Try.f5) (by kernel_rfl) (c := cd Try.f5) (by kernel_rfl) (by kernel_rfl) (fun _ h => h) (fun k hk => .inr hk) hsr hvs (law Z blk who)

/-! ### The row's step -/
def wit : Value := .agg (Array.replicate 17 (.int .u64 0) ++ #[.int .i64 0, .int .i64 0])
set_option maxRecDepth 100000 in
theorem lifted (os : Os) (started : os.Started) (H : Type) (enc : TypeId × Value → H) :
    ReturnsInHanded {} Try.checked os 5 .any (Rows.commandRightsSpec.pre6 enc Try.prog Try.f5 Rows.commandRightsRow.domain false) (Rows.commandRightsSpec.post enc Try.prog Try.f5 false true false false) := by
  refine returnsInHanded_of_change (C := Try.checked) own started (by kernel_rfl) Try.func5
    (ChangeSpec.witness6 (enc := enc) (C := Try.checked) false ⟨#[], #[wit, .int .i64 0, .int .i64 0], []⟩ 8 (by kernel_rfl) (by kernel_rfl) (by kernel_rfl) (by kernel_rfl)) ?_
  intro W base args ds gs before hval0 hW hcnd _
  have hval : ∀ (j : Nat) t v, Try.f5.params[j]? = some t → args[j]? = some v → Value.okWide Try.prog W .any base t v := hval0
  have hW' := hW
  obtain ⟨p, q, hA0, hV, rfl, hfz, hnd⟩ := hW
  have hA : DataW.TrodAll enc Try.prog W 0 (fun _ => true) true Try.f5.params.toList args.toList ds p := hA0
  rw [Try.params5] at hA hval
  obtain ⟨v0, v1, v2, d0, d1, d2, p0, p1, p2, rfl, rfl, rfl, h0, h1, h2⟩ := trodAll_three hA
  obtain ⟨rfl, rfl⟩ := trodVars_none hV
  obtain ⟨cs, rfl, hsz⟩ := okWide_struct Try.underlying43 (hval 0 43 v0 rfl rfl)
  obtain ⟨blk, rfl, rfl, rfl, wb⟩ := open_int Try.underlying3 (hval 1 3 v1 rfl rfl) h1
  obtain ⟨who, rfl, rfl, rfl, ww⟩ := open_int Try.underlying3 (hval 2 3 v2 rfl rfl) h2
  have h0k := h0
  obtain ⟨fu0, hf0⟩ := h0
  clear hA0 hval0
  simp only [List.append_nil] at hW'
  have hlt : ∀ x ∈ p0, x.block < W.heap.size := fun x hx => by simpa using hW'.lt x hx
  have hf1 : DataW.trod enc Try.prog W 0 (fun _ => true) true fu0 43 cs.toList = some (d0, p0) := hf0
  obtain ⟨g1, g2⟩ := allInts hf1
  refine (walk (cs := cs) (blk := blk) (who := who) (by simpa using g1) (fun k hk => by simpa using g2 k hk)).mono fun e W' ⟨he, bel⟩ => ?_
  subst he
  have ARG0 : DataW.Trod enc Try.prog W' 0 (fun x => decide (x < W.heap.size)) true 43 (.agg cs) d0 p0 :=
    WideElems.Trod_stays laidOut (by kernel_rfl) (of_decide_eq_true (by kernel_rfl)) h0k (fun x hx => same_below bel (hlt x hx)) (fun x hx => by simpa using hlt x hx)
  exact ⟨_, rfl, _, _, _, [], _, [], hW', trodAll_mk1 (shut_bool Try.underlying4 _), trodAll_mk3 ARG0 (shut_int Try.underlying3 wb) (shut_int Try.underlying3 ww), rfl, bel.frame _, fun h => by cases h⟩
theorem over : Rows.commandRightsRow.holds Try.pinned (OpenSpec.ofChange Rows.commandRightsSpec) :=
  OpenClaim.holds_of_wide 5 Try.f5 rfl rfl rfl rfl rfl rfl rfl ⟨rfl, rfl, rfl, rfl, rfl⟩ rfl rfl rfl rfl rfl (by kernel_rfl) Try.func5 (by kernel_rfl)
    (of_decide_eq_true (by kernel_rfl)) (by unfold Func.isWrapper; first | (rw [if_pos (by decide +kernel)]; kernel_rfl) | (rw [if_neg (by decide +kernel)]; exact ⟨rfl, rfl⟩))
    (fun os started H enc _ => lifted os started H enc)
/-- THE STATEMENT -/
theorem proved : Rows.CommandRightsSaid := over
end
#print axioms proved
end Go.Proofs.Ytlnohbilfogheaa.cri
end
