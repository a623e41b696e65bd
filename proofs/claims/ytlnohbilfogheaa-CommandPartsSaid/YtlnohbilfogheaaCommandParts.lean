/-
PROVED HERE: 'Rows.CommandPartsSaid': for every answer (of any numbers, any thrown out) the call of the law's function returns true, and the argument reads as it did. No condition.
  THE WALK is a run of the function's text in an abstract machine (the texts YtlnohbilfogheaaAxA to YtlnohbilfogheaaAxFm show that it is sound), with all 278 numbers of the answer open, by cases of its code and its kind; the one loop by an invariant.
-/
import Derived.Test.YtlnohbilfogheaaRows
import Derived.Test.YtlnohbilfogheaaAxFm
import Derived.KernelRfl
import Derived.WalkKit
import Derived.ProofKit
import Derived.OpenShut
import Derived.Below
import Derived.WideKeyArgs
import Derived.ShutString
import Derived.ChangeOld
import Derived.Deep.SlicePairs
import Derived.Deep.Grids
set_option linter.unusedVariables false
section
open Go Go.Ax Go.Proofs.Ytlnohbilfogheaa
namespace Go.Proofs.Ytlnohbilfogheaa.cmp
noncomputable def fns : List (Nat × Func) := [(4, Try.f4), (14, Try.f14), (16, Try.f16), (17, Try.f17), (18, Try.f18), (37, Try.f37), (46, Try.f46), (47, Try.f47), (48, Try.f48), (49, Try.f49), (78, Try.f78), (79, Try.f79), (82, Try.f82), (121, Try.f121), (122, Try.f122)]
noncomputable def E : Env := envEx Try.prog (List.range 190) fns []
def fl0 : Fl := ⟨[], [], [], []⟩
theorem fnsOk : AllFn Try.prog fns :=
  ⟨⟨Try.func4, Try.call4⟩, ⟨Try.func14, Try.call14⟩, ⟨Try.func16, Try.call16⟩, ⟨Try.func17, Try.call17⟩, ⟨Try.func18, Try.call18⟩, ⟨Try.func37, Try.call37⟩, ⟨Try.func46, Try.call46⟩, ⟨Try.func47, Try.call47⟩, ⟨Try.func48, Try.call48⟩, ⟨Try.func49, Try.call49⟩, ⟨Try.func78, Try.call78⟩, ⟨Try.func79, Try.call79⟩, ⟨Try.func82, Try.call82⟩, ⟨Try.func121, Try.call121⟩, ⟨Try.func122, Try.call122⟩, trivial⟩
theorem mixed : Try.prog.follows .mixedOrders = true := by kernel_rfl
theorem Eok : Env.Ok Try.prog E := envEx_ok (xs := []) fnsOk trivial mixed
theorem known : MemoOK Try.prog ⟨16, [], .bool true⟩ := memo_ok (n := 80) Eok noSum_ok Try.call16 (by kernel_rfl) (by kernel_rfl)
noncomputable def sm : CallT := sumC [⟨16, [], .bool true⟩]
theorem sm_ok : CallsOK Try.prog sm := sumC_ok (l := [⟨16, [], .bool true⟩]) ⟨known, trivial⟩
noncomputable def c4 : Code := Option.getD Try.f4.body .skip
/-- the kinds of an answer's numbers, by their places -/
def kdOf (k : Nat) : IntKind := bif Nat.ble k 0 then .u64 else bif Nat.ble k 2 then .i64 else bif Nat.ble k 258 then .u8 else bif Nat.ble k 275 then .u64 else .i64
def ansL (code kind : Int) (Z : Nat → Int) (out : AV) : List AV := .int .u64 (Z 0) :: .int .i64 code :: .int .i64 kind :: (((List.range 275).map fun k => .int (kdOf (k + 3)) (Z (k + 3))) ++ [out])
noncomputable def F4 (code kind : Int) (Z : Nat → Int) (out : AV) : AFr := { m := putArgs [.agg (ansL code kind Z out)] 0 .e, n := 151, defs := [] }
end Go.Proofs.Ytlnohbilfogheaa.cmp
end

section
open Go Go.Ax Go.Proofs.Ytlnohbilfogheaa
namespace Go.Proofs.Ytlnohbilfogheaa.cmp
def nI (n : Nat) : AV := .int .i64 (.ofNat n)
def bsL (Z : Nat → Int) : List AV := (List.range 256).map fun k => .int .u8 (Z (k + 3))
def rsL (Z : Nat → Int) : List AV := ((List.range 17).map fun k => .int .u64 (Z (k + 259))) ++ [.int .i64 (Z 276), .int .i64 (Z 277)]
def zeL (_ : Nat) : List AV := (List.range 256).map fun _ => .int .u8 (.ofNat 0)
def zrL (_ : Nat) : List AV := ((List.range 17).map fun _ => .int .u64 (.ofNat 0)) ++ [.int .i64 (.ofNat 0), .int .i64 (.ofNat 0)]
noncomputable def stA (o0 : AO) (code kind : Int) (Z : Nat → Int) (out : AV) : ASt := mkSt [(0, o0), (1, .cells (ansL code kind Z out) true)] 2
noncomputable def stB (o0 : AO) (code kind : Int) (Z : Nat → Int) (out : AV) (x y : List AV) : ASt := mkSt [(0, o0), (1, .cells (ansL code kind Z out) true), (2, .cells (ansL code kind Z out) true), (3, .cells x true), (4, .cells y true)] 5
noncomputable def st1 (o0 : AO) : ASt := mkSt [(0, o0)] 1
noncomputable def tR (code kind : Int) (Z : Nat → Int) (out : AV) (o0 : AO) : Tr (Exit × AFr × ASt) := (TM E sm [(17, ⟨[10], [], [5], []⟩)] fl0 80).ex ⟨[15], [19], [16, 44, 103], []⟩ none c4 (F4 code kind Z out) (st1 o0)
noncomputable def tK1 (Z : Nat → Int) (out : AV) (o0 : AO) : Tr (Exit × AFr × ASt) := (TM E sm [] fl0 80).ex ⟨[15, 111], [19], [16], []⟩ none c4 (F4 (.ofNat 0) (.ofNat 1) Z out) (st1 o0)
noncomputable def tK6 (Z : Nat → Int) (out : AV) (o0 : AO) : Tr (Exit × AFr × ASt) := (TM E sm [] fl0 80).ex ⟨[15, 120], [19], [16], []⟩ none c4 (F4 (.ofNat 0) (.ofNat 6) Z out) (st1 o0)
noncomputable def tKO (kind : Int) (Z : Nat → Int) (out : AV) (o0 : AO) : Tr (Exit × AFr × ASt) := (TM E sm [(17, ⟨[25], [], [12, 17, 22], []⟩)] fl0 80).ex ⟨[15, 111, 120], [19], [16, 53, 64, 75], []⟩ none c4 (F4 (.ofNat 0) kind Z out) (st1 o0)
noncomputable def tK7n (Z : Nat → Int) (o0 : AO) : Tr (Exit × AFr × ASt) := (TM E sm [] fl0 80).ex fl0 none c4 (F4 (.ofNat 0) (.ofNat 7) Z (.slice none 0 (.known 0))) (st1 o0)
noncomputable def tK7z (Z : Nat → Int) (o0 : AO) : Tr (Exit × AFr × ASt) := (TM E sm [] fl0 80).ex fl0 none c4 (F4 (.ofNat 0) (.ofNat 7) Z .slice0) (st1 o0)
noncomputable def an4 (r : Exit × AFr × ASt) : Exit × Option AV := (r.1, ans (leaveA E Try.f4 r.2.1 r.2.2))
def yes : Exit × Option AV := (.ret, some (.bool true))
def no : Exit × Option AV := (.ret, some (.bool false))
theorem vcR (code kind : Int) (Z : Nat → Int) (out : AV) (o0 : AO) (n : Nat) (Q : Exit × Option AV → Prop) :
  (aBuiltinM E .len [44] [out] (stA o0 code kind Z out) = some (nI n, stA o0 code kind Z out) ∧ ifB (ltF (.ofNat 300) (.ofNat n)) (Q yes) (ifB (!eqF code (.ofNat 0)) (ifB (!eqF code (.ofNat 0)) (ifB (!eqF code code) (Q no) (Q yes)) (Q no)) False)) =
  (tR code kind Z out o0).allY (fun r => Q (an4 r)) (.v (nI n, stA o0 code kind Z out) (.b .nil (.b (.b (.b .nil .nil) .nil) .nil))) := by kernel_rfl
theorem vcK1 (Z : Nat → Int) (out : AV) (o0 : AO) (n : Nat) (Q : Exit × Option AV → Prop) :
  (aBuiltinM E .len [44] [out] (stA o0 (.ofNat 0) (.ofNat 1) Z out) = some (nI n, stA o0 (.ofNat 0) (.ofNat 1) Z out) ∧ ifB (ltF (.ofNat 300) (.ofNat n)) (Q yes)
    (still (stB o0 (.ofNat 0) (.ofNat 1) Z out (bsL Z) (zrL 0)) (aBin E .neq 39 (.tmp 108) (.tmp 110) (.agg (bsL Z)) (.agg (bsL Z))) = some (.bool false, stB o0 (.ofNat 0) (.ofNat 1) Z out (bsL Z) (zrL 0)) ∧ Q yes)) =
  (tK1 Z out o0).allY (fun r => Q (an4 r)) (.v (nI n, stA o0 (.ofNat 0) (.ofNat 1) Z out) (.b .nil (.v (.bool false, stB o0 (.ofNat 0) (.ofNat 1) Z out (bsL Z) (zrL 0)) .nil))) := by kernel_rfl
theorem vcK6 (Z : Nat → Int) (out : AV) (o0 : AO) (n : Nat) (Q : Exit × Option AV → Prop) :
  (aBuiltinM E .len [44] [out] (stA o0 (.ofNat 0) (.ofNat 6) Z out) = some (nI n, stA o0 (.ofNat 0) (.ofNat 6) Z out) ∧ ifB (ltF (.ofNat 300) (.ofNat n)) (Q yes)
    (still (stB o0 (.ofNat 0) (.ofNat 6) Z out (zeL 0) (rsL Z)) (aBin E .neq 43 (.tmp 117) (.tmp 119) (.agg (rsL Z)) (.agg (rsL Z))) = some (.bool false, stB o0 (.ofNat 0) (.ofNat 6) Z out (zeL 0) (rsL Z)) ∧ Q yes)) =
  (tK6 Z out o0).allY (fun r => Q (an4 r)) (.v (nI n, stA o0 (.ofNat 0) (.ofNat 6) Z out) (.b .nil (.v (.bool false, stB o0 (.ofNat 0) (.ofNat 6) Z out (zeL 0) (rsL Z)) .nil))) := by kernel_rfl
theorem vcKO (kind : Int) (Z : Nat → Int) (out : AV) (o0 : AO) (n : Nat) (Q : Exit × Option AV → Prop) :
  (aBuiltinM E .len [44] [out] (stA o0 (.ofNat 0) kind Z out) = some (nI n, stA o0 (.ofNat 0) kind Z out) ∧ ifB (ltF (.ofNat 300) (.ofNat n)) (Q yes)
   (ifB (eqF kind (.ofNat 1)) (ifB (eqF kind (.ofNat 1)) (ifB (eqF kind (.ofNat 6)) (Q no) (ifB (eqF kind (.ofNat 7)) (Q no) False)) (Q no))
    (ifB (eqF kind (.ofNat 6)) (ifB (eqF kind (.ofNat 1)) (Q no) (ifB (eqF kind (.ofNat 6)) (ifB (eqF kind (.ofNat 7)) (Q no) False) (Q no)))
     (ifB (eqF kind (.ofNat 7)) False (ifB (eqF kind (.ofNat 1)) (Q no) (ifB (eqF kind (.ofNat 6)) (Q no) (ifB (eqF kind (.ofNat 7)) (Q no) (Q yes)))))))) =
  (tKO kind Z out o0).allY (fun r => Q (an4 r)) (.v (nI n, stA o0 (.ofNat 0) kind Z out) (.b .nil (.b (.b (.b .nil (.b .nil .nil)) .nil) (.b (.b .nil (.b (.b .nil .nil) .nil)) (.b .nil (.b .nil (.b .nil (.b .nil .nil)))))))) := by kernel_rfl
theorem vcK7n (Z : Nat → Int) (o0 : AO) (Q : Exit × Option AV → Prop) : Q yes = (tK7n Z o0).allY (fun r => Q (an4 r)) .nil := by kernel_rfl
theorem vcK7z (Z : Nat → Int) (o0 : AO) (Q : Exit × Option AV → Prop) : Q yes = (tK7z Z o0).allY (fun r => Q (an4 r)) .nil := by kernel_rfl
end Go.Proofs.Ytlnohbilfogheaa.cmp
end

section
open Go Go.Ax Go.Proofs.Ytlnohbilfogheaa
namespace Go.Proofs.Ytlnohbilfogheaa.cmp
def rowZ (l : List Int) : List AV := l.map fun z => .int .i64 z
def sl0 (n : Nat) : AV := .slice (some (0, 0)) n (.atl n)
def slN (k n : Nat) : AV := .slice (some (k, 0)) n (.rest 1)
noncomputable def B4 : Code := lopB (blkB (seqR (seqL (dropC 9 c4))))
noncomputable def r14 : Code := seqL (seqL (dropC 9 c4))
noncomputable def r19 : Code := seqR (dropC 9 c4)
def an7 (Z : Nat → Int) (l : List Int) : List AV := ansL (.ofNat 0) (.ofNat 7) Z (sl0 l.length)
noncomputable def st7 (l : List Int) : ASt := mkSt [(0, .cells (rowZ l) false)] 1
noncomputable def st7a (Z : Nat → Int) (l : List Int) : ASt := mkSt [(0, .cells (rowZ l) false), (1, .cells (an7 Z l) true), (2, .cells (an7 Z l) true), (3, .cells [] true)] 4
noncomputable def st7b (Z : Nat → Int) (l : List Int) : ASt := mkSt [(0, .cells (rowZ l) false), (1, .cells (an7 Z l) true), (2, .cells (an7 Z l) true), (3, .cells [] true), (4, .cells (rowZ l) true)] 5
noncomputable def st7c (Z : Nat → Int) (l : List Int) : ASt := mkSt [(0, .cells (rowZ l) false), (1, .cells (an7 Z l) true), (4, .cells (rowZ l) true)] 7
noncomputable def stL (Z : Nat → Int) (l : List Int) (n : Nat) : ASt := mkSt [(0, .cells (rowZ l) false), (1, .cells (an7 Z l) true), (2, .cells (rowZ l) true)] n
noncomputable def fr4 (k n : Nat) (x : List (Nat × AV)) : AFr := xFr ([(1, .ptr (some (1, 0))), (10, slN k n)] ++ x) 151
noncomputable def tP7 (Z : Nat → Int) (l : List Int) : Tr (Exit × AFr × ASt) := (TM E sm [(17, ⟨[], [25], [], []⟩), (49, ⟨[7], [], [], []⟩)] fl0 80).ex ⟨[], [19], [16, 131], []⟩ none (preC 9 c4) (F4 (.ofNat 0) (.ofNat 7) Z (sl0 l.length)) (st7 l)
noncomputable def tL0 (Z : Nat → Int) (l : List Int) : Tr (Exit × AFr × ASt) := (TM E sm [] fl0 80).ex fl0 none r14 (fr4 2 l.length []) (stL Z l 3)
noncomputable def tLB (Z : Nat → Int) (l : List Int) (i : Nat) (z : Int) : Tr (Exit × AFr × ASt) := (TM E sm [] fl0 80).ex ⟨[142, 143, 147, 148], [], [137, 149], []⟩ none B4 (fr4 2 l.length [(12, nI i)]) (stL Z l 3)
noncomputable def tZ (Z : Nat → Int) (l : List Int) (i : Nat) : Tr (Exit × AFr × ASt) := (TM E sm [] fl0 80).ex fl0 none r19 (fr4 2 l.length [(12, nI i)]) (stL Z l 3)
theorem vcP7 (Z : Nat → Int) (l : List Int) (Q : Exit × AFr × ASt → Prop) (Q2 : Exit × Option AV → Prop) :
  ifB (ltF (.ofNat 300) (.ofNat l.length)) (Q2 yes) (aBuiltinM E .append [44, 44] [.slice (some (3, 0)) 0 (.known 0), sl0 l.length] (st7a Z l) = some (slN 4 l.length, st7b Z l) ∧
    ifB (!eqF (.ofNat l.length) (.ofNat l.length)) (Q2 no) (Q (.normal, fr4 4 l.length [], st7c Z l))) =
  (tP7 Z l).allY (mixQ E Try.f4 [1, 10] [0, 1, 4] Q Q2) (.b .nil (.v (slN 4 l.length, st7b Z l) (.b .nil .nil))) := by kernel_rfl
theorem vcL0 (Z : Nat → Int) (l : List Int) (Q : Exit × AFr × ASt → Prop) : Q (.normal, fr4 2 l.length [(12, nI 0)], stL Z l 3) = (tL0 Z l).allY (fun r => Q (canR [1, 10, 12] [0, 1, 2] r)) .nil := by kernel_rfl
theorem vcLB (Z : Nat → Int) (l : List Int) (i : Nat) (z : Int) (Q : Exit × AFr × ASt → Prop) (Q2 : Exit × Option AV → Prop) :
  ifB (ltF (.ofNat i) (.ofNat l.length)) (still (stL Z l 13) (aIndexAddr E 44 (slN 2 l.length) (nI i)) = some (.ptr (some (2, 0 + i * 1)), stL Z l 13) ∧ aLoad E 3 (.ptr (some (2, 0 + i * 1))) (stL Z l 13) = some (.int .i64 z, stL Z l 13) ∧
    still (stL Z l 13) (aIndexAddr E 44 (sl0 l.length) (nI i)) = some (.ptr (some (0, 0 + i * 1)), stL Z l 13) ∧ aLoad E 3 (.ptr (some (0, 0 + i * 1))) (stL Z l 13) = some (.int .i64 z, stL Z l 13) ∧
    ifB (!eqF z z) (Q2 no) (Q (.normal, fr4 2 l.length [(12, .int .i64 (wrapF .i64 (.ofNat i + .ofNat 1)))], stL Z l 13))) (Q (.exit 0, fr4 2 l.length [(12, nI i)], stL Z l 3)) =
  (tLB Z l i z).allY (mixQ E Try.f4 [1, 10, 12] [0, 1, 2] Q Q2) (.b (.v (.ptr (some (2, 0 + i * 1)), stL Z l 13) (.v (.int .i64 z, stL Z l 13) (.v (.ptr (some (0, 0 + i * 1)), stL Z l 13) (.v (.int .i64 z, stL Z l 13) (.b .nil .nil))))) .nil) := by kernel_rfl
theorem vcZ (Z : Nat → Int) (l : List Int) (i : Nat) (Q : Exit × Option AV → Prop) : Q yes = (tZ Z l i).allY (fun r => Q (an4 r)) .nil := by kernel_rfl
end Go.Proofs.Ytlnohbilfogheaa.cmp
end

section
open Go Go.Ax Go.Proofs.Ytlnohbilfogheaa
namespace Go.Proofs.Ytlnohbilfogheaa.cmp
theorem eqF_refl (z : Int) : eqF z z = true := by rw [eqF_eq]; simp
theorem eqLs_refl {d : IntKind} {e : TypeId} : ∀ (n : Nat) (xs : List AV), n ≤ xs.length → (∀ x, x ∈ xs → ∃ k z, x = .int k z) → eqLs (fun _ x y => aEq0 (.int d) x y) e n xs xs = some true
  | 0, _, _, _ => by unfold eqLs; rfl
  | n + 1, [], h, _ => by simp at h
  | n + 1, x :: xs, h, hx => by
    obtain ⟨k, z, rfl⟩ := hx x (by simp)
    have h0 : aEq0 (.int d) (.int k z) (.int k z) = some true := by
      have : kEq k k = true := by cases k <;> rfl
      simp [aEq0, this, eqF_refl]
    unfold eqLs
    simp only [h0]
    exact eqLs_refl n xs (by simp at h; omega) fun y hy => hx y (by simp [hy])
theorem eqFs_refl {E : Env} {eq : TypeId → AV → AV → Option Bool} {xs : List AV} : ∀ fs : List (TypeId × Nat), (∀ f, f ∈ fs → ∃ a, aPart E f.1 xs f.2 = some a ∧ eq f.1 a a = some true) → eqFs E eq xs xs fs = some true
  | [], _ => rfl
  | f :: fs, h => by
    obtain ⟨a, h1, h2⟩ := h f (by simp)
    unfold eqFs
    simp only [h1, h2]
    exact eqFs_refl fs fun g hg => h g (by simp [hg])
theorem bin39 (Z : Nat → Int) (x y : Operand) : aBin E .neq 39 x y (.agg (bsL Z)) (.agg (bsL Z)) = some (.bool false) := by
  have e : aBin E .neq 39 x y (.agg (bsL Z)) (.agg (bsL Z)) = (match eqLs (fun _ x y => aEq0 (.int .u8) x y) 5 256 (bsL Z) (bsL Z) with | some r => some (.bool (!r)) | none => none) := by kernel_rfl
  rw [e, eqLs_refl 256 (bsL Z) (by simp [bsL]) (fun x hx => by obtain ⟨k, _, rfl⟩ := List.mem_map.1 hx; exact ⟨_, _, rfl⟩)]; rfl
def ksL (Z : Nat → Int) : List AV := (List.range 16).map fun k => .int .u64 (Z (k + 260))
theorem bin43 (Z : Nat → Int) (x y : Operand) : aBin E .neq 43 x y (.agg (rsL Z)) (.agg (rsL Z)) = some (.bool false) := by
  have e : aBin E .neq 43 x y (.agg (rsL Z)) (.agg (rsL Z)) = (match eqFs E (aEq E 11) (rsL Z) (rsL Z) [(28, 0), (40, 1), (41, 17), (3, 18)] with | some r => some (.bool (!r)) | none => none) := by kernel_rfl
  rw [e, eqFs_refl]; rfl
  intro f hf
  simp only [List.mem_cons, List.not_mem_nil, or_false] at hf
  rcases hf with rfl | rfl | rfl | rfl
  · refine ⟨.int .u64 (Z 259), by kernel_rfl, ?_⟩
    have h : aEq E 11 28 (.int .u64 (Z 259)) (.int .u64 (Z 259)) = some (eqF (Z 259) (Z 259)) := by kernel_rfl
    rw [h, eqF_refl]
  · refine ⟨.agg (ksL Z), by kernel_rfl, ?_⟩
    have h : aEq E 11 40 (.agg (ksL Z)) (.agg (ksL Z)) = eqLs (fun _ x y => aEq0 (.int .u64) x y) 28 16 (ksL Z) (ksL Z) := by kernel_rfl
    rw [h]
    exact eqLs_refl 16 (ksL Z) (by simp [ksL]) (fun x hx => by obtain ⟨k, _, rfl⟩ := List.mem_map.1 hx; exact ⟨_, _, rfl⟩)
  · refine ⟨.int .i64 (Z 276), by kernel_rfl, ?_⟩
    have h : aEq E 11 41 (.int .i64 (Z 276)) (.int .i64 (Z 276)) = some (eqF (Z 276) (Z 276)) := by kernel_rfl
    rw [h, eqF_refl]
  · refine ⟨.int .i64 (Z 277), by kernel_rfl, ?_⟩
    have h : aEq E 11 3 (.int .i64 (Z 277)) (.int .i64 (Z 277)) = some (eqF (Z 277) (Z 277)) := by kernel_rfl
    rw [h, eqF_refl]
def OkA (q : Exit × Option AV) : Prop := (q.1 = .normal ∨ q.1 = .ret) ∧ q.2 = some (.bool true)
def LawQ (r : Exit × AFr × ASt) : Prop := (r.1 = .normal ∨ r.1 = .ret) ∧ ans (leaveA E Try.f4 r.2.1 r.2.2) = some (.bool true)
theorem ok : OkA yes := ⟨.inr rfl, rfl⟩
theorem sl44 : sliceT E 44 = some 1 := by kernel_rfl
theorem ce3 : cellT E 3 = true := by kernel_rfl
theorem ap44 : appT E 44 44 = some (1, 8) := by kernel_rfl
theorem an_refs (Z : Nat → Int) (l : List Int) : renO [0, 1, 4] (.cells (an7 Z l) true) = some (.cells (an7 Z l) true) := by kernel_rfl
theorem rowZ_refs (l : List Int) : ∀ c, c ∈ rowZ l → refsV 0 c := by
  intro c hc
  obtain ⟨x, _, rfl⟩ := List.mem_map.1 hc
  simp [refsV]
section
variable {code kind : Int} {Z : Nat → Int} {out : AV} {o0 : AO} {l : List Int}
theorem lawR (hl : ∀ st, aBuiltinM E .len [44] [out] st = some (nI l.length, st)) (hc : code ≠ .ofNat 0) : Trip Try.prog 1 none c4 (F4 code kind Z out) (st1 o0) LawQ :=
  Trip.runY Eok sm_ok (Eq.mp (vcR code kind Z out o0 l.length OkA) ⟨hl _, ifB_mk (fun _ => ok) fun _ => ifB_mk (fun h => ifB_mk (fun _ => ifB_mk (fun h2 => absurd rfl (neqF_t h2)) (fun _ => ok)) (fun h2 => absurd (neqF_f h2) hc)) (fun h2 => absurd (neqF_f h2) hc)⟩)
theorem lawK1 (hl : ∀ st, aBuiltinM E .len [44] [out] st = some (nI l.length, st)) : Trip Try.prog 1 none c4 (F4 (.ofNat 0) (.ofNat 1) Z out) (st1 o0) LawQ :=
  Trip.runY Eok sm_ok (Eq.mp (vcK1 Z out o0 l.length OkA) ⟨hl _, ifB_mk (fun _ => ok) fun _ => ⟨still_of (bin39 Z _ _), ok⟩⟩)
theorem lawK6 (hl : ∀ st, aBuiltinM E .len [44] [out] st = some (nI l.length, st)) : Trip Try.prog 1 none c4 (F4 (.ofNat 0) (.ofNat 6) Z out) (st1 o0) LawQ :=
  Trip.runY Eok sm_ok (Eq.mp (vcK6 Z out o0 l.length OkA) ⟨hl _, ifB_mk (fun _ => ok) fun _ => ⟨still_of (bin43 Z _ _), ok⟩⟩)
theorem lawKO (hl : ∀ st, aBuiltinM E .len [44] [out] st = some (nI l.length, st)) (h1 : kind ≠ .ofNat 1) (h6 : kind ≠ .ofNat 6) (h7 : kind ≠ .ofNat 7) : Trip Try.prog 1 none c4 (F4 (.ofNat 0) kind Z out) (st1 o0) LawQ :=
  Trip.runY Eok sm_ok (Eq.mp (vcKO kind Z out o0 l.length OkA) ⟨hl _, ifB_mk (fun _ => ok) fun _ => ifB_mk (fun h => absurd (eqF_t h) h1) fun _ => ifB_mk (fun h => absurd (eqF_t h) h6) fun _ => ifB_mk (fun h => absurd (eqF_t h) h7) fun _ => ifB_mk (fun h => absurd (eqF_t h) h1) fun _ => ifB_mk (fun h => absurd (eqF_t h) h6) fun _ => ifB_mk (fun h => absurd (eqF_t h) h7) fun _ => ok⟩)
theorem toL : Wk 1 (fr4 4 l.length []) (st7c Z l) (fr4 2 l.length []) (stL Z l 3) :=
  Wk.heldX [0, 1, 4] rfl rfl [1, 10] (by kernel_rfl) (.cons 0 _ rfl (by kernel_rfl) (RenO.row (rowZ_refs l)) <| .cons 1 _ rfl (by kernel_rfl) (RenO.of (an_refs Z l)) <| .cons 4 _ rfl (by kernel_rfl) (RenO.row (rowZ_refs l)) .nil)
theorem toL3 {i n : Nat} : Wk 1 (fr4 2 l.length [(12, nI i)]) (stL Z l n) (fr4 2 l.length [(12, nI i)]) (stL Z l 3) :=
  Wk.heldX [0, 1, 2] rfl rfl [1, 10, 12] (by kernel_rfl) (.cons 0 _ rfl (by kernel_rfl) (RenO.row (rowZ_refs l)) <| .cons 1 _ rfl (by kernel_rfl) (RenO.of (show renO [0, 1, 2] (.cells (an7 Z l) true) = some (.cells (an7 Z l) true) by kernel_rfl)) <| .cons 2 _ rfl (by kernel_rfl) (RenO.row (rowZ_refs l)) .nil)
def RQ (Z : Nat → Int) (l : List Int) (i : Nat) (r : Exit × AFr × ASt) : Prop :=
  (i < l.length ∧ Stops 1 .normal (fr4 2 l.length [(12, nI (i + 1))]) (stL Z l 3) r) ∨ (i = l.length ∧ Stops 1 (.exit 0) (fr4 2 l.length [(12, nI i)]) (stL Z l 3) r)
theorem round {i : Nat} (hi : i ≤ l.length) (hn : l.length ≤ 300) : Trip Try.prog 1 none B4 (fr4 2 l.length [(12, nI i)]) (stL Z l 3) (RQ Z l i) := by
  have hw := wrap_succ (i := i) (by omega)
  have go : ∀ z, (i < l.length → l[i]? = some z) → Trip Try.prog 1 none B4 (fr4 2 l.length [(12, nI i)]) (stL Z l 3) (RQ Z l i) := fun z hz => by
    refine Trip.runM Eok sm_ok (Eq.mp (vcLB Z l i z (RQ Z l i) (fun _ => False)) ?_) (fun r hr hq => hq.elim) (fun r hr hq => hq.imp (fun h => ⟨h.1, h.2.can⟩) (fun h => ⟨h.1, h.2.can⟩))
    rw [ltF_nn, hw]
    refine ifB_mk (fun h => ?_) (fun h => .inr ⟨by simp at h; omega, rfl, Wk.refl _ _ _⟩)
    have hlt : i < l.length := by simpa using h
    have hx := hz hlt
    have hg : (rowZ l)[0 + i * 1]? = some (.int .i64 z) := by simp [rowZ, hx]
    exact ⟨still_idx sl44 hlt, load_at (rw := true) ce3 (by kernel_rfl) hg, still_idx sl44 hlt, load_at (rw := false) ce3 (by kernel_rfl) hg, ifB_mk (fun h => absurd rfl (neqF_t h)) fun _ => .inl ⟨hlt, rfl, toL3⟩⟩
  by_cases hlt : i < l.length
  · exact go l[i] (fun _ => by simp [hlt])
  · exact go 0 (fun h => absurd h hlt)
theorem c4a : dropC 9 c4 = .seq (.seq r14 (.block 0 (.loop B4))) r19 := by kernel_rfl
theorem tk0 (l : List Int) : takeL (rowZ l) 0 (l.length * 1) = some (rowZ l) := by
  have h : (rowZ l).length = l.length := by simp [rowZ]
  unfold takeL
  simp only [List.drop_zero, Nat.mul_one, ← h, List.take_length, beq_t, cond_true]
theorem lawK7 (h0 : 0 < l.length) : Trip Try.prog 1 none c4 (F4 (.ofNat 0) (.ofNat 7) Z (sl0 l.length)) (st7 l) LawQ := by
  have happ : l.length ≤ 300 → aBuiltinM E .append [44, 44] [.slice (some (3, 0)) 0 (.known 0), sl0 l.length] (st7a Z l) = some (slN 4 l.length, st7b Z l) := fun hn => by
    exact (append_zero_at ap44 rfl (first_at (cs := rowZ l) (rw := false) (by kernel_rfl) (tk0 l)) (cs := []) (rw := true) (by kernel_rfl) h0 (by omega) (by omega)).trans (by kernel_rfl)
  have hvc := Eq.mp (vcP7 Z l (fun r => l.length ≤ 300 ∧ Stops 1 .normal (fr4 2 l.length []) (stL Z l 3) r) OkA) (ifB_mk (fun _ => ok) fun h => by
    have hn : l.length ≤ 300 := by rw [ltF_nn] at h; simp at h; omega
    exact ⟨happ hn, ifB_mk (fun h => absurd rfl (neqF_t h)) fun _ => ⟨hn, rfl, toL⟩⟩)
  refine Trip.preM Eok sm_ok (k := 9) (by kernel_rfl) hvc (fun F S hq => Trip.less hq.2.2 ?_) (fun r hr hq => ⟨.inr hr, hq.2⟩) (fun r h1 h2 hq => absurd hq.2.1 h1)
  have hn := hq.1
  rw [c4a]
  refine Trip.seq (R := fun r => ∃ i, Stops 1 .normal (fr4 2 l.length [(12, nI i)]) (stL Z l 3) r) ?_ (fun fr' st' hq => ?_) (fun e fr' st' hne hq => ?_)
  · refine Trip.seq (R := Stops 1 .normal (fr4 2 l.length [(12, nI 0)]) (stL Z l 3)) ((Trip.runY Eok sm_ok (Eq.mp (vcL0 Z l (Stops 1 .normal (fr4 2 l.length [(12, nI 0)]) (stL Z l 3))) ⟨rfl, Wk.refl _ _ _⟩)).mono fun r hr => hr.can) (fun fr' st' hq => Trip.less hq.2 ?_) (fun e fr' st' hne hq => absurd hq.1 hne)
    refine Trip.block (Trip.loop (fun m fr st => ∃ i, i ≤ l.length ∧ m = l.length - i ∧ fr = fr4 2 l.length [(12, nI i)] ∧ st = stL Z l 3) ?_ l.length ⟨0, by omega, by omega, rfl, rfl⟩)
    rintro m fr st ⟨i, hi, rfl, rfl, rfl⟩
    refine (round hi hn).mono ?_
    rintro ⟨e, fr', st'⟩ (⟨q1, g3, g4⟩ | ⟨q1, g3, g4⟩)
    · simp only at g3 g4
      subst g3
      exact ⟨l.length - (i + 1), _, _, by omega, g4, i + 1, by omega, rfl, rfl, rfl⟩
    · simp only at g3 g4
      subst g3
      exact ⟨fun _ => ⟨i, rfl, g4⟩, fun h => absurd rfl h⟩
  · obtain ⟨i, _, hw⟩ := hq
    exact Trip.less hw (Trip.runY Eok sm_ok (Eq.mp (vcZ Z l i OkA) ok))
  · obtain ⟨i, h1, hw⟩ := hq
    exact absurd h1 hne
end
end Go.Proofs.Ytlnohbilfogheaa.cmp
end

section
open Go Go.Ax Go.Proofs.Ytlnohbilfogheaa
namespace Go.Proofs.Ytlnohbilfogheaa.cmp
section
open Go.ChangeShapes Go.WideShapes Go.ChangeAt Go.RowKit Go.Deep
section
variable {H : Type} {enc : TypeId × Value → H} {P : Program} {w : World} {base : Nat} {spare : Nat → Bool} {held : Bool} {fuel : Nat} {t : TypeId} {cs : List Value} {x : DataW H × List MemPlace}
theorem fieldOf {fs : Array Field} (ht : P.underlying t = some (.struct fs)) (h : DataW.trod enc P w base spare held fuel t cs = some x) {i : Nat} {f : Field} (hi : fs[i]? = some f) :
    ∃ n y, DataW.trod enc P w base spare held n f.type ((cs.drop f.offset).take (P.cellsOf f.type)) = some y := by
  obtain ⟨xs, n, _, _, _, hl, hf⟩ := DataW.trod_struct ht h
  have h1 := (Array.getElem?_eq_some_iff.1 hi).1
  exact ⟨n, xs[i]'(by omega), by rw [hf i f hi]; simp⟩
theorem elemOf {n : Nat} {e : TypeId} (ht : P.underlying t = some (.array n e)) (h : DataW.trod enc P w base spare held fuel t cs = some x) {i : Nat} (hi : i < n) :
    ∃ m y, DataW.trod enc P w base spare held m e ((cs.drop (i * P.cellsOf e)).take (P.cellsOf e)) = some y := by
  obtain ⟨xs, m, _, _, _, hl, hf⟩ := DataW.trod_array ht h
  exact ⟨m, xs[i]'(by omega), by rw [hf i hi]; simp⟩
theorem one_int {k : IntKind} {o : Nat} (ht : P.underlying t = some (.int k)) (h : DataW.trod enc P w base spare held fuel t ((cs.drop o).take 1) = some x) : ∃ z, cs[o]? = some (.int k z) := by
  obtain ⟨z, e, _⟩ := DataW.trod_int ht h
  refine ⟨z, ?_⟩
  have : ((cs.drop o).take 1)[0]? = some (.int k z) := by rw [e]; rfl
  simpa using this
theorem sub_get {o c i : Nat} {v : Value} (h : ((cs.drop o).take c)[i]? = some v) : cs[o + i]? = some v := by
  rw [List.getElem?_take] at h
  split at h
  · simpa using h
  · cases h
end
theorem kd_b {k : Nat} (h : 3 ≤ k) (h2 : k ≤ 258) : kdOf k = .u8 := by unfold kdOf; rw [ble_f (by omega), ble_f (by omega), ble_t (by omega)]; rfl
theorem kd_u {k : Nat} (h : 259 ≤ k) (h2 : k ≤ 275) : kdOf k = .u64 := by unfold kdOf; rw [ble_f (by omega), ble_f (by omega), ble_f (by omega), ble_t (by omega)]; rfl
theorem allInts {H : Type} {enc : TypeId × Value → H} {w : World} {base : Nat} {spare : Nat → Bool} {held : Bool} {fuel : Nat} {cs : List Value} {x : DataW H × List MemPlace} (h : DataW.trod enc Try.prog w base spare held fuel 46 cs = some x) :
    cs.length = 279 ∧ (∀ k, k < 278 → ∃ z, cs[k]? = some (.int (kdOf k) z)) ∧ ∃ v m y, cs[278]? = some v ∧ DataW.trod enc Try.prog w base spare held m 44 [v] = some y := by
  have hlen : cs.length = 279 := by
    obtain ⟨_, _, _, _, hl, _⟩ := DataW.trod_struct Try.underlying46 h
    rw [hl]; kernel_rfl
  have c1 : Try.prog.cellsOf 28 = 1 := by kernel_rfl
  have c33 : Try.prog.cellsOf 33 = 1 := by kernel_rfl
  have c37 : Try.prog.cellsOf 37 = 1 := by kernel_rfl
  have c41 : Try.prog.cellsOf 41 = 1 := by kernel_rfl
  have c3 : Try.prog.cellsOf 3 = 1 := by kernel_rfl
  have c5 : Try.prog.cellsOf 5 = 1 := by kernel_rfl
  have c44 : Try.prog.cellsOf 44 = 1 := by kernel_rfl
  obtain ⟨n0, y0, f0⟩ := fieldOf Try.underlying46 h (i := 0) rfl
  obtain ⟨n1, y1, f1⟩ := fieldOf Try.underlying46 h (i := 1) rfl
  obtain ⟨n2, y2, f2⟩ := fieldOf Try.underlying46 h (i := 2) rfl
  obtain ⟨n3, y3, f3⟩ := fieldOf Try.underlying46 h (i := 3) rfl
  obtain ⟨n4, y4, f4⟩ := fieldOf Try.underlying46 h (i := 4) rfl
  obtain ⟨n5, y5, f5⟩ := fieldOf Try.underlying46 h (i := 5) rfl
  replace f0 : DataW.trod enc Try.prog w base spare held n0 28 ((cs.drop 0).take (Try.prog.cellsOf 28)) = some y0 := f0
  replace f1 : DataW.trod enc Try.prog w base spare held n1 33 ((cs.drop 1).take (Try.prog.cellsOf 33)) = some y1 := f1
  replace f2 : DataW.trod enc Try.prog w base spare held n2 37 ((cs.drop 2).take (Try.prog.cellsOf 37)) = some y2 := f2
  replace f3 : DataW.trod enc Try.prog w base spare held n3 39 ((cs.drop 3).take (Try.prog.cellsOf 39)) = some y3 := f3
  replace f4 : DataW.trod enc Try.prog w base spare held n4 43 ((cs.drop 259).take (Try.prog.cellsOf 43)) = some y4 := f4
  replace f5 : DataW.trod enc Try.prog w base spare held n5 44 ((cs.drop 278).take (Try.prog.cellsOf 44)) = some y5 := f5
  rw [c1] at f0
  rw [c33] at f1
  rw [c37] at f2
  rw [c44] at f5
  obtain ⟨m0, g0, k0⟩ := fieldOf Try.underlying43 f4 (i := 0) rfl
  obtain ⟨m1, g1, k1⟩ := fieldOf Try.underlying43 f4 (i := 1) rfl
  obtain ⟨m2, g2, k2⟩ := fieldOf Try.underlying43 f4 (i := 2) rfl
  obtain ⟨m3, g3, k3⟩ := fieldOf Try.underlying43 f4 (i := 3) rfl
  replace k0 : DataW.trod enc Try.prog w base spare held m0 28 ((((cs.drop 259).take (Try.prog.cellsOf 43)).drop 0).take (Try.prog.cellsOf 28)) = some g0 := k0
  replace k1 : DataW.trod enc Try.prog w base spare held m1 40 ((((cs.drop 259).take (Try.prog.cellsOf 43)).drop 1).take (Try.prog.cellsOf 40)) = some g1 := k1
  replace k2 : DataW.trod enc Try.prog w base spare held m2 41 ((((cs.drop 259).take (Try.prog.cellsOf 43)).drop 17).take (Try.prog.cellsOf 41)) = some g2 := k2
  replace k3 : DataW.trod enc Try.prog w base spare held m3 3 ((((cs.drop 259).take (Try.prog.cellsOf 43)).drop 18).take (Try.prog.cellsOf 3)) = some g3 := k3
  rw [c1] at k0
  rw [c41] at k2
  rw [c3] at k3
  refine ⟨hlen, fun k hk => ?_, ?_⟩
  · by_cases e0 : k = 0
    · subst e0; exact one_int Try.underlying28 f0
    by_cases e1 : k = 1
    · subst e1; exact one_int Try.underlying33 f1
    by_cases e2 : k = 2
    · subst e2; exact one_int Try.underlying37 f2
    by_cases e3 : k ≤ 258
    · obtain ⟨m, y, hy⟩ := elemOf Try.underlying39 f3 (i := k - 3) (by omega)
      simp only [c5, Nat.mul_one] at hy
      obtain ⟨z, hz⟩ := one_int Try.underlying5 hy
      refine ⟨z, ?_⟩
      have := sub_get hz
      rw [kd_b (by omega) e3]
      rwa [show 3 + (k - 3) = k by omega] at this
    by_cases e4 : k = 259
    · subst e4
      obtain ⟨z, hz⟩ := one_int Try.underlying28 k0
      exact ⟨z, by rw [kd_u (by omega) (by omega)]; exact sub_get hz⟩
    by_cases e5 : k ≤ 275
    · obtain ⟨m, y, hy⟩ := elemOf Try.underlying40 k1 (i := k - 260) (by omega)
      simp only [c1, Nat.mul_one] at hy
      obtain ⟨z, hz⟩ := one_int Try.underlying28 hy
      refine ⟨z, ?_⟩
      have := sub_get (sub_get hz)
      rw [kd_u (by omega) e5]
      rwa [show 259 + (1 + (k - 260)) = k by omega] at this
    by_cases e6 : k = 276
    · subst e6
      obtain ⟨z, hz⟩ := one_int Try.underlying41 k2
      exact ⟨z, sub_get hz⟩
    · have e7 : k = 277 := by omega
      subst e7
      obtain ⟨z, hz⟩ := one_int Try.underlying3 k3
      exact ⟨z, sub_get hz⟩
  · have hv : cs[278]? = some (cs[278]'(by omega)) := by simp
    refine ⟨_, n5, y5, hv, ?_⟩
    have : (cs.drop 278).take 1 = [cs[278]'(by omega)] := by
      rw [List.drop_eq_getElem_cons (by omega : 278 < cs.length)]; rfl
    rw [← this]
    exact f5
theorem ans_get (Z : Nat → Int) (out : AV) : (∀ k, k < 278 → (ansL (Z 1) (Z 2) Z out)[k]? = some (.int (kdOf k) (Z k))) ∧ (ansL (Z 1) (Z 2) Z out)[278]? = some out ∧ (ansL (Z 1) (Z 2) Z out).length = 279 := by
  refine ⟨fun k hk => ?_, by simp [ansL], by simp [ansL]⟩
  match k with
  | 0 => rfl
  | 1 => rfl
  | 2 => rfl
  | k + 3 =>
    show ((((List.range 275).map fun k => AV.int (kdOf (k + 3)) (Z (k + 3))) ++ [out]))[k]? = _
    rw [List.getElem?_append_left (by simp; omega)]
    simp [show k < 275 by omega]
end
end Go.Proofs.Ytlnohbilfogheaa.cmp
end

section
open Go Go.Ax Go.Proofs.Ytlnohbilfogheaa
namespace Go.Proofs.Ytlnohbilfogheaa.cmp
section
open Go.ChangeShapes Go.WideShapes Go.ChangeAt Go.RowKit Go.Deep
theorem own : ownKnob Try.prog.godebug = none := by kernel_rfl
theorem laidOut : laidOutB Try.prog = true := by kernel_rfl
theorem same_below {W W' : World} (h : Below W.heap.size W W') {p : MemPlace} (hp : p.block < W.heap.size) : W.sameAt W' p := by
  cases p with
  | cell b off => exact h.cell (p := ⟨b, off, none⟩) hp
  | map b => exact h.block b hp
def rows1 (r0 : Option (Nat × Nat × List AV)) : Nat → Option (Nat × Nat × List AV)
  | 0 => r0
  | _ => none
/-- what the slice is told as -/
def Shape (l : List Int) (out : AV) (o0 : AO) : Prop := out = .slice none 0 (.known 0) ∨ out = .slice0 ∨ (out = sl0 l.length ∧ o0 = .cells (rowZ l) false ∧ 0 < l.length)
theorem law {code kind : Int} {Z : Nat → Int} {out : AV} {o0 : AO} {l : List Int} (SL : SlArg E 44 1 0 l.length out o0 (rowZ l)) (hs : Shape l out o0) : Trip Try.prog 1 none c4 (F4 code kind Z out) (st1 o0) LawQ := by
  by_cases hc : code = .ofNat 0
  · subst hc
    by_cases h1 : kind = .ofNat 1
    · subst h1; exact lawK1 SL.len
    by_cases h6 : kind = .ofNat 6
    · subst h6; exact lawK6 SL.len
    by_cases h7 : kind = .ofNat 7
    · subst h7
      rcases hs with rfl | rfl | ⟨rfl, rfl, h0⟩
      · exact Trip.runY Eok sm_ok (Eq.mp (vcK7n Z o0 OkA) ok)
      · exact Trip.runY Eok sm_ok (Eq.mp (vcK7z Z o0 OkA) ok)
      · exact lawK7 h0
    · exact lawKO SL.len h1 h6 h7
  · exact lawR SL.len hc
theorem walk {W : World} {cs : Array Value} {vs : Value} {l : List Int} {out : AV} {o0 : AO} {r0 : Option (Nat × Nat × List AV)} (hlen : cs.size = 279) (hi : ∀ k, k < 278 → ∃ z, cs[k]? = some (.int (kdOf k) z)) (hv : cs[278]? = some vs)
    (A0 : ArgAt E W 44 1 0 l.length vs (rowZ l) out o0 r0) (hs : Shape l out o0) :
    Calls Try.prog 4 #[.agg cs] W fun e w' => e = .returned (.bool true) ∧ Below W.heap.size W w' := by
  have hgl : GlobOK W := by intro _ _ h; cases h
  have hg : ∀ i, (st1 o0).h.get i = if i = 0 then some o0 else none := fun i => by
    show ((T.e : T AO).set D 0 _).get i = _
    rw [T.get_set, T.get_e]
  have hrow : ∀ i r, rows1 r0 i = some r → r.2.2 ≠ [] ∧ RowAt W r.1 r.2.1 r.2.2 := fun i r h => by
    match i, h with
    | 0, h => exact A0.row r h
  have hsr := rowsO_ok hgl (n := 1) (rows := rows1 r0) hrow (st := st1 o0) rfl (fun i a hi => by
    rw [hg] at hi
    by_cases e0 : i = 0
    · subst e0; simp at hi; subst hi; exact ⟨by omega, A0.obj⟩
    · simp [e0] at hi)
  have w0 : VR (rowsRen W 1 (rows1 r0)) out vs := A0.vr _ fun q hq => rowsRen_at (i := 0) (by omega) hq (A0.row q hq).1 (A0.row q hq).2
  have hz : ∃ Z : Nat → Int, ∀ k, k < 278 → cs[k]? = some (.int (kdOf k) (Z k)) := by
    refine ⟨fun k => (match cs[k]? with | some (.int _ z) => z | _ => 0), fun k hk => ?_⟩
    obtain ⟨z, e⟩ := hi k hk
    simp only [e]
  obtain ⟨Z, hZ⟩ := hz
  obtain ⟨a1, a2, a3⟩ := ans_get Z out
  have hout : out.isCell = true := by rcases hs with rfl | rfl | ⟨rfl, _, _⟩ <;> rfl
  have wv : VR (rowsRen W 1 (rows1 r0)) (.agg (ansL (Z 1) (Z 2) Z out)) (.agg cs) := by
    refine .agg _ cs (by rw [a3, hlen]) (fun v hv' => ?_) (fun i v v' hv1 hv2 => ?_)
    · obtain ⟨k, hk, e⟩ := List.getElem_of_mem hv'
      have hk2 : (ansL (Z 1) (Z 2) Z out)[k]? = some v := by rw [List.getElem?_eq_getElem hk, e]
      by_cases h : k < 278
      · rw [a1 k h] at hk2; cases hk2; rfl
      · have : k = 278 := by omega
        subst this
        rw [a2] at hk2; cases hk2; exact hout
    · by_cases h : i < 278
      · rw [a1 i h] at hv1
        rw [hZ i h] at hv2
        cases hv1; cases hv2
        exact .int _ _
      · have hi2 := (List.getElem?_eq_some_iff.1 hv1).1
        have : i = 278 := by omega
        subst this
        rw [a2] at hv1
        rw [hv] at hv2
        cases hv1; cases hv2
        exact w0
  have hvs : VRs (rowsRen W 1 (rows1 r0)) [.agg (ansL (Z 1) (Z 2) Z out)] #[.agg cs] := ⟨rfl, fun i x x' hx hx' => by
    match i with
    | 0 => simp at hx hx'; subst hx; subst hx'; exact wv
    | i + 1 => simp at hx⟩
  have hfr : ({ m := putArgs [.agg (ansL (Z 1) (Z 2) Z out)] 0 .e, n := Try.f4.ntmps, defs := [] } : AFr) = F4 (Z 1) (Z 2) Z out := by kernel_rfl
  refine law_calls Eok (fn := Try.f4) (by kernel_rfl) (c := c4) (by kernel_rfl) (by kernel_rfl) (fun _ h => h) (fun k hk => .inr hk) hsr hvs ?_
  rw [hfr]
  exact law A0.sl hs
theorem spot_none {W : World} {a : Addr} {v : Value} (h : W.cell? (a.add 0) = some v) : a.spot = none := by
  obtain ⟨b, off, spot⟩ := a
  cases spot with
  | none => rfl
  | some s =>
    unfold World.cell? at h
    simp only [Addr.add, if_true] at h
    split at h
    · simp at h
    · cases h
theorem arg_ints {W : World} {a : Addr} {len cap : Nat} {zs : List Int} (hl : len ≤ cap) (hz : zs.length = len) (hi : ∀ i, i < len → W.cell? (a.add i) = some (.int .i64 (zs.getD i 0))) :
    ∃ (l : List Int) (vl : AV) (o : AO) (r : Option (Nat × Nat × List AV)), ArgAt E W 44 1 0 l.length (.slice (some a) len cap) (rowZ l) vl o r ∧ Shape l vl o := by
  by_cases h0 : len = 0
  · subst h0
    exact ⟨[], _, _, _, ArgAt.mk_zero sl44, .inr (.inl rfl)⟩
  · have hsp := spot_none (hi 0 (by omega))
    obtain ⟨b, off, spot⟩ := a
    simp only at hsp
    subst hsp
    refine ⟨zs, .slice (some (0, 0)) len (.atl len), .cells (rowZ zs) false, some (b, off, rowZ zs), ?_, .inr (.inr ⟨by rw [hz]; rfl, rfl, by omega⟩)⟩
    rw [hz]
    have := ArgAt.mk_row (E := E) (W := W) (t := 44) (z := 1) (i := 0) (n := len) (b := b) (off := off) (cap := cap) (cs := rowZ zs) sl44
      (by intro e; have := congrArg List.length e; simp [rowZ] at this; subst this; simp at hz; omega) hl (fun k v hk => ?_)
    · exact this
    · have hk2 : k < len := by
        have := (List.getElem?_eq_some_iff.1 hk).1
        simpa [rowZ, hz] using this
      have hv : v = .int .i64 (zs.getD k 0) := by
        have hk3 : k < zs.length := by omega
        simp [rowZ, hk3] at hk
        rw [← hk, List.getD_eq_getElem?_getD, List.getElem?_eq_getElem hk3]; rfl
      subst hv
      exact ⟨rfl, _, by have := hi k hk2; rw [add_none] at this; exact this, fun ι => .int _ _⟩

/-! ### The row's step -/
def wit : Value := .agg (#[.int .u64 0, .int .i64 0, .int .i64 0] ++ Array.replicate 256 (.int .u8 0) ++ Array.replicate 17 (.int .u64 0) ++ #[.int .i64 0, .int .i64 0, .slice none 0 0])
set_option maxRecDepth 100000 in
theorem lifted (os : Os) (started : os.Started) (H : Type) (enc : TypeId × Value → H) :
    ReturnsInHanded {} Try.checked os 4 .any (Rows.commandPartsSpec.pre6 enc Try.prog Try.f4 Rows.commandPartsRow.domain false) (Rows.commandPartsSpec.post enc Try.prog Try.f4 false true false false) := by
  refine returnsInHanded_of_change (C := Try.checked) own started (by kernel_rfl) Try.func4
    (ChangeSpec.witness6 (enc := enc) (C := Try.checked) false ⟨#[], #[wit], []⟩ 8 (by kernel_rfl) (by kernel_rfl) (by kernel_rfl) (by kernel_rfl)) ?_
  intro W base args ds gs before hval0 hW hcnd _
  have hval : ∀ (j : Nat) t v, Try.f4.params[j]? = some t → args[j]? = some v → Value.okWide Try.prog W .any base t v := hval0
  have hW' := hW
  obtain ⟨p, q, hA0, hV, rfl, hfz, hnd⟩ := hW
  have hA : DataW.TrodAll enc Try.prog W 0 (fun _ => true) true Try.f4.params.toList args.toList ds p := hA0
  rw [Try.params4] at hA hval
  obtain ⟨v0, d0, rfl, rfl, h0⟩ := trodAll_one hA
  obtain ⟨rfl, rfl⟩ := trodVars_none hV
  obtain ⟨cs, rfl, hsz⟩ := okWide_struct Try.underlying46 (hval 0 46 v0 rfl rfl)
  have h0k := h0
  obtain ⟨fu0, hf0⟩ := h0
  clear hA0 hval0
  simp only [List.append_nil] at hW'
  have hlt : ∀ x ∈ p, x.block < W.heap.size := fun x hx => by simpa using hW'.lt x hx
  have hf1 : DataW.trod enc Try.prog W 0 (fun _ => true) true fu0 46 cs.toList = some (d0, p) := hf0
  obtain ⟨h1, h2, vs, m, y, h3, h4⟩ := allInts hf1
  have g0 : ∃ (l : List Int) (vl : AV) (o : AO) (r : Option (Nat × Nat × List AV)), ArgAt E W 44 1 0 l.length vs (rowZ l) vl o r ∧ Shape l vl o := by
    rcases open_ints Try.underlying44 Try.underlying3 (by kernel_rfl) h4 with ⟨hcs, _⟩ | ⟨a, len', cap', zs, hcs, _, hl, _, hm, _, hi, hw⟩
    · simp only [List.cons.injEq, and_true] at hcs
      subst hcs
      exact ⟨[], _, _, _, ArgAt.mk_nil sl44, .inl rfl⟩
    · simp only [List.cons.injEq, and_true] at hcs
      subst hcs
      have hzl : len' ≤ zs.length := by rw [hm]; split <;> omega
      refine arg_ints (zs := zs.take len') hl (by rw [List.length_take]; omega) fun i hlt => ?_
      rw [hi i (by omega)]
      congr 2
      simp [List.getD_eq_getElem?_getD, hlt]
  obtain ⟨l, vl, o0, r0, A0, hs⟩ := g0
  refine (walk (cs := cs) (by simpa using h1) (fun k hk => by simpa using h2 k hk) (by simpa using h3) A0 hs).mono fun e W' ⟨he, bel⟩ => ?_
  subst he
  have ARG0 : DataW.Trod enc Try.prog W' 0 (fun x => decide (x < W.heap.size)) true 46 (.agg cs) d0 p :=
    WideElems.Trod_stays laidOut (by kernel_rfl) (of_decide_eq_true (by kernel_rfl)) h0k (fun x hx => same_below bel (hlt x hx)) (fun x hx => by simpa using hlt x hx)
  exact ⟨_, rfl, _, _, _, [], _, [], hW', trodAll_mk1 (shut_bool Try.underlying4 _), trodAll_mk1 ARG0, rfl, bel.frame _, fun h => by cases h⟩
theorem over : Rows.commandPartsRow.holds Try.pinned (OpenSpec.ofChange Rows.commandPartsSpec) :=
  OpenClaim.holds_of_wide 4 Try.f4 rfl rfl rfl rfl rfl rfl rfl ⟨rfl, rfl, rfl, rfl, rfl⟩ rfl rfl rfl rfl rfl (by kernel_rfl) Try.func4 (by kernel_rfl)
    (of_decide_eq_true (by kernel_rfl)) (by unfold Func.isWrapper; first | (rw [if_pos (by decide +kernel)]; kernel_rfl) | (rw [if_neg (by decide +kernel)]; exact ⟨rfl, rfl⟩))
    (fun os started H enc _ => lifted os started H enc)
/-- THE STATEMENT -/
theorem proved : Rows.CommandPartsSaid := over
end
#print axioms proved
end Go.Proofs.Ytlnohbilfogheaa.cmp
end
