/-
  PROVED HERE: 'Rows.GhostLinesSaid': for every row of deeds the call of the law's function returns true, and the row reads as it did. No condition. THE WALK is a run of the function's text in an abstract machine (the texts WaA to WaF show that it is sound), with the deeds and the lines open: loops by invariants (each line's elder ones are a beginning of its way up in the tree of the births), the tree's functions and the lines' by contracts (WgA, WgB, WgC, WgE).
-/
import Derived.Test.YtidmijpfoodkoaaWgE
import Derived.WalkKit
import Derived.ProofKit
import Derived.OpenShut
import Derived.ShutString
import Derived.ChangeOld
import Derived.ChangeSlices
import Derived.Below
import Derived.Carry
import Derived.Deep.SlicePairs
import Derived.Deep.Grids
import Derived.WideKeyArgs
section
open Go Go.Ax Go.Proofs
namespace Go.Proofs.Ytidmijpfoodkoaa.gho.gl
set_option linter.unusedVariables false
theorem EGok : Env.Ok Try.prog EG := envEx_ok (xs := []) ⟨⟨Try.func7, Try.call7⟩, ⟨Try.func23, Try.call23⟩, ⟨Try.func29, Try.call29⟩, ⟨Try.func30, Try.call30⟩, ⟨Try.func31, Try.call31⟩, trivial⟩ trivial (by kernel_rfl)
abbrev Dd := Int × Int × Int
def encD (p : Dd) : List AV := [.int .i64 p.1, .int .i64 p.2.1, .int .i64 p.2.2]
theorem encD_len (p : Dd) : (encD p).length = 3 := rfl
def enc4 (x : Ln) : List AV := [gU x.now, gU x.bef, gU x.o0, gU x.o1]
theorem enc4_len (x : Ln) : (enc4 x).length = 4 := rfl
def rowL (q : List Ln) : AO := .cells (q.flatMap enc4) true
def Bv (k : Nat) : List Br → AV
  | [] => nilA
  | _ :: r => .slice (some (k, 0)) (r.length + 1) (.rest 2)
def Bx : List Br → AO
  | [] => .dead
  | x :: r => .cells ((x :: r).flatMap encB) true
def m3 (z : Int) : Nat := Nat.land (modN z (big .i64)) 3
theorem m3_lt {z : Int} : m3 z < 4 := Nat.lt_succ_of_le Nat.and_le_right
section
variable {t : List (Int × Int)} {q : List Ln} {bs : List Br} {l : List Dd} {d w i k n : Nat} {x y : Ln} {A : AV} {O : AO} {S : ASt} {z z1 z2 kd a b c e : Int} {f : Bool} {r : Exit × AFr × ASt} {dd : Dd} {br : Br}
theorem encB_ref : ∀ c, c ∈ bs.flatMap encB → refsV 0 c := fun c hc => by
  obtain ⟨x, _, hx⟩ := List.mem_flatMap.1 hc
  simp only [encB, List.mem_cons, List.not_mem_nil, or_false] at hx
  rcases hx with rfl | rfl <;> simp [refsV, gU]
theorem enc4_ref : ∀ c, c ∈ q.flatMap enc4 → refsV 0 c := fun c hc => by
  obtain ⟨x, _, hx⟩ := List.mem_flatMap.1 hc
  simp only [enc4, List.mem_cons, List.not_mem_nil, or_false] at hx
  rcases hx with rfl | rfl | rfl | rfl <;> simp [refsV, gU]
theorem Bv_app {k : Nat} : Bv k (bs ++ [br]) = .slice (some (k, 0)) (bs.length + 1) (.rest 2) := by
  cases bs with
  | nil => rfl
  | cons x r => show AV.slice (some (k, 0)) ((r ++ [br]).length + 1) (.rest 2) = _; rw [List.length_append]; rfl
theorem Bx_app : Bx (bs ++ [br]) = .cells ((bs ++ [br]).flatMap encB) true := by cases bs <;> rfl
theorem wrapU {m : Nat} (h : m < 18446744073709551616) : wrapF .u64 (.ofNat m) = .ofNat m := by
  rw [wrapF_eq]
  show IntKind.wrap .u64 (m : Int) = m
  unfold IntKind.wrap
  simp [IntKind.bits, IntKind.signed]
  omega
theorem ix0 : still S (aIndexAddr EG 66 (.ptr (some (k, 0))) (.int .i64 (.ofNat 0))) = some (.ptr (some (k, 0 * 4)), S) := by kernel_rfl
theorem ix1 : still S (aIndexAddr EG 66 (.ptr (some (k, 0))) (.int .i64 (.ofNat 1))) = some (.ptr (some (k, 1 * 4)), S) := by kernel_rfl
theorem ix2 : still S (aIndexAddr EG 66 (.ptr (some (k, 0))) (.int .i64 (.ofNat 2))) = some (.ptr (some (k, 2 * 4)), S) := by kernel_rfl
theorem ix3 : still S (aIndexAddr EG 66 (.ptr (some (k, 0))) (.int .i64 (.ofNat 3))) = some (.ptr (some (k, 3 * 4)), S) := by kernel_rfl
theorem ix_l (hw : w < 4) : still S (aIndexAddr EG 66 (.ptr (some (k, 0))) (.int .i64 (.ofNat w))) = some (.ptr (some (k, w * 4)), S) := by
  match w, hw with
  | 0, _ => exact ix0
  | 1, _ => exact ix1
  | 2, _ => exact ix2
  | 3, _ => exact ix3
  | w + 4, h => exact absurd h (by omega)
theorem ld_l (hS : S.h.get k = some (rowL q)) (hx : q[w]? = some x) : aLoad EG 65 (.ptr (some (k, w * 4))) S = some (.agg [.int .u64 x.now, .int .u64 x.bef, .int .u64 x.o0, .int .u64 x.o1], S) := load_agg (by kernel_rfl) hS (fm_one enc4_len hx)
theorem ldn (hS : S.h.get k = some (rowL q)) (hx : q[w]? = some x) : aLoad EG 48 (.ptr (some (k, w * 4 + 0))) S = some (.int .u64 x.now, S) := load_at (by kernel_rfl) hS (fm_get enc4_len hx (r := 0) rfl)
theorem store4 {cs cs' v : List AV} {o : Nat} (hE : (match EG.ty.get 65 with | some ti => Nat.beq 4 ti.size | none => false) = true) (hS : S.h.get k = some (.cells cs true)) (hv : v.length = 4) (hj : setL cs o v = some cs') : Option.map (fun s => (undefA, s)) (aStore EG 65 (.ptr (some (k, o))) (.agg v) S) = some (.tuple [], S.put k (.cells cs' true)) := by
  obtain ⟨ti, h1, h2⟩ : ∃ ti, EG.ty.get 65 = some ti ∧ Nat.beq 4 ti.size = true := by
    cases e : EG.ty.get 65 with
    | none => rw [e] at hE; cases hE
    | some ti => rw [e] at hE; exact ⟨ti, rfl, hE⟩
  simp only [aStore, hS, h1, hv, h2, cond_true, hj]
  rfl
theorem st_l (hS : S.h.get k = some (rowL q)) (hq : q.length = 4) (hw : w < 4) : Option.map (fun s => (undefA, s)) (aStore EG 65 (.ptr (some (k, w * 4))) (.agg [.int .u64 a, .int .u64 b, .int .u64 c, .int .u64 e]) S) = some (.tuple [], S.put k (rowL (q.set w ⟨a, b, c, e⟩))) := by
  refine store4 (by kernel_rfl) hS rfl ?_
  match q, hq with
  | [x0, x1, x2, x3], _ =>
    match w, hw with
    | 0, _ => rfl
    | 1, _ => rfl
    | 2, _ => rfl
    | 3, _ => rfl
    | w + 4, h => exact absurd h (by omega)
theorem ix_d (I : SlArg EG 62 3 0 l.length A O (l.flatMap encD)) (hi : i < l.length) : still S (aIndexAddr EG 62 A (.int .i64 (.ofNat i))) = some (.ptr (some (0, i * 3)), S) := by
  have := I.idx i .i64 hi
  rw [Nat.zero_add] at this
  exact still_of this
theorem ld_d {v : Int} {j : Nat} (I : SlArg EG 62 3 0 l.length A O (l.flatMap encD)) (hx : l[i]? = some dd) (hj : (encD dd)[j]? = some (.int .i64 v)) (hS : S.h.get 0 = some O) : aLoad EG 3 (.ptr (some (0, i * 3 + j))) S = some (.int .i64 v, S) := by
  have hi : i < l.length := (List.getElem?_eq_some_iff.1 hx).1
  rw [I.obj (by omega)] at hS
  exact load_at (by kernel_rfl) hS (fm_get encD_len hx hj)
theorem and_d {j : Nat} (h : ∀ z : Int, aBin EG .and 3 (.tmp j) (.const (.int .i64 3)) (.int .i64 z) (.int .i64 (.ofNat 3)) = some (.int .i64 (wrapF .i64 (.ofNat (m3 z))))) : still S (aBin EG .and 3 (.tmp j) (.const (.int .i64 3)) (.int .i64 z) (.int .i64 (.ofNat 3))) = some (.int .i64 (.ofNat (m3 z)), S) := by
  rw [h, wrap_nat (by have := m3_lt (z := z); omega)]; rfl
theorem eqK {j : Nat} {o : Operand} (h : ∀ z : Int, aBin EG .eql 3 (.tmp 50) o (.int .i64 z) (.int .i64 (.ofNat j)) = some (.bool (eqF z (.ofNat j)))) (hw : eqF kd (.ofNat j) = f) : still S (aBin EG .eql 3 (.tmp 50) o (.int .i64 kd) (.int .i64 (.ofNat j))) = some (.bool f, S) := by
  rw [h, hw]; rfl
theorem eqZ {j : Nat} {o : Operand} (h : ∀ z : Int, aBin EG .eql 48 (.tmp j) o (.int .u64 z) (.int .u64 (.ofNat 0)) = some (.bool (eqF z (.ofNat 0)))) (hw : eqF z (.ofNat 0) = f) : still S (aBin EG .eql 48 (.tmp j) o (.int .u64 z) (.int .u64 (.ofNat 0))) = some (.bool f, S) := by
  rw [h, hw]; rfl
theorem neZ {j : Nat} {o : Operand} (h : ∀ z : Int, aBin EG .neq 48 (.tmp j) o (.int .u64 z) (.int .u64 (.ofNat 0)) = some (.bool (!eqF z (.ofNat 0)))) (hw : eqF z (.ofNat 0) = f) : still S (aBin EG .neq 48 (.tmp j) o (.int .u64 z) (.int .u64 (.ofNat 0))) = some (.bool (!f), S) := by
  rw [h, hw]; rfl
theorem addD (hd : d < 1000) : still S (aBin EG .add 48 (.tmp 57) (.const (.int .u64 1)) (.int .u64 (.ofNat d)) (.int .u64 (.ofNat 1))) = some (.int .u64 (.ofNat (d + 1)), S) := by
  have h : ∀ z : Int, aBin EG .add 48 (.tmp 57) (.const (.int .u64 1)) (.int .u64 z) (.int .u64 (.ofNat 1)) = some (.int .u64 (wrapF .u64 (z + .ofNat 1))) := fun z => by kernel_rfl
  rw [h, show (Int.ofNat d + Int.ofNat 1) = Int.ofNat (d + 1) from rfl, wrapU (by omega)]; rfl
theorem apG : appT EG 49 49 = some (2, 16) := by kernel_rfl
theorem app_b {S1 : ASt} (hl : bs.length < 90000) (h2 : S.h.get 2 = some (Bx bs)) (h1 : S.h.get 21 = some (.cells (encB br) true)) (hn : S.next = 22) (he : bs ≠ [] → (S.put 2 .dead).add (.cells ((bs ++ [br]).flatMap encB) true) = S1) (he0 : bs = [] → S.add (.cells ((bs ++ [br]).flatMap encB) true) = S1) :
    aBuiltinM EG .append [49, 49] [Bv 2 bs, .slice (some (21, 0)) 1 (.known 1)] S = some (.slice (some (22, 0)) (bs.length + 1) (.rest 2), S1) := by
  cases bs with
  | nil =>
    refine (append_nil_at (n := 1) (new := encB br) apG rfl (first_at (cs := encB br) (rw := true) h1 rfl) (by decide) (by decide) (by decide)).trans ?_
    rw [hn, ← he0 rfl]; rfl
  | cons x r =>
    have hlr : r.length + 1 < 90000 := hl
    refine (append_grow_at (l := r.length + 1) (i := 2) (n := 1) (new := encB br) (cs := (x :: r).flatMap encB) apG rfl (first_at (cs := encB br) (rw := true) h1 rfl) h2 (fm_len encB_len _) (by decide) (by decide) (by omega) (by omega)).trans ?_
    have e1 : (x :: r).flatMap encB ++ encB br = ((x :: r) ++ [br]).flatMap encB := by rw [List.flatMap_append]; simp
    rw [hn, e1, he (by simp)]; rfl
def QD (A : AV) (O : AO) (n i : Nat) (q : List Ln) (bs : List Br) (d : Nat) (r : Exit × AFr × ASt) : Prop :=
  (i = n ∧ Stops 1 (.exit 2) (frD A (Bv 2 bs) d i) (SD O (rowL q) (Bx bs)) r) ∨
  (i < n ∧ ∃ t' q' bs' d', Inv t' q' bs' d' ∧ d' ≤ d + 1 ∧ Stops 1 .normal (frD A (Bv 2 bs') d' (i + 1)) (SD O (rowL q') (Bx bs')) r)
theorem QD.can {kf ko : List Nat} (h : QD A O n i q bs d (canR kf ko r)) : QD A O n i q bs d r := by
  rcases h with ⟨h1, h2⟩ | ⟨h0, t', q', bs', d', h1, h2, h3⟩
  · exact .inl ⟨h1, h2.can⟩
  · exact .inr ⟨h0, t', q', bs', d', h1, h2, h3.can⟩
theorem toD2 (hO : Came O) (hA : KeptV 1 A) (h0 : S.h.get 0 = some O) (h1 : S.h.get 1 = some (rowL q)) (h2 : S.h.get 2 = some (Bx bs)) :
    Wk 1 (xFr [(0, A), (2, .bool false), (3, pO 1), (5, gU (.ofNat d)), (6, Bv 2 bs), (7, nI i)] 146) S (frD A (Bv 2 bs) d i) (SD O (rowL q) (Bx bs)) := by
  cases bs with
  | nil =>
    exact Wk.heldX (kb := 1) [0, 1, 2] (by kernel_rfl) (by kernel_rfl) [0, 2, 3, 5, 6, 7] (frE_cons (v := A) (by kernel_rfl) (hA _ (by kernel_rfl)) (frE_cons (v := .bool false) (by kernel_rfl) rfl (frE_cons (v := pO 1) (by kernel_rfl) rfl (frE_cons (v := gU (.ofNat d)) (by kernel_rfl) rfl (frE_cons (v := nilA) (by kernel_rfl) rfl (frE_cons (v := nI i) (by kernel_rfl) rfl rfl))))))
      (.came hO rfl h0 <| .cons 1 (rowL q) rfl h1 (.row enc4_ref) <| .dead (by decide) .nil)
  | cons x r =>
    exact Wk.heldX (kb := 1) [0, 1, 2] (by kernel_rfl) (by kernel_rfl) [0, 2, 3, 5, 6, 7] (frE_cons (v := A) (by kernel_rfl) (hA _ (by kernel_rfl)) (frE_cons (v := .bool false) (by kernel_rfl) rfl (frE_cons (v := pO 1) (by kernel_rfl) rfl (frE_cons (v := gU (.ofNat d)) (by kernel_rfl) rfl (frE_cons (v := .slice (some (2, 0)) (r.length + 1) (.rest 2)) (by kernel_rfl) rfl (frE_cons (v := nI i) (by kernel_rfl) rfl rfl))))))
      (.came hO rfl h0 <| .cons 1 (rowL q) rfl h1 (.row enc4_ref) <| .cons 2 (Bx (x :: r)) rfl h2 (.row encB_ref) .nil)
theorem toD22 (hO : Came O) (hA : KeptV 1 A) (h0 : S.h.get 0 = some O) (h1 : S.h.get 1 = some (rowL q)) (h2 : S.h.get 22 = some (Bx bs)) :
    Wk 1 (xFr [(0, A), (2, .bool false), (3, pO 1), (5, gU (.ofNat d)), (6, Bv 22 bs), (7, nI i)] 146) S (frD A (Bv 2 bs) d i) (SD O (rowL q) (Bx bs)) := by
  cases bs with
  | nil =>
    exact Wk.heldX (kb := 1) [0, 1, 22] (by kernel_rfl) (by kernel_rfl) [0, 2, 3, 5, 6, 7] (frE_cons (v := A) (by kernel_rfl) (hA _ (by kernel_rfl)) (frE_cons (v := .bool false) (by kernel_rfl) rfl (frE_cons (v := pO 1) (by kernel_rfl) rfl (frE_cons (v := gU (.ofNat d)) (by kernel_rfl) rfl (frE_cons (v := nilA) (by kernel_rfl) rfl (frE_cons (v := nI i) (by kernel_rfl) rfl rfl))))))
      (.came hO rfl h0 <| .cons 1 (rowL q) rfl h1 (.row enc4_ref) <| .dead (by decide) .nil)
  | cons x r =>
    exact Wk.heldX (kb := 1) [0, 1, 22] (by kernel_rfl) (by kernel_rfl) [0, 2, 3, 5, 6, 7] (frE_cons (v := A) (by kernel_rfl) (hA _ (by kernel_rfl)) (frE_cons (v := .bool false) (by kernel_rfl) rfl (frE_cons (v := pO 1) (by kernel_rfl) rfl (frE_cons (v := gU (.ofNat d)) (by kernel_rfl) rfl (frE_cons (v := .slice (some (22, 0)) (r.length + 1) (.rest 2)) (by kernel_rfl) rfl (frE_cons (v := nI i) (by kernel_rfl) rfl rfl))))))
      (.came hO rfl h0 <| .cons 1 (rowL q) rfl h1 (.row enc4_ref) <| .cons 22 (Bx (x :: r)) rfl h2 (.row encB_ref) .nil)
theorem round_b (I : SlArg EG 62 3 0 l.length A O (l.flatMap encD)) (hO : Came O) (hA : KeptV 1 A) (hv : Inv t q bs d) (hd : d < 1000) (hbl : bs.length < 90000) (hll : l.length < 90000) (hi : i < l.length) (hl : l[i]? = some (kd, z1, z2)) (h1 : eqF kd (.ofNat 1) = true) (hx : q[m3 z1]? = some x) (hb : eqF x.now (.ofNat 0) = true) :
    Trip Try.prog 1 none LD (frD A (Bv 2 bs) d i) (SD O (rowL q) (Bx bs)) (QD A O l.length i q bs d) := by
  refine (Trip.runY EGok (sum := onlyC [21] (tabC [])) (onlyC_ok (tabC_ok fun w he => by cases he)) (Eq.mp (vcRb (tabC []) A (Bv 2 bs) O (rowL q) (Bx bs) .dead (rowL q) l.length i d (m3 z1) (m3 z2) d bs.length z1 z2 kd x l1 (QD A O l.length i q bs d))
    ⟨I.len _, ifB_mk (fun _ => ⟨ix_d I hi, ld_d (j := 1) I hl rfl (by kernel_rfl), and_d (fun z => by kernel_rfl), ix_d I hi, ld_d (j := 2) I hl rfl (by kernel_rfl), and_d (fun z => by kernel_rfl), ix_d I hi, ld_d (j := 0) I hl rfl (by kernel_rfl), eqK (fun z => by kernel_rfl) h1, ix_l m3_lt, ld_l (by kernel_rfl) hx, eqZ (fun z => by kernel_rfl) hb, .inr ⟨hi, t, q, bs, d, hv, by omega, rfl, ?_⟩⟩) fun h => nlt' hi h⟩)).mono fun r hr => hr.can
  rw [wI hi (by omega)]
  exact toD2 hO hA (by kernel_rfl) (by kernel_rfl) (by kernel_rfl)
theorem round_n (I : SlArg EG 62 3 0 l.length A O (l.flatMap encD)) (hO : Came O) (hA : KeptV 1 A) (hv : Inv t q bs d) (hd : d < 1000) (hbl : bs.length < 90000) (hll : l.length < 90000) (hi : i < l.length) (hl : l[i]? = some (kd, z1, z2)) (h1 : eqF kd (.ofNat 1) = true) (hx : q[m3 z1]? = some x) (hb : eqF x.now (.ofNat 0) = false) (hf : eqF x.bef (.ofNat 0) = false) :
    Trip Try.prog 1 none LD (frD A (Bv 2 bs) d i) (SD O (rowL q) (Bx bs)) (QD A O l.length i q bs d) := by
  refine (Trip.runY EGok (sum := onlyC [21] (tabC [])) (onlyC_ok (tabC_ok fun w he => by cases he)) (Eq.mp (vcRn (tabC []) A (Bv 2 bs) O (rowL q) (Bx bs) .dead (rowL (q.set (m3 z1) x)) l.length i d (m3 z1) (m3 z2) (d + 1) bs.length z1 z2 kd x l1 (QD A O l.length i q bs d))
    ⟨I.len _, ifB_mk (fun _ => ⟨ix_d I hi, ld_d (j := 1) I hl rfl (by kernel_rfl), and_d (fun z => by kernel_rfl), ix_d I hi, ld_d (j := 2) I hl rfl (by kernel_rfl), and_d (fun z => by kernel_rfl), ix_d I hi, ld_d (j := 0) I hl rfl (by kernel_rfl), eqK (fun z => by kernel_rfl) h1, ix_l m3_lt, ld_l (by kernel_rfl) hx, eqZ (fun z => by kernel_rfl) hb, addD hd, ix_l m3_lt, ldn (by kernel_rfl) hx, ix_l m3_lt, ld_l (by kernel_rfl) hx, neZ (fun z => by kernel_rfl) hf, (store4 (by kernel_rfl) (by kernel_rfl : _ = some (AO.cells [gU (.ofNat 0), gU (.ofNat 0), gU (.ofNat 0), gU (.ofNat 0)] true)) rfl (by rfl)).trans (by kernel_rfl), ix_l m3_lt, (st_l (by kernel_rfl) hv.four m3_lt).trans (by kernel_rfl), .inr ⟨hi, t, (q.set (m3 z1) x), bs, (d + 1), ((hv.set (hv.lines x (List.mem_of_getElem? hx))).draw), by omega, rfl, ?_⟩⟩) fun h => nlt' hi h⟩)).mono fun r hr => hr.can
  rw [wI hi (by omega)]
  exact toD2 hO hA (by kernel_rfl) (by kernel_rfl) (by kernel_rfl)
theorem round_u (I : SlArg EG 62 3 0 l.length A O (l.flatMap encD)) (hO : Came O) (hA : KeptV 1 A) (hv : Inv t q bs d) (hd : d < 1000) (hbl : bs.length < 90000) (hll : l.length < 90000) (hi : i < l.length) (hl : l[i]? = some (kd, z1, z2)) (h1 : eqF kd (.ofNat 1) = true) (hx : q[m3 z1]? = some x) (hb : eqF x.now (.ofNat 0) = false) (hf : eqF x.bef (.ofNat 0) = true) :
    Trip Try.prog 1 none LD (frD A (Bv 2 bs) d i) (SD O (rowL q) (Bx bs)) (QD A O l.length i q bs d) := by
  refine (Trip.runY EGok (sum := onlyC [21] (tabC [])) (onlyC_ok (tabC_ok fun w he => by cases he)) (Eq.mp (vcRu (tabC []) A (Bv 2 bs) O (rowL q) (Bx bs) (.cells ((bs ++ [(x.now, Int.ofNat (d + 1))]).flatMap encB) true) (rowL (q.set (m3 z1) ⟨.ofNat (d + 1), x.now, x.o0, x.o1⟩)) l.length i d (m3 z1) (m3 z2) (d + 1) bs.length z1 z2 kd x l1 (QD A O l.length i q bs d))
    ⟨I.len _, ifB_mk (fun _ => ⟨ix_d I hi, ld_d (j := 1) I hl rfl (by kernel_rfl), and_d (fun z => by kernel_rfl), ix_d I hi, ld_d (j := 2) I hl rfl (by kernel_rfl), and_d (fun z => by kernel_rfl), ix_d I hi, ld_d (j := 0) I hl rfl (by kernel_rfl), eqK (fun z => by kernel_rfl) h1, ix_l m3_lt, ld_l (by kernel_rfl) hx, eqZ (fun z => by kernel_rfl) hb, addD hd, ix_l m3_lt, ldn (by kernel_rfl) hx, ix_l m3_lt, ld_l (by kernel_rfl) hx, neZ (fun z => by kernel_rfl) hf, (store4 (by kernel_rfl) (by kernel_rfl : _ = some (AO.cells [gU (.ofNat 0), gU (.ofNat 0), gU (.ofNat 0), gU (.ofNat 0)] true)) rfl (by rfl)).trans (by kernel_rfl), ix_l m3_lt, (st_l (by kernel_rfl) hv.four m3_lt).trans (by kernel_rfl), app_b (br := (x.now, .ofNat (d + 1))) hbl (by kernel_rfl) (by kernel_rfl) rfl (fun _ => by kernel_rfl) (fun hb0 => by subst hb0; kernel_rfl), .inr ⟨hi, (t ++ [(Int.ofNat (d + 1), x.now)]), (q.set (m3 z1) ⟨.ofNat (d + 1), x.now, x.o0, x.o1⟩), (bs ++ [(x.now, Int.ofNat (d + 1))]), (d + 1), (hv.new hx hb hf), by omega, rfl, ?_⟩⟩) fun h => nlt' hi h⟩)).mono fun r hr => hr.can
  rw [wI hi (by omega)]
  rw [← Bv_app (bs := bs) (br := (x.now, .ofNat (d + 1)))]
  exact toD22 hO hA (by kernel_rfl) (by kernel_rfl) (by rw [Bx_app]; kernel_rfl)
theorem round_e (I : SlArg EG 62 3 0 l.length A O (l.flatMap encD)) (hO : Came O) (hA : KeptV 1 A) (hv : Inv t q bs d) (hd : d < 1000) (hbl : bs.length < 90000) (hll : l.length < 90000) (hi : i < l.length) (hl : l[i]? = some (kd, z1, z2)) (h1 : eqF kd (.ofNat 1) = false) (h2 : eqF kd (.ofNat 2) = true) (hx : q[m3 z1]? = some x) (hf : eqF x.bef (.ofNat 0) = false) :
    Trip Try.prog 1 none LD (frD A (Bv 2 bs) d i) (SD O (rowL q) (Bx bs)) (QD A O l.length i q bs d) := by
  refine (Trip.runY EGok (sum := onlyC [21] (tabC [])) (onlyC_ok (tabC_ok fun w he => by cases he)) (Eq.mp (vcRe (tabC []) A (Bv 2 bs) O (rowL q) (Bx bs) .dead (rowL (q.set (m3 z1) ⟨x.now, .ofNat 0, x.bef, x.o0⟩)) l.length i d (m3 z1) (m3 z2) d bs.length z1 z2 kd x l1 (QD A O l.length i q bs d))
    ⟨I.len _, ifB_mk (fun _ => ⟨ix_d I hi, ld_d (j := 1) I hl rfl (by kernel_rfl), and_d (fun z => by kernel_rfl), ix_d I hi, ld_d (j := 2) I hl rfl (by kernel_rfl), and_d (fun z => by kernel_rfl), ix_d I hi, ld_d (j := 0) I hl rfl (by kernel_rfl), eqK (fun z => by kernel_rfl) h1, eqK (fun z => by kernel_rfl) h2, ix_l m3_lt, ld_l (by kernel_rfl) hx, neZ (fun z => by kernel_rfl) hf, ix_l m3_lt, (st_l (by kernel_rfl) hv.four m3_lt).trans (by kernel_rfl), .inr ⟨hi, t, (q.set (m3 z1) ⟨x.now, .ofNat 0, x.bef, x.o0⟩), bs, d, (hv.set ((hv.lines x (List.mem_of_getElem? hx)).ended hf)), by omega, rfl, ?_⟩⟩) fun h => nlt' hi h⟩)).mono fun r hr => hr.can
  rw [wI hi (by omega)]
  exact toD2 hO hA (by kernel_rfl) (by kernel_rfl) (by kernel_rfl)
theorem round_f (I : SlArg EG 62 3 0 l.length A O (l.flatMap encD)) (hO : Came O) (hA : KeptV 1 A) (hv : Inv t q bs d) (hd : d < 1000) (hbl : bs.length < 90000) (hll : l.length < 90000) (hi : i < l.length) (hl : l[i]? = some (kd, z1, z2)) (h1 : eqF kd (.ofNat 1) = false) (h2 : eqF kd (.ofNat 2) = true) (hx : q[m3 z1]? = some x) (hf : eqF x.bef (.ofNat 0) = true) :
    Trip Try.prog 1 none LD (frD A (Bv 2 bs) d i) (SD O (rowL q) (Bx bs)) (QD A O l.length i q bs d) := by
  refine (Trip.runY EGok (sum := onlyC [21] (tabC [])) (onlyC_ok (tabC_ok fun w he => by cases he)) (Eq.mp (vcRf (tabC []) A (Bv 2 bs) O (rowL q) (Bx bs) .dead (rowL (q.set (m3 z1) x)) l.length i d (m3 z1) (m3 z2) d bs.length z1 z2 kd x l1 (QD A O l.length i q bs d))
    ⟨I.len _, ifB_mk (fun _ => ⟨ix_d I hi, ld_d (j := 1) I hl rfl (by kernel_rfl), and_d (fun z => by kernel_rfl), ix_d I hi, ld_d (j := 2) I hl rfl (by kernel_rfl), and_d (fun z => by kernel_rfl), ix_d I hi, ld_d (j := 0) I hl rfl (by kernel_rfl), eqK (fun z => by kernel_rfl) h1, eqK (fun z => by kernel_rfl) h2, ix_l m3_lt, ld_l (by kernel_rfl) hx, neZ (fun z => by kernel_rfl) hf, ix_l m3_lt, (st_l (by kernel_rfl) hv.four m3_lt).trans (by kernel_rfl), .inr ⟨hi, t, (q.set (m3 z1) x), bs, d, (hv.set (hv.lines x (List.mem_of_getElem? hx))), by omega, rfl, ?_⟩⟩) fun h => nlt' hi h⟩)).mono fun r hr => hr.can
  rw [wI hi (by omega)]
  exact toD2 hO hA (by kernel_rfl) (by kernel_rfl) (by kernel_rfl)
theorem round_g (I : SlArg EG 62 3 0 l.length A O (l.flatMap encD)) (hO : Came O) (hA : KeptV 1 A) (hv : Inv t q bs d) (hd : d < 1000) (hbl : bs.length < 90000) (hll : l.length < 90000) (hi : i < l.length) (hl : l[i]? = some (kd, z1, z2)) (h1 : eqF kd (.ofNat 1) = false) (h2 : eqF kd (.ofNat 2) = false) (h3 : eqF kd (.ofNat 3) = true) (hy : q[m3 z2]? = some y) :
    Trip Try.prog 1 none LD (frD A (Bv 2 bs) d i) (SD O (rowL q) (Bx bs)) (QD A O l.length i q bs d) := by
  refine (Trip.runY EGok (sum := onlyC [21] (tabC [])) (onlyC_ok (tabC_ok fun w he => by cases he)) (Eq.mp (vcRg (tabC []) A (Bv 2 bs) O (rowL q) (Bx bs) .dead (rowL (q.set (m3 z1) y)) l.length i d (m3 z1) (m3 z2) d bs.length z1 z2 kd l1 y (QD A O l.length i q bs d))
    ⟨I.len _, ifB_mk (fun _ => ⟨ix_d I hi, ld_d (j := 1) I hl rfl (by kernel_rfl), and_d (fun z => by kernel_rfl), ix_d I hi, ld_d (j := 2) I hl rfl (by kernel_rfl), and_d (fun z => by kernel_rfl), ix_d I hi, ld_d (j := 0) I hl rfl (by kernel_rfl), eqK (fun z => by kernel_rfl) h1, eqK (fun z => by kernel_rfl) h2, eqK (fun z => by kernel_rfl) h3, ix_l m3_lt, ld_l (by kernel_rfl) hy, ix_l m3_lt, (st_l (by kernel_rfl) hv.four m3_lt).trans (by kernel_rfl), .inr ⟨hi, t, (q.set (m3 z1) y), bs, d, (hv.set (hv.lines y (List.mem_of_getElem? hy))), by omega, rfl, ?_⟩⟩) fun h => nlt' hi h⟩)).mono fun r hr => hr.can
  rw [wI hi (by omega)]
  exact toD2 hO hA (by kernel_rfl) (by kernel_rfl) (by kernel_rfl)
theorem round_h (I : SlArg EG 62 3 0 l.length A O (l.flatMap encD)) (hO : Came O) (hA : KeptV 1 A) (hv : Inv t q bs d) (hd : d < 1000) (hbl : bs.length < 90000) (hll : l.length < 90000) (hi : i < l.length) (hl : l[i]? = some (kd, z1, z2)) (h1 : eqF kd (.ofNat 1) = false) (h2 : eqF kd (.ofNat 2) = false) (h3 : eqF kd (.ofNat 3) = false) (h4 : eqF kd (.ofNat 4) = true) :
    Trip Try.prog 1 none LD (frD A (Bv 2 bs) d i) (SD O (rowL q) (Bx bs)) (QD A O l.length i q bs d) := by
  refine (Trip.runY EGok (sum := onlyC [21] (tabC [])) (onlyC_ok (tabC_ok fun w he => by cases he)) (Eq.mp (vcRh (tabC []) A (Bv 2 bs) O (rowL q) (Bx bs) .dead (rowL (q.set (m3 z1) ⟨.ofNat 0, .ofNat 0, .ofNat 0, .ofNat 0⟩)) l.length i d (m3 z1) (m3 z2) d bs.length z1 z2 kd l1 l1 (QD A O l.length i q bs d))
    ⟨I.len _, ifB_mk (fun _ => ⟨ix_d I hi, ld_d (j := 1) I hl rfl (by kernel_rfl), and_d (fun z => by kernel_rfl), ix_d I hi, ld_d (j := 2) I hl rfl (by kernel_rfl), and_d (fun z => by kernel_rfl), ix_d I hi, ld_d (j := 0) I hl rfl (by kernel_rfl), eqK (fun z => by kernel_rfl) h1, eqK (fun z => by kernel_rfl) h2, eqK (fun z => by kernel_rfl) h3, eqK (fun z => by kernel_rfl) h4, ix_l m3_lt, (st_l (by kernel_rfl) hv.four m3_lt).trans (by kernel_rfl), .inr ⟨hi, t, (q.set (m3 z1) ⟨.ofNat 0, .ofNat 0, .ofNat 0, .ofNat 0⟩), bs, d, (hv.set (.inl (eqF_self _))), by omega, rfl, ?_⟩⟩) fun h => nlt' hi h⟩)).mono fun r hr => hr.can
  rw [wI hi (by omega)]
  exact toD2 hO hA (by kernel_rfl) (by kernel_rfl) (by kernel_rfl)
theorem round_j (I : SlArg EG 62 3 0 l.length A O (l.flatMap encD)) (hO : Came O) (hA : KeptV 1 A) (hv : Inv t q bs d) (hd : d < 1000) (hbl : bs.length < 90000) (hll : l.length < 90000) (hi : i < l.length) (hl : l[i]? = some (kd, z1, z2)) (h1 : eqF kd (.ofNat 1) = false) (h2 : eqF kd (.ofNat 2) = false) (h3 : eqF kd (.ofNat 3) = false) (h4 : eqF kd (.ofNat 4) = false) :
    Trip Try.prog 1 none LD (frD A (Bv 2 bs) d i) (SD O (rowL q) (Bx bs)) (QD A O l.length i q bs d) := by
  refine (Trip.runY EGok (sum := onlyC [21] (tabC [])) (onlyC_ok (tabC_ok fun w he => by cases he)) (Eq.mp (vcRj (tabC []) A (Bv 2 bs) O (rowL q) (Bx bs) .dead (rowL q) l.length i d (m3 z1) (m3 z2) d bs.length z1 z2 kd l1 l1 (QD A O l.length i q bs d))
    ⟨I.len _, ifB_mk (fun _ => ⟨ix_d I hi, ld_d (j := 1) I hl rfl (by kernel_rfl), and_d (fun z => by kernel_rfl), ix_d I hi, ld_d (j := 2) I hl rfl (by kernel_rfl), and_d (fun z => by kernel_rfl), ix_d I hi, ld_d (j := 0) I hl rfl (by kernel_rfl), eqK (fun z => by kernel_rfl) h1, eqK (fun z => by kernel_rfl) h2, eqK (fun z => by kernel_rfl) h3, eqK (fun z => by kernel_rfl) h4, .inr ⟨hi, t, q, bs, d, hv, by omega, rfl, ?_⟩⟩) fun h => nlt' hi h⟩)).mono fun r hr => hr.can
  rw [wI hi (by omega)]
  exact toD2 hO hA (by kernel_rfl) (by kernel_rfl) (by kernel_rfl)
theorem round_end (I : SlArg EG 62 3 0 l.length A O (l.flatMap encD)) (hi : i = l.length) :
    Trip Try.prog 1 none LD (frD A (Bv 2 bs) d i) (SD O (rowL q) (Bx bs)) (QD A O l.length i q bs d) := by
  refine (Trip.runY EGok (sum := onlyC [21] (tabC [])) (onlyC_ok (tabC_ok fun w he => by cases he)) (Eq.mp (vcRj (tabC []) A (Bv 2 bs) O (rowL q) (Bx bs) .dead .dead l.length i d 0 0 0 0 0 0 0 l1 l1 (QD A O l.length i q bs d))
    ⟨I.len _, ifB_mk (fun h => ?_) fun _ => .inl ⟨hi, rfl, Wk.refl _ _ _⟩⟩)).mono fun r hr => hr.can
  rw [ltF_nn, hi] at h
  exact absurd (of_decide_eq_true h) (by omega)
theorem round (I : SlArg EG 62 3 0 l.length A O (l.flatMap encD)) (hO : Came O) (hA : KeptV 1 A) (hv : Inv t q bs d) (hd : d < 1000) (hll : l.length < 90000) (hi : i ≤ l.length) :
    Trip Try.prog 1 none LD (frD A (Bv 2 bs) d i) (SD O (rowL q) (Bx bs)) (QD A O l.length i q bs d) := by
  by_cases he : i = l.length
  · exact round_end I he
  · have hi2 : i < l.length := by omega
    have hbl : bs.length < 90000 := by have := hv.len; omega
    obtain ⟨⟨kd, z1, z2⟩, hl⟩ : ∃ x, l[i]? = some x := ⟨_, List.getElem?_eq_getElem hi2⟩
    have g : ∀ z, ∃ x, q[m3 z]? = some x := fun z => ⟨_, List.getElem?_eq_getElem (by rw [hv.four]; exact m3_lt)⟩
    obtain ⟨x, hx⟩ := g z1
    obtain ⟨y, hy⟩ := g z2
    cases h1 : eqF kd (.ofNat 1) with
    | true =>
      cases hb : eqF x.now (.ofNat 0) with
      | true => exact round_b I hO hA hv hd hbl hll hi2 hl h1 hx hb
      | false =>
        cases hf : eqF x.bef (.ofNat 0) with
        | true => exact round_u I hO hA hv hd hbl hll hi2 hl h1 hx hb hf
        | false => exact round_n I hO hA hv hd hbl hll hi2 hl h1 hx hb hf
    | false =>
      cases h2 : eqF kd (.ofNat 2) with
      | true =>
        cases hf : eqF x.bef (.ofNat 0) with
        | true => exact round_f I hO hA hv hd hbl hll hi2 hl h1 h2 hx hf
        | false => exact round_e I hO hA hv hd hbl hll hi2 hl h1 h2 hx hf
      | false =>
        cases h3 : eqF kd (.ofNat 3) with
        | true => exact round_g I hO hA hv hd hbl hll hi2 hl h1 h2 h3 hy
        | false =>
          cases h4 : eqF kd (.ofNat 4) with
          | true => exact round_h I hO hA hv hd hbl hll hi2 hl h1 h2 h3 h4
          | false => exact round_j I hO hA hv hd hbl hll hi2 hl h1 h2 h3 h4
end
end Go.Proofs.Ytidmijpfoodkoaa.gho.gl
end

section
open Go Go.Ax Go.Proofs
namespace Go.Proofs.Ytidmijpfoodkoaa.gho.gl
set_option linter.unusedVariables false
section
variable {t : List (Int × Int)} {q : List Ln} {bs : List Br} {l : List Dd} {d w i k n : Nat} {x y : Ln} {A : AV} {O : AO} {S : ASt} {g : Int} {r : Exit × AFr × ASt}
theorem Bv_sl (hb : bs ≠ []) : SlArg EO 49 2 0 bs.length (.slice (some (0, 0)) bs.length (.atl bs.length)) (.cells (bs.flatMap encB) false) (bs.flatMap encB) := SlArg.row (by kernel_rfl)
theorem of_own (hS : bs ≠ [] → S.h.get 2 = some (Bx bs)) (hn : 3 ≤ S.next) (hbl : bs.length < 80000) (h : ofR g bs = .ok t) :
    Call1 Try.prog 22 [gU g, Bv 2 bs] S (.tuple [pO (S.next + 1), nI 0], outS (S.next + ·) [(1, .cells [.map (some (S.next + 2)), vT (S.next + 3) t] true), (2, mO t), (3, rT t)] S (S.next + 100)) := by
  have hb : ∀ gg : Nat → Nat, (∀ j, 1 ≤ j → gg j = S.next + j) → ∀ {O : AO} (v : AV × ASt), v = (.tuple [pO 1, nI 0], SOt O t) → BackV gg v.1 (.tuple [pO (S.next + 1), nI 0]) ∧ v.2.next ≤ 100 ∧ ∀ p, p ∈ [(1, AO.cells [.map (some (S.next + 2)), vT (S.next + 3) t] true), (2, mO t), (3, rT t)] → p.2 = .dead ∨ p.2.own = true ∧ ∃ a, v.2.h.get p.1 = some a ∧ BackO gg a p.2 := fun gg hg O v hv => by
    subst hv
    refine ⟨.eq (by simp [mapV, mapVs, pO, nI, hg]), by show 4 ≤ 100; decide, fun p hp => ?_⟩
    simp only [List.mem_cons, List.not_mem_nil, or_false] at hp
    rcases hp with rfl | rfl | rfl
    · exact .inr ⟨rfl, _, (by kernel_rfl : _ = some (tA (vT 3 t))), .cells (by simp [mapVs, mapV, vT, hg])⟩
    · exact .inr ⟨rfl, _, (by kernel_rfl : _ = some (mO t)), mO_back⟩
    · exact .inr ⟨rfl, _, (by kernel_rfl : _ = some (rT t)), .row gU_refs⟩
  have hot : ∀ p, p ∈ [(1, AO.cells [.map (some (S.next + 2)), vT (S.next + 3) t] true), (2, mO t), (3, rT t)] → 1 ≤ p.1 ∧ p.1 < 100 := fun p hp => by
    simp only [List.mem_cons, List.not_mem_nil, or_false] at hp
    rcases hp with rfl | rfl | rfl <;> simp
  cases bs with
  | nil =>
    have hrun : ∀ B w0 ι W args', (∀ i, ¬ B.rs i) → SR B w0 ι (S0 .dead) W → VRs ι [gU g, nilA] args' → (callFunc 22 args').run Try.prog W = .ok (.enter 22 args') W ∧ CallsIn Fence.wide 0 Try.prog 22 args' W fun e w' => ∃ v, v = (AV.tuple [pO 1, nI 0], SOt .dead t) ∧ Post B w0 ι v e w' := fun B w0 ι W args' hB hsr hv => by
      have := of_run (A := nilA) (O := .dead) (bs := []) (g := g) (SlArg.none (by kernel_rfl)) (.inl ⟨rfl, fun ids => rfl⟩) (fun ids _ => rfl) (by simp) B w0 ι W args' hB hsr hv
      rw [h] at this
      exact this
    have hg : ∀ j, 1 ≤ j → gK 0 S.next j = S.next + j := fun j _ => by
      unfold gK
      cases h : Nat.blt j 0 with
      | false => rfl
      | true => rw [Nat.blt_eq] at h; omega
    have hout : outS (S.next + ·) [(1, AO.cells [.map (some (S.next + 2)), vT (S.next + 3) t] true), (2, mO t), (3, rT t)] S (S.next + 100) = outS (gK 0 S.next) [(1, .cells [.map (some (S.next + 2)), vT (S.next + 3) t] true), (2, mO t), (3, rT t)] S (S.next + 100) := by
      unfold outS
      simp only [List.foldl_cons, List.foldl_nil, hg 1 (by decide), hg 2 (by decide), hg 3 (by decide)]
    rw [hout]
    refine Call1.same (S := S) (S1 := S0 .dead) 0 1 (by decide) hrun rfl (fun j hj => absurd hj (by omega)) (fun j x hj => ?_) (fun v hv => ?_) fun v hv => ?_
    · obtain ⟨rfl, rfl⟩ := get1' hj
      exact ⟨by decide, fun h => absurd rfl h⟩
    · simp only [List.mem_cons, List.not_mem_nil, or_false] at hv
      rcases hv with rfl | rfl <;> rfl
    · obtain ⟨b1, b2, b3⟩ := hb _ hg v hv
      refine ⟨b1, by omega, by omega, fun p hp => ?_, fun j x hj ho => ?_⟩
      · obtain ⟨c1, c2⟩ := hot p hp
        exact ⟨by rw [hg _ c1]; omega, .inr c1, fun h => absurd h (by omega), b3 p hp⟩
      · obtain ⟨rfl, rfl⟩ := get1' hj
        cases ho
  | cons x bs =>
    have hO : CameF (.cells ((x :: bs).flatMap encB) false) (.slice (some (0, 0)) (x :: bs).length (.atl (x :: bs).length)) := .inr ⟨_, rfl, encB_ref⟩
    have hA : KeptV 1 (.slice (some (0, 0)) (x :: bs).length (.atl (x :: bs).length)) := fun ids hp => by
      have := idx_pre hp (i := 0) (by decide)
      rw [Nat.zero_add] at this
      simp [renV, this]
    refine Call1.frameR (S := S) (args := [gU g, .slice (some (2, 0)) (x :: bs).length (.rest 2)]) (S1 := S0 (.cells ((x :: bs).flatMap encB) false)) (args1 := [gU g, .slice (some (0, 0)) (x :: bs).length (.atl (x :: bs).length)]) (Q1 := fun v => v = (.tuple [pO 1, nI 0], SOt (.cells ((x :: bs).flatMap encB) false) t)) (fun B w0 ι W args' hB hsr hv => ?_) (l := [(2, 0, (x :: bs).flatMap encB)]) rfl (fun j y hj => ?_) (fun j p hp => ?_) (fun ι args' hv => ⟨hv.size, fun i y y' hy hy' => ?_⟩) fun v hv => ?_
    · have := of_run (g := g) (Bv_sl (bs := x :: bs) (by simp)) hO hA hbl B w0 ι W args' hB hsr hv
      rw [h] at this
      exact this
    · obtain ⟨rfl, rfl⟩ := get1' hj
      exact ⟨_, rfl, rfl⟩
    · match j, hp with
      | 0, hp =>
        simp only [List.getElem?_cons_zero, Option.some.injEq] at hp
        subst hp
        exact ⟨by simp [encB], encB_ref, _, true, hS (by simp), by simp only [takeL_all]⟩
      | j + 1, hp => simp at hp
    · match i, hy with
      | 0, hy => simp at hy; subst hy; exact (hv.at_ 0 _ y' rfl hy').noRef (by simp [refsV, gU])
      | 1, hy => simp at hy; subst hy; exact VR.rowR (l := [(2, 0, (x :: bs).flatMap encB)]) rfl rfl rfl (hv.at_ 1 _ y' rfl hy')
      | i + 2, hy => simp at hy
    · obtain ⟨b1, b2, b3⟩ := hb _ (fun j _ => rfl) v hv
      refine ⟨b1, by omega, by show S.next + 1 ≤ S.next + 100; omega, fun p hp => ?_⟩
      obtain ⟨c1, c2⟩ := hot p hp
      exact ⟨c1, by omega, b3 p hp⟩
theorem loopD (I : SlArg EG 62 3 0 l.length A O (l.flatMap encD)) (hO : Came O) (hA : KeptV 1 A) (hll : l.length ≤ 60) :
    Trip Try.prog 1 none (.block 2 (.loop LD)) (frD A nilA 1 0) (SD O (rowL [l1, l1, l1, l1]) .dead) fun r => ∃ t q bs d, Inv t q bs d ∧ d ≤ l.length + 1 ∧ Stops 1 .normal (frD A (Bv 2 bs) d l.length) (SD O (rowL q) (Bx bs)) r := by
  refine Trip.block (Trip.loop (fun μ fr st => ∃ i t q bs d, i ≤ l.length ∧ μ = l.length - i ∧ Inv t q bs d ∧ d ≤ i + 1 ∧ fr = frD A (Bv 2 bs) d i ∧ st = SD O (rowL q) (Bx bs)) ?_ l.length ⟨0, _, _, [], 1, by omega, rfl, Inv.zero, by omega, rfl, rfl⟩)
  rintro μ fr st ⟨i, t, q, bs, d, hi, rfl, hv, hd, rfl, rfl⟩
  refine (round I hO hA hv (by omega) (by omega) hi).mono ?_
  rintro ⟨x, fr', st'⟩ (⟨h1, h2, h3⟩ | ⟨h0, t', q', bs', d', h1, h2, h3, h4⟩)
  · simp only at h2
    subst h2
    subst h1
    exact ⟨fun _ => ⟨t, q, bs, d, hv, hd, rfl, h3⟩, fun h => absurd rfl h⟩
  · simp only at h3
    subst h3
    exact ⟨l.length - (i + 1), _, _, by omega, h4, i + 1, t', q', bs', d', by omega, rfl, h1, by omega, rfl, rfl⟩
noncomputable abbrev SGt (O : AO) (t : List (Int × Int)) (q : List Ln) : ASt := SG O (tA (vT 3 t)) (mO t) (rT t) (rowL q)
theorem toG {lf : List (Nat × AV)} (hO : Came O) (h0 : S.h.get 0 = some O) (h1 : S.h.get 1 = some (tA (vT 3 t))) (h2 : S.h.get 2 = some (mO t)) (h3 : S.h.get 3 = some (rT t)) (h4 : S.h.get 4 = some (rowL q)) : StP [0, 1, 2, 3, 4] S [(0, O), (1, tA (vT 3 t)), (2, mO t), (3, rT t), (4, rowL q)] :=
  .came hO rfl h0 <| .cons 1 (tA (vT 3 t)) rfl h1 (.of rfl) <| .cons 2 (mO t) rfl h2 mO_ren <| .cons 3 (rT t) rfl h3 (.row gU_refs) <| .cons 4 (rowL q) rfl h4 (.row enc4_ref) .nil
def QI (O : AO) (t : List (Int × Int)) (q : List Ln) (i k : Nat) (r : Exit × AFr × ASt) : Prop :=
  (k < 4 ∧ Stops 1 .normal (frK i (k + 1)) (SGt O t q) r) ∨ (k = 4 ∧ Stops 1 (.exit 7) (frK i k) (SGt O t q) r)
theorem QI.can {kf ko : List Nat} (h : QI O t q i k (canR kf ko r)) : QI O t q i k r := h.imp (fun h => ⟨h.1, h.2.can⟩) (fun h => ⟨h.1, h.2.can⟩)
theorem roundI (hO : Came O) (hv : Inv t q bs d) (hd : d < 1000) (hi : i < 4) (hk : k ≤ 4) : Trip Try.prog 1 none LI (frK i k) (SGt O t q) (QI O t q i k) := by
  obtain ⟨hT, htl⟩ := hv.tree
  have hlen := hv.len
  obtain ⟨x, hx⟩ : ∃ x, q[i]? = some x := ⟨_, List.getElem?_eq_getElem (by rw [hv.four]; exact hi)⟩
  have lx := hv.lines x (List.mem_of_getElem? hx)
  have hux := up_len (t := t) (g := x.now)
  by_cases e : k < 4
  · obtain ⟨y, hy⟩ : ∃ y, q[k]? = some y := ⟨_, List.getElem?_eq_getElem (by rw [hv.four]; exact e)⟩
    have ly := hv.lines y (List.mem_of_getElem? hy)
    have huy := up_len (t := t) (g := y.now)
    have c1 : Call1 Try.prog 32 [.ptr (some (1, 0)), x.av] (vcI_s0 O (tA (vT 3 t)) (mO t) (rT t) (rowL q)) (.bool true, vcI_s1 O (tA (vT 3 t)) (mO t) (rT t) (rowL q)) :=
      Call1.mem (by kernel_rfl) (fitsB_at (S := vcI_s0 O (tA (vT 3 t)) (mO t) (rT t) (rowL q)) (t := t) ⟨by kernel_rfl, by kernel_rfl, by kernel_rfl, Nat.le_of_ble_eq_true (by kernel_rfl)⟩ hT (by omega) lx.fit)
    have c2 : Call1 Try.prog 33 [.ptr (some (1, 0)), x.av, y.av] (vcI_s1 O (tA (vT 3 t)) (mO t) (rT t) (rowL q)) (.int .i64 (.ofNat (cmpV x y)), vcI_s2 O (tA (vT 3 t)) (mO t) (rT t) (rowL q)) := by
      rw [← says_cmp lx.fit ly.fit]
      exact Call1.mem (by kernel_rfl) (saysB_at (S := vcI_s1 O (tA (vT 3 t)) (mO t) (rT t) (rowL q)) (t := t) (x := x) (y := y) ⟨by kernel_rfl, by kernel_rfl, by kernel_rfl, Nat.le_of_ble_eq_true (by kernel_rfl)⟩ hT (by omega) (by omega))
    refine (Trip.runY EGok (sum := onlyC [32, 33, 34] (tabC [_, _, _])) (onlyC_ok (tabC_ok fun w he => by
      simp only [List.mem_cons, List.not_mem_nil, or_false] at he
      rcases he with rfl | rfl | rfl
      · exact c1
      · exact c2
      · exact (cmp_any lx.ok ly.ok : Call1 Try.prog 34 [x.av, y.av] (vcI_s2 O (tA (vT 3 t)) (mO t) (rT t) (rowL q)) _))) (Eq.mp (vcI (tabC [_, _, _]) i k (cmpV x y) x y O (tA (vT 3 t)) (mO t) (rT t) (rowL q) (QI O t q i k))
      (ifB_mk (fun _ => ⟨ix_l hi, ld_l (by kernel_rfl) hx, call_at (onlyC_at rfl (tabC_hd ..)), ix_l hi, ld_l (by kernel_rfl) hx, ix_l e, ld_l (by kernel_rfl) hy, call_at (onlyC_at rfl ((tabC_tlf rfl).trans (tabC_hd ..))), ix_l hi, ld_l (by kernel_rfl) hx, ix_l e, ld_l (by kernel_rfl) hy, call_at (onlyC_at rfl ((tabC_tlf rfl).trans ((tabC_tlf rfl).trans (tabC_hd ..)))), une (fun z => by kernel_rfl) _,
        ⟨⟨congrArg fstO (ld_l (by kernel_rfl) hx), ln_self⟩, ⟨congrArg fstO (ld_l (by kernel_rfl) hy), ln_self⟩, trivial⟩, .inl ⟨e, rfl, ?_⟩⟩) fun h => nlt' e h))).mono fun r hr => hr.can
    rw [wI e (by omega)]
    exact Wk.heldX (kb := 1) [0, 1, 2, 3, 4] (by kernel_rfl) (by kernel_rfl) [2, 3, 13, 15, 16] (by kernel_rfl) (toG (lf := []) hO (by kernel_rfl) (by kernel_rfl) (by kernel_rfl) (by kernel_rfl) (by kernel_rfl))
  · have ek : k = 4 := by omega
    refine (Trip.runY EGok (sum := onlyC [32, 33, 34] (tabC [])) (onlyC_ok (tabC_ok fun w he => by cases he)) (Eq.mp (vcI (tabC []) i k 0 x x O (tA (vT 3 t)) (mO t) (rT t) (rowL q) (QI O t q i k)) (ifB_mk (fun h => ?_) fun _ => .inr ⟨ek, rfl, Wk.refl _ _ _⟩))).mono fun r hr => hr.can
    rw [ltF_nn] at h
    exact absurd (of_decide_eq_true h) e
def QO2 (O : AO) (t : List (Int × Int)) (q : List Ln) (i : Nat) (r : Exit × AFr × ASt) : Prop :=
  (i < 4 ∧ Stops 1 .normal (frT (i + 1)) (SGt O t q) r) ∨ (i = 4 ∧ Stops 1 (.exit 5) (frT i) (SGt O t q) r)
theorem LOa : LO = .seq HO (.seq (.block 6 BX) RO) := by kernel_rfl
theorem BXa : BX = .seq (seqL BX) (.block 7 (.loop LI)) := by kernel_rfl
theorem roundO2 (hO : Came O) (hv : Inv t q bs d) (hd : d < 1000) (hi : i ≤ 4) : Trip Try.prog 1 none LO (frT i) (SGt O t q) (QO2 O t q i) := by
  rw [LOa]
  refine Trip.seq (R := fun r => (i < 4 ∧ Stops 1 .normal (frT i) (SGt O t q) r) ∨ (i = 4 ∧ Stops 1 (.exit 5) (frT i) (SGt O t q) r)) ?_ (fun fr' st' hq => ?_) (fun e fr' st' hne hq => ?_)
  · refine (Trip.runY EGok noSum_ok (Eq.mp (vcO1 i O (tA (vT 3 t)) (mO t) (rT t) (rowL q) (fun r => (i < 4 ∧ Stops 1 .normal (frT i) (SGt O t q) r) ∨ (i = 4 ∧ Stops 1 (.exit 5) (frT i) (SGt O t q) r))) (ifB_mk (fun h => .inl ⟨?_, rfl, Wk.refl _ _ _⟩) fun h => .inr ⟨?_, rfl, Wk.refl _ _ _⟩))).mono fun r hr => hr.imp (fun h => ⟨h.1, h.2.can⟩) (fun h => ⟨h.1, h.2.can⟩)
    · have h' : ltF (Int.ofNat i) (Int.ofNat 4) = true := h
      rw [ltF_nn] at h'
      exact of_decide_eq_true h'
    · have h' : ltF (Int.ofNat i) (Int.ofNat 4) = false := h
      rw [ltF_nn] at h'
      have := of_decide_eq_false h'
      omega
  · rcases hq with ⟨h1, _, h2⟩ | ⟨_, h2, _⟩
    · refine Trip.less h2 ?_
      refine Trip.seq (R := Stops 1 .normal (frK i 4) (SGt O t q)) ?_ (fun fr' st' hq => ?_) (fun e fr' st' hne hq => absurd hq.1 hne)
      · refine Trip.block ?_
        rw [BXa]
        refine Trip.seqC EGok noSum_ok (n := 60) [2, 3, 13, 15, 16] [0, 1, 2, 3, 4] (F := frK i 0) (S := SGt O t q) (by kernel_rfl) ?_
        refine Trip.weak (Q := Stops 1 .normal (frK i 4) (SGt O t q)) ?_ (fun s hs => ⟨_, _, hs.2, ?_⟩)
        · refine Trip.block (Trip.loop (fun μ fr st => ∃ k, k ≤ 4 ∧ μ = 4 - k ∧ fr = frK i k ∧ st = SGt O t q) ?_ 4 ⟨0, by omega, rfl, rfl, rfl⟩)
          rintro μ fr st ⟨k, hk, rfl, rfl, rfl⟩
          refine (roundI hO hv hd h1 hk).mono ?_
          rintro ⟨x, fr', st'⟩ (⟨h0, h2, h3⟩ | ⟨h0, h2, h3⟩)
          · simp only at h2
            subst h2
            exact ⟨4 - (k + 1), _, _, by omega, h3, k + 1, by omega, rfl, rfl, rfl⟩
          · simp only at h2
            subst h2
            subst h0
            exact ⟨fun _ => ⟨rfl, h3⟩, fun h => absurd rfl h⟩
        · rw [hs.1]
          exact ⟨rfl, Wk.refl _ _ _⟩
      · refine Trip.less hq.2 ?_
        refine (Trip.runY EGok noSum_ok (Eq.mp (vcO2 i 4 O (tA (vT 3 t)) (mO t) (rT t) (rowL q) (fun r => i < 4 ∧ Stops 1 .normal (frT (i + 1)) (SGt O t q) r)) ⟨h1, rfl, ?_⟩)).mono fun r hr => .inl ⟨hr.1, hr.2.can⟩
        rw [wI h1 (by omega)]
        exact Wk.refl _ _ _
    · cases h2
  · rcases hq with ⟨_, h2, _⟩ | ⟨h1, h2, h3⟩
    · exact absurd h2 hne
    · exact .inr ⟨h1, h2, h3⟩
end
end Go.Proofs.Ytidmijpfoodkoaa.gho.gl
end

section
open Go Go.Ax Go.Proofs
namespace Go.Proofs.Ytidmijpfoodkoaa.gho.gl
set_option linter.unusedVariables false
section
variable {t : List (Int × Int)} {q : List Ln} {bs : List Br} {l : List Dd} {d w i k n : Nat} {x y : Ln} {A : AV} {O : AO} {S : ASt} {g : Int} {r : Exit × AFr × ASt}
def QL (r : Exit × AFr × ASt) : Prop := (r.1 = .normal ∨ r.1 = .ret) ∧ ans (leaveA EG Try.f7 r.2.1 r.2.2) = some (.bool true)
theorem preRetL {kb : Nat} {sum : CallT} (hs : CallsOK Try.prog sum) {k : Nat} {cd : Code} {n : Nat} {fls : List (Nat × Fl)} {rf fl : Fl} {fr : AFr} {st : ASt} {y : An} (hc : hasC k cd = true)
    (h : ((TM EG sum fls rf n).ex fl none (preC k cd) fr st).allY (fun r => (r.1, ans (leaveA EG Try.f7 r.2.1 r.2.2)) = (.ret, some (.bool true))) y) : Trip Try.prog kb none cd fr st QL := by
  obtain ⟨r, h1, h2⟩ := TM_ex (Tr.allY_all _ y h)
  have h3 : r.1 = .ret := congrArg Prod.fst h2
  exact Trip.preX EGok hs k cd n fr st r hc h1 (fun hr => by rw [h3] at hr; cases hr) (fun hr => ⟨.inr h3, congrArg Prod.snd h2⟩)
theorem c5a : dropC 5 c7 = .seq (.seq (seqL (seqL (dropC 5 c7))) (.block 2 (.loop LD))) (dropC 6 c7) := by kernel_rfl
theorem c8a : dropC 8 c7 = .seq (.seq (seqL (seqL (dropC 8 c7))) (.block 5 (.loop LO))) (dropC 9 c7) := by kernel_rfl
theorem tail8 (hO : Came O) (hv : Inv t q bs d) (hd : d < 1000) : Trip Try.prog 1 none (dropC 8 c7) (xFr [(2, .bool false), (3, pO 4), (13, pO 1)] 146) (SGt O t q) QL := by
  rw [c8a]
  refine Trip.seq (R := Stops 1 .normal (frT 4) (SGt O t q)) ?_ (fun fr' st' hq => ?_) (fun e fr' st' hne hq => absurd hq.1 hne)
  · refine Trip.seqC EGok noSum_ok (n := 60) [2, 3, 13, 15] [0, 1, 2, 3, 4] (F := frT 0) (S := SGt O t q) (by kernel_rfl) ?_
    refine Trip.block (Trip.loop (fun μ fr st => ∃ k, k ≤ 4 ∧ μ = 4 - k ∧ fr = frT k ∧ st = SGt O t q) ?_ 4 ⟨0, by omega, rfl, rfl, rfl⟩)
    rintro μ fr st ⟨k, hk, rfl, rfl, rfl⟩
    refine (roundO2 hO hv hd hk).mono ?_
    rintro ⟨x, fr', st'⟩ (⟨h0, h2, h3⟩ | ⟨h0, h2, h3⟩)
    · simp only at h2
      subst h2
      exact ⟨4 - (k + 1), _, _, by omega, h3, k + 1, by omega, rfl, rfl, rfl⟩
    · simp only at h2
      subst h2
      subst h0
      exact ⟨fun _ => ⟨rfl, h3⟩, fun h => absurd rfl h⟩
  · refine Trip.less hq.2 ?_
    refine (Trip.runY EGok (sum := onlyC [21] (tabC [_])) (onlyC_ok (tabC_ok fun w he => by
      simp only [List.mem_cons, List.not_mem_nil, or_false] at he
      subst he
      exact (known_at : Call1 Try.prog 21 [] (vcZ_s0 O (tA (vT 3 t)) (mO t) (rT t) (rowL q)) _))) (Eq.mp (vcZ (tabC [_]) 4 0 O (tA (vT 3 t)) (mO t) (rT t) (rowL q) (fun q => q = (.ret, some (.bool true)))) ⟨call_at (onlyC_at rfl (tabC_hd ..)), rfl⟩)).mono fun r hr => ⟨.inr (congrArg Prod.fst hr), congrArg Prod.snd hr⟩
theorem tail6 (hO : Came O) (hv : Inv t q bs d) (hd : d < 1000) : Trip Try.prog 1 none (dropC 6 c7) (frD A (Bv 2 bs) d i) (SD O (rowL q) (Bx bs)) QL := by
  have hlen := hv.len
  refine Trip.preY EGok (sum := onlyC [22] (tabC [_])) (onlyC_ok (tabC_ok fun w he => by
    simp only [List.mem_cons, List.not_mem_nil, or_false] at he
    subst he
    exact Call1.mem (by kernel_rfl : _ = vcOf_s1 (vT 6 t) O (rowL q) (Bx bs) (mO t) (rT t)) (of_own (S := vcOf_s0 O (rowL q) (Bx bs)) (g := .ofNat 1) (t := t) (bs := bs) (fun _ => by kernel_rfl) (Nat.le_of_ble_eq_true (by kernel_rfl)) (by omega) hv.ofR))) (k := 1) (kf := [2, 3, 13]) (ko := KO130) (by kernel_rfl) (Q1 := fun r => r = (.normal, xFr [(2, .bool false), (3, .ptr (some (1, 0))), (13, .ptr (some (4, 0)))] 146, vcOf_s1 (vT 6 t) O (rowL q) (Bx bs) (mO t) (rT t)))
    (Eq.mp (vcOf (tabC [_]) A (Bv 2 bs) (vT 6 t) d i O (rowL q) (Bx bs) (mO t) (rT t) (fun r => r = (.normal, xFr [(2, .bool false), (3, .ptr (some (1, 0))), (13, .ptr (some (4, 0)))] 146, vcOf_s1 (vT 6 t) O (rowL q) (Bx bs) (mO t) (rT t)))) ⟨call_at (onlyC_at rfl (tabC_hd ..)), rfl⟩) (fun F S hq => ?_) (fun r hne hq => absurd (congrArg Prod.fst hq) hne)
  cases hq
  have e1 : dropC 1 (dropC 6 c7) = dropC 8 c7 := by kernel_rfl
  rw [e1]
  refine Trip.less (fr' := xFr [(2, .bool false), (3, pO 4), (13, pO 1)] 146) (st' := SGt O t q) ?_ (tail8 hO hv hd)
  exact Wk.heldX (kb := 1) [0, 4, 5, 6, 1] (by kernel_rfl) (by kernel_rfl) [2, 3, 13] (by kernel_rfl) (.came hO rfl (by kernel_rfl) <| .cons 4 (.cells [.map (some 5), vT 6 t] true) rfl (by kernel_rfl) (.of rfl) <| .cons 5 (mO t) rfl (by kernel_rfl) mO_ren <| .cons 6 (rT t) rfl (by kernel_rfl) (.row gU_refs) <| .cons 1 (rowL q) rfl (by kernel_rfl) (.row enc4_ref) .nil)
theorem law (I : SlArg EG 62 3 0 l.length A O (l.flatMap encD)) (hO : Came O) (hA : KeptV 1 A) : Trip Try.prog 1 none c7 (F7 A) (S0 O) QL := by
  have hgt : ∀ {S : ASt} {w : Bool}, decide (60 < l.length) = w → still S (aBin EG .gtr 3 (.tmp 18) (.const (.int .i64 60)) (.int .i64 (.ofNat l.length)) (.int .i64 (.ofNat 60))) = some (.bool w, S) := fun {S w} hw => by
    have h : ∀ w : Int, aBin EG .gtr 3 (.tmp 18) (.const (.int .i64 60)) (.int .i64 w) (.int .i64 (.ofNat 60)) = some (.bool (ltF (.ofNat 60) w)) := fun w => by kernel_rfl
    rw [h, ltF_nn, hw]; rfl
  by_cases hl : 60 < l.length
  · exact preRetL (sum := onlyC [21] (tabC [_])) (onlyC_ok (tabC_ok fun w he => by
      simp only [List.mem_cons, List.not_mem_nil, or_false] at he
      subst he
      exact (known_at : Call1 Try.prog 21 [] (vcL1_s0 O) _))) (k := 1) (by kernel_rfl) (Eq.mp (vcL1 (tabC [_]) A O l.length (fun q => q = (.ret, some (.bool true)))) ⟨I.len _, hgt (decide_eq_true hl), call_at (onlyC_at rfl (tabC_hd ..)), rfl⟩)
  · refine Trip.preY EGok (sum := onlyC [21] (tabC [])) (onlyC_ok (tabC_ok fun w he => by cases he)) (k := 5) (kf := [0, 2, 3, 5, 6]) (ko := KO130) (by kernel_rfl) (Q1 := fun r => r = (.normal, xFr [(0, A), (2, .bool false), (3, .ptr (some (1, 0))), (5, .int .u64 (.ofNat 1)), (6, .slice none 0 (.known 0))] 146, vcL2_s1 O))
      (Eq.mp (vcL2 (tabC []) A O l.length (fun r => r = (.normal, xFr [(0, A), (2, .bool false), (3, .ptr (some (1, 0))), (5, .int .u64 (.ofNat 1)), (6, .slice none 0 (.known 0))] 146, vcL2_s1 O))) ⟨I.len _, hgt (decide_eq_false hl), rfl⟩) (fun F S hq => ?_) (fun r hne hq => absurd (congrArg Prod.fst hq) hne)
    cases hq
    rw [c5a]
    refine Trip.seq (R := fun r => ∃ t q bs d, Inv t q bs d ∧ d ≤ l.length + 1 ∧ Stops 1 .normal (frD A (Bv 2 bs) d l.length) (SD O (rowL q) (Bx bs)) r) ?_ (fun fr' st' hq => ?_) (fun e fr' st' hne hq => ?_)
    · refine Trip.seqC EGok noSum_ok (n := 60) [0, 2, 3, 5, 6, 7] [0, 1] (F := frD A nilA 1 0) (S := mkSt [(0, O), (1, rowL [l1, l1, l1, l1])] 2) (by kernel_rfl) ?_
      refine Trip.less (fr' := frD A nilA 1 0) (st' := SD O (rowL [l1, l1, l1, l1]) .dead) ?_ (loopD I hO hA (by omega))
      exact Wk.heldX (kb := 1) [0, 1, 2] (by kernel_rfl) (by kernel_rfl) [0, 2, 3, 5, 6, 7] (frE_cons (v := A) (by kernel_rfl) (hA _ (by kernel_rfl)) (by kernel_rfl)) (.came hO rfl (by kernel_rfl) <| .cons 1 (rowL [l1, l1, l1, l1]) rfl (by kernel_rfl) (.row enc4_ref) <| .dead (by decide) .nil)
    · obtain ⟨t, q, bs, d, hv, hd, _, hw⟩ := hq
      exact Trip.less hw (tail6 hO hv (by omega))
    · obtain ⟨t, q, bs, d, hv, hd, h1, hw⟩ := hq
      exact absurd h1 hne
end
end Go.Proofs.Ytidmijpfoodkoaa.gho.gl
end

section
open Go Go.Ax Go.Proofs.Ytidmijpfoodkoaa
namespace Go.Proofs.Ytidmijpfoodkoaa.gho.gl
set_option linter.unusedVariables false
noncomputable section
open Go.ChangeShapes Go.WideShapes Go.ChangeAt Go.RowKit Go.Deep
section
variable {H : Type} {enc : TypeId × Value → H} {P : Program} {w : World} {base : Nat} {spare : Nat → Bool} {held : Bool} {fuel : Nat} {t : TypeId} {cs : List Value} {x : DataW H × List MemPlace}
theorem fieldOf {fs : Array Field} (ht : P.underlying t = some (.struct fs)) (h : DataW.trod enc P w base spare held fuel t cs = some x) {i : Nat} {f : Field} (hi : fs[i]? = some f) :
    ∃ n y, DataW.trod enc P w base spare held n f.type ((cs.drop f.offset).take (P.cellsOf f.type)) = some y := by
  obtain ⟨xs, n, _, _, _, hl, hf⟩ := DataW.trod_struct ht h
  have h1 := (Array.getElem?_eq_some_iff.1 hi).1
  exact ⟨n, xs[i]'(by omega), by rw [hf i f hi]; simp⟩
theorem one_int {k : IntKind} {o : Nat} (ht : P.underlying t = some (.int k)) (h : DataW.trod enc P w base spare held fuel t ((cs.drop o).take 1) = some x) : ∃ z, cs[o]? = some (.int k z) := by
  obtain ⟨z, e, _, hw⟩ := DataW.trod_int ht h
  refine ⟨z, ?_⟩
  have : ((cs.drop o).take 1)[0]? = some (.int k z) := by rw [e]; rfl
  simpa using this
end
theorem own : ownKnob Try.prog.godebug = none := by kernel_rfl
theorem laidOut : laidOutB Try.prog = true := by kernel_rfl
theorem same_below {W W' : World} (h : Below W.heap.size W W') {p : MemPlace} (hp : p.block < W.heap.size) : W.sameAt W' p := by
  cases p with
  | cell b off => exact h.cell (p := ⟨b, off, none⟩) hp
  | map b => exact h.block b hp
theorem spot_none {W : World} {a : Addr} {v : Value} (h : W.cell? (a.add 0) = some v) : a.spot = none := by
  obtain ⟨b, off, spot⟩ := a
  cases spot with
  | none => rfl
  | some s =>
    unfold World.cell? at h
    simp only [Addr.add, if_true] at h
    split at h
    · simp at h
    · cases h
def valD (q : Dd) : List Value := [.int .i64 q.1, .int .i64 q.2.1, .int .i64 q.2.2]
theorem deed_of {H : Type} {enc : TypeId × Value → H} {W : World} {base fuel : Nat} {spare : Nat → Bool} {held : Bool} {cs : List Value} {x : DataW H × List MemPlace} (h : DataW.trod enc Try.prog W base spare held fuel 68 cs = some x) : ∃ q : Dd, cs = valD q := by
  have hlen : cs.length = 3 := by
    obtain ⟨_, _, _, _, hl, _⟩ := DataW.trod_struct Try.underlying68 h
    rw [hl]; kernel_rfl
  have c3' : Try.prog.cellsOf 3 = 1 := by kernel_rfl
  obtain ⟨n0, g0, k0⟩ := fieldOf Try.underlying68 h (i := 0) rfl
  obtain ⟨n1, g1, k1⟩ := fieldOf Try.underlying68 h (i := 1) rfl
  obtain ⟨n2, g2, k2⟩ := fieldOf Try.underlying68 h (i := 2) rfl
  replace k0 : DataW.trod enc Try.prog W base spare held n0 3 ((cs.drop 0).take (Try.prog.cellsOf 3)) = some g0 := k0
  replace k1 : DataW.trod enc Try.prog W base spare held n1 3 ((cs.drop 1).take (Try.prog.cellsOf 3)) = some g1 := k1
  replace k2 : DataW.trod enc Try.prog W base spare held n2 3 ((cs.drop 2).take (Try.prog.cellsOf 3)) = some g2 := k2
  rw [c3'] at k0 k1 k2
  obtain ⟨k, e0⟩ := one_int Try.underlying3 k0
  obtain ⟨n, e1⟩ := one_int Try.underlying3 k1
  obtain ⟨b, e2⟩ := one_int Try.underlying3 k2
  refine ⟨⟨k, n, b⟩, ?_⟩
  match cs, hlen with
  | [x0, x1, x2], _ =>
    simp at e0 e1 e2
    rw [e0, e1, e2]; rfl
theorem eg62 : sliceT EG 62 = some 3 := by kernel_rfl
structure DArg (W : World) (l : List Dd) (v : Value) (vl : AV) (o : AO) (r : Option (Nat × Nat × List AV)) : Prop where
  at_ : ArgAt EG W 62 3 0 l.length v (l.flatMap encD) vl o r
  sl : SlArg EG 62 3 0 l.length vl o (l.flatMap encD)
  came : Came o
theorem encD_refs {l : List Dd} : ∀ c, c ∈ l.flatMap encD → refsV 0 c := fun c hc => by
  obtain ⟨x, _, hx⟩ := List.mem_flatMap.1 hc
  simp only [encD, List.mem_cons, List.not_mem_nil, or_false] at hx
  rcases hx with rfl | rfl | rfl <;> simp [refsV]
theorem arg_deeds {W : World} {a : Addr} {len cap : Nat} (hl : len ≤ cap) {q : Nat → Dd} (hi : ∀ i, i < len → ∀ (k : Nat) x, (valD (q i))[k]? = some x → W.cell? (a.add (i * 3 + k)) = some x) :
    ∃ (l : List Dd) (vl : AV) (o : AO) (r : Option (Nat × Nat × List AV)), DArg W l (.slice (some a) len cap) vl o r := by
  by_cases h0 : len = 0
  · subst h0
    exact ⟨[], _, _, _, ArgAt.mk_zero eg62, SlArg.zero eg62, .inl rfl⟩
  · have hsp := spot_none (show W.cell? (a.add 0) = some (.int .i64 (q 0).1) from hi 0 (by omega) 0 _ rfl)
    obtain ⟨b, off, spot⟩ := a
    simp only at hsp
    subst hsp
    have hlen : ((List.range len).map q).length = len := by simp
    refine ⟨(List.range len).map q, .slice (some (0, 0)) len (.atl len), .cells (((List.range len).map q).flatMap encD) false, some (b, off, ((List.range len).map q).flatMap encD), ?_, ?_, .inr ⟨_, false, rfl, encD_refs⟩⟩
    · rw [hlen]
      have := ArgAt.mk_row (E := EG) (W := W) (t := 62) (z := 3) (i := 0) (n := len) (b := b) (off := off) (cap := cap) (cs := ((List.range len).map q).flatMap encD) eg62
        (by intro e; have := congrArg List.length e; rw [fm_len encD_len, hlen] at this; simp at this; omega) hl (fun k v hk => ?_)
      · exact this
      · have hk4 : k < len * 3 := by
          have := (List.getElem?_eq_some_iff.1 hk).1
          rw [fm_len encD_len, hlen] at this; exact this
        have hd : k / 3 < len := by omega
        have hp : ((List.range len).map q)[k / 3]? = some (q (k / 3)) := by simp [hd]
        have hr : k % 3 < (encD (q (k / 3))).length := by rw [encD_len]; exact Nat.mod_lt _ (by decide)
        have hv := fm_get (enc := encD) encD_len hp (List.getElem?_eq_getElem hr)
        rw [show k / 3 * 3 + k % 3 = k by omega] at hv
        have hkv : (encD (q (k / 3)))[k % 3]? = some v := by
          rw [List.getElem?_eq_getElem hr]
          exact hv.symm.trans hk
        have at_ : ∀ n x, k % 3 = n → (valD (q (k / 3)))[n]? = some x → W.cell? ⟨b, off + k, none⟩ = some x := fun n x hn hx => by
          have := hi (k / 3) hd n x hx
          rw [add_none] at this
          rw [show off + k = off + (k / 3 * 3 + n) by omega]
          exact this
        have hlt : k % 3 < 3 := Nat.mod_lt _ (by decide)
        have h4 : k % 3 = 0 ∨ k % 3 = 1 ∨ k % 3 = 2 := by omega
        rcases h4 with h4 | h4 | h4 <;> rw [h4] at hkv <;> (simp [encD] at hkv; subst hkv)
        · exact ⟨rfl, _, at_ 0 _ h4 rfl, fun ι => .int _ _⟩
        · exact ⟨rfl, _, at_ 1 _ h4 rfl, fun ι => .int _ _⟩
        · exact ⟨rfl, _, at_ 2 _ h4 rfl, fun ι => .int _ _⟩
    · rw [hlen]
      exact SlArg.row eg62
theorem pick_lt {α : Type} [Inhabited α] {n : Nat} {p : Nat → α → Prop} (h : ∀ i, i < n → ∃ q, p i q) : ∃ q : Nat → α, ∀ i, i < n → p i (q i) := by
  classical
  refine ⟨fun i => if hi : i < n then Classical.choose (h i hi) else default, fun i hi => ?_⟩
  simp only [hi, dif_pos]
  exact Classical.choose_spec (h i hi)
theorem deeds_arg {H : Type} {enc : TypeId × Value → H} {W : World} {fuel : Nat} {spare : Nat → Bool} {held : Bool} {v : Value} {x : DataW H × List MemPlace} (h : DataW.trod enc Try.prog W 0 spare held fuel 62 [v] = some x) :
    ∃ (l : List Dd) (vl : AV) (o : AO) (r : Option (Nat × Nat × List AV)), DArg W l v vl o r := by
  rcases open_slice Try.underlying62 h with ⟨hcs, _⟩ | ⟨a, len, cap, m, n, D, Pl, hcs, _, hl, _, hmm, _, hx⟩
  · simp at hcs
    subst hcs
    exact ⟨[], _, _, _, ArgAt.mk_nil eg62, SlArg.none eg62, .inl rfl⟩
  · simp at hcs
    subst hcs
    have hlm : len ≤ m := by rw [hmm]; split <;> omega
    have c68 : Try.prog.cellsOf 68 = 3 := by kernel_rfl
    have each : ∀ i, i < len → ∃ q : Dd, ∀ (k : Nat) x, (valD q)[k]? = some x → W.cell? (a.add (i * 3 + k)) = some x := fun i hi => by
      obtain ⟨cs', h1, h2⟩ := hx i (by omega)
      rw [c68] at h1
      obtain ⟨_, hlen, hcell⟩ := World.cells?_some h1
      obtain ⟨q, hq⟩ := deed_of h2
      refine ⟨q, fun k y hy => ?_⟩
      have hk : k < 3 := by
        have := (List.getElem?_eq_some_iff.1 hy).1
        simpa [valD] using this
      have e := hcell k (by omega)
      rw [add_add] at e
      rw [e, hq]
      exact hy
    haveI : Inhabited Dd := ⟨⟨0, 0, 0⟩⟩
    obtain ⟨q, hq⟩ := pick_lt each
    exact arg_deeds hl hq
def row0 (r : Option (Nat × Nat × List AV)) : Nat → Option (Nat × Nat × List AV)
  | 0 => r
  | _ => none
theorem walk {W : World} {v0 : Value} {l : List Dd} {u0 : AV} {o0 : AO} {r0 : Option (Nat × Nat × List AV)} (A0 : DArg W l v0 u0 o0 r0) :
    Calls Try.prog 7 #[v0] W fun e w' => e = .returned (.bool true) ∧ Below W.heap.size W w' := by
  have hgl : GlobOK W := by intro _ _ h; cases h
  have hrow : ∀ i r, row0 r0 i = some r → r.2.2 ≠ [] ∧ RowAt W r.1 r.2.1 r.2.2 := fun i r h => by
    match i, h with
    | 0, h => exact A0.at_.row r h
  have hsr := rowsO_ok hgl (n := 1) (rows := row0 r0) hrow (st := S0 o0) rfl (fun i a hi => by
    obtain ⟨rfl, rfl⟩ := get1' hi
    exact ⟨by omega, A0.at_.obj⟩)
  have w0 : VR (rowsRen W 1 (row0 r0)) u0 v0 := A0.at_.vr _ fun q hq => rowsRen_at (i := 0) (by omega) hq (A0.at_.row q hq).1 (A0.at_.row q hq).2
  have hv : VRs (rowsRen W 1 (row0 r0)) [u0] #[v0] := ⟨rfl, fun i x x' hx hx' => by
    match i with
    | 0 => simp at hx hx'; subst hx; subst hx'; exact w0
    | i + 1 => simp at hx⟩
  have hfr : ({ m := putArgs [u0] 0 .e, n := Try.f7.ntmps, defs := [] } : AFr) = F7 u0 := by kernel_rfl
  refine law_calls EGok (fn := Try.f7) (by kernel_rfl) (c := c7) (by kernel_rfl) (by kernel_rfl) (fun _ h => h) (fun k hk => .inr hk) hsr hv ?_
  rw [hfr]
  exact law A0.sl A0.came (A0.at_.kept 1 (by omega))
set_option maxRecDepth 100000 in
theorem lifted (os : Os) (started : os.Started) (H : Type) (enc : TypeId × Value → H) :
    ReturnsInHanded {} Try.checked os 7 .any (Rows.ghostLinesSpec.pre6 enc Try.prog Try.f7 Rows.ghostLinesRow.domain false) (Rows.ghostLinesSpec.post enc Try.prog Try.f7 false true false false) := by
  refine returnsInHanded_of_change (C := Try.checked) own started (by kernel_rfl) Try.func7
    (ChangeSpec.witness6 (enc := enc) (C := Try.checked) false ⟨#[], #[.slice none 0 0], []⟩ 8 (by kernel_rfl) (by kernel_rfl) (by kernel_rfl) (by kernel_rfl)) ?_
  intro W base args ds gs before hval0 hW hcnd _
  have hval : ∀ (j : Nat) t v, Try.f7.params[j]? = some t → args[j]? = some v → Value.okWide Try.prog W .any base t v := hval0
  have hW' := hW
  obtain ⟨p, q, hA0, hV, rfl, hfz, hnd⟩ := hW
  have hA : DataW.TrodAll enc Try.prog W 0 (fun _ => true) true Try.f7.params.toList args.toList ds p := hA0
  rw [Try.params7] at hA hval
  obtain ⟨v0, d0, rfl, rfl, h0⟩ := trodAll_one hA
  obtain ⟨rfl, rfl⟩ := trodVars_none hV
  obtain ⟨a0, len, cap, rfl⟩ := okWide_slice Try.underlying62 (hval 0 62 v0 rfl rfl)
  have h0k := h0
  obtain ⟨fu0, hf0⟩ := h0
  clear hA0 hval0
  simp only [List.append_nil] at hW'
  have hlt : ∀ x ∈ p, x.block < W.heap.size := fun x hx => by simpa using hW'.lt x hx
  obtain ⟨l, vl, o0, r0, A0⟩ := deeds_arg hf0
  refine (walk A0).mono fun e W' ⟨he, bel⟩ => ?_
  subst he
  have ARG0 : DataW.Trod enc Try.prog W' 0 (fun x => decide (x < W.heap.size)) true 62 (.slice a0 len cap) d0 p :=
    WideElems.Trod_stays laidOut (by kernel_rfl) (of_decide_eq_true (by kernel_rfl)) h0k (fun x hx => same_below bel (hlt x hx)) (fun x hx => by simpa using hlt x hx)
  exact ⟨_, rfl, _, _, _, [], _, [], hW', trodAll_mk1 (shut_bool Try.underlying4 _), trodAll_mk1 ARG0, rfl, bel.frame _, fun h => by cases h⟩
theorem over : Rows.ghostLinesRow.holds Try.pinned (OpenSpec.ofChange Rows.ghostLinesSpec) :=
  OpenClaim.holds_of_wide 7 Try.f7 rfl rfl rfl rfl rfl rfl rfl ⟨rfl, rfl, rfl, rfl, rfl⟩ rfl rfl rfl rfl rfl (by kernel_rfl) Try.func7 (by kernel_rfl)
    (of_decide_eq_true (by kernel_rfl)) (by unfold Func.isWrapper; first | (rw [if_pos (by decide +kernel)]; kernel_rfl) | (rw [if_neg (by decide +kernel)]; exact ⟨rfl, rfl⟩))
    (fun os started H enc _ => lifted os started H enc)
theorem proved : Rows.GhostLinesSaid := over
end
#print axioms proved
end Go.Proofs.Ytidmijpfoodkoaa.gho.gl
end
